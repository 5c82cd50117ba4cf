import Derived.Test.YtneiaaalbpjgiaaXFnsA
set_option linter.unusedVariables false
namespace Go.Proofs.Ytneiaaalbpjgiaa.Ev
open Go Go.RowKit
/- (*chicane/chicaneref02.M).signed -/
abbrev A87_0 : Type := (Bool × Int) × Bool
abbrev R87_0 : Type := Int × Bool
def v87_0 : Pk G ((Bool × Int) × Bool) := (pk (Sh.snd (Sh.cons (Sh.ptr 0 0) (Sh.cons Sh.bool (Sh.fst (Sh.cons (Sh.int .u64) Sh.nil))))) (Sh.fst (Sh.hfix 0 52 (Sh.fst (Sh.cons Sh.bool Sh.nil)) Sh.hnil)))
def w87_0 : Wk G (Int × Bool) := (Wk.one [.keep] (pk (Sh.fst (Sh.cons (Sh.int .i64) Sh.nil)) (Sh.fst (Sh.hfix 0 52 (Sh.fst (Sh.cons Sh.bool Sh.nil)) Sh.hnil))))
def F87_0 (v : (Bool × Int) × Bool) : Option (Int × Bool) :=
  bif v.1.1 then
    bif (v.1.2 == (9223372036854775808 : Int)) then
      some ((-9223372036854775808 : Int), v.2)
    else
      bif (decide (v.1.2 > (9223372036854775807 : Int))) then
        (F84_0 (v.1.1, v.2)).bind fun r1704 =>
        some (r1704)
      else
        bif v.1.1 then
          let x1705 : Int := (IntKind.wrap .i64 v.1.2)
          let x1706 : Int := (IntKind.wrap .i64 (0 - x1705))
          some (x1706, v.2)
        else
          let x1707 : Int := (IntKind.wrap .i64 v.1.2)
          some (x1707, v.2)
  else
    bif (decide (v.1.2 > (9223372036854775807 : Int))) then
      (F84_0 (v.1.1, v.2)).bind fun r1708 =>
      some (r1708)
    else
      bif v.1.1 then
        let x1709 : Int := (IntKind.wrap .i64 v.1.2)
        let x1710 : Int := (IntKind.wrap .i64 (0 - x1709))
        some (x1710, v.2)
      else
        let x1711 : Int := (IntKind.wrap .i64 v.1.2)
        some (x1711, v.2)

noncomputable def k87_0 : List (Known Try.prog E) := [Known.of envOk [5, 2] [(.ptr 0 0 52 [.keep]), .keep] v84_0 F84_0 w84_0 ok84_0]
noncomputable def L87_0 (n id : Nat) (st : St G) : Option (Int × Bool) := none
set_option maxRecDepth 100000 in
theorem e87_0 (n : Nat) (v : (Bool × Int) × Bool) : ev Try.prog E (oracle k87_0) Try.f87.ntmps (fun x => mem x []) (L87_0 n) (finF Try.prog E Try.f87.results.toList [[(.ptr 0 0 52 [.keep])]] w87_0.alts) 4000 [.code (Try.f87.body.getD .skip)] (argSt (v87_0.enc v)) = F87_0 v := by kernel_rfl
theorem ok87_0 : FnOk Try.prog E 87 v87_0.enc F87_0 w87_0.enc :=
  fn_known (fn := Try.f87) (c := (Try.f87.body.getD .skip)) Try.func87 (by kernel_rfl) rfl envOk (oracle_ok k87_0) mixed v87_0 F87_0 w87_0 [(.ptr 0 0 52 [.keep])] [[(.ptr 0 0 52 [.keep])]] (by kernel_rfl) [] 4000 L87_0 (by kernel_rfl)
    (fun _ h => nomatch h) (fun v _ h => ⟨0, (e87_0 _ v).trans h⟩) (fun _ => by kernel_rfl) (fun _ => by kernel_rfl) (fun _ _ => by kernel_rfl)
/- (*chicane/chicaneref02.M).Div -/
abbrev A55_0 : Type := (Int × Int) × Bool
abbrev R55_0 : Type := Int × Bool
def v55_0 : Pk G ((Int × Int) × Bool) := (pk (Sh.snd (Sh.cons (Sh.ptr 0 0) (Sh.cons (Sh.int .i64) (Sh.fst (Sh.cons (Sh.int .i64) Sh.nil))))) (Sh.fst (Sh.hfix 0 52 (Sh.fst (Sh.cons Sh.bool Sh.nil)) Sh.hnil)))
def w55_0 : Wk G (Int × Bool) := (Wk.one [.keep] (pk (Sh.fst (Sh.cons (Sh.int .i64) Sh.nil)) (Sh.fst (Sh.hfix 0 52 (Sh.fst (Sh.cons Sh.bool Sh.nil)) Sh.hnil))))
def F55_0 (v : (Int × Int) × Bool) : Option (Int × Bool) :=
  bif (v.1.2 == (0 : Int)) then
    bif (v.1.1 == (0 : Int)) then
      some ((0 : Int), true)
    else
      (F84_0 ((decide (v.1.1 < (0 : Int))), true)).bind fun r1719 =>
      some (r1719)
  else
    (F86_0 v.1.1).bind fun r1720 =>
    (F86_0 v.1.2).bind fun r1721 =>
    (F85_0 (r1720, r1721)).bind fun r1722 =>
    bif (!r1722.2) then
      (F84_0 ((!((decide (v.1.1 < (0 : Int))) == (decide (v.1.2 < (0 : Int))))), v.2)).bind fun r1723 =>
      some (r1723)
    else
      (F87_0 (((!((decide (v.1.1 < (0 : Int))) == (decide (v.1.2 < (0 : Int))))), r1722.1), v.2)).bind fun r1724 =>
      some (r1724)

noncomputable def k55_0 : List (Known Try.prog E) := [Known.of envOk [5, 2] [(.ptr 0 0 52 [.keep]), .keep] v84_0 F84_0 w84_0 ok84_0, Known.of envOk [1] [.keep] v86_0 F86_0 w86_0 ok86_0, Known.of envOk [1, 1] [.keep, .keep] v85_0 F85_0 w85_0 ok85_0, Known.of envOk [5, 2, 1] [(.ptr 0 0 52 [.keep]), .keep, .keep] v87_0 F87_0 w87_0 ok87_0]
noncomputable def L55_0 (n id : Nat) (st : St G) : Option (Int × Bool) := none
set_option maxRecDepth 100000 in
theorem e55_0 (n : Nat) (v : (Int × Int) × Bool) : ev Try.prog E (oracle k55_0) Try.f55.ntmps (fun x => mem x []) (L55_0 n) (finF Try.prog E Try.f55.results.toList [[(.ptr 0 0 52 [.keep])]] w55_0.alts) 4000 [.code (Try.f55.body.getD .skip)] (argSt (v55_0.enc v)) = F55_0 v := by kernel_rfl
theorem ok55_0 : FnOk Try.prog E 55 v55_0.enc F55_0 w55_0.enc :=
  fn_known (fn := Try.f55) (c := (Try.f55.body.getD .skip)) Try.func55 (by kernel_rfl) rfl envOk (oracle_ok k55_0) mixed v55_0 F55_0 w55_0 [(.ptr 0 0 52 [.keep])] [[(.ptr 0 0 52 [.keep])]] (by kernel_rfl) [] 4000 L55_0 (by kernel_rfl)
    (fun _ h => nomatch h) (fun v _ h => ⟨0, (e55_0 _ v).trans h⟩) (fun _ => by kernel_rfl) (fun _ => by kernel_rfl) (fun _ _ => by kernel_rfl)
/- chicane/chicaneref12.Slopes -/
abbrev A20_0 : Type := ((Int × Int × Int × Int × Int × Int × List Int × List Int × (List (Int × Int × Bool)) × (List (Int × Int)) × (List (List (Int × Int))) × (List (Int × Int × Int × Int × Bool)) × Int × Int × Int × Int) × Int × Int × Bool) × Bool
abbrev R20_0 : Type := (Int × Int) × Bool
def v20_0 : Pk G (((Int × Int × Int × Int × Int × Int × List Int × List Int × (List (Int × Int × Bool)) × (List (Int × Int)) × (List (List (Int × Int))) × (List (Int × Int × Int × Int × Bool)) × Int × Int × Int × Int) × Int × Int × Bool) × Bool) := (pk (Sh.snd (Sh.cons (Sh.ptr 0 0) (Sh.cons (Sh.agg (Sh.cons (Sh.int .i64) (Sh.cons (Sh.int .i64) (Sh.cons (Sh.int .i64) (Sh.cons (Sh.int .i64) (Sh.cons (Sh.int .i64) (Sh.cons (Sh.int .i64) (Sh.cons (Sh.ros 22) (Sh.cons (Sh.ros 3) (Sh.cons (Sh.ros 86) (Sh.cons (Sh.ros 24) (Sh.cons (Sh.ros 28) (Sh.cons (Sh.ros 196) (Sh.cons (Sh.int .i64) (Sh.cons (Sh.int .i64) (Sh.cons (Sh.int .u32) (Sh.fst (Sh.cons (Sh.int .i64) Sh.nil)))))))))))))))))) (Sh.cons (Sh.int .i64) (Sh.cons (Sh.int .i64) (Sh.fst (Sh.cons Sh.bool Sh.nil))))))) (Sh.fst (Sh.hfix 0 52 (Sh.fst (Sh.cons Sh.bool Sh.nil)) Sh.hnil)))
def w20_0 : Wk G ((Int × Int) × Bool) := (Wk.one [.keep, .keep] (pk (Sh.cons (Sh.int .i64) (Sh.fst (Sh.cons (Sh.int .i64) Sh.nil))) (Sh.fst (Sh.hfix 0 52 (Sh.fst (Sh.cons Sh.bool Sh.nil)) Sh.hnil))))
def F20_0 (v : ((Int × Int × Int × Int × Int × Int × List Int × List Int × (List (Int × Int × Bool)) × (List (Int × Int)) × (List (List (Int × Int))) × (List (Int × Int × Int × Int × Bool)) × Int × Int × Int × Int) × Int × Int × Bool) × Bool) : Option ((Int × Int) × Bool) :=
  bif (decide (v.1.2.1 < (0 : Int))) then
    some (((0 : Int), (0 : Int)), v.2)
  else
    bif (decide (v.1.2.1 ≥ v.1.1.2.2.1)) then
      some (((0 : Int), (0 : Int)), v.2)
    else
      bif (decide (v.1.2.2.1 < (0 : Int))) then
        some (((0 : Int), (0 : Int)), v.2)
      else
        bif (decide (v.1.2.2.1 ≥ v.1.1.2.2.2.1)) then
          some (((0 : Int), (0 : Int)), v.2)
        else
          let x1752 : Int := (IntKind.wrap .i64 (v.1.1.2.2.1 + (1 : Int)))
          let x1753 : Int := (IntKind.wrap .i64 (v.1.2.2.1 * x1752))
          let x1754 : Int := (IntKind.wrap .i64 (x1753 + v.1.2.1))
          (rdx v.1.1.2.2.2.2.2.2.1 x1754).bind fun (x1755 : Int) =>
          let x1756 : Int := (IntKind.wrap .i64 (x1754 + (1 : Int)))
          (rdx v.1.1.2.2.2.2.2.2.1 x1756).bind fun (x1757 : Int) =>
          let x1758 : Int := (IntKind.wrap .i64 (x1754 + v.1.1.2.2.1))
          let x1759 : Int := (IntKind.wrap .i64 (x1758 + (1 : Int)))
          (rdx v.1.1.2.2.2.2.2.2.1 x1759).bind fun (x1760 : Int) =>
          let x1761 : Int := (IntKind.wrap .i64 (x1754 + v.1.1.2.2.1))
          let x1762 : Int := (IntKind.wrap .i64 (x1761 + (2 : Int)))
          (rdx v.1.1.2.2.2.2.2.2.1 x1762).bind fun (x1763 : Int) =>
          bif v.1.2.2.2 then
            let x1764 : Int := (IntKind.wrap .i64 (x1763 - x1760))
            (F55_0 ((x1764, v.1.1.2.1), v.2)).bind fun r1765 =>
            let x1766 : Int := (IntKind.wrap .i64 (x1760 - x1755))
            (F55_0 ((x1766, v.1.1.2.1), r1765.2)).bind fun r1767 =>
            some ((r1765.1, r1767.1), r1767.2)
          else
            let x1768 : Int := (IntKind.wrap .i64 (x1757 - x1755))
            (F55_0 ((x1768, v.1.1.2.1), v.2)).bind fun r1769 =>
            let x1770 : Int := (IntKind.wrap .i64 (x1763 - x1757))
            (F55_0 ((x1770, v.1.1.2.1), r1769.2)).bind fun r1771 =>
            some ((r1769.1, r1771.1), r1771.2)

noncomputable def k20_0 : List (Known Try.prog E) := [Known.of envOk [5, 1, 1] [(.ptr 0 0 52 [.keep]), .keep, .keep] v55_0 F55_0 w55_0 ok55_0]
noncomputable def L20_0 (n id : Nat) (st : St G) : Option ((Int × Int) × Bool) := none
set_option maxRecDepth 100000 in
theorem e20_0 (n : Nat) (v : ((Int × Int × Int × Int × Int × Int × List Int × List Int × (List (Int × Int × Bool)) × (List (Int × Int)) × (List (List (Int × Int))) × (List (Int × Int × Int × Int × Bool)) × Int × Int × Int × Int) × Int × Int × Bool) × Bool) : ev Try.prog E (oracle k20_0) Try.f20.ntmps (fun x => mem x []) (L20_0 n) (finF Try.prog E Try.f20.results.toList [[(.ptr 0 0 52 [.keep])]] w20_0.alts) 4000 [.code (Try.f20.body.getD .skip)] (argSt (v20_0.enc v)) = F20_0 v := by kernel_rfl
theorem ok20_0 : FnOk Try.prog E 20 v20_0.enc F20_0 w20_0.enc :=
  fn_known (fn := Try.f20) (c := (Try.f20.body.getD .skip)) Try.func20 (by kernel_rfl) rfl envOk (oracle_ok k20_0) mixed v20_0 F20_0 w20_0 [(.ptr 0 0 52 [.keep])] [[(.ptr 0 0 52 [.keep])]] (by kernel_rfl) [] 4000 L20_0 (by kernel_rfl)
    (fun _ h => nomatch h) (fun v _ h => ⟨0, (e20_0 _ v).trans h⟩) (fun _ => by kernel_rfl) (fun _ => by kernel_rfl) (fun _ _ => by kernel_rfl)
/- chicane/chicanelaw12.FieldWhere -/
abbrev A3_0 : Type := (Int × Int × Int × Int × Int × Int × List Int × List Int × (List (Int × Int × Bool)) × (List (Int × Int)) × (List (List (Int × Int))) × (List (Int × Int × Int × Int × Bool)) × Int × Int × Int × Int) × (Int × Int) × Int × Int
abbrev R3_0 : Type := Bool
def v3_0 : Pk G ((Int × Int × Int × Int × Int × Int × List Int × List Int × (List (Int × Int × Bool)) × (List (Int × Int)) × (List (List (Int × Int))) × (List (Int × Int × Int × Int × Bool)) × Int × Int × Int × Int) × (Int × Int) × Int × Int) := (Pk.fst (pk (Sh.cons (Sh.agg (Sh.cons (Sh.int .i64) (Sh.cons (Sh.int .i64) (Sh.cons (Sh.int .i64) (Sh.cons (Sh.int .i64) (Sh.cons (Sh.int .i64) (Sh.cons (Sh.int .i64) (Sh.cons (Sh.ros 22) (Sh.cons (Sh.ros 3) (Sh.cons (Sh.ros 86) (Sh.cons (Sh.ros 24) (Sh.cons (Sh.ros 28) (Sh.cons (Sh.ros 196) (Sh.cons (Sh.int .i64) (Sh.cons (Sh.int .i64) (Sh.cons (Sh.int .u32) (Sh.fst (Sh.cons (Sh.int .i64) Sh.nil)))))))))))))))))) (Sh.cons (Sh.agg (Sh.cons (Sh.int .i64) (Sh.fst (Sh.cons (Sh.int .i64) Sh.nil)))) (Sh.fst (Sh.cons (Sh.agg (Sh.cons (Sh.int .i64) (Sh.fst (Sh.cons (Sh.int .i64) Sh.nil)))) Sh.nil)))) Sh.hnil))
def w3_0 : Wk G Bool := (Wk.one [.keep] (Pk.fst (pk (Sh.fst (Sh.cons Sh.bool Sh.nil)) Sh.hnil)))
def c3_0_13 : Pk G (Int × Bool × Bool × (Int × Int × Int × Int × Int) × List Int × List Int × (Int × Int) × Int × Int × Int × Int × Int × Int × List Int × List Int × (List (Int × Int × Bool)) × (List (Int × Int)) × (List (List (Int × Int))) × (List (Int × Int × Int × Int × Bool)) × Int × Int × Int × Int) := (pk (Sh.snd (Sh.cons (Sh.ptr 0 0) (Sh.snd (Sh.cons (Sh.ptr 1 0) (Sh.snd (Sh.cons (Sh.ptr 2 0) (Sh.snd (Sh.cons (Sh.ptr 5 0) (Sh.snd (Sh.cons (Sh.ptr 6 0) (Sh.fst (Sh.cons (Sh.int .i64) Sh.nil)))))))))))) (Sh.hfix 6 52 (Sh.fst (Sh.cons Sh.bool Sh.nil)) (Sh.hfix 5 50 (Sh.fst (Sh.cons Sh.bool Sh.nil)) (Sh.hfix 2 91 (Sh.cons (Sh.int .i64) (Sh.cons (Sh.int .i64) (Sh.cons (Sh.int .i64) (Sh.cons (Sh.int .i64) (Sh.fst (Sh.cons (Sh.int .i64) (Sh.snd (Sh.cons (Sh.osl 3) (Sh.snd (Sh.cons (Sh.osl 4) Sh.nil)))))))))) (Sh.hrow 4 3 (Sh.hrow 3 22 (Sh.hfix 1 35 (Sh.cons (Sh.int .i64) (Sh.fst (Sh.cons (Sh.int .i64) Sh.nil))) (Sh.fst (Sh.hfix 0 34 (Sh.cons (Sh.int .i64) (Sh.cons (Sh.int .i64) (Sh.cons (Sh.int .i64) (Sh.cons (Sh.int .i64) (Sh.cons (Sh.int .i64) (Sh.cons (Sh.int .i64) (Sh.cons (Sh.ros 22) (Sh.cons (Sh.ros 3) (Sh.cons (Sh.ros 86) (Sh.cons (Sh.ros 24) (Sh.cons (Sh.ros 28) (Sh.cons (Sh.ros 196) (Sh.cons (Sh.int .i64) (Sh.cons (Sh.int .i64) (Sh.cons (Sh.int .u32) (Sh.fst (Sh.cons (Sh.int .i64) Sh.nil))))))))))))))))) Sh.hnil)))))))))
def B3_0_13 (K : ((Int × Bool × Bool × (Int × Int × Int × Int × Int) × List Int × List Int × (Int × Int) × Int × Int × Int × Int × Int × Int × List Int × List Int × (List (Int × Int × Bool)) × (List (Int × Int)) × (List (List (Int × Int))) × (List (Int × Int × Int × Int × Bool)) × Int × Int × Int × Int) → Option Bool)) (v : Int × Bool × Bool × (Int × Int × Int × Int × Int) × List Int × List Int × (Int × Int) × Int × Int × Int × Int × Int × Int × List Int × List Int × (List (Int × Int × Bool)) × (List (Int × Int)) × (List (List (Int × Int))) × (List (Int × Int × Int × Int × Bool)) × Int × Int × Int × Int) : Option Bool :=
  bif (decide (v.1 < (2 : Int))) then
    (F19_0 ((v.2.2.2.2.2.2.1.1, (v.2.2.2.2.2.2.1.2, (v.1 == (1 : Int)))), (v.2.2.1, (v.2.2.2.1, (v.2.2.2.2.1, v.2.2.2.2.2.1))))).bind fun r1802 =>
    (F20_0 ((v.2.2.2.2.2.2.2, (v.2.2.2.2.2.2.1.1, (v.2.2.2.2.2.2.1.2, (v.1 == (1 : Int))))), v.2.1)).bind fun r1803 =>
    bif (r1802.1.1 != r1803.1.1) then
      some (false)
    else
      bif (r1802.1.2 != r1803.1.2) then
        some (false)
      else
        let x1804 : Int := (IntKind.wrap .i64 (v.1 + (1 : Int)))
        K (x1804, (r1803.2, (r1802.2.1, (r1802.2.2.1, (r1802.2.2.2.2, (r1802.2.2.2.1, v.2.2.2.2.2.2))))))
  else
    bif (v.2.2.1 == v.2.1) then
      (F13_0 ()).bind fun r1805 =>
      some (r1805)
    else
      some (false)

def E3_0 (K : ((Int × Bool × Bool × (Int × Int × Int × Int × Int) × List Int × List Int × (Int × Int) × Int × Int × Int × Int × Int × Int × List Int × List Int × (List (Int × Int × Bool)) × (List (Int × Int)) × (List (List (Int × Int))) × (List (Int × Int × Int × Int × Bool)) × Int × Int × Int × Int) → Option Bool)) (v : (Int × Int × Int × Int × Int × Int × List Int × List Int × (List (Int × Int × Bool)) × (List (Int × Int)) × (List (List (Int × Int))) × (List (Int × Int × Int × Int × Bool)) × Int × Int × Int × Int) × (Int × Int) × Int × Int) : Option Bool :=
  (F11_0 v.1).bind fun r1791 =>
  bif (!r1791) then
    (F13_0 ()).bind fun r1792 =>
    some (r1792)
  else
    (F12_0 v.1).bind fun r1793 =>
    bif (r1793 != (0 : Int)) then
      (F13_0 ()).bind fun r1794 =>
      some (r1794)
    else
      (F14_0 v.1).bind fun r1795 =>
      match r1795 with
      | .inl r1796 =>
        some (false)
      | .inr r1797 =>
        (F15_0 (v.2.1, r1797.2)).bind fun r1798 =>
        (F16_0 (v.1, v.2.1)).bind fun r1799 =>
        bif (r1798.1.1 != r1799.1) then
          some (false)
        else
          bif (r1798.1.2.1 != r1799.2.1) then
            some (false)
          else
            bif (r1798.1.2.2.1 != r1799.2.2.1) then
              some (false)
            else
              bif (r1798.1.2.2.2 != r1799.2.2.2) then
                some (false)
              else
                (F17_0 (v.2.2, (r1798.2.1, (r1798.2.2.2, r1798.2.2.1)))).bind fun r1800 =>
                (F18_0 (v.1, v.2.2)).bind fun r1801 =>
                bif (r1800.1 != r1801) then
                  some (false)
                else
                  K ((0 : Int), (false, (false, (r1800.2.1, (r1800.2.2.2, (r1800.2.2.1, (v.2.2, v.1)))))))

def K3_0 : Nat → ((Int × Bool × Bool × (Int × Int × Int × Int × Int) × List Int × List Int × (Int × Int) × Int × Int × Int × Int × Int × Int × List Int × List Int × (List (Int × Int × Bool)) × (List (Int × Int)) × (List (List (Int × Int))) × (List (Int × Int × Int × Int × Bool)) × Int × Int × Int × Int) → Option Bool)
  | 0 => (fun _ => none)
  | n + 1 => (B3_0_13 (K3_0 n))
def fuel3_0 (v : (Int × Int × Int × Int × Int × Int × List Int × List Int × (List (Int × Int × Bool)) × (List (Int × Int)) × (List (List (Int × Int))) × (List (Int × Int × Int × Int × Bool)) × Int × Int × Int × Int) × (Int × Int) × Int × Int) : Nat := 1000
def F3_0 (v : (Int × Int × Int × Int × Int × Int × List Int × List Int × (List (Int × Int × Bool)) × (List (Int × Int)) × (List (List (Int × Int))) × (List (Int × Int × Int × Int × Bool)) × Int × Int × Int × Int) × (Int × Int) × Int × Int) : Option Bool := E3_0 (K3_0 (fuel3_0 v)) v
noncomputable def k3_0 : List (Known Try.prog E) := [Known.of envOk [9] [(.agg [.keep, .keep, .keep, .keep, .keep, .keep, (.ros 22), (.ros 3), (.ros 86), (.ros 24), (.ros 28), (.ros 196), .keep, .keep, .keep, .keep])] v11_0 F11_0 w11_0 ok11_0, Known.of envOk [] [] v13_0 F13_0 w13_0 ok13_0, Known.of envOk [9] [(.agg [.keep, .keep, .keep, .keep, .keep, .keep, (.ros 22), (.ros 3), (.ros 86), (.ros 24), (.ros 28), (.ros 196), .keep, .keep, .keep, .keep])] v12_0 F12_0 w12_0 ok12_0, Known.of envOk [9] [(.agg [.keep, .keep, .keep, .keep, .keep, .keep, (.ros 22), (.ros 3), (.ros 86), (.ros 24), (.ros 28), (.ros 196), .keep, .keep, .keep, .keep])] v14_0 F14_0 w14_0 ok14_0, Known.of envOk [5, 1, 1] [(.ptr 0 0 91 [.keep, .keep, .keep, .keep, .keep, (.own 1 22), (.own 2 3)]), .keep, .keep] v15_0 F15_0 w15_0 ok15_0, Known.of envOk [9, 1, 1] [(.agg [.keep, .keep, .keep, .keep, .keep, .keep, (.ros 22), (.ros 3), (.ros 86), (.ros 24), (.ros 28), (.ros 196), .keep, .keep, .keep, .keep]), .keep, .keep] v16_0 F16_0 w16_0 ok16_0, Known.of envOk [5, 1, 1] [(.ptr 0 0 91 [.keep, .keep, .keep, .keep, .keep, (.own 1 22), (.own 2 3)]), .keep, .keep] v17_0 F17_0 w17_0 ok17_0, Known.of envOk [9, 1, 1] [(.agg [.keep, .keep, .keep, .keep, .keep, .keep, (.ros 22), (.ros 3), (.ros 86), (.ros 24), (.ros 28), (.ros 196), .keep, .keep, .keep, .keep]), .keep, .keep] v18_0 F18_0 w18_0 ok18_0, Known.of envOk [5, 5, 1, 1, 2] [(.ptr 0 0 91 [.keep, .keep, .keep, .keep, .keep, (.own 1 22), (.own 2 3)]), (.ptr 3 0 50 [.keep]), .keep, .keep, .keep] v19_0 F19_0 w19_0 ok19_0, Known.of envOk [5, 9, 1, 1, 2] [(.ptr 0 0 52 [.keep]), (.agg [.keep, .keep, .keep, .keep, .keep, .keep, (.ros 22), (.ros 3), (.ros 86), (.ros 24), (.ros 28), (.ros 196), .keep, .keep, .keep, .keep]), .keep, .keep, .keep] v20_0 F20_0 w20_0 ok20_0]
def s3_0_13 : List (Nat × Pat) := [(3, (.ptr 0 0 34 [.keep, .keep, .keep, .keep, .keep, .keep, (.ros 22), (.ros 3), (.ros 86), (.ros 24), (.ros 28), (.ros 196), .keep, .keep, .keep, .keep])), (5, (.ptr 1 0 35 [.keep, .keep])), (7, (.ptr 2 0 91 [.keep, .keep, .keep, .keep, .keep, (.own 3 22), (.own 4 3)])), (17, (.ptr 5 0 50 [.keep])), (18, (.ptr 6 0 52 [.keep])), (19, .keep)]
noncomputable def L3_0 (n id : Nat) (st : St G) : Option Bool := match Nat.beq id 13 with | true => cutK Try.prog s3_0_13 [] c3_0_13.dec (K3_0 n) st | false => none
set_option maxRecDepth 100000 in
theorem e3_0 (n : Nat) (v : (Int × Int × Int × Int × Int × Int × List Int × List Int × (List (Int × Int × Bool)) × (List (Int × Int)) × (List (List (Int × Int))) × (List (Int × Int × Int × Int × Bool)) × Int × Int × Int × Int) × (Int × Int) × Int × Int) : ev Try.prog E (oracle k3_0) Try.f3.ntmps (fun x => mem x [13]) (L3_0 n) (finF Try.prog E Try.f3.results.toList [[]] w3_0.alts) 4000 [.code (Try.f3.body.getD .skip)] (argSt (v3_0.enc v)) = E3_0 (K3_0 n) v := by kernel_rfl
set_option maxRecDepth 100000 in
theorem b3_0_13 (n : Nat) (v : Int × Bool × Bool × (Int × Int × Int × Int × Int) × List Int × List Int × (Int × Int) × Int × Int × Int × Int × Int × Int × List Int × List Int × (List (Int × Int × Bool)) × (List (Int × Int)) × (List (List (Int × Int))) × (List (Int × Int × Int × Int × Bool)) × Int × Int × Int × Int) : evCut Try.prog E (oracle k3_0) false 3 Try.f3.ntmps (fun x => mem x [13]) (L3_0 n) (finF Try.prog E Try.f3.results.toList [[]] w3_0.alts) 4000 (todoAt (Try.f3.body.getD .skip) 13) (cutSt s3_0_13 (c3_0_13.enc v)) = B3_0_13 (K3_0 n) v := by kernel_rfl
theorem ok3_0 : FnOk Try.prog E 3 v3_0.enc F3_0 w3_0.enc :=
  fn_known (fn := Try.f3) (c := (Try.f3.body.getD .skip)) Try.func3 (by kernel_rfl) rfl envOk (oracle_ok k3_0) mixed v3_0 F3_0 w3_0 [] [[]] (by kernel_rfl) [13] 4000 L3_0 (by kernel_rfl)
    (List.forall_mem_cons.2 ⟨⟨_, [], s3_0_13, c3_0_13.dec, c3_0_13.enc, fun n => (K3_0 n), c3_0_13.ok, fun _ _ => rfl, fun _ => rfl, by kernel_rfl, fun n v _ h => (b3_0_13 n v).trans h⟩, fun _ h => (nomatch h)⟩) (fun v _ h => ⟨fuel3_0 v, (e3_0 _ v).trans h⟩) (fun _ => by kernel_rfl) (fun _ => by kernel_rfl) (fun _ _ => by kernel_rfl)
/- (*chicane/chicaneref02.M).Mul -/
abbrev A58_0 : Type := (Int × Int) × Bool
abbrev R58_0 : Type := Int × Bool
def v58_0 : Pk G ((Int × Int) × Bool) := (pk (Sh.snd (Sh.cons (Sh.ptr 0 0) (Sh.cons (Sh.int .i64) (Sh.fst (Sh.cons (Sh.int .i64) Sh.nil))))) (Sh.fst (Sh.hfix 0 52 (Sh.fst (Sh.cons Sh.bool Sh.nil)) Sh.hnil)))
def w58_0 : Wk G (Int × Bool) := (Wk.one [.keep] (pk (Sh.fst (Sh.cons (Sh.int .i64) Sh.nil)) (Sh.fst (Sh.hfix 0 52 (Sh.fst (Sh.cons Sh.bool Sh.nil)) Sh.hnil))))
def F58_0 (v : (Int × Int) × Bool) : Option (Int × Bool) :=
  (F86_0 v.1.1).bind fun r1925 =>
  (F86_0 v.1.2).bind fun r1926 =>
  let x1927 : Int := (IntKind.wrap .u64 (Int.tdiv r1925 (4294967296 : Int)))
  let x1928 : Int := (Int.tmod r1925 (4294967296 : Int))
  let x1929 : Int := (IntKind.wrap .u64 (Int.tdiv r1926 (4294967296 : Int)))
  let x1930 : Int := (Int.tmod r1926 (4294967296 : Int))
  let x1931 : Int := (IntKind.wrap .u64 (x1928 * x1930))
  let x1932 : Int := (Int.tmod x1931 (4294967296 : Int))
  let x1933 : Int := (IntKind.wrap .u64 (x1927 * x1929))
  bif (decide (x1933 ≥ (4294967296 : Int))) then
    (F84_0 ((!((decide (v.1.1 < (0 : Int))) == (decide (v.1.2 < (0 : Int))))), v.2)).bind fun r1934 =>
    some (r1934)
  else
    let x1935 : Int := (IntKind.wrap .u64 (x1927 * x1929))
    let x1936 : Int := (IntKind.wrap .u64 (x1935 * (4294967296 : Int)))
    let x1937 : Int := (IntKind.wrap .u64 (x1927 * x1930))
    let x1941 : Int := (IntKind.wrap .u64 (x1936 + x1937))
    bif (decide (x1941 < x1936)) then
      (F84_0 ((!((decide (v.1.1 < (0 : Int))) == (decide (v.1.2 < (0 : Int))))), v.2)).bind fun r1942 =>
      some (r1942)
    else
      let x1943 : Int := (IntKind.wrap .u64 (x1936 + x1937))
      let x1945 : Int := (IntKind.wrap .u64 (x1928 * x1929))
      let x1948 : Int := (IntKind.wrap .u64 (x1943 + x1945))
      bif (decide (x1948 < x1943)) then
        (F84_0 ((!((decide (v.1.1 < (0 : Int))) == (decide (v.1.2 < (0 : Int))))), v.2)).bind fun r1949 =>
        some (r1949)
      else
        let x1950 : Int := (IntKind.wrap .u64 (x1943 + x1945))
        let x1953 : Int := (IntKind.wrap .u64 (x1928 * x1930))
        let x1954 : Int := (IntKind.wrap .u64 (Int.tdiv x1953 (4294967296 : Int)))
        let x1955 : Int := (IntKind.wrap .u64 (x1950 + x1954))
        bif (decide (x1955 < x1950)) then
          (F84_0 ((!((decide (v.1.1 < (0 : Int))) == (decide (v.1.2 < (0 : Int))))), v.2)).bind fun r1956 =>
          some (r1956)
        else
          let x1957 : Int := (IntKind.wrap .u64 (x1950 + x1954))
          bif (decide (x1932 > (2147483648 : Int))) then
            let x1962 : Int := (IntKind.wrap .u64 (x1957 + (1 : Int)))
            bif (decide (x1962 < x1957)) then
              (F84_0 ((!((decide (v.1.1 < (0 : Int))) == (decide (v.1.2 < (0 : Int))))), v.2)).bind fun r1963 =>
              some (r1963)
            else
              let x1964 : Int := (IntKind.wrap .u64 (x1957 + (1 : Int)))
              (F87_0 (((!((decide (v.1.1 < (0 : Int))) == (decide (v.1.2 < (0 : Int))))), x1964), v.2)).bind fun r1965 =>
              some (r1965)
          else
            bif (x1932 == (2147483648 : Int)) then
              let x1966 : Int := (Int.tmod x1957 (2 : Int))
              bif (x1966 == (1 : Int)) then
                let x1967 : Int := (IntKind.wrap .u64 (x1957 + (1 : Int)))
                bif (decide (x1967 < x1957)) then
                  (F84_0 ((!((decide (v.1.1 < (0 : Int))) == (decide (v.1.2 < (0 : Int))))), v.2)).bind fun r1968 =>
                  some (r1968)
                else
                  let x1969 : Int := (IntKind.wrap .u64 (x1957 + (1 : Int)))
                  (F87_0 (((!((decide (v.1.1 < (0 : Int))) == (decide (v.1.2 < (0 : Int))))), x1969), v.2)).bind fun r1970 =>
                  some (r1970)
              else
                let x1971 : Int := (IntKind.wrap .u64 (x1957 + (0 : Int)))
                bif (decide (x1971 < x1957)) then
                  (F84_0 ((!((decide (v.1.1 < (0 : Int))) == (decide (v.1.2 < (0 : Int))))), v.2)).bind fun r1972 =>
                  some (r1972)
                else
                  let x1973 : Int := (IntKind.wrap .u64 (x1957 + (0 : Int)))
                  (F87_0 (((!((decide (v.1.1 < (0 : Int))) == (decide (v.1.2 < (0 : Int))))), x1973), v.2)).bind fun r1974 =>
                  some (r1974)
            else
              let x1975 : Int := (IntKind.wrap .u64 (x1957 + (0 : Int)))
              bif (decide (x1975 < x1957)) then
                (F84_0 ((!((decide (v.1.1 < (0 : Int))) == (decide (v.1.2 < (0 : Int))))), v.2)).bind fun r1976 =>
                some (r1976)
              else
                let x1977 : Int := (IntKind.wrap .u64 (x1957 + (0 : Int)))
                (F87_0 (((!((decide (v.1.1 < (0 : Int))) == (decide (v.1.2 < (0 : Int))))), x1977), v.2)).bind fun r1978 =>
                some (r1978)

noncomputable def k58_0 : List (Known Try.prog E) := [Known.of envOk [1] [.keep] v86_0 F86_0 w86_0 ok86_0, Known.of envOk [5, 2] [(.ptr 0 0 52 [.keep]), .keep] v84_0 F84_0 w84_0 ok84_0, Known.of envOk [5, 2, 1] [(.ptr 0 0 52 [.keep]), .keep, .keep] v87_0 F87_0 w87_0 ok87_0]
noncomputable def L58_0 (n id : Nat) (st : St G) : Option (Int × Bool) := none
set_option maxRecDepth 100000 in
theorem e58_0 (n : Nat) (v : (Int × Int) × Bool) : ev Try.prog E (oracle k58_0) Try.f58.ntmps (fun x => mem x []) (L58_0 n) (finF Try.prog E Try.f58.results.toList [[(.ptr 0 0 52 [.keep])]] w58_0.alts) 4000 [.code (Try.f58.body.getD .skip)] (argSt (v58_0.enc v)) = F58_0 v := by kernel_rfl
theorem ok58_0 : FnOk Try.prog E 58 v58_0.enc F58_0 w58_0.enc :=
  fn_known (fn := Try.f58) (c := (Try.f58.body.getD .skip)) Try.func58 (by kernel_rfl) rfl envOk (oracle_ok k58_0) mixed v58_0 F58_0 w58_0 [(.ptr 0 0 52 [.keep])] [[(.ptr 0 0 52 [.keep])]] (by kernel_rfl) [] 4000 L58_0 (by kernel_rfl)
    (fun _ h => nomatch h) (fun v _ h => ⟨0, (e58_0 _ v).trans h⟩) (fun _ => by kernel_rfl) (fun _ => by kernel_rfl) (fun _ _ => by kernel_rfl)
/- (*chicane/chicaneref02.M).Add -/
abbrev A57_0 : Type := (Int × Int) × Bool
abbrev R57_0 : Type := Int × Bool
def v57_0 : Pk G ((Int × Int) × Bool) := (pk (Sh.snd (Sh.cons (Sh.ptr 0 0) (Sh.cons (Sh.int .i64) (Sh.fst (Sh.cons (Sh.int .i64) Sh.nil))))) (Sh.fst (Sh.hfix 0 52 (Sh.fst (Sh.cons Sh.bool Sh.nil)) Sh.hnil)))
def w57_0 : Wk G (Int × Bool) := (Wk.one [.keep] (pk (Sh.fst (Sh.cons (Sh.int .i64) Sh.nil)) (Sh.fst (Sh.hfix 0 52 (Sh.fst (Sh.cons Sh.bool Sh.nil)) Sh.hnil))))
def F57_0 (v : (Int × Int) × Bool) : Option (Int × Bool) :=
  bif (decide (v.1.2 > (0 : Int))) then
    let x2000 : Int := (IntKind.wrap .i64 ((9223372036854775807 : Int) - v.1.2))
    bif (decide (v.1.1 > x2000)) then
      (F84_0 (false, v.2)).bind fun r2001 =>
      some (r2001)
    else
      bif (decide (v.1.2 < (0 : Int))) then
        let x2002 : Int := (IntKind.wrap .i64 ((-9223372036854775808 : Int) - v.1.2))
        bif (decide (v.1.1 < x2002)) then
          (F84_0 (true, v.2)).bind fun r2003 =>
          some (r2003)
        else
          let x2004 : Int := (IntKind.wrap .i64 (v.1.1 + v.1.2))
          some (x2004, v.2)
      else
        let x2005 : Int := (IntKind.wrap .i64 (v.1.1 + v.1.2))
        some (x2005, v.2)
  else
    bif (decide (v.1.2 < (0 : Int))) then
      let x2006 : Int := (IntKind.wrap .i64 ((-9223372036854775808 : Int) - v.1.2))
      bif (decide (v.1.1 < x2006)) then
        (F84_0 (true, v.2)).bind fun r2007 =>
        some (r2007)
      else
        let x2008 : Int := (IntKind.wrap .i64 (v.1.1 + v.1.2))
        some (x2008, v.2)
    else
      let x2009 : Int := (IntKind.wrap .i64 (v.1.1 + v.1.2))
      some (x2009, v.2)

noncomputable def k57_0 : List (Known Try.prog E) := [Known.of envOk [5, 2] [(.ptr 0 0 52 [.keep]), .keep] v84_0 F84_0 w84_0 ok84_0]
noncomputable def L57_0 (n id : Nat) (st : St G) : Option (Int × Bool) := none
set_option maxRecDepth 100000 in
theorem e57_0 (n : Nat) (v : (Int × Int) × Bool) : ev Try.prog E (oracle k57_0) Try.f57.ntmps (fun x => mem x []) (L57_0 n) (finF Try.prog E Try.f57.results.toList [[(.ptr 0 0 52 [.keep])]] w57_0.alts) 4000 [.code (Try.f57.body.getD .skip)] (argSt (v57_0.enc v)) = F57_0 v := by kernel_rfl
theorem ok57_0 : FnOk Try.prog E 57 v57_0.enc F57_0 w57_0.enc :=
  fn_known (fn := Try.f57) (c := (Try.f57.body.getD .skip)) Try.func57 (by kernel_rfl) rfl envOk (oracle_ok k57_0) mixed v57_0 F57_0 w57_0 [(.ptr 0 0 52 [.keep])] [[(.ptr 0 0 52 [.keep])]] (by kernel_rfl) [] 4000 L57_0 (by kernel_rfl)
    (fun _ h => nomatch h) (fun v _ h => ⟨0, (e57_0 _ v).trans h⟩) (fun _ => by kernel_rfl) (fun _ => by kernel_rfl) (fun _ _ => by kernel_rfl)
/- chicane/chicaneref12.Height -/
abbrev A22_0 : Type := ((Int × Int × Int × Int × Int × Int × List Int × List Int × (List (Int × Int × Bool)) × (List (Int × Int)) × (List (List (Int × Int))) × (List (Int × Int × Int × Int × Bool)) × Int × Int × Int × Int) × Int × Int) × Bool
abbrev R22_0 : Type := Int × Bool
def v22_0 : Pk G (((Int × Int × Int × Int × Int × Int × List Int × List Int × (List (Int × Int × Bool)) × (List (Int × Int)) × (List (List (Int × Int))) × (List (Int × Int × Int × Int × Bool)) × Int × Int × Int × Int) × Int × Int) × Bool) := (pk (Sh.snd (Sh.cons (Sh.ptr 0 0) (Sh.cons (Sh.agg (Sh.cons (Sh.int .i64) (Sh.cons (Sh.int .i64) (Sh.cons (Sh.int .i64) (Sh.cons (Sh.int .i64) (Sh.cons (Sh.int .i64) (Sh.cons (Sh.int .i64) (Sh.cons (Sh.ros 22) (Sh.cons (Sh.ros 3) (Sh.cons (Sh.ros 86) (Sh.cons (Sh.ros 24) (Sh.cons (Sh.ros 28) (Sh.cons (Sh.ros 196) (Sh.cons (Sh.int .i64) (Sh.cons (Sh.int .i64) (Sh.cons (Sh.int .u32) (Sh.fst (Sh.cons (Sh.int .i64) Sh.nil)))))))))))))))))) (Sh.cons (Sh.int .i64) (Sh.fst (Sh.cons (Sh.int .i64) Sh.nil)))))) (Sh.fst (Sh.hfix 0 52 (Sh.fst (Sh.cons Sh.bool Sh.nil)) Sh.hnil)))
def w22_0 : Wk G (Int × Bool) := (Wk.one [.keep] (pk (Sh.fst (Sh.cons (Sh.int .i64) Sh.nil)) (Sh.fst (Sh.hfix 0 52 (Sh.fst (Sh.cons Sh.bool Sh.nil)) Sh.hnil))))
def F22_0 (v : ((Int × Int × Int × Int × Int × Int × List Int × List Int × (List (Int × Int × Bool)) × (List (Int × Int)) × (List (List (Int × Int))) × (List (Int × Int × Int × Int × Bool)) × Int × Int × Int × Int) × Int × Int) × Bool) : Option (Int × Bool) :=
  (F16_0 v.1).bind fun r2020 =>
  (F20_0 ((v.1.1, (r2020.1, (r2020.2.1, (decide (r2020.2.2.1 < r2020.2.2.2))))), v.2)).bind fun r2021 =>
  (F18_0 (v.1.1, (r2020.1, r2020.2.1))).bind fun r2022 =>
  (F58_0 ((r2021.1.1, r2020.2.2.1), r2021.2)).bind fun r2023 =>
  (F57_0 ((r2022, r2023.1), r2023.2)).bind fun r2024 =>
  (F58_0 ((r2021.1.2, r2020.2.2.2), r2024.2)).bind fun r2025 =>
  (F57_0 ((r2024.1, r2025.1), r2025.2)).bind fun r2026 =>
  some (r2026)

noncomputable def k22_0 : List (Known Try.prog E) := [Known.of envOk [9, 1, 1] [(.agg [.keep, .keep, .keep, .keep, .keep, .keep, (.ros 22), (.ros 3), (.ros 86), (.ros 24), (.ros 28), (.ros 196), .keep, .keep, .keep, .keep]), .keep, .keep] v16_0 F16_0 w16_0 ok16_0, Known.of envOk [5, 9, 1, 1, 2] [(.ptr 0 0 52 [.keep]), (.agg [.keep, .keep, .keep, .keep, .keep, .keep, (.ros 22), (.ros 3), (.ros 86), (.ros 24), (.ros 28), (.ros 196), .keep, .keep, .keep, .keep]), .keep, .keep, .keep] v20_0 F20_0 w20_0 ok20_0, Known.of envOk [9, 1, 1] [(.agg [.keep, .keep, .keep, .keep, .keep, .keep, (.ros 22), (.ros 3), (.ros 86), (.ros 24), (.ros 28), (.ros 196), .keep, .keep, .keep, .keep]), .keep, .keep] v18_0 F18_0 w18_0 ok18_0, Known.of envOk [5, 1, 1] [(.ptr 0 0 52 [.keep]), .keep, .keep] v58_0 F58_0 w58_0 ok58_0, Known.of envOk [5, 1, 1] [(.ptr 0 0 52 [.keep]), .keep, .keep] v57_0 F57_0 w57_0 ok57_0]
noncomputable def L22_0 (n id : Nat) (st : St G) : Option (Int × Bool) := none
set_option maxRecDepth 100000 in
theorem e22_0 (n : Nat) (v : ((Int × Int × Int × Int × Int × Int × List Int × List Int × (List (Int × Int × Bool)) × (List (Int × Int)) × (List (List (Int × Int))) × (List (Int × Int × Int × Int × Bool)) × Int × Int × Int × Int) × Int × Int) × Bool) : ev Try.prog E (oracle k22_0) Try.f22.ntmps (fun x => mem x []) (L22_0 n) (finF Try.prog E Try.f22.results.toList [[(.ptr 0 0 52 [.keep])]] w22_0.alts) 4000 [.code (Try.f22.body.getD .skip)] (argSt (v22_0.enc v)) = F22_0 v := by kernel_rfl
theorem ok22_0 : FnOk Try.prog E 22 v22_0.enc F22_0 w22_0.enc :=
  fn_known (fn := Try.f22) (c := (Try.f22.body.getD .skip)) Try.func22 (by kernel_rfl) rfl envOk (oracle_ok k22_0) mixed v22_0 F22_0 w22_0 [(.ptr 0 0 52 [.keep])] [[(.ptr 0 0 52 [.keep])]] (by kernel_rfl) [] 4000 L22_0 (by kernel_rfl)
    (fun _ h => nomatch h) (fun v _ h => ⟨0, (e22_0 _ v).trans h⟩) (fun _ => by kernel_rfl) (fun _ => by kernel_rfl) (fun _ _ => by kernel_rfl)
/- (*chicane/chicaneref02.M).Sub -/
abbrev A104_0 : Type := (Int × Int) × Bool
abbrev R104_0 : Type := Int × Bool
def v104_0 : Pk G ((Int × Int) × Bool) := (pk (Sh.snd (Sh.cons (Sh.ptr 0 0) (Sh.cons (Sh.int .i64) (Sh.fst (Sh.cons (Sh.int .i64) Sh.nil))))) (Sh.fst (Sh.hfix 0 52 (Sh.fst (Sh.cons Sh.bool Sh.nil)) Sh.hnil)))
def w104_0 : Wk G (Int × Bool) := (Wk.one [.keep] (pk (Sh.fst (Sh.cons (Sh.int .i64) Sh.nil)) (Sh.fst (Sh.hfix 0 52 (Sh.fst (Sh.cons Sh.bool Sh.nil)) Sh.hnil))))
def F104_0 (v : (Int × Int) × Bool) : Option (Int × Bool) :=
  bif (decide (v.1.2 < (0 : Int))) then
    let x2051 : Int := (IntKind.wrap .i64 ((9223372036854775807 : Int) + v.1.2))
    bif (decide (v.1.1 > x2051)) then
      (F84_0 (false, v.2)).bind fun r2052 =>
      some (r2052)
    else
      bif (decide (v.1.2 > (0 : Int))) then
        let x2053 : Int := (IntKind.wrap .i64 ((-9223372036854775808 : Int) + v.1.2))
        bif (decide (v.1.1 < x2053)) then
          (F84_0 (true, v.2)).bind fun r2054 =>
          some (r2054)
        else
          let x2055 : Int := (IntKind.wrap .i64 (v.1.1 - v.1.2))
          some (x2055, v.2)
      else
        let x2056 : Int := (IntKind.wrap .i64 (v.1.1 - v.1.2))
        some (x2056, v.2)
  else
    bif (decide (v.1.2 > (0 : Int))) then
      let x2057 : Int := (IntKind.wrap .i64 ((-9223372036854775808 : Int) + v.1.2))
      bif (decide (v.1.1 < x2057)) then
        (F84_0 (true, v.2)).bind fun r2058 =>
        some (r2058)
      else
        let x2059 : Int := (IntKind.wrap .i64 (v.1.1 - v.1.2))
        some (x2059, v.2)
    else
      let x2060 : Int := (IntKind.wrap .i64 (v.1.1 - v.1.2))
      some (x2060, v.2)

noncomputable def k104_0 : List (Known Try.prog E) := [Known.of envOk [5, 2] [(.ptr 0 0 52 [.keep]), .keep] v84_0 F84_0 w84_0 ok84_0]
noncomputable def L104_0 (n id : Nat) (st : St G) : Option (Int × Bool) := none
set_option maxRecDepth 100000 in
theorem e104_0 (n : Nat) (v : (Int × Int) × Bool) : ev Try.prog E (oracle k104_0) Try.f104.ntmps (fun x => mem x []) (L104_0 n) (finF Try.prog E Try.f104.results.toList [[(.ptr 0 0 52 [.keep])]] w104_0.alts) 4000 [.code (Try.f104.body.getD .skip)] (argSt (v104_0.enc v)) = F104_0 v := by kernel_rfl
theorem ok104_0 : FnOk Try.prog E 104 v104_0.enc F104_0 w104_0.enc :=
  fn_known (fn := Try.f104) (c := (Try.f104.body.getD .skip)) Try.func104 (by kernel_rfl) rfl envOk (oracle_ok k104_0) mixed v104_0 F104_0 w104_0 [(.ptr 0 0 52 [.keep])] [[(.ptr 0 0 52 [.keep])]] (by kernel_rfl) [] 4000 L104_0 (by kernel_rfl)
    (fun _ h => nomatch h) (fun v _ h => ⟨0, (e104_0 _ v).trans h⟩) (fun _ => by kernel_rfl) (fun _ => by kernel_rfl) (fun _ _ => by kernel_rfl)
/- (*chicane/chicaneref02.M).Neg -/
abbrev A91_0 : Type := Int × Bool
abbrev R91_0 : Type := Int × Bool
def v91_0 : Pk G (Int × Bool) := (pk (Sh.snd (Sh.cons (Sh.ptr 0 0) (Sh.fst (Sh.cons (Sh.int .i64) Sh.nil)))) (Sh.fst (Sh.hfix 0 52 (Sh.fst (Sh.cons Sh.bool Sh.nil)) Sh.hnil)))
def w91_0 : Wk G (Int × Bool) := (Wk.one [.keep] (pk (Sh.fst (Sh.cons (Sh.int .i64) Sh.nil)) (Sh.fst (Sh.hfix 0 52 (Sh.fst (Sh.cons Sh.bool Sh.nil)) Sh.hnil))))
def F91_0 (v : Int × Bool) : Option (Int × Bool) :=
  (F104_0 (((0 : Int), v.1), v.2)).bind fun r2063 =>
  some (r2063)

noncomputable def k91_0 : List (Known Try.prog E) := [Known.of envOk [5, 1, 1] [(.ptr 0 0 52 [.keep]), .keep, .keep] v104_0 F104_0 w104_0 ok104_0]
noncomputable def L91_0 (n id : Nat) (st : St G) : Option (Int × Bool) := none
set_option maxRecDepth 100000 in
theorem e91_0 (n : Nat) (v : Int × Bool) : ev Try.prog E (oracle k91_0) Try.f91.ntmps (fun x => mem x []) (L91_0 n) (finF Try.prog E Try.f91.results.toList [[(.ptr 0 0 52 [.keep])]] w91_0.alts) 4000 [.code (Try.f91.body.getD .skip)] (argSt (v91_0.enc v)) = F91_0 v := by kernel_rfl
theorem ok91_0 : FnOk Try.prog E 91 v91_0.enc F91_0 w91_0.enc :=
  fn_known (fn := Try.f91) (c := (Try.f91.body.getD .skip)) Try.func91 (by kernel_rfl) rfl envOk (oracle_ok k91_0) mixed v91_0 F91_0 w91_0 [(.ptr 0 0 52 [.keep])] [[(.ptr 0 0 52 [.keep])]] (by kernel_rfl) [] 4000 L91_0 (by kernel_rfl)
    (fun _ h => nomatch h) (fun v _ h => ⟨0, (e91_0 _ v).trans h⟩) (fun _ => by kernel_rfl) (fun _ => by kernel_rfl) (fun _ _ => by kernel_rfl)
/- chicane/chicaneref01.low -/
abbrev A121_0 : Type := Int
abbrev R121_0 : Type := Int
def v121_0 : Pk G Int := (Pk.fst (pk (Sh.fst (Sh.cons (Sh.int .u64) Sh.nil)) Sh.hnil))
def w121_0 : Wk G Int := (Wk.one [.keep] (Pk.fst (pk (Sh.fst (Sh.cons (Sh.int .u64) Sh.nil)) Sh.hnil)))
def F121_0 (v : Int) : Option Int :=
  let x2070 : Int := (Int.tmod v (4294967296 : Int))
  some (x2070)

noncomputable def k121_0 : List (Known Try.prog E) := []
noncomputable def L121_0 (n id : Nat) (st : St G) : Option Int := none
set_option maxRecDepth 100000 in
theorem e121_0 (n : Nat) (v : Int) : ev Try.prog E (oracle k121_0) Try.f121.ntmps (fun x => mem x []) (L121_0 n) (finF Try.prog E Try.f121.results.toList [[]] w121_0.alts) 4000 [.code (Try.f121.body.getD .skip)] (argSt (v121_0.enc v)) = F121_0 v := by kernel_rfl
theorem ok121_0 : FnOk Try.prog E 121 v121_0.enc F121_0 w121_0.enc :=
  fn_known (fn := Try.f121) (c := (Try.f121.body.getD .skip)) Try.func121 (by kernel_rfl) rfl envOk (oracle_ok k121_0) mixed v121_0 F121_0 w121_0 [] [[]] (by kernel_rfl) [] 4000 L121_0 (by kernel_rfl)
    (fun _ h => nomatch h) (fun v _ h => ⟨0, (e121_0 _ v).trans h⟩) (fun _ => by kernel_rfl) (fun _ => by kernel_rfl) (fun _ _ => by kernel_rfl)
/- chicane/chicaneref01.Zero -/
abbrev A119_0 : Type := Bool × Int × Int × Int × Int
abbrev R119_0 : Type := Bool
def v119_0 : Pk G (Bool × Int × Int × Int × Int) := (Pk.fst (pk (Sh.fst (Sh.cons (Sh.agg (Sh.cons Sh.bool (Sh.cons (Sh.int .u64) (Sh.cons (Sh.int .u64) (Sh.cons (Sh.int .u64) (Sh.fst (Sh.cons (Sh.int .u64) Sh.nil))))))) Sh.nil)) Sh.hnil))
def w119_0 : Wk G Bool := (Wk.one [.keep] (Pk.fst (pk (Sh.fst (Sh.cons Sh.bool Sh.nil)) Sh.hnil)))
def F119_0 (v : Bool × Int × Int × Int × Int) : Option Bool :=
  bif (v.2.1 == (0 : Int)) then
    bif (v.2.2.1 == (0 : Int)) then
      bif (v.2.2.2.1 == (0 : Int)) then
        some (v.2.2.2.2 == (0 : Int))
      else
        some (false)
    else
      some (false)
  else
    some (false)

noncomputable def k119_0 : List (Known Try.prog E) := []
noncomputable def L119_0 (n id : Nat) (st : St G) : Option Bool := none
set_option maxRecDepth 100000 in
theorem e119_0 (n : Nat) (v : Bool × Int × Int × Int × Int) : ev Try.prog E (oracle k119_0) Try.f119.ntmps (fun x => mem x []) (L119_0 n) (finF Try.prog E Try.f119.results.toList [[]] w119_0.alts) 4000 [.code (Try.f119.body.getD .skip)] (argSt (v119_0.enc v)) = F119_0 v := by kernel_rfl
theorem ok119_0 : FnOk Try.prog E 119 v119_0.enc F119_0 w119_0.enc :=
  fn_known (fn := Try.f119) (c := (Try.f119.body.getD .skip)) Try.func119 (by kernel_rfl) rfl envOk (oracle_ok k119_0) mixed v119_0 F119_0 w119_0 [] [[]] (by kernel_rfl) [] 4000 L119_0 (by kernel_rfl)
    (fun _ h => nomatch h) (fun v _ h => ⟨0, (e119_0 _ v).trans h⟩) (fun _ => by kernel_rfl) (fun _ => by kernel_rfl) (fun _ _ => by kernel_rfl)
/- chicane/chicaneref01.Mul -/
abbrev A114_0 : Type := Int × Int
abbrev R114_0 : Type := Bool × Int × Int × Int × Int
def v114_0 : Pk G (Int × Int) := (Pk.fst (pk (Sh.cons (Sh.int .i64) (Sh.fst (Sh.cons (Sh.int .i64) Sh.nil))) Sh.hnil))
def w114_0 : Wk G (Bool × Int × Int × Int × Int) := (Wk.one [(.agg [.keep, .keep, .keep, .keep, .keep])] (Pk.fst (pk (Sh.fst (Sh.cons (Sh.agg (Sh.cons Sh.bool (Sh.cons (Sh.int .u64) (Sh.cons (Sh.int .u64) (Sh.cons (Sh.int .u64) (Sh.fst (Sh.cons (Sh.int .u64) Sh.nil))))))) Sh.nil)) Sh.hnil)))
def c114_0_7 : Pk G (Int × (Bool × Int × Int × Int × Int) × (Int × Int) × (Int × Int) × Bool × Int × Int × Int × Int) := (pk (Sh.snd (Sh.cons (Sh.ptr 0 0) (Sh.snd (Sh.cons (Sh.ptr 1 0) (Sh.snd (Sh.cons (Sh.ptr 2 0) (Sh.snd (Sh.cons (Sh.ptr 3 0) (Sh.fst (Sh.cons (Sh.int .i64) Sh.nil)))))))))) (Sh.hfix 3 164 (Sh.cons Sh.bool (Sh.cons (Sh.int .u64) (Sh.cons (Sh.int .u64) (Sh.cons (Sh.int .u64) (Sh.fst (Sh.cons (Sh.int .u64) Sh.nil)))))) (Sh.hfix 2 177 (Sh.cons (Sh.int .u64) (Sh.fst (Sh.cons (Sh.int .u64) Sh.nil))) (Sh.hfix 1 177 (Sh.cons (Sh.int .u64) (Sh.fst (Sh.cons (Sh.int .u64) Sh.nil))) (Sh.fst (Sh.hfix 0 164 (Sh.cons Sh.bool (Sh.cons (Sh.int .u64) (Sh.cons (Sh.int .u64) (Sh.cons (Sh.int .u64) (Sh.fst (Sh.cons (Sh.int .u64) Sh.nil)))))) Sh.hnil))))))
def c114_0_10 : Pk G ((Int × Int) × (Bool × Int × Int × Int × Int) × (Int × Int) × (Int × Int) × Bool × Int × Int × Int × Int) := (pk (Sh.snd (Sh.cons (Sh.ptr 0 0) (Sh.snd (Sh.cons (Sh.ptr 1 0) (Sh.snd (Sh.cons (Sh.ptr 2 0) (Sh.snd (Sh.cons (Sh.ptr 3 0) (Sh.cons (Sh.int .i64) (Sh.fst (Sh.cons (Sh.int .i64) Sh.nil))))))))))) (Sh.hfix 3 164 (Sh.cons Sh.bool (Sh.cons (Sh.int .u64) (Sh.cons (Sh.int .u64) (Sh.cons (Sh.int .u64) (Sh.fst (Sh.cons (Sh.int .u64) Sh.nil)))))) (Sh.hfix 2 177 (Sh.cons (Sh.int .u64) (Sh.fst (Sh.cons (Sh.int .u64) Sh.nil))) (Sh.hfix 1 177 (Sh.cons (Sh.int .u64) (Sh.fst (Sh.cons (Sh.int .u64) Sh.nil))) (Sh.fst (Sh.hfix 0 164 (Sh.cons Sh.bool (Sh.cons (Sh.int .u64) (Sh.cons (Sh.int .u64) (Sh.cons (Sh.int .u64) (Sh.fst (Sh.cons (Sh.int .u64) Sh.nil)))))) Sh.hnil))))))
def c114_0_15 : Pk G ((Int × Int × Int × Int) × (Bool × Int × Int × Int × Int) × (Int × Int) × (Int × Int) × Bool × Int × Int × Int × Int) := (pk (Sh.snd (Sh.cons (Sh.ptr 0 0) (Sh.snd (Sh.cons (Sh.ptr 1 0) (Sh.snd (Sh.cons (Sh.ptr 2 0) (Sh.snd (Sh.cons (Sh.ptr 3 0) (Sh.cons (Sh.int .i64) (Sh.cons (Sh.int .i64) (Sh.cons (Sh.int .u64) (Sh.fst (Sh.cons (Sh.int .i64) Sh.nil))))))))))))) (Sh.hfix 3 164 (Sh.cons Sh.bool (Sh.cons (Sh.int .u64) (Sh.cons (Sh.int .u64) (Sh.cons (Sh.int .u64) (Sh.fst (Sh.cons (Sh.int .u64) Sh.nil)))))) (Sh.hfix 2 177 (Sh.cons (Sh.int .u64) (Sh.fst (Sh.cons (Sh.int .u64) Sh.nil))) (Sh.hfix 1 177 (Sh.cons (Sh.int .u64) (Sh.fst (Sh.cons (Sh.int .u64) Sh.nil))) (Sh.fst (Sh.hfix 0 164 (Sh.cons Sh.bool (Sh.cons (Sh.int .u64) (Sh.cons (Sh.int .u64) (Sh.cons (Sh.int .u64) (Sh.fst (Sh.cons (Sh.int .u64) Sh.nil)))))) Sh.hnil))))))
def B114_0_7 (K : ((Int × (Bool × Int × Int × Int × Int) × (Int × Int) × (Int × Int) × Bool × Int × Int × Int × Int) → Option (Bool × Int × Int × Int × Int)) × (((Int × Int) × (Bool × Int × Int × Int × Int) × (Int × Int) × (Int × Int) × Bool × Int × Int × Int × Int) → Option (Bool × Int × Int × Int × Int)) × (((Int × Int × Int × Int) × (Bool × Int × Int × Int × Int) × (Int × Int) × (Int × Int) × Bool × Int × Int × Int × Int) → Option (Bool × Int × Int × Int × Int))) (v : Int × (Bool × Int × Int × Int × Int) × (Int × Int) × (Int × Int) × Bool × Int × Int × Int × Int) : Option (Bool × Int × Int × Int × Int) :=
  bif (decide (v.1 < (2 : Int))) then
    K.2.1 ((v.1, (0 : Int)), v.2)
  else
    (F119_0 v.2.1).bind fun r2163 =>
    bif r2163 then
      some (false, v.2.1.2)
    else
      some (v.2.1)

def B114_0_10 (K : ((Int × (Bool × Int × Int × Int × Int) × (Int × Int) × (Int × Int) × Bool × Int × Int × Int × Int) → Option (Bool × Int × Int × Int × Int)) × (((Int × Int) × (Bool × Int × Int × Int × Int) × (Int × Int) × (Int × Int) × Bool × Int × Int × Int × Int) → Option (Bool × Int × Int × Int × Int)) × (((Int × Int × Int × Int) × (Bool × Int × Int × Int × Int) × (Int × Int) × (Int × Int) × Bool × Int × Int × Int × Int) → Option (Bool × Int × Int × Int × Int))) (v : (Int × Int) × (Bool × Int × Int × Int × Int) × (Int × Int) × (Int × Int) × Bool × Int × Int × Int × Int) : Option (Bool × Int × Int × Int × Int) :=
  bif (decide (v.1.2 < (2 : Int))) then
    (idx v.1.1 2).bind fun (x2164 : Nat) =>
    (idx v.1.2 2).bind fun (x2165 : Nat) =>
    let x2166 : Int := (IntKind.wrap .u64 ((List.getD [v.2.2.2.1.1, v.2.2.2.1.2] x2164 0) * (List.getD [v.2.2.1.1, v.2.2.1.2] x2165 0)))
    let x2167 : Int := (IntKind.wrap .i64 (v.1.1 + v.1.2))
    K.2.2 ((v.1.1, (v.1.2, (x2166, x2167))), v.2)
  else
    let x2168 : Int := (IntKind.wrap .i64 (v.1.1 + (1 : Int)))
    K.1 (x2168, v.2)

def B114_0_15 (K : ((Int × (Bool × Int × Int × Int × Int) × (Int × Int) × (Int × Int) × Bool × Int × Int × Int × Int) → Option (Bool × Int × Int × Int × Int)) × (((Int × Int) × (Bool × Int × Int × Int × Int) × (Int × Int) × (Int × Int) × Bool × Int × Int × Int × Int) → Option (Bool × Int × Int × Int × Int)) × (((Int × Int × Int × Int) × (Bool × Int × Int × Int × Int) × (Int × Int) × (Int × Int) × Bool × Int × Int × Int × Int) → Option (Bool × Int × Int × Int × Int))) (v : (Int × Int × Int × Int) × (Bool × Int × Int × Int × Int) × (Int × Int) × (Int × Int) × Bool × Int × Int × Int × Int) : Option (Bool × Int × Int × Int × Int) :=
  bif (decide (v.1.2.2.2 < (4 : Int))) then
    bif (decide (v.1.2.2.1 > (0 : Int))) then
      (idx v.1.2.2.2 4).bind fun (x2169 : Nat) =>
      (F121_0 v.1.2.2.1).bind fun r2170 =>
      let x2171 : Int := (IntKind.wrap .u64 ((List.getD [v.2.1.2.1, v.2.1.2.2.1, v.2.1.2.2.2.1, v.2.1.2.2.2.2] x2169 0) + r2170))
      (F121_0 x2171).bind fun r2172 =>
      (idx v.1.2.2.2 4).bind fun (x2173 : Nat) =>
      let x2174 : Int := (IntKind.wrap .u64 (Int.tdiv v.1.2.2.1 (4294967296 : Int)))
      let x2175 : Int := (IntKind.wrap .u64 (Int.tdiv x2171 (4294967296 : Int)))
      let x2176 : Int := (IntKind.wrap .u64 (x2174 + x2175))
      let x2177 : Int := (IntKind.wrap .i64 (v.1.2.2.2 + (1 : Int)))
      K.2.2 ((v.1.1, (v.1.2.1, (x2176, x2177))), ((v.2.1.1, ((if x2173 = 0 then r2172 else v.2.1.2.1), ((if x2173 = 1 then r2172 else v.2.1.2.2.1), ((if x2173 = 2 then r2172 else v.2.1.2.2.2.1), (if x2173 = 3 then r2172 else v.2.1.2.2.2.2))))), v.2.2))
    else
      let x2178 : Int := (IntKind.wrap .i64 (v.1.2.1 + (1 : Int)))
      K.2.1 ((v.1.1, x2178), v.2)
  else
    let x2179 : Int := (IntKind.wrap .i64 (v.1.2.1 + (1 : Int)))
    K.2.1 ((v.1.1, x2179), v.2)

def E114_0 (K : ((Int × (Bool × Int × Int × Int × Int) × (Int × Int) × (Int × Int) × Bool × Int × Int × Int × Int) → Option (Bool × Int × Int × Int × Int)) × (((Int × Int) × (Bool × Int × Int × Int × Int) × (Int × Int) × (Int × Int) × Bool × Int × Int × Int × Int) → Option (Bool × Int × Int × Int × Int)) × (((Int × Int × Int × Int) × (Bool × Int × Int × Int × Int) × (Int × Int) × (Int × Int) × Bool × Int × Int × Int × Int) → Option (Bool × Int × Int × Int × Int))) (v : Int × Int) : Option (Bool × Int × Int × Int × Int) :=
  (F86_0 v.1).bind fun r2157 =>
  (F86_0 v.2).bind fun r2158 =>
  (F121_0 r2157).bind fun r2159 =>
  let x2160 : Int := (IntKind.wrap .u64 (Int.tdiv r2157 (4294967296 : Int)))
  (F121_0 r2158).bind fun r2161 =>
  let x2162 : Int := (IntKind.wrap .u64 (Int.tdiv r2158 (4294967296 : Int)))
  K.1 ((0 : Int), (((!((decide (v.1 < (0 : Int))) == (decide (v.2 < (0 : Int))))), ((0 : Int), ((0 : Int), ((0 : Int), (0 : Int))))), ((r2161, x2162), ((r2159, x2160), (false, ((0 : Int), ((0 : Int), ((0 : Int), (0 : Int)))))))))

def K114_0 : Nat → ((Int × (Bool × Int × Int × Int × Int) × (Int × Int) × (Int × Int) × Bool × Int × Int × Int × Int) → Option (Bool × Int × Int × Int × Int)) × (((Int × Int) × (Bool × Int × Int × Int × Int) × (Int × Int) × (Int × Int) × Bool × Int × Int × Int × Int) → Option (Bool × Int × Int × Int × Int)) × (((Int × Int × Int × Int) × (Bool × Int × Int × Int × Int) × (Int × Int) × (Int × Int) × Bool × Int × Int × Int × Int) → Option (Bool × Int × Int × Int × Int))
  | 0 => (fun _ => none, fun _ => none, fun _ => none)
  | n + 1 => (B114_0_7 (K114_0 n), B114_0_10 (K114_0 n), B114_0_15 (K114_0 n))
def fuel114_0 (v : Int × Int) : Nat := 1000
def F114_0 (v : Int × Int) : Option (Bool × Int × Int × Int × Int) := E114_0 (K114_0 (fuel114_0 v)) v
noncomputable def k114_0 : List (Known Try.prog E) := [Known.of envOk [1] [.keep] v86_0 F86_0 w86_0 ok86_0, Known.of envOk [1] [.keep] v121_0 F121_0 w121_0 ok121_0, Known.of envOk [9] [(.agg [.keep, .keep, .keep, .keep, .keep])] v119_0 F119_0 w119_0 ok119_0]
def s114_0_15 : List (Nat × Pat) := [(4, (.ptr 0 0 164 [.keep, .keep, .keep, .keep, .keep])), (7, (.ptr 1 0 177 [.keep, .keep])), (8, (.ptr 2 0 177 [.keep, .keep])), (9, (.ptr 3 0 164 [.keep, .keep, .keep, .keep, .keep])), (10, .keep), (11, .keep), (13, .keep), (14, .keep)]
def s114_0_10 : List (Nat × Pat) := [(4, (.ptr 0 0 164 [.keep, .keep, .keep, .keep, .keep])), (7, (.ptr 1 0 177 [.keep, .keep])), (8, (.ptr 2 0 177 [.keep, .keep])), (9, (.ptr 3 0 164 [.keep, .keep, .keep, .keep, .keep])), (10, .keep), (11, .keep)]
def s114_0_7 : List (Nat × Pat) := [(4, (.ptr 0 0 164 [.keep, .keep, .keep, .keep, .keep])), (7, (.ptr 1 0 177 [.keep, .keep])), (8, (.ptr 2 0 177 [.keep, .keep])), (9, (.ptr 3 0 164 [.keep, .keep, .keep, .keep, .keep])), (10, .keep)]
noncomputable def L114_0 (n id : Nat) (st : St G) : Option (Bool × Int × Int × Int × Int) := match Nat.beq id 7 with | true => cutK Try.prog s114_0_7 [] c114_0_7.dec (K114_0 n).1 st | false => match Nat.beq id 10 with | true => cutK Try.prog s114_0_10 [] c114_0_10.dec (K114_0 n).2.1 st | false => match Nat.beq id 15 with | true => cutK Try.prog s114_0_15 [] c114_0_15.dec (K114_0 n).2.2 st | false => none
set_option maxRecDepth 100000 in
theorem e114_0 (n : Nat) (v : Int × Int) : ev Try.prog E (oracle k114_0) Try.f114.ntmps (fun x => mem x [7, 10, 15]) (L114_0 n) (finF Try.prog E Try.f114.results.toList [[]] w114_0.alts) 4000 [.code (Try.f114.body.getD .skip)] (argSt (v114_0.enc v)) = E114_0 (K114_0 n) v := by kernel_rfl
set_option maxRecDepth 100000 in
theorem b114_0_7 (n : Nat) (v : Int × (Bool × Int × Int × Int × Int) × (Int × Int) × (Int × Int) × Bool × Int × Int × Int × Int) : evCut Try.prog E (oracle k114_0) false 114 Try.f114.ntmps (fun x => mem x [7, 10, 15]) (L114_0 n) (finF Try.prog E Try.f114.results.toList [[]] w114_0.alts) 4000 (todoAt (Try.f114.body.getD .skip) 7) (cutSt s114_0_7 (c114_0_7.enc v)) = B114_0_7 (K114_0 n) v := by kernel_rfl
set_option maxRecDepth 100000 in
theorem b114_0_10 (n : Nat) (v : (Int × Int) × (Bool × Int × Int × Int × Int) × (Int × Int) × (Int × Int) × Bool × Int × Int × Int × Int) : evCut Try.prog E (oracle k114_0) false 114 Try.f114.ntmps (fun x => mem x [7, 10, 15]) (L114_0 n) (finF Try.prog E Try.f114.results.toList [[]] w114_0.alts) 4000 (todoAt (Try.f114.body.getD .skip) 10) (cutSt s114_0_10 (c114_0_10.enc v)) = B114_0_10 (K114_0 n) v := by kernel_rfl
set_option maxRecDepth 100000 in
theorem b114_0_15 (n : Nat) (v : (Int × Int × Int × Int) × (Bool × Int × Int × Int × Int) × (Int × Int) × (Int × Int) × Bool × Int × Int × Int × Int) : evCut Try.prog E (oracle k114_0) false 114 Try.f114.ntmps (fun x => mem x [7, 10, 15]) (L114_0 n) (finF Try.prog E Try.f114.results.toList [[]] w114_0.alts) 4000 (todoAt (Try.f114.body.getD .skip) 15) (cutSt s114_0_15 (c114_0_15.enc v)) = B114_0_15 (K114_0 n) v := by kernel_rfl
theorem ok114_0 : FnOk Try.prog E 114 v114_0.enc F114_0 w114_0.enc :=
  fn_known (fn := Try.f114) (c := (Try.f114.body.getD .skip)) Try.func114 (by kernel_rfl) rfl envOk (oracle_ok k114_0) mixed v114_0 F114_0 w114_0 [] [[]] (by kernel_rfl) [7, 10, 15] 4000 L114_0 (by kernel_rfl)
    (List.forall_mem_cons.2 ⟨⟨_, [], s114_0_7, c114_0_7.dec, c114_0_7.enc, fun n => (K114_0 n).1, c114_0_7.ok, fun _ _ => rfl, fun _ => rfl, by kernel_rfl, fun n v _ h => (b114_0_7 n v).trans h⟩, List.forall_mem_cons.2 ⟨⟨_, [], s114_0_10, c114_0_10.dec, c114_0_10.enc, fun n => (K114_0 n).2.1, c114_0_10.ok, fun _ _ => rfl, fun _ => rfl, by kernel_rfl, fun n v _ h => (b114_0_10 n v).trans h⟩, List.forall_mem_cons.2 ⟨⟨_, [], s114_0_15, c114_0_15.dec, c114_0_15.enc, fun n => (K114_0 n).2.2, c114_0_15.ok, fun _ _ => rfl, fun _ => rfl, by kernel_rfl, fun n v _ h => (b114_0_15 n v).trans h⟩, fun _ h => (nomatch h)⟩⟩⟩) (fun v _ h => ⟨fuel114_0 v, (e114_0 _ v).trans h⟩) (fun _ => by kernel_rfl) (fun _ => by kernel_rfl) (fun _ _ => by kernel_rfl)
/- chicane/chicaneref01.plus -/
abbrev A116_0 : Type := (Int × Int × Int × Int) × Int × Int × Int × Int
abbrev R116_0 : Type := (Int × Int × Int × Int) × Int
def v116_0 : Pk G ((Int × Int × Int × Int) × Int × Int × Int × Int) := (Pk.fst (pk (Sh.cons (Sh.agg (Sh.cons (Sh.int .u64) (Sh.cons (Sh.int .u64) (Sh.cons (Sh.int .u64) (Sh.fst (Sh.cons (Sh.int .u64) Sh.nil)))))) (Sh.fst (Sh.cons (Sh.agg (Sh.cons (Sh.int .u64) (Sh.cons (Sh.int .u64) (Sh.cons (Sh.int .u64) (Sh.fst (Sh.cons (Sh.int .u64) Sh.nil)))))) Sh.nil))) Sh.hnil))
def w116_0 : Wk G ((Int × Int × Int × Int) × Int) := (Wk.one [(.agg [.keep, .keep, .keep, .keep]), .keep] (Pk.fst (pk (Sh.cons (Sh.agg (Sh.cons (Sh.int .u64) (Sh.cons (Sh.int .u64) (Sh.cons (Sh.int .u64) (Sh.fst (Sh.cons (Sh.int .u64) Sh.nil)))))) (Sh.fst (Sh.cons (Sh.int .u64) Sh.nil))) Sh.hnil)))
def F116_0 (v : (Int × Int × Int × Int) × Int × Int × Int × Int) : Option ((Int × Int × Int × Int) × Int) :=
  let x2214 : Int := (IntKind.wrap .u64 (v.1.1 + v.2.1))
  let x2215 : Int := (IntKind.wrap .u64 (x2214 + (0 : Int)))
  (F121_0 x2215).bind fun r2216 =>
  let x2217 : Int := (IntKind.wrap .u64 (Int.tdiv x2215 (4294967296 : Int)))
  let x2218 : Int := (IntKind.wrap .u64 (v.1.2.1 + v.2.2.1))
  let x2219 : Int := (IntKind.wrap .u64 (x2218 + x2217))
  (F121_0 x2219).bind fun r2220 =>
  let x2221 : Int := (IntKind.wrap .u64 (Int.tdiv x2219 (4294967296 : Int)))
  let x2222 : Int := (IntKind.wrap .u64 (v.1.2.2.1 + v.2.2.2.1))
  let x2223 : Int := (IntKind.wrap .u64 (x2222 + x2221))
  (F121_0 x2223).bind fun r2224 =>
  let x2225 : Int := (IntKind.wrap .u64 (Int.tdiv x2223 (4294967296 : Int)))
  let x2226 : Int := (IntKind.wrap .u64 (v.1.2.2.2 + v.2.2.2.2))
  let x2227 : Int := (IntKind.wrap .u64 (x2226 + x2225))
  (F121_0 x2227).bind fun r2228 =>
  let x2229 : Int := (IntKind.wrap .u64 (Int.tdiv x2227 (4294967296 : Int)))
  some ((r2216, (r2220, (r2224, r2228))), x2229)

noncomputable def k116_0 : List (Known Try.prog E) := [Known.of envOk [1] [.keep] v121_0 F121_0 w121_0 ok121_0]
noncomputable def L116_0 (n id : Nat) (st : St G) : Option ((Int × Int × Int × Int) × Int) := none
set_option maxRecDepth 100000 in
theorem e116_0 (n : Nat) (v : (Int × Int × Int × Int) × Int × Int × Int × Int) : ev Try.prog E (oracle k116_0) Try.f116.ntmps (fun x => mem x []) (L116_0 n) (finF Try.prog E Try.f116.results.toList [[]] w116_0.alts) 4000 [.code (Try.f116.body.getD .skip)] (argSt (v116_0.enc v)) = F116_0 v := by kernel_rfl
theorem ok116_0 : FnOk Try.prog E 116 v116_0.enc F116_0 w116_0.enc :=
  fn_known (fn := Try.f116) (c := (Try.f116.body.getD .skip)) Try.func116 (by kernel_rfl) rfl envOk (oracle_ok k116_0) mixed v116_0 F116_0 w116_0 [] [[]] (by kernel_rfl) [] 4000 L116_0 (by kernel_rfl)
    (fun _ h => nomatch h) (fun v _ h => ⟨0, (e116_0 _ v).trans h⟩) (fun _ => by kernel_rfl) (fun _ => by kernel_rfl) (fun _ _ => by kernel_rfl)
/- chicane/chicaneref01.Words -/
abbrev A120_0 : Type := Bool × Int × Int × Int × Int
abbrev R120_0 : Type := Int × Int × Bool
def v120_0 : Pk G (Bool × Int × Int × Int × Int) := (Pk.fst (pk (Sh.fst (Sh.cons (Sh.agg (Sh.cons Sh.bool (Sh.cons (Sh.int .u64) (Sh.cons (Sh.int .u64) (Sh.cons (Sh.int .u64) (Sh.fst (Sh.cons (Sh.int .u64) Sh.nil))))))) Sh.nil)) Sh.hnil))
def w120_0 : Wk G (Int × Int × Bool) := (Wk.one [.keep, .keep, .keep] (Pk.fst (pk (Sh.cons (Sh.int .i64) (Sh.cons (Sh.int .u64) (Sh.fst (Sh.cons Sh.bool Sh.nil)))) Sh.hnil)))
def F120_0 (v : Bool × Int × Int × Int × Int) : Option (Int × Int × Bool) :=
  let x2268 : Int := (IntKind.wrap .u64 (v.2.2.2.2 * (4294967296 : Int)))
  let x2269 : Int := (IntKind.wrap .u64 (x2268 + v.2.2.2.1))
  let x2270 : Int := (IntKind.wrap .u64 (v.2.2.1 * (4294967296 : Int)))
  let x2271 : Int := (IntKind.wrap .u64 (x2270 + v.2.1))
  bif (decide (x2269 > (9223372036854775808 : Int))) then
    some ((0 : Int), ((0 : Int), false))
  else
    bif (x2269 == (9223372036854775808 : Int)) then
      bif (x2271 != (0 : Int)) then
        some ((0 : Int), ((0 : Int), false))
      else
        bif (!v.1) then
          some ((0 : Int), ((0 : Int), false))
        else
          bif v.1 then
            let x2272 : Int := (Go.bits .xor .u64 (18446744073709551615) x2271)
            let x2273 : Int := (IntKind.wrap .u64 (x2272 + (1 : Int)))
            let x2274 : Int := (Go.bits .xor .u64 (18446744073709551615) x2269)
            bif (x2273 == (0 : Int)) then
              let x2275 : Int := (IntKind.wrap .u64 (x2274 + (1 : Int)))
              let x2276 : Int := (IntKind.wrap .i64 x2275)
              some (x2276, (x2273, true))
            else
              let x2277 : Int := (IntKind.wrap .i64 x2274)
              some (x2277, (x2273, true))
          else
            let x2278 : Int := (IntKind.wrap .i64 x2269)
            some (x2278, (x2271, true))
    else
      bif v.1 then
        let x2279 : Int := (Go.bits .xor .u64 (18446744073709551615) x2271)
        let x2280 : Int := (IntKind.wrap .u64 (x2279 + (1 : Int)))
        let x2281 : Int := (Go.bits .xor .u64 (18446744073709551615) x2269)
        bif (x2280 == (0 : Int)) then
          let x2282 : Int := (IntKind.wrap .u64 (x2281 + (1 : Int)))
          let x2283 : Int := (IntKind.wrap .i64 x2282)
          some (x2283, (x2280, true))
        else
          let x2284 : Int := (IntKind.wrap .i64 x2281)
          some (x2284, (x2280, true))
      else
        let x2285 : Int := (IntKind.wrap .i64 x2269)
        some (x2285, (x2271, true))

noncomputable def k120_0 : List (Known Try.prog E) := []
noncomputable def L120_0 (n id : Nat) (st : St G) : Option (Int × Int × Bool) := none
set_option maxRecDepth 100000 in
theorem e120_0 (n : Nat) (v : Bool × Int × Int × Int × Int) : ev Try.prog E (oracle k120_0) Try.f120.ntmps (fun x => mem x []) (L120_0 n) (finF Try.prog E Try.f120.results.toList [[]] w120_0.alts) 4000 [.code (Try.f120.body.getD .skip)] (argSt (v120_0.enc v)) = F120_0 v := by kernel_rfl
theorem ok120_0 : FnOk Try.prog E 120 v120_0.enc F120_0 w120_0.enc :=
  fn_known (fn := Try.f120) (c := (Try.f120.body.getD .skip)) Try.func120 (by kernel_rfl) rfl envOk (oracle_ok k120_0) mixed v120_0 F120_0 w120_0 [] [[]] (by kernel_rfl) [] 4000 L120_0 (by kernel_rfl)
    (fun _ h => nomatch h) (fun v _ h => ⟨0, (e120_0 _ v).trans h⟩) (fun _ => by kernel_rfl) (fun _ => by kernel_rfl) (fun _ _ => by kernel_rfl)
/- chicane/chicaneref01.less -/
abbrev A117_0 : Type := (Int × Int × Int × Int) × Int × Int × Int × Int
abbrev R117_0 : Type := Bool
def v117_0 : Pk G ((Int × Int × Int × Int) × Int × Int × Int × Int) := (Pk.fst (pk (Sh.cons (Sh.agg (Sh.cons (Sh.int .u64) (Sh.cons (Sh.int .u64) (Sh.cons (Sh.int .u64) (Sh.fst (Sh.cons (Sh.int .u64) Sh.nil)))))) (Sh.fst (Sh.cons (Sh.agg (Sh.cons (Sh.int .u64) (Sh.cons (Sh.int .u64) (Sh.cons (Sh.int .u64) (Sh.fst (Sh.cons (Sh.int .u64) Sh.nil)))))) Sh.nil))) Sh.hnil))
def w117_0 : Wk G Bool := (Wk.one [.keep] (Pk.fst (pk (Sh.fst (Sh.cons Sh.bool Sh.nil)) Sh.hnil)))
def F117_0 (v : (Int × Int × Int × Int) × Int × Int × Int × Int) : Option Bool :=
  bif (v.1.2.2.2 != v.2.2.2.2) then
    some (decide (v.1.2.2.2 < v.2.2.2.2))
  else
    bif (v.1.2.2.1 != v.2.2.2.1) then
      some (decide (v.1.2.2.1 < v.2.2.2.1))
    else
      bif (v.1.2.1 != v.2.2.1) then
        some (decide (v.1.2.1 < v.2.2.1))
      else
        bif (v.1.1 != v.2.1) then
          some (decide (v.1.1 < v.2.1))
        else
          some (false)

noncomputable def k117_0 : List (Known Try.prog E) := []
noncomputable def L117_0 (n id : Nat) (st : St G) : Option Bool := none
set_option maxRecDepth 100000 in
theorem e117_0 (n : Nat) (v : (Int × Int × Int × Int) × Int × Int × Int × Int) : ev Try.prog E (oracle k117_0) Try.f117.ntmps (fun x => mem x []) (L117_0 n) (finF Try.prog E Try.f117.results.toList [[]] w117_0.alts) 4000 [.code (Try.f117.body.getD .skip)] (argSt (v117_0.enc v)) = F117_0 v := by kernel_rfl
theorem ok117_0 : FnOk Try.prog E 117 v117_0.enc F117_0 w117_0.enc :=
  fn_known (fn := Try.f117) (c := (Try.f117.body.getD .skip)) Try.func117 (by kernel_rfl) rfl envOk (oracle_ok k117_0) mixed v117_0 F117_0 w117_0 [] [[]] (by kernel_rfl) [] 4000 L117_0 (by kernel_rfl)
    (fun _ h => nomatch h) (fun v _ h => ⟨0, (e117_0 _ v).trans h⟩) (fun _ => by kernel_rfl) (fun _ => by kernel_rfl) (fun _ _ => by kernel_rfl)
/- chicane/chicaneref01.minus -/
abbrev A118_0 : Type := (Int × Int × Int × Int) × Int × Int × Int × Int
abbrev R118_0 : Type := Int × Int × Int × Int
def v118_0 : Pk G ((Int × Int × Int × Int) × Int × Int × Int × Int) := (Pk.fst (pk (Sh.cons (Sh.agg (Sh.cons (Sh.int .u64) (Sh.cons (Sh.int .u64) (Sh.cons (Sh.int .u64) (Sh.fst (Sh.cons (Sh.int .u64) Sh.nil)))))) (Sh.fst (Sh.cons (Sh.agg (Sh.cons (Sh.int .u64) (Sh.cons (Sh.int .u64) (Sh.cons (Sh.int .u64) (Sh.fst (Sh.cons (Sh.int .u64) Sh.nil)))))) Sh.nil))) Sh.hnil))
def w118_0 : Wk G (Int × Int × Int × Int) := (Wk.one [(.agg [.keep, .keep, .keep, .keep])] (Pk.fst (pk (Sh.fst (Sh.cons (Sh.agg (Sh.cons (Sh.int .u64) (Sh.cons (Sh.int .u64) (Sh.cons (Sh.int .u64) (Sh.fst (Sh.cons (Sh.int .u64) Sh.nil)))))) Sh.nil)) Sh.hnil)))
def F118_0 (v : (Int × Int × Int × Int) × Int × Int × Int × Int) : Option (Int × Int × Int × Int) :=
  let x2337 : Int := (IntKind.wrap .u64 (v.1.1 + (4294967296 : Int)))
  let x2338 : Int := (IntKind.wrap .u64 (x2337 - v.2.1))
  let x2339 : Int := (IntKind.wrap .u64 (x2338 - (0 : Int)))
  (F121_0 x2339).bind fun r2340 =>
  let x2341 : Int := (IntKind.wrap .u64 (Int.tdiv x2339 (4294967296 : Int)))
  let x2342 : Int := (IntKind.wrap .u64 ((1 : Int) - x2341))
  let x2343 : Int := (IntKind.wrap .u64 (v.1.2.1 + (4294967296 : Int)))
  let x2344 : Int := (IntKind.wrap .u64 (x2343 - v.2.2.1))
  let x2345 : Int := (IntKind.wrap .u64 (x2344 - x2342))
  (F121_0 x2345).bind fun r2346 =>
  let x2347 : Int := (IntKind.wrap .u64 (Int.tdiv x2345 (4294967296 : Int)))
  let x2348 : Int := (IntKind.wrap .u64 ((1 : Int) - x2347))
  let x2349 : Int := (IntKind.wrap .u64 (v.1.2.2.1 + (4294967296 : Int)))
  let x2350 : Int := (IntKind.wrap .u64 (x2349 - v.2.2.2.1))
  let x2351 : Int := (IntKind.wrap .u64 (x2350 - x2348))
  (F121_0 x2351).bind fun r2352 =>
  let x2353 : Int := (IntKind.wrap .u64 (Int.tdiv x2351 (4294967296 : Int)))
  let x2354 : Int := (IntKind.wrap .u64 ((1 : Int) - x2353))
  let x2355 : Int := (IntKind.wrap .u64 (v.1.2.2.2 + (4294967296 : Int)))
  let x2356 : Int := (IntKind.wrap .u64 (x2355 - v.2.2.2.2))
  let x2357 : Int := (IntKind.wrap .u64 (x2356 - x2354))
  (F121_0 x2357).bind fun r2358 =>
  some (r2340, (r2346, (r2352, r2358)))

noncomputable def k118_0 : List (Known Try.prog E) := [Known.of envOk [1] [.keep] v121_0 F121_0 w121_0 ok121_0]
noncomputable def L118_0 (n id : Nat) (st : St G) : Option (Int × Int × Int × Int) := none
set_option maxRecDepth 100000 in
theorem e118_0 (n : Nat) (v : (Int × Int × Int × Int) × Int × Int × Int × Int) : ev Try.prog E (oracle k118_0) Try.f118.ntmps (fun x => mem x []) (L118_0 n) (finF Try.prog E Try.f118.results.toList [[]] w118_0.alts) 4000 [.code (Try.f118.body.getD .skip)] (argSt (v118_0.enc v)) = F118_0 v := by kernel_rfl
theorem ok118_0 : FnOk Try.prog E 118 v118_0.enc F118_0 w118_0.enc :=
  fn_known (fn := Try.f118) (c := (Try.f118.body.getD .skip)) Try.func118 (by kernel_rfl) rfl envOk (oracle_ok k118_0) mixed v118_0 F118_0 w118_0 [] [[]] (by kernel_rfl) [] 4000 L118_0 (by kernel_rfl)
    (fun _ h => nomatch h) (fun v _ h => ⟨0, (e118_0 _ v).trans h⟩) (fun _ => by kernel_rfl) (fun _ => by kernel_rfl) (fun _ _ => by kernel_rfl)
/- chicane/chicaneref01.Add -/
abbrev A113_0 : Type := (Bool × Int × Int × Int × Int) × Bool × Int × Int × Int × Int
abbrev R113_0 : Type := (Bool × Int × Int × Int × Int) × Bool
def v113_0 : Pk G ((Bool × Int × Int × Int × Int) × Bool × Int × Int × Int × Int) := (Pk.fst (pk (Sh.cons (Sh.agg (Sh.cons Sh.bool (Sh.cons (Sh.int .u64) (Sh.cons (Sh.int .u64) (Sh.cons (Sh.int .u64) (Sh.fst (Sh.cons (Sh.int .u64) Sh.nil))))))) (Sh.fst (Sh.cons (Sh.agg (Sh.cons Sh.bool (Sh.cons (Sh.int .u64) (Sh.cons (Sh.int .u64) (Sh.cons (Sh.int .u64) (Sh.fst (Sh.cons (Sh.int .u64) Sh.nil))))))) Sh.nil))) Sh.hnil))
def w113_0 : Wk G ((Bool × Int × Int × Int × Int) × Bool) := (Wk.one [(.agg [.keep, .keep, .keep, .keep, .keep]), .keep] (Pk.fst (pk (Sh.cons (Sh.agg (Sh.cons Sh.bool (Sh.cons (Sh.int .u64) (Sh.cons (Sh.int .u64) (Sh.cons (Sh.int .u64) (Sh.fst (Sh.cons (Sh.int .u64) Sh.nil))))))) (Sh.fst (Sh.cons Sh.bool Sh.nil))) Sh.hnil)))
def F113_0 (v : (Bool × Int × Int × Int × Int) × Bool × Int × Int × Int × Int) : Option ((Bool × Int × Int × Int × Int) × Bool) :=
  bif (v.1.1 == v.2.1) then
    (F116_0 (v.1.2, v.2.2)).bind fun r2382 =>
    (F119_0 (v.1.1, r2382.1)).bind fun r2383 =>
    bif r2383 then
      (F120_0 (false, r2382.1)).bind fun r2384 =>
      bif (!(r2382.2 == (0 : Int))) then
        some ((false, ((0 : Int), ((0 : Int), ((0 : Int), (0 : Int))))), false)
      else
        bif (!r2384.2.2) then
          some ((false, ((0 : Int), ((0 : Int), ((0 : Int), (0 : Int))))), false)
        else
          some ((false, r2382.1), true)
    else
      (F120_0 (v.1.1, r2382.1)).bind fun r2385 =>
      bif (!(r2382.2 == (0 : Int))) then
        some ((false, ((0 : Int), ((0 : Int), ((0 : Int), (0 : Int))))), false)
      else
        bif (!r2385.2.2) then
          some ((false, ((0 : Int), ((0 : Int), ((0 : Int), (0 : Int))))), false)
        else
          some ((v.1.1, r2382.1), true)
  else
    (F117_0 (v.1.2, v.2.2)).bind fun r2386 =>
    bif r2386 then
      (F118_0 (v.2.2, v.1.2)).bind fun r2387 =>
      (F119_0 (v.2.1, r2387)).bind fun r2388 =>
      bif r2388 then
        (F120_0 (false, r2387)).bind fun r2389 =>
        bif (!r2389.2.2) then
          some ((false, ((0 : Int), ((0 : Int), ((0 : Int), (0 : Int))))), false)
        else
          some ((false, r2387), true)
      else
        (F120_0 (v.2.1, r2387)).bind fun r2390 =>
        bif (!r2390.2.2) then
          some ((false, ((0 : Int), ((0 : Int), ((0 : Int), (0 : Int))))), false)
        else
          some ((v.2.1, r2387), true)
    else
      (F118_0 (v.1.2, v.2.2)).bind fun r2391 =>
      (F119_0 (v.1.1, r2391)).bind fun r2392 =>
      bif r2392 then
        (F120_0 (false, r2391)).bind fun r2393 =>
        bif (!r2393.2.2) then
          some ((false, ((0 : Int), ((0 : Int), ((0 : Int), (0 : Int))))), false)
        else
          some ((false, r2391), true)
      else
        (F120_0 (v.1.1, r2391)).bind fun r2394 =>
        bif (!r2394.2.2) then
          some ((false, ((0 : Int), ((0 : Int), ((0 : Int), (0 : Int))))), false)
        else
          some ((v.1.1, r2391), true)

noncomputable def k113_0 : List (Known Try.prog E) := [Known.of envOk [9, 9] [(.agg [.keep, .keep, .keep, .keep]), (.agg [.keep, .keep, .keep, .keep])] v116_0 F116_0 w116_0 ok116_0, Known.of envOk [9] [(.agg [.keep, .keep, .keep, .keep, .keep])] v119_0 F119_0 w119_0 ok119_0, Known.of envOk [9] [(.agg [.keep, .keep, .keep, .keep, .keep])] v120_0 F120_0 w120_0 ok120_0, Known.of envOk [9, 9] [(.agg [.keep, .keep, .keep, .keep]), (.agg [.keep, .keep, .keep, .keep])] v117_0 F117_0 w117_0 ok117_0, Known.of envOk [9, 9] [(.agg [.keep, .keep, .keep, .keep]), (.agg [.keep, .keep, .keep, .keep])] v118_0 F118_0 w118_0 ok118_0]
noncomputable def L113_0 (n id : Nat) (st : St G) : Option ((Bool × Int × Int × Int × Int) × Bool) := none
set_option maxRecDepth 100000 in
theorem e113_0 (n : Nat) (v : (Bool × Int × Int × Int × Int) × Bool × Int × Int × Int × Int) : ev Try.prog E (oracle k113_0) Try.f113.ntmps (fun x => mem x []) (L113_0 n) (finF Try.prog E Try.f113.results.toList [[]] w113_0.alts) 4000 [.code (Try.f113.body.getD .skip)] (argSt (v113_0.enc v)) = F113_0 v := by kernel_rfl
theorem ok113_0 : FnOk Try.prog E 113 v113_0.enc F113_0 w113_0.enc :=
  fn_known (fn := Try.f113) (c := (Try.f113.body.getD .skip)) Try.func113 (by kernel_rfl) rfl envOk (oracle_ok k113_0) mixed v113_0 F113_0 w113_0 [] [[]] (by kernel_rfl) [] 4000 L113_0 (by kernel_rfl)
    (fun _ h => nomatch h) (fun v _ h => ⟨0, (e113_0 _ v).trans h⟩) (fun _ => by kernel_rfl) (fun _ => by kernel_rfl) (fun _ _ => by kernel_rfl)
/- chicane/chicaneref01.Sign -/
abbrev A122_0 : Type := Bool × Int × Int × Int × Int
abbrev R122_0 : Type := Int
def v122_0 : Pk G (Bool × Int × Int × Int × Int) := (Pk.fst (pk (Sh.fst (Sh.cons (Sh.agg (Sh.cons Sh.bool (Sh.cons (Sh.int .u64) (Sh.cons (Sh.int .u64) (Sh.cons (Sh.int .u64) (Sh.fst (Sh.cons (Sh.int .u64) Sh.nil))))))) Sh.nil)) Sh.hnil))
def w122_0 : Wk G Int := (Wk.one [.keep] (Pk.fst (pk (Sh.fst (Sh.cons (Sh.int .i64) Sh.nil)) Sh.hnil)))
def F122_0 (v : Bool × Int × Int × Int × Int) : Option Int :=
  (F119_0 v).bind fun r2402 =>
  bif r2402 then
    some (0 : Int)
  else
    bif v.1 then
      some (-1 : Int)
    else
      some (1 : Int)

noncomputable def k122_0 : List (Known Try.prog E) := [Known.of envOk [9] [(.agg [.keep, .keep, .keep, .keep, .keep])] v119_0 F119_0 w119_0 ok119_0]
noncomputable def L122_0 (n id : Nat) (st : St G) : Option Int := none
set_option maxRecDepth 100000 in
theorem e122_0 (n : Nat) (v : Bool × Int × Int × Int × Int) : ev Try.prog E (oracle k122_0) Try.f122.ntmps (fun x => mem x []) (L122_0 n) (finF Try.prog E Try.f122.results.toList [[]] w122_0.alts) 4000 [.code (Try.f122.body.getD .skip)] (argSt (v122_0.enc v)) = F122_0 v := by kernel_rfl
theorem ok122_0 : FnOk Try.prog E 122 v122_0.enc F122_0 w122_0.enc :=
  fn_known (fn := Try.f122) (c := (Try.f122.body.getD .skip)) Try.func122 (by kernel_rfl) rfl envOk (oracle_ok k122_0) mixed v122_0 F122_0 w122_0 [] [[]] (by kernel_rfl) [] 4000 L122_0 (by kernel_rfl)
    (fun _ h => nomatch h) (fun v _ h => ⟨0, (e122_0 _ v).trans h⟩) (fun _ => by kernel_rfl) (fun _ => by kernel_rfl) (fun _ _ => by kernel_rfl)
/- chicane/chicaneref01.square -/
abbrev A123_0 : Type := Int
abbrev R123_0 : Type := Int × Int × Int × Int
def v123_0 : Pk G Int := (Pk.fst (pk (Sh.fst (Sh.cons (Sh.int .u64) Sh.nil)) Sh.hnil))
def w123_0 : Wk G (Int × Int × Int × Int) := (Wk.one [(.agg [.keep, .keep, .keep, .keep])] (Pk.fst (pk (Sh.fst (Sh.cons (Sh.agg (Sh.cons (Sh.int .u64) (Sh.cons (Sh.int .u64) (Sh.cons (Sh.int .u64) (Sh.fst (Sh.cons (Sh.int .u64) Sh.nil)))))) Sh.nil)) Sh.hnil)))
def c123_0_4 : Pk G (Int × (Int × Int × Int × Int) × (Int × Int) × Int × Int × Int × Int) := (pk (Sh.snd (Sh.cons (Sh.ptr 0 0) (Sh.snd (Sh.cons (Sh.ptr 1 0) (Sh.snd (Sh.cons (Sh.ptr 2 0) (Sh.fst (Sh.cons (Sh.int .i64) Sh.nil)))))))) (Sh.hfix 2 138 (Sh.cons (Sh.int .u64) (Sh.cons (Sh.int .u64) (Sh.cons (Sh.int .u64) (Sh.fst (Sh.cons (Sh.int .u64) Sh.nil))))) (Sh.hfix 1 177 (Sh.cons (Sh.int .u64) (Sh.fst (Sh.cons (Sh.int .u64) Sh.nil))) (Sh.fst (Sh.hfix 0 138 (Sh.cons (Sh.int .u64) (Sh.cons (Sh.int .u64) (Sh.cons (Sh.int .u64) (Sh.fst (Sh.cons (Sh.int .u64) Sh.nil))))) Sh.hnil)))))
def c123_0_7 : Pk G ((Int × Int) × (Int × Int × Int × Int) × (Int × Int) × Int × Int × Int × Int) := (pk (Sh.snd (Sh.cons (Sh.ptr 0 0) (Sh.snd (Sh.cons (Sh.ptr 1 0) (Sh.snd (Sh.cons (Sh.ptr 2 0) (Sh.cons (Sh.int .i64) (Sh.fst (Sh.cons (Sh.int .i64) Sh.nil))))))))) (Sh.hfix 2 138 (Sh.cons (Sh.int .u64) (Sh.cons (Sh.int .u64) (Sh.cons (Sh.int .u64) (Sh.fst (Sh.cons (Sh.int .u64) Sh.nil))))) (Sh.hfix 1 177 (Sh.cons (Sh.int .u64) (Sh.fst (Sh.cons (Sh.int .u64) Sh.nil))) (Sh.fst (Sh.hfix 0 138 (Sh.cons (Sh.int .u64) (Sh.cons (Sh.int .u64) (Sh.cons (Sh.int .u64) (Sh.fst (Sh.cons (Sh.int .u64) Sh.nil))))) Sh.hnil)))))
def c123_0_11 : Pk G ((Int × Int × Int × Int) × (Int × Int × Int × Int) × (Int × Int) × Int × Int × Int × Int) := (pk (Sh.snd (Sh.cons (Sh.ptr 0 0) (Sh.snd (Sh.cons (Sh.ptr 1 0) (Sh.snd (Sh.cons (Sh.ptr 2 0) (Sh.cons (Sh.int .i64) (Sh.cons (Sh.int .i64) (Sh.cons (Sh.int .u64) (Sh.fst (Sh.cons (Sh.int .i64) Sh.nil))))))))))) (Sh.hfix 2 138 (Sh.cons (Sh.int .u64) (Sh.cons (Sh.int .u64) (Sh.cons (Sh.int .u64) (Sh.fst (Sh.cons (Sh.int .u64) Sh.nil))))) (Sh.hfix 1 177 (Sh.cons (Sh.int .u64) (Sh.fst (Sh.cons (Sh.int .u64) Sh.nil))) (Sh.fst (Sh.hfix 0 138 (Sh.cons (Sh.int .u64) (Sh.cons (Sh.int .u64) (Sh.cons (Sh.int .u64) (Sh.fst (Sh.cons (Sh.int .u64) Sh.nil))))) Sh.hnil)))))
def B123_0_4 (K : ((Int × (Int × Int × Int × Int) × (Int × Int) × Int × Int × Int × Int) → Option (Int × Int × Int × Int)) × (((Int × Int) × (Int × Int × Int × Int) × (Int × Int) × Int × Int × Int × Int) → Option (Int × Int × Int × Int)) × (((Int × Int × Int × Int) × (Int × Int × Int × Int) × (Int × Int) × Int × Int × Int × Int) → Option (Int × Int × Int × Int))) (v : Int × (Int × Int × Int × Int) × (Int × Int) × Int × Int × Int × Int) : Option (Int × Int × Int × Int) :=
  bif (decide (v.1 < (2 : Int))) then
    K.2.1 ((v.1, (0 : Int)), v.2)
  else
    some (v.2.1)

def B123_0_7 (K : ((Int × (Int × Int × Int × Int) × (Int × Int) × Int × Int × Int × Int) → Option (Int × Int × Int × Int)) × (((Int × Int) × (Int × Int × Int × Int) × (Int × Int) × Int × Int × Int × Int) → Option (Int × Int × Int × Int)) × (((Int × Int × Int × Int) × (Int × Int × Int × Int) × (Int × Int) × Int × Int × Int × Int) → Option (Int × Int × Int × Int))) (v : (Int × Int) × (Int × Int × Int × Int) × (Int × Int) × Int × Int × Int × Int) : Option (Int × Int × Int × Int) :=
  bif (decide (v.1.2 < (2 : Int))) then
    (idx v.1.1 2).bind fun (x2478 : Nat) =>
    (idx v.1.2 2).bind fun (x2479 : Nat) =>
    let x2480 : Int := (IntKind.wrap .u64 ((List.getD [v.2.2.1.1, v.2.2.1.2] x2478 0) * (List.getD [v.2.2.1.1, v.2.2.1.2] x2479 0)))
    let x2481 : Int := (IntKind.wrap .i64 (v.1.1 + v.1.2))
    K.2.2 ((v.1.1, (v.1.2, (x2480, x2481))), v.2)
  else
    let x2482 : Int := (IntKind.wrap .i64 (v.1.1 + (1 : Int)))
    K.1 (x2482, v.2)

def B123_0_11 (K : ((Int × (Int × Int × Int × Int) × (Int × Int) × Int × Int × Int × Int) → Option (Int × Int × Int × Int)) × (((Int × Int) × (Int × Int × Int × Int) × (Int × Int) × Int × Int × Int × Int) → Option (Int × Int × Int × Int)) × (((Int × Int × Int × Int) × (Int × Int × Int × Int) × (Int × Int) × Int × Int × Int × Int) → Option (Int × Int × Int × Int))) (v : (Int × Int × Int × Int) × (Int × Int × Int × Int) × (Int × Int) × Int × Int × Int × Int) : Option (Int × Int × Int × Int) :=
  bif (decide (v.1.2.2.2 < (4 : Int))) then
    bif (decide (v.1.2.2.1 > (0 : Int))) then
      (idx v.1.2.2.2 4).bind fun (x2483 : Nat) =>
      (F121_0 v.1.2.2.1).bind fun r2484 =>
      let x2485 : Int := (IntKind.wrap .u64 ((List.getD [v.2.1.1, v.2.1.2.1, v.2.1.2.2.1, v.2.1.2.2.2] x2483 0) + r2484))
      (F121_0 x2485).bind fun r2486 =>
      (idx v.1.2.2.2 4).bind fun (x2487 : Nat) =>
      let x2488 : Int := (IntKind.wrap .u64 (Int.tdiv v.1.2.2.1 (4294967296 : Int)))
      let x2489 : Int := (IntKind.wrap .u64 (Int.tdiv x2485 (4294967296 : Int)))
      let x2490 : Int := (IntKind.wrap .u64 (x2488 + x2489))
      let x2491 : Int := (IntKind.wrap .i64 (v.1.2.2.2 + (1 : Int)))
      K.2.2 ((v.1.1, (v.1.2.1, (x2490, x2491))), (((if x2487 = 0 then r2486 else v.2.1.1), ((if x2487 = 1 then r2486 else v.2.1.2.1), ((if x2487 = 2 then r2486 else v.2.1.2.2.1), (if x2487 = 3 then r2486 else v.2.1.2.2.2)))), v.2.2))
    else
      let x2492 : Int := (IntKind.wrap .i64 (v.1.2.1 + (1 : Int)))
      K.2.1 ((v.1.1, x2492), v.2)
  else
    let x2493 : Int := (IntKind.wrap .i64 (v.1.2.1 + (1 : Int)))
    K.2.1 ((v.1.1, x2493), v.2)

def E123_0 (K : ((Int × (Int × Int × Int × Int) × (Int × Int) × Int × Int × Int × Int) → Option (Int × Int × Int × Int)) × (((Int × Int) × (Int × Int × Int × Int) × (Int × Int) × Int × Int × Int × Int) → Option (Int × Int × Int × Int)) × (((Int × Int × Int × Int) × (Int × Int × Int × Int) × (Int × Int) × Int × Int × Int × Int) → Option (Int × Int × Int × Int))) (v : Int) : Option (Int × Int × Int × Int) :=
  (F121_0 v).bind fun r2476 =>
  let x2477 : Int := (IntKind.wrap .u64 (Int.tdiv v (4294967296 : Int)))
  K.1 ((0 : Int), (((0 : Int), ((0 : Int), ((0 : Int), (0 : Int)))), ((r2476, x2477), ((0 : Int), ((0 : Int), ((0 : Int), (0 : Int)))))))

def K123_0 : Nat → ((Int × (Int × Int × Int × Int) × (Int × Int) × Int × Int × Int × Int) → Option (Int × Int × Int × Int)) × (((Int × Int) × (Int × Int × Int × Int) × (Int × Int) × Int × Int × Int × Int) → Option (Int × Int × Int × Int)) × (((Int × Int × Int × Int) × (Int × Int × Int × Int) × (Int × Int) × Int × Int × Int × Int) → Option (Int × Int × Int × Int))
  | 0 => (fun _ => none, fun _ => none, fun _ => none)
  | n + 1 => (B123_0_4 (K123_0 n), B123_0_7 (K123_0 n), B123_0_11 (K123_0 n))
def fuel123_0 (v : Int) : Nat := 1000
def F123_0 (v : Int) : Option (Int × Int × Int × Int) := E123_0 (K123_0 (fuel123_0 v)) v
noncomputable def k123_0 : List (Known Try.prog E) := [Known.of envOk [1] [.keep] v121_0 F121_0 w121_0 ok121_0]
def s123_0_11 : List (Nat × Pat) := [(2, (.ptr 0 0 138 [.keep, .keep, .keep, .keep])), (3, (.ptr 1 0 177 [.keep, .keep])), (4, (.ptr 2 0 138 [.keep, .keep, .keep, .keep])), (5, .keep), (6, .keep), (7, .keep), (8, .keep)]
def s123_0_7 : List (Nat × Pat) := [(2, (.ptr 0 0 138 [.keep, .keep, .keep, .keep])), (3, (.ptr 1 0 177 [.keep, .keep])), (4, (.ptr 2 0 138 [.keep, .keep, .keep, .keep])), (5, .keep), (6, .keep)]
def s123_0_4 : List (Nat × Pat) := [(2, (.ptr 0 0 138 [.keep, .keep, .keep, .keep])), (3, (.ptr 1 0 177 [.keep, .keep])), (4, (.ptr 2 0 138 [.keep, .keep, .keep, .keep])), (5, .keep)]
noncomputable def L123_0 (n id : Nat) (st : St G) : Option (Int × Int × Int × Int) := match Nat.beq id 4 with | true => cutK Try.prog s123_0_4 [] c123_0_4.dec (K123_0 n).1 st | false => match Nat.beq id 7 with | true => cutK Try.prog s123_0_7 [] c123_0_7.dec (K123_0 n).2.1 st | false => match Nat.beq id 11 with | true => cutK Try.prog s123_0_11 [] c123_0_11.dec (K123_0 n).2.2 st | false => none
set_option maxRecDepth 100000 in
theorem e123_0 (n : Nat) (v : Int) : ev Try.prog E (oracle k123_0) Try.f123.ntmps (fun x => mem x [4, 7, 11]) (L123_0 n) (finF Try.prog E Try.f123.results.toList [[]] w123_0.alts) 4000 [.code (Try.f123.body.getD .skip)] (argSt (v123_0.enc v)) = E123_0 (K123_0 n) v := by kernel_rfl
set_option maxRecDepth 100000 in
theorem b123_0_4 (n : Nat) (v : Int × (Int × Int × Int × Int) × (Int × Int) × Int × Int × Int × Int) : evCut Try.prog E (oracle k123_0) false 123 Try.f123.ntmps (fun x => mem x [4, 7, 11]) (L123_0 n) (finF Try.prog E Try.f123.results.toList [[]] w123_0.alts) 4000 (todoAt (Try.f123.body.getD .skip) 4) (cutSt s123_0_4 (c123_0_4.enc v)) = B123_0_4 (K123_0 n) v := by kernel_rfl
set_option maxRecDepth 100000 in
theorem b123_0_7 (n : Nat) (v : (Int × Int) × (Int × Int × Int × Int) × (Int × Int) × Int × Int × Int × Int) : evCut Try.prog E (oracle k123_0) false 123 Try.f123.ntmps (fun x => mem x [4, 7, 11]) (L123_0 n) (finF Try.prog E Try.f123.results.toList [[]] w123_0.alts) 4000 (todoAt (Try.f123.body.getD .skip) 7) (cutSt s123_0_7 (c123_0_7.enc v)) = B123_0_7 (K123_0 n) v := by kernel_rfl
set_option maxRecDepth 100000 in
theorem b123_0_11 (n : Nat) (v : (Int × Int × Int × Int) × (Int × Int × Int × Int) × (Int × Int) × Int × Int × Int × Int) : evCut Try.prog E (oracle k123_0) false 123 Try.f123.ntmps (fun x => mem x [4, 7, 11]) (L123_0 n) (finF Try.prog E Try.f123.results.toList [[]] w123_0.alts) 4000 (todoAt (Try.f123.body.getD .skip) 11) (cutSt s123_0_11 (c123_0_11.enc v)) = B123_0_11 (K123_0 n) v := by kernel_rfl
theorem ok123_0 : FnOk Try.prog E 123 v123_0.enc F123_0 w123_0.enc :=
  fn_known (fn := Try.f123) (c := (Try.f123.body.getD .skip)) Try.func123 (by kernel_rfl) rfl envOk (oracle_ok k123_0) mixed v123_0 F123_0 w123_0 [] [[]] (by kernel_rfl) [4, 7, 11] 4000 L123_0 (by kernel_rfl)
    (List.forall_mem_cons.2 ⟨⟨_, [], s123_0_4, c123_0_4.dec, c123_0_4.enc, fun n => (K123_0 n).1, c123_0_4.ok, fun _ _ => rfl, fun _ => rfl, by kernel_rfl, fun n v _ h => (b123_0_4 n v).trans h⟩, List.forall_mem_cons.2 ⟨⟨_, [], s123_0_7, c123_0_7.dec, c123_0_7.enc, fun n => (K123_0 n).2.1, c123_0_7.ok, fun _ _ => rfl, fun _ => rfl, by kernel_rfl, fun n v _ h => (b123_0_7 n v).trans h⟩, List.forall_mem_cons.2 ⟨⟨_, [], s123_0_11, c123_0_11.dec, c123_0_11.enc, fun n => (K123_0 n).2.2, c123_0_11.ok, fun _ _ => rfl, fun _ => rfl, by kernel_rfl, fun n v _ h => (b123_0_11 n v).trans h⟩, fun _ h => (nomatch h)⟩⟩⟩) (fun v _ h => ⟨fuel123_0 v, (e123_0 _ v).trans h⟩) (fun _ => by kernel_rfl) (fun _ => by kernel_rfl) (fun _ _ => by kernel_rfl)
/- chicane/chicaneref01.Root -/
abbrev A115_0 : Type := Bool × Int × Int × Int × Int
abbrev R115_0 : Type := Int
def v115_0 : Pk G (Bool × Int × Int × Int × Int) := (Pk.fst (pk (Sh.fst (Sh.cons (Sh.agg (Sh.cons Sh.bool (Sh.cons (Sh.int .u64) (Sh.cons (Sh.int .u64) (Sh.cons (Sh.int .u64) (Sh.fst (Sh.cons (Sh.int .u64) Sh.nil))))))) Sh.nil)) Sh.hnil))
def w115_0 : Wk G Int := (Wk.one [.keep] (Pk.fst (pk (Sh.fst (Sh.cons (Sh.int .u64) Sh.nil)) Sh.hnil)))
def c115_0_5 : Pk G ((Int × Int) × Bool × Int × Int × Int × Int) := (pk (Sh.snd (Sh.cons (Sh.ptr 0 0) (Sh.cons (Sh.int .u64) (Sh.fst (Sh.cons (Sh.int .i64) Sh.nil))))) (Sh.fst (Sh.hfix 0 164 (Sh.cons Sh.bool (Sh.cons (Sh.int .u64) (Sh.cons (Sh.int .u64) (Sh.cons (Sh.int .u64) (Sh.fst (Sh.cons (Sh.int .u64) Sh.nil)))))) Sh.hnil)))
def B115_0_5 (K : (((Int × Int) × Bool × Int × Int × Int × Int) → Option Int)) (v : (Int × Int) × Bool × Int × Int × Int × Int) : Option Int :=
  bif (decide (v.1.2 ≥ (0 : Int))) then
    let x2508 : Int := (IntKind.wrap .u64 v.1.2)
    (chk (decide (0 ≤ x2508))).bind fun _ =>
    let x2509 : Int := (IntKind.wrap .u64 ((1 : Int) * 2 ^ min (x2508).toNat 64))
    let x2510 : Int := (IntKind.wrap .u64 (v.1.1 + x2509))
    (F123_0 x2510).bind fun r2511 =>
    (F117_0 (v.2.2, r2511)).bind fun r2512 =>
    bif (!r2512) then
      let x2513 : Int := (IntKind.wrap .i64 (v.1.2 - (1 : Int)))
      K ((x2510, x2513), v.2)
    else
      let x2514 : Int := (IntKind.wrap .i64 (v.1.2 - (1 : Int)))
      K ((v.1.1, x2514), v.2)
  else
    some (v.1.1)

def E115_0 (K : (((Int × Int) × Bool × Int × Int × Int × Int) → Option Int)) (v : Bool × Int × Int × Int × Int) : Option Int :=
  (F122_0 v).bind fun r2507 =>
  bif (decide (r2507 ≤ (0 : Int))) then
    some (0 : Int)
  else
    K (((0 : Int), (63 : Int)), v)

def K115_0 : Nat → (((Int × Int) × Bool × Int × Int × Int × Int) → Option Int)
  | 0 => (fun _ => none)
  | n + 1 => (B115_0_5 (K115_0 n))
def fuel115_0 (v : Bool × Int × Int × Int × Int) : Nat := 1000
def F115_0 (v : Bool × Int × Int × Int × Int) : Option Int := E115_0 (K115_0 (fuel115_0 v)) v
noncomputable def k115_0 : List (Known Try.prog E) := [Known.of envOk [9] [(.agg [.keep, .keep, .keep, .keep, .keep])] v122_0 F122_0 w122_0 ok122_0, Known.of envOk [1] [.keep] v123_0 F123_0 w123_0 ok123_0, Known.of envOk [9, 9] [(.agg [.keep, .keep, .keep, .keep]), (.agg [.keep, .keep, .keep, .keep])] v117_0 F117_0 w117_0 ok117_0]
def s115_0_5 : List (Nat × Pat) := [(1, (.ptr 0 0 164 [.keep, .keep, .keep, .keep, .keep])), (3, .keep), (4, .keep)]
noncomputable def L115_0 (n id : Nat) (st : St G) : Option Int := match Nat.beq id 5 with | true => cutK Try.prog s115_0_5 [] c115_0_5.dec (K115_0 n) st | false => none
set_option maxRecDepth 100000 in
theorem e115_0 (n : Nat) (v : Bool × Int × Int × Int × Int) : ev Try.prog E (oracle k115_0) Try.f115.ntmps (fun x => mem x [5]) (L115_0 n) (finF Try.prog E Try.f115.results.toList [[]] w115_0.alts) 4000 [.code (Try.f115.body.getD .skip)] (argSt (v115_0.enc v)) = E115_0 (K115_0 n) v := by kernel_rfl
set_option maxRecDepth 100000 in
theorem b115_0_5 (n : Nat) (v : (Int × Int) × Bool × Int × Int × Int × Int) : evCut Try.prog E (oracle k115_0) false 115 Try.f115.ntmps (fun x => mem x [5]) (L115_0 n) (finF Try.prog E Try.f115.results.toList [[]] w115_0.alts) 4000 (todoAt (Try.f115.body.getD .skip) 5) (cutSt s115_0_5 (c115_0_5.enc v)) = B115_0_5 (K115_0 n) v := by kernel_rfl
theorem ok115_0 : FnOk Try.prog E 115 v115_0.enc F115_0 w115_0.enc :=
  fn_known (fn := Try.f115) (c := (Try.f115.body.getD .skip)) Try.func115 (by kernel_rfl) rfl envOk (oracle_ok k115_0) mixed v115_0 F115_0 w115_0 [] [[]] (by kernel_rfl) [5] 4000 L115_0 (by kernel_rfl)
    (List.forall_mem_cons.2 ⟨⟨_, [], s115_0_5, c115_0_5.dec, c115_0_5.enc, fun n => (K115_0 n), c115_0_5.ok, fun _ _ => rfl, fun _ => rfl, by kernel_rfl, fun n v _ h => (b115_0_5 n v).trans h⟩, fun _ h => (nomatch h)⟩) (fun v _ h => ⟨fuel115_0 v, (e115_0 _ v).trans h⟩) (fun _ => by kernel_rfl) (fun _ => by kernel_rfl) (fun _ _ => by kernel_rfl)
/- chicane/chicaneref03.Len4 -/
abbrev A111_0 : Type := (Int × Int × Int × Int) × Bool
abbrev R111_0 : Type := Int × Bool
def v111_0 : Pk G ((Int × Int × Int × Int) × Bool) := (pk (Sh.snd (Sh.cons (Sh.ptr 0 0) (Sh.cons (Sh.int .i64) (Sh.cons (Sh.int .i64) (Sh.cons (Sh.int .i64) (Sh.fst (Sh.cons (Sh.int .i64) Sh.nil))))))) (Sh.fst (Sh.hfix 0 52 (Sh.fst (Sh.cons Sh.bool Sh.nil)) Sh.hnil)))
def w111_0 : Wk G (Int × Bool) := (Wk.one [.keep] (pk (Sh.fst (Sh.cons (Sh.int .i64) Sh.nil)) (Sh.fst (Sh.hfix 0 52 (Sh.fst (Sh.cons Sh.bool Sh.nil)) Sh.hnil))))
def F111_0 (v : (Int × Int × Int × Int) × Bool) : Option (Int × Bool) :=
  (F114_0 (v.1.1, v.1.1)).bind fun r2542 =>
  (F114_0 (v.1.2.1, v.1.2.1)).bind fun r2543 =>
  (F113_0 (r2542, r2543)).bind fun r2544 =>
  bif r2544.2 then
    (F114_0 (v.1.2.2.1, v.1.2.2.1)).bind fun r2545 =>
    (F113_0 (r2544.1, r2545)).bind fun r2546 =>
    bif r2546.2 then
      (F114_0 (v.1.2.2.2, v.1.2.2.2)).bind fun r2547 =>
      (F113_0 (r2546.1, r2547)).bind fun r2548 =>
      bif r2548.2 then
        (F115_0 r2548.1).bind fun r2549 =>
        bif (!r2548.2) then
          some ((9223372036854775807 : Int), true)
        else
          bif (decide (r2549 > (9223372036854775807 : Int))) then
            some ((9223372036854775807 : Int), true)
          else
            let x2550 : Int := (IntKind.wrap .i64 r2549)
            some (x2550, v.2)
      else
        bif (!r2548.2) then
          some ((9223372036854775807 : Int), true)
        else
          some ((0 : Int), v.2)
    else
      bif r2546.2 then
        (F115_0 r2546.1).bind fun r2551 =>
        bif (!r2546.2) then
          some ((9223372036854775807 : Int), true)
        else
          bif (decide (r2551 > (9223372036854775807 : Int))) then
            some ((9223372036854775807 : Int), true)
          else
            let x2552 : Int := (IntKind.wrap .i64 r2551)
            some (x2552, v.2)
      else
        bif (!r2546.2) then
          some ((9223372036854775807 : Int), true)
        else
          some ((0 : Int), v.2)
  else
    bif r2544.2 then
      (F114_0 (v.1.2.2.2, v.1.2.2.2)).bind fun r2553 =>
      (F113_0 (r2544.1, r2553)).bind fun r2554 =>
      bif r2554.2 then
        (F115_0 r2554.1).bind fun r2555 =>
        bif (!r2554.2) then
          some ((9223372036854775807 : Int), true)
        else
          bif (decide (r2555 > (9223372036854775807 : Int))) then
            some ((9223372036854775807 : Int), true)
          else
            let x2556 : Int := (IntKind.wrap .i64 r2555)
            some (x2556, v.2)
      else
        bif (!r2554.2) then
          some ((9223372036854775807 : Int), true)
        else
          some ((0 : Int), v.2)
    else
      bif r2544.2 then
        (F115_0 r2544.1).bind fun r2557 =>
        bif (!r2544.2) then
          some ((9223372036854775807 : Int), true)
        else
          bif (decide (r2557 > (9223372036854775807 : Int))) then
            some ((9223372036854775807 : Int), true)
          else
            let x2558 : Int := (IntKind.wrap .i64 r2557)
            some (x2558, v.2)
      else
        bif (!r2544.2) then
          some ((9223372036854775807 : Int), true)
        else
          some ((0 : Int), v.2)

noncomputable def k111_0 : List (Known Try.prog E) := [Known.of envOk [1, 1] [.keep, .keep] v114_0 F114_0 w114_0 ok114_0, Known.of envOk [9, 9] [(.agg [.keep, .keep, .keep, .keep, .keep]), (.agg [.keep, .keep, .keep, .keep, .keep])] v113_0 F113_0 w113_0 ok113_0, Known.of envOk [9] [(.agg [.keep, .keep, .keep, .keep, .keep])] v115_0 F115_0 w115_0 ok115_0]
noncomputable def L111_0 (n id : Nat) (st : St G) : Option (Int × Bool) := none
set_option maxRecDepth 100000 in
theorem e111_0 (n : Nat) (v : (Int × Int × Int × Int) × Bool) : ev Try.prog E (oracle k111_0) Try.f111.ntmps (fun x => mem x []) (L111_0 n) (finF Try.prog E Try.f111.results.toList [[(.ptr 0 0 52 [.keep])]] w111_0.alts) 4000 [.code (Try.f111.body.getD .skip)] (argSt (v111_0.enc v)) = F111_0 v := by kernel_rfl
theorem ok111_0 : FnOk Try.prog E 111 v111_0.enc F111_0 w111_0.enc :=
  fn_known (fn := Try.f111) (c := (Try.f111.body.getD .skip)) Try.func111 (by kernel_rfl) rfl envOk (oracle_ok k111_0) mixed v111_0 F111_0 w111_0 [(.ptr 0 0 52 [.keep])] [[(.ptr 0 0 52 [.keep])]] (by kernel_rfl) [] 4000 L111_0 (by kernel_rfl)
    (fun _ h => nomatch h) (fun v _ h => ⟨0, (e111_0 _ v).trans h⟩) (fun _ => by kernel_rfl) (fun _ => by kernel_rfl) (fun _ _ => by kernel_rfl)
/- chicane/chicaneref03.Len3 -/
abbrev A108_0 : Type := (Int × Int × Int) × Bool
abbrev R108_0 : Type := Int × Bool
def v108_0 : Pk G ((Int × Int × Int) × Bool) := (pk (Sh.snd (Sh.cons (Sh.ptr 0 0) (Sh.cons (Sh.int .i64) (Sh.cons (Sh.int .i64) (Sh.fst (Sh.cons (Sh.int .i64) Sh.nil)))))) (Sh.fst (Sh.hfix 0 52 (Sh.fst (Sh.cons Sh.bool Sh.nil)) Sh.hnil)))
def w108_0 : Wk G (Int × Bool) := (Wk.one [.keep] (pk (Sh.fst (Sh.cons (Sh.int .i64) Sh.nil)) (Sh.fst (Sh.hfix 0 52 (Sh.fst (Sh.cons Sh.bool Sh.nil)) Sh.hnil))))
def F108_0 (v : (Int × Int × Int) × Bool) : Option (Int × Bool) :=
  (F111_0 (((0 : Int), v.1), v.2)).bind fun r2561 =>
  some (r2561)

noncomputable def k108_0 : List (Known Try.prog E) := [Known.of envOk [5, 1, 1, 1, 1] [(.ptr 0 0 52 [.keep]), .keep, .keep, .keep, .keep] v111_0 F111_0 w111_0 ok111_0]
noncomputable def L108_0 (n id : Nat) (st : St G) : Option (Int × Bool) := none
set_option maxRecDepth 100000 in
theorem e108_0 (n : Nat) (v : (Int × Int × Int) × Bool) : ev Try.prog E (oracle k108_0) Try.f108.ntmps (fun x => mem x []) (L108_0 n) (finF Try.prog E Try.f108.results.toList [[(.ptr 0 0 52 [.keep])]] w108_0.alts) 4000 [.code (Try.f108.body.getD .skip)] (argSt (v108_0.enc v)) = F108_0 v := by kernel_rfl
theorem ok108_0 : FnOk Try.prog E 108 v108_0.enc F108_0 w108_0.enc :=
  fn_known (fn := Try.f108) (c := (Try.f108.body.getD .skip)) Try.func108 (by kernel_rfl) rfl envOk (oracle_ok k108_0) mixed v108_0 F108_0 w108_0 [(.ptr 0 0 52 [.keep])] [[(.ptr 0 0 52 [.keep])]] (by kernel_rfl) [] 4000 L108_0 (by kernel_rfl)
    (fun _ h => nomatch h) (fun v _ h => ⟨0, (e108_0 _ v).trans h⟩) (fun _ => by kernel_rfl) (fun _ => by kernel_rfl) (fun _ _ => by kernel_rfl)
/- chicane/chicaneref03.Unit3 -/
abbrev A103_0 : Type := (Int × Int × Int) × Bool
abbrev R103_0 : Type := (Int × Int × Int × Bool) × Bool
def v103_0 : Pk G ((Int × Int × Int) × Bool) := (pk (Sh.snd (Sh.cons (Sh.ptr 0 0) (Sh.cons (Sh.int .i64) (Sh.cons (Sh.int .i64) (Sh.fst (Sh.cons (Sh.int .i64) Sh.nil)))))) (Sh.fst (Sh.hfix 0 52 (Sh.fst (Sh.cons Sh.bool Sh.nil)) Sh.hnil)))
def w103_0 : Wk G ((Int × Int × Int × Bool) × Bool) := (Wk.one [.keep, .keep, .keep, .keep] (pk (Sh.cons (Sh.int .i64) (Sh.cons (Sh.int .i64) (Sh.cons (Sh.int .i64) (Sh.fst (Sh.cons Sh.bool Sh.nil))))) (Sh.fst (Sh.hfix 0 52 (Sh.fst (Sh.cons Sh.bool Sh.nil)) Sh.hnil))))
def F103_0 (v : (Int × Int × Int) × Bool) : Option ((Int × Int × Int × Bool) × Bool) :=
  (F108_0 v).bind fun r2570 =>
  bif (r2570.1 == (0 : Int)) then
    some (((0 : Int), ((0 : Int), ((0 : Int), false))), r2570.2)
  else
    (F55_0 ((v.1.1, r2570.1), r2570.2)).bind fun r2571 =>
    (F55_0 ((v.1.2.1, r2570.1), r2571.2)).bind fun r2572 =>
    (F55_0 ((v.1.2.2, r2570.1), r2572.2)).bind fun r2573 =>
    some ((r2571.1, (r2572.1, (r2573.1, true))), r2573.2)

noncomputable def k103_0 : List (Known Try.prog E) := [Known.of envOk [5, 1, 1, 1] [(.ptr 0 0 52 [.keep]), .keep, .keep, .keep] v108_0 F108_0 w108_0 ok108_0, Known.of envOk [5, 1, 1] [(.ptr 0 0 52 [.keep]), .keep, .keep] v55_0 F55_0 w55_0 ok55_0]
noncomputable def L103_0 (n id : Nat) (st : St G) : Option ((Int × Int × Int × Bool) × Bool) := none
set_option maxRecDepth 100000 in
theorem e103_0 (n : Nat) (v : (Int × Int × Int) × Bool) : ev Try.prog E (oracle k103_0) Try.f103.ntmps (fun x => mem x []) (L103_0 n) (finF Try.prog E Try.f103.results.toList [[(.ptr 0 0 52 [.keep])]] w103_0.alts) 4000 [.code (Try.f103.body.getD .skip)] (argSt (v103_0.enc v)) = F103_0 v := by kernel_rfl
theorem ok103_0 : FnOk Try.prog E 103 v103_0.enc F103_0 w103_0.enc :=
  fn_known (fn := Try.f103) (c := (Try.f103.body.getD .skip)) Try.func103 (by kernel_rfl) rfl envOk (oracle_ok k103_0) mixed v103_0 F103_0 w103_0 [(.ptr 0 0 52 [.keep])] [[(.ptr 0 0 52 [.keep])]] (by kernel_rfl) [] 4000 L103_0 (by kernel_rfl)
    (fun _ h => nomatch h) (fun v _ h => ⟨0, (e103_0 _ v).trans h⟩) (fun _ => by kernel_rfl) (fun _ => by kernel_rfl) (fun _ _ => by kernel_rfl)
/- chicane/chicaneref05.Unit -/
abbrev A90_0 : Type := (Int × Int × Int) × Bool
abbrev R90_0 : Type := ((Int × Int × Int) × Bool) × Bool
def v90_0 : Pk G ((Int × Int × Int) × Bool) := (pk (Sh.snd (Sh.cons (Sh.ptr 0 0) (Sh.fst (Sh.cons (Sh.agg (Sh.cons (Sh.int .i64) (Sh.cons (Sh.int .i64) (Sh.fst (Sh.cons (Sh.int .i64) Sh.nil))))) Sh.nil)))) (Sh.fst (Sh.hfix 0 52 (Sh.fst (Sh.cons Sh.bool Sh.nil)) Sh.hnil)))
def w90_0 : Wk G (((Int × Int × Int) × Bool) × Bool) := (Wk.one [(.agg [.keep, .keep, .keep]), .keep] (pk (Sh.cons (Sh.agg (Sh.cons (Sh.int .i64) (Sh.cons (Sh.int .i64) (Sh.fst (Sh.cons (Sh.int .i64) Sh.nil))))) (Sh.fst (Sh.cons Sh.bool Sh.nil))) (Sh.fst (Sh.hfix 0 52 (Sh.fst (Sh.cons Sh.bool Sh.nil)) Sh.hnil))))
def F90_0 (v : (Int × Int × Int) × Bool) : Option (((Int × Int × Int) × Bool) × Bool) :=
  (F103_0 v).bind fun r2576 =>
  some (((r2576.1.1, (r2576.1.2.1, r2576.1.2.2.1)), r2576.1.2.2.2), r2576.2)

noncomputable def k90_0 : List (Known Try.prog E) := [Known.of envOk [5, 1, 1, 1] [(.ptr 0 0 52 [.keep]), .keep, .keep, .keep] v103_0 F103_0 w103_0 ok103_0]
noncomputable def L90_0 (n id : Nat) (st : St G) : Option (((Int × Int × Int) × Bool) × Bool) := none
set_option maxRecDepth 100000 in
theorem e90_0 (n : Nat) (v : (Int × Int × Int) × Bool) : ev Try.prog E (oracle k90_0) Try.f90.ntmps (fun x => mem x []) (L90_0 n) (finF Try.prog E Try.f90.results.toList [[(.ptr 0 0 52 [.keep])]] w90_0.alts) 4000 [.code (Try.f90.body.getD .skip)] (argSt (v90_0.enc v)) = F90_0 v := by kernel_rfl
theorem ok90_0 : FnOk Try.prog E 90 v90_0.enc F90_0 w90_0.enc :=
  fn_known (fn := Try.f90) (c := (Try.f90.body.getD .skip)) Try.func90 (by kernel_rfl) rfl envOk (oracle_ok k90_0) mixed v90_0 F90_0 w90_0 [(.ptr 0 0 52 [.keep])] [[(.ptr 0 0 52 [.keep])]] (by kernel_rfl) [] 4000 L90_0 (by kernel_rfl)
    (fun _ h => nomatch h) (fun v _ h => ⟨0, (e90_0 _ v).trans h⟩) (fun _ => by kernel_rfl) (fun _ => by kernel_rfl) (fun _ _ => by kernel_rfl)
/- chicane/chicaneref12.Up -/
abbrev A60_0 : Type := (Int × Int) × Bool
abbrev R60_0 : Type := (Int × Int × Int) × Bool
def v60_0 : Pk G ((Int × Int) × Bool) := (pk (Sh.snd (Sh.cons (Sh.ptr 0 0) (Sh.cons (Sh.int .i64) (Sh.fst (Sh.cons (Sh.int .i64) Sh.nil))))) (Sh.fst (Sh.hfix 0 52 (Sh.fst (Sh.cons Sh.bool Sh.nil)) Sh.hnil)))
def w60_0 : Wk G ((Int × Int × Int) × Bool) := (Wk.one [(.agg [.keep, .keep, .keep])] (pk (Sh.fst (Sh.cons (Sh.agg (Sh.cons (Sh.int .i64) (Sh.cons (Sh.int .i64) (Sh.fst (Sh.cons (Sh.int .i64) Sh.nil))))) Sh.nil)) (Sh.fst (Sh.hfix 0 52 (Sh.fst (Sh.cons Sh.bool Sh.nil)) Sh.hnil))))
def F60_0 (v : (Int × Int) × Bool) : Option ((Int × Int × Int) × Bool) :=
  (F91_0 (v.1.1, v.2)).bind fun r2581 =>
  (F91_0 (v.1.2, r2581.2)).bind fun r2582 =>
  (F90_0 ((r2581.1, (r2582.1, (4294967296 : Int))), r2582.2)).bind fun r2583 =>
  some (r2583.1.1, r2583.2)

noncomputable def k60_0 : List (Known Try.prog E) := [Known.of envOk [5, 1] [(.ptr 0 0 52 [.keep]), .keep] v91_0 F91_0 w91_0 ok91_0, Known.of envOk [5, 9] [(.ptr 0 0 52 [.keep]), (.agg [.keep, .keep, .keep])] v90_0 F90_0 w90_0 ok90_0]
noncomputable def L60_0 (n id : Nat) (st : St G) : Option ((Int × Int × Int) × Bool) := none
set_option maxRecDepth 100000 in
theorem e60_0 (n : Nat) (v : (Int × Int) × Bool) : ev Try.prog E (oracle k60_0) Try.f60.ntmps (fun x => mem x []) (L60_0 n) (finF Try.prog E Try.f60.results.toList [[(.ptr 0 0 52 [.keep])]] w60_0.alts) 4000 [.code (Try.f60.body.getD .skip)] (argSt (v60_0.enc v)) = F60_0 v := by kernel_rfl
theorem ok60_0 : FnOk Try.prog E 60 v60_0.enc F60_0 w60_0.enc :=
  fn_known (fn := Try.f60) (c := (Try.f60.body.getD .skip)) Try.func60 (by kernel_rfl) rfl envOk (oracle_ok k60_0) mixed v60_0 F60_0 w60_0 [(.ptr 0 0 52 [.keep])] [[(.ptr 0 0 52 [.keep])]] (by kernel_rfl) [] 4000 L60_0 (by kernel_rfl)
    (fun _ h => nomatch h) (fun v _ h => ⟨0, (e60_0 _ v).trans h⟩) (fun _ => by kernel_rfl) (fun _ => by kernel_rfl) (fun _ _ => by kernel_rfl)
/- chicane/chicaneref12.Normal -/
abbrev A24_0 : Type := ((Int × Int × Int × Int × Int × Int × List Int × List Int × (List (Int × Int × Bool)) × (List (Int × Int)) × (List (List (Int × Int))) × (List (Int × Int × Int × Int × Bool)) × Int × Int × Int × Int) × Int × Int) × Bool
abbrev R24_0 : Type := (Int × Int × Int) × Bool
def v24_0 : Pk G (((Int × Int × Int × Int × Int × Int × List Int × List Int × (List (Int × Int × Bool)) × (List (Int × Int)) × (List (List (Int × Int))) × (List (Int × Int × Int × Int × Bool)) × Int × Int × Int × Int) × Int × Int) × Bool) := (pk (Sh.snd (Sh.cons (Sh.ptr 0 0) (Sh.cons (Sh.agg (Sh.cons (Sh.int .i64) (Sh.cons (Sh.int .i64) (Sh.cons (Sh.int .i64) (Sh.cons (Sh.int .i64) (Sh.cons (Sh.int .i64) (Sh.cons (Sh.int .i64) (Sh.cons (Sh.ros 22) (Sh.cons (Sh.ros 3) (Sh.cons (Sh.ros 86) (Sh.cons (Sh.ros 24) (Sh.cons (Sh.ros 28) (Sh.cons (Sh.ros 196) (Sh.cons (Sh.int .i64) (Sh.cons (Sh.int .i64) (Sh.cons (Sh.int .u32) (Sh.fst (Sh.cons (Sh.int .i64) Sh.nil)))))))))))))))))) (Sh.cons (Sh.int .i64) (Sh.fst (Sh.cons (Sh.int .i64) Sh.nil)))))) (Sh.fst (Sh.hfix 0 52 (Sh.fst (Sh.cons Sh.bool Sh.nil)) Sh.hnil)))
def w24_0 : Wk G ((Int × Int × Int) × Bool) := (Wk.one [(.agg [.keep, .keep, .keep])] (pk (Sh.fst (Sh.cons (Sh.agg (Sh.cons (Sh.int .i64) (Sh.cons (Sh.int .i64) (Sh.fst (Sh.cons (Sh.int .i64) Sh.nil))))) Sh.nil)) (Sh.fst (Sh.hfix 0 52 (Sh.fst (Sh.cons Sh.bool Sh.nil)) Sh.hnil))))
def F24_0 (v : ((Int × Int × Int × Int × Int × Int × List Int × List Int × (List (Int × Int × Bool)) × (List (Int × Int)) × (List (List (Int × Int))) × (List (Int × Int × Int × Int × Bool)) × Int × Int × Int × Int) × Int × Int) × Bool) : Option ((Int × Int × Int) × Bool) :=
  (F16_0 v.1).bind fun r2588 =>
  (F20_0 ((v.1.1, (r2588.1, (r2588.2.1, (decide (r2588.2.2.1 < r2588.2.2.2))))), v.2)).bind fun r2589 =>
  (F60_0 r2589).bind fun r2590 =>
  some (r2590)

noncomputable def k24_0 : List (Known Try.prog E) := [Known.of envOk [9, 1, 1] [(.agg [.keep, .keep, .keep, .keep, .keep, .keep, (.ros 22), (.ros 3), (.ros 86), (.ros 24), (.ros 28), (.ros 196), .keep, .keep, .keep, .keep]), .keep, .keep] v16_0 F16_0 w16_0 ok16_0, Known.of envOk [5, 9, 1, 1, 2] [(.ptr 0 0 52 [.keep]), (.agg [.keep, .keep, .keep, .keep, .keep, .keep, (.ros 22), (.ros 3), (.ros 86), (.ros 24), (.ros 28), (.ros 196), .keep, .keep, .keep, .keep]), .keep, .keep, .keep] v20_0 F20_0 w20_0 ok20_0, Known.of envOk [5, 1, 1] [(.ptr 0 0 52 [.keep]), .keep, .keep] v60_0 F60_0 w60_0 ok60_0]
noncomputable def L24_0 (n id : Nat) (st : St G) : Option ((Int × Int × Int) × Bool) := none
set_option maxRecDepth 100000 in
theorem e24_0 (n : Nat) (v : ((Int × Int × Int × Int × Int × Int × List Int × List Int × (List (Int × Int × Bool)) × (List (Int × Int)) × (List (List (Int × Int))) × (List (Int × Int × Int × Int × Bool)) × Int × Int × Int × Int) × Int × Int) × Bool) : ev Try.prog E (oracle k24_0) Try.f24.ntmps (fun x => mem x []) (L24_0 n) (finF Try.prog E Try.f24.results.toList [[(.ptr 0 0 52 [.keep])]] w24_0.alts) 4000 [.code (Try.f24.body.getD .skip)] (argSt (v24_0.enc v)) = F24_0 v := by kernel_rfl
theorem ok24_0 : FnOk Try.prog E 24 v24_0.enc F24_0 w24_0.enc :=
  fn_known (fn := Try.f24) (c := (Try.f24.body.getD .skip)) Try.func24 (by kernel_rfl) rfl envOk (oracle_ok k24_0) mixed v24_0 F24_0 w24_0 [(.ptr 0 0 52 [.keep])] [[(.ptr 0 0 52 [.keep])]] (by kernel_rfl) [] 4000 L24_0 (by kernel_rfl)
    (fun _ h => nomatch h) (fun v _ h => ⟨0, (e24_0 _ v).trans h⟩) (fun _ => by kernel_rfl) (fun _ => by kernel_rfl) (fun _ _ => by kernel_rfl)
/- (*chicane/field.Field).Kind -/
abbrev A25_0 : Type := (Int × Int) × (Int × Int × Int × Int × Int) × List Int × List Int
abbrev R25_0 : Type := Int × (Int × Int × Int × Int × Int) × List Int × List Int
def v25_0 : Pk G ((Int × Int) × (Int × Int × Int × Int × Int) × List Int × List Int) := (pk (Sh.snd (Sh.cons (Sh.ptr 0 0) (Sh.cons (Sh.int .i64) (Sh.fst (Sh.cons (Sh.int .i64) Sh.nil))))) (Sh.hfix 0 91 (Sh.cons (Sh.int .i64) (Sh.cons (Sh.int .i64) (Sh.cons (Sh.int .i64) (Sh.cons (Sh.int .i64) (Sh.fst (Sh.cons (Sh.int .i64) (Sh.snd (Sh.cons (Sh.osl 1) (Sh.snd (Sh.cons (Sh.osl 2) Sh.nil)))))))))) (Sh.hrow 2 3 (Sh.fst (Sh.hrow 1 22 Sh.hnil)))))
def w25_0 : Wk G (Int × (Int × Int × Int × Int × Int) × List Int × List Int) := (Wk.one [.keep] (pk (Sh.fst (Sh.cons (Sh.int .i64) Sh.nil)) (Sh.hfix 0 91 (Sh.cons (Sh.int .i64) (Sh.cons (Sh.int .i64) (Sh.cons (Sh.int .i64) (Sh.cons (Sh.int .i64) (Sh.fst (Sh.cons (Sh.int .i64) (Sh.snd (Sh.cons (Sh.osl 1) (Sh.snd (Sh.cons (Sh.osl 2) Sh.nil)))))))))) (Sh.hrow 1 22 (Sh.fst (Sh.hrow 2 3 Sh.hnil))))))
def F25_0 (v : (Int × Int) × (Int × Int × Int × Int × Int) × List Int × List Int) : Option (Int × (Int × Int × Int × Int × Int) × List Int × List Int) :=
  (F15_0 v).bind fun r2603 =>
  let x2604 : Int := (IntKind.wrap .i64 (r2603.1.2.1 * r2603.2.1.2.1))
  let x2605 : Int := (IntKind.wrap .i64 (x2604 + r2603.1.1))
  (idx x2605 (r2603.2.2.2).length).bind fun (x2606 : Nat) =>
  ((r2603.2.2.2)[x2606]?).bind fun (x2607 : Int) =>
  some (x2607, r2603.2)

noncomputable def k25_0 : List (Known Try.prog E) := [Known.of envOk [5, 1, 1] [(.ptr 0 0 91 [.keep, .keep, .keep, .keep, .keep, (.own 1 22), (.own 2 3)]), .keep, .keep] v15_0 F15_0 w15_0 ok15_0]
noncomputable def L25_0 (n id : Nat) (st : St G) : Option (Int × (Int × Int × Int × Int × Int) × List Int × List Int) := none
set_option maxRecDepth 100000 in
theorem e25_0 (n : Nat) (v : (Int × Int) × (Int × Int × Int × Int × Int) × List Int × List Int) : ev Try.prog E (oracle k25_0) Try.f25.ntmps (fun x => mem x []) (L25_0 n) (finF Try.prog E Try.f25.results.toList [[(.own 2 3), (.own 1 22), (.ptr 0 0 91 [.keep, .keep, .keep, .keep, .keep, (.own 1 22), (.own 2 3)])]] w25_0.alts) 4000 [.code (Try.f25.body.getD .skip)] (argSt (v25_0.enc v)) = F25_0 v := by kernel_rfl
theorem ok25_0 : FnOk Try.prog E 25 v25_0.enc F25_0 w25_0.enc :=
  fn_known (fn := Try.f25) (c := (Try.f25.body.getD .skip)) Try.func25 (by kernel_rfl) rfl envOk (oracle_ok k25_0) mixed v25_0 F25_0 w25_0 [(.own 2 3), (.own 1 22), (.ptr 0 0 91 [.keep, .keep, .keep, .keep, .keep, (.own 1 22), (.own 2 3)])] [[(.own 2 3), (.own 1 22), (.ptr 0 0 91 [.keep, .keep, .keep, .keep, .keep, (.own 1 22), (.own 2 3)])]] (by kernel_rfl) [] 4000 L25_0 (by kernel_rfl)
    (fun _ h => nomatch h) (fun v _ h => ⟨0, (e25_0 _ v).trans h⟩) (fun _ => by kernel_rfl) (fun _ => by kernel_rfl) (fun _ _ => by kernel_rfl)
/- chicane/chicaneref12.Kind -/
abbrev A26_0 : Type := (Int × Int × Int × Int × Int × Int × List Int × List Int × (List (Int × Int × Bool)) × (List (Int × Int)) × (List (List (Int × Int))) × (List (Int × Int × Int × Int × Bool)) × Int × Int × Int × Int) × Int × Int
abbrev R26_0 : Type := Int
def v26_0 : Pk G ((Int × Int × Int × Int × Int × Int × List Int × List Int × (List (Int × Int × Bool)) × (List (Int × Int)) × (List (List (Int × Int))) × (List (Int × Int × Int × Int × Bool)) × Int × Int × Int × Int) × Int × Int) := (Pk.fst (pk (Sh.cons (Sh.agg (Sh.cons (Sh.int .i64) (Sh.cons (Sh.int .i64) (Sh.cons (Sh.int .i64) (Sh.cons (Sh.int .i64) (Sh.cons (Sh.int .i64) (Sh.cons (Sh.int .i64) (Sh.cons (Sh.ros 22) (Sh.cons (Sh.ros 3) (Sh.cons (Sh.ros 86) (Sh.cons (Sh.ros 24) (Sh.cons (Sh.ros 28) (Sh.cons (Sh.ros 196) (Sh.cons (Sh.int .i64) (Sh.cons (Sh.int .i64) (Sh.cons (Sh.int .u32) (Sh.fst (Sh.cons (Sh.int .i64) Sh.nil)))))))))))))))))) (Sh.cons (Sh.int .i64) (Sh.fst (Sh.cons (Sh.int .i64) Sh.nil)))) Sh.hnil))
def w26_0 : Wk G Int := (Wk.one [.keep] (Pk.fst (pk (Sh.fst (Sh.cons (Sh.int .i64) Sh.nil)) Sh.hnil)))
def F26_0 (v : (Int × Int × Int × Int × Int × Int × List Int × List Int × (List (Int × Int × Bool)) × (List (Int × Int)) × (List (List (Int × Int))) × (List (Int × Int × Int × Int × Bool)) × Int × Int × Int × Int) × Int × Int) : Option Int :=
  (F16_0 v).bind fun r2617 =>
  let x2618 : Int := (IntKind.wrap .i64 (r2617.2.1 * v.1.2.2.1))
  let x2619 : Int := (IntKind.wrap .i64 (x2618 + r2617.1))
  (rdx v.1.2.2.2.2.2.2.2.1 x2619).bind fun (x2620 : Int) =>
  some (x2620)

noncomputable def k26_0 : List (Known Try.prog E) := [Known.of envOk [9, 1, 1] [(.agg [.keep, .keep, .keep, .keep, .keep, .keep, (.ros 22), (.ros 3), (.ros 86), (.ros 24), (.ros 28), (.ros 196), .keep, .keep, .keep, .keep]), .keep, .keep] v16_0 F16_0 w16_0 ok16_0]
noncomputable def L26_0 (n id : Nat) (st : St G) : Option Int := none
set_option maxRecDepth 100000 in
theorem e26_0 (n : Nat) (v : (Int × Int × Int × Int × Int × Int × List Int × List Int × (List (Int × Int × Bool)) × (List (Int × Int)) × (List (List (Int × Int))) × (List (Int × Int × Int × Int × Bool)) × Int × Int × Int × Int) × Int × Int) : ev Try.prog E (oracle k26_0) Try.f26.ntmps (fun x => mem x []) (L26_0 n) (finF Try.prog E Try.f26.results.toList [[]] w26_0.alts) 4000 [.code (Try.f26.body.getD .skip)] (argSt (v26_0.enc v)) = F26_0 v := by kernel_rfl
theorem ok26_0 : FnOk Try.prog E 26 v26_0.enc F26_0 w26_0.enc :=
  fn_known (fn := Try.f26) (c := (Try.f26.body.getD .skip)) Try.func26 (by kernel_rfl) rfl envOk (oracle_ok k26_0) mixed v26_0 F26_0 w26_0 [] [[]] (by kernel_rfl) [] 4000 L26_0 (by kernel_rfl)
    (fun _ h => nomatch h) (fun v _ h => ⟨0, (e26_0 _ v).trans h⟩) (fun _ => by kernel_rfl) (fun _ => by kernel_rfl) (fun _ _ => by kernel_rfl)
/- chicane/chicanelaw12.FieldHeight -/
abbrev A4_0 : Type := (Int × Int × Int × Int × Int × Int × List Int × List Int × (List (Int × Int × Bool)) × (List (Int × Int)) × (List (List (Int × Int))) × (List (Int × Int × Int × Int × Bool)) × Int × Int × Int × Int) × Int × Int
abbrev R4_0 : Type := Bool
def v4_0 : Pk G ((Int × Int × Int × Int × Int × Int × List Int × List Int × (List (Int × Int × Bool)) × (List (Int × Int)) × (List (List (Int × Int))) × (List (Int × Int × Int × Int × Bool)) × Int × Int × Int × Int) × Int × Int) := (Pk.fst (pk (Sh.cons (Sh.agg (Sh.cons (Sh.int .i64) (Sh.cons (Sh.int .i64) (Sh.cons (Sh.int .i64) (Sh.cons (Sh.int .i64) (Sh.cons (Sh.int .i64) (Sh.cons (Sh.int .i64) (Sh.cons (Sh.ros 22) (Sh.cons (Sh.ros 3) (Sh.cons (Sh.ros 86) (Sh.cons (Sh.ros 24) (Sh.cons (Sh.ros 28) (Sh.cons (Sh.ros 196) (Sh.cons (Sh.int .i64) (Sh.cons (Sh.int .i64) (Sh.cons (Sh.int .u32) (Sh.fst (Sh.cons (Sh.int .i64) Sh.nil)))))))))))))))))) (Sh.fst (Sh.cons (Sh.agg (Sh.cons (Sh.int .i64) (Sh.fst (Sh.cons (Sh.int .i64) Sh.nil)))) Sh.nil))) Sh.hnil))
def w4_0 : Wk G Bool := (Wk.one [.keep] (Pk.fst (pk (Sh.fst (Sh.cons Sh.bool Sh.nil)) Sh.hnil)))
def F4_0 (v : (Int × Int × Int × Int × Int × Int × List Int × List Int × (List (Int × Int × Bool)) × (List (Int × Int)) × (List (List (Int × Int))) × (List (Int × Int × Int × Int × Bool)) × Int × Int × Int × Int) × Int × Int) : Option Bool :=
  (F11_0 v.1).bind fun r2638 =>
  bif (!r2638) then
    (F13_0 ()).bind fun r2639 =>
    some (r2639)
  else
    (F12_0 v.1).bind fun r2640 =>
    bif (r2640 != (0 : Int)) then
      (F13_0 ()).bind fun r2641 =>
      some (r2641)
    else
      (F14_0 v.1).bind fun r2642 =>
      match r2642 with
      | .inl r2643 =>
        some (false)
      | .inr r2644 =>
        (F21_0 (v.2, (false, r2644.2))).bind fun r2645 =>
        (F22_0 (v, false)).bind fun r2646 =>
        bif (r2645.1 == r2646.1) then
          (F23_0 (v.2, (r2645.2.1, (r2645.2.2.1, (r2645.2.2.2.2, r2645.2.2.2.1))))).bind fun r2647 =>
          (F24_0 (v, r2646.2)).bind fun r2648 =>
          let x2649 : Bool := ((r2647.1.1 == r2648.1.1) && ((r2647.1.2.1 == r2648.1.2.1) && ((r2647.1.2.2 == r2648.1.2.2) && true)))
          bif x2649 then
            (F25_0 (v.2, (r2647.2.2.1, (r2647.2.2.2.2, r2647.2.2.2.1)))).bind fun r2650 =>
            (F26_0 v).bind fun r2651 =>
            bif (r2650.1 == r2651) then
              bif (r2647.2.1 == r2648.2) then
                (F13_0 ()).bind fun r2652 =>
                some (r2652)
              else
                some (false)
            else
              some (false)
          else
            some (false)
        else
          some (false)

noncomputable def k4_0 : List (Known Try.prog E) := [Known.of envOk [9] [(.agg [.keep, .keep, .keep, .keep, .keep, .keep, (.ros 22), (.ros 3), (.ros 86), (.ros 24), (.ros 28), (.ros 196), .keep, .keep, .keep, .keep])] v11_0 F11_0 w11_0 ok11_0, Known.of envOk [] [] v13_0 F13_0 w13_0 ok13_0, Known.of envOk [9] [(.agg [.keep, .keep, .keep, .keep, .keep, .keep, (.ros 22), (.ros 3), (.ros 86), (.ros 24), (.ros 28), (.ros 196), .keep, .keep, .keep, .keep])] v12_0 F12_0 w12_0 ok12_0, Known.of envOk [9] [(.agg [.keep, .keep, .keep, .keep, .keep, .keep, (.ros 22), (.ros 3), (.ros 86), (.ros 24), (.ros 28), (.ros 196), .keep, .keep, .keep, .keep])] v14_0 F14_0 w14_0 ok14_0, Known.of envOk [5, 5, 1, 1] [(.ptr 0 0 91 [.keep, .keep, .keep, .keep, .keep, (.own 1 22), (.own 2 3)]), (.ptr 3 0 50 [.keep]), .keep, .keep] v21_0 F21_0 w21_0 ok21_0, Known.of envOk [5, 9, 1, 1] [(.ptr 0 0 52 [.keep]), (.agg [.keep, .keep, .keep, .keep, .keep, .keep, (.ros 22), (.ros 3), (.ros 86), (.ros 24), (.ros 28), (.ros 196), .keep, .keep, .keep, .keep]), .keep, .keep] v22_0 F22_0 w22_0 ok22_0, Known.of envOk [5, 5, 1, 1] [(.ptr 0 0 91 [.keep, .keep, .keep, .keep, .keep, (.own 1 22), (.own 2 3)]), (.ptr 3 0 50 [.keep]), .keep, .keep] v23_0 F23_0 w23_0 ok23_0, Known.of envOk [5, 9, 1, 1] [(.ptr 0 0 52 [.keep]), (.agg [.keep, .keep, .keep, .keep, .keep, .keep, (.ros 22), (.ros 3), (.ros 86), (.ros 24), (.ros 28), (.ros 196), .keep, .keep, .keep, .keep]), .keep, .keep] v24_0 F24_0 w24_0 ok24_0, Known.of envOk [5, 1, 1] [(.ptr 0 0 91 [.keep, .keep, .keep, .keep, .keep, (.own 1 22), (.own 2 3)]), .keep, .keep] v25_0 F25_0 w25_0 ok25_0, Known.of envOk [9, 1, 1] [(.agg [.keep, .keep, .keep, .keep, .keep, .keep, (.ros 22), (.ros 3), (.ros 86), (.ros 24), (.ros 28), (.ros 196), .keep, .keep, .keep, .keep]), .keep, .keep] v26_0 F26_0 w26_0 ok26_0]
noncomputable def L4_0 (n id : Nat) (st : St G) : Option Bool := none
set_option maxRecDepth 100000 in
theorem e4_0 (n : Nat) (v : (Int × Int × Int × Int × Int × Int × List Int × List Int × (List (Int × Int × Bool)) × (List (Int × Int)) × (List (List (Int × Int))) × (List (Int × Int × Int × Int × Bool)) × Int × Int × Int × Int) × Int × Int) : ev Try.prog E (oracle k4_0) Try.f4.ntmps (fun x => mem x []) (L4_0 n) (finF Try.prog E Try.f4.results.toList [[]] w4_0.alts) 4000 [.code (Try.f4.body.getD .skip)] (argSt (v4_0.enc v)) = F4_0 v := by kernel_rfl
theorem ok4_0 : FnOk Try.prog E 4 v4_0.enc F4_0 w4_0.enc :=
  fn_known (fn := Try.f4) (c := (Try.f4.body.getD .skip)) Try.func4 (by kernel_rfl) rfl envOk (oracle_ok k4_0) mixed v4_0 F4_0 w4_0 [] [[]] (by kernel_rfl) [] 4000 L4_0 (by kernel_rfl)
    (fun _ h => nomatch h) (fun v _ h => ⟨0, (e4_0 _ v).trans h⟩) (fun _ => by kernel_rfl) (fun _ => by kernel_rfl) (fun _ _ => by kernel_rfl)
/- (*chicane/field.Field).Cells -/
abbrev A27_0 : Type := Unit
abbrev R27_0 : Type := Int × Int
def v27_0 : Pk G Unit := (Pk.snd (pk (Sh.snd (Sh.cons Sh.nilptr Sh.nil)) Sh.hnil))
def w27_0 : Wk G (Int × Int) := (Wk.one [.keep, .keep] (Pk.fst (pk (Sh.cons (Sh.int .i64) (Sh.fst (Sh.cons (Sh.int .i64) Sh.nil))) Sh.hnil)))
def F27_0 (v : Unit) : Option (Int × Int) :=
  some ((0 : Int), (0 : Int))

noncomputable def k27_0 : List (Known Try.prog E) := []
noncomputable def L27_0 (n id : Nat) (st : St G) : Option (Int × Int) := none
set_option maxRecDepth 100000 in
theorem e27_0 (n : Nat) (v : Unit) : ev Try.prog E (oracle k27_0) Try.f27.ntmps (fun x => mem x []) (L27_0 n) (finF Try.prog E Try.f27.results.toList [[]] w27_0.alts) 4000 [.code (Try.f27.body.getD .skip)] (argSt (v27_0.enc v)) = F27_0 v := by kernel_rfl
theorem ok27_0 : FnOk Try.prog E 27 v27_0.enc F27_0 w27_0.enc :=
  fn_known (fn := Try.f27) (c := (Try.f27.body.getD .skip)) Try.func27 (by kernel_rfl) rfl envOk (oracle_ok k27_0) mixed v27_0 F27_0 w27_0 [] [[]] (by kernel_rfl) [] 4000 L27_0 (by kernel_rfl)
    (fun _ h => nomatch h) (fun v _ h => ⟨0, (e27_0 _ v).trans h⟩) (fun _ => by kernel_rfl) (fun _ => by kernel_rfl) (fun _ _ => by kernel_rfl)
/- (*chicane/field.Field).Side -/
abbrev A28_0 : Type := Unit
abbrev R28_0 : Type := Int
def v28_0 : Pk G Unit := (Pk.snd (pk (Sh.snd (Sh.cons Sh.nilptr Sh.nil)) Sh.hnil))
def w28_0 : Wk G Int := (Wk.one [.keep] (Pk.fst (pk (Sh.fst (Sh.cons (Sh.int .i64) Sh.nil)) Sh.hnil)))
def F28_0 (v : Unit) : Option Int :=
  some (0 : Int)

noncomputable def k28_0 : List (Known Try.prog E) := []
noncomputable def L28_0 (n id : Nat) (st : St G) : Option Int := none
set_option maxRecDepth 100000 in
theorem e28_0 (n : Nat) (v : Unit) : ev Try.prog E (oracle k28_0) Try.f28.ntmps (fun x => mem x []) (L28_0 n) (finF Try.prog E Try.f28.results.toList [[]] w28_0.alts) 4000 [.code (Try.f28.body.getD .skip)] (argSt (v28_0.enc v)) = F28_0 v := by kernel_rfl
theorem ok28_0 : FnOk Try.prog E 28 v28_0.enc F28_0 w28_0.enc :=
  fn_known (fn := Try.f28) (c := (Try.f28.body.getD .skip)) Try.func28 (by kernel_rfl) rfl envOk (oracle_ok k28_0) mixed v28_0 F28_0 w28_0 [] [[]] (by kernel_rfl) [] 4000 L28_0 (by kernel_rfl)
    (fun _ h => nomatch h) (fun v _ h => ⟨0, (e28_0 _ v).trans h⟩) (fun _ => by kernel_rfl) (fun _ => by kernel_rfl) (fun _ _ => by kernel_rfl)
/- (*chicane/field.Field).Cells -/
abbrev A27_1 : Type := (Int × Int × Int × Int × Int) × List Int × List Int
abbrev R27_1 : Type := (Int × Int) × (Int × Int × Int × Int × Int) × List Int × List Int
def v27_1 : Pk G ((Int × Int × Int × Int × Int) × List Int × List Int) := (Pk.snd (pk (Sh.snd (Sh.cons (Sh.ptr 0 0) Sh.nil)) (Sh.hfix 0 91 (Sh.cons (Sh.int .i64) (Sh.cons (Sh.int .i64) (Sh.cons (Sh.int .i64) (Sh.cons (Sh.int .i64) (Sh.fst (Sh.cons (Sh.int .i64) (Sh.snd (Sh.cons (Sh.osl 1) (Sh.snd (Sh.cons (Sh.osl 2) Sh.nil)))))))))) (Sh.hrow 2 3 (Sh.fst (Sh.hrow 1 22 Sh.hnil))))))
def w27_1 : Wk G ((Int × Int) × (Int × Int × Int × Int × Int) × List Int × List Int) := (Wk.one [.keep, .keep] (pk (Sh.cons (Sh.int .i64) (Sh.fst (Sh.cons (Sh.int .i64) Sh.nil))) (Sh.hfix 0 91 (Sh.cons (Sh.int .i64) (Sh.cons (Sh.int .i64) (Sh.cons (Sh.int .i64) (Sh.cons (Sh.int .i64) (Sh.fst (Sh.cons (Sh.int .i64) (Sh.snd (Sh.cons (Sh.osl 1) (Sh.snd (Sh.cons (Sh.osl 2) Sh.nil)))))))))) (Sh.hrow 1 22 (Sh.fst (Sh.hrow 2 3 Sh.hnil))))))
def F27_1 (v : (Int × Int × Int × Int × Int) × List Int × List Int) : Option ((Int × Int) × (Int × Int × Int × Int × Int) × List Int × List Int) :=
  some ((v.1.2.1, v.1.2.2.1), (v.1, (v.2.2, v.2.1)))

noncomputable def k27_1 : List (Known Try.prog E) := []
noncomputable def L27_1 (n id : Nat) (st : St G) : Option ((Int × Int) × (Int × Int × Int × Int × Int) × List Int × List Int) := none
set_option maxRecDepth 100000 in
theorem e27_1 (n : Nat) (v : (Int × Int × Int × Int × Int) × List Int × List Int) : ev Try.prog E (oracle k27_1) Try.f27.ntmps (fun x => mem x []) (L27_1 n) (finF Try.prog E Try.f27.results.toList [[(.own 2 3), (.own 1 22), (.ptr 0 0 91 [.keep, .keep, .keep, .keep, .keep, (.own 1 22), (.own 2 3)])]] w27_1.alts) 4000 [.code (Try.f27.body.getD .skip)] (argSt (v27_1.enc v)) = F27_1 v := by kernel_rfl
theorem ok27_1 : FnOk Try.prog E 27 v27_1.enc F27_1 w27_1.enc :=
  fn_known (fn := Try.f27) (c := (Try.f27.body.getD .skip)) Try.func27 (by kernel_rfl) rfl envOk (oracle_ok k27_1) mixed v27_1 F27_1 w27_1 [(.own 2 3), (.own 1 22), (.ptr 0 0 91 [.keep, .keep, .keep, .keep, .keep, (.own 1 22), (.own 2 3)])] [[(.own 2 3), (.own 1 22), (.ptr 0 0 91 [.keep, .keep, .keep, .keep, .keep, (.own 1 22), (.own 2 3)])]] (by kernel_rfl) [] 4000 L27_1 (by kernel_rfl)
    (fun _ h => nomatch h) (fun v _ h => ⟨0, (e27_1 _ v).trans h⟩) (fun _ => by kernel_rfl) (fun _ => by kernel_rfl) (fun _ _ => by kernel_rfl)
/- (*chicane/field.Field).Side -/
abbrev A28_1 : Type := (Int × Int × Int × Int × Int) × List Int × List Int
abbrev R28_1 : Type := Int × (Int × Int × Int × Int × Int) × List Int × List Int
def v28_1 : Pk G ((Int × Int × Int × Int × Int) × List Int × List Int) := (Pk.snd (pk (Sh.snd (Sh.cons (Sh.ptr 0 0) Sh.nil)) (Sh.hfix 0 91 (Sh.cons (Sh.int .i64) (Sh.cons (Sh.int .i64) (Sh.cons (Sh.int .i64) (Sh.cons (Sh.int .i64) (Sh.fst (Sh.cons (Sh.int .i64) (Sh.snd (Sh.cons (Sh.osl 1) (Sh.snd (Sh.cons (Sh.osl 2) Sh.nil)))))))))) (Sh.hrow 2 3 (Sh.fst (Sh.hrow 1 22 Sh.hnil))))))
def w28_1 : Wk G (Int × (Int × Int × Int × Int × Int) × List Int × List Int) := (Wk.one [.keep] (pk (Sh.fst (Sh.cons (Sh.int .i64) Sh.nil)) (Sh.hfix 0 91 (Sh.cons (Sh.int .i64) (Sh.cons (Sh.int .i64) (Sh.cons (Sh.int .i64) (Sh.cons (Sh.int .i64) (Sh.fst (Sh.cons (Sh.int .i64) (Sh.snd (Sh.cons (Sh.osl 1) (Sh.snd (Sh.cons (Sh.osl 2) Sh.nil)))))))))) (Sh.hrow 1 22 (Sh.fst (Sh.hrow 2 3 Sh.hnil))))))
def F28_1 (v : (Int × Int × Int × Int × Int) × List Int × List Int) : Option (Int × (Int × Int × Int × Int × Int) × List Int × List Int) :=
  some (v.1.1, (v.1, (v.2.2, v.2.1)))

noncomputable def k28_1 : List (Known Try.prog E) := []
noncomputable def L28_1 (n id : Nat) (st : St G) : Option (Int × (Int × Int × Int × Int × Int) × List Int × List Int) := none
set_option maxRecDepth 100000 in
theorem e28_1 (n : Nat) (v : (Int × Int × Int × Int × Int) × List Int × List Int) : ev Try.prog E (oracle k28_1) Try.f28.ntmps (fun x => mem x []) (L28_1 n) (finF Try.prog E Try.f28.results.toList [[(.own 2 3), (.own 1 22), (.ptr 0 0 91 [.keep, .keep, .keep, .keep, .keep, (.own 1 22), (.own 2 3)])]] w28_1.alts) 4000 [.code (Try.f28.body.getD .skip)] (argSt (v28_1.enc v)) = F28_1 v := by kernel_rfl
theorem ok28_1 : FnOk Try.prog E 28 v28_1.enc F28_1 w28_1.enc :=
  fn_known (fn := Try.f28) (c := (Try.f28.body.getD .skip)) Try.func28 (by kernel_rfl) rfl envOk (oracle_ok k28_1) mixed v28_1 F28_1 w28_1 [(.own 2 3), (.own 1 22), (.ptr 0 0 91 [.keep, .keep, .keep, .keep, .keep, (.own 1 22), (.own 2 3)])] [[(.own 2 3), (.own 1 22), (.ptr 0 0 91 [.keep, .keep, .keep, .keep, .keep, (.own 1 22), (.own 2 3)])]] (by kernel_rfl) [] 4000 L28_1 (by kernel_rfl)
    (fun _ h => nomatch h) (fun v _ h => ⟨0, (e28_1 _ v).trans h⟩) (fun _ => by kernel_rfl) (fun _ => by kernel_rfl) (fun _ _ => by kernel_rfl)
/- chicane/chicanelaw12.FieldNew -/
abbrev A5_0 : Type := Int × Int × Int × Int × Int × Int × List Int × List Int × (List (Int × Int × Bool)) × (List (Int × Int)) × (List (List (Int × Int))) × (List (Int × Int × Int × Int × Bool)) × Int × Int × Int × Int
abbrev R5_0 : Type := Bool
def v5_0 : Pk G (Int × Int × Int × Int × Int × Int × List Int × List Int × (List (Int × Int × Bool)) × (List (Int × Int)) × (List (List (Int × Int))) × (List (Int × Int × Int × Int × Bool)) × Int × Int × Int × Int) := (Pk.fst (pk (Sh.fst (Sh.cons (Sh.agg (Sh.cons (Sh.int .i64) (Sh.cons (Sh.int .i64) (Sh.cons (Sh.int .i64) (Sh.cons (Sh.int .i64) (Sh.cons (Sh.int .i64) (Sh.cons (Sh.int .i64) (Sh.cons (Sh.ros 22) (Sh.cons (Sh.ros 3) (Sh.cons (Sh.ros 86) (Sh.cons (Sh.ros 24) (Sh.cons (Sh.ros 28) (Sh.cons (Sh.ros 196) (Sh.cons (Sh.int .i64) (Sh.cons (Sh.int .i64) (Sh.cons (Sh.int .u32) (Sh.fst (Sh.cons (Sh.int .i64) Sh.nil)))))))))))))))))) Sh.nil)) Sh.hnil))
def w5_0 : Wk G Bool := (Wk.one [.keep] (Pk.fst (pk (Sh.fst (Sh.cons Sh.bool Sh.nil)) Sh.hnil)))
def F5_0 (v : Int × Int × Int × Int × Int × Int × List Int × List Int × (List (Int × Int × Bool)) × (List (Int × Int)) × (List (List (Int × Int))) × (List (Int × Int × Int × Int × Bool)) × Int × Int × Int × Int) : Option Bool :=
  (F11_0 v).bind fun r2677 =>
  bif (!r2677) then
    some (true)
  else
    (F14_0 v).bind fun r2678 =>
    match r2678 with
    | .inl r2679 =>
      bif (!(false == (r2679 == (0 : Int)))) then
        some (false)
      else
        (F12_0 v).bind fun r2681 =>
        bif (r2679 != r2681) then
          some (false)
        else
          (F27_0 ()).bind fun r2682 =>
          bif (r2682.1 == (0 : Int)) then
            bif (r2682.2 == (0 : Int)) then
              (F28_0 ()).bind fun r2683 =>
              bif (r2683 == (0 : Int)) then
                (F13_0 ()).bind fun r2684 =>
                some (r2684)
              else
                some (false)
            else
              some (false)
          else
            some (false)
    | .inr r2680 =>
      bif (!(true == (r2680.1 == (0 : Int)))) then
        some (false)
      else
        (F12_0 v).bind fun r2685 =>
        bif (r2680.1 != r2685) then
          some (false)
        else
          (F27_1 r2680.2).bind fun r2686 =>
          bif (r2686.1.1 == v.2.2.1) then
            bif (r2686.1.2 == v.2.2.2.1) then
              (F28_1 (r2686.2.1, (r2686.2.2.2, r2686.2.2.1))).bind fun r2687 =>
              bif (r2687.1 == v.2.1) then
                (F13_0 ()).bind fun r2688 =>
                some (r2688)
              else
                some (false)
            else
              some (false)
          else
            some (false)

noncomputable def k5_0 : List (Known Try.prog E) := [Known.of envOk [9] [(.agg [.keep, .keep, .keep, .keep, .keep, .keep, (.ros 22), (.ros 3), (.ros 86), (.ros 24), (.ros 28), (.ros 196), .keep, .keep, .keep, .keep])] v11_0 F11_0 w11_0 ok11_0, Known.of envOk [9] [(.agg [.keep, .keep, .keep, .keep, .keep, .keep, (.ros 22), (.ros 3), (.ros 86), (.ros 24), (.ros 28), (.ros 196), .keep, .keep, .keep, .keep])] v14_0 F14_0 w14_0 ok14_0, Known.of envOk [9] [(.agg [.keep, .keep, .keep, .keep, .keep, .keep, (.ros 22), (.ros 3), (.ros 86), (.ros 24), (.ros 28), (.ros 196), .keep, .keep, .keep, .keep])] v12_0 F12_0 w12_0 ok12_0, Known.of envOk [4] [.keep] v27_0 F27_0 w27_0 ok27_0, Known.of envOk [4] [.keep] v28_0 F28_0 w28_0 ok28_0, Known.of envOk [] [] v13_0 F13_0 w13_0 ok13_0, Known.of envOk [5] [(.ptr 0 0 91 [.keep, .keep, .keep, .keep, .keep, (.own 1 22), (.own 2 3)])] v27_1 F27_1 w27_1 ok27_1, Known.of envOk [5] [(.ptr 0 0 91 [.keep, .keep, .keep, .keep, .keep, (.own 1 22), (.own 2 3)])] v28_1 F28_1 w28_1 ok28_1]
noncomputable def L5_0 (n id : Nat) (st : St G) : Option Bool := none
set_option maxRecDepth 100000 in
theorem e5_0 (n : Nat) (v : Int × Int × Int × Int × Int × Int × List Int × List Int × (List (Int × Int × Bool)) × (List (Int × Int)) × (List (List (Int × Int))) × (List (Int × Int × Int × Int × Bool)) × Int × Int × Int × Int) : ev Try.prog E (oracle k5_0) Try.f5.ntmps (fun x => mem x []) (L5_0 n) (finF Try.prog E Try.f5.results.toList [[]] w5_0.alts) 4000 [.code (Try.f5.body.getD .skip)] (argSt (v5_0.enc v)) = F5_0 v := by kernel_rfl
theorem ok5_0 : FnOk Try.prog E 5 v5_0.enc F5_0 w5_0.enc :=
  fn_known (fn := Try.f5) (c := (Try.f5.body.getD .skip)) Try.func5 (by kernel_rfl) rfl envOk (oracle_ok k5_0) mixed v5_0 F5_0 w5_0 [] [[]] (by kernel_rfl) [] 4000 L5_0 (by kernel_rfl)
    (fun _ h => nomatch h) (fun v _ h => ⟨0, (e5_0 _ v).trans h⟩) (fun _ => by kernel_rfl) (fun _ => by kernel_rfl) (fun _ _ => by kernel_rfl)
/- chicane/wide.Neg -/
abbrev A61_0 : Type := Int × Int
abbrev R61_0 : Type := (Int × Int) × Bool
def v61_0 : Pk G (Int × Int) := (Pk.fst (pk (Sh.fst (Sh.cons (Sh.agg (Sh.cons (Sh.int .i64) (Sh.fst (Sh.cons (Sh.int .u64) Sh.nil)))) Sh.nil)) Sh.hnil))
def w61_0 : Wk G ((Int × Int) × Bool) := (Wk.one [(.agg [.keep, .keep]), .keep] (Pk.fst (pk (Sh.cons (Sh.agg (Sh.cons (Sh.int .i64) (Sh.fst (Sh.cons (Sh.int .u64) Sh.nil)))) (Sh.fst (Sh.cons Sh.bool Sh.nil))) Sh.hnil)))
def F61_0 (v : Int × Int) : Option ((Int × Int) × Bool) :=
  (F92_x ((0 : Int), (v.2, (0 : Int)))).bind fun r2720 =>
  let x2721 : Int := (IntKind.wrap .u64 v.1)
  (F92_x ((0 : Int), (x2721, r2720.2))).bind fun r2722 =>
  bif (decide (v.1 < (0 : Int))) then
    let x2723 : Int := (IntKind.wrap .i64 r2722.1)
    bif (decide (x2723 < (0 : Int))) then
      some (((0 : Int), (0 : Int)), false)
    else
      let x2724 : Int := (IntKind.wrap .i64 r2722.1)
      some ((x2724, r2720.1), true)
  else
    let x2725 : Int := (IntKind.wrap .i64 r2722.1)
    some ((x2725, r2720.1), true)

noncomputable def k61_0 : List (Known Try.prog E) := [Known.of envOk [1, 1, 1] [.keep, .keep, .keep] v92_x F92_x w92_x ok92_x]
noncomputable def L61_0 (n id : Nat) (st : St G) : Option ((Int × Int) × Bool) := none
set_option maxRecDepth 100000 in
theorem e61_0 (n : Nat) (v : Int × Int) : ev Try.prog E (oracle k61_0) Try.f61.ntmps (fun x => mem x []) (L61_0 n) (finF Try.prog E Try.f61.results.toList [[]] w61_0.alts) 4000 [.code (Try.f61.body.getD .skip)] (argSt (v61_0.enc v)) = F61_0 v := by kernel_rfl
theorem ok61_0 : FnOk Try.prog E 61 v61_0.enc F61_0 w61_0.enc :=
  fn_known (fn := Try.f61) (c := (Try.f61.body.getD .skip)) Try.func61 (by kernel_rfl) rfl envOk (oracle_ok k61_0) mixed v61_0 F61_0 w61_0 [] [[]] (by kernel_rfl) [] 4000 L61_0 (by kernel_rfl)
    (fun _ h => nomatch h) (fun v _ h => ⟨0, (e61_0 _ v).trans h⟩) (fun _ => by kernel_rfl) (fun _ => by kernel_rfl) (fun _ _ => by kernel_rfl)
/- (*chicane/fx.M).Sub -/
abbrev A29_0 : Type := (Int × Int) × Bool
abbrev R29_0 : Type := Int × Bool
def v29_0 : Pk G ((Int × Int) × Bool) := (pk (Sh.snd (Sh.cons (Sh.ptr 0 0) (Sh.cons (Sh.int .i64) (Sh.fst (Sh.cons (Sh.int .i64) Sh.nil))))) (Sh.fst (Sh.hfix 0 50 (Sh.fst (Sh.cons Sh.bool Sh.nil)) Sh.hnil)))
def w29_0 : Wk G (Int × Bool) := (Wk.one [.keep] (pk (Sh.fst (Sh.cons (Sh.int .i64) Sh.nil)) (Sh.fst (Sh.hfix 0 50 (Sh.fst (Sh.cons Sh.bool Sh.nil)) Sh.hnil))))
def F29_0 (v : (Int × Int) × Bool) : Option (Int × Bool) :=
  (F62_0 v.1.2).bind fun r2735 =>
  (F61_0 r2735).bind fun r2736 =>
  (F62_0 v.1.1).bind fun r2737 =>
  (F63_0 (r2737, r2736.1)).bind fun r2738 =>
  (F64_0 (r2738.1, v.2)).bind fun r2739 =>
  some (r2739)

noncomputable def k29_0 : List (Known Try.prog E) := [Known.of envOk [1] [.keep] v62_0 F62_0 w62_0 ok62_0, Known.of envOk [9] [(.agg [.keep, .keep])] v61_0 F61_0 w61_0 ok61_0, Known.of envOk [9, 9] [(.agg [.keep, .keep]), (.agg [.keep, .keep])] v63_0 F63_0 w63_0 ok63_0, Known.of envOk [9, 165] [(.agg [.keep, .keep]), (.fn (.func 65) [(.ptr 0 0 50 [.keep])] [])] v64_0 F64_0 w64_0 ok64_0]
noncomputable def L29_0 (n id : Nat) (st : St G) : Option (Int × Bool) := none
set_option maxRecDepth 100000 in
theorem e29_0 (n : Nat) (v : (Int × Int) × Bool) : ev Try.prog E (oracle k29_0) Try.f29.ntmps (fun x => mem x []) (L29_0 n) (finF Try.prog E Try.f29.results.toList [[(.ptr 0 0 50 [.keep])]] w29_0.alts) 4000 [.code (Try.f29.body.getD .skip)] (argSt (v29_0.enc v)) = F29_0 v := by kernel_rfl
theorem ok29_0 : FnOk Try.prog E 29 v29_0.enc F29_0 w29_0.enc :=
  fn_known (fn := Try.f29) (c := (Try.f29.body.getD .skip)) Try.func29 (by kernel_rfl) rfl envOk (oracle_ok k29_0) mixed v29_0 F29_0 w29_0 [(.ptr 0 0 50 [.keep])] [[(.ptr 0 0 50 [.keep])]] (by kernel_rfl) [] 4000 L29_0 (by kernel_rfl)
    (fun _ h => nomatch h) (fun v _ h => ⟨0, (e29_0 _ v).trans h⟩) (fun _ => by kernel_rfl) (fun _ => by kernel_rfl) (fun _ _ => by kernel_rfl)
/- (*chicane/fx.M).Neg -/
abbrev A66_0 : Type := Int × Bool
abbrev R66_0 : Type := Int × Bool
def v66_0 : Pk G (Int × Bool) := (pk (Sh.snd (Sh.cons (Sh.ptr 0 0) (Sh.fst (Sh.cons (Sh.int .i64) Sh.nil)))) (Sh.fst (Sh.hfix 0 50 (Sh.fst (Sh.cons Sh.bool Sh.nil)) Sh.hnil)))
def w66_0 : Wk G (Int × Bool) := (Wk.one [.keep] (pk (Sh.fst (Sh.cons (Sh.int .i64) Sh.nil)) (Sh.fst (Sh.hfix 0 50 (Sh.fst (Sh.cons Sh.bool Sh.nil)) Sh.hnil))))
def F66_0 (v : Int × Bool) : Option (Int × Bool) :=
  (F29_0 (((0 : Int), v.1), v.2)).bind fun r2744 =>
  some (r2744)

noncomputable def k66_0 : List (Known Try.prog E) := [Known.of envOk [5, 1, 1] [(.ptr 0 0 50 [.keep]), .keep, .keep] v29_0 F29_0 w29_0 ok29_0]
noncomputable def L66_0 (n id : Nat) (st : St G) : Option (Int × Bool) := none
set_option maxRecDepth 100000 in
theorem e66_0 (n : Nat) (v : Int × Bool) : ev Try.prog E (oracle k66_0) Try.f66.ntmps (fun x => mem x []) (L66_0 n) (finF Try.prog E Try.f66.results.toList [[(.ptr 0 0 50 [.keep])]] w66_0.alts) 4000 [.code (Try.f66.body.getD .skip)] (argSt (v66_0.enc v)) = F66_0 v := by kernel_rfl
theorem ok66_0 : FnOk Try.prog E 66 v66_0.enc F66_0 w66_0.enc :=
  fn_known (fn := Try.f66) (c := (Try.f66.body.getD .skip)) Try.func66 (by kernel_rfl) rfl envOk (oracle_ok k66_0) mixed v66_0 F66_0 w66_0 [(.ptr 0 0 50 [.keep])] [[(.ptr 0 0 50 [.keep])]] (by kernel_rfl) [] 4000 L66_0 (by kernel_rfl)
    (fun _ h => nomatch h) (fun v _ h => ⟨0, (e66_0 _ v).trans h⟩) (fun _ => by kernel_rfl) (fun _ => by kernel_rfl) (fun _ _ => by kernel_rfl)
/- (*chicane/fx.M).Abs -/
abbrev A30_0 : Type := Int × Bool
abbrev R30_0 : Type := Int × Bool
def v30_0 : Pk G (Int × Bool) := (pk (Sh.snd (Sh.cons (Sh.ptr 0 0) (Sh.fst (Sh.cons (Sh.int .i64) Sh.nil)))) (Sh.fst (Sh.hfix 0 50 (Sh.fst (Sh.cons Sh.bool Sh.nil)) Sh.hnil)))
def w30_0 : Wk G (Int × Bool) := (Wk.one [.keep] (pk (Sh.fst (Sh.cons (Sh.int .i64) Sh.nil)) (Sh.fst (Sh.hfix 0 50 (Sh.fst (Sh.cons Sh.bool Sh.nil)) Sh.hnil))))
def F30_0 (v : Int × Bool) : Option (Int × Bool) :=
  bif (decide (v.1 < (0 : Int))) then
    (F66_0 v).bind fun r2747 =>
    some (r2747)
  else
    some (v)

noncomputable def k30_0 : List (Known Try.prog E) := [Known.of envOk [5, 1] [(.ptr 0 0 50 [.keep]), .keep] v66_0 F66_0 w66_0 ok66_0]
noncomputable def L30_0 (n id : Nat) (st : St G) : Option (Int × Bool) := none
set_option maxRecDepth 100000 in
theorem e30_0 (n : Nat) (v : Int × Bool) : ev Try.prog E (oracle k30_0) Try.f30.ntmps (fun x => mem x []) (L30_0 n) (finF Try.prog E Try.f30.results.toList [[(.ptr 0 0 50 [.keep])]] w30_0.alts) 4000 [.code (Try.f30.body.getD .skip)] (argSt (v30_0.enc v)) = F30_0 v := by kernel_rfl
theorem ok30_0 : FnOk Try.prog E 30 v30_0.enc F30_0 w30_0.enc :=
  fn_known (fn := Try.f30) (c := (Try.f30.body.getD .skip)) Try.func30 (by kernel_rfl) rfl envOk (oracle_ok k30_0) mixed v30_0 F30_0 w30_0 [(.ptr 0 0 50 [.keep])] [[(.ptr 0 0 50 [.keep])]] (by kernel_rfl) [] 4000 L30_0 (by kernel_rfl)
    (fun _ h => nomatch h) (fun v _ h => ⟨0, (e30_0 _ v).trans h⟩) (fun _ => by kernel_rfl) (fun _ => by kernel_rfl) (fun _ _ => by kernel_rfl)
/- chicane/chicanelaw12.FieldCorners -/
abbrev A6_0 : Type := (Int × Int × Int × Int × Int × Int × List Int × List Int × (List (Int × Int × Bool)) × (List (Int × Int)) × (List (List (Int × Int))) × (List (Int × Int × Int × Int × Bool)) × Int × Int × Int × Int) × Int
abbrev R6_0 : Type := Bool
def v6_0 : Pk G ((Int × Int × Int × Int × Int × Int × List Int × List Int × (List (Int × Int × Bool)) × (List (Int × Int)) × (List (List (Int × Int))) × (List (Int × Int × Int × Int × Bool)) × Int × Int × Int × Int) × Int) := (Pk.fst (pk (Sh.cons (Sh.agg (Sh.cons (Sh.int .i64) (Sh.cons (Sh.int .i64) (Sh.cons (Sh.int .i64) (Sh.cons (Sh.int .i64) (Sh.cons (Sh.int .i64) (Sh.cons (Sh.int .i64) (Sh.cons (Sh.ros 22) (Sh.cons (Sh.ros 3) (Sh.cons (Sh.ros 86) (Sh.cons (Sh.ros 24) (Sh.cons (Sh.ros 28) (Sh.cons (Sh.ros 196) (Sh.cons (Sh.int .i64) (Sh.cons (Sh.int .i64) (Sh.cons (Sh.int .u32) (Sh.fst (Sh.cons (Sh.int .i64) Sh.nil)))))))))))))))))) (Sh.fst (Sh.cons (Sh.int .i64) Sh.nil))) Sh.hnil))
def w6_0 : Wk G Bool := (Wk.one [.keep] (Pk.fst (pk (Sh.fst (Sh.cons Sh.bool Sh.nil)) Sh.hnil)))
def F6_0 (v : (Int × Int × Int × Int × Int × Int × List Int × List Int × (List (Int × Int × Bool)) × (List (Int × Int)) × (List (List (Int × Int))) × (List (Int × Int × Int × Int × Bool)) × Int × Int × Int × Int) × Int) : Option Bool :=
  (F11_0 v.1).bind fun r2772 =>
  bif (!r2772) then
    some (true)
  else
    (F14_0 v.1).bind fun r2773 =>
    match r2773 with
    | .inl r2774 =>
      (F13_0 ()).bind fun r2776 =>
      some (r2776)
    | .inr r2775 =>
      bif (decide (v.2 < (0 : Int))) then
        (F13_0 ()).bind fun r2777 =>
        some (r2777)
      else
        bif (decide (v.2 ≥ ((v.1.2.2.2.2.2.2.1).length : Int))) then
          (F13_0 ()).bind fun r2778 =>
          some (r2778)
        else
          bif (decide (v.1.2.2.1 < (1 : Int))) then
            (F13_0 ()).bind fun r2779 =>
            some (r2779)
          else
            let x2780 : Int := (IntKind.wrap .i64 (v.1.2.2.1 + (1 : Int)))
            (chk (x2780 != 0)).bind fun _ =>
            let x2781 : Int := (Int.tmod v.2 x2780)
            let x2782 : Int := (IntKind.wrap .i64 (x2781 * v.1.2.1))
            let x2783 : Int := (IntKind.wrap .i64 (v.1.2.2.2.2.1 + x2782))
            let x2784 : Int := (IntKind.wrap .i64 (v.1.2.2.1 + (1 : Int)))
            (chk (x2784 != 0)).bind fun _ =>
            let x2785 : Int := (IntKind.wrap .i64 (Int.tdiv v.2 x2784))
            let x2786 : Int := (IntKind.wrap .i64 (x2785 * v.1.2.1))
            let x2787 : Int := (IntKind.wrap .i64 (v.1.2.2.2.2.2.1 + x2786))
            (F21_0 ((x2783, x2787), (false, r2775.2))).bind fun r2788 =>
            (rdx v.1.2.2.2.2.2.2.1 v.2).bind fun (x2789 : Int) =>
            (F29_0 ((r2788.1, x2789), r2788.2.1)).bind fun r2790 =>
            (F23_0 ((x2783, x2787), (r2790.2, (r2788.2.2.1, (r2788.2.2.2.2, r2788.2.2.2.1))))).bind fun r2791 =>
            (F30_0 (r2790.1, r2791.2.1)).bind fun r2792 =>
            bif (decide (r2792.1 ≤ (4096 : Int))) then
              bif (decide (r2791.1.2.2 ≥ (2147483648 : Int))) then
                bif (!r2792.2) then
                  (F13_0 ()).bind fun r2793 =>
                  some (r2793)
                else
                  some (false)
              else
                some (false)
            else
              some (false)

noncomputable def k6_0 : List (Known Try.prog E) := [Known.of envOk [9] [(.agg [.keep, .keep, .keep, .keep, .keep, .keep, (.ros 22), (.ros 3), (.ros 86), (.ros 24), (.ros 28), (.ros 196), .keep, .keep, .keep, .keep])] v11_0 F11_0 w11_0 ok11_0, Known.of envOk [9] [(.agg [.keep, .keep, .keep, .keep, .keep, .keep, (.ros 22), (.ros 3), (.ros 86), (.ros 24), (.ros 28), (.ros 196), .keep, .keep, .keep, .keep])] v14_0 F14_0 w14_0 ok14_0, Known.of envOk [] [] v13_0 F13_0 w13_0 ok13_0, Known.of envOk [5, 5, 1, 1] [(.ptr 0 0 91 [.keep, .keep, .keep, .keep, .keep, (.own 1 22), (.own 2 3)]), (.ptr 3 0 50 [.keep]), .keep, .keep] v21_0 F21_0 w21_0 ok21_0, Known.of envOk [5, 1, 1] [(.ptr 0 0 50 [.keep]), .keep, .keep] v29_0 F29_0 w29_0 ok29_0, Known.of envOk [5, 5, 1, 1] [(.ptr 0 0 91 [.keep, .keep, .keep, .keep, .keep, (.own 1 22), (.own 2 3)]), (.ptr 3 0 50 [.keep]), .keep, .keep] v23_0 F23_0 w23_0 ok23_0, Known.of envOk [5, 1] [(.ptr 0 0 50 [.keep]), .keep] v30_0 F30_0 w30_0 ok30_0]
noncomputable def L6_0 (n id : Nat) (st : St G) : Option Bool := none
set_option maxRecDepth 100000 in
theorem e6_0 (n : Nat) (v : (Int × Int × Int × Int × Int × Int × List Int × List Int × (List (Int × Int × Bool)) × (List (Int × Int)) × (List (List (Int × Int))) × (List (Int × Int × Int × Int × Bool)) × Int × Int × Int × Int) × Int) : ev Try.prog E (oracle k6_0) Try.f6.ntmps (fun x => mem x []) (L6_0 n) (finF Try.prog E Try.f6.results.toList [[]] w6_0.alts) 4000 [.code (Try.f6.body.getD .skip)] (argSt (v6_0.enc v)) = F6_0 v := by kernel_rfl
theorem ok6_0 : FnOk Try.prog E 6 v6_0.enc F6_0 w6_0.enc :=
  fn_known (fn := Try.f6) (c := (Try.f6.body.getD .skip)) Try.func6 (by kernel_rfl) rfl envOk (oracle_ok k6_0) mixed v6_0 F6_0 w6_0 [] [[]] (by kernel_rfl) [] 4000 L6_0 (by kernel_rfl)
    (fun _ h => nomatch h) (fun v _ h => ⟨0, (e6_0 _ v).trans h⟩) (fun _ => by kernel_rfl) (fun _ => by kernel_rfl) (fun _ _ => by kernel_rfl)
/- chicane/chicanelaw12.FieldSteps -/
abbrev A7_0 : Type := (Int × Int × Int × Int × Int × Int × List Int × List Int × (List (Int × Int × Bool)) × (List (Int × Int)) × (List (List (Int × Int))) × (List (Int × Int × Int × Int × Bool)) × Int × Int × Int × Int) × (Int × Int) × Int × Int
abbrev R7_0 : Type := Bool
def v7_0 : Pk G ((Int × Int × Int × Int × Int × Int × List Int × List Int × (List (Int × Int × Bool)) × (List (Int × Int)) × (List (List (Int × Int))) × (List (Int × Int × Int × Int × Bool)) × Int × Int × Int × Int) × (Int × Int) × Int × Int) := (Pk.fst (pk (Sh.cons (Sh.agg (Sh.cons (Sh.int .i64) (Sh.cons (Sh.int .i64) (Sh.cons (Sh.int .i64) (Sh.cons (Sh.int .i64) (Sh.cons (Sh.int .i64) (Sh.cons (Sh.int .i64) (Sh.cons (Sh.ros 22) (Sh.cons (Sh.ros 3) (Sh.cons (Sh.ros 86) (Sh.cons (Sh.ros 24) (Sh.cons (Sh.ros 28) (Sh.cons (Sh.ros 196) (Sh.cons (Sh.int .i64) (Sh.cons (Sh.int .i64) (Sh.cons (Sh.int .u32) (Sh.fst (Sh.cons (Sh.int .i64) Sh.nil)))))))))))))))))) (Sh.cons (Sh.agg (Sh.cons (Sh.int .i64) (Sh.fst (Sh.cons (Sh.int .i64) Sh.nil)))) (Sh.fst (Sh.cons (Sh.agg (Sh.cons (Sh.int .i64) (Sh.fst (Sh.cons (Sh.int .i64) Sh.nil)))) Sh.nil)))) Sh.hnil))
def w7_0 : Wk G Bool := (Wk.one [.keep] (Pk.fst (pk (Sh.fst (Sh.cons Sh.bool Sh.nil)) Sh.hnil)))
def F7_0 (v : (Int × Int × Int × Int × Int × Int × List Int × List Int × (List (Int × Int × Bool)) × (List (Int × Int)) × (List (List (Int × Int))) × (List (Int × Int × Int × Int × Bool)) × Int × Int × Int × Int) × (Int × Int) × Int × Int) : Option Bool :=
  (F11_0 v.1).bind fun r2834 =>
  bif (!r2834) then
    some (true)
  else
    (F14_0 v.1).bind fun r2835 =>
    match r2835 with
    | .inl r2836 =>
      (F13_0 ()).bind fun r2838 =>
      some (r2838)
    | .inr r2837 =>
      (F15_0 (v.2.1, r2837.2)).bind fun r2839 =>
      (F15_0 (v.2.2, (r2839.2.1, (r2839.2.2.2, r2839.2.2.1)))).bind fun r2840 =>
      bif (r2839.1.1 != r2840.1.1) then
        (F13_0 ()).bind fun r2841 =>
        some (r2841)
      else
        bif (r2839.1.2.1 != r2840.1.2.1) then
          (F13_0 ()).bind fun r2842 =>
          some (r2842)
        else
          (F21_0 (v.2.1, (false, (r2840.2.1, (r2840.2.2.2, r2840.2.2.1))))).bind fun r2843 =>
          (F21_0 (v.2.2, (r2843.2.1, (r2843.2.2.1, (r2843.2.2.2.2, r2843.2.2.2.1))))).bind fun r2844 =>
          (F29_0 ((r2843.1, r2844.1), r2844.2.1)).bind fun r2845 =>
          (F30_0 r2845).bind fun r2846 =>
          (F29_0 ((r2839.1.2.2.1, r2840.1.2.2.1), r2846.2)).bind fun r2847 =>
          (F30_0 r2847).bind fun r2848 =>
          (F29_0 ((r2839.1.2.2.2, r2840.1.2.2.2), r2848.2)).bind fun r2849 =>
          (F30_0 r2849).bind fun r2850 =>
          (F31_0 ((r2848.1, r2850.1), r2850.2)).bind fun r2851 =>
          (F31_0 ((r2851.1, (1048576 : Int)), r2851.2)).bind fun r2852 =>
          bif (decide (r2846.1 ≤ r2852.1)) then
            bif (!r2852.2) then
              (F13_0 ()).bind fun r2853 =>
              some (r2853)
            else
              some (false)
          else
            some (false)

noncomputable def k7_0 : List (Known Try.prog E) := [Known.of envOk [9] [(.agg [.keep, .keep, .keep, .keep, .keep, .keep, (.ros 22), (.ros 3), (.ros 86), (.ros 24), (.ros 28), (.ros 196), .keep, .keep, .keep, .keep])] v11_0 F11_0 w11_0 ok11_0, Known.of envOk [9] [(.agg [.keep, .keep, .keep, .keep, .keep, .keep, (.ros 22), (.ros 3), (.ros 86), (.ros 24), (.ros 28), (.ros 196), .keep, .keep, .keep, .keep])] v14_0 F14_0 w14_0 ok14_0, Known.of envOk [] [] v13_0 F13_0 w13_0 ok13_0, Known.of envOk [5, 1, 1] [(.ptr 0 0 91 [.keep, .keep, .keep, .keep, .keep, (.own 1 22), (.own 2 3)]), .keep, .keep] v15_0 F15_0 w15_0 ok15_0, Known.of envOk [5, 5, 1, 1] [(.ptr 0 0 91 [.keep, .keep, .keep, .keep, .keep, (.own 1 22), (.own 2 3)]), (.ptr 3 0 50 [.keep]), .keep, .keep] v21_0 F21_0 w21_0 ok21_0, Known.of envOk [5, 1, 1] [(.ptr 0 0 50 [.keep]), .keep, .keep] v29_0 F29_0 w29_0 ok29_0, Known.of envOk [5, 1] [(.ptr 0 0 50 [.keep]), .keep] v30_0 F30_0 w30_0 ok30_0, Known.of envOk [5, 1, 1] [(.ptr 0 0 50 [.keep]), .keep, .keep] v31_0 F31_0 w31_0 ok31_0]
noncomputable def L7_0 (n id : Nat) (st : St G) : Option Bool := none
set_option maxRecDepth 100000 in
theorem e7_0 (n : Nat) (v : (Int × Int × Int × Int × Int × Int × List Int × List Int × (List (Int × Int × Bool)) × (List (Int × Int)) × (List (List (Int × Int))) × (List (Int × Int × Int × Int × Bool)) × Int × Int × Int × Int) × (Int × Int) × Int × Int) : ev Try.prog E (oracle k7_0) Try.f7.ntmps (fun x => mem x []) (L7_0 n) (finF Try.prog E Try.f7.results.toList [[]] w7_0.alts) 4000 [.code (Try.f7.body.getD .skip)] (argSt (v7_0.enc v)) = F7_0 v := by kernel_rfl
theorem ok7_0 : FnOk Try.prog E 7 v7_0.enc F7_0 w7_0.enc :=
  fn_known (fn := Try.f7) (c := (Try.f7.body.getD .skip)) Try.func7 (by kernel_rfl) rfl envOk (oracle_ok k7_0) mixed v7_0 F7_0 w7_0 [] [[]] (by kernel_rfl) [] 4000 L7_0 (by kernel_rfl)
    (fun _ h => nomatch h) (fun v _ h => ⟨0, (e7_0 _ v).trans h⟩) (fun _ => by kernel_rfl) (fun _ => by kernel_rfl) (fun _ _ => by kernel_rfl)
/- chicane/vec.Scale$1 -/
abbrev A95_0 : Type := (Int × Int) × Int × Bool
abbrev R95_0 : Type := Int × Int × Bool
def v95_0 : Pk G ((Int × Int) × Int × Bool) := (pk (Sh.cons (Sh.int .i64) (Sh.fst (Sh.cons (Sh.int .i64) (Sh.snd (Sh.cons (Sh.ptr 0 0) (Sh.snd (Sh.cons (Sh.ptr 2 0) Sh.nil))))))) (Sh.hfix 2 22 (Sh.fst (Sh.cons (Sh.int .i64) Sh.nil)) (Sh.snd (Sh.hfix 0 48 (Sh.snd (Sh.cons (Sh.ptr 1 0) Sh.nil)) (Sh.fst (Sh.hfix 1 50 (Sh.fst (Sh.cons Sh.bool Sh.nil)) Sh.hnil))))))
def w95_0 : Wk G (Int × Int × Bool) := (Wk.one [.keep] (pk (Sh.fst (Sh.cons (Sh.int .i64) Sh.nil)) (Sh.hfix 2 22 (Sh.fst (Sh.cons (Sh.int .i64) Sh.nil)) (Sh.snd (Sh.hfix 0 48 (Sh.snd (Sh.cons (Sh.ptr 1 0) Sh.nil)) (Sh.fst (Sh.hfix 1 50 (Sh.fst (Sh.cons Sh.bool Sh.nil)) Sh.hnil)))))))
def F95_0 (v : (Int × Int) × Int × Bool) : Option (Int × Int × Bool) :=
  (F56_0 ((v.1.1, v.2.1), v.2.2)).bind fun r2856 =>
  some (r2856.1, (v.2.1, r2856.2))

noncomputable def k95_0 : List (Known Try.prog E) := [Known.of envOk [5, 1, 1] [(.ptr 0 0 50 [.keep]), .keep, .keep] v56_0 F56_0 w56_0 ok56_0]
noncomputable def L95_0 (n id : Nat) (st : St G) : Option (Int × Int × Bool) := none
set_option maxRecDepth 100000 in
theorem e95_0 (n : Nat) (v : (Int × Int) × Int × Bool) : ev Try.prog E (oracle k95_0) Try.f95.ntmps (fun x => mem x []) (L95_0 n) (finF Try.prog E Try.f95.results.toList [[(.ptr 1 0 50 [.keep]), (.ptr 0 0 48 [(.ptr 1 0 50 [])]), (.ptr 2 0 22 [.keep])]] w95_0.alts) 4000 [.code (Try.f95.body.getD .skip)] (argSt (v95_0.enc v)) = F95_0 v := by kernel_rfl
theorem ok95_0 : FnOk Try.prog E 95 v95_0.enc F95_0 w95_0.enc :=
  fn_known (fn := Try.f95) (c := (Try.f95.body.getD .skip)) Try.func95 (by kernel_rfl) rfl envOk (oracle_ok k95_0) mixed v95_0 F95_0 w95_0 [(.ptr 1 0 50 [.keep]), (.ptr 0 0 48 [(.ptr 1 0 50 [])]), (.ptr 2 0 22 [.keep])] [[(.ptr 1 0 50 [.keep]), (.ptr 0 0 48 [(.ptr 1 0 50 [])]), (.ptr 2 0 22 [.keep])]] (by kernel_rfl) [] 4000 L95_0 (by kernel_rfl)
    (fun _ h => nomatch h) (fun v _ h => ⟨0, (e95_0 _ v).trans h⟩) (fun _ => by kernel_rfl) (fun _ => by kernel_rfl) (fun _ _ => by kernel_rfl)
/- chicane/vec.each -/
abbrev A94_0 : Type := ((Int × Int × Int) × Int × Int × Int) × Int × Bool
abbrev R94_0 : Type := (Int × Int × Int) × Int × Bool
def v94_0 : Pk G (((Int × Int × Int) × Int × Int × Int) × Int × Bool) := (pk (Sh.cons (Sh.agg (Sh.cons (Sh.int .i64) (Sh.cons (Sh.int .i64) (Sh.fst (Sh.cons (Sh.int .i64) Sh.nil))))) (Sh.fst (Sh.cons (Sh.agg (Sh.cons (Sh.int .i64) (Sh.cons (Sh.int .i64) (Sh.fst (Sh.cons (Sh.int .i64) Sh.nil))))) (Sh.snd (Sh.cons (Sh.snd (Sh.fn (.func 95) Sh.nil (Sh.snd (Sh.cons (Sh.ptr 0 0) (Sh.snd (Sh.cons (Sh.ptr 2 0) Sh.nil)))))) Sh.nil))))) (Sh.hfix 2 22 (Sh.fst (Sh.cons (Sh.int .i64) Sh.nil)) (Sh.snd (Sh.hfix 0 48 (Sh.snd (Sh.cons (Sh.ptr 1 0) Sh.nil)) (Sh.fst (Sh.hfix 1 50 (Sh.fst (Sh.cons Sh.bool Sh.nil)) Sh.hnil))))))
def w94_0 : Wk G ((Int × Int × Int) × Int × Bool) := (Wk.one [(.agg [.keep, .keep, .keep])] (pk (Sh.fst (Sh.cons (Sh.agg (Sh.cons (Sh.int .i64) (Sh.cons (Sh.int .i64) (Sh.fst (Sh.cons (Sh.int .i64) Sh.nil))))) Sh.nil)) (Sh.hfix 2 22 (Sh.fst (Sh.cons (Sh.int .i64) Sh.nil)) (Sh.snd (Sh.hfix 0 48 (Sh.snd (Sh.cons (Sh.ptr 1 0) Sh.nil)) (Sh.fst (Sh.hfix 1 50 (Sh.fst (Sh.cons Sh.bool Sh.nil)) Sh.hnil)))))))
def F94_0 (v : ((Int × Int × Int) × Int × Int × Int) × Int × Bool) : Option ((Int × Int × Int) × Int × Bool) :=
  (F95_0 ((v.1.1.1, v.1.2.1), v.2)).bind fun r2863 =>
  (F95_0 ((v.1.1.2.1, v.1.2.2.1), r2863.2)).bind fun r2864 =>
  (F95_0 ((v.1.1.2.2, v.1.2.2.2), r2864.2)).bind fun r2865 =>
  some ((r2863.1, (r2864.1, r2865.1)), r2865.2)

noncomputable def k94_0 : List (Known Try.prog E) := [Known.of envOk [1, 1, 5, 5] [.keep, .keep, (.ptr 0 0 48 [(.ptr 1 0 50 [.keep])]), (.ptr 2 0 22 [.keep])] v95_0 F95_0 w95_0 ok95_0]
noncomputable def L94_0 (n id : Nat) (st : St G) : Option ((Int × Int × Int) × Int × Bool) := none
set_option maxRecDepth 100000 in
theorem e94_0 (n : Nat) (v : ((Int × Int × Int) × Int × Int × Int) × Int × Bool) : ev Try.prog E (oracle k94_0) Try.f94.ntmps (fun x => mem x []) (L94_0 n) (finF Try.prog E Try.f94.results.toList [[(.ptr 1 0 50 [.keep]), (.ptr 0 0 48 [(.ptr 1 0 50 [])]), (.ptr 2 0 22 [.keep])]] w94_0.alts) 4000 [.code (Try.f94.body.getD .skip)] (argSt (v94_0.enc v)) = F94_0 v := by kernel_rfl
theorem ok94_0 : FnOk Try.prog E 94 v94_0.enc F94_0 w94_0.enc :=
  fn_known (fn := Try.f94) (c := (Try.f94.body.getD .skip)) Try.func94 (by kernel_rfl) rfl envOk (oracle_ok k94_0) mixed v94_0 F94_0 w94_0 [(.ptr 1 0 50 [.keep]), (.ptr 0 0 48 [(.ptr 1 0 50 [])]), (.ptr 2 0 22 [.keep])] [[(.ptr 1 0 50 [.keep]), (.ptr 0 0 48 [(.ptr 1 0 50 [])]), (.ptr 2 0 22 [.keep])]] (by kernel_rfl) [] 4000 L94_0 (by kernel_rfl)
    (fun _ h => nomatch h) (fun v _ h => ⟨0, (e94_0 _ v).trans h⟩) (fun _ => by kernel_rfl) (fun _ => by kernel_rfl) (fun _ _ => by kernel_rfl)
/- chicane/vec.Scale -/
abbrev A68_0 : Type := ((Int × Int × Int) × Int) × Bool
abbrev R68_0 : Type := (Int × Int × Int) × Bool
def v68_0 : Pk G (((Int × Int × Int) × Int) × Bool) := (pk (Sh.snd (Sh.cons (Sh.ptr 0 0) (Sh.cons (Sh.agg (Sh.cons (Sh.int .i64) (Sh.cons (Sh.int .i64) (Sh.fst (Sh.cons (Sh.int .i64) Sh.nil))))) (Sh.fst (Sh.cons (Sh.int .i64) Sh.nil))))) (Sh.fst (Sh.hfix 0 50 (Sh.fst (Sh.cons Sh.bool Sh.nil)) Sh.hnil)))
def w68_0 : Wk G ((Int × Int × Int) × Bool) := (Wk.one [(.agg [.keep, .keep, .keep])] (pk (Sh.fst (Sh.cons (Sh.agg (Sh.cons (Sh.int .i64) (Sh.cons (Sh.int .i64) (Sh.fst (Sh.cons (Sh.int .i64) Sh.nil))))) Sh.nil)) (Sh.fst (Sh.hfix 0 50 (Sh.fst (Sh.cons Sh.bool Sh.nil)) Sh.hnil))))
def F68_0 (v : ((Int × Int × Int) × Int) × Bool) : Option ((Int × Int × Int) × Bool) :=
  (F94_0 ((v.1.1, v.1.1), (v.1.2, v.2))).bind fun r2868 =>
  some (r2868.1, r2868.2.2)

noncomputable def k68_0 : List (Known Try.prog E) := [Known.of envOk [9, 9, 195] [(.agg [.keep, .keep, .keep]), (.agg [.keep, .keep, .keep]), (.fn (.func 95) [] [(.ptr 0 0 48 [(.ptr 1 0 50 [.keep])]), (.ptr 2 0 22 [.keep])])] v94_0 F94_0 w94_0 ok94_0]
noncomputable def L68_0 (n id : Nat) (st : St G) : Option ((Int × Int × Int) × Bool) := none
set_option maxRecDepth 100000 in
theorem e68_0 (n : Nat) (v : ((Int × Int × Int) × Int) × Bool) : ev Try.prog E (oracle k68_0) Try.f68.ntmps (fun x => mem x []) (L68_0 n) (finF Try.prog E Try.f68.results.toList [[(.ptr 0 0 50 [.keep])]] w68_0.alts) 4000 [.code (Try.f68.body.getD .skip)] (argSt (v68_0.enc v)) = F68_0 v := by kernel_rfl
theorem ok68_0 : FnOk Try.prog E 68 v68_0.enc F68_0 w68_0.enc :=
  fn_known (fn := Try.f68) (c := (Try.f68.body.getD .skip)) Try.func68 (by kernel_rfl) rfl envOk (oracle_ok k68_0) mixed v68_0 F68_0 w68_0 [(.ptr 0 0 50 [.keep])] [[(.ptr 0 0 50 [.keep])]] (by kernel_rfl) [] 4000 L68_0 (by kernel_rfl)
    (fun _ h => nomatch h) (fun v _ h => ⟨0, (e68_0 _ v).trans h⟩) (fun _ => by kernel_rfl) (fun _ => by kernel_rfl) (fun _ _ => by kernel_rfl)
/- chicane/vec.each -/
abbrev A94_1 : Type := ((Int × Int × Int) × Int × Int × Int) × Bool
abbrev R94_1 : Type := (Int × Int × Int) × Bool
def v94_1 : Pk G (((Int × Int × Int) × Int × Int × Int) × Bool) := (pk (Sh.cons (Sh.agg (Sh.cons (Sh.int .i64) (Sh.cons (Sh.int .i64) (Sh.fst (Sh.cons (Sh.int .i64) Sh.nil))))) (Sh.fst (Sh.cons (Sh.agg (Sh.cons (Sh.int .i64) (Sh.cons (Sh.int .i64) (Sh.fst (Sh.cons (Sh.int .i64) Sh.nil))))) (Sh.snd (Sh.cons (Sh.snd (Sh.fn (.func 31) (Sh.snd (Sh.cons (Sh.ptr 0 0) Sh.nil)) Sh.nil)) Sh.nil))))) (Sh.fst (Sh.hfix 0 50 (Sh.fst (Sh.cons Sh.bool Sh.nil)) Sh.hnil)))
def w94_1 : Wk G ((Int × Int × Int) × Bool) := (Wk.one [(.agg [.keep, .keep, .keep])] (pk (Sh.fst (Sh.cons (Sh.agg (Sh.cons (Sh.int .i64) (Sh.cons (Sh.int .i64) (Sh.fst (Sh.cons (Sh.int .i64) Sh.nil))))) Sh.nil)) (Sh.fst (Sh.hfix 0 50 (Sh.fst (Sh.cons Sh.bool Sh.nil)) Sh.hnil))))
def F94_1 (v : ((Int × Int × Int) × Int × Int × Int) × Bool) : Option ((Int × Int × Int) × Bool) :=
  (F31_0 ((v.1.1.1, v.1.2.1), v.2)).bind fun r2876 =>
  (F31_0 ((v.1.1.2.1, v.1.2.2.1), r2876.2)).bind fun r2877 =>
  (F31_0 ((v.1.1.2.2, v.1.2.2.2), r2877.2)).bind fun r2878 =>
  some ((r2876.1, (r2877.1, r2878.1)), r2878.2)

noncomputable def k94_1 : List (Known Try.prog E) := [Known.of envOk [5, 1, 1] [(.ptr 0 0 50 [.keep]), .keep, .keep] v31_0 F31_0 w31_0 ok31_0]
noncomputable def L94_1 (n id : Nat) (st : St G) : Option ((Int × Int × Int) × Bool) := none
set_option maxRecDepth 100000 in
theorem e94_1 (n : Nat) (v : ((Int × Int × Int) × Int × Int × Int) × Bool) : ev Try.prog E (oracle k94_1) Try.f94.ntmps (fun x => mem x []) (L94_1 n) (finF Try.prog E Try.f94.results.toList [[(.ptr 0 0 50 [.keep])]] w94_1.alts) 4000 [.code (Try.f94.body.getD .skip)] (argSt (v94_1.enc v)) = F94_1 v := by kernel_rfl
theorem ok94_1 : FnOk Try.prog E 94 v94_1.enc F94_1 w94_1.enc :=
  fn_known (fn := Try.f94) (c := (Try.f94.body.getD .skip)) Try.func94 (by kernel_rfl) rfl envOk (oracle_ok k94_1) mixed v94_1 F94_1 w94_1 [(.ptr 0 0 50 [.keep])] [[(.ptr 0 0 50 [.keep])]] (by kernel_rfl) [] 4000 L94_1 (by kernel_rfl)
    (fun _ h => nomatch h) (fun v _ h => ⟨0, (e94_1 _ v).trans h⟩) (fun _ => by kernel_rfl) (fun _ => by kernel_rfl) (fun _ _ => by kernel_rfl)
/- chicane/vec.Add -/
abbrev A67_0 : Type := ((Int × Int × Int) × Int × Int × Int) × Bool
abbrev R67_0 : Type := (Int × Int × Int) × Bool
def v67_0 : Pk G (((Int × Int × Int) × Int × Int × Int) × Bool) := (pk (Sh.snd (Sh.cons (Sh.ptr 0 0) (Sh.cons (Sh.agg (Sh.cons (Sh.int .i64) (Sh.cons (Sh.int .i64) (Sh.fst (Sh.cons (Sh.int .i64) Sh.nil))))) (Sh.fst (Sh.cons (Sh.agg (Sh.cons (Sh.int .i64) (Sh.cons (Sh.int .i64) (Sh.fst (Sh.cons (Sh.int .i64) Sh.nil))))) Sh.nil))))) (Sh.fst (Sh.hfix 0 50 (Sh.fst (Sh.cons Sh.bool Sh.nil)) Sh.hnil)))
def w67_0 : Wk G ((Int × Int × Int) × Bool) := (Wk.one [(.agg [.keep, .keep, .keep])] (pk (Sh.fst (Sh.cons (Sh.agg (Sh.cons (Sh.int .i64) (Sh.cons (Sh.int .i64) (Sh.fst (Sh.cons (Sh.int .i64) Sh.nil))))) Sh.nil)) (Sh.fst (Sh.hfix 0 50 (Sh.fst (Sh.cons Sh.bool Sh.nil)) Sh.hnil))))
def F67_0 (v : ((Int × Int × Int) × Int × Int × Int) × Bool) : Option ((Int × Int × Int) × Bool) :=
  (F94_1 v).bind fun r2881 =>
  some (r2881)

noncomputable def k67_0 : List (Known Try.prog E) := [Known.of envOk [9, 9, 131] [(.agg [.keep, .keep, .keep]), (.agg [.keep, .keep, .keep]), (.fn (.func 31) [(.ptr 0 0 50 [.keep])] [])] v94_1 F94_1 w94_1 ok94_1]
noncomputable def L67_0 (n id : Nat) (st : St G) : Option ((Int × Int × Int) × Bool) := none
set_option maxRecDepth 100000 in
theorem e67_0 (n : Nat) (v : ((Int × Int × Int) × Int × Int × Int) × Bool) : ev Try.prog E (oracle k67_0) Try.f67.ntmps (fun x => mem x []) (L67_0 n) (finF Try.prog E Try.f67.results.toList [[(.ptr 0 0 50 [.keep])]] w67_0.alts) 4000 [.code (Try.f67.body.getD .skip)] (argSt (v67_0.enc v)) = F67_0 v := by kernel_rfl
theorem ok67_0 : FnOk Try.prog E 67 v67_0.enc F67_0 w67_0.enc :=
  fn_known (fn := Try.f67) (c := (Try.f67.body.getD .skip)) Try.func67 (by kernel_rfl) rfl envOk (oracle_ok k67_0) mixed v67_0 F67_0 w67_0 [(.ptr 0 0 50 [.keep])] [[(.ptr 0 0 50 [.keep])]] (by kernel_rfl) [] 4000 L67_0 (by kernel_rfl)
    (fun _ h => nomatch h) (fun v _ h => ⟨0, (e67_0 _ v).trans h⟩) (fun _ => by kernel_rfl) (fun _ => by kernel_rfl) (fun _ _ => by kernel_rfl)
/- chicane/ray.Point -/
abbrev A32_0 : Type := ((Int × Int × Int) × (Int × Int × Int) × Int) × Bool
abbrev R32_0 : Type := (Int × Int × Int) × Bool
def v32_0 : Pk G (((Int × Int × Int) × (Int × Int × Int) × Int) × Bool) := (pk (Sh.snd (Sh.cons (Sh.ptr 0 0) (Sh.cons (Sh.agg (Sh.cons (Sh.int .i64) (Sh.cons (Sh.int .i64) (Sh.fst (Sh.cons (Sh.int .i64) Sh.nil))))) (Sh.cons (Sh.agg (Sh.cons (Sh.int .i64) (Sh.cons (Sh.int .i64) (Sh.fst (Sh.cons (Sh.int .i64) Sh.nil))))) (Sh.fst (Sh.cons (Sh.int .i64) Sh.nil)))))) (Sh.fst (Sh.hfix 0 50 (Sh.fst (Sh.cons Sh.bool Sh.nil)) Sh.hnil)))
def w32_0 : Wk G ((Int × Int × Int) × Bool) := (Wk.one [(.agg [.keep, .keep, .keep])] (pk (Sh.fst (Sh.cons (Sh.agg (Sh.cons (Sh.int .i64) (Sh.cons (Sh.int .i64) (Sh.fst (Sh.cons (Sh.int .i64) Sh.nil))))) Sh.nil)) (Sh.fst (Sh.hfix 0 50 (Sh.fst (Sh.cons Sh.bool Sh.nil)) Sh.hnil))))
def F32_0 (v : ((Int × Int × Int) × (Int × Int × Int) × Int) × Bool) : Option ((Int × Int × Int) × Bool) :=
  (F68_0 (v.1.2, v.2)).bind fun r2885 =>
  (F67_0 ((v.1.1, r2885.1), r2885.2)).bind fun r2886 =>
  some (r2886)

noncomputable def k32_0 : List (Known Try.prog E) := [Known.of envOk [5, 9, 1] [(.ptr 0 0 50 [.keep]), (.agg [.keep, .keep, .keep]), .keep] v68_0 F68_0 w68_0 ok68_0, Known.of envOk [5, 9, 9] [(.ptr 0 0 50 [.keep]), (.agg [.keep, .keep, .keep]), (.agg [.keep, .keep, .keep])] v67_0 F67_0 w67_0 ok67_0]
noncomputable def L32_0 (n id : Nat) (st : St G) : Option ((Int × Int × Int) × Bool) := none
set_option maxRecDepth 100000 in
theorem e32_0 (n : Nat) (v : ((Int × Int × Int) × (Int × Int × Int) × Int) × Bool) : ev Try.prog E (oracle k32_0) Try.f32.ntmps (fun x => mem x []) (L32_0 n) (finF Try.prog E Try.f32.results.toList [[(.ptr 0 0 50 [.keep])]] w32_0.alts) 4000 [.code (Try.f32.body.getD .skip)] (argSt (v32_0.enc v)) = F32_0 v := by kernel_rfl
theorem ok32_0 : FnOk Try.prog E 32 v32_0.enc F32_0 w32_0.enc :=
  fn_known (fn := Try.f32) (c := (Try.f32.body.getD .skip)) Try.func32 (by kernel_rfl) rfl envOk (oracle_ok k32_0) mixed v32_0 F32_0 w32_0 [(.ptr 0 0 50 [.keep])] [[(.ptr 0 0 50 [.keep])]] (by kernel_rfl) [] 4000 L32_0 (by kernel_rfl)
    (fun _ h => nomatch h) (fun v _ h => ⟨0, (e32_0 _ v).trans h⟩) (fun _ => by kernel_rfl) (fun _ => by kernel_rfl) (fun _ _ => by kernel_rfl)
/- chicane/chicaneref05.Scale -/
abbrev A70_0 : Type := ((Int × Int × Int) × Int) × Bool
abbrev R70_0 : Type := (Int × Int × Int) × Bool
def v70_0 : Pk G (((Int × Int × Int) × Int) × Bool) := (pk (Sh.snd (Sh.cons (Sh.ptr 0 0) (Sh.cons (Sh.agg (Sh.cons (Sh.int .i64) (Sh.cons (Sh.int .i64) (Sh.fst (Sh.cons (Sh.int .i64) Sh.nil))))) (Sh.fst (Sh.cons (Sh.int .i64) Sh.nil))))) (Sh.fst (Sh.hfix 0 52 (Sh.fst (Sh.cons Sh.bool Sh.nil)) Sh.hnil)))
def w70_0 : Wk G ((Int × Int × Int) × Bool) := (Wk.one [(.agg [.keep, .keep, .keep])] (pk (Sh.fst (Sh.cons (Sh.agg (Sh.cons (Sh.int .i64) (Sh.cons (Sh.int .i64) (Sh.fst (Sh.cons (Sh.int .i64) Sh.nil))))) Sh.nil)) (Sh.fst (Sh.hfix 0 52 (Sh.fst (Sh.cons Sh.bool Sh.nil)) Sh.hnil))))
def F70_0 (v : ((Int × Int × Int) × Int) × Bool) : Option ((Int × Int × Int) × Bool) :=
  (F58_0 ((v.1.1.1, v.1.2), v.2)).bind fun r2894 =>
  (F58_0 ((v.1.1.2.1, v.1.2), r2894.2)).bind fun r2895 =>
  (F58_0 ((v.1.1.2.2, v.1.2), r2895.2)).bind fun r2896 =>
  some ((r2894.1, (r2895.1, r2896.1)), r2896.2)

noncomputable def k70_0 : List (Known Try.prog E) := [Known.of envOk [5, 1, 1] [(.ptr 0 0 52 [.keep]), .keep, .keep] v58_0 F58_0 w58_0 ok58_0]
noncomputable def L70_0 (n id : Nat) (st : St G) : Option ((Int × Int × Int) × Bool) := none
set_option maxRecDepth 100000 in
theorem e70_0 (n : Nat) (v : ((Int × Int × Int) × Int) × Bool) : ev Try.prog E (oracle k70_0) Try.f70.ntmps (fun x => mem x []) (L70_0 n) (finF Try.prog E Try.f70.results.toList [[(.ptr 0 0 52 [.keep])]] w70_0.alts) 4000 [.code (Try.f70.body.getD .skip)] (argSt (v70_0.enc v)) = F70_0 v := by kernel_rfl
theorem ok70_0 : FnOk Try.prog E 70 v70_0.enc F70_0 w70_0.enc :=
  fn_known (fn := Try.f70) (c := (Try.f70.body.getD .skip)) Try.func70 (by kernel_rfl) rfl envOk (oracle_ok k70_0) mixed v70_0 F70_0 w70_0 [(.ptr 0 0 52 [.keep])] [[(.ptr 0 0 52 [.keep])]] (by kernel_rfl) [] 4000 L70_0 (by kernel_rfl)
    (fun _ h => nomatch h) (fun v _ h => ⟨0, (e70_0 _ v).trans h⟩) (fun _ => by kernel_rfl) (fun _ => by kernel_rfl) (fun _ _ => by kernel_rfl)
/- chicane/chicaneref05.Add -/
abbrev A69_0 : Type := ((Int × Int × Int) × Int × Int × Int) × Bool
abbrev R69_0 : Type := (Int × Int × Int) × Bool
def v69_0 : Pk G (((Int × Int × Int) × Int × Int × Int) × Bool) := (pk (Sh.snd (Sh.cons (Sh.ptr 0 0) (Sh.cons (Sh.agg (Sh.cons (Sh.int .i64) (Sh.cons (Sh.int .i64) (Sh.fst (Sh.cons (Sh.int .i64) Sh.nil))))) (Sh.fst (Sh.cons (Sh.agg (Sh.cons (Sh.int .i64) (Sh.cons (Sh.int .i64) (Sh.fst (Sh.cons (Sh.int .i64) Sh.nil))))) Sh.nil))))) (Sh.fst (Sh.hfix 0 52 (Sh.fst (Sh.cons Sh.bool Sh.nil)) Sh.hnil)))
def w69_0 : Wk G ((Int × Int × Int) × Bool) := (Wk.one [(.agg [.keep, .keep, .keep])] (pk (Sh.fst (Sh.cons (Sh.agg (Sh.cons (Sh.int .i64) (Sh.cons (Sh.int .i64) (Sh.fst (Sh.cons (Sh.int .i64) Sh.nil))))) Sh.nil)) (Sh.fst (Sh.hfix 0 52 (Sh.fst (Sh.cons Sh.bool Sh.nil)) Sh.hnil))))
def F69_0 (v : ((Int × Int × Int) × Int × Int × Int) × Bool) : Option ((Int × Int × Int) × Bool) :=
  (F57_0 ((v.1.1.1, v.1.2.1), v.2)).bind fun r2904 =>
  (F57_0 ((v.1.1.2.1, v.1.2.2.1), r2904.2)).bind fun r2905 =>
  (F57_0 ((v.1.1.2.2, v.1.2.2.2), r2905.2)).bind fun r2906 =>
  some ((r2904.1, (r2905.1, r2906.1)), r2906.2)

noncomputable def k69_0 : List (Known Try.prog E) := [Known.of envOk [5, 1, 1] [(.ptr 0 0 52 [.keep]), .keep, .keep] v57_0 F57_0 w57_0 ok57_0]
noncomputable def L69_0 (n id : Nat) (st : St G) : Option ((Int × Int × Int) × Bool) := none
set_option maxRecDepth 100000 in
theorem e69_0 (n : Nat) (v : ((Int × Int × Int) × Int × Int × Int) × Bool) : ev Try.prog E (oracle k69_0) Try.f69.ntmps (fun x => mem x []) (L69_0 n) (finF Try.prog E Try.f69.results.toList [[(.ptr 0 0 52 [.keep])]] w69_0.alts) 4000 [.code (Try.f69.body.getD .skip)] (argSt (v69_0.enc v)) = F69_0 v := by kernel_rfl
theorem ok69_0 : FnOk Try.prog E 69 v69_0.enc F69_0 w69_0.enc :=
  fn_known (fn := Try.f69) (c := (Try.f69.body.getD .skip)) Try.func69 (by kernel_rfl) rfl envOk (oracle_ok k69_0) mixed v69_0 F69_0 w69_0 [(.ptr 0 0 52 [.keep])] [[(.ptr 0 0 52 [.keep])]] (by kernel_rfl) [] 4000 L69_0 (by kernel_rfl)
    (fun _ h => nomatch h) (fun v _ h => ⟨0, (e69_0 _ v).trans h⟩) (fun _ => by kernel_rfl) (fun _ => by kernel_rfl) (fun _ _ => by kernel_rfl)
/- chicane/chicaneref13.Point -/
abbrev A33_0 : Type := ((Int × Int × Int) × (Int × Int × Int) × Int) × Bool
abbrev R33_0 : Type := (Int × Int × Int) × Bool
def v33_0 : Pk G (((Int × Int × Int) × (Int × Int × Int) × Int) × Bool) := (pk (Sh.snd (Sh.cons (Sh.ptr 0 0) (Sh.cons (Sh.agg (Sh.cons (Sh.int .i64) (Sh.cons (Sh.int .i64) (Sh.fst (Sh.cons (Sh.int .i64) Sh.nil))))) (Sh.cons (Sh.agg (Sh.cons (Sh.int .i64) (Sh.cons (Sh.int .i64) (Sh.fst (Sh.cons (Sh.int .i64) Sh.nil))))) (Sh.fst (Sh.cons (Sh.int .i64) Sh.nil)))))) (Sh.fst (Sh.hfix 0 52 (Sh.fst (Sh.cons Sh.bool Sh.nil)) Sh.hnil)))
def w33_0 : Wk G ((Int × Int × Int) × Bool) := (Wk.one [(.agg [.keep, .keep, .keep])] (pk (Sh.fst (Sh.cons (Sh.agg (Sh.cons (Sh.int .i64) (Sh.cons (Sh.int .i64) (Sh.fst (Sh.cons (Sh.int .i64) Sh.nil))))) Sh.nil)) (Sh.fst (Sh.hfix 0 52 (Sh.fst (Sh.cons Sh.bool Sh.nil)) Sh.hnil))))
def F33_0 (v : ((Int × Int × Int) × (Int × Int × Int) × Int) × Bool) : Option ((Int × Int × Int) × Bool) :=
  (F70_0 (v.1.2, v.2)).bind fun r2910 =>
  (F69_0 ((v.1.1, r2910.1), r2910.2)).bind fun r2911 =>
  some (r2911)

noncomputable def k33_0 : List (Known Try.prog E) := [Known.of envOk [5, 9, 1] [(.ptr 0 0 52 [.keep]), (.agg [.keep, .keep, .keep]), .keep] v70_0 F70_0 w70_0 ok70_0, Known.of envOk [5, 9, 9] [(.ptr 0 0 52 [.keep]), (.agg [.keep, .keep, .keep]), (.agg [.keep, .keep, .keep])] v69_0 F69_0 w69_0 ok69_0]
noncomputable def L33_0 (n id : Nat) (st : St G) : Option ((Int × Int × Int) × Bool) := none
set_option maxRecDepth 100000 in
theorem e33_0 (n : Nat) (v : ((Int × Int × Int) × (Int × Int × Int) × Int) × Bool) : ev Try.prog E (oracle k33_0) Try.f33.ntmps (fun x => mem x []) (L33_0 n) (finF Try.prog E Try.f33.results.toList [[(.ptr 0 0 52 [.keep])]] w33_0.alts) 4000 [.code (Try.f33.body.getD .skip)] (argSt (v33_0.enc v)) = F33_0 v := by kernel_rfl
theorem ok33_0 : FnOk Try.prog E 33 v33_0.enc F33_0 w33_0.enc :=
  fn_known (fn := Try.f33) (c := (Try.f33.body.getD .skip)) Try.func33 (by kernel_rfl) rfl envOk (oracle_ok k33_0) mixed v33_0 F33_0 w33_0 [(.ptr 0 0 52 [.keep])] [[(.ptr 0 0 52 [.keep])]] (by kernel_rfl) [] 4000 L33_0 (by kernel_rfl)
    (fun _ h => nomatch h) (fun v _ h => ⟨0, (e33_0 _ v).trans h⟩) (fun _ => by kernel_rfl) (fun _ => by kernel_rfl) (fun _ _ => by kernel_rfl)
/- chicane/chicanelaw13.level -/
abbrev A71_0 : Type := Unit
abbrev R71_0 : Type := (Int × Int × Int × Int × Int × Int × Int × Int × Int × Int) × (List (Int × Int × Bool)) × List Int × List Int
def v71_0 : Pk G Unit := (Pk.snd (pk Sh.nil Sh.hnil))
def w71_0 : Wk G ((Int × Int × Int × Int × Int × Int × Int × Int × Int × Int) × (List (Int × Int × Bool)) × List Int × List Int) := (Wk.one [(.agg [.keep, .keep, .keep, .keep, .keep, .keep, (.own 0 22), (.own 1 3), (.own 2 86), .keep, .keep, .keep, .keep, .keep, .keep, .keep])] (pk (Sh.fst (Sh.cons (Sh.agg (Sh.cons (Sh.int .i64) (Sh.cons (Sh.int .i64) (Sh.cons (Sh.int .i64) (Sh.cons (Sh.int .i64) (Sh.cons (Sh.int .i64) (Sh.cons (Sh.int .i64) (Sh.snd (Sh.cons (Sh.osl 0) (Sh.snd (Sh.cons (Sh.osl 1) (Sh.snd (Sh.cons (Sh.osl 2) (Sh.snd (Sh.cons Sh.nilsl (Sh.snd (Sh.cons Sh.nilsl (Sh.snd (Sh.cons Sh.nilsl (Sh.cons (Sh.int .i64) (Sh.cons (Sh.int .i64) (Sh.cons (Sh.int .u32) (Sh.fst (Sh.cons (Sh.int .i64) Sh.nil)))))))))))))))))))))))) Sh.nil)) (Sh.hrow 2 86 (Sh.hrow 1 3 (Sh.fst (Sh.hrow 0 22 Sh.hnil))))))
def F71_0 (v : Unit) : Option ((Int × Int × Int × Int × Int × Int × Int × Int × Int × Int) × (List (Int × Int × Bool)) × List Int × List Int) :=
  some (((0 : Int), ((34359738368 : Int), ((1 : Int), ((1 : Int), ((0 : Int), ((0 : Int), ((0 : Int), ((0 : Int), ((0 : Int), (0 : Int)))))))))), (([((4294967296 : Int), ((0 : Int), false))] : List (Int × Int × Bool)), (([(0 : Int)] : List Int), ([(0 : Int), (0 : Int), (0 : Int), (0 : Int)] : List Int))))

noncomputable def k71_0 : List (Known Try.prog E) := []
noncomputable def L71_0 (n id : Nat) (st : St G) : Option ((Int × Int × Int × Int × Int × Int × Int × Int × Int × Int) × (List (Int × Int × Bool)) × List Int × List Int) := none
set_option maxRecDepth 100000 in
theorem e71_0 (n : Nat) (v : Unit) : ev Try.prog E (oracle k71_0) Try.f71.ntmps (fun x => mem x []) (L71_0 n) (finF Try.prog E Try.f71.results.toList [[]] w71_0.alts) 4000 [.code (Try.f71.body.getD .skip)] (argSt (v71_0.enc v)) = F71_0 v := by kernel_rfl
theorem ok71_0 : FnOk Try.prog E 71 v71_0.enc F71_0 w71_0.enc :=
  fn_known (fn := Try.f71) (c := (Try.f71.body.getD .skip)) Try.func71 (by kernel_rfl) rfl envOk (oracle_ok k71_0) mixed v71_0 F71_0 w71_0 [] [[]] (by kernel_rfl) [] 4000 L71_0 (by kernel_rfl)
    (fun _ h => nomatch h) (fun v _ h => ⟨0, (e71_0 _ v).trans h⟩) (fun _ => by kernel_rfl) (fun _ => by kernel_rfl) (fun _ _ => by kernel_rfl)
/- chicane/vec.Clamp$1 -/
abbrev A105_0 : Type := (Int × Int) × Int
abbrev R105_0 : Type := Int × Int
def v105_0 : Pk G ((Int × Int) × Int) := (pk (Sh.cons (Sh.int .i64) (Sh.fst (Sh.cons (Sh.int .i64) (Sh.snd (Sh.cons (Sh.ptr 0 0) Sh.nil))))) (Sh.fst (Sh.hfix 0 22 (Sh.fst (Sh.cons (Sh.int .i64) Sh.nil)) Sh.hnil)))
def w105_0 : Wk G (Int × Int) := (Wk.one [.keep] (pk (Sh.fst (Sh.cons (Sh.int .i64) Sh.nil)) (Sh.fst (Sh.hfix 0 22 (Sh.fst (Sh.cons (Sh.int .i64) Sh.nil)) Sh.hnil))))
def F105_0 (v : (Int × Int) × Int) : Option (Int × Int) :=
  let x2922 : Int := (IntKind.wrap .i64 (0 - v.2))
  (F80_0 (v.1.1, (x2922, v.2))).bind fun r2923 =>
  some (r2923, v.2)

noncomputable def k105_0 : List (Known Try.prog E) := [Known.of envOk [1, 1, 1] [.keep, .keep, .keep] v80_0 F80_0 w80_0 ok80_0]
noncomputable def L105_0 (n id : Nat) (st : St G) : Option (Int × Int) := none
set_option maxRecDepth 100000 in
theorem e105_0 (n : Nat) (v : (Int × Int) × Int) : ev Try.prog E (oracle k105_0) Try.f105.ntmps (fun x => mem x []) (L105_0 n) (finF Try.prog E Try.f105.results.toList [[(.ptr 0 0 22 [.keep])]] w105_0.alts) 4000 [.code (Try.f105.body.getD .skip)] (argSt (v105_0.enc v)) = F105_0 v := by kernel_rfl
theorem ok105_0 : FnOk Try.prog E 105 v105_0.enc F105_0 w105_0.enc :=
  fn_known (fn := Try.f105) (c := (Try.f105.body.getD .skip)) Try.func105 (by kernel_rfl) rfl envOk (oracle_ok k105_0) mixed v105_0 F105_0 w105_0 [(.ptr 0 0 22 [.keep])] [[(.ptr 0 0 22 [.keep])]] (by kernel_rfl) [] 4000 L105_0 (by kernel_rfl)
    (fun _ h => nomatch h) (fun v _ h => ⟨0, (e105_0 _ v).trans h⟩) (fun _ => by kernel_rfl) (fun _ => by kernel_rfl) (fun _ _ => by kernel_rfl)
/- chicane/vec.each -/
abbrev A94_2 : Type := ((Int × Int × Int) × Int × Int × Int) × Int
abbrev R94_2 : Type := (Int × Int × Int) × Int
def v94_2 : Pk G (((Int × Int × Int) × Int × Int × Int) × Int) := (pk (Sh.cons (Sh.agg (Sh.cons (Sh.int .i64) (Sh.cons (Sh.int .i64) (Sh.fst (Sh.cons (Sh.int .i64) Sh.nil))))) (Sh.fst (Sh.cons (Sh.agg (Sh.cons (Sh.int .i64) (Sh.cons (Sh.int .i64) (Sh.fst (Sh.cons (Sh.int .i64) Sh.nil))))) (Sh.snd (Sh.cons (Sh.snd (Sh.fn (.func 105) Sh.nil (Sh.snd (Sh.cons (Sh.ptr 0 0) Sh.nil)))) Sh.nil))))) (Sh.fst (Sh.hfix 0 22 (Sh.fst (Sh.cons (Sh.int .i64) Sh.nil)) Sh.hnil)))
def w94_2 : Wk G ((Int × Int × Int) × Int) := (Wk.one [(.agg [.keep, .keep, .keep])] (pk (Sh.fst (Sh.cons (Sh.agg (Sh.cons (Sh.int .i64) (Sh.cons (Sh.int .i64) (Sh.fst (Sh.cons (Sh.int .i64) Sh.nil))))) Sh.nil)) (Sh.fst (Sh.hfix 0 22 (Sh.fst (Sh.cons (Sh.int .i64) Sh.nil)) Sh.hnil))))
def F94_2 (v : ((Int × Int × Int) × Int × Int × Int) × Int) : Option ((Int × Int × Int) × Int) :=
  (F105_0 ((v.1.1.1, v.1.2.1), v.2)).bind fun r2930 =>
  (F105_0 ((v.1.1.2.1, v.1.2.2.1), r2930.2)).bind fun r2931 =>
  (F105_0 ((v.1.1.2.2, v.1.2.2.2), r2931.2)).bind fun r2932 =>
  some ((r2930.1, (r2931.1, r2932.1)), r2932.2)

noncomputable def k94_2 : List (Known Try.prog E) := [Known.of envOk [1, 1, 5] [.keep, .keep, (.ptr 0 0 22 [.keep])] v105_0 F105_0 w105_0 ok105_0]
noncomputable def L94_2 (n id : Nat) (st : St G) : Option ((Int × Int × Int) × Int) := none
set_option maxRecDepth 100000 in
theorem e94_2 (n : Nat) (v : ((Int × Int × Int) × Int × Int × Int) × Int) : ev Try.prog E (oracle k94_2) Try.f94.ntmps (fun x => mem x []) (L94_2 n) (finF Try.prog E Try.f94.results.toList [[(.ptr 0 0 22 [.keep])]] w94_2.alts) 4000 [.code (Try.f94.body.getD .skip)] (argSt (v94_2.enc v)) = F94_2 v := by kernel_rfl
theorem ok94_2 : FnOk Try.prog E 94 v94_2.enc F94_2 w94_2.enc :=
  fn_known (fn := Try.f94) (c := (Try.f94.body.getD .skip)) Try.func94 (by kernel_rfl) rfl envOk (oracle_ok k94_2) mixed v94_2 F94_2 w94_2 [(.ptr 0 0 22 [.keep])] [[(.ptr 0 0 22 [.keep])]] (by kernel_rfl) [] 4000 L94_2 (by kernel_rfl)
    (fun _ h => nomatch h) (fun v _ h => ⟨0, (e94_2 _ v).trans h⟩) (fun _ => by kernel_rfl) (fun _ => by kernel_rfl) (fun _ _ => by kernel_rfl)
/- chicane/vec.Clamp -/
abbrev A96_0 : Type := (Int × Int × Int) × Int
abbrev R96_0 : Type := Int × Int × Int
def v96_0 : Pk G ((Int × Int × Int) × Int) := (Pk.fst (pk (Sh.cons (Sh.agg (Sh.cons (Sh.int .i64) (Sh.cons (Sh.int .i64) (Sh.fst (Sh.cons (Sh.int .i64) Sh.nil))))) (Sh.fst (Sh.cons (Sh.int .i64) Sh.nil))) Sh.hnil))
def w96_0 : Wk G (Int × Int × Int) := (Wk.one [(.agg [.keep, .keep, .keep])] (Pk.fst (pk (Sh.fst (Sh.cons (Sh.agg (Sh.cons (Sh.int .i64) (Sh.cons (Sh.int .i64) (Sh.fst (Sh.cons (Sh.int .i64) Sh.nil))))) Sh.nil)) Sh.hnil)))
def F96_0 (v : (Int × Int × Int) × Int) : Option (Int × Int × Int) :=
  (F94_2 ((v.1, v.1), v.2)).bind fun r2935 =>
  some (r2935.1)

noncomputable def k96_0 : List (Known Try.prog E) := [Known.of envOk [9, 9, 205] [(.agg [.keep, .keep, .keep]), (.agg [.keep, .keep, .keep]), (.fn (.func 105) [] [(.ptr 0 0 22 [.keep])])] v94_2 F94_2 w94_2 ok94_2]
noncomputable def L96_0 (n id : Nat) (st : St G) : Option (Int × Int × Int) := none
set_option maxRecDepth 100000 in
theorem e96_0 (n : Nat) (v : (Int × Int × Int) × Int) : ev Try.prog E (oracle k96_0) Try.f96.ntmps (fun x => mem x []) (L96_0 n) (finF Try.prog E Try.f96.results.toList [[]] w96_0.alts) 4000 [.code (Try.f96.body.getD .skip)] (argSt (v96_0.enc v)) = F96_0 v := by kernel_rfl
theorem ok96_0 : FnOk Try.prog E 96 v96_0.enc F96_0 w96_0.enc :=
  fn_known (fn := Try.f96) (c := (Try.f96.body.getD .skip)) Try.func96 (by kernel_rfl) rfl envOk (oracle_ok k96_0) mixed v96_0 F96_0 w96_0 [] [[]] (by kernel_rfl) [] 4000 L96_0 (by kernel_rfl)
    (fun _ h => nomatch h) (fun v _ h => ⟨0, (e96_0 _ v).trans h⟩) (fun _ => by kernel_rfl) (fun _ => by kernel_rfl) (fun _ _ => by kernel_rfl)
/- chicane/ray.may -/
abbrev A72_0 : Type := (Int × Int × Int) × (Int × Int × Int) × Int
abbrev R72_0 : Type := Bool
def v72_0 : Pk G ((Int × Int × Int) × (Int × Int × Int) × Int) := (Pk.fst (pk (Sh.cons (Sh.agg (Sh.cons (Sh.int .i64) (Sh.cons (Sh.int .i64) (Sh.fst (Sh.cons (Sh.int .i64) Sh.nil))))) (Sh.cons (Sh.agg (Sh.cons (Sh.int .i64) (Sh.cons (Sh.int .i64) (Sh.fst (Sh.cons (Sh.int .i64) Sh.nil))))) (Sh.fst (Sh.cons (Sh.int .i64) Sh.nil)))) Sh.hnil))
def w72_0 : Wk G Bool := (Wk.one [.keep] (Pk.fst (pk (Sh.fst (Sh.cons Sh.bool Sh.nil)) Sh.hnil)))
def F72_0 (v : (Int × Int × Int) × (Int × Int × Int) × Int) : Option Bool :=
  (F96_0 (v.1, (281474976710656 : Int))).bind fun r2946 =>
  bif (r2946.1 == v.1.1) then
    bif (r2946.2.1 == v.1.2.1) then
      (F96_0 (v.1, (4398046511104 : Int))).bind fun r2947 =>
      bif (r2947.2.2 == v.1.2.2) then
        (F96_0 (v.2.1, (4294967296 : Int))).bind fun r2948 =>
        let x2949 : Bool := ((r2948.1 == v.2.1.1) && ((r2948.2.1 == v.2.1.2.1) && ((r2948.2.2 == v.2.1.2.2) && true)))
        bif x2949 then
          (F80_0 (v.2.2, ((0 : Int), (274877906944 : Int)))).bind fun r2950 =>
          some (r2950 == v.2.2)
        else
          some (false)
      else
        some (false)
    else
      some (false)
  else
    some (false)

noncomputable def k72_0 : List (Known Try.prog E) := [Known.of envOk [9, 1] [(.agg [.keep, .keep, .keep]), .keep] v96_0 F96_0 w96_0 ok96_0, Known.of envOk [1, 1, 1] [.keep, .keep, .keep] v80_0 F80_0 w80_0 ok80_0]
noncomputable def L72_0 (n id : Nat) (st : St G) : Option Bool := none
set_option maxRecDepth 100000 in
theorem e72_0 (n : Nat) (v : (Int × Int × Int) × (Int × Int × Int) × Int) : ev Try.prog E (oracle k72_0) Try.f72.ntmps (fun x => mem x []) (L72_0 n) (finF Try.prog E Try.f72.results.toList [[]] w72_0.alts) 4000 [.code (Try.f72.body.getD .skip)] (argSt (v72_0.enc v)) = F72_0 v := by kernel_rfl
theorem ok72_0 : FnOk Try.prog E 72 v72_0.enc F72_0 w72_0.enc :=
  fn_known (fn := Try.f72) (c := (Try.f72.body.getD .skip)) Try.func72 (by kernel_rfl) rfl envOk (oracle_ok k72_0) mixed v72_0 F72_0 w72_0 [] [[]] (by kernel_rfl) [] 4000 L72_0 (by kernel_rfl)
    (fun _ h => nomatch h) (fun v _ h => ⟨0, (e72_0 _ v).trans h⟩) (fun _ => by kernel_rfl) (fun _ => by kernel_rfl) (fun _ _ => by kernel_rfl)
/- chicane/ray.parts -/
abbrev A97_0 : Type := (Int × Int)
abbrev R97_0 : Type := Int × Int
def v97_0 : Pk G ((Int × Int)) := (Pk.fst (pk (Sh.fst (Sh.cons Sh.cpx Sh.nil)) Sh.hnil))
def w97_0 : Wk G (Int × Int) := (Wk.one [.keep, .keep] (Pk.fst (pk (Sh.cons (Sh.int .i64) (Sh.fst (Sh.cons (Sh.int .i64) Sh.nil))) Sh.hnil)))
def F97_0 (v : (Int × Int)) : Option (Int × Int) :=
  (chk (decide (IntKind.min .i64 ≤ v.1 ∧ v.1 ≤ IntKind.max .i64))).bind fun _ =>
  (chk (decide (IntKind.min .i64 ≤ v.2 ∧ v.2 ≤ IntKind.max .i64))).bind fun _ =>
  some (v)

noncomputable def k97_0 : List (Known Try.prog E) := []
noncomputable def L97_0 (n id : Nat) (st : St G) : Option (Int × Int) := none
set_option maxRecDepth 100000 in
theorem e97_0 (n : Nat) (v : (Int × Int)) : ev Try.prog E (oracle k97_0) Try.f97.ntmps (fun x => mem x []) (L97_0 n) (finF Try.prog E Try.f97.results.toList [[]] w97_0.alts) 4000 [.code (Try.f97.body.getD .skip)] (argSt (v97_0.enc v)) = F97_0 v := by kernel_rfl
theorem ok97_0 : FnOk Try.prog E 97 v97_0.enc F97_0 w97_0.enc :=
  fn_known (fn := Try.f97) (c := (Try.f97.body.getD .skip)) Try.func97 (by kernel_rfl) rfl envOk (oracle_ok k97_0) mixed v97_0 F97_0 w97_0 [] [[]] (by kernel_rfl) [] 4000 L97_0 (by kernel_rfl)
    (fun _ h => nomatch h) (fun v _ h => ⟨0, (e97_0 _ v).trans h⟩) (fun _ => by kernel_rfl) (fun _ => by kernel_rfl) (fun _ _ => by kernel_rfl)
/- (*chicane/ray.caster).meet -/
abbrev A73_0 : Type := (((Int × Int)) × Bool) × (Int × Int × Int × Int × Int × Int × Int × Int × Int × Int × Int × ((Int × Int)) × Int × Int × Int × Bool) × (Int × Int × Int × Int × Int) × List Int × List Int × Bool
abbrev R73_0 : Type := (Int × Int × Int × Int × Int × Int × Int × Int × Int × Int × Int × ((Int × Int)) × Int × Int × Int × Bool) × (Int × Int × Int × Int × Int) × Bool × List Int × List Int
def v73_0 : Pk G ((((Int × Int)) × Bool) × (Int × Int × Int × Int × Int × Int × Int × Int × Int × Int × Int × ((Int × Int)) × Int × Int × Int × Bool) × (Int × Int × Int × Int × Int) × List Int × List Int × Bool) := (pk (Sh.snd (Sh.cons (Sh.ptr 0 0) (Sh.cons Sh.cpx (Sh.fst (Sh.cons Sh.bool Sh.nil))))) (Sh.hfix 0 122 (Sh.snd (Sh.cons (Sh.ptr 1 0) (Sh.snd (Sh.cons (Sh.ptr 2 0) (Sh.cons (Sh.int .i64) (Sh.cons (Sh.int .i64) (Sh.cons (Sh.int .i64) (Sh.cons (Sh.int .i64) (Sh.cons (Sh.int .i64) (Sh.cons (Sh.int .i64) (Sh.cons (Sh.int .i64) (Sh.cons (Sh.int .i64) (Sh.cons (Sh.int .i64) (Sh.cons (Sh.int .i64) (Sh.cons (Sh.int .i64) (Sh.cons Sh.cpx (Sh.cons (Sh.int .i64) (Sh.cons (Sh.int .i64) (Sh.cons (Sh.int .i64) (Sh.fst (Sh.cons Sh.bool Sh.nil))))))))))))))))))))) (Sh.hfix 2 91 (Sh.cons (Sh.int .i64) (Sh.cons (Sh.int .i64) (Sh.cons (Sh.int .i64) (Sh.cons (Sh.int .i64) (Sh.fst (Sh.cons (Sh.int .i64) (Sh.snd (Sh.cons (Sh.osl 3) (Sh.snd (Sh.cons (Sh.osl 4) Sh.nil)))))))))) (Sh.hrow 4 3 (Sh.hrow 3 22 (Sh.fst (Sh.hfix 1 50 (Sh.fst (Sh.cons Sh.bool Sh.nil)) Sh.hnil)))))))
def w73_0 : Wk G ((Int × Int × Int × Int × Int × Int × Int × Int × Int × Int × Int × ((Int × Int)) × Int × Int × Int × Bool) × (Int × Int × Int × Int × Int) × Bool × List Int × List Int) := (Wk.one [] (Pk.snd (pk Sh.nil (Sh.hfix 0 122 (Sh.snd (Sh.cons (Sh.ptr 1 0) (Sh.snd (Sh.cons (Sh.ptr 2 0) (Sh.cons (Sh.int .i64) (Sh.cons (Sh.int .i64) (Sh.cons (Sh.int .i64) (Sh.cons (Sh.int .i64) (Sh.cons (Sh.int .i64) (Sh.cons (Sh.int .i64) (Sh.cons (Sh.int .i64) (Sh.cons (Sh.int .i64) (Sh.cons (Sh.int .i64) (Sh.cons (Sh.int .i64) (Sh.cons (Sh.int .i64) (Sh.cons Sh.cpx (Sh.cons (Sh.int .i64) (Sh.cons (Sh.int .i64) (Sh.cons (Sh.int .i64) (Sh.fst (Sh.cons Sh.bool Sh.nil))))))))))))))))))))) (Sh.hfix 2 91 (Sh.cons (Sh.int .i64) (Sh.cons (Sh.int .i64) (Sh.cons (Sh.int .i64) (Sh.cons (Sh.int .i64) (Sh.fst (Sh.cons (Sh.int .i64) (Sh.snd (Sh.cons (Sh.osl 3) (Sh.snd (Sh.cons (Sh.osl 4) Sh.nil)))))))))) (Sh.hfix 1 50 (Sh.fst (Sh.cons Sh.bool Sh.nil)) (Sh.hrow 3 22 (Sh.fst (Sh.hrow 4 3 Sh.hnil)))))))))
def F73_0 (v : (((Int × Int)) × Bool) × (Int × Int × Int × Int × Int × Int × Int × Int × Int × Int × Int × ((Int × Int)) × Int × Int × Int × Bool) × (Int × Int × Int × Int × Int) × List Int × List Int × Bool) : Option ((Int × Int × Int × Int × Int × Int × Int × Int × Int × Int × Int × ((Int × Int)) × Int × Int × Int × Bool) × (Int × Int × Int × Int × Int) × Bool × List Int × List Int) :=
  (F97_0 v.1.1).bind fun r3031 =>
  (F19_0 ((r3031.1, (r3031.2, v.1.2)), (v.2.2.2.2.2, (v.2.2.1, (v.2.2.2.1, v.2.2.2.2.1))))).bind fun r3032 =>
  (F56_0 ((r3032.1.1, v.2.1.2.2.2.1), r3032.2.1)).bind fun r3033 =>
  (F29_0 ((v.2.1.2.2.2.2.2.1, r3033.1), r3033.2)).bind fun r3034 =>
  (F56_0 ((r3032.1.2, v.2.1.2.2.2.2.1), r3034.2)).bind fun r3035 =>
  (F29_0 ((r3034.1, r3035.1), r3035.2)).bind fun r3036 =>
  bif (decide (r3036.1 ≥ (0 : Int))) then
    some (v.2.1, (r3032.2.2.1, (r3036.2, r3032.2.2.2)))
  else
    (chk (flOk (v.2.1.2.2.2.2.2.2.2.2.2.2.2.1.1 - v.1.1.1) && flOk (v.2.1.2.2.2.2.2.2.2.2.2.2.2.1.2 - v.1.1.2))).bind fun _ =>
    (F97_0 ((v.2.1.2.2.2.2.2.2.2.2.2.2.2.1.1 - v.1.1.1), (v.2.1.2.2.2.2.2.2.2.2.2.2.2.1.2 - v.1.1.2))).bind fun r3037 =>
    let x3038 : Int := (IntKind.wrap .i64 (r3037.1 * v.2.1.2.2.2.2.2.2.2.2.2.2.2.2.2.2.1))
    let x3039 : Int := (IntKind.wrap .i64 (v.2.1.2.2.2.2.2.2.2.2.2.2.2.2.1 + x3038))
    let x3040 : Int := (IntKind.wrap .i64 (r3037.2 * v.2.1.2.2.2.2.2.2.2.2.2.2.2.2.2.2.1))
    let x3041 : Int := (IntKind.wrap .i64 (v.2.1.2.2.2.2.2.2.2.2.2.2.2.2.2.1 + x3040))
    (F17_0 (r3031, (r3032.2.2.1, (r3032.2.2.2.2, r3032.2.2.2.1)))).bind fun r3042 =>
    (F56_0 ((r3032.1.1, x3039), r3036.2)).bind fun r3043 =>
    (F31_0 ((r3042.1, r3043.1), r3043.2)).bind fun r3044 =>
    (F56_0 ((r3032.1.2, x3041), r3044.2)).bind fun r3045 =>
    (F31_0 ((r3044.1, r3045.1), r3045.2)).bind fun r3046 =>
    (F29_0 ((v.2.1.2.2.1, r3046.1), r3046.2)).bind fun r3047 =>
    bif (decide (r3047.1 > (0 : Int))) then
      (F66_0 (r3036.1, r3047.2)).bind fun r3048 =>
      (F54_0 ((r3047.1, r3048.1), r3048.2)).bind fun r3049 =>
      bif (decide (r3049.1 ≥ v.2.1.2.2.2.2.2.2.1)) then
        some (v.2.1, (r3042.2.1, (r3049.2, r3042.2.2)))
      else
        (F32_0 (((v.2.1.1, (v.2.1.2.1, v.2.1.2.2.1)), ((v.2.1.2.2.2.1, (v.2.1.2.2.2.2.1, v.2.1.2.2.2.2.2.1)), r3049.1)), r3049.2)).bind fun r3050 =>
        (F15_0 ((r3050.1.1, r3050.1.2.1), (r3042.2.1, (r3042.2.2.2, r3042.2.2.1)))).bind fun r3051 =>
        bif (r3051.1.1 != r3031.1) then
          some (v.2.1, (r3051.2.1, (r3050.2, r3051.2.2)))
        else
          bif (r3051.1.2.1 != r3031.2) then
            some (v.2.1, (r3051.2.1, (r3050.2, r3051.2.2)))
          else
            bif (!((decide (r3051.1.2.2.1 < r3051.1.2.2.2)) == v.1.2)) then
              some (v.2.1, (r3051.2.1, (r3050.2, r3051.2.2)))
            else
              let x3052 : Int := (IntKind.wrap .i64 (0 - r3032.1.1))
              let x3053 : Int := (IntKind.wrap .i64 (0 - r3032.1.2))
              (F59_0 ((x3052, (x3053, (4294967296 : Int))), r3050.2)).bind fun r3054 =>
              (F25_0 ((r3050.1.1, r3050.1.2.1), (r3051.2.1, (r3051.2.2.2, r3051.2.2.1)))).bind fun r3055 =>
              some ((v.2.1.1, (v.2.1.2.1, (v.2.1.2.2.1, (v.2.1.2.2.2.1, (v.2.1.2.2.2.2.1, (v.2.1.2.2.2.2.2.1, (r3049.1, (r3054.1.1.1, (r3054.1.1.2.1, (r3054.1.1.2.2, (r3055.1, (v.2.1.2.2.2.2.2.2.2.2.2.2.2.1, (v.2.1.2.2.2.2.2.2.2.2.2.2.2.2.1, (v.2.1.2.2.2.2.2.2.2.2.2.2.2.2.2.1, (v.2.1.2.2.2.2.2.2.2.2.2.2.2.2.2.2.1, true))))))))))))))), (r3055.2.1, (r3054.2, r3055.2.2)))
    else
      bif (decide ((0 : Int) ≥ v.2.1.2.2.2.2.2.2.1)) then
        some (v.2.1, (r3042.2.1, (r3047.2, r3042.2.2)))
      else
        (F32_0 (((v.2.1.1, (v.2.1.2.1, v.2.1.2.2.1)), ((v.2.1.2.2.2.1, (v.2.1.2.2.2.2.1, v.2.1.2.2.2.2.2.1)), (0 : Int))), r3047.2)).bind fun r3056 =>
        (F15_0 ((r3056.1.1, r3056.1.2.1), (r3042.2.1, (r3042.2.2.2, r3042.2.2.1)))).bind fun r3057 =>
        bif (r3057.1.1 != r3031.1) then
          some (v.2.1, (r3057.2.1, (r3056.2, r3057.2.2)))
        else
          bif (r3057.1.2.1 != r3031.2) then
            some (v.2.1, (r3057.2.1, (r3056.2, r3057.2.2)))
          else
            bif (!((decide (r3057.1.2.2.1 < r3057.1.2.2.2)) == v.1.2)) then
              some (v.2.1, (r3057.2.1, (r3056.2, r3057.2.2)))
            else
              let x3058 : Int := (IntKind.wrap .i64 (0 - r3032.1.1))
              let x3059 : Int := (IntKind.wrap .i64 (0 - r3032.1.2))
              (F59_0 ((x3058, (x3059, (4294967296 : Int))), r3056.2)).bind fun r3060 =>
              (F25_0 ((r3056.1.1, r3056.1.2.1), (r3057.2.1, (r3057.2.2.2, r3057.2.2.1)))).bind fun r3061 =>
              some ((v.2.1.1, (v.2.1.2.1, (v.2.1.2.2.1, (v.2.1.2.2.2.1, (v.2.1.2.2.2.2.1, (v.2.1.2.2.2.2.2.1, ((0 : Int), (r3060.1.1.1, (r3060.1.1.2.1, (r3060.1.1.2.2, (r3061.1, (v.2.1.2.2.2.2.2.2.2.2.2.2.2.1, (v.2.1.2.2.2.2.2.2.2.2.2.2.2.2.1, (v.2.1.2.2.2.2.2.2.2.2.2.2.2.2.2.1, (v.2.1.2.2.2.2.2.2.2.2.2.2.2.2.2.2.1, true))))))))))))))), (r3061.2.1, (r3060.2, r3061.2.2)))

noncomputable def k73_0 : List (Known Try.prog E) := [Known.of envOk [15] [.keep] v97_0 F97_0 w97_0 ok97_0, Known.of envOk [5, 5, 1, 1, 2] [(.ptr 0 0 91 [.keep, .keep, .keep, .keep, .keep, (.own 1 22), (.own 2 3)]), (.ptr 3 0 50 [.keep]), .keep, .keep, .keep] v19_0 F19_0 w19_0 ok19_0, Known.of envOk [5, 1, 1] [(.ptr 0 0 50 [.keep]), .keep, .keep] v56_0 F56_0 w56_0 ok56_0, Known.of envOk [5, 1, 1] [(.ptr 0 0 50 [.keep]), .keep, .keep] v29_0 F29_0 w29_0 ok29_0, Known.of envOk [5, 1, 1] [(.ptr 0 0 91 [.keep, .keep, .keep, .keep, .keep, (.own 1 22), (.own 2 3)]), .keep, .keep] v17_0 F17_0 w17_0 ok17_0, Known.of envOk [5, 1, 1] [(.ptr 0 0 50 [.keep]), .keep, .keep] v31_0 F31_0 w31_0 ok31_0, Known.of envOk [5, 1] [(.ptr 0 0 50 [.keep]), .keep] v66_0 F66_0 w66_0 ok66_0, Known.of envOk [5, 1, 1] [(.ptr 0 0 50 [.keep]), .keep, .keep] v54_0 F54_0 w54_0 ok54_0, Known.of envOk [5, 9, 9, 1] [(.ptr 0 0 50 [.keep]), (.agg [.keep, .keep, .keep]), (.agg [.keep, .keep, .keep]), .keep] v32_0 F32_0 w32_0 ok32_0, Known.of envOk [5, 1, 1] [(.ptr 0 0 91 [.keep, .keep, .keep, .keep, .keep, (.own 1 22), (.own 2 3)]), .keep, .keep] v15_0 F15_0 w15_0 ok15_0, Known.of envOk [5, 9] [(.ptr 0 0 50 [.keep]), (.agg [.keep, .keep, .keep])] v59_0 F59_0 w59_0 ok59_0, Known.of envOk [5, 1, 1] [(.ptr 0 0 91 [.keep, .keep, .keep, .keep, .keep, (.own 1 22), (.own 2 3)]), .keep, .keep] v25_0 F25_0 w25_0 ok25_0]
noncomputable def L73_0 (n id : Nat) (st : St G) : Option ((Int × Int × Int × Int × Int × Int × Int × Int × Int × Int × Int × ((Int × Int)) × Int × Int × Int × Bool) × (Int × Int × Int × Int × Int) × Bool × List Int × List Int) := none
set_option maxRecDepth 100000 in
theorem e73_0 (n : Nat) (v : (((Int × Int)) × Bool) × (Int × Int × Int × Int × Int × Int × Int × Int × Int × Int × Int × ((Int × Int)) × Int × Int × Int × Bool) × (Int × Int × Int × Int × Int) × List Int × List Int × Bool) : ev Try.prog E (oracle k73_0) Try.f73.ntmps (fun x => mem x []) (L73_0 n) (finF Try.prog E Try.f73.results.toList [[(.own 4 3), (.own 3 22), (.ptr 1 0 50 [.keep]), (.ptr 2 0 91 [.keep, .keep, .keep, .keep, .keep, (.own 3 22), (.own 4 3)]), (.ptr 0 0 122 [(.ptr 1 0 50 []), (.ptr 2 0 91 []), .keep, .keep, .keep, .keep, .keep, .keep, .keep, .keep, .keep, .keep, .keep, .keep, .keep, .keep, .keep, .keep])]] w73_0.alts) 4000 [.code (Try.f73.body.getD .skip)] (argSt (v73_0.enc v)) = F73_0 v := by kernel_rfl
theorem ok73_0 : FnOk Try.prog E 73 v73_0.enc F73_0 w73_0.enc :=
  fn_known (fn := Try.f73) (c := (Try.f73.body.getD .skip)) Try.func73 (by kernel_rfl) rfl envOk (oracle_ok k73_0) mixed v73_0 F73_0 w73_0 [(.own 4 3), (.own 3 22), (.ptr 1 0 50 [.keep]), (.ptr 2 0 91 [.keep, .keep, .keep, .keep, .keep, (.own 3 22), (.own 4 3)]), (.ptr 0 0 122 [(.ptr 1 0 50 []), (.ptr 2 0 91 []), .keep, .keep, .keep, .keep, .keep, .keep, .keep, .keep, .keep, .keep, .keep, .keep, .keep, .keep, .keep, .keep])] [[(.own 4 3), (.own 3 22), (.ptr 1 0 50 [.keep]), (.ptr 2 0 91 [.keep, .keep, .keep, .keep, .keep, (.own 3 22), (.own 4 3)]), (.ptr 0 0 122 [(.ptr 1 0 50 []), (.ptr 2 0 91 []), .keep, .keep, .keep, .keep, .keep, .keep, .keep, .keep, .keep, .keep, .keep, .keep, .keep, .keep, .keep, .keep])]] (by kernel_rfl) [] 4000 L73_0 (by kernel_rfl)
    (fun _ h => nomatch h) (fun v _ h => ⟨0, (e73_0 _ v).trans h⟩) (fun _ => by kernel_rfl) (fun _ => by kernel_rfl) (fun _ _ => by kernel_rfl)
/- chicane/ray.Cast -/
abbrev A36_0 : Type := ((Int × Int × Int) × (Int × Int × Int) × Int) × (Int × Int × Int × Int × Int) × List Int × List Int × Bool
abbrev R36_0 : Type := ((Int × Int × Int × Int × Int) × Bool) × (Int × Int × Int × Int × Int) × Bool × List Int × List Int
def v36_0 : Pk G (((Int × Int × Int) × (Int × Int × Int) × Int) × (Int × Int × Int × Int × Int) × List Int × List Int × Bool) := (pk (Sh.snd (Sh.cons (Sh.ptr 0 0) (Sh.snd (Sh.cons (Sh.ptr 1 0) (Sh.cons (Sh.agg (Sh.cons (Sh.int .i64) (Sh.cons (Sh.int .i64) (Sh.fst (Sh.cons (Sh.int .i64) Sh.nil))))) (Sh.cons (Sh.agg (Sh.cons (Sh.int .i64) (Sh.cons (Sh.int .i64) (Sh.fst (Sh.cons (Sh.int .i64) Sh.nil))))) (Sh.fst (Sh.cons (Sh.int .i64) Sh.nil)))))))) (Sh.hfix 1 91 (Sh.cons (Sh.int .i64) (Sh.cons (Sh.int .i64) (Sh.cons (Sh.int .i64) (Sh.cons (Sh.int .i64) (Sh.fst (Sh.cons (Sh.int .i64) (Sh.snd (Sh.cons (Sh.osl 2) (Sh.snd (Sh.cons (Sh.osl 3) Sh.nil)))))))))) (Sh.hrow 3 3 (Sh.hrow 2 22 (Sh.fst (Sh.hfix 0 50 (Sh.fst (Sh.cons Sh.bool Sh.nil)) Sh.hnil))))))
def w36_0 : Wk G (((Int × Int × Int × Int × Int) × Bool) × (Int × Int × Int × Int × Int) × Bool × List Int × List Int) := (Wk.one [(.agg [.keep, .keep, .keep, .keep, .keep]), .keep] (pk (Sh.cons (Sh.agg (Sh.cons (Sh.int .i64) (Sh.cons (Sh.int .i64) (Sh.cons (Sh.int .i64) (Sh.cons (Sh.int .i64) (Sh.fst (Sh.cons (Sh.int .i64) Sh.nil))))))) (Sh.fst (Sh.cons Sh.bool Sh.nil))) (Sh.hfix 1 91 (Sh.cons (Sh.int .i64) (Sh.cons (Sh.int .i64) (Sh.cons (Sh.int .i64) (Sh.cons (Sh.int .i64) (Sh.fst (Sh.cons (Sh.int .i64) (Sh.snd (Sh.cons (Sh.osl 2) (Sh.snd (Sh.cons (Sh.osl 3) Sh.nil)))))))))) (Sh.hfix 0 50 (Sh.fst (Sh.cons Sh.bool Sh.nil)) (Sh.hrow 2 22 (Sh.fst (Sh.hrow 3 3 Sh.hnil)))))))
def c36_0_11 : Pk G ((Int × Int × (Int × Int)) × (Int × Int × Int × Int × Int × Int × Int × Int × Int × Int × Int × ((Int × Int)) × Int × Int × Int × Bool) × Bool × (Int × Int × Int × Int × Int) × (Int × Int × Int × Int × Int) × Bool × List Int × List Int) := (pk (Sh.snd (Sh.cons (Sh.ptr 4 0) (Sh.snd (Sh.cons (Sh.ptr 5 0) (Sh.cons (Sh.int .i64) (Sh.cons (Sh.int .i64) (Sh.fst (Sh.cons Sh.cpx Sh.nil)))))))) (Sh.hfix 5 122 (Sh.snd (Sh.cons (Sh.ptr 6 0) (Sh.snd (Sh.cons (Sh.ptr 1 0) (Sh.cons (Sh.int .i64) (Sh.cons (Sh.int .i64) (Sh.cons (Sh.int .i64) (Sh.cons (Sh.int .i64) (Sh.cons (Sh.int .i64) (Sh.cons (Sh.int .i64) (Sh.cons (Sh.int .i64) (Sh.cons (Sh.int .i64) (Sh.cons (Sh.int .i64) (Sh.cons (Sh.int .i64) (Sh.cons (Sh.int .i64) (Sh.cons Sh.cpx (Sh.cons (Sh.int .i64) (Sh.cons (Sh.int .i64) (Sh.cons (Sh.int .i64) (Sh.fst (Sh.cons Sh.bool Sh.nil))))))))))))))))))))) (Sh.hfix 6 50 (Sh.fst (Sh.cons Sh.bool Sh.nil)) (Sh.hfix 4 79 (Sh.cons (Sh.int .i64) (Sh.cons (Sh.int .i64) (Sh.cons (Sh.int .i64) (Sh.cons (Sh.int .i64) (Sh.fst (Sh.cons (Sh.int .i64) Sh.nil)))))) (Sh.hfix 1 91 (Sh.cons (Sh.int .i64) (Sh.cons (Sh.int .i64) (Sh.cons (Sh.int .i64) (Sh.cons (Sh.int .i64) (Sh.fst (Sh.cons (Sh.int .i64) (Sh.snd (Sh.cons (Sh.osl 2) (Sh.snd (Sh.cons (Sh.osl 3) Sh.nil)))))))))) (Sh.hfix 0 50 (Sh.fst (Sh.cons Sh.bool Sh.nil)) (Sh.hrow 2 22 (Sh.fst (Sh.hrow 3 3 Sh.hnil)))))))))
def c36_0_15 : Pk G ((Int × Int × ((Int × Int)) × ((Int × Int)) × Int × Int) × (Int × Int × Int × Int × Int × Int × Int × Int × Int × Int × Int × ((Int × Int)) × Int × Int × Int × Bool) × Bool × (Int × Int × Int × Int × Int) × (Int × Int × Int × Int × Int) × Bool × List Int × List Int) := (pk (Sh.snd (Sh.cons (Sh.ptr 4 0) (Sh.snd (Sh.cons (Sh.ptr 5 0) (Sh.cons (Sh.int .i64) (Sh.cons (Sh.int .i64) (Sh.cons Sh.cpx (Sh.cons Sh.cpx (Sh.cons (Sh.int .i64) (Sh.fst (Sh.cons (Sh.int .i64) Sh.nil))))))))))) (Sh.hfix 5 122 (Sh.snd (Sh.cons (Sh.ptr 6 0) (Sh.snd (Sh.cons (Sh.ptr 1 0) (Sh.cons (Sh.int .i64) (Sh.cons (Sh.int .i64) (Sh.cons (Sh.int .i64) (Sh.cons (Sh.int .i64) (Sh.cons (Sh.int .i64) (Sh.cons (Sh.int .i64) (Sh.cons (Sh.int .i64) (Sh.cons (Sh.int .i64) (Sh.cons (Sh.int .i64) (Sh.cons (Sh.int .i64) (Sh.cons (Sh.int .i64) (Sh.cons Sh.cpx (Sh.cons (Sh.int .i64) (Sh.cons (Sh.int .i64) (Sh.cons (Sh.int .i64) (Sh.fst (Sh.cons Sh.bool Sh.nil))))))))))))))))))))) (Sh.hfix 6 50 (Sh.fst (Sh.cons Sh.bool Sh.nil)) (Sh.hfix 4 79 (Sh.cons (Sh.int .i64) (Sh.cons (Sh.int .i64) (Sh.cons (Sh.int .i64) (Sh.cons (Sh.int .i64) (Sh.fst (Sh.cons (Sh.int .i64) Sh.nil)))))) (Sh.hfix 1 91 (Sh.cons (Sh.int .i64) (Sh.cons (Sh.int .i64) (Sh.cons (Sh.int .i64) (Sh.cons (Sh.int .i64) (Sh.fst (Sh.cons (Sh.int .i64) (Sh.snd (Sh.cons (Sh.osl 2) (Sh.snd (Sh.cons (Sh.osl 3) Sh.nil)))))))))) (Sh.hfix 0 50 (Sh.fst (Sh.cons Sh.bool Sh.nil)) (Sh.hrow 2 22 (Sh.fst (Sh.hrow 3 3 Sh.hnil)))))))))
def B36_0_11 (K : (((Int × Int × (Int × Int)) × (Int × Int × Int × Int × Int × Int × Int × Int × Int × Int × Int × ((Int × Int)) × Int × Int × Int × Bool) × Bool × (Int × Int × Int × Int × Int) × (Int × Int × Int × Int × Int) × Bool × List Int × List Int) → Option (((Int × Int × Int × Int × Int) × Bool) × (Int × Int × Int × Int × Int) × Bool × List Int × List Int)) × (((Int × Int × ((Int × Int)) × ((Int × Int)) × Int × Int) × (Int × Int × Int × Int × Int × Int × Int × Int × Int × Int × Int × ((Int × Int)) × Int × Int × Int × Bool) × Bool × (Int × Int × Int × Int × Int) × (Int × Int × Int × Int × Int) × Bool × List Int × List Int) → Option (((Int × Int × Int × Int × Int) × Bool) × (Int × Int × Int × Int × Int) × Bool × List Int × List Int))) (v : (Int × Int × (Int × Int)) × (Int × Int × Int × Int × Int × Int × Int × Int × Int × Int × Int × ((Int × Int)) × Int × Int × Int × Bool) × Bool × (Int × Int × Int × Int × Int) × (Int × Int × Int × Int × Int) × Bool × List Int × List Int) : Option (((Int × Int × Int × Int × Int) × Bool) × (Int × Int × Int × Int × Int) × Bool × List Int × List Int) :=
  bif (decide (v.1.2.1 > (0 : Int))) then
    K.2 ((v.1.1, (v.1.2.1, (v.1.2.2, (v.1.2.2, (v.1.1, (0 : Int)))))), v.2)
  else
    bif (!v.2.1.2.2.2.2.2.2.2.2.2.2.2.2.2.2.2) then
      some ((((0 : Int), ((0 : Int), ((0 : Int), ((0 : Int), (0 : Int))))), false), v.2.2.2.2)
    else
      some (((v.2.1.2.2.2.2.2.2.1, (v.2.1.2.2.2.2.2.2.2.1, (v.2.1.2.2.2.2.2.2.2.2.1, (v.2.1.2.2.2.2.2.2.2.2.2.1, v.2.1.2.2.2.2.2.2.2.2.2.2.1)))), true), v.2.2.2.2)

def B36_0_15 (K : (((Int × Int × (Int × Int)) × (Int × Int × Int × Int × Int × Int × Int × Int × Int × Int × Int × ((Int × Int)) × Int × Int × Int × Bool) × Bool × (Int × Int × Int × Int × Int) × (Int × Int × Int × Int × Int) × Bool × List Int × List Int) → Option (((Int × Int × Int × Int × Int) × Bool) × (Int × Int × Int × Int × Int) × Bool × List Int × List Int)) × (((Int × Int × ((Int × Int)) × ((Int × Int)) × Int × Int) × (Int × Int × Int × Int × Int × Int × Int × Int × Int × Int × Int × ((Int × Int)) × Int × Int × Int × Bool) × Bool × (Int × Int × Int × Int × Int) × (Int × Int × Int × Int × Int) × Bool × List Int × List Int) → Option (((Int × Int × Int × Int × Int) × Bool) × (Int × Int × Int × Int × Int) × Bool × List Int × List Int))) (v : (Int × Int × ((Int × Int)) × ((Int × Int)) × Int × Int) × (Int × Int × Int × Int × Int × Int × Int × Int × Int × Int × Int × ((Int × Int)) × Int × Int × Int × Bool) × Bool × (Int × Int × Int × Int × Int) × (Int × Int × Int × Int × Int) × Bool × List Int × List Int) : Option (((Int × Int × Int × Int × Int) × Bool) × (Int × Int × Int × Int × Int) × Bool × List Int × List Int) :=
  bif (decide (v.1.2.2.2.2.2 < v.1.2.2.2.2.1)) then
    (F73_0 ((v.1.2.2.2.1, false), (v.2.1, (v.2.2.2.2.1, (v.2.2.2.2.2.2.2, (v.2.2.2.2.2.2.1, v.2.2.1)))))).bind fun r3104 =>
    (F73_0 ((v.1.2.2.2.1, true), (r3104.1, (r3104.2.1, (r3104.2.2.2.2, (r3104.2.2.2.1, r3104.2.2.1)))))).bind fun r3105 =>
    (chk (flOk (v.1.2.2.2.1.1 + (1 : Int)) && flOk (v.1.2.2.2.1.2 + (0 : Int)))).bind fun _ =>
    let x3106 : Int := (IntKind.wrap .i64 (v.1.2.2.2.2.2 + (1 : Int)))
    K.2 ((v.1.1, (v.1.2.1, (v.1.2.2.1, (((v.1.2.2.2.1.1 + (1 : Int)), (v.1.2.2.2.1.2 + (0 : Int))), (v.1.2.2.2.2.1, x3106))))), (r3105.1, (r3105.2.2.1, (v.2.2.2.1, (r3105.2.1, (v.2.2.2.2.2.1, r3105.2.2.2))))))
  else
    (chk (flOk (v.1.2.2.1.1 + (0 : Int)) && flOk (v.1.2.2.1.2 + (1 : Int)))).bind fun _ =>
    let x3107 : Int := (IntKind.wrap .i64 (v.1.2.1 - (1 : Int)))
    K.1 ((v.1.1, (x3107, ((v.1.2.2.1.1 + (0 : Int)), (v.1.2.2.1.2 + (1 : Int))))), v.2)

def E36_0 (K : (((Int × Int × (Int × Int)) × (Int × Int × Int × Int × Int × Int × Int × Int × Int × Int × Int × ((Int × Int)) × Int × Int × Int × Bool) × Bool × (Int × Int × Int × Int × Int) × (Int × Int × Int × Int × Int) × Bool × List Int × List Int) → Option (((Int × Int × Int × Int × Int) × Bool) × (Int × Int × Int × Int × Int) × Bool × List Int × List Int)) × (((Int × Int × ((Int × Int)) × ((Int × Int)) × Int × Int) × (Int × Int × Int × Int × Int × Int × Int × Int × Int × Int × Int × ((Int × Int)) × Int × Int × Int × Bool) × Bool × (Int × Int × Int × Int × Int) × (Int × Int × Int × Int × Int) × Bool × List Int × List Int) → Option (((Int × Int × Int × Int × Int) × Bool) × (Int × Int × Int × Int × Int) × Bool × List Int × List Int))) (v : ((Int × Int × Int) × (Int × Int × Int) × Int) × (Int × Int × Int × Int × Int) × List Int × List Int × Bool) : Option (((Int × Int × Int × Int × Int) × Bool) × (Int × Int × Int × Int × Int) × Bool × List Int × List Int) :=
  (F72_0 v.1).bind fun r3088 =>
  bif (!r3088) then
    some ((((0 : Int), ((0 : Int), ((0 : Int), ((0 : Int), (0 : Int))))), false), (v.2.1, (v.2.2.2.2, (v.2.2.2.1, v.2.2.1))))
  else
    (F15_0 ((v.1.1.1, v.1.1.2.1), (v.2.1, (v.2.2.1, v.2.2.2.1)))).bind fun r3089 =>
    (F32_0 (v.1, false)).bind fun r3090 =>
    (F15_0 ((r3090.1.1, r3090.1.2.1), (r3089.2.1, (r3089.2.2.2, r3089.2.2.1)))).bind fun r3091 =>
    (chk (flOk r3089.1.1)).bind fun _ =>
    (chk (flOk r3089.1.2.1)).bind fun _ =>
    (F28_1 (r3091.2.1, (r3091.2.2.2, r3091.2.2.1))).bind fun r3092 =>
    let x3093 : Int := (IntKind.wrap .i64 (v.1.2.2 + (1 : Int)))
    let x3094 : Int := (if r3091.1.1 < r3089.1.1 then r3091.1.1 else r3089.1.1)
    (chk (flOk x3094)).bind fun _ =>
    let x3095 : Int := (if r3091.1.2.1 < r3089.1.2.1 then r3091.1.2.1 else r3089.1.2.1)
    (chk (flOk x3095)).bind fun _ =>
    let x3096 : Int := (if r3091.1.1 > r3089.1.1 then r3091.1.1 else r3089.1.1)
    let x3097 : Int := (if r3091.1.1 < r3089.1.1 then r3091.1.1 else r3089.1.1)
    let x3098 : Int := (IntKind.wrap .i64 (x3096 - x3097))
    let x3099 : Int := (IntKind.wrap .i64 (x3098 + (1 : Int)))
    let x3100 : Int := (if r3091.1.2.1 > r3089.1.2.1 then r3091.1.2.1 else r3089.1.2.1)
    let x3101 : Int := (if r3091.1.2.1 < r3089.1.2.1 then r3091.1.2.1 else r3089.1.2.1)
    let x3102 : Int := (IntKind.wrap .i64 (x3100 - x3101))
    let x3103 : Int := (IntKind.wrap .i64 (x3102 + (1 : Int)))
    K.1 ((x3099, (x3103, (x3094, x3095))), ((v.1.1.1, (v.1.1.2.1, (v.1.1.2.2, (v.1.2.1.1, (v.1.2.1.2.1, (v.1.2.1.2.2, (x3093, ((0 : Int), ((0 : Int), ((0 : Int), ((0 : Int), ((r3089.1.1, r3089.1.2.1), (r3089.1.2.2.1, (r3089.1.2.2.2, (r3092.1, false))))))))))))))), (r3090.2, (((0 : Int), ((0 : Int), ((0 : Int), ((0 : Int), (0 : Int))))), (r3092.2.1, (v.2.2.2.2, r3092.2.2))))))

def K36_0 : Nat → (((Int × Int × (Int × Int)) × (Int × Int × Int × Int × Int × Int × Int × Int × Int × Int × Int × ((Int × Int)) × Int × Int × Int × Bool) × Bool × (Int × Int × Int × Int × Int) × (Int × Int × Int × Int × Int) × Bool × List Int × List Int) → Option (((Int × Int × Int × Int × Int) × Bool) × (Int × Int × Int × Int × Int) × Bool × List Int × List Int)) × (((Int × Int × ((Int × Int)) × ((Int × Int)) × Int × Int) × (Int × Int × Int × Int × Int × Int × Int × Int × Int × Int × Int × ((Int × Int)) × Int × Int × Int × Bool) × Bool × (Int × Int × Int × Int × Int) × (Int × Int × Int × Int × Int) × Bool × List Int × List Int) → Option (((Int × Int × Int × Int × Int) × Bool) × (Int × Int × Int × Int × Int) × Bool × List Int × List Int))
  | 0 => (fun _ => none, fun _ => none)
  | n + 1 => (B36_0_11 (K36_0 n), B36_0_15 (K36_0 n))
def fuel36_0 (v : ((Int × Int × Int) × (Int × Int × Int) × Int) × (Int × Int × Int × Int × Int) × List Int × List Int × Bool) : Nat := 1000
def F36_0 (v : ((Int × Int × Int) × (Int × Int × Int) × Int) × (Int × Int × Int × Int × Int) × List Int × List Int × Bool) : Option (((Int × Int × Int × Int × Int) × Bool) × (Int × Int × Int × Int × Int) × Bool × List Int × List Int) := E36_0 (K36_0 (fuel36_0 v)) v
noncomputable def k36_0 : List (Known Try.prog E) := [Known.of envOk [9, 9, 1] [(.agg [.keep, .keep, .keep]), (.agg [.keep, .keep, .keep]), .keep] v72_0 F72_0 w72_0 ok72_0, Known.of envOk [5, 1, 1] [(.ptr 0 0 91 [.keep, .keep, .keep, .keep, .keep, (.own 1 22), (.own 2 3)]), .keep, .keep] v15_0 F15_0 w15_0 ok15_0, Known.of envOk [5, 9, 9, 1] [(.ptr 0 0 50 [.keep]), (.agg [.keep, .keep, .keep]), (.agg [.keep, .keep, .keep]), .keep] v32_0 F32_0 w32_0 ok32_0, Known.of envOk [5] [(.ptr 0 0 91 [.keep, .keep, .keep, .keep, .keep, (.own 1 22), (.own 2 3)])] v28_1 F28_1 w28_1 ok28_1, Known.of envOk [5, 15, 2] [(.ptr 0 0 122 [(.ptr 1 0 50 [.keep]), (.ptr 2 0 91 [.keep, .keep, .keep, .keep, .keep, (.own 3 22), (.own 4 3)]), .keep, .keep, .keep, .keep, .keep, .keep, .keep, .keep, .keep, .keep, .keep, .keep, .keep, .keep, .keep, .keep]), .keep, .keep] v73_0 F73_0 w73_0 ok73_0]
def s36_0_15 : List (Nat × Pat) := [(10, (.ptr 4 0 79 [.keep, .keep, .keep, .keep, .keep])), (22, (.ptr 5 0 122 [(.ptr 6 0 50 [.keep]), (.ptr 1 0 91 []), .keep, .keep, .keep, .keep, .keep, .keep, .keep, .keep, .keep, .keep, .keep, .keep, .keep, .keep, .keep, .keep])), (24, .keep), (25, .keep), (26, .keep), (27, .keep), (118, .keep), (119, .keep)]
def s36_0_11 : List (Nat × Pat) := [(10, (.ptr 4 0 79 [.keep, .keep, .keep, .keep, .keep])), (22, (.ptr 5 0 122 [(.ptr 6 0 50 [.keep]), (.ptr 1 0 91 []), .keep, .keep, .keep, .keep, .keep, .keep, .keep, .keep, .keep, .keep, .keep, .keep, .keep, .keep, .keep, .keep])), (24, .keep), (25, .keep), (26, .keep)]
noncomputable def L36_0 (n id : Nat) (st : St G) : Option (((Int × Int × Int × Int × Int) × Bool) × (Int × Int × Int × Int × Int) × Bool × List Int × List Int) := match Nat.beq id 11 with | true => cutK Try.prog s36_0_11 [(.own 3 3), (.own 2 22), (.ptr 0 0 50 [.keep]), (.ptr 1 0 91 [.keep, .keep, .keep, .keep, .keep, (.own 2 22), (.own 3 3)])] c36_0_11.dec (K36_0 n).1 st | false => match Nat.beq id 15 with | true => cutK Try.prog s36_0_15 [(.own 3 3), (.own 2 22), (.ptr 0 0 50 [.keep]), (.ptr 1 0 91 [.keep, .keep, .keep, .keep, .keep, (.own 2 22), (.own 3 3)])] c36_0_15.dec (K36_0 n).2 st | false => none
set_option maxRecDepth 100000 in
theorem e36_0 (n : Nat) (v : ((Int × Int × Int) × (Int × Int × Int) × Int) × (Int × Int × Int × Int × Int) × List Int × List Int × Bool) : ev Try.prog E (oracle k36_0) Try.f36.ntmps (fun x => mem x [11, 15]) (L36_0 n) (finF Try.prog E Try.f36.results.toList [[(.own 3 3), (.own 2 22), (.ptr 0 0 50 [.keep]), (.ptr 1 0 91 [.keep, .keep, .keep, .keep, .keep, (.own 2 22), (.own 3 3)])]] w36_0.alts) 4000 [.code (Try.f36.body.getD .skip)] (argSt (v36_0.enc v)) = E36_0 (K36_0 n) v := by kernel_rfl
set_option maxRecDepth 100000 in
theorem b36_0_11 (n : Nat) (v : (Int × Int × (Int × Int)) × (Int × Int × Int × Int × Int × Int × Int × Int × Int × Int × Int × ((Int × Int)) × Int × Int × Int × Bool) × Bool × (Int × Int × Int × Int × Int) × (Int × Int × Int × Int × Int) × Bool × List Int × List Int) : evCut Try.prog E (oracle k36_0) false 36 Try.f36.ntmps (fun x => mem x [11, 15]) (L36_0 n) (finF Try.prog E Try.f36.results.toList [[(.own 3 3), (.own 2 22), (.ptr 0 0 50 [.keep]), (.ptr 1 0 91 [.keep, .keep, .keep, .keep, .keep, (.own 2 22), (.own 3 3)])]] w36_0.alts) 4000 (todoAt (Try.f36.body.getD .skip) 11) (cutSt s36_0_11 (c36_0_11.enc v)) = B36_0_11 (K36_0 n) v := by kernel_rfl
set_option maxRecDepth 100000 in
theorem b36_0_15 (n : Nat) (v : (Int × Int × ((Int × Int)) × ((Int × Int)) × Int × Int) × (Int × Int × Int × Int × Int × Int × Int × Int × Int × Int × Int × ((Int × Int)) × Int × Int × Int × Bool) × Bool × (Int × Int × Int × Int × Int) × (Int × Int × Int × Int × Int) × Bool × List Int × List Int) : evCut Try.prog E (oracle k36_0) false 36 Try.f36.ntmps (fun x => mem x [11, 15]) (L36_0 n) (finF Try.prog E Try.f36.results.toList [[(.own 3 3), (.own 2 22), (.ptr 0 0 50 [.keep]), (.ptr 1 0 91 [.keep, .keep, .keep, .keep, .keep, (.own 2 22), (.own 3 3)])]] w36_0.alts) 4000 (todoAt (Try.f36.body.getD .skip) 15) (cutSt s36_0_15 (c36_0_15.enc v)) = B36_0_15 (K36_0 n) v := by kernel_rfl
theorem ok36_0 : FnOk Try.prog E 36 v36_0.enc F36_0 w36_0.enc :=
  fn_known (fn := Try.f36) (c := (Try.f36.body.getD .skip)) Try.func36 (by kernel_rfl) rfl envOk (oracle_ok k36_0) mixed v36_0 F36_0 w36_0 [(.own 3 3), (.own 2 22), (.ptr 0 0 50 [.keep]), (.ptr 1 0 91 [.keep, .keep, .keep, .keep, .keep, (.own 2 22), (.own 3 3)])] [[(.own 3 3), (.own 2 22), (.ptr 0 0 50 [.keep]), (.ptr 1 0 91 [.keep, .keep, .keep, .keep, .keep, (.own 2 22), (.own 3 3)])]] (by kernel_rfl) [11, 15] 4000 L36_0 (by kernel_rfl)
    (List.forall_mem_cons.2 ⟨⟨_, [(.own 3 3), (.own 2 22), (.ptr 0 0 50 [.keep]), (.ptr 1 0 91 [.keep, .keep, .keep, .keep, .keep, (.own 2 22), (.own 3 3)])], s36_0_11, c36_0_11.dec, c36_0_11.enc, fun n => (K36_0 n).1, c36_0_11.ok, fun _ _ => rfl, fun _ => rfl, by kernel_rfl, fun n v _ h => (b36_0_11 n v).trans h⟩, List.forall_mem_cons.2 ⟨⟨_, [(.own 3 3), (.own 2 22), (.ptr 0 0 50 [.keep]), (.ptr 1 0 91 [.keep, .keep, .keep, .keep, .keep, (.own 2 22), (.own 3 3)])], s36_0_15, c36_0_15.dec, c36_0_15.enc, fun n => (K36_0 n).2, c36_0_15.ok, fun _ _ => rfl, fun _ => rfl, by kernel_rfl, fun n v _ h => (b36_0_15 n v).trans h⟩, fun _ h => (nomatch h)⟩⟩) (fun v _ h => ⟨fuel36_0 v, (e36_0 _ v).trans h⟩) (fun _ => by kernel_rfl) (fun _ => by kernel_rfl) (fun _ _ => by kernel_rfl)
/- chicane/chicanelaw13.awake -/
abbrev A34_0 : Type := Unit
abbrev R34_0 : Type := Bool
def v34_0 : Pk G Unit := (Pk.snd (pk Sh.nil Sh.hnil))
def w34_0 : Wk G Bool := (Wk.one [.keep] (Pk.fst (pk (Sh.fst (Sh.cons Sh.bool Sh.nil)) Sh.hnil)))
def F34_0 (v : Unit) : Option Bool :=
  (F71_0 ()).bind fun r3118 =>
  (F14_0 (r3118.1.1, (r3118.1.2.1, (r3118.1.2.2.1, (r3118.1.2.2.2.1, (r3118.1.2.2.2.2.1, (r3118.1.2.2.2.2.2.1, (r3118.2.2.2, (r3118.2.2.1, (r3118.2.1, (([] : List (Int × Int)), (([] : List (List (Int × Int))), (([] : List (Int × Int × Int × Int × Bool)), r3118.1.2.2.2.2.2.2))))))))))))).bind fun r3119 =>
  match r3119 with
  | .inl r3120 =>
    bif (r3120 != (0 : Int)) then
      some (false)
    else
      some (false)
  | .inr r3121 =>
    bif (r3121.1 != (0 : Int)) then
      some (false)
    else
      (F36_0 ((((4294967296 : Int), ((8589934592 : Int), (12884901888 : Int))), (((0 : Int), ((0 : Int), (-4294967296 : Int))), (21474836480 : Int))), (r3121.2.1, (r3121.2.2.1, (r3121.2.2.2, false))))).bind fun r3122 =>
      (F36_0 ((((4294967296 : Int), ((0 : Int), (12884901888 : Int))), (((0 : Int), ((0 : Int), (-4294967296 : Int))), (8589934592 : Int))), (r3122.2.1, (r3122.2.2.2.2, (r3122.2.2.2.1, r3122.2.2.1))))).bind fun r3123 =>
      bif r3122.1.2 then
        bif (r3122.1.1.1 == (12884901888 : Int)) then
          let x3124 : Bool := ((r3122.1.1.2.1 == (0 : Int)) && ((r3122.1.1.2.2.1 == (0 : Int)) && ((r3122.1.1.2.2.2.1 == (4294967296 : Int)) && true)))
          bif x3124 then
            bif (!r3123.1.2) then
              some (!r3123.2.2.1)
            else
              some (false)
          else
            some (false)
        else
          some (false)
      else
        some (false)

noncomputable def k34_0 : List (Known Try.prog E) := [Known.of envOk [] [] v71_0 F71_0 w71_0 ok71_0, Known.of envOk [9] [(.agg [.keep, .keep, .keep, .keep, .keep, .keep, (.ros 22), (.ros 3), (.ros 86), (.ros 24), (.ros 28), (.ros 196), .keep, .keep, .keep, .keep])] v14_0 F14_0 w14_0 ok14_0, Known.of envOk [5, 5, 9, 9, 1] [(.ptr 0 0 50 [.keep]), (.ptr 1 0 91 [.keep, .keep, .keep, .keep, .keep, (.own 2 22), (.own 3 3)]), (.agg [.keep, .keep, .keep]), (.agg [.keep, .keep, .keep]), .keep] v36_0 F36_0 w36_0 ok36_0]
noncomputable def L34_0 (n id : Nat) (st : St G) : Option Bool := none
set_option maxRecDepth 100000 in
theorem e34_0 (n : Nat) (v : Unit) : ev Try.prog E (oracle k34_0) Try.f34.ntmps (fun x => mem x []) (L34_0 n) (finF Try.prog E Try.f34.results.toList [[]] w34_0.alts) 4000 [.code (Try.f34.body.getD .skip)] (argSt (v34_0.enc v)) = F34_0 v := by kernel_rfl
theorem ok34_0 : FnOk Try.prog E 34 v34_0.enc F34_0 w34_0.enc :=
  fn_known (fn := Try.f34) (c := (Try.f34.body.getD .skip)) Try.func34 (by kernel_rfl) rfl envOk (oracle_ok k34_0) mixed v34_0 F34_0 w34_0 [] [[]] (by kernel_rfl) [] 4000 L34_0 (by kernel_rfl)
    (fun _ h => nomatch h) (fun v _ h => ⟨0, (e34_0 _ v).trans h⟩) (fun _ => by kernel_rfl) (fun _ => by kernel_rfl) (fun _ _ => by kernel_rfl)
/- chicane/chicanelaw13.RayPoint -/
abbrev A8_0 : Type := (Int × Int × Int) × (Int × Int × Int) × Int
abbrev R8_0 : Type := Bool
def v8_0 : Pk G ((Int × Int × Int) × (Int × Int × Int) × Int) := (Pk.fst (pk (Sh.cons (Sh.agg (Sh.cons (Sh.int .i64) (Sh.cons (Sh.int .i64) (Sh.fst (Sh.cons (Sh.int .i64) Sh.nil))))) (Sh.cons (Sh.agg (Sh.cons (Sh.int .i64) (Sh.cons (Sh.int .i64) (Sh.fst (Sh.cons (Sh.int .i64) Sh.nil))))) (Sh.fst (Sh.cons (Sh.int .i64) Sh.nil)))) Sh.hnil))
def w8_0 : Wk G Bool := (Wk.one [.keep] (Pk.fst (pk (Sh.fst (Sh.cons Sh.bool Sh.nil)) Sh.hnil)))
def F8_0 (v : (Int × Int × Int) × (Int × Int × Int) × Int) : Option Bool :=
  (F32_0 (v, false)).bind fun r3130 =>
  (F33_0 (v, false)).bind fun r3131 =>
  let x3132 : Bool := ((r3130.1.1 == r3131.1.1) && ((r3130.1.2.1 == r3131.1.2.1) && ((r3130.1.2.2 == r3131.1.2.2) && true)))
  bif x3132 then
    bif (r3130.2 == r3131.2) then
      (F34_0 ()).bind fun r3133 =>
      some (r3133)
    else
      some (false)
  else
    some (false)

noncomputable def k8_0 : List (Known Try.prog E) := [Known.of envOk [5, 9, 9, 1] [(.ptr 0 0 50 [.keep]), (.agg [.keep, .keep, .keep]), (.agg [.keep, .keep, .keep]), .keep] v32_0 F32_0 w32_0 ok32_0, Known.of envOk [5, 9, 9, 1] [(.ptr 0 0 52 [.keep]), (.agg [.keep, .keep, .keep]), (.agg [.keep, .keep, .keep]), .keep] v33_0 F33_0 w33_0 ok33_0, Known.of envOk [] [] v34_0 F34_0 w34_0 ok34_0]
noncomputable def L8_0 (n id : Nat) (st : St G) : Option Bool := none
set_option maxRecDepth 100000 in
theorem e8_0 (n : Nat) (v : (Int × Int × Int) × (Int × Int × Int) × Int) : ev Try.prog E (oracle k8_0) Try.f8.ntmps (fun x => mem x []) (L8_0 n) (finF Try.prog E Try.f8.results.toList [[]] w8_0.alts) 4000 [.code (Try.f8.body.getD .skip)] (argSt (v8_0.enc v)) = F8_0 v := by kernel_rfl
theorem ok8_0 : FnOk Try.prog E 8 v8_0.enc F8_0 w8_0.enc :=
  fn_known (fn := Try.f8) (c := (Try.f8.body.getD .skip)) Try.func8 (by kernel_rfl) rfl envOk (oracle_ok k8_0) mixed v8_0 F8_0 w8_0 [] [[]] (by kernel_rfl) [] 4000 L8_0 (by kernel_rfl)
    (fun _ h => nomatch h) (fun v _ h => ⟨0, (e8_0 _ v).trans h⟩) (fun _ => by kernel_rfl) (fun _ => by kernel_rfl) (fun _ _ => by kernel_rfl)
/- chicane/chicanelaw13.few -/
abbrev A35_0 : Type := Int × Int × Int × Int × Int × Int × List Int × List Int × (List (Int × Int × Bool)) × (List (Int × Int)) × (List (List (Int × Int))) × (List (Int × Int × Int × Int × Bool)) × Int × Int × Int × Int
abbrev R35_0 : Type := Bool
def v35_0 : Pk G (Int × Int × Int × Int × Int × Int × List Int × List Int × (List (Int × Int × Bool)) × (List (Int × Int)) × (List (List (Int × Int))) × (List (Int × Int × Int × Int × Bool)) × Int × Int × Int × Int) := (Pk.fst (pk (Sh.fst (Sh.cons (Sh.agg (Sh.cons (Sh.int .i64) (Sh.cons (Sh.int .i64) (Sh.cons (Sh.int .i64) (Sh.cons (Sh.int .i64) (Sh.cons (Sh.int .i64) (Sh.cons (Sh.int .i64) (Sh.cons (Sh.ros 22) (Sh.cons (Sh.ros 3) (Sh.cons (Sh.ros 86) (Sh.cons (Sh.ros 24) (Sh.cons (Sh.ros 28) (Sh.cons (Sh.ros 196) (Sh.cons (Sh.int .i64) (Sh.cons (Sh.int .i64) (Sh.cons (Sh.int .u32) (Sh.fst (Sh.cons (Sh.int .i64) Sh.nil)))))))))))))))))) Sh.nil)) Sh.hnil))
def w35_0 : Wk G Bool := (Wk.one [.keep] (Pk.fst (pk (Sh.fst (Sh.cons Sh.bool Sh.nil)) Sh.hnil)))
def F35_0 (v : Int × Int × Int × Int × Int × Int × List Int × List Int × (List (Int × Int × Bool)) × (List (Int × Int)) × (List (List (Int × Int))) × (List (Int × Int × Int × Int × Bool)) × Int × Int × Int × Int) : Option Bool :=
  (F11_0 v).bind fun r3138 =>
  bif r3138 then
    bif (decide (((v.2.2.2.2.2.2.2.1).length : Int) ≤ (100 : Int))) then
      (F12_0 v).bind fun r3139 =>
      some (r3139 == (0 : Int))
    else
      some (false)
  else
    some (false)

noncomputable def k35_0 : List (Known Try.prog E) := [Known.of envOk [9] [(.agg [.keep, .keep, .keep, .keep, .keep, .keep, (.ros 22), (.ros 3), (.ros 86), (.ros 24), (.ros 28), (.ros 196), .keep, .keep, .keep, .keep])] v11_0 F11_0 w11_0 ok11_0, Known.of envOk [9] [(.agg [.keep, .keep, .keep, .keep, .keep, .keep, (.ros 22), (.ros 3), (.ros 86), (.ros 24), (.ros 28), (.ros 196), .keep, .keep, .keep, .keep])] v12_0 F12_0 w12_0 ok12_0]
noncomputable def L35_0 (n id : Nat) (st : St G) : Option Bool := none
set_option maxRecDepth 100000 in
theorem e35_0 (n : Nat) (v : Int × Int × Int × Int × Int × Int × List Int × List Int × (List (Int × Int × Bool)) × (List (Int × Int)) × (List (List (Int × Int))) × (List (Int × Int × Int × Int × Bool)) × Int × Int × Int × Int) : ev Try.prog E (oracle k35_0) Try.f35.ntmps (fun x => mem x []) (L35_0 n) (finF Try.prog E Try.f35.results.toList [[]] w35_0.alts) 4000 [.code (Try.f35.body.getD .skip)] (argSt (v35_0.enc v)) = F35_0 v := by kernel_rfl
theorem ok35_0 : FnOk Try.prog E 35 v35_0.enc F35_0 w35_0.enc :=
  fn_known (fn := Try.f35) (c := (Try.f35.body.getD .skip)) Try.func35 (by kernel_rfl) rfl envOk (oracle_ok k35_0) mixed v35_0 F35_0 w35_0 [] [[]] (by kernel_rfl) [] 4000 L35_0 (by kernel_rfl)
    (fun _ h => nomatch h) (fun v _ h => ⟨0, (e35_0 _ v).trans h⟩) (fun _ => by kernel_rfl) (fun _ => by kernel_rfl) (fun _ _ => by kernel_rfl)
/- chicane/ray.Cast -/
abbrev A36_1 : Type := ((Int × Int × Int) × (Int × Int × Int) × Int) × Bool
abbrev R36_1 : Type := ((Int × Int × Int × Int × Int) × Bool) × Bool
def v36_1 : Pk G (((Int × Int × Int) × (Int × Int × Int) × Int) × Bool) := (pk (Sh.snd (Sh.cons (Sh.ptr 0 0) (Sh.snd (Sh.cons Sh.nilptr (Sh.cons (Sh.agg (Sh.cons (Sh.int .i64) (Sh.cons (Sh.int .i64) (Sh.fst (Sh.cons (Sh.int .i64) Sh.nil))))) (Sh.cons (Sh.agg (Sh.cons (Sh.int .i64) (Sh.cons (Sh.int .i64) (Sh.fst (Sh.cons (Sh.int .i64) Sh.nil))))) (Sh.fst (Sh.cons (Sh.int .i64) Sh.nil)))))))) (Sh.fst (Sh.hfix 0 50 (Sh.fst (Sh.cons Sh.bool Sh.nil)) Sh.hnil)))
def w36_1 : Wk G (((Int × Int × Int × Int × Int) × Bool) × Bool) := (Wk.one [(.agg [.keep, .keep, .keep, .keep, .keep]), .keep] (pk (Sh.cons (Sh.agg (Sh.cons (Sh.int .i64) (Sh.cons (Sh.int .i64) (Sh.cons (Sh.int .i64) (Sh.cons (Sh.int .i64) (Sh.fst (Sh.cons (Sh.int .i64) Sh.nil))))))) (Sh.fst (Sh.cons Sh.bool Sh.nil))) (Sh.fst (Sh.hfix 0 50 (Sh.fst (Sh.cons Sh.bool Sh.nil)) Sh.hnil))))
def F36_1 (v : ((Int × Int × Int) × (Int × Int × Int) × Int) × Bool) : Option (((Int × Int × Int × Int × Int) × Bool) × Bool) :=
  some ((((0 : Int), ((0 : Int), ((0 : Int), ((0 : Int), (0 : Int))))), false), v.2)

noncomputable def k36_1 : List (Known Try.prog E) := []
noncomputable def L36_1 (n id : Nat) (st : St G) : Option (((Int × Int × Int × Int × Int) × Bool) × Bool) := none
set_option maxRecDepth 100000 in
theorem e36_1 (n : Nat) (v : ((Int × Int × Int) × (Int × Int × Int) × Int) × Bool) : ev Try.prog E (oracle k36_1) Try.f36.ntmps (fun x => mem x []) (L36_1 n) (finF Try.prog E Try.f36.results.toList [[(.ptr 0 0 50 [.keep])]] w36_1.alts) 4000 [.code (Try.f36.body.getD .skip)] (argSt (v36_1.enc v)) = F36_1 v := by kernel_rfl
theorem ok36_1 : FnOk Try.prog E 36 v36_1.enc F36_1 w36_1.enc :=
  fn_known (fn := Try.f36) (c := (Try.f36.body.getD .skip)) Try.func36 (by kernel_rfl) rfl envOk (oracle_ok k36_1) mixed v36_1 F36_1 w36_1 [(.ptr 0 0 50 [.keep])] [[(.ptr 0 0 50 [.keep])]] (by kernel_rfl) [] 4000 L36_1 (by kernel_rfl)
    (fun _ h => nomatch h) (fun v _ h => ⟨0, (e36_1 _ v).trans h⟩) (fun _ => by kernel_rfl) (fun _ => by kernel_rfl) (fun _ _ => by kernel_rfl)
/- (*chicane/field.Field).Where -/
abbrev A15_1 : Type := Int × Int
abbrev R15_1 : Type := Int × Int × Int × Int
def v15_1 : Pk G (Int × Int) := (Pk.fst (pk (Sh.snd (Sh.cons Sh.nilptr (Sh.cons (Sh.int .i64) (Sh.fst (Sh.cons (Sh.int .i64) Sh.nil))))) Sh.hnil))
def w15_1 : Wk G (Int × Int × Int × Int) := (Wk.one [.keep, .keep, .keep, .keep] (Pk.fst (pk (Sh.cons (Sh.int .i64) (Sh.cons (Sh.int .i64) (Sh.cons (Sh.int .i64) (Sh.fst (Sh.cons (Sh.int .i64) Sh.nil))))) Sh.hnil)))
def F15_1 (v : Int × Int) : Option (Int × Int × Int × Int) :=
  some ((0 : Int), ((0 : Int), ((0 : Int), (0 : Int))))

noncomputable def k15_1 : List (Known Try.prog E) := []
noncomputable def L15_1 (n id : Nat) (st : St G) : Option (Int × Int × Int × Int) := none
set_option maxRecDepth 100000 in
theorem e15_1 (n : Nat) (v : Int × Int) : ev Try.prog E (oracle k15_1) Try.f15.ntmps (fun x => mem x []) (L15_1 n) (finF Try.prog E Try.f15.results.toList [[]] w15_1.alts) 4000 [.code (Try.f15.body.getD .skip)] (argSt (v15_1.enc v)) = F15_1 v := by kernel_rfl
theorem ok15_1 : FnOk Try.prog E 15 v15_1.enc F15_1 w15_1.enc :=
  fn_known (fn := Try.f15) (c := (Try.f15.body.getD .skip)) Try.func15 (by kernel_rfl) rfl envOk (oracle_ok k15_1) mixed v15_1 F15_1 w15_1 [] [[]] (by kernel_rfl) [] 4000 L15_1 (by kernel_rfl)
    (fun _ h => nomatch h) (fun v _ h => ⟨0, (e15_1 _ v).trans h⟩) (fun _ => by kernel_rfl) (fun _ => by kernel_rfl) (fun _ _ => by kernel_rfl)
/- (*chicane/field.Field).at -/
abbrev A53_1 : Type := Int × Int
abbrev R53_1 : Type := Int × Bool
def v53_1 : Pk G (Int × Int) := (Pk.fst (pk (Sh.snd (Sh.cons Sh.nilptr (Sh.cons (Sh.int .i64) (Sh.fst (Sh.cons (Sh.int .i64) Sh.nil))))) Sh.hnil))
def w53_1 : Wk G (Int × Bool) := (Wk.one [.keep, .keep] (Pk.fst (pk (Sh.cons (Sh.int .i64) (Sh.fst (Sh.cons Sh.bool Sh.nil))) Sh.hnil)))
def F53_1 (v : Int × Int) : Option (Int × Bool) :=
  some ((0 : Int), false)

noncomputable def k53_1 : List (Known Try.prog E) := []
noncomputable def L53_1 (n id : Nat) (st : St G) : Option (Int × Bool) := none
set_option maxRecDepth 100000 in
theorem e53_1 (n : Nat) (v : Int × Int) : ev Try.prog E (oracle k53_1) Try.f53.ntmps (fun x => mem x []) (L53_1 n) (finF Try.prog E Try.f53.results.toList [[]] w53_1.alts) 4000 [.code (Try.f53.body.getD .skip)] (argSt (v53_1.enc v)) = F53_1 v := by kernel_rfl
theorem ok53_1 : FnOk Try.prog E 53 v53_1.enc F53_1 w53_1.enc :=
  fn_known (fn := Try.f53) (c := (Try.f53.body.getD .skip)) Try.func53 (by kernel_rfl) rfl envOk (oracle_ok k53_1) mixed v53_1 F53_1 w53_1 [] [[]] (by kernel_rfl) [] 4000 L53_1 (by kernel_rfl)
    (fun _ h => nomatch h) (fun v _ h => ⟨0, (e53_1 _ v).trans h⟩) (fun _ => by kernel_rfl) (fun _ => by kernel_rfl) (fun _ _ => by kernel_rfl)
/- (*chicane/field.Field).Slopes -/
abbrev A19_1 : Type := (Int × Int × Bool) × Bool
abbrev R19_1 : Type := (Int × Int) × Bool
def v19_1 : Pk G ((Int × Int × Bool) × Bool) := (pk (Sh.snd (Sh.cons Sh.nilptr (Sh.snd (Sh.cons (Sh.ptr 0 0) (Sh.cons (Sh.int .i64) (Sh.cons (Sh.int .i64) (Sh.fst (Sh.cons Sh.bool Sh.nil)))))))) (Sh.fst (Sh.hfix 0 50 (Sh.fst (Sh.cons Sh.bool Sh.nil)) Sh.hnil)))
def w19_1 : Wk G ((Int × Int) × Bool) := (Wk.one [.keep, .keep] (pk (Sh.cons (Sh.int .i64) (Sh.fst (Sh.cons (Sh.int .i64) Sh.nil))) (Sh.fst (Sh.hfix 0 50 (Sh.fst (Sh.cons Sh.bool Sh.nil)) Sh.hnil))))
def F19_1 (v : (Int × Int × Bool) × Bool) : Option ((Int × Int) × Bool) :=
  (F53_1 (v.1.1, v.1.2.1)).bind fun r3161 =>
  bif (!r3161.2) then
    some (((0 : Int), (0 : Int)), v.2)
  else
    none

noncomputable def k19_1 : List (Known Try.prog E) := [Known.of envOk [4, 1, 1] [.keep, .keep, .keep] v53_1 F53_1 w53_1 ok53_1]
noncomputable def L19_1 (n id : Nat) (st : St G) : Option ((Int × Int) × Bool) := none
set_option maxRecDepth 100000 in
theorem e19_1 (n : Nat) (v : (Int × Int × Bool) × Bool) : ev Try.prog E (oracle k19_1) Try.f19.ntmps (fun x => mem x []) (L19_1 n) (finF Try.prog E Try.f19.results.toList [[(.ptr 0 0 50 [.keep])]] w19_1.alts) 4000 [.code (Try.f19.body.getD .skip)] (argSt (v19_1.enc v)) = F19_1 v := by kernel_rfl
theorem ok19_1 : FnOk Try.prog E 19 v19_1.enc F19_1 w19_1.enc :=
  fn_known (fn := Try.f19) (c := (Try.f19.body.getD .skip)) Try.func19 (by kernel_rfl) rfl envOk (oracle_ok k19_1) mixed v19_1 F19_1 w19_1 [(.ptr 0 0 50 [.keep])] [[(.ptr 0 0 50 [.keep])]] (by kernel_rfl) [] 4000 L19_1 (by kernel_rfl)
    (fun _ h => nomatch h) (fun v _ h => ⟨0, (e19_1 _ v).trans h⟩) (fun _ => by kernel_rfl) (fun _ => by kernel_rfl) (fun _ _ => by kernel_rfl)
/- (*chicane/field.Field).Base -/
abbrev A17_1 : Type := Int × Int
abbrev R17_1 : Type := Int
def v17_1 : Pk G (Int × Int) := (Pk.fst (pk (Sh.snd (Sh.cons Sh.nilptr (Sh.cons (Sh.int .i64) (Sh.fst (Sh.cons (Sh.int .i64) Sh.nil))))) Sh.hnil))
def w17_1 : Wk G Int := (Wk.one [.keep] (Pk.fst (pk (Sh.fst (Sh.cons (Sh.int .i64) Sh.nil)) Sh.hnil)))
def F17_1 (v : Int × Int) : Option Int :=
  (F53_1 v).bind fun r3165 =>
  bif r3165.2 then
    none
  else
    some (0 : Int)

noncomputable def k17_1 : List (Known Try.prog E) := [Known.of envOk [4, 1, 1] [.keep, .keep, .keep] v53_1 F53_1 w53_1 ok53_1]
noncomputable def L17_1 (n id : Nat) (st : St G) : Option Int := none
set_option maxRecDepth 100000 in
theorem e17_1 (n : Nat) (v : Int × Int) : ev Try.prog E (oracle k17_1) Try.f17.ntmps (fun x => mem x []) (L17_1 n) (finF Try.prog E Try.f17.results.toList [[]] w17_1.alts) 4000 [.code (Try.f17.body.getD .skip)] (argSt (v17_1.enc v)) = F17_1 v := by kernel_rfl
theorem ok17_1 : FnOk Try.prog E 17 v17_1.enc F17_1 w17_1.enc :=
  fn_known (fn := Try.f17) (c := (Try.f17.body.getD .skip)) Try.func17 (by kernel_rfl) rfl envOk (oracle_ok k17_1) mixed v17_1 F17_1 w17_1 [] [[]] (by kernel_rfl) [] 4000 L17_1 (by kernel_rfl)
    (fun _ h => nomatch h) (fun v _ h => ⟨0, (e17_1 _ v).trans h⟩) (fun _ => by kernel_rfl) (fun _ => by kernel_rfl) (fun _ _ => by kernel_rfl)
/- (*chicane/field.Field).Height -/
abbrev A21_1 : Type := (Int × Int) × Bool
abbrev R21_1 : Type := Int × Bool
def v21_1 : Pk G ((Int × Int) × Bool) := (pk (Sh.snd (Sh.cons Sh.nilptr (Sh.snd (Sh.cons (Sh.ptr 0 0) (Sh.cons (Sh.int .i64) (Sh.fst (Sh.cons (Sh.int .i64) Sh.nil))))))) (Sh.fst (Sh.hfix 0 50 (Sh.fst (Sh.cons Sh.bool Sh.nil)) Sh.hnil)))
def w21_1 : Wk G (Int × Bool) := (Wk.one [.keep] (pk (Sh.fst (Sh.cons (Sh.int .i64) Sh.nil)) (Sh.fst (Sh.hfix 0 50 (Sh.fst (Sh.cons Sh.bool Sh.nil)) Sh.hnil))))
def F21_1 (v : (Int × Int) × Bool) : Option (Int × Bool) :=
  (F15_1 v.1).bind fun r3178 =>
  (F19_1 ((r3178.1, (r3178.2.1, (decide (r3178.2.2.1 < r3178.2.2.2)))), v.2)).bind fun r3179 =>
  (F17_1 (r3178.1, r3178.2.1)).bind fun r3180 =>
  (F56_0 ((r3179.1.1, r3178.2.2.1), r3179.2)).bind fun r3181 =>
  (F31_0 ((r3180, r3181.1), r3181.2)).bind fun r3182 =>
  (F56_0 ((r3179.1.2, r3178.2.2.2), r3182.2)).bind fun r3183 =>
  (F31_0 ((r3182.1, r3183.1), r3183.2)).bind fun r3184 =>
  some (r3184)

noncomputable def k21_1 : List (Known Try.prog E) := [Known.of envOk [4, 1, 1] [.keep, .keep, .keep] v15_1 F15_1 w15_1 ok15_1, Known.of envOk [4, 5, 1, 1, 2] [.keep, (.ptr 0 0 50 [.keep]), .keep, .keep, .keep] v19_1 F19_1 w19_1 ok19_1, Known.of envOk [4, 1, 1] [.keep, .keep, .keep] v17_1 F17_1 w17_1 ok17_1, Known.of envOk [5, 1, 1] [(.ptr 0 0 50 [.keep]), .keep, .keep] v56_0 F56_0 w56_0 ok56_0, Known.of envOk [5, 1, 1] [(.ptr 0 0 50 [.keep]), .keep, .keep] v31_0 F31_0 w31_0 ok31_0]
noncomputable def L21_1 (n id : Nat) (st : St G) : Option (Int × Bool) := none
set_option maxRecDepth 100000 in
theorem e21_1 (n : Nat) (v : (Int × Int) × Bool) : ev Try.prog E (oracle k21_1) Try.f21.ntmps (fun x => mem x []) (L21_1 n) (finF Try.prog E Try.f21.results.toList [[(.ptr 0 0 50 [.keep])]] w21_1.alts) 4000 [.code (Try.f21.body.getD .skip)] (argSt (v21_1.enc v)) = F21_1 v := by kernel_rfl
theorem ok21_1 : FnOk Try.prog E 21 v21_1.enc F21_1 w21_1.enc :=
  fn_known (fn := Try.f21) (c := (Try.f21.body.getD .skip)) Try.func21 (by kernel_rfl) rfl envOk (oracle_ok k21_1) mixed v21_1 F21_1 w21_1 [(.ptr 0 0 50 [.keep])] [[(.ptr 0 0 50 [.keep])]] (by kernel_rfl) [] 4000 L21_1 (by kernel_rfl)
    (fun _ h => nomatch h) (fun v _ h => ⟨0, (e21_1 _ v).trans h⟩) (fun _ => by kernel_rfl) (fun _ => by kernel_rfl) (fun _ _ => by kernel_rfl)
end Go.Proofs.Ytneiaaalbpjgiaa.Ev
