/-
  No cell of these rows narrows 'for every input' (looked for: loops, veiled, ifaces, maps, wideKeys, modest, calm, conditions, laid).
  DERIVED. THE GIVEN ROWS OF THIS SEAT. 8 by the template 'for every input the law returns true; each argument reads behind the call as it read before'; 0 by the template 'total and deterministic' (their statements: YtneiaaalbpjgiaaTotals.lean).
  GIVEN WITH THE SEED: the statements are not yours to turn. If you find one false, say at which input.
  Laid BY PROGRAM, IN A SANDBOX (cutbox-rows.mjs): the forced cells as the released guide's own fill.sh prints them over the translation a58d0777439b0649… (all of the seat's roots in one cut). By AI agents, Wed Nov 11 2026. No macro, syntax, notation, axiom, sorry.
-/
import Derived.Test.YtneiaaalbpjgiaaChecked
import GoSem.Claim
import GoSem.ClaimJoined
import GoSem.ClaimMapViews
import Derived.JoinedTies
import Derived.KernelRfl
namespace Go.Proofs.Ytneiaaalbpjgiaa
/- THE CELL 'sum', in the pinned program and in every row, IS THE sha256 OF THE DUMP (.gsa) THAT YtneiaaalbpjgiaaProg.lean LOADS. Nothing in Lean hashes anything: it is a label: what it is worth is what the hold of that sum in a sandbox is worth. -/
noncomputable def Try.pinned : Pinned := { name := "ytneiaaalbpjgiaa", sum := "a58d0777439b0649f78957f44dbde50a41d60b10a636febc9ec1ab1b2a2c57ae", checked := Try.checked }
namespace Rows
def none {H : Type} : Left H := { results := [], args := [] }

/-- 'chicanelaw12.FieldWhere': WHATEVER THE INPUT: true; the input reads as it did. -/
def fieldWhereSpec : ChangeSpec := { name := "fieldWhere", fn := fun _ => fun
  | [d1, d2, d3] => { results := [.lit (.bool true)], args := [d1, d2, d3] }
  | _ => none }
def fieldWhereRow : OpenClaim := { program := "ytneiaaalbpjgiaa", sum := "a58d0777439b0649f78957f44dbde50a41d60b10a636febc9ec1ab1b2a2c57ae", func := "chicane/chicanelaw12.FieldWhere", spec := "fieldWhere", inPlace := ["math/bits.Sub64", "math/bits.Add64"], unfollowed := true, recurses := true, named := ["math/bits.divideError", "math/bits.overflowError"], apart := false }
def FieldWhereSaid : Prop := fieldWhereRow.holds Try.pinned (OpenSpec.ofChange fieldWhereSpec)

/-- ITS FALSE NEIGHBOUR: 'it returns false'. Refute it at one input. -/
def fieldWhereWrong : ChangeSpec := { name := "fieldWhere", fn := fun _ => fun
  | [d1, d2, d3] => { results := [.lit (.bool false)], args := [d1, d2, d3] }
  | _ => none }
def FieldWhereWrongFalsely : Prop := fieldWhereRow.holds Try.pinned (OpenSpec.ofChange fieldWhereWrong)

/-- 'chicanelaw12.FieldHeight': WHATEVER THE INPUT: true; the input reads as it did. -/
def fieldHeightSpec : ChangeSpec := { name := "fieldHeight", fn := fun _ => fun
  | [d1, d2] => { results := [.lit (.bool true)], args := [d1, d2] }
  | _ => none }
def fieldHeightRow : OpenClaim := { program := "ytneiaaalbpjgiaa", sum := "a58d0777439b0649f78957f44dbde50a41d60b10a636febc9ec1ab1b2a2c57ae", func := "chicane/chicanelaw12.FieldHeight", spec := "fieldHeight", inPlace := ["math/bits.Sub64", "math/bits.Add64"], unfollowed := true, recurses := true, named := ["math/bits.divideError", "math/bits.overflowError"], apart := false }
def FieldHeightSaid : Prop := fieldHeightRow.holds Try.pinned (OpenSpec.ofChange fieldHeightSpec)

/-- ITS FALSE NEIGHBOUR: 'it returns false'. Refute it at one input. -/
def fieldHeightWrong : ChangeSpec := { name := "fieldHeight", fn := fun _ => fun
  | [d1, d2] => { results := [.lit (.bool false)], args := [d1, d2] }
  | _ => none }
def FieldHeightWrongFalsely : Prop := fieldHeightRow.holds Try.pinned (OpenSpec.ofChange fieldHeightWrong)

/-- 'chicanelaw12.FieldNew': WHATEVER THE INPUT: true; the input reads as it did. -/
def fieldNewSpec : ChangeSpec := { name := "fieldNew", fn := fun _ => fun
  | [d] => { results := [.lit (.bool true)], args := [d] }
  | _ => none }
def fieldNewRow : OpenClaim := { program := "ytneiaaalbpjgiaa", sum := "a58d0777439b0649f78957f44dbde50a41d60b10a636febc9ec1ab1b2a2c57ae", func := "chicane/chicanelaw12.FieldNew", spec := "fieldNew", inPlace := ["math/bits.Sub64", "math/bits.Add64"], unfollowed := true, recurses := true, named := ["math/bits.divideError", "math/bits.overflowError"], apart := false }
def FieldNewSaid : Prop := fieldNewRow.holds Try.pinned (OpenSpec.ofChange fieldNewSpec)

/-- ITS FALSE NEIGHBOUR: 'it returns false'. Refute it at one input. -/
def fieldNewWrong : ChangeSpec := { name := "fieldNew", fn := fun _ => fun
  | [d] => { results := [.lit (.bool false)], args := [d] }
  | _ => none }
def FieldNewWrongFalsely : Prop := fieldNewRow.holds Try.pinned (OpenSpec.ofChange fieldNewWrong)

/-- 'chicanelaw12.FieldCorners': WHATEVER THE INPUT: true; the input reads as it did. -/
def fieldCornersSpec : ChangeSpec := { name := "fieldCorners", fn := fun _ => fun
  | [d1, d2] => { results := [.lit (.bool true)], args := [d1, d2] }
  | _ => none }
def fieldCornersRow : OpenClaim := { program := "ytneiaaalbpjgiaa", sum := "a58d0777439b0649f78957f44dbde50a41d60b10a636febc9ec1ab1b2a2c57ae", func := "chicane/chicanelaw12.FieldCorners", spec := "fieldCorners", inPlace := ["math/bits.Sub64", "math/bits.Add64"], unfollowed := true, recurses := true, named := ["math/bits.divideError", "math/bits.overflowError"], apart := false }
def FieldCornersSaid : Prop := fieldCornersRow.holds Try.pinned (OpenSpec.ofChange fieldCornersSpec)

/-- ITS FALSE NEIGHBOUR: 'it returns false'. Refute it at one input. -/
def fieldCornersWrong : ChangeSpec := { name := "fieldCorners", fn := fun _ => fun
  | [d1, d2] => { results := [.lit (.bool false)], args := [d1, d2] }
  | _ => none }
def FieldCornersWrongFalsely : Prop := fieldCornersRow.holds Try.pinned (OpenSpec.ofChange fieldCornersWrong)

/-- 'chicanelaw12.FieldSteps': WHATEVER THE INPUT: true; the input reads as it did. -/
def fieldStepsSpec : ChangeSpec := { name := "fieldSteps", fn := fun _ => fun
  | [d1, d2, d3] => { results := [.lit (.bool true)], args := [d1, d2, d3] }
  | _ => none }
def fieldStepsRow : OpenClaim := { program := "ytneiaaalbpjgiaa", sum := "a58d0777439b0649f78957f44dbde50a41d60b10a636febc9ec1ab1b2a2c57ae", func := "chicane/chicanelaw12.FieldSteps", spec := "fieldSteps", inPlace := ["math/bits.Sub64", "math/bits.Add64"], unfollowed := true, recurses := true, named := ["math/bits.divideError", "math/bits.overflowError"], apart := false }
def FieldStepsSaid : Prop := fieldStepsRow.holds Try.pinned (OpenSpec.ofChange fieldStepsSpec)

/-- ITS FALSE NEIGHBOUR: 'it returns false'. Refute it at one input. -/
def fieldStepsWrong : ChangeSpec := { name := "fieldSteps", fn := fun _ => fun
  | [d1, d2, d3] => { results := [.lit (.bool false)], args := [d1, d2, d3] }
  | _ => none }
def FieldStepsWrongFalsely : Prop := fieldStepsRow.holds Try.pinned (OpenSpec.ofChange fieldStepsWrong)

/-- 'chicanelaw13.RayPoint': WHATEVER THE INPUT: true; the input reads as it did. -/
def rayPointSpec : ChangeSpec := { name := "rayPoint", fn := fun _ => fun
  | [d1, d2, d3] => { results := [.lit (.bool true)], args := [d1, d2, d3] }
  | _ => none }
def rayPointRow : OpenClaim := { program := "ytneiaaalbpjgiaa", sum := "a58d0777439b0649f78957f44dbde50a41d60b10a636febc9ec1ab1b2a2c57ae", func := "chicane/chicanelaw13.RayPoint", spec := "rayPoint", inPlace := ["math/bits.Add64", "math/bits.Sub64"], unfollowed := true, recurses := true, named := ["math/bits.divideError", "math/bits.overflowError"], apart := false }
def RayPointSaid : Prop := rayPointRow.holds Try.pinned (OpenSpec.ofChange rayPointSpec)

/-- ITS FALSE NEIGHBOUR: 'it returns false'. Refute it at one input. -/
def rayPointWrong : ChangeSpec := { name := "rayPoint", fn := fun _ => fun
  | [d1, d2, d3] => { results := [.lit (.bool false)], args := [d1, d2, d3] }
  | _ => none }
def RayPointWrongFalsely : Prop := rayPointRow.holds Try.pinned (OpenSpec.ofChange rayPointWrong)

/-- 'chicanelaw13.RayOn': WHATEVER THE INPUT: true; the input reads as it did. -/
def rayOnSpec : ChangeSpec := { name := "rayOn", fn := fun _ => fun
  | [d1, d2] => { results := [.lit (.bool true)], args := [d1, d2] }
  | _ => none }
def rayOnRow : OpenClaim := { program := "ytneiaaalbpjgiaa", sum := "a58d0777439b0649f78957f44dbde50a41d60b10a636febc9ec1ab1b2a2c57ae", func := "chicane/chicanelaw13.RayOn", spec := "rayOn", inPlace := ["math/bits.Add64", "math/bits.Sub64"], unfollowed := true, recurses := true, named := ["math/bits.divideError", "math/bits.overflowError"], apart := false }
def RayOnSaid : Prop := rayOnRow.holds Try.pinned (OpenSpec.ofChange rayOnSpec)

/-- ITS FALSE NEIGHBOUR: 'it returns false'. Refute it at one input. -/
def rayOnWrong : ChangeSpec := { name := "rayOn", fn := fun _ => fun
  | [d1, d2] => { results := [.lit (.bool false)], args := [d1, d2] }
  | _ => none }
def RayOnWrongFalsely : Prop := rayOnRow.holds Try.pinned (OpenSpec.ofChange rayOnWrong)

/-- 'chicanelaw13.RayDown': WHATEVER THE INPUT: true; the input reads as it did. -/
def rayDownSpec : ChangeSpec := { name := "rayDown", fn := fun _ => fun
  | [d1, d2] => { results := [.lit (.bool true)], args := [d1, d2] }
  | _ => none }
def rayDownRow : OpenClaim := { program := "ytneiaaalbpjgiaa", sum := "a58d0777439b0649f78957f44dbde50a41d60b10a636febc9ec1ab1b2a2c57ae", func := "chicane/chicanelaw13.RayDown", spec := "rayDown", inPlace := ["math/bits.Add64", "math/bits.Sub64"], unfollowed := true, recurses := true, named := ["math/bits.divideError", "math/bits.overflowError"], apart := false }
def RayDownSaid : Prop := rayDownRow.holds Try.pinned (OpenSpec.ofChange rayDownSpec)

/-- ITS FALSE NEIGHBOUR: 'it returns false'. Refute it at one input. -/
def rayDownWrong : ChangeSpec := { name := "rayDown", fn := fun _ => fun
  | [d1, d2] => { results := [.lit (.bool false)], args := [d1, d2] }
  | _ => none }
def RayDownWrongFalsely : Prop := rayDownRow.holds Try.pinned (OpenSpec.ofChange rayDownWrong)

/- THE SECOND FORM. 'bulk': how many values and letters a reading holds, each counted each time it is reached (what is shared counts as often as it is met; a slice's spare places count too). A statement '..UptoSaid' is the law's where the arguments, and the package variables that the reading takes, are together of bulk at most 1048576: NARROWER than '..Said'. Prove '..Said' where nothing that the law and all that it calls make is longer than what came in: it says more and counts as full. Else prove '..UptoSaid'. A law counts once. -/
mutual
def uptoBulk {H : Type} : DataW H → Nat
  | .lit (.string bytes) => bytes.length + 1
  | .lit _ => 1
  | .nil => 1
  | .ptr d => uptoBulk d + 1
  | .slice elems spare => uptoBulkAll elems + uptoBulkAll spare + 1
  | .agg parts => uptoBulkAll parts + 1
  | .iface _ d => uptoBulk d + 1
  | .map entries => uptoBulkEntries entries + 1
  | .held _ => 1
def uptoBulkAll {H : Type} : List (DataW H) → Nat
  | [] => 0
  | d :: r => uptoBulk d + uptoBulkAll r
def uptoBulkEntries {H : Type} : List (Lit × DataW H) → Nat
  | [] => 0
  | x :: r => uptoBulkEntry x + uptoBulkEntries r
def uptoBulkEntry {H : Type} : Lit × DataW H → Nat
  | (.string bytes, d) => bytes.length + uptoBulk d + 1
  | (_, d) => uptoBulk d + 1
 end
def uptoSmall : (H : Type) → List (DataW H) → Bool := fun _ ds => decide (uptoBulkAll ds ≤ 1048576)
def OpenSpec.upto (s : _root_.Go.ChangeSpec) : _root_.Go.OpenSpec := { _root_.Go.OpenSpec.ofChange s with cond := some uptoSmall }

/-- 'chicanelaw12.FieldWhere', WHERE WHAT IT READS IS OF BULK AT MOST 1048576: true; the input reads as it did. -/
def fieldWhereUptoRow : OpenClaim := { program := "ytneiaaalbpjgiaa", sum := "a58d0777439b0649f78957f44dbde50a41d60b10a636febc9ec1ab1b2a2c57ae", func := "chicane/chicanelaw12.FieldWhere", spec := "fieldWhere", inPlace := ["math/bits.Sub64", "math/bits.Add64"], unfollowed := true, recurses := true, named := ["math/bits.divideError", "math/bits.overflowError"], apart := false, narrowed := true }
def FieldWhereUptoSaid : Prop := fieldWhereUptoRow.holds Try.pinned (OpenSpec.upto fieldWhereSpec)

/-- 'chicanelaw12.FieldHeight', WHERE WHAT IT READS IS OF BULK AT MOST 1048576: true; the input reads as it did. -/
def fieldHeightUptoRow : OpenClaim := { program := "ytneiaaalbpjgiaa", sum := "a58d0777439b0649f78957f44dbde50a41d60b10a636febc9ec1ab1b2a2c57ae", func := "chicane/chicanelaw12.FieldHeight", spec := "fieldHeight", inPlace := ["math/bits.Sub64", "math/bits.Add64"], unfollowed := true, recurses := true, named := ["math/bits.divideError", "math/bits.overflowError"], apart := false, narrowed := true }
def FieldHeightUptoSaid : Prop := fieldHeightUptoRow.holds Try.pinned (OpenSpec.upto fieldHeightSpec)

/-- 'chicanelaw12.FieldNew', WHERE WHAT IT READS IS OF BULK AT MOST 1048576: true; the input reads as it did. -/
def fieldNewUptoRow : OpenClaim := { program := "ytneiaaalbpjgiaa", sum := "a58d0777439b0649f78957f44dbde50a41d60b10a636febc9ec1ab1b2a2c57ae", func := "chicane/chicanelaw12.FieldNew", spec := "fieldNew", inPlace := ["math/bits.Sub64", "math/bits.Add64"], unfollowed := true, recurses := true, named := ["math/bits.divideError", "math/bits.overflowError"], apart := false, narrowed := true }
def FieldNewUptoSaid : Prop := fieldNewUptoRow.holds Try.pinned (OpenSpec.upto fieldNewSpec)

/-- 'chicanelaw12.FieldCorners', WHERE WHAT IT READS IS OF BULK AT MOST 1048576: true; the input reads as it did. -/
def fieldCornersUptoRow : OpenClaim := { program := "ytneiaaalbpjgiaa", sum := "a58d0777439b0649f78957f44dbde50a41d60b10a636febc9ec1ab1b2a2c57ae", func := "chicane/chicanelaw12.FieldCorners", spec := "fieldCorners", inPlace := ["math/bits.Sub64", "math/bits.Add64"], unfollowed := true, recurses := true, named := ["math/bits.divideError", "math/bits.overflowError"], apart := false, narrowed := true }
def FieldCornersUptoSaid : Prop := fieldCornersUptoRow.holds Try.pinned (OpenSpec.upto fieldCornersSpec)

/-- 'chicanelaw12.FieldSteps', WHERE WHAT IT READS IS OF BULK AT MOST 1048576: true; the input reads as it did. -/
def fieldStepsUptoRow : OpenClaim := { program := "ytneiaaalbpjgiaa", sum := "a58d0777439b0649f78957f44dbde50a41d60b10a636febc9ec1ab1b2a2c57ae", func := "chicane/chicanelaw12.FieldSteps", spec := "fieldSteps", inPlace := ["math/bits.Sub64", "math/bits.Add64"], unfollowed := true, recurses := true, named := ["math/bits.divideError", "math/bits.overflowError"], apart := false, narrowed := true }
def FieldStepsUptoSaid : Prop := fieldStepsUptoRow.holds Try.pinned (OpenSpec.upto fieldStepsSpec)

/-- 'chicanelaw13.RayPoint', WHERE WHAT IT READS IS OF BULK AT MOST 1048576: true; the input reads as it did. -/
def rayPointUptoRow : OpenClaim := { program := "ytneiaaalbpjgiaa", sum := "a58d0777439b0649f78957f44dbde50a41d60b10a636febc9ec1ab1b2a2c57ae", func := "chicane/chicanelaw13.RayPoint", spec := "rayPoint", inPlace := ["math/bits.Add64", "math/bits.Sub64"], unfollowed := true, recurses := true, named := ["math/bits.divideError", "math/bits.overflowError"], apart := false, narrowed := true }
def RayPointUptoSaid : Prop := rayPointUptoRow.holds Try.pinned (OpenSpec.upto rayPointSpec)

/-- 'chicanelaw13.RayOn', WHERE WHAT IT READS IS OF BULK AT MOST 1048576: true; the input reads as it did. -/
def rayOnUptoRow : OpenClaim := { program := "ytneiaaalbpjgiaa", sum := "a58d0777439b0649f78957f44dbde50a41d60b10a636febc9ec1ab1b2a2c57ae", func := "chicane/chicanelaw13.RayOn", spec := "rayOn", inPlace := ["math/bits.Add64", "math/bits.Sub64"], unfollowed := true, recurses := true, named := ["math/bits.divideError", "math/bits.overflowError"], apart := false, narrowed := true }
def RayOnUptoSaid : Prop := rayOnUptoRow.holds Try.pinned (OpenSpec.upto rayOnSpec)

/-- 'chicanelaw13.RayDown', WHERE WHAT IT READS IS OF BULK AT MOST 1048576: true; the input reads as it did. -/
def rayDownUptoRow : OpenClaim := { program := "ytneiaaalbpjgiaa", sum := "a58d0777439b0649f78957f44dbde50a41d60b10a636febc9ec1ab1b2a2c57ae", func := "chicane/chicanelaw13.RayDown", spec := "rayDown", inPlace := ["math/bits.Add64", "math/bits.Sub64"], unfollowed := true, recurses := true, named := ["math/bits.divideError", "math/bits.overflowError"], apart := false, narrowed := true }
def RayDownUptoSaid : Prop := rayDownUptoRow.holds Try.pinned (OpenSpec.upto rayDownSpec)

end Rows
end Go.Proofs.Ytneiaaalbpjgiaa
