/-
  No cell of these rows narrows 'for every input' (looked for: loops, veiled, ifaces, maps, wideKeys, modest, calm, conditions, laid).
  DERIVED. THE GIVEN ROWS OF THIS SEAT. 4 by the template 'for every input the law returns true; each argument reads behind the call as it read before'; 0 by the template 'total and deterministic' (their statements: YtemdppcnhlnicaaTotals.lean).
  GIVEN WITH THE SEED: the statements are not yours to turn. If you find one false, say at which input.
  Laid BY PROGRAM, IN A SANDBOX (cutbox-rows.mjs): the forced cells as the released guide's own fill.sh prints them over the translation 59ecabfcbd56c87a… (all of the seat's roots in one cut). By AI agents, Wed Nov 11 2026. No macro, syntax, notation, axiom, sorry.
-/
import Derived.Test.YtemdppcnhlnicaaChecked
import GoSem.Claim
import GoSem.ClaimJoined
import GoSem.ClaimMapViews
import Derived.JoinedTies
import Derived.KernelRfl
namespace Go.Proofs.Ytemdppcnhlnicaa
/- THE CELL 'sum', in the pinned program and in every row, IS THE sha256 OF THE DUMP (.gsa) THAT YtemdppcnhlnicaaProg.lean LOADS. Nothing in Lean hashes anything: it is a label: what it is worth is what the hold of that sum in a sandbox is worth. -/
noncomputable def Try.pinned : Pinned := { name := "ytemdppcnhlnicaa", sum := "59ecabfcbd56c87a4366dc0c888f7f6c77ca8b2f6f3e7f8bb0d2305d39664dfd", checked := Try.checked }
namespace Rows
def none {H : Type} : Left H := { results := [], args := [] }

/-- 'chicanelaw48.PointsScores': WHATEVER THE INPUT: true; the input reads as it did. -/
def pointsScoresSpec : ChangeSpec := { name := "pointsScores", fn := fun _ => fun
  | [d1, d2, d3] => { results := [.lit (.bool true)], args := [d1, d2, d3] }
  | _ => none }
def pointsScoresRow : OpenClaim := { program := "ytemdppcnhlnicaa", sum := "59ecabfcbd56c87a4366dc0c888f7f6c77ca8b2f6f3e7f8bb0d2305d39664dfd", func := "chicane/chicanelaw48.PointsScores", spec := "pointsScores", unfollowed := true, recurses := true, apart := false }
def PointsScoresSaid : Prop := pointsScoresRow.holds Try.pinned (OpenSpec.ofChange pointsScoresSpec)

/-- ITS FALSE NEIGHBOUR: 'it returns false'. Refute it at one input. -/
def pointsScoresWrong : ChangeSpec := { name := "pointsScores", fn := fun _ => fun
  | [d1, d2, d3] => { results := [.lit (.bool false)], args := [d1, d2, d3] }
  | _ => none }
def PointsScoresWrongFalsely : Prop := pointsScoresRow.holds Try.pinned (OpenSpec.ofChange pointsScoresWrong)

/-- 'chicanelaw48.PointsTables': WHATEVER THE INPUT: true; the input reads as it did. -/
def pointsTablesSpec : ChangeSpec := { name := "pointsTables", fn := fun _ => fun
  | [d1, d2, d3] => { results := [.lit (.bool true)], args := [d1, d2, d3] }
  | _ => none }
def pointsTablesRow : OpenClaim := { program := "ytemdppcnhlnicaa", sum := "59ecabfcbd56c87a4366dc0c888f7f6c77ca8b2f6f3e7f8bb0d2305d39664dfd", func := "chicane/chicanelaw48.PointsTables", spec := "pointsTables", unfollowed := true, recurses := true, apart := false }
def PointsTablesSaid : Prop := pointsTablesRow.holds Try.pinned (OpenSpec.ofChange pointsTablesSpec)

/-- ITS FALSE NEIGHBOUR: 'it returns false'. Refute it at one input. -/
def pointsTablesWrong : ChangeSpec := { name := "pointsTables", fn := fun _ => fun
  | [d1, d2, d3] => { results := [.lit (.bool false)], args := [d1, d2, d3] }
  | _ => none }
def PointsTablesWrongFalsely : Prop := pointsTablesRow.holds Try.pinned (OpenSpec.ofChange pointsTablesWrong)

/-- 'chicanelaw48.PointsSums': WHATEVER THE INPUT: true; the input reads as it did. -/
def pointsSumsSpec : ChangeSpec := { name := "pointsSums", fn := fun _ => fun
  | [d1, d2] => { results := [.lit (.bool true)], args := [d1, d2] }
  | _ => none }
def pointsSumsRow : OpenClaim := { program := "ytemdppcnhlnicaa", sum := "59ecabfcbd56c87a4366dc0c888f7f6c77ca8b2f6f3e7f8bb0d2305d39664dfd", func := "chicane/chicanelaw48.PointsSums", spec := "pointsSums", unfollowed := true, recurses := true, apart := false }
def PointsSumsSaid : Prop := pointsSumsRow.holds Try.pinned (OpenSpec.ofChange pointsSumsSpec)

/-- ITS FALSE NEIGHBOUR: 'it returns false'. Refute it at one input. -/
def pointsSumsWrong : ChangeSpec := { name := "pointsSums", fn := fun _ => fun
  | [d1, d2] => { results := [.lit (.bool false)], args := [d1, d2] }
  | _ => none }
def PointsSumsWrongFalsely : Prop := pointsSumsRow.holds Try.pinned (OpenSpec.ofChange pointsSumsWrong)

/-- 'chicanelaw48.PointsSure': WHATEVER THE INPUT: true; the input reads as it did. -/
def pointsSureSpec : ChangeSpec := { name := "pointsSure", fn := fun _ => fun
  | [d1, d2, d3] => { results := [.lit (.bool true)], args := [d1, d2, d3] }
  | _ => none }
def pointsSureRow : OpenClaim := { program := "ytemdppcnhlnicaa", sum := "59ecabfcbd56c87a4366dc0c888f7f6c77ca8b2f6f3e7f8bb0d2305d39664dfd", func := "chicane/chicanelaw48.PointsSure", spec := "pointsSure", unfollowed := true, recurses := true, apart := false }
def PointsSureSaid : Prop := pointsSureRow.holds Try.pinned (OpenSpec.ofChange pointsSureSpec)

/-- ITS FALSE NEIGHBOUR: 'it returns false'. Refute it at one input. -/
def pointsSureWrong : ChangeSpec := { name := "pointsSure", fn := fun _ => fun
  | [d1, d2, d3] => { results := [.lit (.bool false)], args := [d1, d2, d3] }
  | _ => none }
def PointsSureWrongFalsely : Prop := pointsSureRow.holds Try.pinned (OpenSpec.ofChange pointsSureWrong)

/- THE SECOND FORM. 'bulk': how many values and letters a reading holds, each counted each time it is reached (what is shared counts as often as it is met; a slice's spare places count too). A statement '..UptoSaid' is the law's where the arguments, and the package variables that the reading takes, are together of bulk at most 1048576: NARROWER than '..Said'. Prove '..Said' where nothing that the law and all that it calls make is longer than what came in: it says more and counts as full. Else prove '..UptoSaid'. A law counts once. -/
mutual
def uptoBulk {H : Type} : DataW H → Nat
  | .lit (.string bytes) => bytes.length + 1
  | .lit _ => 1
  | .nil => 1
  | .ptr d => uptoBulk d + 1
  | .slice elems spare => uptoBulkAll elems + uptoBulkAll spare + 1
  | .agg parts => uptoBulkAll parts + 1
  | .iface _ d => uptoBulk d + 1
  | .map entries => uptoBulkEntries entries + 1
  | .held _ => 1
def uptoBulkAll {H : Type} : List (DataW H) → Nat
  | [] => 0
  | d :: r => uptoBulk d + uptoBulkAll r
def uptoBulkEntries {H : Type} : List (Lit × DataW H) → Nat
  | [] => 0
  | x :: r => uptoBulkEntry x + uptoBulkEntries r
def uptoBulkEntry {H : Type} : Lit × DataW H → Nat
  | (.string bytes, d) => bytes.length + uptoBulk d + 1
  | (_, d) => uptoBulk d + 1
 end
def uptoSmall : (H : Type) → List (DataW H) → Bool := fun _ ds => decide (uptoBulkAll ds ≤ 1048576)
def OpenSpec.upto (s : _root_.Go.ChangeSpec) : _root_.Go.OpenSpec := { _root_.Go.OpenSpec.ofChange s with cond := some uptoSmall }

/-- 'chicanelaw48.PointsScores', WHERE WHAT IT READS IS OF BULK AT MOST 1048576: true; the input reads as it did. -/
def pointsScoresUptoRow : OpenClaim := { program := "ytemdppcnhlnicaa", sum := "59ecabfcbd56c87a4366dc0c888f7f6c77ca8b2f6f3e7f8bb0d2305d39664dfd", func := "chicane/chicanelaw48.PointsScores", spec := "pointsScores", unfollowed := true, recurses := true, apart := false, narrowed := true }
def PointsScoresUptoSaid : Prop := pointsScoresUptoRow.holds Try.pinned (OpenSpec.upto pointsScoresSpec)

/-- 'chicanelaw48.PointsTables', WHERE WHAT IT READS IS OF BULK AT MOST 1048576: true; the input reads as it did. -/
def pointsTablesUptoRow : OpenClaim := { program := "ytemdppcnhlnicaa", sum := "59ecabfcbd56c87a4366dc0c888f7f6c77ca8b2f6f3e7f8bb0d2305d39664dfd", func := "chicane/chicanelaw48.PointsTables", spec := "pointsTables", unfollowed := true, recurses := true, apart := false, narrowed := true }
def PointsTablesUptoSaid : Prop := pointsTablesUptoRow.holds Try.pinned (OpenSpec.upto pointsTablesSpec)

/-- 'chicanelaw48.PointsSums', WHERE WHAT IT READS IS OF BULK AT MOST 1048576: true; the input reads as it did. -/
def pointsSumsUptoRow : OpenClaim := { program := "ytemdppcnhlnicaa", sum := "59ecabfcbd56c87a4366dc0c888f7f6c77ca8b2f6f3e7f8bb0d2305d39664dfd", func := "chicane/chicanelaw48.PointsSums", spec := "pointsSums", unfollowed := true, recurses := true, apart := false, narrowed := true }
def PointsSumsUptoSaid : Prop := pointsSumsUptoRow.holds Try.pinned (OpenSpec.upto pointsSumsSpec)

/-- 'chicanelaw48.PointsSure', WHERE WHAT IT READS IS OF BULK AT MOST 1048576: true; the input reads as it did. -/
def pointsSureUptoRow : OpenClaim := { program := "ytemdppcnhlnicaa", sum := "59ecabfcbd56c87a4366dc0c888f7f6c77ca8b2f6f3e7f8bb0d2305d39664dfd", func := "chicane/chicanelaw48.PointsSure", spec := "pointsSure", unfollowed := true, recurses := true, apart := false, narrowed := true }
def PointsSureUptoSaid : Prop := pointsSureUptoRow.holds Try.pinned (OpenSpec.upto pointsSureSpec)

end Rows
end Go.Proofs.Ytemdppcnhlnicaa
