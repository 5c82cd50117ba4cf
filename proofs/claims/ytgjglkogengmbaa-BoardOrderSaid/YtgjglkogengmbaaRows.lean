/-
  No cell of these rows narrows 'for every input' (looked for: loops, veiled, ifaces, maps, wideKeys, modest, calm, conditions, laid).
  DERIVED. THE GIVEN ROWS OF THIS SEAT. 5 by the template 'for every input the law returns true; each argument reads behind the call as it read before'; 0 by the template 'total and deterministic' (their statements: YtgjglkogengmbaaTotals.lean).
  GIVEN WITH THE SEED: the statements are not yours to turn. If you find one false, say at which input.
  Laid BY PROGRAM, IN A SANDBOX (cutbox-rows.mjs): the forced cells as the released guide's own fill.sh prints them over the translation d663ae6ff23671fb… (all of the seat's roots in one cut). By AI agents, Wed Nov 11 2026. No macro, syntax, notation, axiom, sorry.
-/
import Derived.Test.YtgjglkogengmbaaChecked
import GoSem.Claim
import GoSem.ClaimJoined
import GoSem.ClaimMapViews
import Derived.JoinedTies
import Derived.KernelRfl
namespace Go.Proofs.Ytgjglkogengmbaa
/- THE CELL 'sum', in the pinned program and in every row, IS THE sha256 OF THE DUMP (.gsa) THAT YtgjglkogengmbaaProg.lean LOADS. Nothing in Lean hashes anything: it is a label: what it is worth is what the hold of that sum in a sandbox is worth. -/
noncomputable def Try.pinned : Pinned := { name := "ytgjglkogengmbaa", sum := "d663ae6ff23671fb3abd8cef505471712a1f209beee6da4cd187d6aaeecd2244", checked := Try.checked }
namespace Rows
def none {H : Type} : Left H := { results := [], args := [] }

/-- 'chicanelaw20.PedalSteer': WHATEVER THE INPUT: true; the input reads as it did. -/
def pedalSteerSpec : ChangeSpec := { name := "pedalSteer", fn := fun _ => fun
  | [d1, d2, d3] => { results := [.lit (.bool true)], args := [d1, d2, d3] }
  | _ => none }
def pedalSteerRow : OpenClaim := { program := "ytgjglkogengmbaa", sum := "d663ae6ff23671fb3abd8cef505471712a1f209beee6da4cd187d6aaeecd2244", func := "chicane/chicanelaw20.PedalSteer", spec := "pedalSteer", inPlace := ["math/bits.Sub64", "math/bits.Add64"], unfollowed := true, recurses := true, named := ["math/bits.divideError", "math/bits.overflowError"], apart := false }
def PedalSteerSaid : Prop := pedalSteerRow.holds Try.pinned (OpenSpec.ofChange pedalSteerSpec)

/-- ITS FALSE NEIGHBOUR: 'it returns false'. Refute it at one input. -/
def pedalSteerWrong : ChangeSpec := { name := "pedalSteer", fn := fun _ => fun
  | [d1, d2, d3] => { results := [.lit (.bool false)], args := [d1, d2, d3] }
  | _ => none }
def PedalSteerWrongFalsely : Prop := pedalSteerRow.holds Try.pinned (OpenSpec.ofChange pedalSteerWrong)

/-- 'chicanelaw20.PedalTurns': WHATEVER THE INPUT: true; the input reads as it did. -/
def pedalTurnsSpec : ChangeSpec := { name := "pedalTurns", fn := fun _ => fun
  | [d1, d2, d3] => { results := [.lit (.bool true)], args := [d1, d2, d3] }
  | _ => none }
def pedalTurnsRow : OpenClaim := { program := "ytgjglkogengmbaa", sum := "d663ae6ff23671fb3abd8cef505471712a1f209beee6da4cd187d6aaeecd2244", func := "chicane/chicanelaw20.PedalTurns", spec := "pedalTurns", inPlace := ["math/bits.Sub64", "math/bits.Add64"], unfollowed := true, recurses := true, named := ["math/bits.divideError", "math/bits.overflowError"], apart := false }
def PedalTurnsSaid : Prop := pedalTurnsRow.holds Try.pinned (OpenSpec.ofChange pedalTurnsSpec)

/-- ITS FALSE NEIGHBOUR: 'it returns false'. Refute it at one input. -/
def pedalTurnsWrong : ChangeSpec := { name := "pedalTurns", fn := fun _ => fun
  | [d1, d2, d3] => { results := [.lit (.bool false)], args := [d1, d2, d3] }
  | _ => none }
def PedalTurnsWrongFalsely : Prop := pedalTurnsRow.holds Try.pinned (OpenSpec.ofChange pedalTurnsWrong)

/-- 'chicanelaw20.PedalLess': WHATEVER THE INPUT: true; the input reads as it did. -/
def pedalLessSpec : ChangeSpec := { name := "pedalLess", fn := fun _ => fun
  | [d1, d2, d3] => { results := [.lit (.bool true)], args := [d1, d2, d3] }
  | _ => none }
def pedalLessRow : OpenClaim := { program := "ytgjglkogengmbaa", sum := "d663ae6ff23671fb3abd8cef505471712a1f209beee6da4cd187d6aaeecd2244", func := "chicane/chicanelaw20.PedalLess", spec := "pedalLess", inPlace := ["math/bits.Sub64", "math/bits.Add64"], unfollowed := true, recurses := true, named := ["math/bits.divideError", "math/bits.overflowError"], apart := false }
def PedalLessSaid : Prop := pedalLessRow.holds Try.pinned (OpenSpec.ofChange pedalLessSpec)

/-- ITS FALSE NEIGHBOUR: 'it returns false'. Refute it at one input. -/
def pedalLessWrong : ChangeSpec := { name := "pedalLess", fn := fun _ => fun
  | [d1, d2, d3] => { results := [.lit (.bool false)], args := [d1, d2, d3] }
  | _ => none }
def PedalLessWrongFalsely : Prop := pedalLessRow.holds Try.pinned (OpenSpec.ofChange pedalLessWrong)

/-- 'chicanelaw43.BoardOrder': WHATEVER THE INPUT: true; the input reads as it did. -/
def boardOrderSpec : ChangeSpec := { name := "boardOrder", fn := fun _ => fun
  | [d] => { results := [.lit (.bool true)], args := [d] }
  | _ => none }
def boardOrderRow : OpenClaim := { program := "ytgjglkogengmbaa", sum := "d663ae6ff23671fb3abd8cef505471712a1f209beee6da4cd187d6aaeecd2244", func := "chicane/chicanelaw43.BoardOrder", spec := "boardOrder", unfollowed := true, recurses := true, apart := false }
def BoardOrderSaid : Prop := boardOrderRow.holds Try.pinned (OpenSpec.ofChange boardOrderSpec)

/-- ITS FALSE NEIGHBOUR: 'it returns false'. Refute it at one input. -/
def boardOrderWrong : ChangeSpec := { name := "boardOrder", fn := fun _ => fun
  | [d] => { results := [.lit (.bool false)], args := [d] }
  | _ => none }
def BoardOrderWrongFalsely : Prop := boardOrderRow.holds Try.pinned (OpenSpec.ofChange boardOrderWrong)

/-- 'chicanelaw43.BoardIdeal': WHATEVER THE INPUT: true; the input reads as it did. -/
def boardIdealSpec : ChangeSpec := { name := "boardIdeal", fn := fun _ => fun
  | [d1, d2] => { results := [.lit (.bool true)], args := [d1, d2] }
  | _ => none }
def boardIdealRow : OpenClaim := { program := "ytgjglkogengmbaa", sum := "d663ae6ff23671fb3abd8cef505471712a1f209beee6da4cd187d6aaeecd2244", func := "chicane/chicanelaw43.BoardIdeal", spec := "boardIdeal", unfollowed := true, recurses := true, apart := false }
def BoardIdealSaid : Prop := boardIdealRow.holds Try.pinned (OpenSpec.ofChange boardIdealSpec)

/-- ITS FALSE NEIGHBOUR: 'it returns false'. Refute it at one input. -/
def boardIdealWrong : ChangeSpec := { name := "boardIdeal", fn := fun _ => fun
  | [d1, d2] => { results := [.lit (.bool false)], args := [d1, d2] }
  | _ => none }
def BoardIdealWrongFalsely : Prop := boardIdealRow.holds Try.pinned (OpenSpec.ofChange boardIdealWrong)

/- THE SECOND FORM. 'bulk': how many values and letters a reading holds, each counted each time it is reached (what is shared counts as often as it is met; a slice's spare places count too). A statement '..UptoSaid' is the law's where the arguments, and the package variables that the reading takes, are together of bulk at most 1048576: NARROWER than '..Said'. Prove '..Said' where nothing that the law and all that it calls make is longer than what came in: it says more and counts as full. Else prove '..UptoSaid'. A law counts once. -/
mutual
def uptoBulk {H : Type} : DataW H → Nat
  | .lit (.string bytes) => bytes.length + 1
  | .lit _ => 1
  | .nil => 1
  | .ptr d => uptoBulk d + 1
  | .slice elems spare => uptoBulkAll elems + uptoBulkAll spare + 1
  | .agg parts => uptoBulkAll parts + 1
  | .iface _ d => uptoBulk d + 1
  | .map entries => uptoBulkEntries entries + 1
  | .held _ => 1
def uptoBulkAll {H : Type} : List (DataW H) → Nat
  | [] => 0
  | d :: r => uptoBulk d + uptoBulkAll r
def uptoBulkEntries {H : Type} : List (Lit × DataW H) → Nat
  | [] => 0
  | x :: r => uptoBulkEntry x + uptoBulkEntries r
def uptoBulkEntry {H : Type} : Lit × DataW H → Nat
  | (.string bytes, d) => bytes.length + uptoBulk d + 1
  | (_, d) => uptoBulk d + 1
 end
def uptoSmall : (H : Type) → List (DataW H) → Bool := fun _ ds => decide (uptoBulkAll ds ≤ 1048576)
def OpenSpec.upto (s : _root_.Go.ChangeSpec) : _root_.Go.OpenSpec := { _root_.Go.OpenSpec.ofChange s with cond := some uptoSmall }

/-- 'chicanelaw20.PedalSteer', WHERE WHAT IT READS IS OF BULK AT MOST 1048576: true; the input reads as it did. -/
def pedalSteerUptoRow : OpenClaim := { program := "ytgjglkogengmbaa", sum := "d663ae6ff23671fb3abd8cef505471712a1f209beee6da4cd187d6aaeecd2244", func := "chicane/chicanelaw20.PedalSteer", spec := "pedalSteer", inPlace := ["math/bits.Sub64", "math/bits.Add64"], unfollowed := true, recurses := true, named := ["math/bits.divideError", "math/bits.overflowError"], apart := false, narrowed := true }
def PedalSteerUptoSaid : Prop := pedalSteerUptoRow.holds Try.pinned (OpenSpec.upto pedalSteerSpec)

/-- 'chicanelaw20.PedalTurns', WHERE WHAT IT READS IS OF BULK AT MOST 1048576: true; the input reads as it did. -/
def pedalTurnsUptoRow : OpenClaim := { program := "ytgjglkogengmbaa", sum := "d663ae6ff23671fb3abd8cef505471712a1f209beee6da4cd187d6aaeecd2244", func := "chicane/chicanelaw20.PedalTurns", spec := "pedalTurns", inPlace := ["math/bits.Sub64", "math/bits.Add64"], unfollowed := true, recurses := true, named := ["math/bits.divideError", "math/bits.overflowError"], apart := false, narrowed := true }
def PedalTurnsUptoSaid : Prop := pedalTurnsUptoRow.holds Try.pinned (OpenSpec.upto pedalTurnsSpec)

/-- 'chicanelaw20.PedalLess', WHERE WHAT IT READS IS OF BULK AT MOST 1048576: true; the input reads as it did. -/
def pedalLessUptoRow : OpenClaim := { program := "ytgjglkogengmbaa", sum := "d663ae6ff23671fb3abd8cef505471712a1f209beee6da4cd187d6aaeecd2244", func := "chicane/chicanelaw20.PedalLess", spec := "pedalLess", inPlace := ["math/bits.Sub64", "math/bits.Add64"], unfollowed := true, recurses := true, named := ["math/bits.divideError", "math/bits.overflowError"], apart := false, narrowed := true }
def PedalLessUptoSaid : Prop := pedalLessUptoRow.holds Try.pinned (OpenSpec.upto pedalLessSpec)

/-- 'chicanelaw43.BoardOrder', WHERE WHAT IT READS IS OF BULK AT MOST 1048576: true; the input reads as it did. -/
def boardOrderUptoRow : OpenClaim := { program := "ytgjglkogengmbaa", sum := "d663ae6ff23671fb3abd8cef505471712a1f209beee6da4cd187d6aaeecd2244", func := "chicane/chicanelaw43.BoardOrder", spec := "boardOrder", unfollowed := true, recurses := true, apart := false, narrowed := true }
def BoardOrderUptoSaid : Prop := boardOrderUptoRow.holds Try.pinned (OpenSpec.upto boardOrderSpec)

/-- 'chicanelaw43.BoardIdeal', WHERE WHAT IT READS IS OF BULK AT MOST 1048576: true; the input reads as it did. -/
def boardIdealUptoRow : OpenClaim := { program := "ytgjglkogengmbaa", sum := "d663ae6ff23671fb3abd8cef505471712a1f209beee6da4cd187d6aaeecd2244", func := "chicane/chicanelaw43.BoardIdeal", spec := "boardIdeal", unfollowed := true, recurses := true, apart := false, narrowed := true }
def BoardIdealUptoSaid : Prop := boardIdealUptoRow.holds Try.pinned (OpenSpec.upto boardIdealSpec)

end Rows
end Go.Proofs.Ytgjglkogengmbaa
