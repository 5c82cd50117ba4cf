/-
  No cell of these rows narrows 'for every input' (looked for: loops, veiled, ifaces, maps, wideKeys, modest, calm, conditions, laid).
  DERIVED. THE GIVEN ROWS OF THIS SEAT. 7 by the template 'for every input the law returns true; each argument reads behind the call as it read before'; 0 by the template 'total and deterministic' (their statements: YtdjjinfpfjoniaaTotals.lean).
  GIVEN WITH THE SEED: the statements are not yours to turn. If you find one false, say at which input.
  Laid BY PROGRAM, IN A SANDBOX (cutbox-rows.mjs): the forced cells as the released guide's own fill.sh prints them over the translation 0ec9996a39b4eb37… (all of the seat's roots in one cut). By AI agents, Wed Nov 11 2026. No macro, syntax, notation, axiom, sorry.
-/
import Derived.Test.YtdjjinfpfjoniaaChecked
import GoSem.Claim
import GoSem.ClaimJoined
import GoSem.ClaimMapViews
import Derived.JoinedTies
import Derived.KernelRfl
namespace Go.Proofs.Ytdjjinfpfjoniaa
/- THE CELL 'sum', in the pinned program and in every row, IS THE sha256 OF THE DUMP (.gsa) THAT YtdjjinfpfjoniaaProg.lean LOADS. Nothing in Lean hashes anything: it is a label: what it is worth is what the hold of that sum in a sandbox is worth. -/
noncomputable def Try.pinned : Pinned := { name := "ytdjjinfpfjoniaa", sum := "0ec9996a39b4eb376d709bf54a6202e1a574e422a3877093c605e4fbea033d87", checked := Try.checked }
namespace Rows
def none {H : Type} : Left H := { results := [], args := [] }

/-- 'chicanelaw30.GatePasses': WHATEVER THE INPUT: true; the input reads as it did. -/
def gatePassesSpec : ChangeSpec := { name := "gatePasses", fn := fun _ => fun
  | [d1, d2, d3] => { results := [.lit (.bool true)], args := [d1, d2, d3] }
  | _ => none }
def gatePassesRow : OpenClaim := { program := "ytdjjinfpfjoniaa", sum := "0ec9996a39b4eb376d709bf54a6202e1a574e422a3877093c605e4fbea033d87", func := "chicane/chicanelaw30.GatePasses", spec := "gatePasses", inPlace := ["math/bits.Sub64", "math/bits.Add64"], apart := false }
def GatePassesSaid : Prop := gatePassesRow.holds Try.pinned (OpenSpec.ofChange gatePassesSpec)

/-- ITS FALSE NEIGHBOUR: 'it returns false'. Refute it at one input. -/
def gatePassesWrong : ChangeSpec := { name := "gatePasses", fn := fun _ => fun
  | [d1, d2, d3] => { results := [.lit (.bool false)], args := [d1, d2, d3] }
  | _ => none }
def GatePassesWrongFalsely : Prop := gatePassesRow.holds Try.pinned (OpenSpec.ofChange gatePassesWrong)

/-- 'chicanelaw30.GateRow': WHATEVER THE INPUT: true; the input reads as it did. -/
def gateRowSpec : ChangeSpec := { name := "gateRow", fn := fun _ => fun
  | [d1, d2, d3] => { results := [.lit (.bool true)], args := [d1, d2, d3] }
  | _ => none }
def gateRowRow : OpenClaim := { program := "ytdjjinfpfjoniaa", sum := "0ec9996a39b4eb376d709bf54a6202e1a574e422a3877093c605e4fbea033d87", func := "chicane/chicanelaw30.GateRow", spec := "gateRow", inPlace := ["math/bits.Sub64", "math/bits.Add64"], apart := false }
def GateRowSaid : Prop := gateRowRow.holds Try.pinned (OpenSpec.ofChange gateRowSpec)

/-- ITS FALSE NEIGHBOUR: 'it returns false'. Refute it at one input. -/
def gateRowWrong : ChangeSpec := { name := "gateRow", fn := fun _ => fun
  | [d1, d2, d3] => { results := [.lit (.bool false)], args := [d1, d2, d3] }
  | _ => none }
def GateRowWrongFalsely : Prop := gateRowRow.holds Try.pinned (OpenSpec.ofChange gateRowWrong)

/-- 'chicanelaw30.GateOnce': WHATEVER THE INPUT: true; the input reads as it did. -/
def gateOnceSpec : ChangeSpec := { name := "gateOnce", fn := fun _ => fun
  | [d1, d2] => { results := [.lit (.bool true)], args := [d1, d2] }
  | _ => none }
def gateOnceRow : OpenClaim := { program := "ytdjjinfpfjoniaa", sum := "0ec9996a39b4eb376d709bf54a6202e1a574e422a3877093c605e4fbea033d87", func := "chicane/chicanelaw30.GateOnce", spec := "gateOnce", inPlace := ["math/bits.Sub64", "math/bits.Add64"], apart := false }
def GateOnceSaid : Prop := gateOnceRow.holds Try.pinned (OpenSpec.ofChange gateOnceSpec)

/-- ITS FALSE NEIGHBOUR: 'it returns false'. Refute it at one input. -/
def gateOnceWrong : ChangeSpec := { name := "gateOnce", fn := fun _ => fun
  | [d1, d2] => { results := [.lit (.bool false)], args := [d1, d2] }
  | _ => none }
def GateOnceWrongFalsely : Prop := gateOnceRow.holds Try.pinned (OpenSpec.ofChange gateOnceWrong)

/-- 'chicanelaw30.GateNext': WHATEVER THE INPUT: true; the input reads as it did. -/
def gateNextSpec : ChangeSpec := { name := "gateNext", fn := fun _ => fun
  | [d1, d2, d3] => { results := [.lit (.bool true)], args := [d1, d2, d3] }
  | _ => none }
def gateNextRow : OpenClaim := { program := "ytdjjinfpfjoniaa", sum := "0ec9996a39b4eb376d709bf54a6202e1a574e422a3877093c605e4fbea033d87", func := "chicane/chicanelaw30.GateNext", spec := "gateNext", inPlace := ["math/bits.Sub64", "math/bits.Add64"], apart := false }
def GateNextSaid : Prop := gateNextRow.holds Try.pinned (OpenSpec.ofChange gateNextSpec)

/-- ITS FALSE NEIGHBOUR: 'it returns false'. Refute it at one input. -/
def gateNextWrong : ChangeSpec := { name := "gateNext", fn := fun _ => fun
  | [d1, d2, d3] => { results := [.lit (.bool false)], args := [d1, d2, d3] }
  | _ => none }
def GateNextWrongFalsely : Prop := gateNextRow.holds Try.pinned (OpenSpec.ofChange gateNextWrong)

/-- 'chicanelaw31.ClockClean': WHATEVER THE INPUT: true; the input reads as it did. -/
def clockCleanSpec : ChangeSpec := { name := "clockClean", fn := fun _ => fun
  | [d1, d2, d3] => { results := [.lit (.bool true)], args := [d1, d2, d3] }
  | _ => none }
def clockCleanRow : OpenClaim := { program := "ytdjjinfpfjoniaa", sum := "0ec9996a39b4eb376d709bf54a6202e1a574e422a3877093c605e4fbea033d87", func := "chicane/chicanelaw31.ClockClean", spec := "clockClean", inPlace := ["math/bits.Sub64", "math/bits.Add64"], unfollowed := true, recurses := true, apart := false }
def ClockCleanSaid : Prop := clockCleanRow.holds Try.pinned (OpenSpec.ofChange clockCleanSpec)

/-- ITS FALSE NEIGHBOUR: 'it returns false'. Refute it at one input. -/
def clockCleanWrong : ChangeSpec := { name := "clockClean", fn := fun _ => fun
  | [d1, d2, d3] => { results := [.lit (.bool false)], args := [d1, d2, d3] }
  | _ => none }
def ClockCleanWrongFalsely : Prop := clockCleanRow.holds Try.pinned (OpenSpec.ofChange clockCleanWrong)

/-- 'chicanelaw31.ClockSums': WHATEVER THE INPUT: true; the input reads as it did. -/
def clockSumsSpec : ChangeSpec := { name := "clockSums", fn := fun _ => fun
  | [d1, d2] => { results := [.lit (.bool true)], args := [d1, d2] }
  | _ => none }
def clockSumsRow : OpenClaim := { program := "ytdjjinfpfjoniaa", sum := "0ec9996a39b4eb376d709bf54a6202e1a574e422a3877093c605e4fbea033d87", func := "chicane/chicanelaw31.ClockSums", spec := "clockSums", inPlace := ["math/bits.Sub64", "math/bits.Add64"], unfollowed := true, recurses := true, apart := false }
def ClockSumsSaid : Prop := clockSumsRow.holds Try.pinned (OpenSpec.ofChange clockSumsSpec)

/-- ITS FALSE NEIGHBOUR: 'it returns false'. Refute it at one input. -/
def clockSumsWrong : ChangeSpec := { name := "clockSums", fn := fun _ => fun
  | [d1, d2] => { results := [.lit (.bool false)], args := [d1, d2] }
  | _ => none }
def ClockSumsWrongFalsely : Prop := clockSumsRow.holds Try.pinned (OpenSpec.ofChange clockSumsWrong)

/-- 'chicanelaw31.ClockOrder': WHATEVER THE INPUT: true; the input reads as it did. -/
def clockOrderSpec : ChangeSpec := { name := "clockOrder", fn := fun _ => fun
  | [d1, d2] => { results := [.lit (.bool true)], args := [d1, d2] }
  | _ => none }
def clockOrderRow : OpenClaim := { program := "ytdjjinfpfjoniaa", sum := "0ec9996a39b4eb376d709bf54a6202e1a574e422a3877093c605e4fbea033d87", func := "chicane/chicanelaw31.ClockOrder", spec := "clockOrder", inPlace := ["math/bits.Sub64", "math/bits.Add64"], unfollowed := true, recurses := true, apart := false }
def ClockOrderSaid : Prop := clockOrderRow.holds Try.pinned (OpenSpec.ofChange clockOrderSpec)

/-- ITS FALSE NEIGHBOUR: 'it returns false'. Refute it at one input. -/
def clockOrderWrong : ChangeSpec := { name := "clockOrder", fn := fun _ => fun
  | [d1, d2] => { results := [.lit (.bool false)], args := [d1, d2] }
  | _ => none }
def ClockOrderWrongFalsely : Prop := clockOrderRow.holds Try.pinned (OpenSpec.ofChange clockOrderWrong)

/- THE SECOND FORM. 'bulk': how many values and letters a reading holds, each counted each time it is reached (what is shared counts as often as it is met; a slice's spare places count too). A statement '..UptoSaid' is the law's where the arguments, and the package variables that the reading takes, are together of bulk at most 1048576: NARROWER than '..Said'. Prove '..Said' where nothing that the law and all that it calls make is longer than what came in: it says more and counts as full. Else prove '..UptoSaid'. A law counts once. -/
mutual
def uptoBulk {H : Type} : DataW H → Nat
  | .lit (.string bytes) => bytes.length + 1
  | .lit _ => 1
  | .nil => 1
  | .ptr d => uptoBulk d + 1
  | .slice elems spare => uptoBulkAll elems + uptoBulkAll spare + 1
  | .agg parts => uptoBulkAll parts + 1
  | .iface _ d => uptoBulk d + 1
  | .map entries => uptoBulkEntries entries + 1
  | .held _ => 1
def uptoBulkAll {H : Type} : List (DataW H) → Nat
  | [] => 0
  | d :: r => uptoBulk d + uptoBulkAll r
def uptoBulkEntries {H : Type} : List (Lit × DataW H) → Nat
  | [] => 0
  | x :: r => uptoBulkEntry x + uptoBulkEntries r
def uptoBulkEntry {H : Type} : Lit × DataW H → Nat
  | (.string bytes, d) => bytes.length + uptoBulk d + 1
  | (_, d) => uptoBulk d + 1
 end
def uptoSmall : (H : Type) → List (DataW H) → Bool := fun _ ds => decide (uptoBulkAll ds ≤ 1048576)
def OpenSpec.upto (s : _root_.Go.ChangeSpec) : _root_.Go.OpenSpec := { _root_.Go.OpenSpec.ofChange s with cond := some uptoSmall }

/-- 'chicanelaw30.GatePasses', WHERE WHAT IT READS IS OF BULK AT MOST 1048576: true; the input reads as it did. -/
def gatePassesUptoRow : OpenClaim := { program := "ytdjjinfpfjoniaa", sum := "0ec9996a39b4eb376d709bf54a6202e1a574e422a3877093c605e4fbea033d87", func := "chicane/chicanelaw30.GatePasses", spec := "gatePasses", inPlace := ["math/bits.Sub64", "math/bits.Add64"], apart := false, narrowed := true }
def GatePassesUptoSaid : Prop := gatePassesUptoRow.holds Try.pinned (OpenSpec.upto gatePassesSpec)

/-- 'chicanelaw30.GateRow', WHERE WHAT IT READS IS OF BULK AT MOST 1048576: true; the input reads as it did. -/
def gateRowUptoRow : OpenClaim := { program := "ytdjjinfpfjoniaa", sum := "0ec9996a39b4eb376d709bf54a6202e1a574e422a3877093c605e4fbea033d87", func := "chicane/chicanelaw30.GateRow", spec := "gateRow", inPlace := ["math/bits.Sub64", "math/bits.Add64"], apart := false, narrowed := true }
def GateRowUptoSaid : Prop := gateRowUptoRow.holds Try.pinned (OpenSpec.upto gateRowSpec)

/-- 'chicanelaw30.GateOnce', WHERE WHAT IT READS IS OF BULK AT MOST 1048576: true; the input reads as it did. -/
def gateOnceUptoRow : OpenClaim := { program := "ytdjjinfpfjoniaa", sum := "0ec9996a39b4eb376d709bf54a6202e1a574e422a3877093c605e4fbea033d87", func := "chicane/chicanelaw30.GateOnce", spec := "gateOnce", inPlace := ["math/bits.Sub64", "math/bits.Add64"], apart := false, narrowed := true }
def GateOnceUptoSaid : Prop := gateOnceUptoRow.holds Try.pinned (OpenSpec.upto gateOnceSpec)

/-- 'chicanelaw30.GateNext', WHERE WHAT IT READS IS OF BULK AT MOST 1048576: true; the input reads as it did. -/
def gateNextUptoRow : OpenClaim := { program := "ytdjjinfpfjoniaa", sum := "0ec9996a39b4eb376d709bf54a6202e1a574e422a3877093c605e4fbea033d87", func := "chicane/chicanelaw30.GateNext", spec := "gateNext", inPlace := ["math/bits.Sub64", "math/bits.Add64"], apart := false, narrowed := true }
def GateNextUptoSaid : Prop := gateNextUptoRow.holds Try.pinned (OpenSpec.upto gateNextSpec)

/-- 'chicanelaw31.ClockClean', WHERE WHAT IT READS IS OF BULK AT MOST 1048576: true; the input reads as it did. -/
def clockCleanUptoRow : OpenClaim := { program := "ytdjjinfpfjoniaa", sum := "0ec9996a39b4eb376d709bf54a6202e1a574e422a3877093c605e4fbea033d87", func := "chicane/chicanelaw31.ClockClean", spec := "clockClean", inPlace := ["math/bits.Sub64", "math/bits.Add64"], unfollowed := true, recurses := true, apart := false, narrowed := true }
def ClockCleanUptoSaid : Prop := clockCleanUptoRow.holds Try.pinned (OpenSpec.upto clockCleanSpec)

/-- 'chicanelaw31.ClockSums', WHERE WHAT IT READS IS OF BULK AT MOST 1048576: true; the input reads as it did. -/
def clockSumsUptoRow : OpenClaim := { program := "ytdjjinfpfjoniaa", sum := "0ec9996a39b4eb376d709bf54a6202e1a574e422a3877093c605e4fbea033d87", func := "chicane/chicanelaw31.ClockSums", spec := "clockSums", inPlace := ["math/bits.Sub64", "math/bits.Add64"], unfollowed := true, recurses := true, apart := false, narrowed := true }
def ClockSumsUptoSaid : Prop := clockSumsUptoRow.holds Try.pinned (OpenSpec.upto clockSumsSpec)

/-- 'chicanelaw31.ClockOrder', WHERE WHAT IT READS IS OF BULK AT MOST 1048576: true; the input reads as it did. -/
def clockOrderUptoRow : OpenClaim := { program := "ytdjjinfpfjoniaa", sum := "0ec9996a39b4eb376d709bf54a6202e1a574e422a3877093c605e4fbea033d87", func := "chicane/chicanelaw31.ClockOrder", spec := "clockOrder", inPlace := ["math/bits.Sub64", "math/bits.Add64"], unfollowed := true, recurses := true, apart := false, narrowed := true }
def ClockOrderUptoSaid : Prop := clockOrderUptoRow.holds Try.pinned (OpenSpec.upto clockOrderSpec)

end Rows
end Go.Proofs.Ytdjjinfpfjoniaa
