/-
  No cell of these rows narrows 'for every input' (looked for: loops, veiled, ifaces, maps, wideKeys, modest, calm, conditions, laid).
  DERIVED. THE GIVEN ROWS OF THIS SEAT. 5 by the template 'for every input the law returns true; each argument reads behind the call as it read before'; 0 by the template 'total and deterministic' (their statements: YtggfniipidepdaaTotals.lean).
  GIVEN WITH THE SEED: the statements are not yours to turn. If you find one false, say at which input.
  Laid BY PROGRAM, IN A SANDBOX (cutbox-rows.mjs): the forced cells as the released guide's own fill.sh prints them over the translation 9faf82dbebfe4833… (all of the seat's roots in one cut). By AI agents, Wed Nov 11 2026. No macro, syntax, notation, axiom, sorry.
-/
import Derived.Test.YtggfniipidepdaaChecked
import GoSem.Claim
import GoSem.ClaimJoined
import GoSem.ClaimMapViews
import Derived.JoinedTies
import Derived.KernelRfl
namespace Go.Proofs.Ytggfniipidepdaa
/- THE CELL 'sum', in the pinned program and in every row, IS THE sha256 OF THE DUMP (.gsa) THAT YtggfniipidepdaaProg.lean LOADS. Nothing in Lean hashes anything: it is a label: what it is worth is what the hold of that sum in a sandbox is worth. -/
noncomputable def Try.pinned : Pinned := { name := "ytggfniipidepdaa", sum := "9faf82dbebfe48339081c950553059f7f1a55b8f5be09a8aa9dbffa5be7de038", checked := Try.checked }
namespace Rows
def none {H : Type} : Left H := { results := [], args := [] }

/-- 'chicanelaw19.ControlEncode': WHATEVER THE INPUT: true; the input reads as it did. -/
def controlEncodeSpec : ChangeSpec := { name := "controlEncode", fn := fun _ => fun
  | [d] => { results := [.lit (.bool true)], args := [d] }
  | _ => none }
def controlEncodeRow : OpenClaim := { program := "ytggfniipidepdaa", sum := "9faf82dbebfe48339081c950553059f7f1a55b8f5be09a8aa9dbffa5be7de038", func := "chicane/chicanelaw19.ControlEncode", spec := "controlEncode", inPlace := ["math/bits.Sub64"], named := ["math/bits.divideError", "math/bits.overflowError"], apart := false }
def ControlEncodeSaid : Prop := controlEncodeRow.holds Try.pinned (OpenSpec.ofChange controlEncodeSpec)

/-- ITS FALSE NEIGHBOUR: 'it returns false'. Refute it at one input. -/
def controlEncodeWrong : ChangeSpec := { name := "controlEncode", fn := fun _ => fun
  | [d] => { results := [.lit (.bool false)], args := [d] }
  | _ => none }
def ControlEncodeWrongFalsely : Prop := controlEncodeRow.holds Try.pinned (OpenSpec.ofChange controlEncodeWrong)

/-- 'chicanelaw19.ControlDecode': WHATEVER THE INPUT: true; the input reads as it did. -/
def controlDecodeSpec : ChangeSpec := { name := "controlDecode", fn := fun _ => fun
  | [d] => { results := [.lit (.bool true)], args := [d] }
  | _ => none }
def controlDecodeRow : OpenClaim := { program := "ytggfniipidepdaa", sum := "9faf82dbebfe48339081c950553059f7f1a55b8f5be09a8aa9dbffa5be7de038", func := "chicane/chicanelaw19.ControlDecode", spec := "controlDecode", inPlace := ["math/bits.Sub64"], named := ["math/bits.divideError", "math/bits.overflowError"], apart := false }
def ControlDecodeSaid : Prop := controlDecodeRow.holds Try.pinned (OpenSpec.ofChange controlDecodeSpec)

/-- ITS FALSE NEIGHBOUR: 'it returns false'. Refute it at one input. -/
def controlDecodeWrong : ChangeSpec := { name := "controlDecode", fn := fun _ => fun
  | [d] => { results := [.lit (.bool false)], args := [d] }
  | _ => none }
def ControlDecodeWrongFalsely : Prop := controlDecodeRow.holds Try.pinned (OpenSpec.ofChange controlDecodeWrong)

/-- 'chicanelaw19.ControlParts': WHATEVER THE INPUT: true; the input reads as it did. -/
def controlPartsSpec : ChangeSpec := { name := "controlParts", fn := fun _ => fun
  | [d] => { results := [.lit (.bool true)], args := [d] }
  | _ => none }
def controlPartsRow : OpenClaim := { program := "ytggfniipidepdaa", sum := "9faf82dbebfe48339081c950553059f7f1a55b8f5be09a8aa9dbffa5be7de038", func := "chicane/chicanelaw19.ControlParts", spec := "controlParts", inPlace := ["math/bits.Sub64"], named := ["math/bits.divideError", "math/bits.overflowError"], apart := false }
def ControlPartsSaid : Prop := controlPartsRow.holds Try.pinned (OpenSpec.ofChange controlPartsSpec)

/-- ITS FALSE NEIGHBOUR: 'it returns false'. Refute it at one input. -/
def controlPartsWrong : ChangeSpec := { name := "controlParts", fn := fun _ => fun
  | [d] => { results := [.lit (.bool false)], args := [d] }
  | _ => none }
def ControlPartsWrongFalsely : Prop := controlPartsRow.holds Try.pinned (OpenSpec.ofChange controlPartsWrong)

/-- 'chicanelaw19.ControlBack': WHATEVER THE INPUT: true; the input reads as it did. -/
def controlBackSpec : ChangeSpec := { name := "controlBack", fn := fun _ => fun
  | [d] => { results := [.lit (.bool true)], args := [d] }
  | _ => none }
def controlBackRow : OpenClaim := { program := "ytggfniipidepdaa", sum := "9faf82dbebfe48339081c950553059f7f1a55b8f5be09a8aa9dbffa5be7de038", func := "chicane/chicanelaw19.ControlBack", spec := "controlBack", inPlace := ["math/bits.Sub64"], named := ["math/bits.divideError", "math/bits.overflowError"], apart := false }
def ControlBackSaid : Prop := controlBackRow.holds Try.pinned (OpenSpec.ofChange controlBackSpec)

/-- ITS FALSE NEIGHBOUR: 'it returns false'. Refute it at one input. -/
def controlBackWrong : ChangeSpec := { name := "controlBack", fn := fun _ => fun
  | [d] => { results := [.lit (.bool false)], args := [d] }
  | _ => none }
def ControlBackWrongFalsely : Prop := controlBackRow.holds Try.pinned (OpenSpec.ofChange controlBackWrong)

/-- 'chicanelaw19.ControlOne': WHATEVER THE INPUT: true; the input reads as it did. -/
def controlOneSpec : ChangeSpec := { name := "controlOne", fn := fun _ => fun
  | [d] => { results := [.lit (.bool true)], args := [d] }
  | _ => none }
def controlOneRow : OpenClaim := { program := "ytggfniipidepdaa", sum := "9faf82dbebfe48339081c950553059f7f1a55b8f5be09a8aa9dbffa5be7de038", func := "chicane/chicanelaw19.ControlOne", spec := "controlOne", inPlace := ["math/bits.Sub64"], named := ["math/bits.divideError", "math/bits.overflowError"], apart := false }
def ControlOneSaid : Prop := controlOneRow.holds Try.pinned (OpenSpec.ofChange controlOneSpec)

/-- ITS FALSE NEIGHBOUR: 'it returns false'. Refute it at one input. -/
def controlOneWrong : ChangeSpec := { name := "controlOne", fn := fun _ => fun
  | [d] => { results := [.lit (.bool false)], args := [d] }
  | _ => none }
def ControlOneWrongFalsely : Prop := controlOneRow.holds Try.pinned (OpenSpec.ofChange controlOneWrong)

/- THE SECOND FORM. 'bulk': how many values and letters a reading holds, each counted each time it is reached (what is shared counts as often as it is met; a slice's spare places count too). A statement '..UptoSaid' is the law's where the arguments, and the package variables that the reading takes, are together of bulk at most 1048576: NARROWER than '..Said'. Prove '..Said' where nothing that the law and all that it calls make is longer than what came in: it says more and counts as full. Else prove '..UptoSaid'. A law counts once. -/
mutual
def uptoBulk {H : Type} : DataW H → Nat
  | .lit (.string bytes) => bytes.length + 1
  | .lit _ => 1
  | .nil => 1
  | .ptr d => uptoBulk d + 1
  | .slice elems spare => uptoBulkAll elems + uptoBulkAll spare + 1
  | .agg parts => uptoBulkAll parts + 1
  | .iface _ d => uptoBulk d + 1
  | .map entries => uptoBulkEntries entries + 1
  | .held _ => 1
def uptoBulkAll {H : Type} : List (DataW H) → Nat
  | [] => 0
  | d :: r => uptoBulk d + uptoBulkAll r
def uptoBulkEntries {H : Type} : List (Lit × DataW H) → Nat
  | [] => 0
  | x :: r => uptoBulkEntry x + uptoBulkEntries r
def uptoBulkEntry {H : Type} : Lit × DataW H → Nat
  | (.string bytes, d) => bytes.length + uptoBulk d + 1
  | (_, d) => uptoBulk d + 1
 end
def uptoSmall : (H : Type) → List (DataW H) → Bool := fun _ ds => decide (uptoBulkAll ds ≤ 1048576)
def OpenSpec.upto (s : _root_.Go.ChangeSpec) : _root_.Go.OpenSpec := { _root_.Go.OpenSpec.ofChange s with cond := some uptoSmall }

/-- 'chicanelaw19.ControlEncode', WHERE WHAT IT READS IS OF BULK AT MOST 1048576: true; the input reads as it did. -/
def controlEncodeUptoRow : OpenClaim := { program := "ytggfniipidepdaa", sum := "9faf82dbebfe48339081c950553059f7f1a55b8f5be09a8aa9dbffa5be7de038", func := "chicane/chicanelaw19.ControlEncode", spec := "controlEncode", inPlace := ["math/bits.Sub64"], named := ["math/bits.divideError", "math/bits.overflowError"], apart := false, narrowed := true }
def ControlEncodeUptoSaid : Prop := controlEncodeUptoRow.holds Try.pinned (OpenSpec.upto controlEncodeSpec)

/-- 'chicanelaw19.ControlDecode', WHERE WHAT IT READS IS OF BULK AT MOST 1048576: true; the input reads as it did. -/
def controlDecodeUptoRow : OpenClaim := { program := "ytggfniipidepdaa", sum := "9faf82dbebfe48339081c950553059f7f1a55b8f5be09a8aa9dbffa5be7de038", func := "chicane/chicanelaw19.ControlDecode", spec := "controlDecode", inPlace := ["math/bits.Sub64"], named := ["math/bits.divideError", "math/bits.overflowError"], apart := false, narrowed := true }
def ControlDecodeUptoSaid : Prop := controlDecodeUptoRow.holds Try.pinned (OpenSpec.upto controlDecodeSpec)

/-- 'chicanelaw19.ControlParts', WHERE WHAT IT READS IS OF BULK AT MOST 1048576: true; the input reads as it did. -/
def controlPartsUptoRow : OpenClaim := { program := "ytggfniipidepdaa", sum := "9faf82dbebfe48339081c950553059f7f1a55b8f5be09a8aa9dbffa5be7de038", func := "chicane/chicanelaw19.ControlParts", spec := "controlParts", inPlace := ["math/bits.Sub64"], named := ["math/bits.divideError", "math/bits.overflowError"], apart := false, narrowed := true }
def ControlPartsUptoSaid : Prop := controlPartsUptoRow.holds Try.pinned (OpenSpec.upto controlPartsSpec)

/-- 'chicanelaw19.ControlBack', WHERE WHAT IT READS IS OF BULK AT MOST 1048576: true; the input reads as it did. -/
def controlBackUptoRow : OpenClaim := { program := "ytggfniipidepdaa", sum := "9faf82dbebfe48339081c950553059f7f1a55b8f5be09a8aa9dbffa5be7de038", func := "chicane/chicanelaw19.ControlBack", spec := "controlBack", inPlace := ["math/bits.Sub64"], named := ["math/bits.divideError", "math/bits.overflowError"], apart := false, narrowed := true }
def ControlBackUptoSaid : Prop := controlBackUptoRow.holds Try.pinned (OpenSpec.upto controlBackSpec)

/-- 'chicanelaw19.ControlOne', WHERE WHAT IT READS IS OF BULK AT MOST 1048576: true; the input reads as it did. -/
def controlOneUptoRow : OpenClaim := { program := "ytggfniipidepdaa", sum := "9faf82dbebfe48339081c950553059f7f1a55b8f5be09a8aa9dbffa5be7de038", func := "chicane/chicanelaw19.ControlOne", spec := "controlOne", inPlace := ["math/bits.Sub64"], named := ["math/bits.divideError", "math/bits.overflowError"], apart := false, narrowed := true }
def ControlOneUptoSaid : Prop := controlOneUptoRow.holds Try.pinned (OpenSpec.upto controlOneSpec)

end Rows
end Go.Proofs.Ytggfniipidepdaa
