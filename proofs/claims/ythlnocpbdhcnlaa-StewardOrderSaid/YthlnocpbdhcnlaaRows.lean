/-
  No cell of these rows narrows 'for every input' (looked for: loops, veiled, ifaces, maps, wideKeys, modest, calm, conditions, laid).
  DERIVED. THE GIVEN ROWS OF THIS SEAT. 7 by the template 'for every input the law returns true; each argument reads behind the call as it read before'; 0 by the template 'total and deterministic' (their statements: YthlnocpbdhcnlaaTotals.lean).
  GIVEN WITH THE SEED: the statements are not yours to turn. If you find one false, say at which input.
  Laid BY PROGRAM, IN A SANDBOX (cutbox-rows.mjs): the forced cells as the released guide's own fill.sh prints them over the translation 2994f82d63dd62e3… (all of the seat's roots in one cut). By AI agents, Wed Nov 11 2026. No macro, syntax, notation, axiom, sorry.
-/
import Derived.Test.YthlnocpbdhcnlaaChecked
import GoSem.Claim
import GoSem.ClaimJoined
import GoSem.ClaimMapViews
import Derived.JoinedTies
import Derived.KernelRfl
namespace Go.Proofs.Ythlnocpbdhcnlaa
/- THE CELL 'sum', in the pinned program and in every row, IS THE sha256 OF THE DUMP (.gsa) THAT YthlnocpbdhcnlaaProg.lean LOADS. Nothing in Lean hashes anything: it is a label: what it is worth is what the hold of that sum in a sandbox is worth. -/
noncomputable def Try.pinned : Pinned := { name := "ythlnocpbdhcnlaa", sum := "2994f82d63dd62e32f6e37bfe062ec91878c4c5c22d74433924a8298e667c958", checked := Try.checked }
namespace Rows
def none {H : Type} : Left H := { results := [], args := [] }

/-- 'chicanelaw44.StewardJudges': WHATEVER THE INPUT: true; the input reads as it did. -/
def stewardJudgesSpec : ChangeSpec := { name := "stewardJudges", fn := fun _ => fun
  | [d1, d2] => { results := [.lit (.bool true)], args := [d1, d2] }
  | _ => none }
def stewardJudgesRow : OpenClaim := { program := "ythlnocpbdhcnlaa", sum := "2994f82d63dd62e32f6e37bfe062ec91878c4c5c22d74433924a8298e667c958", func := "chicane/chicanelaw44.StewardJudges", spec := "stewardJudges", unfollowed := true, recurses := true, apart := false }
def StewardJudgesSaid : Prop := stewardJudgesRow.holds Try.pinned (OpenSpec.ofChange stewardJudgesSpec)

/-- ITS FALSE NEIGHBOUR: 'it returns false'. Refute it at one input. -/
def stewardJudgesWrong : ChangeSpec := { name := "stewardJudges", fn := fun _ => fun
  | [d1, d2] => { results := [.lit (.bool false)], args := [d1, d2] }
  | _ => none }
def StewardJudgesWrongFalsely : Prop := stewardJudgesRow.holds Try.pinned (OpenSpec.ofChange stewardJudgesWrong)

/-- 'chicanelaw44.StewardMore': WHATEVER THE INPUT: true; the input reads as it did. -/
def stewardMoreSpec : ChangeSpec := { name := "stewardMore", fn := fun _ => fun
  | [d1, d2, d3] => { results := [.lit (.bool true)], args := [d1, d2, d3] }
  | _ => none }
def stewardMoreRow : OpenClaim := { program := "ythlnocpbdhcnlaa", sum := "2994f82d63dd62e32f6e37bfe062ec91878c4c5c22d74433924a8298e667c958", func := "chicane/chicanelaw44.StewardMore", spec := "stewardMore", unfollowed := true, recurses := true, apart := false }
def StewardMoreSaid : Prop := stewardMoreRow.holds Try.pinned (OpenSpec.ofChange stewardMoreSpec)

/-- ITS FALSE NEIGHBOUR: 'it returns false'. Refute it at one input. -/
def stewardMoreWrong : ChangeSpec := { name := "stewardMore", fn := fun _ => fun
  | [d1, d2, d3] => { results := [.lit (.bool false)], args := [d1, d2, d3] }
  | _ => none }
def StewardMoreWrongFalsely : Prop := stewardMoreRow.holds Try.pinned (OpenSpec.ofChange stewardMoreWrong)

/-- 'chicanelaw47.PlanTimes': WHATEVER THE INPUT: true; the input reads as it did. -/
def planTimesSpec : ChangeSpec := { name := "planTimes", fn := fun _ => fun
  | [d1, d2] => { results := [.lit (.bool true)], args := [d1, d2] }
  | _ => none }
def planTimesRow : OpenClaim := { program := "ythlnocpbdhcnlaa", sum := "2994f82d63dd62e32f6e37bfe062ec91878c4c5c22d74433924a8298e667c958", func := "chicane/chicanelaw47.PlanTimes", spec := "planTimes", unfollowed := true, recurses := true, apart := false }
def PlanTimesSaid : Prop := planTimesRow.holds Try.pinned (OpenSpec.ofChange planTimesSpec)

/-- ITS FALSE NEIGHBOUR: 'it returns false'. Refute it at one input. -/
def planTimesWrong : ChangeSpec := { name := "planTimes", fn := fun _ => fun
  | [d1, d2] => { results := [.lit (.bool false)], args := [d1, d2] }
  | _ => none }
def PlanTimesWrongFalsely : Prop := planTimesRow.holds Try.pinned (OpenSpec.ofChange planTimesWrong)

/-- 'chicanelaw47.PlanBest': WHATEVER THE INPUT: true; the input reads as it did. -/
def planBestSpec : ChangeSpec := { name := "planBest", fn := fun _ => fun
  | [d] => { results := [.lit (.bool true)], args := [d] }
  | _ => none }
def planBestRow : OpenClaim := { program := "ythlnocpbdhcnlaa", sum := "2994f82d63dd62e32f6e37bfe062ec91878c4c5c22d74433924a8298e667c958", func := "chicane/chicanelaw47.PlanBest", spec := "planBest", unfollowed := true, recurses := true, apart := false }
def PlanBestSaid : Prop := planBestRow.holds Try.pinned (OpenSpec.ofChange planBestSpec)

/-- ITS FALSE NEIGHBOUR: 'it returns false'. Refute it at one input. -/
def planBestWrong : ChangeSpec := { name := "planBest", fn := fun _ => fun
  | [d] => { results := [.lit (.bool false)], args := [d] }
  | _ => none }
def PlanBestWrongFalsely : Prop := planBestRow.holds Try.pinned (OpenSpec.ofChange planBestWrong)

/-- 'chicanelaw47.PlanLeast': WHATEVER THE INPUT: true; the input reads as it did. -/
def planLeastSpec : ChangeSpec := { name := "planLeast", fn := fun _ => fun
  | [d1, d2] => { results := [.lit (.bool true)], args := [d1, d2] }
  | _ => none }
def planLeastRow : OpenClaim := { program := "ythlnocpbdhcnlaa", sum := "2994f82d63dd62e32f6e37bfe062ec91878c4c5c22d74433924a8298e667c958", func := "chicane/chicanelaw47.PlanLeast", spec := "planLeast", unfollowed := true, recurses := true, apart := false }
def PlanLeastSaid : Prop := planLeastRow.holds Try.pinned (OpenSpec.ofChange planLeastSpec)

/-- ITS FALSE NEIGHBOUR: 'it returns false'. Refute it at one input. -/
def planLeastWrong : ChangeSpec := { name := "planLeast", fn := fun _ => fun
  | [d1, d2] => { results := [.lit (.bool false)], args := [d1, d2] }
  | _ => none }
def PlanLeastWrongFalsely : Prop := planLeastRow.holds Try.pinned (OpenSpec.ofChange planLeastWrong)

/-- 'chicanelaw47.PlanMore': WHATEVER THE INPUT: true; the input reads as it did. -/
def planMoreSpec : ChangeSpec := { name := "planMore", fn := fun _ => fun
  | [d1, d2, d3] => { results := [.lit (.bool true)], args := [d1, d2, d3] }
  | _ => none }
def planMoreRow : OpenClaim := { program := "ythlnocpbdhcnlaa", sum := "2994f82d63dd62e32f6e37bfe062ec91878c4c5c22d74433924a8298e667c958", func := "chicane/chicanelaw47.PlanMore", spec := "planMore", unfollowed := true, recurses := true, apart := false }
def PlanMoreSaid : Prop := planMoreRow.holds Try.pinned (OpenSpec.ofChange planMoreSpec)

/-- ITS FALSE NEIGHBOUR: 'it returns false'. Refute it at one input. -/
def planMoreWrong : ChangeSpec := { name := "planMore", fn := fun _ => fun
  | [d1, d2, d3] => { results := [.lit (.bool false)], args := [d1, d2, d3] }
  | _ => none }
def PlanMoreWrongFalsely : Prop := planMoreRow.holds Try.pinned (OpenSpec.ofChange planMoreWrong)

/-- 'chicanelaw44.StewardOrder': WHATEVER THE INPUT: true; the input reads as it did. -/
def stewardOrderSpec : ChangeSpec := { name := "stewardOrder", fn := fun _ => fun
  | [d1, d2] => { results := [.lit (.bool true)], args := [d1, d2] }
  | _ => none }
def stewardOrderRow : OpenClaim := { program := "ythlnocpbdhcnlaa", sum := "2994f82d63dd62e32f6e37bfe062ec91878c4c5c22d74433924a8298e667c958", func := "chicane/chicanelaw44.StewardOrder", spec := "stewardOrder", unfollowed := true, recurses := true, apart := false }
def StewardOrderSaid : Prop := stewardOrderRow.holds Try.pinned (OpenSpec.ofChange stewardOrderSpec)

/-- ITS FALSE NEIGHBOUR: 'it returns false'. Refute it at one input. -/
def stewardOrderWrong : ChangeSpec := { name := "stewardOrder", fn := fun _ => fun
  | [d1, d2] => { results := [.lit (.bool false)], args := [d1, d2] }
  | _ => none }
def StewardOrderWrongFalsely : Prop := stewardOrderRow.holds Try.pinned (OpenSpec.ofChange stewardOrderWrong)

/- THE SECOND FORM. 'bulk': how many values and letters a reading holds, each counted each time it is reached (what is shared counts as often as it is met; a slice's spare places count too). A statement '..UptoSaid' is the law's where the arguments, and the package variables that the reading takes, are together of bulk at most 1048576: NARROWER than '..Said'. Prove '..Said' where nothing that the law and all that it calls make is longer than what came in: it says more and counts as full. Else prove '..UptoSaid'. A law counts once. -/
mutual
def uptoBulk {H : Type} : DataW H → Nat
  | .lit (.string bytes) => bytes.length + 1
  | .lit _ => 1
  | .nil => 1
  | .ptr d => uptoBulk d + 1
  | .slice elems spare => uptoBulkAll elems + uptoBulkAll spare + 1
  | .agg parts => uptoBulkAll parts + 1
  | .iface _ d => uptoBulk d + 1
  | .map entries => uptoBulkEntries entries + 1
  | .held _ => 1
def uptoBulkAll {H : Type} : List (DataW H) → Nat
  | [] => 0
  | d :: r => uptoBulk d + uptoBulkAll r
def uptoBulkEntries {H : Type} : List (Lit × DataW H) → Nat
  | [] => 0
  | x :: r => uptoBulkEntry x + uptoBulkEntries r
def uptoBulkEntry {H : Type} : Lit × DataW H → Nat
  | (.string bytes, d) => bytes.length + uptoBulk d + 1
  | (_, d) => uptoBulk d + 1
 end
def uptoSmall : (H : Type) → List (DataW H) → Bool := fun _ ds => decide (uptoBulkAll ds ≤ 1048576)
def OpenSpec.upto (s : _root_.Go.ChangeSpec) : _root_.Go.OpenSpec := { _root_.Go.OpenSpec.ofChange s with cond := some uptoSmall }

/-- 'chicanelaw44.StewardJudges', WHERE WHAT IT READS IS OF BULK AT MOST 1048576: true; the input reads as it did. -/
def stewardJudgesUptoRow : OpenClaim := { program := "ythlnocpbdhcnlaa", sum := "2994f82d63dd62e32f6e37bfe062ec91878c4c5c22d74433924a8298e667c958", func := "chicane/chicanelaw44.StewardJudges", spec := "stewardJudges", unfollowed := true, recurses := true, apart := false, narrowed := true }
def StewardJudgesUptoSaid : Prop := stewardJudgesUptoRow.holds Try.pinned (OpenSpec.upto stewardJudgesSpec)

/-- 'chicanelaw44.StewardMore', WHERE WHAT IT READS IS OF BULK AT MOST 1048576: true; the input reads as it did. -/
def stewardMoreUptoRow : OpenClaim := { program := "ythlnocpbdhcnlaa", sum := "2994f82d63dd62e32f6e37bfe062ec91878c4c5c22d74433924a8298e667c958", func := "chicane/chicanelaw44.StewardMore", spec := "stewardMore", unfollowed := true, recurses := true, apart := false, narrowed := true }
def StewardMoreUptoSaid : Prop := stewardMoreUptoRow.holds Try.pinned (OpenSpec.upto stewardMoreSpec)

/-- 'chicanelaw47.PlanTimes', WHERE WHAT IT READS IS OF BULK AT MOST 1048576: true; the input reads as it did. -/
def planTimesUptoRow : OpenClaim := { program := "ythlnocpbdhcnlaa", sum := "2994f82d63dd62e32f6e37bfe062ec91878c4c5c22d74433924a8298e667c958", func := "chicane/chicanelaw47.PlanTimes", spec := "planTimes", unfollowed := true, recurses := true, apart := false, narrowed := true }
def PlanTimesUptoSaid : Prop := planTimesUptoRow.holds Try.pinned (OpenSpec.upto planTimesSpec)

/-- 'chicanelaw47.PlanBest', WHERE WHAT IT READS IS OF BULK AT MOST 1048576: true; the input reads as it did. -/
def planBestUptoRow : OpenClaim := { program := "ythlnocpbdhcnlaa", sum := "2994f82d63dd62e32f6e37bfe062ec91878c4c5c22d74433924a8298e667c958", func := "chicane/chicanelaw47.PlanBest", spec := "planBest", unfollowed := true, recurses := true, apart := false, narrowed := true }
def PlanBestUptoSaid : Prop := planBestUptoRow.holds Try.pinned (OpenSpec.upto planBestSpec)

/-- 'chicanelaw47.PlanLeast', WHERE WHAT IT READS IS OF BULK AT MOST 1048576: true; the input reads as it did. -/
def planLeastUptoRow : OpenClaim := { program := "ythlnocpbdhcnlaa", sum := "2994f82d63dd62e32f6e37bfe062ec91878c4c5c22d74433924a8298e667c958", func := "chicane/chicanelaw47.PlanLeast", spec := "planLeast", unfollowed := true, recurses := true, apart := false, narrowed := true }
def PlanLeastUptoSaid : Prop := planLeastUptoRow.holds Try.pinned (OpenSpec.upto planLeastSpec)

/-- 'chicanelaw47.PlanMore', WHERE WHAT IT READS IS OF BULK AT MOST 1048576: true; the input reads as it did. -/
def planMoreUptoRow : OpenClaim := { program := "ythlnocpbdhcnlaa", sum := "2994f82d63dd62e32f6e37bfe062ec91878c4c5c22d74433924a8298e667c958", func := "chicane/chicanelaw47.PlanMore", spec := "planMore", unfollowed := true, recurses := true, apart := false, narrowed := true }
def PlanMoreUptoSaid : Prop := planMoreUptoRow.holds Try.pinned (OpenSpec.upto planMoreSpec)

/-- 'chicanelaw44.StewardOrder', WHERE WHAT IT READS IS OF BULK AT MOST 1048576: true; the input reads as it did. -/
def stewardOrderUptoRow : OpenClaim := { program := "ythlnocpbdhcnlaa", sum := "2994f82d63dd62e32f6e37bfe062ec91878c4c5c22d74433924a8298e667c958", func := "chicane/chicanelaw44.StewardOrder", spec := "stewardOrder", unfollowed := true, recurses := true, apart := false, narrowed := true }
def StewardOrderUptoSaid : Prop := stewardOrderUptoRow.holds Try.pinned (OpenSpec.upto stewardOrderSpec)

end Rows
end Go.Proofs.Ythlnocpbdhcnlaa
