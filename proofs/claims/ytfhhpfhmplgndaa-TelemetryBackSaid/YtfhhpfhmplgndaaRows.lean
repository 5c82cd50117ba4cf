/-
  No cell of these rows narrows 'for every input' (looked for: loops, veiled, ifaces, maps, wideKeys, modest, calm, conditions, laid).
  DERIVED. THE GIVEN ROWS OF THIS SEAT. 8 by the template 'for every input the law returns true; each argument reads behind the call as it read before'; 0 by the template 'total and deterministic' (their statements: YtfhhpfhmplgndaaTotals.lean).
  GIVEN WITH THE SEED: the statements are not yours to turn. If you find one false, say at which input.
  Laid BY PROGRAM, IN A SANDBOX (cutbox-rows.mjs): the forced cells as the released guide's own fill.sh prints them over the translation d42ae6f7b581c04d… (all of the seat's roots in one cut). By AI agents, Wed Nov 11 2026. No macro, syntax, notation, axiom, sorry.
-/
import Derived.Test.YtfhhpfhmplgndaaChecked
import GoSem.Claim
import GoSem.ClaimJoined
import GoSem.ClaimMapViews
import Derived.JoinedTies
import Derived.KernelRfl
namespace Go.Proofs.Ytfhhpfhmplgndaa
/- THE CELL 'sum', in the pinned program and in every row, IS THE sha256 OF THE DUMP (.gsa) THAT YtfhhpfhmplgndaaProg.lean LOADS. Nothing in Lean hashes anything: it is a label: what it is worth is what the hold of that sum in a sandbox is worth. -/
noncomputable def Try.pinned : Pinned := { name := "ytfhhpfhmplgndaa", sum := "d42ae6f7b581c04dda49d2e08c031360744f9e0edc5b6d94ec15c77456830683", checked := Try.checked }
namespace Rows
def none {H : Type} : Left H := { results := [], args := [] }

/-- 'chicanelaw42.GhostRises': WHATEVER THE INPUT: true; the input reads as it did. -/
def ghostRisesSpec : ChangeSpec := { name := "ghostRises", fn := fun _ => fun
  | [d1, d2, d3] => { results := [.lit (.bool true)], args := [d1, d2, d3] }
  | _ => none }
def ghostRisesRow : OpenClaim := { program := "ytfhhpfhmplgndaa", sum := "d42ae6f7b581c04dda49d2e08c031360744f9e0edc5b6d94ec15c77456830683", func := "chicane/chicanelaw42.GhostRises", spec := "ghostRises", inPlace := ["math/bits.Sub64", "math/bits.Add64"], unfollowed := true, recurses := true, apart := false }
def GhostRisesSaid : Prop := ghostRisesRow.holds Try.pinned (OpenSpec.ofChange ghostRisesSpec)

/-- ITS FALSE NEIGHBOUR: 'it returns false'. Refute it at one input. -/
def ghostRisesWrong : ChangeSpec := { name := "ghostRises", fn := fun _ => fun
  | [d1, d2, d3] => { results := [.lit (.bool false)], args := [d1, d2, d3] }
  | _ => none }
def GhostRisesWrongFalsely : Prop := ghostRisesRow.holds Try.pinned (OpenSpec.ofChange ghostRisesWrong)

/-- 'chicanelaw42.GhostSame': WHATEVER THE INPUT: true; the input reads as it did. -/
def ghostSameSpec : ChangeSpec := { name := "ghostSame", fn := fun _ => fun
  | [d] => { results := [.lit (.bool true)], args := [d] }
  | _ => none }
def ghostSameRow : OpenClaim := { program := "ytfhhpfhmplgndaa", sum := "d42ae6f7b581c04dda49d2e08c031360744f9e0edc5b6d94ec15c77456830683", func := "chicane/chicanelaw42.GhostSame", spec := "ghostSame", inPlace := ["math/bits.Sub64", "math/bits.Add64"], unfollowed := true, recurses := true, apart := false }
def GhostSameSaid : Prop := ghostSameRow.holds Try.pinned (OpenSpec.ofChange ghostSameSpec)

/-- ITS FALSE NEIGHBOUR: 'it returns false'. Refute it at one input. -/
def ghostSameWrong : ChangeSpec := { name := "ghostSame", fn := fun _ => fun
  | [d] => { results := [.lit (.bool false)], args := [d] }
  | _ => none }
def GhostSameWrongFalsely : Prop := ghostSameRow.holds Try.pinned (OpenSpec.ofChange ghostSameWrong)

/-- 'chicanelaw41.TelemetryOf': WHATEVER THE INPUT: true; the input reads as it did. -/
def telemetryOfSpec : ChangeSpec := { name := "telemetryOf", fn := fun _ => fun
  | [d] => { results := [.lit (.bool true)], args := [d] }
  | _ => none }
def telemetryOfRow : OpenClaim := { program := "ytfhhpfhmplgndaa", sum := "d42ae6f7b581c04dda49d2e08c031360744f9e0edc5b6d94ec15c77456830683", func := "chicane/chicanelaw41.TelemetryOf", spec := "telemetryOf", inPlace := ["math/bits.Add64"], unfollowed := true, recurses := true, apart := false }
def TelemetryOfSaid : Prop := telemetryOfRow.holds Try.pinned (OpenSpec.ofChange telemetryOfSpec)

/-- ITS FALSE NEIGHBOUR: 'it returns false'. Refute it at one input. -/
def telemetryOfWrong : ChangeSpec := { name := "telemetryOf", fn := fun _ => fun
  | [d] => { results := [.lit (.bool false)], args := [d] }
  | _ => none }
def TelemetryOfWrongFalsely : Prop := telemetryOfRow.holds Try.pinned (OpenSpec.ofChange telemetryOfWrong)

/-- 'chicanelaw41.TelemetryPacks': WHATEVER THE INPUT: true; the input reads as it did. -/
def telemetryPacksSpec : ChangeSpec := { name := "telemetryPacks", fn := fun _ => fun
  | [d] => { results := [.lit (.bool true)], args := [d] }
  | _ => none }
def telemetryPacksRow : OpenClaim := { program := "ytfhhpfhmplgndaa", sum := "d42ae6f7b581c04dda49d2e08c031360744f9e0edc5b6d94ec15c77456830683", func := "chicane/chicanelaw41.TelemetryPacks", spec := "telemetryPacks", inPlace := ["math/bits.Add64"], unfollowed := true, recurses := true, apart := false }
def TelemetryPacksSaid : Prop := telemetryPacksRow.holds Try.pinned (OpenSpec.ofChange telemetryPacksSpec)

/-- ITS FALSE NEIGHBOUR: 'it returns false'. Refute it at one input. -/
def telemetryPacksWrong : ChangeSpec := { name := "telemetryPacks", fn := fun _ => fun
  | [d] => { results := [.lit (.bool false)], args := [d] }
  | _ => none }
def TelemetryPacksWrongFalsely : Prop := telemetryPacksRow.holds Try.pinned (OpenSpec.ofChange telemetryPacksWrong)

/-- 'chicanelaw42.GhostAlong': WHATEVER THE INPUT: true; the input reads as it did. -/
def ghostAlongSpec : ChangeSpec := { name := "ghostAlong", fn := fun _ => fun
  | [d1, d2, d3] => { results := [.lit (.bool true)], args := [d1, d2, d3] }
  | _ => none }
def ghostAlongRow : OpenClaim := { program := "ytfhhpfhmplgndaa", sum := "d42ae6f7b581c04dda49d2e08c031360744f9e0edc5b6d94ec15c77456830683", func := "chicane/chicanelaw42.GhostAlong", spec := "ghostAlong", inPlace := ["math/bits.Add64", "math/bits.Sub64"], unfollowed := true, recurses := true, apart := false }
def GhostAlongSaid : Prop := ghostAlongRow.holds Try.pinned (OpenSpec.ofChange ghostAlongSpec)

/-- ITS FALSE NEIGHBOUR: 'it returns false'. Refute it at one input. -/
def ghostAlongWrong : ChangeSpec := { name := "ghostAlong", fn := fun _ => fun
  | [d1, d2, d3] => { results := [.lit (.bool false)], args := [d1, d2, d3] }
  | _ => none }
def GhostAlongWrongFalsely : Prop := ghostAlongRow.holds Try.pinned (OpenSpec.ofChange ghostAlongWrong)

/-- 'chicanelaw41.TelemetryBack': WHATEVER THE INPUT: true; the input reads as it did. -/
def telemetryBackSpec : ChangeSpec := { name := "telemetryBack", fn := fun _ => fun
  | [d1, d2] => { results := [.lit (.bool true)], args := [d1, d2] }
  | _ => none }
def telemetryBackRow : OpenClaim := { program := "ytfhhpfhmplgndaa", sum := "d42ae6f7b581c04dda49d2e08c031360744f9e0edc5b6d94ec15c77456830683", func := "chicane/chicanelaw41.TelemetryBack", spec := "telemetryBack", inPlace := ["math/bits.Add64"], unfollowed := true, recurses := true, apart := false }
def TelemetryBackSaid : Prop := telemetryBackRow.holds Try.pinned (OpenSpec.ofChange telemetryBackSpec)

/-- ITS FALSE NEIGHBOUR: 'it returns false'. Refute it at one input. -/
def telemetryBackWrong : ChangeSpec := { name := "telemetryBack", fn := fun _ => fun
  | [d1, d2] => { results := [.lit (.bool false)], args := [d1, d2] }
  | _ => none }
def TelemetryBackWrongFalsely : Prop := telemetryBackRow.holds Try.pinned (OpenSpec.ofChange telemetryBackWrong)

/-- 'chicanelaw41.TelemetryStats': WHATEVER THE INPUT: true; the input reads as it did. -/
def telemetryStatsSpec : ChangeSpec := { name := "telemetryStats", fn := fun _ => fun
  | [d1, d2] => { results := [.lit (.bool true)], args := [d1, d2] }
  | _ => none }
def telemetryStatsRow : OpenClaim := { program := "ytfhhpfhmplgndaa", sum := "d42ae6f7b581c04dda49d2e08c031360744f9e0edc5b6d94ec15c77456830683", func := "chicane/chicanelaw41.TelemetryStats", spec := "telemetryStats", inPlace := ["math/bits.Add64", "math/bits.Sub64"], unfollowed := true, recurses := true, named := ["math/bits.divideError", "math/bits.overflowError"], apart := false }
def TelemetryStatsSaid : Prop := telemetryStatsRow.holds Try.pinned (OpenSpec.ofChange telemetryStatsSpec)

/-- ITS FALSE NEIGHBOUR: 'it returns false'. Refute it at one input. -/
def telemetryStatsWrong : ChangeSpec := { name := "telemetryStats", fn := fun _ => fun
  | [d1, d2] => { results := [.lit (.bool false)], args := [d1, d2] }
  | _ => none }
def TelemetryStatsWrongFalsely : Prop := telemetryStatsRow.holds Try.pinned (OpenSpec.ofChange telemetryStatsWrong)

/-- 'chicanelaw41.TelemetryMean': WHATEVER THE INPUT: true; the input reads as it did. -/
def telemetryMeanSpec : ChangeSpec := { name := "telemetryMean", fn := fun _ => fun
  | [d1, d2] => { results := [.lit (.bool true)], args := [d1, d2] }
  | _ => none }
def telemetryMeanRow : OpenClaim := { program := "ytfhhpfhmplgndaa", sum := "d42ae6f7b581c04dda49d2e08c031360744f9e0edc5b6d94ec15c77456830683", func := "chicane/chicanelaw41.TelemetryMean", spec := "telemetryMean", inPlace := ["math/bits.Add64", "math/bits.Sub64"], unfollowed := true, recurses := true, named := ["math/bits.divideError", "math/bits.overflowError"], apart := false }
def TelemetryMeanSaid : Prop := telemetryMeanRow.holds Try.pinned (OpenSpec.ofChange telemetryMeanSpec)

/-- ITS FALSE NEIGHBOUR: 'it returns false'. Refute it at one input. -/
def telemetryMeanWrong : ChangeSpec := { name := "telemetryMean", fn := fun _ => fun
  | [d1, d2] => { results := [.lit (.bool false)], args := [d1, d2] }
  | _ => none }
def TelemetryMeanWrongFalsely : Prop := telemetryMeanRow.holds Try.pinned (OpenSpec.ofChange telemetryMeanWrong)

/- THE SECOND FORM. 'bulk': how many values and letters a reading holds, each counted each time it is reached (what is shared counts as often as it is met; a slice's spare places count too). A statement '..UptoSaid' is the law's where the arguments, and the package variables that the reading takes, are together of bulk at most 1048576: NARROWER than '..Said'. Prove '..Said' where nothing that the law and all that it calls make is longer than what came in: it says more and counts as full. Else prove '..UptoSaid'. A law counts once. -/
mutual
def uptoBulk {H : Type} : DataW H → Nat
  | .lit (.string bytes) => bytes.length + 1
  | .lit _ => 1
  | .nil => 1
  | .ptr d => uptoBulk d + 1
  | .slice elems spare => uptoBulkAll elems + uptoBulkAll spare + 1
  | .agg parts => uptoBulkAll parts + 1
  | .iface _ d => uptoBulk d + 1
  | .map entries => uptoBulkEntries entries + 1
  | .held _ => 1
def uptoBulkAll {H : Type} : List (DataW H) → Nat
  | [] => 0
  | d :: r => uptoBulk d + uptoBulkAll r
def uptoBulkEntries {H : Type} : List (Lit × DataW H) → Nat
  | [] => 0
  | x :: r => uptoBulkEntry x + uptoBulkEntries r
def uptoBulkEntry {H : Type} : Lit × DataW H → Nat
  | (.string bytes, d) => bytes.length + uptoBulk d + 1
  | (_, d) => uptoBulk d + 1
 end
def uptoSmall : (H : Type) → List (DataW H) → Bool := fun _ ds => decide (uptoBulkAll ds ≤ 1048576)
def OpenSpec.upto (s : _root_.Go.ChangeSpec) : _root_.Go.OpenSpec := { _root_.Go.OpenSpec.ofChange s with cond := some uptoSmall }

/-- 'chicanelaw42.GhostRises', WHERE WHAT IT READS IS OF BULK AT MOST 1048576: true; the input reads as it did. -/
def ghostRisesUptoRow : OpenClaim := { program := "ytfhhpfhmplgndaa", sum := "d42ae6f7b581c04dda49d2e08c031360744f9e0edc5b6d94ec15c77456830683", func := "chicane/chicanelaw42.GhostRises", spec := "ghostRises", inPlace := ["math/bits.Sub64", "math/bits.Add64"], unfollowed := true, recurses := true, apart := false, narrowed := true }
def GhostRisesUptoSaid : Prop := ghostRisesUptoRow.holds Try.pinned (OpenSpec.upto ghostRisesSpec)

/-- 'chicanelaw42.GhostSame', WHERE WHAT IT READS IS OF BULK AT MOST 1048576: true; the input reads as it did. -/
def ghostSameUptoRow : OpenClaim := { program := "ytfhhpfhmplgndaa", sum := "d42ae6f7b581c04dda49d2e08c031360744f9e0edc5b6d94ec15c77456830683", func := "chicane/chicanelaw42.GhostSame", spec := "ghostSame", inPlace := ["math/bits.Sub64", "math/bits.Add64"], unfollowed := true, recurses := true, apart := false, narrowed := true }
def GhostSameUptoSaid : Prop := ghostSameUptoRow.holds Try.pinned (OpenSpec.upto ghostSameSpec)

/-- 'chicanelaw41.TelemetryOf', WHERE WHAT IT READS IS OF BULK AT MOST 1048576: true; the input reads as it did. -/
def telemetryOfUptoRow : OpenClaim := { program := "ytfhhpfhmplgndaa", sum := "d42ae6f7b581c04dda49d2e08c031360744f9e0edc5b6d94ec15c77456830683", func := "chicane/chicanelaw41.TelemetryOf", spec := "telemetryOf", inPlace := ["math/bits.Add64"], unfollowed := true, recurses := true, apart := false, narrowed := true }
def TelemetryOfUptoSaid : Prop := telemetryOfUptoRow.holds Try.pinned (OpenSpec.upto telemetryOfSpec)

/-- 'chicanelaw41.TelemetryPacks', WHERE WHAT IT READS IS OF BULK AT MOST 1048576: true; the input reads as it did. -/
def telemetryPacksUptoRow : OpenClaim := { program := "ytfhhpfhmplgndaa", sum := "d42ae6f7b581c04dda49d2e08c031360744f9e0edc5b6d94ec15c77456830683", func := "chicane/chicanelaw41.TelemetryPacks", spec := "telemetryPacks", inPlace := ["math/bits.Add64"], unfollowed := true, recurses := true, apart := false, narrowed := true }
def TelemetryPacksUptoSaid : Prop := telemetryPacksUptoRow.holds Try.pinned (OpenSpec.upto telemetryPacksSpec)

/-- 'chicanelaw42.GhostAlong', WHERE WHAT IT READS IS OF BULK AT MOST 1048576: true; the input reads as it did. -/
def ghostAlongUptoRow : OpenClaim := { program := "ytfhhpfhmplgndaa", sum := "d42ae6f7b581c04dda49d2e08c031360744f9e0edc5b6d94ec15c77456830683", func := "chicane/chicanelaw42.GhostAlong", spec := "ghostAlong", inPlace := ["math/bits.Add64", "math/bits.Sub64"], unfollowed := true, recurses := true, apart := false, narrowed := true }
def GhostAlongUptoSaid : Prop := ghostAlongUptoRow.holds Try.pinned (OpenSpec.upto ghostAlongSpec)

/-- 'chicanelaw41.TelemetryBack', WHERE WHAT IT READS IS OF BULK AT MOST 1048576: true; the input reads as it did. -/
def telemetryBackUptoRow : OpenClaim := { program := "ytfhhpfhmplgndaa", sum := "d42ae6f7b581c04dda49d2e08c031360744f9e0edc5b6d94ec15c77456830683", func := "chicane/chicanelaw41.TelemetryBack", spec := "telemetryBack", inPlace := ["math/bits.Add64"], unfollowed := true, recurses := true, apart := false, narrowed := true }
def TelemetryBackUptoSaid : Prop := telemetryBackUptoRow.holds Try.pinned (OpenSpec.upto telemetryBackSpec)

/-- 'chicanelaw41.TelemetryStats', WHERE WHAT IT READS IS OF BULK AT MOST 1048576: true; the input reads as it did. -/
def telemetryStatsUptoRow : OpenClaim := { program := "ytfhhpfhmplgndaa", sum := "d42ae6f7b581c04dda49d2e08c031360744f9e0edc5b6d94ec15c77456830683", func := "chicane/chicanelaw41.TelemetryStats", spec := "telemetryStats", inPlace := ["math/bits.Add64", "math/bits.Sub64"], unfollowed := true, recurses := true, named := ["math/bits.divideError", "math/bits.overflowError"], apart := false, narrowed := true }
def TelemetryStatsUptoSaid : Prop := telemetryStatsUptoRow.holds Try.pinned (OpenSpec.upto telemetryStatsSpec)

/-- 'chicanelaw41.TelemetryMean', WHERE WHAT IT READS IS OF BULK AT MOST 1048576: true; the input reads as it did. -/
def telemetryMeanUptoRow : OpenClaim := { program := "ytfhhpfhmplgndaa", sum := "d42ae6f7b581c04dda49d2e08c031360744f9e0edc5b6d94ec15c77456830683", func := "chicane/chicanelaw41.TelemetryMean", spec := "telemetryMean", inPlace := ["math/bits.Add64", "math/bits.Sub64"], unfollowed := true, recurses := true, named := ["math/bits.divideError", "math/bits.overflowError"], apart := false, narrowed := true }
def TelemetryMeanUptoSaid : Prop := telemetryMeanUptoRow.holds Try.pinned (OpenSpec.upto telemetryMeanSpec)

end Rows
end Go.Proofs.Ytfhhpfhmplgndaa
