/-
  No cell of these rows narrows 'for every input' (looked for: loops, veiled, ifaces, maps, wideKeys, modest, calm, conditions, laid).
  DERIVED. THE GIVEN ROWS OF THIS SEAT. 5 by the template 'for every input the law returns true; each argument reads behind the call as it read before'; 0 by the template 'total and deterministic' (their statements: YtbmbnopgekbppaaTotals.lean).
  GIVEN WITH THE SEED: the statements are not yours to turn. If you find one false, say at which input.
  Laid BY PROGRAM, IN A SANDBOX (cutbox-rows.mjs): the forced cells as the released guide's own fill.sh prints them over the translation 3ef240a045aedc7c… (all of the seat's roots in one cut). By AI agents, Wed Nov 11 2026. No macro, syntax, notation, axiom, sorry.
-/
import Derived.Test.YtbmbnopgekbppaaChecked
import GoSem.Claim
import GoSem.ClaimJoined
import GoSem.ClaimMapViews
import Derived.JoinedTies
import Derived.KernelRfl
namespace Go.Proofs.Ytbmbnopgekbppaa
/- THE CELL 'sum', in the pinned program and in every row, IS THE sha256 OF THE DUMP (.gsa) THAT YtbmbnopgekbppaaProg.lean LOADS. Nothing in Lean hashes anything: it is a label: what it is worth is what the hold of that sum in a sandbox is worth. -/
noncomputable def Try.pinned : Pinned := { name := "ytbmbnopgekbppaa", sum := "3ef240a045aedc7c52ef35622d4a996d9b45f0ad71d05381452a5f900f1078ff", checked := Try.checked }
namespace Rows
def none {H : Type} : Left H := { results := [], args := [] }

/-- 'chicanelaw52.ProfileBend': WHATEVER THE INPUT: true; the input reads as it did. -/
def profileBendSpec : ChangeSpec := { name := "profileBend", fn := fun _ => fun
  | [d1, d2] => { results := [.lit (.bool true)], args := [d1, d2] }
  | _ => none }
def profileBendRow : OpenClaim := { program := "ytbmbnopgekbppaa", sum := "3ef240a045aedc7c52ef35622d4a996d9b45f0ad71d05381452a5f900f1078ff", func := "chicane/chicanelaw52.ProfileBend", spec := "profileBend", inPlace := ["math/bits.Sub64", "math/bits.Add64"], unfollowed := true, recurses := true, named := ["math/bits.divideError", "math/bits.overflowError"], apart := false }
def ProfileBendSaid : Prop := profileBendRow.holds Try.pinned (OpenSpec.ofChange profileBendSpec)

/-- ITS FALSE NEIGHBOUR: 'it returns false'. Refute it at one input. -/
def profileBendWrong : ChangeSpec := { name := "profileBend", fn := fun _ => fun
  | [d1, d2] => { results := [.lit (.bool false)], args := [d1, d2] }
  | _ => none }
def ProfileBendWrongFalsely : Prop := profileBendRow.holds Try.pinned (OpenSpec.ofChange profileBendWrong)

/-- 'chicanelaw52.ProfileSpeeds': WHATEVER THE INPUT: true; the input reads as it did. -/
def profileSpeedsSpec : ChangeSpec := { name := "profileSpeeds", fn := fun _ => fun
  | [d1, d2] => { results := [.lit (.bool true)], args := [d1, d2] }
  | _ => none }
def profileSpeedsRow : OpenClaim := { program := "ytbmbnopgekbppaa", sum := "3ef240a045aedc7c52ef35622d4a996d9b45f0ad71d05381452a5f900f1078ff", func := "chicane/chicanelaw52.ProfileSpeeds", spec := "profileSpeeds", inPlace := ["math/bits.Sub64", "math/bits.Add64"], unfollowed := true, recurses := true, named := ["math/bits.divideError", "math/bits.overflowError"], apart := false }
def ProfileSpeedsSaid : Prop := profileSpeedsRow.holds Try.pinned (OpenSpec.ofChange profileSpeedsSpec)

/-- ITS FALSE NEIGHBOUR: 'it returns false'. Refute it at one input. -/
def profileSpeedsWrong : ChangeSpec := { name := "profileSpeeds", fn := fun _ => fun
  | [d1, d2] => { results := [.lit (.bool false)], args := [d1, d2] }
  | _ => none }
def ProfileSpeedsWrongFalsely : Prop := profileSpeedsRow.holds Try.pinned (OpenSpec.ofChange profileSpeedsWrong)

/-- 'chicanelaw52.ProfileLap': WHATEVER THE INPUT: true; the input reads as it did. -/
def profileLapSpec : ChangeSpec := { name := "profileLap", fn := fun _ => fun
  | [d1, d2] => { results := [.lit (.bool true)], args := [d1, d2] }
  | _ => none }
def profileLapRow : OpenClaim := { program := "ytbmbnopgekbppaa", sum := "3ef240a045aedc7c52ef35622d4a996d9b45f0ad71d05381452a5f900f1078ff", func := "chicane/chicanelaw52.ProfileLap", spec := "profileLap", inPlace := ["math/bits.Sub64", "math/bits.Add64"], unfollowed := true, recurses := true, named := ["math/bits.divideError", "math/bits.overflowError"], apart := false }
def ProfileLapSaid : Prop := profileLapRow.holds Try.pinned (OpenSpec.ofChange profileLapSpec)

/-- ITS FALSE NEIGHBOUR: 'it returns false'. Refute it at one input. -/
def profileLapWrong : ChangeSpec := { name := "profileLap", fn := fun _ => fun
  | [d1, d2] => { results := [.lit (.bool false)], args := [d1, d2] }
  | _ => none }
def ProfileLapWrongFalsely : Prop := profileLapRow.holds Try.pinned (OpenSpec.ofChange profileLapWrong)

/-- 'chicanelaw52.ProfileLimits': WHATEVER THE INPUT: true; the input reads as it did. -/
def profileLimitsSpec : ChangeSpec := { name := "profileLimits", fn := fun _ => fun
  | [d1, d2] => { results := [.lit (.bool true)], args := [d1, d2] }
  | _ => none }
def profileLimitsRow : OpenClaim := { program := "ytbmbnopgekbppaa", sum := "3ef240a045aedc7c52ef35622d4a996d9b45f0ad71d05381452a5f900f1078ff", func := "chicane/chicanelaw52.ProfileLimits", spec := "profileLimits", inPlace := ["math/bits.Sub64", "math/bits.Add64"], unfollowed := true, recurses := true, named := ["math/bits.divideError", "math/bits.overflowError"], apart := false }
def ProfileLimitsSaid : Prop := profileLimitsRow.holds Try.pinned (OpenSpec.ofChange profileLimitsSpec)

/-- ITS FALSE NEIGHBOUR: 'it returns false'. Refute it at one input. -/
def profileLimitsWrong : ChangeSpec := { name := "profileLimits", fn := fun _ => fun
  | [d1, d2] => { results := [.lit (.bool false)], args := [d1, d2] }
  | _ => none }
def ProfileLimitsWrongFalsely : Prop := profileLimitsRow.holds Try.pinned (OpenSpec.ofChange profileLimitsWrong)

/-- 'chicanelaw52.ProfileSteps': WHATEVER THE INPUT: true; the input reads as it did. -/
def profileStepsSpec : ChangeSpec := { name := "profileSteps", fn := fun _ => fun
  | [d1, d2] => { results := [.lit (.bool true)], args := [d1, d2] }
  | _ => none }
def profileStepsRow : OpenClaim := { program := "ytbmbnopgekbppaa", sum := "3ef240a045aedc7c52ef35622d4a996d9b45f0ad71d05381452a5f900f1078ff", func := "chicane/chicanelaw52.ProfileSteps", spec := "profileSteps", inPlace := ["math/bits.Sub64", "math/bits.Add64"], unfollowed := true, recurses := true, named := ["math/bits.divideError", "math/bits.overflowError"], apart := false }
def ProfileStepsSaid : Prop := profileStepsRow.holds Try.pinned (OpenSpec.ofChange profileStepsSpec)

/-- ITS FALSE NEIGHBOUR: 'it returns false'. Refute it at one input. -/
def profileStepsWrong : ChangeSpec := { name := "profileSteps", fn := fun _ => fun
  | [d1, d2] => { results := [.lit (.bool false)], args := [d1, d2] }
  | _ => none }
def ProfileStepsWrongFalsely : Prop := profileStepsRow.holds Try.pinned (OpenSpec.ofChange profileStepsWrong)

/- THE SECOND FORM. 'bulk': how many values and letters a reading holds, each counted each time it is reached (what is shared counts as often as it is met; a slice's spare places count too). A statement '..UptoSaid' is the law's where the arguments, and the package variables that the reading takes, are together of bulk at most 1048576: NARROWER than '..Said'. Prove '..Said' where nothing that the law and all that it calls make is longer than what came in: it says more and counts as full. Else prove '..UptoSaid'. A law counts once. -/
mutual
def uptoBulk {H : Type} : DataW H → Nat
  | .lit (.string bytes) => bytes.length + 1
  | .lit _ => 1
  | .nil => 1
  | .ptr d => uptoBulk d + 1
  | .slice elems spare => uptoBulkAll elems + uptoBulkAll spare + 1
  | .agg parts => uptoBulkAll parts + 1
  | .iface _ d => uptoBulk d + 1
  | .map entries => uptoBulkEntries entries + 1
  | .held _ => 1
def uptoBulkAll {H : Type} : List (DataW H) → Nat
  | [] => 0
  | d :: r => uptoBulk d + uptoBulkAll r
def uptoBulkEntries {H : Type} : List (Lit × DataW H) → Nat
  | [] => 0
  | x :: r => uptoBulkEntry x + uptoBulkEntries r
def uptoBulkEntry {H : Type} : Lit × DataW H → Nat
  | (.string bytes, d) => bytes.length + uptoBulk d + 1
  | (_, d) => uptoBulk d + 1
 end
def uptoSmall : (H : Type) → List (DataW H) → Bool := fun _ ds => decide (uptoBulkAll ds ≤ 1048576)
def OpenSpec.upto (s : _root_.Go.ChangeSpec) : _root_.Go.OpenSpec := { _root_.Go.OpenSpec.ofChange s with cond := some uptoSmall }

/-- 'chicanelaw52.ProfileBend', WHERE WHAT IT READS IS OF BULK AT MOST 1048576: true; the input reads as it did. -/
def profileBendUptoRow : OpenClaim := { program := "ytbmbnopgekbppaa", sum := "3ef240a045aedc7c52ef35622d4a996d9b45f0ad71d05381452a5f900f1078ff", func := "chicane/chicanelaw52.ProfileBend", spec := "profileBend", inPlace := ["math/bits.Sub64", "math/bits.Add64"], unfollowed := true, recurses := true, named := ["math/bits.divideError", "math/bits.overflowError"], apart := false, narrowed := true }
def ProfileBendUptoSaid : Prop := profileBendUptoRow.holds Try.pinned (OpenSpec.upto profileBendSpec)

/-- 'chicanelaw52.ProfileSpeeds', WHERE WHAT IT READS IS OF BULK AT MOST 1048576: true; the input reads as it did. -/
def profileSpeedsUptoRow : OpenClaim := { program := "ytbmbnopgekbppaa", sum := "3ef240a045aedc7c52ef35622d4a996d9b45f0ad71d05381452a5f900f1078ff", func := "chicane/chicanelaw52.ProfileSpeeds", spec := "profileSpeeds", inPlace := ["math/bits.Sub64", "math/bits.Add64"], unfollowed := true, recurses := true, named := ["math/bits.divideError", "math/bits.overflowError"], apart := false, narrowed := true }
def ProfileSpeedsUptoSaid : Prop := profileSpeedsUptoRow.holds Try.pinned (OpenSpec.upto profileSpeedsSpec)

/-- 'chicanelaw52.ProfileLap', WHERE WHAT IT READS IS OF BULK AT MOST 1048576: true; the input reads as it did. -/
def profileLapUptoRow : OpenClaim := { program := "ytbmbnopgekbppaa", sum := "3ef240a045aedc7c52ef35622d4a996d9b45f0ad71d05381452a5f900f1078ff", func := "chicane/chicanelaw52.ProfileLap", spec := "profileLap", inPlace := ["math/bits.Sub64", "math/bits.Add64"], unfollowed := true, recurses := true, named := ["math/bits.divideError", "math/bits.overflowError"], apart := false, narrowed := true }
def ProfileLapUptoSaid : Prop := profileLapUptoRow.holds Try.pinned (OpenSpec.upto profileLapSpec)

/-- 'chicanelaw52.ProfileLimits', WHERE WHAT IT READS IS OF BULK AT MOST 1048576: true; the input reads as it did. -/
def profileLimitsUptoRow : OpenClaim := { program := "ytbmbnopgekbppaa", sum := "3ef240a045aedc7c52ef35622d4a996d9b45f0ad71d05381452a5f900f1078ff", func := "chicane/chicanelaw52.ProfileLimits", spec := "profileLimits", inPlace := ["math/bits.Sub64", "math/bits.Add64"], unfollowed := true, recurses := true, named := ["math/bits.divideError", "math/bits.overflowError"], apart := false, narrowed := true }
def ProfileLimitsUptoSaid : Prop := profileLimitsUptoRow.holds Try.pinned (OpenSpec.upto profileLimitsSpec)

/-- 'chicanelaw52.ProfileSteps', WHERE WHAT IT READS IS OF BULK AT MOST 1048576: true; the input reads as it did. -/
def profileStepsUptoRow : OpenClaim := { program := "ytbmbnopgekbppaa", sum := "3ef240a045aedc7c52ef35622d4a996d9b45f0ad71d05381452a5f900f1078ff", func := "chicane/chicanelaw52.ProfileSteps", spec := "profileSteps", inPlace := ["math/bits.Sub64", "math/bits.Add64"], unfollowed := true, recurses := true, named := ["math/bits.divideError", "math/bits.overflowError"], apart := false, narrowed := true }
def ProfileStepsUptoSaid : Prop := profileStepsUptoRow.holds Try.pinned (OpenSpec.upto profileStepsSpec)

end Rows
end Go.Proofs.Ytbmbnopgekbppaa
