/-
  No cell of these rows narrows 'for every input' (looked for: loops, veiled, ifaces, maps, wideKeys, modest, calm, conditions, laid).
  DERIVED. THE GIVEN ROWS OF THIS SEAT. 8 by the template 'for every input the law returns true; each argument reads behind the call as it read before'; 0 by the template 'total and deterministic' (their statements: YtgdipcoknfhobaaTotals.lean).
  GIVEN WITH THE SEED: the statements are not yours to turn. If you find one false, say at which input.
  Laid BY PROGRAM, IN A SANDBOX (cutbox-rows.mjs): the forced cells as the released guide's own fill.sh prints them over the translation 38c8833441e624fc… (all of the seat's roots in one cut). By AI agents, Wed Nov 11 2026. No macro, syntax, notation, axiom, sorry.
-/
import Derived.Test.YtgdipcoknfhobaaChecked
import GoSem.Claim
import GoSem.ClaimJoined
import GoSem.ClaimMapViews
import Derived.JoinedTies
import Derived.KernelRfl
namespace Go.Proofs.Ytgdipcoknfhobaa
/- THE CELL 'sum', in the pinned program and in every row, IS THE sha256 OF THE DUMP (.gsa) THAT YtgdipcoknfhobaaProg.lean LOADS. Nothing in Lean hashes anything: it is a label: what it is worth is what the hold of that sum in a sandbox is worth. -/
noncomputable def Try.pinned : Pinned := { name := "ytgdipcoknfhobaa", sum := "38c8833441e624fcdcce25ef231516c4a770db69464e9fc5faec98940ef060ea", checked := Try.checked }
namespace Rows
def none {H : Type} : Left H := { results := [], args := [] }

/-- 'orchestratorlaw34.ProbeBegins': WHATEVER THE INPUT: true; the input reads as it did. -/
def probeBeginsSpec : ChangeSpec := { name := "probeBegins", fn := fun _ => fun
  | [d1, d2, d3] => { results := [.lit (.bool true)], args := [d1, d2, d3] }
  | _ => none }
def probeBeginsRow : OpenClaim := { program := "ytgdipcoknfhobaa", sum := "38c8833441e624fcdcce25ef231516c4a770db69464e9fc5faec98940ef060ea", func := "orchestrator/orchestratorlaw34.ProbeBegins", spec := "probeBegins", unfollowed := true, recurses := true, apart := false }
def ProbeBeginsSaid : Prop := probeBeginsRow.holds Try.pinned (OpenSpec.ofChange probeBeginsSpec)

/-- ITS FALSE NEIGHBOUR: 'it returns false'. Refute it at one input. -/
def probeBeginsWrong : ChangeSpec := { name := "probeBegins", fn := fun _ => fun
  | [d1, d2, d3] => { results := [.lit (.bool false)], args := [d1, d2, d3] }
  | _ => none }
def ProbeBeginsWrongFalsely : Prop := probeBeginsRow.holds Try.pinned (OpenSpec.ofChange probeBeginsWrong)

/-- 'orchestratorlaw34.ProbeSteps': WHATEVER THE INPUT: true; the input reads as it did. -/
def probeStepsSpec : ChangeSpec := { name := "probeSteps", fn := fun _ => fun
  | [d1, d2, d3, d4] => { results := [.lit (.bool true)], args := [d1, d2, d3, d4] }
  | _ => none }
def probeStepsRow : OpenClaim := { program := "ytgdipcoknfhobaa", sum := "38c8833441e624fcdcce25ef231516c4a770db69464e9fc5faec98940ef060ea", func := "orchestrator/orchestratorlaw34.ProbeSteps", spec := "probeSteps", unfollowed := true, recurses := true, apart := false }
def ProbeStepsSaid : Prop := probeStepsRow.holds Try.pinned (OpenSpec.ofChange probeStepsSpec)

/-- ITS FALSE NEIGHBOUR: 'it returns false'. Refute it at one input. -/
def probeStepsWrong : ChangeSpec := { name := "probeSteps", fn := fun _ => fun
  | [d1, d2, d3, d4] => { results := [.lit (.bool false)], args := [d1, d2, d3, d4] }
  | _ => none }
def ProbeStepsWrongFalsely : Prop := probeStepsRow.holds Try.pinned (OpenSpec.ofChange probeStepsWrong)

/-- 'orchestratorlaw34.ProbeThresholds': WHATEVER THE INPUT: true; the input reads as it did. -/
def probeThresholdsSpec : ChangeSpec := { name := "probeThresholds", fn := fun _ => fun
  | [d1, d2] => { results := [.lit (.bool true)], args := [d1, d2] }
  | _ => none }
def probeThresholdsRow : OpenClaim := { program := "ytgdipcoknfhobaa", sum := "38c8833441e624fcdcce25ef231516c4a770db69464e9fc5faec98940ef060ea", func := "orchestrator/orchestratorlaw34.ProbeThresholds", spec := "probeThresholds", unfollowed := true, recurses := true, apart := false }
def ProbeThresholdsSaid : Prop := probeThresholdsRow.holds Try.pinned (OpenSpec.ofChange probeThresholdsSpec)

/-- ITS FALSE NEIGHBOUR: 'it returns false'. Refute it at one input. -/
def probeThresholdsWrong : ChangeSpec := { name := "probeThresholds", fn := fun _ => fun
  | [d1, d2] => { results := [.lit (.bool false)], args := [d1, d2] }
  | _ => none }
def ProbeThresholdsWrongFalsely : Prop := probeThresholdsRow.holds Try.pinned (OpenSpec.ofChange probeThresholdsWrong)

/-- 'orchestratorlaw34.ProbeOne': WHATEVER THE INPUT: true; the input reads as it did. -/
def probeOneSpec : ChangeSpec := { name := "probeOne", fn := fun _ => fun
  | [d1, d2, d3, d4] => { results := [.lit (.bool true)], args := [d1, d2, d3, d4] }
  | _ => none }
def probeOneRow : OpenClaim := { program := "ytgdipcoknfhobaa", sum := "38c8833441e624fcdcce25ef231516c4a770db69464e9fc5faec98940ef060ea", func := "orchestrator/orchestratorlaw34.ProbeOne", spec := "probeOne", unfollowed := true, recurses := true, apart := false }
def ProbeOneSaid : Prop := probeOneRow.holds Try.pinned (OpenSpec.ofChange probeOneSpec)

/-- ITS FALSE NEIGHBOUR: 'it returns false'. Refute it at one input. -/
def probeOneWrong : ChangeSpec := { name := "probeOne", fn := fun _ => fun
  | [d1, d2, d3, d4] => { results := [.lit (.bool false)], args := [d1, d2, d3, d4] }
  | _ => none }
def ProbeOneWrongFalsely : Prop := probeOneRow.holds Try.pinned (OpenSpec.ofChange probeOneWrong)

/-- 'orchestratorlaw29.LeaseTries': WHATEVER THE INPUT: true; the input reads as it did. -/
def leaseTriesSpec : ChangeSpec := { name := "leaseTries", fn := fun _ => fun
  | [d1, d2, d3, d4] => { results := [.lit (.bool true)], args := [d1, d2, d3, d4] }
  | _ => none }
def leaseTriesRow : OpenClaim := { program := "ytgdipcoknfhobaa", sum := "38c8833441e624fcdcce25ef231516c4a770db69464e9fc5faec98940ef060ea", func := "orchestrator/orchestratorlaw29.LeaseTries", spec := "leaseTries", apart := false }
def LeaseTriesSaid : Prop := leaseTriesRow.holds Try.pinned (OpenSpec.ofChange leaseTriesSpec)

/-- ITS FALSE NEIGHBOUR: 'it returns false'. Refute it at one input. -/
def leaseTriesWrong : ChangeSpec := { name := "leaseTries", fn := fun _ => fun
  | [d1, d2, d3, d4] => { results := [.lit (.bool false)], args := [d1, d2, d3, d4] }
  | _ => none }
def LeaseTriesWrongFalsely : Prop := leaseTriesRow.holds Try.pinned (OpenSpec.ofChange leaseTriesWrong)

/-- 'orchestratorlaw29.LeaseExclusive': WHATEVER THE INPUT: true; the input reads as it did. -/
def leaseExclusiveSpec : ChangeSpec := { name := "leaseExclusive", fn := fun _ => fun
  | [d1, d2] => { results := [.lit (.bool true)], args := [d1, d2] }
  | _ => none }
def leaseExclusiveRow : OpenClaim := { program := "ytgdipcoknfhobaa", sum := "38c8833441e624fcdcce25ef231516c4a770db69464e9fc5faec98940ef060ea", func := "orchestrator/orchestratorlaw29.LeaseExclusive", spec := "leaseExclusive", apart := false }
def LeaseExclusiveSaid : Prop := leaseExclusiveRow.holds Try.pinned (OpenSpec.ofChange leaseExclusiveSpec)

/-- ITS FALSE NEIGHBOUR: 'it returns false'. Refute it at one input. -/
def leaseExclusiveWrong : ChangeSpec := { name := "leaseExclusive", fn := fun _ => fun
  | [d1, d2] => { results := [.lit (.bool false)], args := [d1, d2] }
  | _ => none }
def LeaseExclusiveWrongFalsely : Prop := leaseExclusiveRow.holds Try.pinned (OpenSpec.ofChange leaseExclusiveWrong)

/-- 'orchestratorlaw29.LeaseKeeps': WHATEVER THE INPUT: true; the input reads as it did. -/
def leaseKeepsSpec : ChangeSpec := { name := "leaseKeeps", fn := fun _ => fun
  | [d1, d2, d3, d4] => { results := [.lit (.bool true)], args := [d1, d2, d3, d4] }
  | _ => none }
def leaseKeepsRow : OpenClaim := { program := "ytgdipcoknfhobaa", sum := "38c8833441e624fcdcce25ef231516c4a770db69464e9fc5faec98940ef060ea", func := "orchestrator/orchestratorlaw29.LeaseKeeps", spec := "leaseKeeps", apart := false }
def LeaseKeepsSaid : Prop := leaseKeepsRow.holds Try.pinned (OpenSpec.ofChange leaseKeepsSpec)

/-- ITS FALSE NEIGHBOUR: 'it returns false'. Refute it at one input. -/
def leaseKeepsWrong : ChangeSpec := { name := "leaseKeeps", fn := fun _ => fun
  | [d1, d2, d3, d4] => { results := [.lit (.bool false)], args := [d1, d2, d3, d4] }
  | _ => none }
def LeaseKeepsWrongFalsely : Prop := leaseKeepsRow.holds Try.pinned (OpenSpec.ofChange leaseKeepsWrong)

/-- 'orchestratorlaw29.LeaseSwitches': WHATEVER THE INPUT: true; the input reads as it did. -/
def leaseSwitchesSpec : ChangeSpec := { name := "leaseSwitches", fn := fun _ => fun
  | [d] => { results := [.lit (.bool true)], args := [d] }
  | _ => none }
def leaseSwitchesRow : OpenClaim := { program := "ytgdipcoknfhobaa", sum := "38c8833441e624fcdcce25ef231516c4a770db69464e9fc5faec98940ef060ea", func := "orchestrator/orchestratorlaw29.LeaseSwitches", spec := "leaseSwitches", apart := false }
def LeaseSwitchesSaid : Prop := leaseSwitchesRow.holds Try.pinned (OpenSpec.ofChange leaseSwitchesSpec)

/-- ITS FALSE NEIGHBOUR: 'it returns false'. Refute it at one input. -/
def leaseSwitchesWrong : ChangeSpec := { name := "leaseSwitches", fn := fun _ => fun
  | [d] => { results := [.lit (.bool false)], args := [d] }
  | _ => none }
def LeaseSwitchesWrongFalsely : Prop := leaseSwitchesRow.holds Try.pinned (OpenSpec.ofChange leaseSwitchesWrong)

/- THE SECOND FORM. 'bulk': how many values and letters a reading holds, each counted each time it is reached (what is shared counts as often as it is met; a slice's spare places count too). A statement '..UptoSaid' is the law's where the arguments, and the package variables that the reading takes, are together of bulk at most 1048576: NARROWER than '..Said'. Prove '..Said' where nothing that the law and all that it calls make is longer than what came in: it says more and counts as full. Else prove '..UptoSaid'. A law counts once. -/
mutual
def uptoBulk {H : Type} : DataW H → Nat
  | .lit (.string bytes) => bytes.length + 1
  | .lit _ => 1
  | .nil => 1
  | .ptr d => uptoBulk d + 1
  | .slice elems spare => uptoBulkAll elems + uptoBulkAll spare + 1
  | .agg parts => uptoBulkAll parts + 1
  | .iface _ d => uptoBulk d + 1
  | .map entries => uptoBulkEntries entries + 1
  | .held _ => 1
def uptoBulkAll {H : Type} : List (DataW H) → Nat
  | [] => 0
  | d :: r => uptoBulk d + uptoBulkAll r
def uptoBulkEntries {H : Type} : List (Lit × DataW H) → Nat
  | [] => 0
  | x :: r => uptoBulkEntry x + uptoBulkEntries r
def uptoBulkEntry {H : Type} : Lit × DataW H → Nat
  | (.string bytes, d) => bytes.length + uptoBulk d + 1
  | (_, d) => uptoBulk d + 1
 end
def uptoSmall : (H : Type) → List (DataW H) → Bool := fun _ ds => decide (uptoBulkAll ds ≤ 1048576)
def OpenSpec.upto (s : _root_.Go.ChangeSpec) : _root_.Go.OpenSpec := { _root_.Go.OpenSpec.ofChange s with cond := some uptoSmall }

/-- 'orchestratorlaw34.ProbeBegins', WHERE WHAT IT READS IS OF BULK AT MOST 1048576: true; the input reads as it did. -/
def probeBeginsUptoRow : OpenClaim := { program := "ytgdipcoknfhobaa", sum := "38c8833441e624fcdcce25ef231516c4a770db69464e9fc5faec98940ef060ea", func := "orchestrator/orchestratorlaw34.ProbeBegins", spec := "probeBegins", unfollowed := true, recurses := true, apart := false, narrowed := true }
def ProbeBeginsUptoSaid : Prop := probeBeginsUptoRow.holds Try.pinned (OpenSpec.upto probeBeginsSpec)

/-- 'orchestratorlaw34.ProbeSteps', WHERE WHAT IT READS IS OF BULK AT MOST 1048576: true; the input reads as it did. -/
def probeStepsUptoRow : OpenClaim := { program := "ytgdipcoknfhobaa", sum := "38c8833441e624fcdcce25ef231516c4a770db69464e9fc5faec98940ef060ea", func := "orchestrator/orchestratorlaw34.ProbeSteps", spec := "probeSteps", unfollowed := true, recurses := true, apart := false, narrowed := true }
def ProbeStepsUptoSaid : Prop := probeStepsUptoRow.holds Try.pinned (OpenSpec.upto probeStepsSpec)

/-- 'orchestratorlaw34.ProbeThresholds', WHERE WHAT IT READS IS OF BULK AT MOST 1048576: true; the input reads as it did. -/
def probeThresholdsUptoRow : OpenClaim := { program := "ytgdipcoknfhobaa", sum := "38c8833441e624fcdcce25ef231516c4a770db69464e9fc5faec98940ef060ea", func := "orchestrator/orchestratorlaw34.ProbeThresholds", spec := "probeThresholds", unfollowed := true, recurses := true, apart := false, narrowed := true }
def ProbeThresholdsUptoSaid : Prop := probeThresholdsUptoRow.holds Try.pinned (OpenSpec.upto probeThresholdsSpec)

/-- 'orchestratorlaw34.ProbeOne', WHERE WHAT IT READS IS OF BULK AT MOST 1048576: true; the input reads as it did. -/
def probeOneUptoRow : OpenClaim := { program := "ytgdipcoknfhobaa", sum := "38c8833441e624fcdcce25ef231516c4a770db69464e9fc5faec98940ef060ea", func := "orchestrator/orchestratorlaw34.ProbeOne", spec := "probeOne", unfollowed := true, recurses := true, apart := false, narrowed := true }
def ProbeOneUptoSaid : Prop := probeOneUptoRow.holds Try.pinned (OpenSpec.upto probeOneSpec)

/-- 'orchestratorlaw29.LeaseTries', WHERE WHAT IT READS IS OF BULK AT MOST 1048576: true; the input reads as it did. -/
def leaseTriesUptoRow : OpenClaim := { program := "ytgdipcoknfhobaa", sum := "38c8833441e624fcdcce25ef231516c4a770db69464e9fc5faec98940ef060ea", func := "orchestrator/orchestratorlaw29.LeaseTries", spec := "leaseTries", apart := false, narrowed := true }
def LeaseTriesUptoSaid : Prop := leaseTriesUptoRow.holds Try.pinned (OpenSpec.upto leaseTriesSpec)

/-- 'orchestratorlaw29.LeaseExclusive', WHERE WHAT IT READS IS OF BULK AT MOST 1048576: true; the input reads as it did. -/
def leaseExclusiveUptoRow : OpenClaim := { program := "ytgdipcoknfhobaa", sum := "38c8833441e624fcdcce25ef231516c4a770db69464e9fc5faec98940ef060ea", func := "orchestrator/orchestratorlaw29.LeaseExclusive", spec := "leaseExclusive", apart := false, narrowed := true }
def LeaseExclusiveUptoSaid : Prop := leaseExclusiveUptoRow.holds Try.pinned (OpenSpec.upto leaseExclusiveSpec)

/-- 'orchestratorlaw29.LeaseKeeps', WHERE WHAT IT READS IS OF BULK AT MOST 1048576: true; the input reads as it did. -/
def leaseKeepsUptoRow : OpenClaim := { program := "ytgdipcoknfhobaa", sum := "38c8833441e624fcdcce25ef231516c4a770db69464e9fc5faec98940ef060ea", func := "orchestrator/orchestratorlaw29.LeaseKeeps", spec := "leaseKeeps", apart := false, narrowed := true }
def LeaseKeepsUptoSaid : Prop := leaseKeepsUptoRow.holds Try.pinned (OpenSpec.upto leaseKeepsSpec)

/-- 'orchestratorlaw29.LeaseSwitches', WHERE WHAT IT READS IS OF BULK AT MOST 1048576: true; the input reads as it did. -/
def leaseSwitchesUptoRow : OpenClaim := { program := "ytgdipcoknfhobaa", sum := "38c8833441e624fcdcce25ef231516c4a770db69464e9fc5faec98940ef060ea", func := "orchestrator/orchestratorlaw29.LeaseSwitches", spec := "leaseSwitches", apart := false, narrowed := true }
def LeaseSwitchesUptoSaid : Prop := leaseSwitchesUptoRow.holds Try.pinned (OpenSpec.upto leaseSwitchesSpec)

end Rows
end Go.Proofs.Ytgdipcoknfhobaa
