/-
  NARROWER THAN 'FOR EVERY INPUT', by the rows' own cells (each row's printed sentence says how): WorkcodecReads: loops · WorkcodecDecodes: loops.
  DERIVED. THE GIVEN ROWS OF THIS SEAT. 6 by the template 'for every input the law returns true; each argument reads behind the call as it read before'; 0 by the template 'total and deterministic' (their statements: YtimjjohlpnkacaaGreatTotals.lean).
  GIVEN WITH THE SEED: the statements are not yours to turn. If you find one false, say at which input.
  Laid BY PROGRAM, IN A SANDBOX (cutbox-rows.mjs): the forced cells as the released guide's own fill.sh prints them over the translation 6f24753d534438e2… (all of the seat's roots in one cut). By AI agents, Wed Nov 11 2026. No macro, syntax, notation, axiom, sorry.
-/
import Derived.Test.YtimjjohlpnkacaaGreatChecked
import GoSem.Claim
import GoSem.ClaimJoined
import GoSem.ClaimMapViews
import Derived.JoinedTies
import Derived.KernelRfl
namespace Go.Proofs.YtimjjohlpnkacaaGreat
/- THE CELL 'sum', in the pinned program and in every row, IS THE sha256 OF THE DUMP (.gsa) THAT YtimjjohlpnkacaaGreatProg.lean LOADS. Nothing in Lean hashes anything: it is a label: what it is worth is what the hold of that sum in a sandbox is worth. -/
noncomputable def Tryz.pinned : Pinned := { name := "ytimjjohlpnkacaagreat", sum := "6f24753d534438e29262d0cad15b499d8ee16f141c99d461afe2b7672a94e6ae", checked := Tryz.checked }
namespace Rows
def none {H : Type} : Left H := { results := [], args := [] }

/-- 'orchestratorlaw20.WorkcodecScaled': WHATEVER THE INPUT: true; the input reads as it did. -/
def workcodecScaledSpec : ChangeSpec := { name := "workcodecScaled", fn := fun _ => fun
  | [d1, d2] => { results := [.lit (.bool true)], args := [d1, d2] }
  | _ => none }
def workcodecScaledRow : OpenClaim := { program := "ytimjjohlpnkacaagreat", sum := "6f24753d534438e29262d0cad15b499d8ee16f141c99d461afe2b7672a94e6ae", func := "orchestrator/orchestratorlaw20.WorkcodecScaled", spec := "workcodecScaled", inPlace := ["internal/bytealg.abigen_runtime_cmpstring"], unfollowed := true, recurses := true, apart := false }
def WorkcodecScaledSaid : Prop := workcodecScaledRow.holds Tryz.pinned (OpenSpec.ofChange workcodecScaledSpec)

/-- ITS FALSE NEIGHBOUR: 'it returns false'. Refute it at one input. -/
def workcodecScaledWrong : ChangeSpec := { name := "workcodecScaled", fn := fun _ => fun
  | [d1, d2] => { results := [.lit (.bool false)], args := [d1, d2] }
  | _ => none }
def WorkcodecScaledWrongFalsely : Prop := workcodecScaledRow.holds Tryz.pinned (OpenSpec.ofChange workcodecScaledWrong)

/-- 'orchestratorlaw20.WorkcodecBack': WHATEVER THE INPUT: true; the input reads as it did. -/
def workcodecBackSpec : ChangeSpec := { name := "workcodecBack", fn := fun _ => fun
  | [d1, d2, d3, d4] => { results := [.lit (.bool true)], args := [d1, d2, d3, d4] }
  | _ => none }
def workcodecBackRow : OpenClaim := { program := "ytimjjohlpnkacaagreat", sum := "6f24753d534438e29262d0cad15b499d8ee16f141c99d461afe2b7672a94e6ae", func := "orchestrator/orchestratorlaw20.WorkcodecBack", spec := "workcodecBack", inPlace := ["internal/bytealg.abigen_runtime_cmpstring"], unfollowed := true, recurses := true, apart := false }
def WorkcodecBackSaid : Prop := workcodecBackRow.holds Tryz.pinned (OpenSpec.ofChange workcodecBackSpec)

/-- ITS FALSE NEIGHBOUR: 'it returns false'. Refute it at one input. -/
def workcodecBackWrong : ChangeSpec := { name := "workcodecBack", fn := fun _ => fun
  | [d1, d2, d3, d4] => { results := [.lit (.bool false)], args := [d1, d2, d3, d4] }
  | _ => none }
def WorkcodecBackWrongFalsely : Prop := workcodecBackRow.holds Tryz.pinned (OpenSpec.ofChange workcodecBackWrong)

/-- 'orchestratorlaw20.WorkcodecReads': WHATEVER THE INPUT: true; the input reads as it did. -/
def workcodecReadsSpec : ChangeSpec := { name := "workcodecReads", fn := fun _ => fun
  | [d] => { results := [.lit (.bool true)], args := [d] }
  | _ => none }
def workcodecReadsRow : OpenClaim := { program := "ytimjjohlpnkacaagreat", sum := "6f24753d534438e29262d0cad15b499d8ee16f141c99d461afe2b7672a94e6ae", func := "orchestrator/orchestratorlaw20.WorkcodecReads", spec := "workcodecReads", inPlace := ["internal/bytealg.abigen_runtime_cmpstring"], unfollowed := true, recurses := true, loops := true, apart := false }
def WorkcodecReadsSaid : Prop := workcodecReadsRow.holds Tryz.pinned (OpenSpec.ofChange workcodecReadsSpec)

/-- ITS FALSE NEIGHBOUR: 'it returns false'. Refute it at one input. -/
def workcodecReadsWrong : ChangeSpec := { name := "workcodecReads", fn := fun _ => fun
  | [d] => { results := [.lit (.bool false)], args := [d] }
  | _ => none }
def WorkcodecReadsWrongFalsely : Prop := workcodecReadsRow.holds Tryz.pinned (OpenSpec.ofChange workcodecReadsWrong)

/-- 'orchestratorlaw20.WorkcodecDecodes': WHATEVER THE INPUT: true; the input reads as it did. -/
def workcodecDecodesSpec : ChangeSpec := { name := "workcodecDecodes", fn := fun _ => fun
  | [d] => { results := [.lit (.bool true)], args := [d] }
  | _ => none }
def workcodecDecodesRow : OpenClaim := { program := "ytimjjohlpnkacaagreat", sum := "6f24753d534438e29262d0cad15b499d8ee16f141c99d461afe2b7672a94e6ae", func := "orchestrator/orchestratorlaw20.WorkcodecDecodes", spec := "workcodecDecodes", inPlace := ["internal/bytealg.abigen_runtime_cmpstring"], unfollowed := true, recurses := true, loops := true, apart := false }
def WorkcodecDecodesSaid : Prop := workcodecDecodesRow.holds Tryz.pinned (OpenSpec.ofChange workcodecDecodesSpec)

/-- ITS FALSE NEIGHBOUR: 'it returns false'. Refute it at one input. -/
def workcodecDecodesWrong : ChangeSpec := { name := "workcodecDecodes", fn := fun _ => fun
  | [d] => { results := [.lit (.bool false)], args := [d] }
  | _ => none }
def WorkcodecDecodesWrongFalsely : Prop := workcodecDecodesRow.holds Tryz.pinned (OpenSpec.ofChange workcodecDecodesWrong)

/-- 'orchestratorlaw20.WorkcodecJobs': WHATEVER THE INPUT: true; the input reads as it did. -/
def workcodecJobsSpec : ChangeSpec := { name := "workcodecJobs", fn := fun _ => fun
  | [d1, d2] => { results := [.lit (.bool true)], args := [d1, d2] }
  | _ => none }
def workcodecJobsRow : OpenClaim := { program := "ytimjjohlpnkacaagreat", sum := "6f24753d534438e29262d0cad15b499d8ee16f141c99d461afe2b7672a94e6ae", func := "orchestrator/orchestratorlaw20.WorkcodecJobs", spec := "workcodecJobs", inPlace := ["internal/bytealg.abigen_runtime_cmpstring"], unfollowed := true, recurses := true, apart := false }
def WorkcodecJobsSaid : Prop := workcodecJobsRow.holds Tryz.pinned (OpenSpec.ofChange workcodecJobsSpec)

/-- ITS FALSE NEIGHBOUR: 'it returns false'. Refute it at one input. -/
def workcodecJobsWrong : ChangeSpec := { name := "workcodecJobs", fn := fun _ => fun
  | [d1, d2] => { results := [.lit (.bool false)], args := [d1, d2] }
  | _ => none }
def WorkcodecJobsWrongFalsely : Prop := workcodecJobsRow.holds Tryz.pinned (OpenSpec.ofChange workcodecJobsWrong)

/-- 'orchestratorlaw20.WorkcodecSets': WHATEVER THE INPUT: true; the input reads as it did. -/
def workcodecSetsSpec : ChangeSpec := { name := "workcodecSets", fn := fun _ => fun
  | [d1, d2, d3] => { results := [.lit (.bool true)], args := [d1, d2, d3] }
  | _ => none }
def workcodecSetsRow : OpenClaim := { program := "ytimjjohlpnkacaagreat", sum := "6f24753d534438e29262d0cad15b499d8ee16f141c99d461afe2b7672a94e6ae", func := "orchestrator/orchestratorlaw20.WorkcodecSets", spec := "workcodecSets", inPlace := ["internal/bytealg.abigen_runtime_cmpstring"], unfollowed := true, recurses := true, apart := false }
def WorkcodecSetsSaid : Prop := workcodecSetsRow.holds Tryz.pinned (OpenSpec.ofChange workcodecSetsSpec)

/-- ITS FALSE NEIGHBOUR: 'it returns false'. Refute it at one input. -/
def workcodecSetsWrong : ChangeSpec := { name := "workcodecSets", fn := fun _ => fun
  | [d1, d2, d3] => { results := [.lit (.bool false)], args := [d1, d2, d3] }
  | _ => none }
def WorkcodecSetsWrongFalsely : Prop := workcodecSetsRow.holds Tryz.pinned (OpenSpec.ofChange workcodecSetsWrong)

/- THE SECOND FORM. 'bulk': how many values and letters a reading holds, each counted each time it is reached (what is shared counts as often as it is met; a slice's spare places count too). A statement '..UptoSaid' is the law's where the arguments, and the package variables that the reading takes, are together of bulk at most 1048576: NARROWER than '..Said'. Prove '..Said' where nothing that the law and all that it calls make is longer than what came in: it says more and counts as full. Else prove '..UptoSaid'. A law counts once. -/
mutual
def uptoBulk {H : Type} : DataW H → Nat
  | .lit (.string bytes) => bytes.length + 1
  | .lit _ => 1
  | .nil => 1
  | .ptr d => uptoBulk d + 1
  | .slice elems spare => uptoBulkAll elems + uptoBulkAll spare + 1
  | .agg parts => uptoBulkAll parts + 1
  | .iface _ d => uptoBulk d + 1
  | .map entries => uptoBulkEntries entries + 1
  | .held _ => 1
def uptoBulkAll {H : Type} : List (DataW H) → Nat
  | [] => 0
  | d :: r => uptoBulk d + uptoBulkAll r
def uptoBulkEntries {H : Type} : List (Lit × DataW H) → Nat
  | [] => 0
  | x :: r => uptoBulkEntry x + uptoBulkEntries r
def uptoBulkEntry {H : Type} : Lit × DataW H → Nat
  | (.string bytes, d) => bytes.length + uptoBulk d + 1
  | (_, d) => uptoBulk d + 1
 end
def uptoSmall : (H : Type) → List (DataW H) → Bool := fun _ ds => decide (uptoBulkAll ds ≤ 1048576)
def OpenSpec.upto (s : _root_.Go.ChangeSpec) : _root_.Go.OpenSpec := { _root_.Go.OpenSpec.ofChange s with cond := some uptoSmall }

/-- 'orchestratorlaw20.WorkcodecScaled', WHERE WHAT IT READS IS OF BULK AT MOST 1048576: true; the input reads as it did. -/
def workcodecScaledUptoRow : OpenClaim := { program := "ytimjjohlpnkacaagreat", sum := "6f24753d534438e29262d0cad15b499d8ee16f141c99d461afe2b7672a94e6ae", func := "orchestrator/orchestratorlaw20.WorkcodecScaled", spec := "workcodecScaled", inPlace := ["internal/bytealg.abigen_runtime_cmpstring"], unfollowed := true, recurses := true, apart := false, narrowed := true }
def WorkcodecScaledUptoSaid : Prop := workcodecScaledUptoRow.holds Tryz.pinned (OpenSpec.upto workcodecScaledSpec)

/-- 'orchestratorlaw20.WorkcodecBack', WHERE WHAT IT READS IS OF BULK AT MOST 1048576: true; the input reads as it did. -/
def workcodecBackUptoRow : OpenClaim := { program := "ytimjjohlpnkacaagreat", sum := "6f24753d534438e29262d0cad15b499d8ee16f141c99d461afe2b7672a94e6ae", func := "orchestrator/orchestratorlaw20.WorkcodecBack", spec := "workcodecBack", inPlace := ["internal/bytealg.abigen_runtime_cmpstring"], unfollowed := true, recurses := true, apart := false, narrowed := true }
def WorkcodecBackUptoSaid : Prop := workcodecBackUptoRow.holds Tryz.pinned (OpenSpec.upto workcodecBackSpec)

/-- 'orchestratorlaw20.WorkcodecReads', WHERE WHAT IT READS IS OF BULK AT MOST 1048576: true; the input reads as it did. -/
def workcodecReadsUptoRow : OpenClaim := { program := "ytimjjohlpnkacaagreat", sum := "6f24753d534438e29262d0cad15b499d8ee16f141c99d461afe2b7672a94e6ae", func := "orchestrator/orchestratorlaw20.WorkcodecReads", spec := "workcodecReads", inPlace := ["internal/bytealg.abigen_runtime_cmpstring"], unfollowed := true, recurses := true, loops := true, apart := false, narrowed := true }
def WorkcodecReadsUptoSaid : Prop := workcodecReadsUptoRow.holds Tryz.pinned (OpenSpec.upto workcodecReadsSpec)

/-- 'orchestratorlaw20.WorkcodecDecodes', WHERE WHAT IT READS IS OF BULK AT MOST 1048576: true; the input reads as it did. -/
def workcodecDecodesUptoRow : OpenClaim := { program := "ytimjjohlpnkacaagreat", sum := "6f24753d534438e29262d0cad15b499d8ee16f141c99d461afe2b7672a94e6ae", func := "orchestrator/orchestratorlaw20.WorkcodecDecodes", spec := "workcodecDecodes", inPlace := ["internal/bytealg.abigen_runtime_cmpstring"], unfollowed := true, recurses := true, loops := true, apart := false, narrowed := true }
def WorkcodecDecodesUptoSaid : Prop := workcodecDecodesUptoRow.holds Tryz.pinned (OpenSpec.upto workcodecDecodesSpec)

/-- 'orchestratorlaw20.WorkcodecJobs', WHERE WHAT IT READS IS OF BULK AT MOST 1048576: true; the input reads as it did. -/
def workcodecJobsUptoRow : OpenClaim := { program := "ytimjjohlpnkacaagreat", sum := "6f24753d534438e29262d0cad15b499d8ee16f141c99d461afe2b7672a94e6ae", func := "orchestrator/orchestratorlaw20.WorkcodecJobs", spec := "workcodecJobs", inPlace := ["internal/bytealg.abigen_runtime_cmpstring"], unfollowed := true, recurses := true, apart := false, narrowed := true }
def WorkcodecJobsUptoSaid : Prop := workcodecJobsUptoRow.holds Tryz.pinned (OpenSpec.upto workcodecJobsSpec)

/-- 'orchestratorlaw20.WorkcodecSets', WHERE WHAT IT READS IS OF BULK AT MOST 1048576: true; the input reads as it did. -/
def workcodecSetsUptoRow : OpenClaim := { program := "ytimjjohlpnkacaagreat", sum := "6f24753d534438e29262d0cad15b499d8ee16f141c99d461afe2b7672a94e6ae", func := "orchestrator/orchestratorlaw20.WorkcodecSets", spec := "workcodecSets", inPlace := ["internal/bytealg.abigen_runtime_cmpstring"], unfollowed := true, recurses := true, apart := false, narrowed := true }
def WorkcodecSetsUptoSaid : Prop := workcodecSetsUptoRow.holds Tryz.pinned (OpenSpec.upto workcodecSetsSpec)

end Rows
end Go.Proofs.YtimjjohlpnkacaaGreat
