/-
  NARROWER THAN 'FOR EVERY INPUT', by the rows' own cells (each row's printed sentence says how): PatchMerges: loops · PatchDiffs: loops · PatchComposes: loops · PatchCompose: loops · PatchBack: loops · PatchMinimal: loops · PatchAgain: loops.
  DERIVED. THE GIVEN ROWS OF THIS SEAT. 7 by the template 'for every input the law returns true; each argument reads behind the call as it read before'; 0 by the template 'total and deterministic' (their statements: YtnhhddbbppbblaaTotals.lean).
  GIVEN WITH THE SEED: the statements are not yours to turn. If you find one false, say at which input.
  Laid BY PROGRAM, IN A SANDBOX (cutbox-rows.mjs): the forced cells as the released guide's own fill.sh prints them over the translation d7c54176207f876b… (all of the seat's roots in one cut). By AI agents, Wed Nov 11 2026. No macro, syntax, notation, axiom, sorry.
-/
import Derived.Test.YtnhhddbbppbblaaChecked
import GoSem.Claim
import GoSem.ClaimJoined
import GoSem.ClaimMapViews
import Derived.JoinedTies
import Derived.KernelRfl
namespace Go.Proofs.Ytnhhddbbppbblaa
/- THE CELL 'sum', in the pinned program and in every row, IS THE sha256 OF THE DUMP (.gsa) THAT YtnhhddbbppbblaaProg.lean LOADS. Nothing in Lean hashes anything: it is a label: what it is worth is what the hold of that sum in a sandbox is worth. -/
noncomputable def Try.pinned : Pinned := { name := "ytnhhddbbppbblaa", sum := "d7c54176207f876ba2b3c8d0fc2bd2f257c3c8fc9b68547ea1c7c8cb284d5185", checked := Try.checked }
namespace Rows
def none {H : Type} : Left H := { results := [], args := [] }

/-- 'orchestratorlaw09.PatchMerges': WHATEVER THE INPUT: true; the input reads as it did. -/
def patchMergesSpec : ChangeSpec := { name := "patchMerges", fn := fun _ => fun
  | [d1, d2] => { results := [.lit (.bool true)], args := [d1, d2] }
  | _ => none }
def patchMergesRow : OpenClaim := { program := "ytnhhddbbppbblaa", sum := "d7c54176207f876ba2b3c8d0fc2bd2f257c3c8fc9b68547ea1c7c8cb284d5185", func := "orchestrator/orchestratorlaw09.PatchMerges", spec := "patchMerges", inPlace := ["internal/bytealg.abigen_runtime_cmpstring"], unfollowed := true, recurses := true, loops := true, apart := false }
def PatchMergesSaid : Prop := patchMergesRow.holds Try.pinned (OpenSpec.ofChange patchMergesSpec)

/-- ITS FALSE NEIGHBOUR: 'it returns false'. Refute it at one input. -/
def patchMergesWrong : ChangeSpec := { name := "patchMerges", fn := fun _ => fun
  | [d1, d2] => { results := [.lit (.bool false)], args := [d1, d2] }
  | _ => none }
def PatchMergesWrongFalsely : Prop := patchMergesRow.holds Try.pinned (OpenSpec.ofChange patchMergesWrong)

/-- 'orchestratorlaw09.PatchDiffs': WHATEVER THE INPUT: true; the input reads as it did. -/
def patchDiffsSpec : ChangeSpec := { name := "patchDiffs", fn := fun _ => fun
  | [d1, d2] => { results := [.lit (.bool true)], args := [d1, d2] }
  | _ => none }
def patchDiffsRow : OpenClaim := { program := "ytnhhddbbppbblaa", sum := "d7c54176207f876ba2b3c8d0fc2bd2f257c3c8fc9b68547ea1c7c8cb284d5185", func := "orchestrator/orchestratorlaw09.PatchDiffs", spec := "patchDiffs", inPlace := ["internal/bytealg.abigen_runtime_cmpstring"], unfollowed := true, recurses := true, loops := true, apart := false }
def PatchDiffsSaid : Prop := patchDiffsRow.holds Try.pinned (OpenSpec.ofChange patchDiffsSpec)

/-- ITS FALSE NEIGHBOUR: 'it returns false'. Refute it at one input. -/
def patchDiffsWrong : ChangeSpec := { name := "patchDiffs", fn := fun _ => fun
  | [d1, d2] => { results := [.lit (.bool false)], args := [d1, d2] }
  | _ => none }
def PatchDiffsWrongFalsely : Prop := patchDiffsRow.holds Try.pinned (OpenSpec.ofChange patchDiffsWrong)

/-- 'orchestratorlaw09.PatchComposes': WHATEVER THE INPUT: true; the input reads as it did. -/
def patchComposesSpec : ChangeSpec := { name := "patchComposes", fn := fun _ => fun
  | [d1, d2] => { results := [.lit (.bool true)], args := [d1, d2] }
  | _ => none }
def patchComposesRow : OpenClaim := { program := "ytnhhddbbppbblaa", sum := "d7c54176207f876ba2b3c8d0fc2bd2f257c3c8fc9b68547ea1c7c8cb284d5185", func := "orchestrator/orchestratorlaw09.PatchComposes", spec := "patchComposes", inPlace := ["internal/bytealg.abigen_runtime_cmpstring"], unfollowed := true, recurses := true, loops := true, apart := false }
def PatchComposesSaid : Prop := patchComposesRow.holds Try.pinned (OpenSpec.ofChange patchComposesSpec)

/-- ITS FALSE NEIGHBOUR: 'it returns false'. Refute it at one input. -/
def patchComposesWrong : ChangeSpec := { name := "patchComposes", fn := fun _ => fun
  | [d1, d2] => { results := [.lit (.bool false)], args := [d1, d2] }
  | _ => none }
def PatchComposesWrongFalsely : Prop := patchComposesRow.holds Try.pinned (OpenSpec.ofChange patchComposesWrong)

/-- 'orchestratorlaw09.PatchCompose': WHATEVER THE INPUT: true; the input reads as it did. -/
def patchComposeSpec : ChangeSpec := { name := "patchCompose", fn := fun _ => fun
  | [d1, d2, d3] => { results := [.lit (.bool true)], args := [d1, d2, d3] }
  | _ => none }
def patchComposeRow : OpenClaim := { program := "ytnhhddbbppbblaa", sum := "d7c54176207f876ba2b3c8d0fc2bd2f257c3c8fc9b68547ea1c7c8cb284d5185", func := "orchestrator/orchestratorlaw09.PatchCompose", spec := "patchCompose", inPlace := ["internal/bytealg.abigen_runtime_cmpstring"], unfollowed := true, recurses := true, loops := true, apart := false }
def PatchComposeSaid : Prop := patchComposeRow.holds Try.pinned (OpenSpec.ofChange patchComposeSpec)

/-- ITS FALSE NEIGHBOUR: 'it returns false'. Refute it at one input. -/
def patchComposeWrong : ChangeSpec := { name := "patchCompose", fn := fun _ => fun
  | [d1, d2, d3] => { results := [.lit (.bool false)], args := [d1, d2, d3] }
  | _ => none }
def PatchComposeWrongFalsely : Prop := patchComposeRow.holds Try.pinned (OpenSpec.ofChange patchComposeWrong)

/-- 'orchestratorlaw09.PatchBack': WHATEVER THE INPUT: true; the input reads as it did. -/
def patchBackSpec : ChangeSpec := { name := "patchBack", fn := fun _ => fun
  | [d1, d2, d3] => { results := [.lit (.bool true)], args := [d1, d2, d3] }
  | _ => none }
def patchBackRow : OpenClaim := { program := "ytnhhddbbppbblaa", sum := "d7c54176207f876ba2b3c8d0fc2bd2f257c3c8fc9b68547ea1c7c8cb284d5185", func := "orchestrator/orchestratorlaw09.PatchBack", spec := "patchBack", inPlace := ["internal/bytealg.abigen_runtime_cmpstring"], unfollowed := true, recurses := true, loops := true, apart := false }
def PatchBackSaid : Prop := patchBackRow.holds Try.pinned (OpenSpec.ofChange patchBackSpec)

/-- ITS FALSE NEIGHBOUR: 'it returns false'. Refute it at one input. -/
def patchBackWrong : ChangeSpec := { name := "patchBack", fn := fun _ => fun
  | [d1, d2, d3] => { results := [.lit (.bool false)], args := [d1, d2, d3] }
  | _ => none }
def PatchBackWrongFalsely : Prop := patchBackRow.holds Try.pinned (OpenSpec.ofChange patchBackWrong)

/-- 'orchestratorlaw09.PatchMinimal': WHATEVER THE INPUT: true; the input reads as it did. -/
def patchMinimalSpec : ChangeSpec := { name := "patchMinimal", fn := fun _ => fun
  | [d1, d2] => { results := [.lit (.bool true)], args := [d1, d2] }
  | _ => none }
def patchMinimalRow : OpenClaim := { program := "ytnhhddbbppbblaa", sum := "d7c54176207f876ba2b3c8d0fc2bd2f257c3c8fc9b68547ea1c7c8cb284d5185", func := "orchestrator/orchestratorlaw09.PatchMinimal", spec := "patchMinimal", inPlace := ["internal/bytealg.abigen_runtime_cmpstring"], unfollowed := true, recurses := true, loops := true, apart := false }
def PatchMinimalSaid : Prop := patchMinimalRow.holds Try.pinned (OpenSpec.ofChange patchMinimalSpec)

/-- ITS FALSE NEIGHBOUR: 'it returns false'. Refute it at one input. -/
def patchMinimalWrong : ChangeSpec := { name := "patchMinimal", fn := fun _ => fun
  | [d1, d2] => { results := [.lit (.bool false)], args := [d1, d2] }
  | _ => none }
def PatchMinimalWrongFalsely : Prop := patchMinimalRow.holds Try.pinned (OpenSpec.ofChange patchMinimalWrong)

/-- 'orchestratorlaw09.PatchAgain': WHATEVER THE INPUT: true; the input reads as it did. -/
def patchAgainSpec : ChangeSpec := { name := "patchAgain", fn := fun _ => fun
  | [d1, d2] => { results := [.lit (.bool true)], args := [d1, d2] }
  | _ => none }
def patchAgainRow : OpenClaim := { program := "ytnhhddbbppbblaa", sum := "d7c54176207f876ba2b3c8d0fc2bd2f257c3c8fc9b68547ea1c7c8cb284d5185", func := "orchestrator/orchestratorlaw09.PatchAgain", spec := "patchAgain", inPlace := ["internal/bytealg.abigen_runtime_cmpstring"], unfollowed := true, recurses := true, loops := true, apart := false }
def PatchAgainSaid : Prop := patchAgainRow.holds Try.pinned (OpenSpec.ofChange patchAgainSpec)

/-- ITS FALSE NEIGHBOUR: 'it returns false'. Refute it at one input. -/
def patchAgainWrong : ChangeSpec := { name := "patchAgain", fn := fun _ => fun
  | [d1, d2] => { results := [.lit (.bool false)], args := [d1, d2] }
  | _ => none }
def PatchAgainWrongFalsely : Prop := patchAgainRow.holds Try.pinned (OpenSpec.ofChange patchAgainWrong)

/- THE SECOND FORM. 'bulk': how many values and letters a reading holds, each counted each time it is reached (what is shared counts as often as it is met; a slice's spare places count too). A statement '..UptoSaid' is the law's where the arguments, and the package variables that the reading takes, are together of bulk at most 1048576: NARROWER than '..Said'. Prove '..Said' where nothing that the law and all that it calls make is longer than what came in: it says more and counts as full. Else prove '..UptoSaid'. A law counts once. -/
mutual
def uptoBulk {H : Type} : DataW H → Nat
  | .lit (.string bytes) => bytes.length + 1
  | .lit _ => 1
  | .nil => 1
  | .ptr d => uptoBulk d + 1
  | .slice elems spare => uptoBulkAll elems + uptoBulkAll spare + 1
  | .agg parts => uptoBulkAll parts + 1
  | .iface _ d => uptoBulk d + 1
  | .map entries => uptoBulkEntries entries + 1
  | .held _ => 1
def uptoBulkAll {H : Type} : List (DataW H) → Nat
  | [] => 0
  | d :: r => uptoBulk d + uptoBulkAll r
def uptoBulkEntries {H : Type} : List (Lit × DataW H) → Nat
  | [] => 0
  | x :: r => uptoBulkEntry x + uptoBulkEntries r
def uptoBulkEntry {H : Type} : Lit × DataW H → Nat
  | (.string bytes, d) => bytes.length + uptoBulk d + 1
  | (_, d) => uptoBulk d + 1
 end
def uptoSmall : (H : Type) → List (DataW H) → Bool := fun _ ds => decide (uptoBulkAll ds ≤ 1048576)
def OpenSpec.upto (s : _root_.Go.ChangeSpec) : _root_.Go.OpenSpec := { _root_.Go.OpenSpec.ofChange s with cond := some uptoSmall }

/-- 'orchestratorlaw09.PatchMerges', WHERE WHAT IT READS IS OF BULK AT MOST 1048576: true; the input reads as it did. -/
def patchMergesUptoRow : OpenClaim := { program := "ytnhhddbbppbblaa", sum := "d7c54176207f876ba2b3c8d0fc2bd2f257c3c8fc9b68547ea1c7c8cb284d5185", func := "orchestrator/orchestratorlaw09.PatchMerges", spec := "patchMerges", inPlace := ["internal/bytealg.abigen_runtime_cmpstring"], unfollowed := true, recurses := true, loops := true, apart := false, narrowed := true }
def PatchMergesUptoSaid : Prop := patchMergesUptoRow.holds Try.pinned (OpenSpec.upto patchMergesSpec)

/-- 'orchestratorlaw09.PatchDiffs', WHERE WHAT IT READS IS OF BULK AT MOST 1048576: true; the input reads as it did. -/
def patchDiffsUptoRow : OpenClaim := { program := "ytnhhddbbppbblaa", sum := "d7c54176207f876ba2b3c8d0fc2bd2f257c3c8fc9b68547ea1c7c8cb284d5185", func := "orchestrator/orchestratorlaw09.PatchDiffs", spec := "patchDiffs", inPlace := ["internal/bytealg.abigen_runtime_cmpstring"], unfollowed := true, recurses := true, loops := true, apart := false, narrowed := true }
def PatchDiffsUptoSaid : Prop := patchDiffsUptoRow.holds Try.pinned (OpenSpec.upto patchDiffsSpec)

/-- 'orchestratorlaw09.PatchComposes', WHERE WHAT IT READS IS OF BULK AT MOST 1048576: true; the input reads as it did. -/
def patchComposesUptoRow : OpenClaim := { program := "ytnhhddbbppbblaa", sum := "d7c54176207f876ba2b3c8d0fc2bd2f257c3c8fc9b68547ea1c7c8cb284d5185", func := "orchestrator/orchestratorlaw09.PatchComposes", spec := "patchComposes", inPlace := ["internal/bytealg.abigen_runtime_cmpstring"], unfollowed := true, recurses := true, loops := true, apart := false, narrowed := true }
def PatchComposesUptoSaid : Prop := patchComposesUptoRow.holds Try.pinned (OpenSpec.upto patchComposesSpec)

/-- 'orchestratorlaw09.PatchCompose', WHERE WHAT IT READS IS OF BULK AT MOST 1048576: true; the input reads as it did. -/
def patchComposeUptoRow : OpenClaim := { program := "ytnhhddbbppbblaa", sum := "d7c54176207f876ba2b3c8d0fc2bd2f257c3c8fc9b68547ea1c7c8cb284d5185", func := "orchestrator/orchestratorlaw09.PatchCompose", spec := "patchCompose", inPlace := ["internal/bytealg.abigen_runtime_cmpstring"], unfollowed := true, recurses := true, loops := true, apart := false, narrowed := true }
def PatchComposeUptoSaid : Prop := patchComposeUptoRow.holds Try.pinned (OpenSpec.upto patchComposeSpec)

/-- 'orchestratorlaw09.PatchBack', WHERE WHAT IT READS IS OF BULK AT MOST 1048576: true; the input reads as it did. -/
def patchBackUptoRow : OpenClaim := { program := "ytnhhddbbppbblaa", sum := "d7c54176207f876ba2b3c8d0fc2bd2f257c3c8fc9b68547ea1c7c8cb284d5185", func := "orchestrator/orchestratorlaw09.PatchBack", spec := "patchBack", inPlace := ["internal/bytealg.abigen_runtime_cmpstring"], unfollowed := true, recurses := true, loops := true, apart := false, narrowed := true }
def PatchBackUptoSaid : Prop := patchBackUptoRow.holds Try.pinned (OpenSpec.upto patchBackSpec)

/-- 'orchestratorlaw09.PatchMinimal', WHERE WHAT IT READS IS OF BULK AT MOST 1048576: true; the input reads as it did. -/
def patchMinimalUptoRow : OpenClaim := { program := "ytnhhddbbppbblaa", sum := "d7c54176207f876ba2b3c8d0fc2bd2f257c3c8fc9b68547ea1c7c8cb284d5185", func := "orchestrator/orchestratorlaw09.PatchMinimal", spec := "patchMinimal", inPlace := ["internal/bytealg.abigen_runtime_cmpstring"], unfollowed := true, recurses := true, loops := true, apart := false, narrowed := true }
def PatchMinimalUptoSaid : Prop := patchMinimalUptoRow.holds Try.pinned (OpenSpec.upto patchMinimalSpec)

/-- 'orchestratorlaw09.PatchAgain', WHERE WHAT IT READS IS OF BULK AT MOST 1048576: true; the input reads as it did. -/
def patchAgainUptoRow : OpenClaim := { program := "ytnhhddbbppbblaa", sum := "d7c54176207f876ba2b3c8d0fc2bd2f257c3c8fc9b68547ea1c7c8cb284d5185", func := "orchestrator/orchestratorlaw09.PatchAgain", spec := "patchAgain", inPlace := ["internal/bytealg.abigen_runtime_cmpstring"], unfollowed := true, recurses := true, loops := true, apart := false, narrowed := true }
def PatchAgainUptoSaid : Prop := patchAgainUptoRow.holds Try.pinned (OpenSpec.upto patchAgainSpec)

end Rows
end Go.Proofs.Ytnhhddbbppbblaa
