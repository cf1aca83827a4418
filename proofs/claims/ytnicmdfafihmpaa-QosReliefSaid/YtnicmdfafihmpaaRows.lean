/-
  No cell of these rows narrows 'for every input' (looked for: loops, veiled, ifaces, maps, wideKeys, modest, calm, conditions, laid).
  DERIVED. THE GIVEN ROWS OF THIS SEAT. 4 by the template 'for every input the law returns true; each argument reads behind the call as it read before'; 0 by the template 'total and deterministic' (their statements: YtnicmdfafihmpaaTotals.lean).
  GIVEN WITH THE SEED: the statements are not yours to turn. If you find one false, say at which input.
  Laid BY PROGRAM, IN A SANDBOX (cutbox-rows.mjs): the forced cells as the released guide's own fill.sh prints them over the translation a9b98658fb540a75… (all of the seat's roots in one cut). By AI agents, Wed Nov 11 2026. No macro, syntax, notation, axiom, sorry.
-/
import Derived.Test.YtnicmdfafihmpaaChecked
import GoSem.Claim
import GoSem.ClaimJoined
import GoSem.ClaimMapViews
import Derived.JoinedTies
import Derived.KernelRfl
namespace Go.Proofs.Ytnicmdfafihmpaa
/- THE CELL 'sum', in the pinned program and in every row, IS THE sha256 OF THE DUMP (.gsa) THAT YtnicmdfafihmpaaProg.lean LOADS. Nothing in Lean hashes anything: it is a label: what it is worth is what the hold of that sum in a sandbox is worth. -/
noncomputable def Try.pinned : Pinned := { name := "ytnicmdfafihmpaa", sum := "a9b98658fb540a75e9b1e8d193a6bc620c9e130f9cc5655bd9013d409f7c33f0", checked := Try.checked }
namespace Rows
def none {H : Type} : Left H := { results := [], args := [] }

/-- 'orchestratorlaw51.QosClass': WHATEVER THE INPUT: true; the input reads as it did. -/
def qosClassSpec : ChangeSpec := { name := "qosClass", fn := fun _ => fun
  | [d] => { results := [.lit (.bool true)], args := [d] }
  | _ => none }
def qosClassRow : OpenClaim := { program := "ytnicmdfafihmpaa", sum := "a9b98658fb540a75e9b1e8d193a6bc620c9e130f9cc5655bd9013d409f7c33f0", func := "orchestrator/orchestratorlaw51.QosClass", spec := "qosClass", inPlace := ["internal/bytealg.abigen_runtime_cmpstring"], unfollowed := true, recurses := true, apart := false }
def QosClassSaid : Prop := qosClassRow.holds Try.pinned (OpenSpec.ofChange qosClassSpec)

/-- ITS FALSE NEIGHBOUR: 'it returns false'. Refute it at one input. -/
def qosClassWrong : ChangeSpec := { name := "qosClass", fn := fun _ => fun
  | [d] => { results := [.lit (.bool false)], args := [d] }
  | _ => none }
def QosClassWrongFalsely : Prop := qosClassRow.holds Try.pinned (OpenSpec.ofChange qosClassWrong)

/-- 'orchestratorlaw51.QosRanks': WHATEVER THE INPUT: true; the input reads as it did. -/
def qosRanksSpec : ChangeSpec := { name := "qosRanks", fn := fun _ => fun
  | [d1, d2, d3, d4] => { results := [.lit (.bool true)], args := [d1, d2, d3, d4] }
  | _ => none }
def qosRanksRow : OpenClaim := { program := "ytnicmdfafihmpaa", sum := "a9b98658fb540a75e9b1e8d193a6bc620c9e130f9cc5655bd9013d409f7c33f0", func := "orchestrator/orchestratorlaw51.QosRanks", spec := "qosRanks", inPlace := ["internal/bytealg.abigen_runtime_cmpstring"], unfollowed := true, recurses := true, apart := false }
def QosRanksSaid : Prop := qosRanksRow.holds Try.pinned (OpenSpec.ofChange qosRanksSpec)

/-- ITS FALSE NEIGHBOUR: 'it returns false'. Refute it at one input. -/
def qosRanksWrong : ChangeSpec := { name := "qosRanks", fn := fun _ => fun
  | [d1, d2, d3, d4] => { results := [.lit (.bool false)], args := [d1, d2, d3, d4] }
  | _ => none }
def QosRanksWrongFalsely : Prop := qosRanksRow.holds Try.pinned (OpenSpec.ofChange qosRanksWrong)

/-- 'orchestratorlaw51.QosRelief': WHATEVER THE INPUT: true; the input reads as it did. -/
def qosReliefSpec : ChangeSpec := { name := "qosRelief", fn := fun _ => fun
  | [d1, d2, d3, d4] => { results := [.lit (.bool true)], args := [d1, d2, d3, d4] }
  | _ => none }
def qosReliefRow : OpenClaim := { program := "ytnicmdfafihmpaa", sum := "a9b98658fb540a75e9b1e8d193a6bc620c9e130f9cc5655bd9013d409f7c33f0", func := "orchestrator/orchestratorlaw51.QosRelief", spec := "qosRelief", inPlace := ["internal/bytealg.abigen_runtime_cmpstring"], unfollowed := true, recurses := true, apart := false }
def QosReliefSaid : Prop := qosReliefRow.holds Try.pinned (OpenSpec.ofChange qosReliefSpec)

/-- ITS FALSE NEIGHBOUR: 'it returns false'. Refute it at one input. -/
def qosReliefWrong : ChangeSpec := { name := "qosRelief", fn := fun _ => fun
  | [d1, d2, d3, d4] => { results := [.lit (.bool false)], args := [d1, d2, d3, d4] }
  | _ => none }
def QosReliefWrongFalsely : Prop := qosReliefRow.holds Try.pinned (OpenSpec.ofChange qosReliefWrong)

/-- 'orchestratorlaw51.QosRises': WHATEVER THE INPUT: true; the input reads as it did. -/
def qosRisesSpec : ChangeSpec := { name := "qosRises", fn := fun _ => fun
  | [d1, d2, d3, d4] => { results := [.lit (.bool true)], args := [d1, d2, d3, d4] }
  | _ => none }
def qosRisesRow : OpenClaim := { program := "ytnicmdfafihmpaa", sum := "a9b98658fb540a75e9b1e8d193a6bc620c9e130f9cc5655bd9013d409f7c33f0", func := "orchestrator/orchestratorlaw51.QosRises", spec := "qosRises", inPlace := ["internal/bytealg.abigen_runtime_cmpstring"], unfollowed := true, recurses := true, apart := false }
def QosRisesSaid : Prop := qosRisesRow.holds Try.pinned (OpenSpec.ofChange qosRisesSpec)

/-- ITS FALSE NEIGHBOUR: 'it returns false'. Refute it at one input. -/
def qosRisesWrong : ChangeSpec := { name := "qosRises", fn := fun _ => fun
  | [d1, d2, d3, d4] => { results := [.lit (.bool false)], args := [d1, d2, d3, d4] }
  | _ => none }
def QosRisesWrongFalsely : Prop := qosRisesRow.holds Try.pinned (OpenSpec.ofChange qosRisesWrong)

/- THE SECOND FORM. 'bulk': how many values and letters a reading holds, each counted each time it is reached (what is shared counts as often as it is met; a slice's spare places count too). A statement '..UptoSaid' is the law's where the arguments, and the package variables that the reading takes, are together of bulk at most 1048576: NARROWER than '..Said'. Prove '..Said' where nothing that the law and all that it calls make is longer than what came in: it says more and counts as full. Else prove '..UptoSaid'. A law counts once. -/
mutual
def uptoBulk {H : Type} : DataW H → Nat
  | .lit (.string bytes) => bytes.length + 1
  | .lit _ => 1
  | .nil => 1
  | .ptr d => uptoBulk d + 1
  | .slice elems spare => uptoBulkAll elems + uptoBulkAll spare + 1
  | .agg parts => uptoBulkAll parts + 1
  | .iface _ d => uptoBulk d + 1
  | .map entries => uptoBulkEntries entries + 1
  | .held _ => 1
def uptoBulkAll {H : Type} : List (DataW H) → Nat
  | [] => 0
  | d :: r => uptoBulk d + uptoBulkAll r
def uptoBulkEntries {H : Type} : List (Lit × DataW H) → Nat
  | [] => 0
  | x :: r => uptoBulkEntry x + uptoBulkEntries r
def uptoBulkEntry {H : Type} : Lit × DataW H → Nat
  | (.string bytes, d) => bytes.length + uptoBulk d + 1
  | (_, d) => uptoBulk d + 1
 end
def uptoSmall : (H : Type) → List (DataW H) → Bool := fun _ ds => decide (uptoBulkAll ds ≤ 1048576)
def OpenSpec.upto (s : _root_.Go.ChangeSpec) : _root_.Go.OpenSpec := { _root_.Go.OpenSpec.ofChange s with cond := some uptoSmall }

/-- 'orchestratorlaw51.QosClass', WHERE WHAT IT READS IS OF BULK AT MOST 1048576: true; the input reads as it did. -/
def qosClassUptoRow : OpenClaim := { program := "ytnicmdfafihmpaa", sum := "a9b98658fb540a75e9b1e8d193a6bc620c9e130f9cc5655bd9013d409f7c33f0", func := "orchestrator/orchestratorlaw51.QosClass", spec := "qosClass", inPlace := ["internal/bytealg.abigen_runtime_cmpstring"], unfollowed := true, recurses := true, apart := false, narrowed := true }
def QosClassUptoSaid : Prop := qosClassUptoRow.holds Try.pinned (OpenSpec.upto qosClassSpec)

/-- 'orchestratorlaw51.QosRanks', WHERE WHAT IT READS IS OF BULK AT MOST 1048576: true; the input reads as it did. -/
def qosRanksUptoRow : OpenClaim := { program := "ytnicmdfafihmpaa", sum := "a9b98658fb540a75e9b1e8d193a6bc620c9e130f9cc5655bd9013d409f7c33f0", func := "orchestrator/orchestratorlaw51.QosRanks", spec := "qosRanks", inPlace := ["internal/bytealg.abigen_runtime_cmpstring"], unfollowed := true, recurses := true, apart := false, narrowed := true }
def QosRanksUptoSaid : Prop := qosRanksUptoRow.holds Try.pinned (OpenSpec.upto qosRanksSpec)

/-- 'orchestratorlaw51.QosRelief', WHERE WHAT IT READS IS OF BULK AT MOST 1048576: true; the input reads as it did. -/
def qosReliefUptoRow : OpenClaim := { program := "ytnicmdfafihmpaa", sum := "a9b98658fb540a75e9b1e8d193a6bc620c9e130f9cc5655bd9013d409f7c33f0", func := "orchestrator/orchestratorlaw51.QosRelief", spec := "qosRelief", inPlace := ["internal/bytealg.abigen_runtime_cmpstring"], unfollowed := true, recurses := true, apart := false, narrowed := true }
def QosReliefUptoSaid : Prop := qosReliefUptoRow.holds Try.pinned (OpenSpec.upto qosReliefSpec)

/-- 'orchestratorlaw51.QosRises', WHERE WHAT IT READS IS OF BULK AT MOST 1048576: true; the input reads as it did. -/
def qosRisesUptoRow : OpenClaim := { program := "ytnicmdfafihmpaa", sum := "a9b98658fb540a75e9b1e8d193a6bc620c9e130f9cc5655bd9013d409f7c33f0", func := "orchestrator/orchestratorlaw51.QosRises", spec := "qosRises", inPlace := ["internal/bytealg.abigen_runtime_cmpstring"], unfollowed := true, recurses := true, apart := false, narrowed := true }
def QosRisesUptoSaid : Prop := qosRisesUptoRow.holds Try.pinned (OpenSpec.upto qosRisesSpec)

end Rows
end Go.Proofs.Ytnicmdfafihmpaa
