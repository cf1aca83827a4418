/-
  NARROWER THAN 'FOR EVERY INPUT', by the rows' own cells (each row's printed sentence says how): ValueValid: loops · ValueCompares: loops · ValueOrder: loops · ValueBuilds: loops · ValueFields: loops · ValueMaps: loops.
  DERIVED. THE GIVEN ROWS OF THIS SEAT. 6 by the template 'for every input the law returns true; each argument reads behind the call as it read before'; 0 by the template 'total and deterministic' (their statements: YtedohmdgbilicaaTotals.lean).
  GIVEN WITH THE SEED: the statements are not yours to turn. If you find one false, say at which input.
  Laid BY PROGRAM, IN A SANDBOX (cutbox-rows.mjs): the forced cells as the released guide's own fill.sh prints them over the translation 2bc9524323f4e307… (all of the seat's roots in one cut). By AI agents, Wed Nov 11 2026. No macro, syntax, notation, axiom, sorry.
-/
import Derived.Test.YtedohmdgbilicaaChecked
import GoSem.Claim
import GoSem.ClaimJoined
import GoSem.ClaimMapViews
import Derived.JoinedTies
import Derived.KernelRfl
namespace Go.Proofs.Ytedohmdgbilicaa
/- THE CELL 'sum', in the pinned program and in every row, IS THE sha256 OF THE DUMP (.gsa) THAT YtedohmdgbilicaaProg.lean LOADS. Nothing in Lean hashes anything: it is a label: what it is worth is what the hold of that sum in a sandbox is worth. -/
noncomputable def Try.pinned : Pinned := { name := "ytedohmdgbilicaa", sum := "2bc9524323f4e3074f813bd067804991a69aa7864193388d83ea7349deb97292", checked := Try.checked }
namespace Rows
def none {H : Type} : Left H := { results := [], args := [] }

/-- 'orchestratorlaw04.ValueValid': WHATEVER THE INPUT: true; the input reads as it did. -/
def valueValidSpec : ChangeSpec := { name := "valueValid", fn := fun _ => fun
  | [d] => { results := [.lit (.bool true)], args := [d] }
  | _ => none }
def valueValidRow : OpenClaim := { program := "ytedohmdgbilicaa", sum := "2bc9524323f4e3074f813bd067804991a69aa7864193388d83ea7349deb97292", func := "orchestrator/orchestratorlaw04.ValueValid", spec := "valueValid", inPlace := ["internal/bytealg.abigen_runtime_cmpstring"], unfollowed := true, recurses := true, loops := true, apart := false }
def ValueValidSaid : Prop := valueValidRow.holds Try.pinned (OpenSpec.ofChange valueValidSpec)

/-- ITS FALSE NEIGHBOUR: 'it returns false'. Refute it at one input. -/
def valueValidWrong : ChangeSpec := { name := "valueValid", fn := fun _ => fun
  | [d] => { results := [.lit (.bool false)], args := [d] }
  | _ => none }
def ValueValidWrongFalsely : Prop := valueValidRow.holds Try.pinned (OpenSpec.ofChange valueValidWrong)

/-- 'orchestratorlaw04.ValueCompares': WHATEVER THE INPUT: true; the input reads as it did. -/
def valueComparesSpec : ChangeSpec := { name := "valueCompares", fn := fun _ => fun
  | [d1, d2] => { results := [.lit (.bool true)], args := [d1, d2] }
  | _ => none }
def valueComparesRow : OpenClaim := { program := "ytedohmdgbilicaa", sum := "2bc9524323f4e3074f813bd067804991a69aa7864193388d83ea7349deb97292", func := "orchestrator/orchestratorlaw04.ValueCompares", spec := "valueCompares", inPlace := ["internal/bytealg.abigen_runtime_cmpstring"], unfollowed := true, recurses := true, loops := true, apart := false }
def ValueComparesSaid : Prop := valueComparesRow.holds Try.pinned (OpenSpec.ofChange valueComparesSpec)

/-- ITS FALSE NEIGHBOUR: 'it returns false'. Refute it at one input. -/
def valueComparesWrong : ChangeSpec := { name := "valueCompares", fn := fun _ => fun
  | [d1, d2] => { results := [.lit (.bool false)], args := [d1, d2] }
  | _ => none }
def ValueComparesWrongFalsely : Prop := valueComparesRow.holds Try.pinned (OpenSpec.ofChange valueComparesWrong)

/-- 'orchestratorlaw04.ValueOrder': WHATEVER THE INPUT: true; the input reads as it did. -/
def valueOrderSpec : ChangeSpec := { name := "valueOrder", fn := fun _ => fun
  | [d1, d2, d3] => { results := [.lit (.bool true)], args := [d1, d2, d3] }
  | _ => none }
def valueOrderRow : OpenClaim := { program := "ytedohmdgbilicaa", sum := "2bc9524323f4e3074f813bd067804991a69aa7864193388d83ea7349deb97292", func := "orchestrator/orchestratorlaw04.ValueOrder", spec := "valueOrder", inPlace := ["internal/bytealg.abigen_runtime_cmpstring"], unfollowed := true, recurses := true, loops := true, apart := false }
def ValueOrderSaid : Prop := valueOrderRow.holds Try.pinned (OpenSpec.ofChange valueOrderSpec)

/-- ITS FALSE NEIGHBOUR: 'it returns false'. Refute it at one input. -/
def valueOrderWrong : ChangeSpec := { name := "valueOrder", fn := fun _ => fun
  | [d1, d2, d3] => { results := [.lit (.bool false)], args := [d1, d2, d3] }
  | _ => none }
def ValueOrderWrongFalsely : Prop := valueOrderRow.holds Try.pinned (OpenSpec.ofChange valueOrderWrong)

/-- 'orchestratorlaw04.ValueBuilds': WHATEVER THE INPUT: true; the input reads as it did. -/
def valueBuildsSpec : ChangeSpec := { name := "valueBuilds", fn := fun _ => fun
  | [d1, d2, d3, d4, d5] => { results := [.lit (.bool true)], args := [d1, d2, d3, d4, d5] }
  | _ => none }
def valueBuildsRow : OpenClaim := { program := "ytedohmdgbilicaa", sum := "2bc9524323f4e3074f813bd067804991a69aa7864193388d83ea7349deb97292", func := "orchestrator/orchestratorlaw04.ValueBuilds", spec := "valueBuilds", inPlace := ["internal/bytealg.abigen_runtime_cmpstring"], unfollowed := true, recurses := true, loops := true, apart := false }
def ValueBuildsSaid : Prop := valueBuildsRow.holds Try.pinned (OpenSpec.ofChange valueBuildsSpec)

/-- ITS FALSE NEIGHBOUR: 'it returns false'. Refute it at one input. -/
def valueBuildsWrong : ChangeSpec := { name := "valueBuilds", fn := fun _ => fun
  | [d1, d2, d3, d4, d5] => { results := [.lit (.bool false)], args := [d1, d2, d3, d4, d5] }
  | _ => none }
def ValueBuildsWrongFalsely : Prop := valueBuildsRow.holds Try.pinned (OpenSpec.ofChange valueBuildsWrong)

/-- 'orchestratorlaw04.ValueFields': WHATEVER THE INPUT: true; the input reads as it did. -/
def valueFieldsSpec : ChangeSpec := { name := "valueFields", fn := fun _ => fun
  | [d1, d2, d3] => { results := [.lit (.bool true)], args := [d1, d2, d3] }
  | _ => none }
def valueFieldsRow : OpenClaim := { program := "ytedohmdgbilicaa", sum := "2bc9524323f4e3074f813bd067804991a69aa7864193388d83ea7349deb97292", func := "orchestrator/orchestratorlaw04.ValueFields", spec := "valueFields", inPlace := ["internal/bytealg.abigen_runtime_cmpstring"], unfollowed := true, recurses := true, loops := true, apart := false }
def ValueFieldsSaid : Prop := valueFieldsRow.holds Try.pinned (OpenSpec.ofChange valueFieldsSpec)

/-- ITS FALSE NEIGHBOUR: 'it returns false'. Refute it at one input. -/
def valueFieldsWrong : ChangeSpec := { name := "valueFields", fn := fun _ => fun
  | [d1, d2, d3] => { results := [.lit (.bool false)], args := [d1, d2, d3] }
  | _ => none }
def ValueFieldsWrongFalsely : Prop := valueFieldsRow.holds Try.pinned (OpenSpec.ofChange valueFieldsWrong)

/-- 'orchestratorlaw04.ValueMaps': WHATEVER THE INPUT: true; the input reads as it did. -/
def valueMapsSpec : ChangeSpec := { name := "valueMaps", fn := fun _ => fun
  | [d1, d2, d3, d4] => { results := [.lit (.bool true)], args := [d1, d2, d3, d4] }
  | _ => none }
def valueMapsRow : OpenClaim := { program := "ytedohmdgbilicaa", sum := "2bc9524323f4e3074f813bd067804991a69aa7864193388d83ea7349deb97292", func := "orchestrator/orchestratorlaw04.ValueMaps", spec := "valueMaps", inPlace := ["internal/bytealg.abigen_runtime_cmpstring"], unfollowed := true, recurses := true, loops := true, apart := false }
def ValueMapsSaid : Prop := valueMapsRow.holds Try.pinned (OpenSpec.ofChange valueMapsSpec)

/-- ITS FALSE NEIGHBOUR: 'it returns false'. Refute it at one input. -/
def valueMapsWrong : ChangeSpec := { name := "valueMaps", fn := fun _ => fun
  | [d1, d2, d3, d4] => { results := [.lit (.bool false)], args := [d1, d2, d3, d4] }
  | _ => none }
def ValueMapsWrongFalsely : Prop := valueMapsRow.holds Try.pinned (OpenSpec.ofChange valueMapsWrong)

/- THE SECOND FORM. 'bulk': how many values and letters a reading holds, each counted each time it is reached (what is shared counts as often as it is met; a slice's spare places count too). A statement '..UptoSaid' is the law's where the arguments, and the package variables that the reading takes, are together of bulk at most 1048576: NARROWER than '..Said'. Prove '..Said' where nothing that the law and all that it calls make is longer than what came in: it says more and counts as full. Else prove '..UptoSaid'. A law counts once. -/
mutual
def uptoBulk {H : Type} : DataW H → Nat
  | .lit (.string bytes) => bytes.length + 1
  | .lit _ => 1
  | .nil => 1
  | .ptr d => uptoBulk d + 1
  | .slice elems spare => uptoBulkAll elems + uptoBulkAll spare + 1
  | .agg parts => uptoBulkAll parts + 1
  | .iface _ d => uptoBulk d + 1
  | .map entries => uptoBulkEntries entries + 1
  | .held _ => 1
def uptoBulkAll {H : Type} : List (DataW H) → Nat
  | [] => 0
  | d :: r => uptoBulk d + uptoBulkAll r
def uptoBulkEntries {H : Type} : List (Lit × DataW H) → Nat
  | [] => 0
  | x :: r => uptoBulkEntry x + uptoBulkEntries r
def uptoBulkEntry {H : Type} : Lit × DataW H → Nat
  | (.string bytes, d) => bytes.length + uptoBulk d + 1
  | (_, d) => uptoBulk d + 1
 end
def uptoSmall : (H : Type) → List (DataW H) → Bool := fun _ ds => decide (uptoBulkAll ds ≤ 1048576)
def OpenSpec.upto (s : _root_.Go.ChangeSpec) : _root_.Go.OpenSpec := { _root_.Go.OpenSpec.ofChange s with cond := some uptoSmall }

/-- 'orchestratorlaw04.ValueValid', WHERE WHAT IT READS IS OF BULK AT MOST 1048576: true; the input reads as it did. -/
def valueValidUptoRow : OpenClaim := { program := "ytedohmdgbilicaa", sum := "2bc9524323f4e3074f813bd067804991a69aa7864193388d83ea7349deb97292", func := "orchestrator/orchestratorlaw04.ValueValid", spec := "valueValid", inPlace := ["internal/bytealg.abigen_runtime_cmpstring"], unfollowed := true, recurses := true, loops := true, apart := false, narrowed := true }
def ValueValidUptoSaid : Prop := valueValidUptoRow.holds Try.pinned (OpenSpec.upto valueValidSpec)

/-- 'orchestratorlaw04.ValueCompares', WHERE WHAT IT READS IS OF BULK AT MOST 1048576: true; the input reads as it did. -/
def valueComparesUptoRow : OpenClaim := { program := "ytedohmdgbilicaa", sum := "2bc9524323f4e3074f813bd067804991a69aa7864193388d83ea7349deb97292", func := "orchestrator/orchestratorlaw04.ValueCompares", spec := "valueCompares", inPlace := ["internal/bytealg.abigen_runtime_cmpstring"], unfollowed := true, recurses := true, loops := true, apart := false, narrowed := true }
def ValueComparesUptoSaid : Prop := valueComparesUptoRow.holds Try.pinned (OpenSpec.upto valueComparesSpec)

/-- 'orchestratorlaw04.ValueOrder', WHERE WHAT IT READS IS OF BULK AT MOST 1048576: true; the input reads as it did. -/
def valueOrderUptoRow : OpenClaim := { program := "ytedohmdgbilicaa", sum := "2bc9524323f4e3074f813bd067804991a69aa7864193388d83ea7349deb97292", func := "orchestrator/orchestratorlaw04.ValueOrder", spec := "valueOrder", inPlace := ["internal/bytealg.abigen_runtime_cmpstring"], unfollowed := true, recurses := true, loops := true, apart := false, narrowed := true }
def ValueOrderUptoSaid : Prop := valueOrderUptoRow.holds Try.pinned (OpenSpec.upto valueOrderSpec)

/-- 'orchestratorlaw04.ValueBuilds', WHERE WHAT IT READS IS OF BULK AT MOST 1048576: true; the input reads as it did. -/
def valueBuildsUptoRow : OpenClaim := { program := "ytedohmdgbilicaa", sum := "2bc9524323f4e3074f813bd067804991a69aa7864193388d83ea7349deb97292", func := "orchestrator/orchestratorlaw04.ValueBuilds", spec := "valueBuilds", inPlace := ["internal/bytealg.abigen_runtime_cmpstring"], unfollowed := true, recurses := true, loops := true, apart := false, narrowed := true }
def ValueBuildsUptoSaid : Prop := valueBuildsUptoRow.holds Try.pinned (OpenSpec.upto valueBuildsSpec)

/-- 'orchestratorlaw04.ValueFields', WHERE WHAT IT READS IS OF BULK AT MOST 1048576: true; the input reads as it did. -/
def valueFieldsUptoRow : OpenClaim := { program := "ytedohmdgbilicaa", sum := "2bc9524323f4e3074f813bd067804991a69aa7864193388d83ea7349deb97292", func := "orchestrator/orchestratorlaw04.ValueFields", spec := "valueFields", inPlace := ["internal/bytealg.abigen_runtime_cmpstring"], unfollowed := true, recurses := true, loops := true, apart := false, narrowed := true }
def ValueFieldsUptoSaid : Prop := valueFieldsUptoRow.holds Try.pinned (OpenSpec.upto valueFieldsSpec)

/-- 'orchestratorlaw04.ValueMaps', WHERE WHAT IT READS IS OF BULK AT MOST 1048576: true; the input reads as it did. -/
def valueMapsUptoRow : OpenClaim := { program := "ytedohmdgbilicaa", sum := "2bc9524323f4e3074f813bd067804991a69aa7864193388d83ea7349deb97292", func := "orchestrator/orchestratorlaw04.ValueMaps", spec := "valueMaps", inPlace := ["internal/bytealg.abigen_runtime_cmpstring"], unfollowed := true, recurses := true, loops := true, apart := false, narrowed := true }
def ValueMapsUptoSaid : Prop := valueMapsUptoRow.holds Try.pinned (OpenSpec.upto valueMapsSpec)

end Rows
end Go.Proofs.Ytedohmdgbilicaa
