/-
  No cell of these rows narrows 'for every input' (looked for: loops, veiled, ifaces, maps, wideKeys, modest, calm, conditions, laid).
  DERIVED. THE GIVEN ROWS OF THIS SEAT. 9 by the template 'for every input the law returns true; each argument reads behind the call as it read before'; 0 by the template 'total and deterministic' (their statements: YtpmdkaecfoakkaaTotals.lean).
  GIVEN WITH THE SEED: the statements are not yours to turn. If you find one false, say at which input.
  Laid BY PROGRAM, IN A SANDBOX (cutbox-rows.mjs): the forced cells as the released guide's own fill.sh prints them over the translation 0ea942c03fcfead9… (all of the seat's roots in one cut). By AI agents, Wed Nov 11 2026. No macro, syntax, notation, axiom, sorry.
-/
import Derived.Test.YtpmdkaecfoakkaaChecked
import GoSem.Claim
import GoSem.ClaimJoined
import GoSem.ClaimMapViews
import Derived.JoinedTies
import Derived.KernelRfl
namespace Go.Proofs.Ytpmdkaecfoakkaa
/- THE CELL 'sum', in the pinned program and in every row, IS THE sha256 OF THE DUMP (.gsa) THAT YtpmdkaecfoakkaaProg.lean LOADS. Nothing in Lean hashes anything: it is a label: what it is worth is what the hold of that sum in a sandbox is worth. -/
noncomputable def Try.pinned : Pinned := { name := "ytpmdkaecfoakkaa", sum := "0ea942c03fcfead98a507f8ded92153fdced07c1f894c273155782e8c052e264", checked := Try.checked }
namespace Rows
def none {H : Type} : Left H := { results := [], args := [] }

/-- 'orchestratorlaw02.ResourceSums': WHATEVER THE INPUT: true; the input reads as it did. -/
def resourceSumsSpec : ChangeSpec := { name := "resourceSums", fn := fun _ => fun
  | [d1, d2] => { results := [.lit (.bool true)], args := [d1, d2] }
  | _ => none }
def resourceSumsRow : OpenClaim := { program := "ytpmdkaecfoakkaa", sum := "0ea942c03fcfead98a507f8ded92153fdced07c1f894c273155782e8c052e264", func := "orchestrator/orchestratorlaw02.ResourceSums", spec := "resourceSums", unfollowed := true, recurses := true, apart := false }
def ResourceSumsSaid : Prop := resourceSumsRow.holds Try.pinned (OpenSpec.ofChange resourceSumsSpec)

/-- ITS FALSE NEIGHBOUR: 'it returns false'. Refute it at one input. -/
def resourceSumsWrong : ChangeSpec := { name := "resourceSums", fn := fun _ => fun
  | [d1, d2] => { results := [.lit (.bool false)], args := [d1, d2] }
  | _ => none }
def ResourceSumsWrongFalsely : Prop := resourceSumsRow.holds Try.pinned (OpenSpec.ofChange resourceSumsWrong)

/-- 'orchestratorlaw02.ResourcePods': WHATEVER THE INPUT: true; the input reads as it did. -/
def resourcePodsSpec : ChangeSpec := { name := "resourcePods", fn := fun _ => fun
  | [d1, d2] => { results := [.lit (.bool true)], args := [d1, d2] }
  | _ => none }
def resourcePodsRow : OpenClaim := { program := "ytpmdkaecfoakkaa", sum := "0ea942c03fcfead98a507f8ded92153fdced07c1f894c273155782e8c052e264", func := "orchestrator/orchestratorlaw02.ResourcePods", spec := "resourcePods", unfollowed := true, recurses := true, apart := false }
def ResourcePodsSaid : Prop := resourcePodsRow.holds Try.pinned (OpenSpec.ofChange resourcePodsSpec)

/-- ITS FALSE NEIGHBOUR: 'it returns false'. Refute it at one input. -/
def resourcePodsWrong : ChangeSpec := { name := "resourcePods", fn := fun _ => fun
  | [d1, d2] => { results := [.lit (.bool false)], args := [d1, d2] }
  | _ => none }
def ResourcePodsWrongFalsely : Prop := resourcePodsRow.holds Try.pinned (OpenSpec.ofChange resourcePodsWrong)

/-- 'orchestratorlaw02.ResourceBalance': WHATEVER THE INPUT: true; the input reads as it did. -/
def resourceBalanceSpec : ChangeSpec := { name := "resourceBalance", fn := fun _ => fun
  | [d1, d2, d3] => { results := [.lit (.bool true)], args := [d1, d2, d3] }
  | _ => none }
def resourceBalanceRow : OpenClaim := { program := "ytpmdkaecfoakkaa", sum := "0ea942c03fcfead98a507f8ded92153fdced07c1f894c273155782e8c052e264", func := "orchestrator/orchestratorlaw02.ResourceBalance", spec := "resourceBalance", unfollowed := true, recurses := true, apart := false }
def ResourceBalanceSaid : Prop := resourceBalanceRow.holds Try.pinned (OpenSpec.ofChange resourceBalanceSpec)

/-- ITS FALSE NEIGHBOUR: 'it returns false'. Refute it at one input. -/
def resourceBalanceWrong : ChangeSpec := { name := "resourceBalance", fn := fun _ => fun
  | [d1, d2, d3] => { results := [.lit (.bool false)], args := [d1, d2, d3] }
  | _ => none }
def ResourceBalanceWrongFalsely : Prop := resourceBalanceRow.holds Try.pinned (OpenSpec.ofChange resourceBalanceWrong)

/-- 'orchestratorlaw02.ResourceAdds': WHATEVER THE INPUT: true; the input reads as it did. -/
def resourceAddsSpec : ChangeSpec := { name := "resourceAdds", fn := fun _ => fun
  | [d1, d2, d3] => { results := [.lit (.bool true)], args := [d1, d2, d3] }
  | _ => none }
def resourceAddsRow : OpenClaim := { program := "ytpmdkaecfoakkaa", sum := "0ea942c03fcfead98a507f8ded92153fdced07c1f894c273155782e8c052e264", func := "orchestrator/orchestratorlaw02.ResourceAdds", spec := "resourceAdds", unfollowed := true, recurses := true, apart := false }
def ResourceAddsSaid : Prop := resourceAddsRow.holds Try.pinned (OpenSpec.ofChange resourceAddsSpec)

/-- ITS FALSE NEIGHBOUR: 'it returns false'. Refute it at one input. -/
def resourceAddsWrong : ChangeSpec := { name := "resourceAdds", fn := fun _ => fun
  | [d1, d2, d3] => { results := [.lit (.bool false)], args := [d1, d2, d3] }
  | _ => none }
def ResourceAddsWrongFalsely : Prop := resourceAddsRow.holds Try.pinned (OpenSpec.ofChange resourceAddsWrong)

/-- 'orchestratorlaw02.ResourceOrder': WHATEVER THE INPUT: true; the input reads as it did. -/
def resourceOrderSpec : ChangeSpec := { name := "resourceOrder", fn := fun _ => fun
  | [d1, d2, d3] => { results := [.lit (.bool true)], args := [d1, d2, d3] }
  | _ => none }
def resourceOrderRow : OpenClaim := { program := "ytpmdkaecfoakkaa", sum := "0ea942c03fcfead98a507f8ded92153fdced07c1f894c273155782e8c052e264", func := "orchestrator/orchestratorlaw02.ResourceOrder", spec := "resourceOrder", unfollowed := true, recurses := true, apart := false }
def ResourceOrderSaid : Prop := resourceOrderRow.holds Try.pinned (OpenSpec.ofChange resourceOrderSpec)

/-- ITS FALSE NEIGHBOUR: 'it returns false'. Refute it at one input. -/
def resourceOrderWrong : ChangeSpec := { name := "resourceOrder", fn := fun _ => fun
  | [d1, d2, d3] => { results := [.lit (.bool false)], args := [d1, d2, d3] }
  | _ => none }
def ResourceOrderWrongFalsely : Prop := resourceOrderRow.holds Try.pinned (OpenSpec.ofChange resourceOrderWrong)

/-- 'orchestratorlaw22.QuotaSays': WHATEVER THE INPUT: true; the input reads as it did. -/
def quotaSaysSpec : ChangeSpec := { name := "quotaSays", fn := fun _ => fun
  | [d1, d2, d3] => { results := [.lit (.bool true)], args := [d1, d2, d3] }
  | _ => none }
def quotaSaysRow : OpenClaim := { program := "ytpmdkaecfoakkaa", sum := "0ea942c03fcfead98a507f8ded92153fdced07c1f894c273155782e8c052e264", func := "orchestrator/orchestratorlaw22.QuotaSays", spec := "quotaSays", unfollowed := true, recurses := true, apart := false }
def QuotaSaysSaid : Prop := quotaSaysRow.holds Try.pinned (OpenSpec.ofChange quotaSaysSpec)

/-- ITS FALSE NEIGHBOUR: 'it returns false'. Refute it at one input. -/
def quotaSaysWrong : ChangeSpec := { name := "quotaSays", fn := fun _ => fun
  | [d1, d2, d3] => { results := [.lit (.bool false)], args := [d1, d2, d3] }
  | _ => none }
def QuotaSaysWrongFalsely : Prop := quotaSaysRow.holds Try.pinned (OpenSpec.ofChange quotaSaysWrong)

/-- 'orchestratorlaw22.QuotaKeeps': WHATEVER THE INPUT: true; the input reads as it did. -/
def quotaKeepsSpec : ChangeSpec := { name := "quotaKeeps", fn := fun _ => fun
  | [d1, d2] => { results := [.lit (.bool true)], args := [d1, d2] }
  | _ => none }
def quotaKeepsRow : OpenClaim := { program := "ytpmdkaecfoakkaa", sum := "0ea942c03fcfead98a507f8ded92153fdced07c1f894c273155782e8c052e264", func := "orchestrator/orchestratorlaw22.QuotaKeeps", spec := "quotaKeeps", unfollowed := true, recurses := true, apart := false }
def QuotaKeepsSaid : Prop := quotaKeepsRow.holds Try.pinned (OpenSpec.ofChange quotaKeepsSpec)

/-- ITS FALSE NEIGHBOUR: 'it returns false'. Refute it at one input. -/
def quotaKeepsWrong : ChangeSpec := { name := "quotaKeeps", fn := fun _ => fun
  | [d1, d2] => { results := [.lit (.bool false)], args := [d1, d2] }
  | _ => none }
def QuotaKeepsWrongFalsely : Prop := quotaKeepsRow.holds Try.pinned (OpenSpec.ofChange quotaKeepsWrong)

/-- 'orchestratorlaw22.QuotaIgnores': WHATEVER THE INPUT: true; the input reads as it did. -/
def quotaIgnoresSpec : ChangeSpec := { name := "quotaIgnores", fn := fun _ => fun
  | [d1, d2, d3] => { results := [.lit (.bool true)], args := [d1, d2, d3] }
  | _ => none }
def quotaIgnoresRow : OpenClaim := { program := "ytpmdkaecfoakkaa", sum := "0ea942c03fcfead98a507f8ded92153fdced07c1f894c273155782e8c052e264", func := "orchestrator/orchestratorlaw22.QuotaIgnores", spec := "quotaIgnores", unfollowed := true, recurses := true, apart := false }
def QuotaIgnoresSaid : Prop := quotaIgnoresRow.holds Try.pinned (OpenSpec.ofChange quotaIgnoresSpec)

/-- ITS FALSE NEIGHBOUR: 'it returns false'. Refute it at one input. -/
def quotaIgnoresWrong : ChangeSpec := { name := "quotaIgnores", fn := fun _ => fun
  | [d1, d2, d3] => { results := [.lit (.bool false)], args := [d1, d2, d3] }
  | _ => none }
def QuotaIgnoresWrongFalsely : Prop := quotaIgnoresRow.holds Try.pinned (OpenSpec.ofChange quotaIgnoresWrong)

/-- 'orchestratorlaw22.QuotaGrows': WHATEVER THE INPUT: true; the input reads as it did. -/
def quotaGrowsSpec : ChangeSpec := { name := "quotaGrows", fn := fun _ => fun
  | [d1, d2, d3, d4] => { results := [.lit (.bool true)], args := [d1, d2, d3, d4] }
  | _ => none }
def quotaGrowsRow : OpenClaim := { program := "ytpmdkaecfoakkaa", sum := "0ea942c03fcfead98a507f8ded92153fdced07c1f894c273155782e8c052e264", func := "orchestrator/orchestratorlaw22.QuotaGrows", spec := "quotaGrows", unfollowed := true, recurses := true, apart := false }
def QuotaGrowsSaid : Prop := quotaGrowsRow.holds Try.pinned (OpenSpec.ofChange quotaGrowsSpec)

/-- ITS FALSE NEIGHBOUR: 'it returns false'. Refute it at one input. -/
def quotaGrowsWrong : ChangeSpec := { name := "quotaGrows", fn := fun _ => fun
  | [d1, d2, d3, d4] => { results := [.lit (.bool false)], args := [d1, d2, d3, d4] }
  | _ => none }
def QuotaGrowsWrongFalsely : Prop := quotaGrowsRow.holds Try.pinned (OpenSpec.ofChange quotaGrowsWrong)

/- THE SECOND FORM. 'bulk': how many values and letters a reading holds, each counted each time it is reached (what is shared counts as often as it is met; a slice's spare places count too). A statement '..UptoSaid' is the law's where the arguments, and the package variables that the reading takes, are together of bulk at most 1048576: NARROWER than '..Said'. Prove '..Said' where nothing that the law and all that it calls make is longer than what came in: it says more and counts as full. Else prove '..UptoSaid'. A law counts once. -/
mutual
def uptoBulk {H : Type} : DataW H → Nat
  | .lit (.string bytes) => bytes.length + 1
  | .lit _ => 1
  | .nil => 1
  | .ptr d => uptoBulk d + 1
  | .slice elems spare => uptoBulkAll elems + uptoBulkAll spare + 1
  | .agg parts => uptoBulkAll parts + 1
  | .iface _ d => uptoBulk d + 1
  | .map entries => uptoBulkEntries entries + 1
  | .held _ => 1
def uptoBulkAll {H : Type} : List (DataW H) → Nat
  | [] => 0
  | d :: r => uptoBulk d + uptoBulkAll r
def uptoBulkEntries {H : Type} : List (Lit × DataW H) → Nat
  | [] => 0
  | x :: r => uptoBulkEntry x + uptoBulkEntries r
def uptoBulkEntry {H : Type} : Lit × DataW H → Nat
  | (.string bytes, d) => bytes.length + uptoBulk d + 1
  | (_, d) => uptoBulk d + 1
 end
def uptoSmall : (H : Type) → List (DataW H) → Bool := fun _ ds => decide (uptoBulkAll ds ≤ 1048576)
def OpenSpec.upto (s : _root_.Go.ChangeSpec) : _root_.Go.OpenSpec := { _root_.Go.OpenSpec.ofChange s with cond := some uptoSmall }

/-- 'orchestratorlaw02.ResourceSums', WHERE WHAT IT READS IS OF BULK AT MOST 1048576: true; the input reads as it did. -/
def resourceSumsUptoRow : OpenClaim := { program := "ytpmdkaecfoakkaa", sum := "0ea942c03fcfead98a507f8ded92153fdced07c1f894c273155782e8c052e264", func := "orchestrator/orchestratorlaw02.ResourceSums", spec := "resourceSums", unfollowed := true, recurses := true, apart := false, narrowed := true }
def ResourceSumsUptoSaid : Prop := resourceSumsUptoRow.holds Try.pinned (OpenSpec.upto resourceSumsSpec)

/-- 'orchestratorlaw02.ResourcePods', WHERE WHAT IT READS IS OF BULK AT MOST 1048576: true; the input reads as it did. -/
def resourcePodsUptoRow : OpenClaim := { program := "ytpmdkaecfoakkaa", sum := "0ea942c03fcfead98a507f8ded92153fdced07c1f894c273155782e8c052e264", func := "orchestrator/orchestratorlaw02.ResourcePods", spec := "resourcePods", unfollowed := true, recurses := true, apart := false, narrowed := true }
def ResourcePodsUptoSaid : Prop := resourcePodsUptoRow.holds Try.pinned (OpenSpec.upto resourcePodsSpec)

/-- 'orchestratorlaw02.ResourceBalance', WHERE WHAT IT READS IS OF BULK AT MOST 1048576: true; the input reads as it did. -/
def resourceBalanceUptoRow : OpenClaim := { program := "ytpmdkaecfoakkaa", sum := "0ea942c03fcfead98a507f8ded92153fdced07c1f894c273155782e8c052e264", func := "orchestrator/orchestratorlaw02.ResourceBalance", spec := "resourceBalance", unfollowed := true, recurses := true, apart := false, narrowed := true }
def ResourceBalanceUptoSaid : Prop := resourceBalanceUptoRow.holds Try.pinned (OpenSpec.upto resourceBalanceSpec)

/-- 'orchestratorlaw02.ResourceAdds', WHERE WHAT IT READS IS OF BULK AT MOST 1048576: true; the input reads as it did. -/
def resourceAddsUptoRow : OpenClaim := { program := "ytpmdkaecfoakkaa", sum := "0ea942c03fcfead98a507f8ded92153fdced07c1f894c273155782e8c052e264", func := "orchestrator/orchestratorlaw02.ResourceAdds", spec := "resourceAdds", unfollowed := true, recurses := true, apart := false, narrowed := true }
def ResourceAddsUptoSaid : Prop := resourceAddsUptoRow.holds Try.pinned (OpenSpec.upto resourceAddsSpec)

/-- 'orchestratorlaw02.ResourceOrder', WHERE WHAT IT READS IS OF BULK AT MOST 1048576: true; the input reads as it did. -/
def resourceOrderUptoRow : OpenClaim := { program := "ytpmdkaecfoakkaa", sum := "0ea942c03fcfead98a507f8ded92153fdced07c1f894c273155782e8c052e264", func := "orchestrator/orchestratorlaw02.ResourceOrder", spec := "resourceOrder", unfollowed := true, recurses := true, apart := false, narrowed := true }
def ResourceOrderUptoSaid : Prop := resourceOrderUptoRow.holds Try.pinned (OpenSpec.upto resourceOrderSpec)

/-- 'orchestratorlaw22.QuotaSays', WHERE WHAT IT READS IS OF BULK AT MOST 1048576: true; the input reads as it did. -/
def quotaSaysUptoRow : OpenClaim := { program := "ytpmdkaecfoakkaa", sum := "0ea942c03fcfead98a507f8ded92153fdced07c1f894c273155782e8c052e264", func := "orchestrator/orchestratorlaw22.QuotaSays", spec := "quotaSays", unfollowed := true, recurses := true, apart := false, narrowed := true }
def QuotaSaysUptoSaid : Prop := quotaSaysUptoRow.holds Try.pinned (OpenSpec.upto quotaSaysSpec)

/-- 'orchestratorlaw22.QuotaKeeps', WHERE WHAT IT READS IS OF BULK AT MOST 1048576: true; the input reads as it did. -/
def quotaKeepsUptoRow : OpenClaim := { program := "ytpmdkaecfoakkaa", sum := "0ea942c03fcfead98a507f8ded92153fdced07c1f894c273155782e8c052e264", func := "orchestrator/orchestratorlaw22.QuotaKeeps", spec := "quotaKeeps", unfollowed := true, recurses := true, apart := false, narrowed := true }
def QuotaKeepsUptoSaid : Prop := quotaKeepsUptoRow.holds Try.pinned (OpenSpec.upto quotaKeepsSpec)

/-- 'orchestratorlaw22.QuotaIgnores', WHERE WHAT IT READS IS OF BULK AT MOST 1048576: true; the input reads as it did. -/
def quotaIgnoresUptoRow : OpenClaim := { program := "ytpmdkaecfoakkaa", sum := "0ea942c03fcfead98a507f8ded92153fdced07c1f894c273155782e8c052e264", func := "orchestrator/orchestratorlaw22.QuotaIgnores", spec := "quotaIgnores", unfollowed := true, recurses := true, apart := false, narrowed := true }
def QuotaIgnoresUptoSaid : Prop := quotaIgnoresUptoRow.holds Try.pinned (OpenSpec.upto quotaIgnoresSpec)

/-- 'orchestratorlaw22.QuotaGrows', WHERE WHAT IT READS IS OF BULK AT MOST 1048576: true; the input reads as it did. -/
def quotaGrowsUptoRow : OpenClaim := { program := "ytpmdkaecfoakkaa", sum := "0ea942c03fcfead98a507f8ded92153fdced07c1f894c273155782e8c052e264", func := "orchestrator/orchestratorlaw22.QuotaGrows", spec := "quotaGrows", unfollowed := true, recurses := true, apart := false, narrowed := true }
def QuotaGrowsUptoSaid : Prop := quotaGrowsUptoRow.holds Try.pinned (OpenSpec.upto quotaGrowsSpec)

end Rows
end Go.Proofs.Ytpmdkaecfoakkaa
