/-
  NARROWER THAN 'FOR EVERY INPUT', by the rows' own cells (each row's printed sentence says how): PodcodecDecodes: loops · PodcodecWrong: loops.
  DERIVED. THE GIVEN ROWS OF THIS SEAT. 5 by the template 'for every input the law returns true; each argument reads behind the call as it read before'; 0 by the template 'total and deterministic' (their statements: YtiflaadeikaghaaGreatTotals.lean).
  GIVEN WITH THE SEED: the statements are not yours to turn. If you find one false, say at which input.
  Laid BY PROGRAM, IN A SANDBOX (cutbox-rows.mjs): the forced cells as the released guide's own fill.sh prints them over the translation bbdce0d5312be28e… (all of the seat's roots in one cut). By AI agents, Wed Nov 11 2026. No macro, syntax, notation, axiom, sorry.
-/
import Derived.Test.YtiflaadeikaghaaGreatChecked
import GoSem.Claim
import GoSem.ClaimJoined
import GoSem.ClaimMapViews
import Derived.JoinedTies
import Derived.KernelRfl
namespace Go.Proofs.YtiflaadeikaghaaGreat
/- THE CELL 'sum', in the pinned program and in every row, IS THE sha256 OF THE DUMP (.gsa) THAT YtiflaadeikaghaaGreatProg.lean LOADS. Nothing in Lean hashes anything: it is a label: what it is worth is what the hold of that sum in a sandbox is worth. -/
noncomputable def Tryz.pinned : Pinned := { name := "ytiflaadeikaghaagreat", sum := "bbdce0d5312be28e1fab93aa58369a0bcd1330d33f0be3a7123d17d5afcdc3ff", checked := Tryz.checked }
namespace Rows
def none {H : Type} : Left H := { results := [], args := [] }

/-- 'orchestratorlaw19.PodcodecDecodes': WHATEVER THE INPUT: true; the input reads as it did. -/
def podcodecDecodesSpec : ChangeSpec := { name := "podcodecDecodes", fn := fun _ => fun
  | [d] => { results := [.lit (.bool true)], args := [d] }
  | _ => none }
def podcodecDecodesRow : OpenClaim := { program := "ytiflaadeikaghaagreat", sum := "bbdce0d5312be28e1fab93aa58369a0bcd1330d33f0be3a7123d17d5afcdc3ff", func := "orchestrator/orchestratorlaw19.PodcodecDecodes", spec := "podcodecDecodes", inPlace := ["internal/bytealg.abigen_runtime_cmpstring"], unfollowed := true, recurses := true, loops := true, apart := false }
def PodcodecDecodesSaid : Prop := podcodecDecodesRow.holds Tryz.pinned (OpenSpec.ofChange podcodecDecodesSpec)

/-- ITS FALSE NEIGHBOUR: 'it returns false'. Refute it at one input. -/
def podcodecDecodesWrong : ChangeSpec := { name := "podcodecDecodes", fn := fun _ => fun
  | [d] => { results := [.lit (.bool false)], args := [d] }
  | _ => none }
def PodcodecDecodesWrongFalsely : Prop := podcodecDecodesRow.holds Tryz.pinned (OpenSpec.ofChange podcodecDecodesWrong)

/-- 'orchestratorlaw19.PodcodecMissing': WHATEVER THE INPUT: true; the input reads as it did. -/
def podcodecMissingSpec : ChangeSpec := { name := "podcodecMissing", fn := fun _ => fun
  | [d1, d2] => { results := [.lit (.bool true)], args := [d1, d2] }
  | _ => none }
def podcodecMissingRow : OpenClaim := { program := "ytiflaadeikaghaagreat", sum := "bbdce0d5312be28e1fab93aa58369a0bcd1330d33f0be3a7123d17d5afcdc3ff", func := "orchestrator/orchestratorlaw19.PodcodecMissing", spec := "podcodecMissing", inPlace := ["internal/bytealg.abigen_runtime_cmpstring"], unfollowed := true, recurses := true, apart := false }
def PodcodecMissingSaid : Prop := podcodecMissingRow.holds Tryz.pinned (OpenSpec.ofChange podcodecMissingSpec)

/-- ITS FALSE NEIGHBOUR: 'it returns false'. Refute it at one input. -/
def podcodecMissingWrong : ChangeSpec := { name := "podcodecMissing", fn := fun _ => fun
  | [d1, d2] => { results := [.lit (.bool false)], args := [d1, d2] }
  | _ => none }
def PodcodecMissingWrongFalsely : Prop := podcodecMissingRow.holds Tryz.pinned (OpenSpec.ofChange podcodecMissingWrong)

/-- 'orchestratorlaw19.PodcodecWrong': WHATEVER THE INPUT: true; the input reads as it did. -/
def podcodecWrongSpec : ChangeSpec := { name := "podcodecWrong", fn := fun _ => fun
  | [d1, d2, d3, d4] => { results := [.lit (.bool true)], args := [d1, d2, d3, d4] }
  | _ => none }
def podcodecWrongRow : OpenClaim := { program := "ytiflaadeikaghaagreat", sum := "bbdce0d5312be28e1fab93aa58369a0bcd1330d33f0be3a7123d17d5afcdc3ff", func := "orchestrator/orchestratorlaw19.PodcodecWrong", spec := "podcodecWrong", inPlace := ["internal/bytealg.abigen_runtime_cmpstring"], unfollowed := true, recurses := true, loops := true, apart := false }
def PodcodecWrongSaid : Prop := podcodecWrongRow.holds Tryz.pinned (OpenSpec.ofChange podcodecWrongSpec)

/-- ITS FALSE NEIGHBOUR: 'it returns false'. Refute it at one input. -/
def podcodecWrongWrong : ChangeSpec := { name := "podcodecWrong", fn := fun _ => fun
  | [d1, d2, d3, d4] => { results := [.lit (.bool false)], args := [d1, d2, d3, d4] }
  | _ => none }
def PodcodecWrongWrongFalsely : Prop := podcodecWrongRow.holds Tryz.pinned (OpenSpec.ofChange podcodecWrongWrong)

/-- 'orchestratorlaw19.PodcodecEncodes': WHATEVER THE INPUT: true; the input reads as it did. -/
def podcodecEncodesSpec : ChangeSpec := { name := "podcodecEncodes", fn := fun _ => fun
  | [d1, d2] => { results := [.lit (.bool true)], args := [d1, d2] }
  | _ => none }
def podcodecEncodesRow : OpenClaim := { program := "ytiflaadeikaghaagreat", sum := "bbdce0d5312be28e1fab93aa58369a0bcd1330d33f0be3a7123d17d5afcdc3ff", func := "orchestrator/orchestratorlaw19.PodcodecEncodes", spec := "podcodecEncodes", inPlace := ["internal/bytealg.abigen_runtime_cmpstring"], unfollowed := true, recurses := true, apart := false }
def PodcodecEncodesSaid : Prop := podcodecEncodesRow.holds Tryz.pinned (OpenSpec.ofChange podcodecEncodesSpec)

/-- ITS FALSE NEIGHBOUR: 'it returns false'. Refute it at one input. -/
def podcodecEncodesWrong : ChangeSpec := { name := "podcodecEncodes", fn := fun _ => fun
  | [d1, d2] => { results := [.lit (.bool false)], args := [d1, d2] }
  | _ => none }
def PodcodecEncodesWrongFalsely : Prop := podcodecEncodesRow.holds Tryz.pinned (OpenSpec.ofChange podcodecEncodesWrong)

/-- 'orchestratorlaw19.PodcodecBack': WHATEVER THE INPUT: true; the input reads as it did. -/
def podcodecBackSpec : ChangeSpec := { name := "podcodecBack", fn := fun _ => fun
  | [d1, d2] => { results := [.lit (.bool true)], args := [d1, d2] }
  | _ => none }
def podcodecBackRow : OpenClaim := { program := "ytiflaadeikaghaagreat", sum := "bbdce0d5312be28e1fab93aa58369a0bcd1330d33f0be3a7123d17d5afcdc3ff", func := "orchestrator/orchestratorlaw19.PodcodecBack", spec := "podcodecBack", inPlace := ["internal/bytealg.abigen_runtime_cmpstring"], unfollowed := true, recurses := true, apart := false }
def PodcodecBackSaid : Prop := podcodecBackRow.holds Tryz.pinned (OpenSpec.ofChange podcodecBackSpec)

/-- ITS FALSE NEIGHBOUR: 'it returns false'. Refute it at one input. -/
def podcodecBackWrong : ChangeSpec := { name := "podcodecBack", fn := fun _ => fun
  | [d1, d2] => { results := [.lit (.bool false)], args := [d1, d2] }
  | _ => none }
def PodcodecBackWrongFalsely : Prop := podcodecBackRow.holds Tryz.pinned (OpenSpec.ofChange podcodecBackWrong)

/- THE SECOND FORM. 'bulk': how many values and letters a reading holds, each counted each time it is reached (what is shared counts as often as it is met; a slice's spare places count too). A statement '..UptoSaid' is the law's where the arguments, and the package variables that the reading takes, are together of bulk at most 1048576: NARROWER than '..Said'. Prove '..Said' where nothing that the law and all that it calls make is longer than what came in: it says more and counts as full. Else prove '..UptoSaid'. A law counts once. -/
mutual
def uptoBulk {H : Type} : DataW H → Nat
  | .lit (.string bytes) => bytes.length + 1
  | .lit _ => 1
  | .nil => 1
  | .ptr d => uptoBulk d + 1
  | .slice elems spare => uptoBulkAll elems + uptoBulkAll spare + 1
  | .agg parts => uptoBulkAll parts + 1
  | .iface _ d => uptoBulk d + 1
  | .map entries => uptoBulkEntries entries + 1
  | .held _ => 1
def uptoBulkAll {H : Type} : List (DataW H) → Nat
  | [] => 0
  | d :: r => uptoBulk d + uptoBulkAll r
def uptoBulkEntries {H : Type} : List (Lit × DataW H) → Nat
  | [] => 0
  | x :: r => uptoBulkEntry x + uptoBulkEntries r
def uptoBulkEntry {H : Type} : Lit × DataW H → Nat
  | (.string bytes, d) => bytes.length + uptoBulk d + 1
  | (_, d) => uptoBulk d + 1
 end
def uptoSmall : (H : Type) → List (DataW H) → Bool := fun _ ds => decide (uptoBulkAll ds ≤ 1048576)
def OpenSpec.upto (s : _root_.Go.ChangeSpec) : _root_.Go.OpenSpec := { _root_.Go.OpenSpec.ofChange s with cond := some uptoSmall }

/-- 'orchestratorlaw19.PodcodecDecodes', WHERE WHAT IT READS IS OF BULK AT MOST 1048576: true; the input reads as it did. -/
def podcodecDecodesUptoRow : OpenClaim := { program := "ytiflaadeikaghaagreat", sum := "bbdce0d5312be28e1fab93aa58369a0bcd1330d33f0be3a7123d17d5afcdc3ff", func := "orchestrator/orchestratorlaw19.PodcodecDecodes", spec := "podcodecDecodes", inPlace := ["internal/bytealg.abigen_runtime_cmpstring"], unfollowed := true, recurses := true, loops := true, apart := false, narrowed := true }
def PodcodecDecodesUptoSaid : Prop := podcodecDecodesUptoRow.holds Tryz.pinned (OpenSpec.upto podcodecDecodesSpec)

/-- 'orchestratorlaw19.PodcodecMissing', WHERE WHAT IT READS IS OF BULK AT MOST 1048576: true; the input reads as it did. -/
def podcodecMissingUptoRow : OpenClaim := { program := "ytiflaadeikaghaagreat", sum := "bbdce0d5312be28e1fab93aa58369a0bcd1330d33f0be3a7123d17d5afcdc3ff", func := "orchestrator/orchestratorlaw19.PodcodecMissing", spec := "podcodecMissing", inPlace := ["internal/bytealg.abigen_runtime_cmpstring"], unfollowed := true, recurses := true, apart := false, narrowed := true }
def PodcodecMissingUptoSaid : Prop := podcodecMissingUptoRow.holds Tryz.pinned (OpenSpec.upto podcodecMissingSpec)

/-- 'orchestratorlaw19.PodcodecWrong', WHERE WHAT IT READS IS OF BULK AT MOST 1048576: true; the input reads as it did. -/
def podcodecWrongUptoRow : OpenClaim := { program := "ytiflaadeikaghaagreat", sum := "bbdce0d5312be28e1fab93aa58369a0bcd1330d33f0be3a7123d17d5afcdc3ff", func := "orchestrator/orchestratorlaw19.PodcodecWrong", spec := "podcodecWrong", inPlace := ["internal/bytealg.abigen_runtime_cmpstring"], unfollowed := true, recurses := true, loops := true, apart := false, narrowed := true }
def PodcodecWrongUptoSaid : Prop := podcodecWrongUptoRow.holds Tryz.pinned (OpenSpec.upto podcodecWrongSpec)

/-- 'orchestratorlaw19.PodcodecEncodes', WHERE WHAT IT READS IS OF BULK AT MOST 1048576: true; the input reads as it did. -/
def podcodecEncodesUptoRow : OpenClaim := { program := "ytiflaadeikaghaagreat", sum := "bbdce0d5312be28e1fab93aa58369a0bcd1330d33f0be3a7123d17d5afcdc3ff", func := "orchestrator/orchestratorlaw19.PodcodecEncodes", spec := "podcodecEncodes", inPlace := ["internal/bytealg.abigen_runtime_cmpstring"], unfollowed := true, recurses := true, apart := false, narrowed := true }
def PodcodecEncodesUptoSaid : Prop := podcodecEncodesUptoRow.holds Tryz.pinned (OpenSpec.upto podcodecEncodesSpec)

/-- 'orchestratorlaw19.PodcodecBack', WHERE WHAT IT READS IS OF BULK AT MOST 1048576: true; the input reads as it did. -/
def podcodecBackUptoRow : OpenClaim := { program := "ytiflaadeikaghaagreat", sum := "bbdce0d5312be28e1fab93aa58369a0bcd1330d33f0be3a7123d17d5afcdc3ff", func := "orchestrator/orchestratorlaw19.PodcodecBack", spec := "podcodecBack", inPlace := ["internal/bytealg.abigen_runtime_cmpstring"], unfollowed := true, recurses := true, apart := false, narrowed := true }
def PodcodecBackUptoSaid : Prop := podcodecBackUptoRow.holds Tryz.pinned (OpenSpec.upto podcodecBackSpec)

end Rows
end Go.Proofs.YtiflaadeikaghaaGreat
