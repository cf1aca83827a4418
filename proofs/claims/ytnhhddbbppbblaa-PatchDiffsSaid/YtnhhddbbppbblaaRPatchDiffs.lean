/- Texts of the claim, merged by a program; what the statement does not reach is left out. -/
import Derived.Test.YtnhhddbbppbblaaBPatchDiffs8
import Derived.Test.YtnhhddbbppbblaaRows
import Derived.WalkKit
import Derived.ProofKit
import Derived.OpenShut
import Derived.ShutString
import Derived.ChangeOld
import Derived.Below
import Derived.SizedLaws

/- The given statement PatchDiffs: whatever the input, the law returns true, and each argument reads behind the call as it read before. No condition. -/
namespace Go.Proofs.Ytnhhddbbppbblaa.patchDiffs
open Go.ChangeShapes Go.WideShapes Go.ChangeAt Go.RowKit Go.Pv
theorem noTab : TabOK Try.prog Γ := gam_tab (by kernel_rfl)
theorem args_ok : chkArgs Try.prog Γ tysPatchDiffs Try.f4.params.toList = true := by kernel_rfl
set_option maxRecDepth 100000 in
theorem lifted (os : Os) (started : os.Started) (H : Type) (enc : TypeId × Value → H) :
    ReturnsInHanded {} Try.checked os 4 .any (Rows.patchDiffsSpec.pre6 enc Try.prog Try.f4 Rows.patchDiffsRow.domain false) (Rows.patchDiffsSpec.post enc Try.prog Try.f4 false true false false) := by
  refine returnsInHanded_of_change_sized (C := Try.checked) own started (by kernel_rfl) Try.func4
    (ChangeSpec.witness6 (enc := enc) (C := Try.checked) false ⟨#[], #[.agg #[.int .i64 0, .int .i64 0, .string ByteArray.empty, .slice none 0 0, .slice none 0 0], .agg #[.int .i64 0, .int .i64 0, .string ByteArray.empty, .slice none 0 0, .slice none 0 0]], []⟩ 8 (by kernel_rfl) (by kernel_rfl) (by kernel_rfl) (by kernel_rfl)) ?_
  intro W base args ds gs before hval hW _ hsz _
  have hW' := hW
  obtain ⟨p, q, hA, hV, rfl, _, _⟩ := hW
  obtain ⟨rfl, rfl⟩ := trodVars_none hV
  have hsz' : (DataW.weightsEach Try.prog Try.f4.params.toList ds).all (· ≤ reachBytes) = true := by
    rw [List.append_nil] at hsz
    exact hsz
  have hop := open_args noTab args_ok (fun j t v h1 h2 => hval j t v (by rw [← Array.getElem?_toList]; exact h1) (by rw [← Array.getElem?_toList]; exact h2)) hA hsz'
  refine (law_calls mixed (tie cmpOK) (purePatchDiffs diffs_holds) hop).mono fun e W' ⟨he, bel⟩ => ?_
  subst he
  have back := args_stay laidOut bel args_ok hA
  obtain ⟨_, _, d0, _, _, _, _, rfl, _, _, r0⟩ := trodAll_cons hA
  obtain ⟨_, _, d1, _, _, _, _, rfl, _, _, r1⟩ := trodAll_cons r0
  obtain ⟨_, rfl, _⟩ := trodAll_nil r1
  exact ⟨_, rfl, _, _, _, [], _, [], hW', trodAll_mk1 (shut_bool (P := Try.prog) (t := 4) Try.underlying4 _), back, rfl, bel.frame _, fun h => by cases h⟩
theorem over : Rows.patchDiffsRow.holds Try.pinned (OpenSpec.ofChange Rows.patchDiffsSpec) :=
  OpenClaim.holds_of_wide 4 Try.f4 rfl rfl rfl rfl rfl rfl rfl ⟨rfl, rfl, rfl, rfl, rfl⟩ rfl rfl rfl rfl rfl (by kernel_rfl) Try.func4 (by kernel_rfl)
    (of_decide_eq_true (by kernel_rfl)) (by unfold Func.isWrapper; first | (rw [if_pos (by decide +kernel)]; kernel_rfl) | (rw [if_neg (by decide +kernel)]; exact ⟨rfl, rfl⟩))
    (fun os started H enc _ => lifted os started H enc)
theorem proved : Rows.PatchDiffsSaid := over
#print axioms proved
end Go.Proofs.Ytnhhddbbppbblaa.patchDiffs
namespace Go.Proofs.Ytnhhddbbppbblaa
theorem patchDiffs_holds : Rows.PatchDiffsSaid := patchDiffs.proved
end Go.Proofs.Ytnhhddbbppbblaa
