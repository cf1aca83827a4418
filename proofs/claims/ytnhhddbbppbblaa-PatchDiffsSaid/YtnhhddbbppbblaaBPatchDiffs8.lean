/- Texts of the claim, merged by a program; what the statement does not reach is left out. -/
import Derived.Test.YtnhhddbbppbblaaBPatchDiffs7
import Derived.Lib.Strings
import Derived.Lib.Slices
import Derived.Lib.Walk
import Derived.Lib.Bytealg

section
/- What the law PatchDiffs computes (printed by a program). -/
namespace Go.Proofs.Ytnhhddbbppbblaa
open Go.Pv
def s_K7 (p0 : Val) (p1 : Val) : Bool :=
 bif (s_Kd ([p0, p1])) then
  bif (s_Ky (s_Kf p0 p1) (Q6q p0 p1)) then
   true
  else
   false
 else
  true
def c_K7 (p0 : Val) (p1 : Val) : En := .call 4 [.agg (Val.cells p0), .agg (Val.cells p1)] []
def a_K7 (p0 : Val) (p1 : Val) : Rs := .ret (.bool (s_K7 p0 p1)) []
def H_K7 (p0 : Val) (p1 : Val) : Prop := (H_Kd ([p0, p1])) ∧ ((s_Kd ([p0, p1])) = true → H_Kf p0 p1) ∧ ((s_Kd ([p0, p1])) = true → Qs5 p0 p1) ∧ ((s_Kd ([p0, p1])) = true → H_Ky (s_Kf p0 p1)) ∧ True
theorem t_K7 (p0 : Val) (p1 : Val) (H : H_K7 p0 p1) : Q7 G (c_K7 p0 p1) (a_K7 p0 p1) := by
 unfold a_K7 s_K7
 cases h0 : (s_Kd ([p0, p1])) with
 | true =>
  cases h1 : (s_Ky (s_Kf p0 p1) (Q6q p0 p1)) with
  | true =>
   exact Q9 (fn := Ir.K7) rfl VOK.nil [] [aB (Q164 (e' := .call 10 [.sl [(Val.cells p0), (Val.cells p1)]] []) (t_Kd ([p0, p1]) (H.1)) (by simp only [c_Kd, Val.Q3m, Val.Q68])) h0, aN (t_Kf p0 p1 (H.2.1 h0)), aN (Q1am p0 p1 (H.2.2.1 h0)), aB (t_Ky (s_Kf p0 p1) (Q6q p0 p1) (H.2.2.2.1 h0)) h1, aN t_Ka] (by kernel_rfl)
  | false =>
   exact Q9 (fn := Ir.K7) rfl VOK.nil [] [aB (Q164 (e' := .call 10 [.sl [(Val.cells p0), (Val.cells p1)]] []) (t_Kd ([p0, p1]) (H.1)) (by simp only [c_Kd, Val.Q3m, Val.Q68])) h0, aN (t_Kf p0 p1 (H.2.1 h0)), aN (Q1am p0 p1 (H.2.2.1 h0)), aB (t_Ky (s_Kf p0 p1) (Q6q p0 p1) (H.2.2.2.1 h0)) h1] (by kernel_rfl)
 | false =>
  exact Q9 (fn := Ir.K7) rfl VOK.nil [] [aB (Q164 (e' := .call 10 [.sl [(Val.cells p0), (Val.cells p1)]] []) (t_Kd ([p0, p1]) (H.1)) (by simp only [c_Kd, Val.Q3m, Val.Q68])) h0, aN t_Ka] (by kernel_rfl)
def tysPatchDiffs : List Ty := [.nm 25, .nm 25]
theorem purePatchDiffs (hp : ∀ (p0 : Val) (p1 : Val), Q30 p0 → Q30 p1 → H_K7 p0 p1 ∧ s_K7 p0 p1 = true) : ∀ qs, Args Γ tysPatchDiffs qs → ∃ n, runs G n (.call 4 qs []) = some (.ret (.bool true) []) := by
  intro qs h
  cases qs with
  | nil => cases h
  | cons q0 qs =>
  obtain ⟨h0, h⟩ := h
  cases qs with
  | nil => cases h
  | cons q1 qs =>
  obtain ⟨h1, h⟩ := h
  cases qs with
  | cons _ _ => cases h
  | nil =>
  obtain ⟨c0, rfl, g0⟩ := h0.agg rfl
  obtain ⟨p0, rfl, k0⟩ := (Qus (Q17h 25) g0)
  obtain ⟨c1, rfl, g1⟩ := h1.agg rfl
  obtain ⟨p1, rfl, k1⟩ := (Qus (Q17h 25) g1)
  have e := hp p0 p1 k0 k1
  have t := t_K7 p0 p1 e.1
  unfold a_K7 at t
  rw [e.2] at t
  exact t
end Go.Proofs.Ytnhhddbbppbblaa
end

section
/- PatchDiffs in plain words. -/
namespace Go.Proofs.Ytnhhddbbppbblaa
open Go.Pv
theorem diffs_holds (v p : Val) (hv : Q30 v) (hp : Q30 p) : H_K7 v p ∧ s_K7 v p = true := by
  have S : s_Kd [v, p] = true → tot v * tot p ≤ 3000 * 3000 := fun h => Q19e (Qwa (two hv hp) h v in2a).1 (Qwa (two hv hp) h p in2b).1
  refine ⟨⟨Q1ae (two hv hp) (by simp), fun h => ?_, fun h => ?_, fun h => ?_, trivial⟩, ?_⟩
  · have := S h; unfold H_Kf; omega
  · have := S h; unfold Qs5; omega
  · have := S h
    have := Q13j p v
    rw [Qb2]
    exact alH (by omega)
  · unfold s_K7
    rw [Qb2, Qhy, Qx3]
    cases s_Kd [v, p] <;> rfl
end Go.Proofs.Ytnhhddbbppbblaa
end

section
/- The library's comparison of two strings, walked: it answers as the evaluator's cmpL. -/
namespace Go.Proofs.Ytnhhddbbppbblaa
open Go.Pv
theorem cmpL_eq : ∀ (a b : List UInt8), cmpL a b = Lib.compareBytes a b
  | [], [] => rfl
  | [], _ :: _ => rfl
  | _ :: _, [] => rfl
  | a :: x, b :: y => by
    rw [Lib.compareBytes, ← cmpL_eq x y]
    rfl
set_option maxHeartbeats 1000000 in
set_option maxRecDepth 100000 in
theorem comparing (a b : BA) (w : World) :
    Calls Try.prog 54 #[.string a, .string b] w fun e w' => e = .returned (.int .i64 (Lib.compareBytes a.data.toList b.data.toList)) ∧ w' = w := by
  go_enter Try.func54, Try.ntmps54
  go_wp2
  rw [run_callFunc_extern Try.func68 (by kernel_rfl) (by kernel_rfl) (by kernel_rfl) (e := Extern.BytealgCompare.compare) (by kernel_rfl), Lib.run_compareString]
  simp only [Result.andThen]
  rw [Oper.upon_value]
  go_wp2
  go_ret
  exact ⟨rfl, rfl⟩
theorem cmpOK : Q163 Try.prog 54 := by
  refine ⟨⟨_, Try.func54, by kernel_rfl, by kernel_rfl⟩, fun x y w => ?_⟩
  have h := comparing x y w
  rw [← cmpL_eq, ← toList_data, ← toList_data] at h
  exact h
end Go.Proofs.Ytnhhddbbppbblaa
end

