/- What the functions of the law QosRanks compute (printed by a program). -/
import Derived.Test.YtnicmdfafihmpaaRank
namespace Go.Proofs.Ytnicmdfafihmpaa
open Go.Pv


/-- orchestrator/ orchestratorlaw51.QosRanks -/
def s_law51_QosRanks (p0 : List Pod) (p1 : List Int) (p2 : Int) (p3 : Int) : Bool :=
  bif (decide (40 < ((List.length p0) : Int))) then
    true
  else
    bif (s_ref51_Strings (s_qos_Rank p0 p1) (s_ref51_Rank p0 p1)) then
      (s_ref51_Strings (s_qos_Relieve p0 p1 p2 p3) (s_ref51_Relieve p0 p1 p2 p3))
    else
      false
def c_law51_QosRanks (p0 : List Pod) (p1 : List Int) (p2 : Int) (p3 : Int) : En := .call 4 [.sl (Pod.rows p0), .sl (intRows p1), .int .i64 p2, .int .i64 p3] []
def a_law51_QosRanks (p0 : List Pod) (p1 : List Int) (p2 : Int) (p3 : Int) : Rs := .ret (.bool (s_law51_QosRanks p0 p1 p2 p3)) []
def H_law51_QosRanks (p0 : List Pod) (p1 : List Int) (p2 : Int) (p3 : Int) : Prop := ((decide (40 < ((List.length p0) : Int))) = false → H_qos_Rank p0 p1) ∧ ((decide (40 < ((List.length p0) : Int))) = false → H_ref51_Rank p0 p1) ∧ ((decide (40 < ((List.length p0) : Int))) = false → H_ref51_Strings (s_qos_Rank p0 p1) (s_ref51_Rank p0 p1)) ∧ ((decide (40 < ((List.length p0) : Int))) = false → (s_ref51_Strings (s_qos_Rank p0 p1) (s_ref51_Rank p0 p1)) = true → H_qos_Relieve p0 p1 p2 p3) ∧ ((decide (40 < ((List.length p0) : Int))) = false → (s_ref51_Strings (s_qos_Rank p0 p1) (s_ref51_Rank p0 p1)) = true → H_ref51_Relieve p0 p1 p2 p3) ∧ ((decide (40 < ((List.length p0) : Int))) = false → (s_ref51_Strings (s_qos_Rank p0 p1) (s_ref51_Rank p0 p1)) = true → H_ref51_Strings (s_qos_Relieve p0 p1 p2 p3) (s_ref51_Relieve p0 p1 p2 p3)) ∧ True
theorem t_law51_QosRanks (p0 : List Pod) (p1 : List Int) (p2 : Int) (p3 : Int) (H : H_law51_QosRanks p0 p1 p2 p3) : Tells G (c_law51_QosRanks p0 p1 p2 p3) (a_law51_QosRanks p0 p1 p2 p3) := by
  unfold a_law51_QosRanks s_law51_QosRanks
  cases h0 : (decide (40 < ((List.length p0) : Int))) with
  | true =>
   exact tells_VI (fn := Ir.law51_QosRanks) rfl VOK.nil [hP 2 (len_ok (Pod.rows p0) (List.length p0) (Pod.rowsLen p0)), hB 0 h0] [aN t_law51_lives] (by kernel_rfl)
  | false =>
   cases h1 : (s_ref51_Strings (s_qos_Rank p0 p1) (s_ref51_Rank p0 p1)) with
   | true =>
    exact tells_VI (fn := Ir.law51_QosRanks) rfl VOK.nil [hP 2 (len_ok (Pod.rows p0) (List.length p0) (Pod.rowsLen p0)), hB 0 h0] [aN t_law51_lives, aN (t_qos_Rank p0 p1 (H.1 h0)), aN (t_ref51_Rank p0 p1 (H.2.1 h0)), aB (t_ref51_Strings (s_qos_Rank p0 p1) (s_ref51_Rank p0 p1) (H.2.2.1 h0)) h1, aN (t_qos_Relieve p0 p1 p2 p3 (H.2.2.2.1 h0 h1)), aN (t_ref51_Relieve p0 p1 p2 p3 (H.2.2.2.2.1 h0 h1)), aN (t_ref51_Strings (s_qos_Relieve p0 p1 p2 p3) (s_ref51_Relieve p0 p1 p2 p3) (H.2.2.2.2.2.1 h0 h1))] (by kernel_rfl)
   | false =>
    exact tells_VI (fn := Ir.law51_QosRanks) rfl VOK.nil [hP 2 (len_ok (Pod.rows p0) (List.length p0) (Pod.rowsLen p0)), hB 0 h0] [aN t_law51_lives, aN (t_qos_Rank p0 p1 (H.1 h0)), aN (t_ref51_Rank p0 p1 (H.2.1 h0)), aB (t_ref51_Strings (s_qos_Rank p0 p1) (s_ref51_Rank p0 p1) (H.2.2.1 h0)) h1] (by kernel_rfl)

def tysQosRanks : List Ty := [.sl 480 Pod_ty, .sl 8 (.int .i64), .int .i64, .int .i64]
theorem pureQosRanks (hp : ∀ (p0 : List Pod) (p1 : List Int) (p2 : Int) (p3 : Int), (okL 480 Pod_ok) p0 → (okL 8 okI64) p1 → okI64 p2 → okI64 p3 → H_law51_QosRanks p0 p1 p2 p3 ∧ s_law51_QosRanks p0 p1 p2 p3 = true) : ∀ qs, Args Γ tysQosRanks qs → ∃ n, runs G n (.call 4 qs []) = some (.ret (.bool true) []) := by
  intro qs h
  cases qs with
  | nil => cases h
  | cons q0 qs =>
  obtain ⟨h0, h⟩ := h
  cases qs with
  | nil => cases h
  | cons q1 qs =>
  obtain ⟨h1, h⟩ := h
  cases qs with
  | nil => cases h
  | cons q2 qs =>
  obtain ⟨h2, h⟩ := h
  cases qs with
  | nil => cases h
  | cons q3 qs =>
  obtain ⟨h3, h⟩ := h
  cases qs with
  | cons _ _ => cases h
  | nil =>
  have g0 := h0.one rfl
  obtain ⟨p0, e0, k0⟩ := (g0.sl1 (f := Pod.cells) (ok := Pod_ok) fun r hr => (Pod_open hr))
  injection e0 with e0
  subst e0
  have g1 := h1.one rfl
  obtain ⟨p1, e1, k1⟩ := (g1.sl1 (f := (fun n : Int => [.int .i64 n])) (ok := okI64) fun r hr => hr.i64)
  injection e1 with e1
  subst e1
  have g2 := h2.one rfl
  obtain ⟨p2, e2, k2⟩ := g2.i64
  injection e2 with e2
  subst e2
  have g3 := h3.one rfl
  obtain ⟨p3, e3, k3⟩ := g3.i64
  injection e3 with e3
  subst e3
  have e := hp p0 p1 p2 p3 k0 k1 k2 k3
  have t := t_law51_QosRanks p0 p1 p2 p3 e.1
  unfold a_law51_QosRanks at t
  rw [e.2] at t
  exact t

end Go.Proofs.Ytnicmdfafihmpaa
