/- QosRanks in plain words. -/
import Derived.Test.YtnicmdfafihmpaaRankH
import Derived.Test.YtnicmdfafihmpaaQosRanks
namespace Go.Proofs.Ytnicmdfafihmpaa
open Go.Pv Go.Pv.Srt

theorem relieve_le (p0 : List Pod) (p1 : List Int) (p2 p3 : Int) : (s_ref51_Relieve p0 p1 p2 p3).length ≤ p0.length := by
  unfold s_ref51_Relieve
  have := relieve_len p0 p1 p3 (s_ref51_order p0 p1) 0 [] (s_ref51_limit p2)
  rw [order_len] at this
  simpa using this
theorem ranks_holds (p0 : List Pod) (p1 : List Int) (p2 p3 : Int) (k0 : okL 480 Pod_ok p0) : H_law51_QosRanks p0 p1 p2 p3 ∧ s_law51_QosRanks p0 p1 p2 p3 = true := by
  have hl : decide (40 < ((p0.length : Nat) : Int)) = false → p0.length ≤ 40 := fun h => by have := of_decide_eq_false h; omega
  refine ⟨⟨fun h => rankH p1 k0 (hl h), fun h => rrankH p1 k0 (hl h), fun h => ?_, fun h _ => relieveH p1 p2 p3 k0 (hl h), fun h _ => rrelieveH p1 p2 p3 k0 (hl h), fun h _ => ?_, trivial⟩, ?_⟩
  · rw [rank_eq]
    exact stringsH _ (by rw [← rank_eq, rank_len]; have := hl h; omega)
  · rw [relieve_eq]
    exact stringsH _ (by have := relieve_le p0 p1 p2 p3; have := hl h; omega)
  · unfold s_law51_QosRanks
    cases decide (40 < ((p0.length : Nat) : Int)) with
    | true => rfl
    | false =>
      rw [cond_false, rank_eq, relieve_eq, same, same]
      rfl
end Go.Proofs.Ytnicmdfafihmpaa
