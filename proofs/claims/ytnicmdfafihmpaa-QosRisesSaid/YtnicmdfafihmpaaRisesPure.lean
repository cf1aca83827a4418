/- QosRises in plain words. -/
import Derived.Test.YtnicmdfafihmpaaRise
import Derived.Test.YtnicmdfafihmpaaQosRises
namespace Go.Proofs.Ytnicmdfafihmpaa
open Go.Pv Go.Pv.Srt

theorem placeH (l : List ByteArray) (k : ByteArray) (h : l.length ≤ 4611686018427387904) : H_law51_place l k := ⟨⟨h, trivial⟩, trivial⟩
theorem keyH' {p0 : List Pod} (h : okL 480 Pod_ok p0) (k : ByteArray) : H_law51_index p0 k := ⟨⟨by have := h.1; omega, fun x hx => (key1 _ (h.2 x hx).1).1, trivial⟩, trivial⟩
theorem fitsH' {p0 : List Pod} {p1 : List Int} (h : okL 480 Pod_ok p0) : H_law51_fits p0 p1 := by
  refine ⟨fun e => ?_, trivial⟩
  have e := eq_of_beq e
  have hx : ∀ (i : Nat) (x : Pod), p0[i]? = some x → i < p1.length := fun i x hx => by have := (List.getElem?_eq_some_iff.1 hx).1; omega
  exact ⟨by have := h.1; omega, fun x hx => (key1 _ (h.2 x hx).1).1, fun x _ => keyH' h _, hx, fun i x e _ => hx i x e, trivial⟩
theorem rises_true (p0 : List Pod) (p1 : List Int) (p2 p3 : Int) : s_law51_QosRises p0 p1 p2 p3 = true := by
  unfold s_law51_QosRises
  cases e0 : s_law51_fits p0 p1 with
  | false => rfl
  | true =>
    have F := fit_of e0
    rw [cond_true]
    by_cases h1 : p2 < 0
    · rw [show decide (p2 < 0) = true by simpa using h1]; rfl
    rw [show decide (p2 < 0) = false by simpa using h1, cond_false]
    by_cases h2 : (p0.length : Int) ≤ p2
    · rw [show decide ((p0.length : Int) ≤ p2) = true by simpa using h2]; rfl
    rw [show decide ((p0.length : Int) ≤ p2) = false by simpa using h2, cond_false]
    by_cases h3 : p3 < 0
    · rw [show decide (p3 < 0) = true by simpa using h3]; rfl
    rw [show decide (p3 < 0) = false by simpa using h3, cond_false]
    have hk : p2.toNat < p0.length := by omega
    have hl := F.low _ hk
    have hh := F.high _ hk
    rw [w64_of (n := 1000000000000000 - p1.getD p2.toNat 0) (by omega)]
    by_cases h4 : 1000000000000000 - p1.getD p2.toNat 0 < p3
    · rw [show decide (1000000000000000 - p1.getD p2.toNat 0 < p3) = true by simpa using h4]; rfl
    rw [show decide (1000000000000000 - p1.getD p2.toNat 0 < p3) = false by simpa using h4, cond_false]
    have hne : p1.isEmpty = false := by
      cases p1 with
      | nil => have := F.same; simp at this; omega
      | cons _ _ => rfl
    rw [hne, cond_false, w64_of (n := p1.getD p2.toNat 0 + p3) (by omega)]
    have hr := rise F hk (more := p3) (by omega) (by omega)
    have ha := place_rank F p1 hk
    have hb := place_rank F (p1.set p2.toNat (p1.getD p2.toNat 0 + p3)) hk
    show (bif decide (0 ≤ s_law51_place (s_qos_Rank p0 p1) (keyAt p0 p2.toNat)) then bif decide (0 ≤ s_law51_place (s_qos_Rank p0 (p1.set p2.toNat (p1.getD p2.toNat 0 + p3))) (keyAt p0 p2.toNat)) then decide (s_law51_place (s_qos_Rank p0 (p1.set p2.toNat (p1.getD p2.toNat 0 + p3))) (keyAt p0 p2.toNat) ≤ s_law51_place (s_qos_Rank p0 p1) (keyAt p0 p2.toNat)) else false else false) = true
    rw [show decide (0 ≤ s_law51_place (s_qos_Rank p0 p1) (keyAt p0 p2.toNat)) = true by rw [ha]; simp, cond_true,
      show decide (0 ≤ s_law51_place (s_qos_Rank p0 (p1.set p2.toNat (p1.getD p2.toNat 0 + p3))) (keyAt p0 p2.toNat)) = true by rw [hb]; simp, cond_true]
    simpa using hr
theorem rises_holds (p0 : List Pod) (p1 : List Int) (p2 p3 : Int) (k0 : okL 480 Pod_ok p0) : H_law51_QosRises p0 p1 p2 p3 ∧ s_law51_QosRises p0 p1 p2 p3 = true := by
  refine ⟨⟨fitsH' k0, ?_, ?_, ?_, ?_, ?_, ?_, ?_, ?_, ?_, ?_, ?_, ?_, ?_, ?_, ?_, ?_, ?_, trivial⟩, rises_true p0 p1 p2 p3⟩
  all_goals intro e
  all_goals have F := fit_of e
  all_goals have hs := F.same
  all_goals have hl := F.len
  all_goals intro a1 a2 a3
  all_goals have a1 := of_decide_eq_false a1
  all_goals have a2 := of_decide_eq_false a2
  all_goals have a3 := of_decide_eq_false a3
  · omega
  · omega
  all_goals intro a4
  · omega
  · omega
  · exact (key1 _ (getD_ok k0 (show p2.toNat < p0.length by omega)).1).1
  · exact rankH p1 k0 hl
  · exact placeH _ _ (by rw [rank_len]; omega)
  all_goals intro a5
  · omega
  · omega
  · have := List.isEmpty_iff.1 a5
    rw [this] at hs
    simp at hs
    omega
  · omega
  · omega
  · omega
  · omega
  · omega
  · exact rankH _ k0 hl
  · exact placeH _ _ (by rw [rank_len]; omega)
end Go.Proofs.Ytnicmdfafihmpaa
