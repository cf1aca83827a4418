/- What the functions of the law QosRises compute (printed by a program). -/
import Derived.Test.YtnicmdfafihmpaaRank
namespace Go.Proofs.Ytnicmdfafihmpaa
open Go.Pv


/-- orchestrator/ orchestratorlaw51.QosRises -/
def s_law51_QosRises (p0 : List Pod) (p1 : List Int) (p2 : Int) (p3 : Int) : Bool :=
  bif (s_law51_fits p0 p1) then
    bif (decide (p2 < 0)) then
      true
    else
      bif (decide (((List.length p0) : Int) ≤ p2)) then
        true
      else
        bif (decide (p3 < 0)) then
          true
        else
          bif (decide ((w64 (1000000000000000 - (List.getD p1 (Int.toNat p2) 0))) < p3)) then
            true
          else
            bif (List.isEmpty p1) then
              false
            else
              bif (decide (0 ≤ (s_law51_place (s_qos_Rank p0 p1) (s_meta_KeyOf (List.getD p0 (Int.toNat p2) (Pod.mk (Meta.mk (⟨#[]⟩ : ByteArray) (⟨#[]⟩ : ByteArray) (⟨#[]⟩ : ByteArray) 0 0 0 0 false 0 [] [] [] []) (PodSpec.mk (⟨#[]⟩ : ByteArray) 0 0 0 [] [] [] [] [] []) (PodStatus.mk 0 false 0 0 0 [] 0 (⟨#[]⟩ : ByteArray) (⟨#[]⟩ : ByteArray)))).meta_)))) then
                bif (decide (0 ≤ (s_law51_place (s_qos_Rank p0 (List.set p1 (Int.toNat p2) (w64 ((List.getD p1 (Int.toNat p2) 0) + p3)))) (s_meta_KeyOf (List.getD p0 (Int.toNat p2) (Pod.mk (Meta.mk (⟨#[]⟩ : ByteArray) (⟨#[]⟩ : ByteArray) (⟨#[]⟩ : ByteArray) 0 0 0 0 false 0 [] [] [] []) (PodSpec.mk (⟨#[]⟩ : ByteArray) 0 0 0 [] [] [] [] [] []) (PodStatus.mk 0 false 0 0 0 [] 0 (⟨#[]⟩ : ByteArray) (⟨#[]⟩ : ByteArray)))).meta_)))) then
                  (decide ((s_law51_place (s_qos_Rank p0 (List.set p1 (Int.toNat p2) (w64 ((List.getD p1 (Int.toNat p2) 0) + p3)))) (s_meta_KeyOf (List.getD p0 (Int.toNat p2) (Pod.mk (Meta.mk (⟨#[]⟩ : ByteArray) (⟨#[]⟩ : ByteArray) (⟨#[]⟩ : ByteArray) 0 0 0 0 false 0 [] [] [] []) (PodSpec.mk (⟨#[]⟩ : ByteArray) 0 0 0 [] [] [] [] [] []) (PodStatus.mk 0 false 0 0 0 [] 0 (⟨#[]⟩ : ByteArray) (⟨#[]⟩ : ByteArray)))).meta_)) ≤ (s_law51_place (s_qos_Rank p0 p1) (s_meta_KeyOf (List.getD p0 (Int.toNat p2) (Pod.mk (Meta.mk (⟨#[]⟩ : ByteArray) (⟨#[]⟩ : ByteArray) (⟨#[]⟩ : ByteArray) 0 0 0 0 false 0 [] [] [] []) (PodSpec.mk (⟨#[]⟩ : ByteArray) 0 0 0 [] [] [] [] [] []) (PodStatus.mk 0 false 0 0 0 [] 0 (⟨#[]⟩ : ByteArray) (⟨#[]⟩ : ByteArray)))).meta_))))
                else
                  false
              else
                false
  else
    true
def c_law51_QosRises (p0 : List Pod) (p1 : List Int) (p2 : Int) (p3 : Int) : En := .call 6 [.sl (Pod.rows p0), .sl (intRows p1), .int .i64 p2, .int .i64 p3] []
def a_law51_QosRises (p0 : List Pod) (p1 : List Int) (p2 : Int) (p3 : Int) : Rs := .ret (.bool (s_law51_QosRises p0 p1 p2 p3)) []
def H_law51_QosRises (p0 : List Pod) (p1 : List Int) (p2 : Int) (p3 : Int) : Prop := (H_law51_fits p0 p1) ∧ ((s_law51_fits p0 p1) = true → (decide (p2 < 0)) = false → (decide (((List.length p0) : Int) ≤ p2)) = false → (decide (p3 < 0)) = false → 0 ≤ p2) ∧ ((s_law51_fits p0 p1) = true → (decide (p2 < 0)) = false → (decide (((List.length p0) : Int) ≤ p2)) = false → (decide (p3 < 0)) = false → Int.toNat p2 < List.length p1) ∧ ((s_law51_fits p0 p1) = true → (decide (p2 < 0)) = false → (decide (((List.length p0) : Int) ≤ p2)) = false → (decide (p3 < 0)) = false → (decide ((w64 (1000000000000000 - (List.getD p1 (Int.toNat p2) 0))) < p3)) = false → 0 ≤ p2) ∧ ((s_law51_fits p0 p1) = true → (decide (p2 < 0)) = false → (decide (((List.length p0) : Int) ≤ p2)) = false → (decide (p3 < 0)) = false → (decide ((w64 (1000000000000000 - (List.getD p1 (Int.toNat p2) 0))) < p3)) = false → Int.toNat p2 < List.length p0) ∧ ((s_law51_fits p0 p1) = true → (decide (p2 < 0)) = false → (decide (((List.length p0) : Int) ≤ p2)) = false → (decide (p3 < 0)) = false → (decide ((w64 (1000000000000000 - (List.getD p1 (Int.toNat p2) 0))) < p3)) = false → H_meta_KeyOf (List.getD p0 (Int.toNat p2) (Pod.mk (Meta.mk (⟨#[]⟩ : ByteArray) (⟨#[]⟩ : ByteArray) (⟨#[]⟩ : ByteArray) 0 0 0 0 false 0 [] [] [] []) (PodSpec.mk (⟨#[]⟩ : ByteArray) 0 0 0 [] [] [] [] [] []) (PodStatus.mk 0 false 0 0 0 [] 0 (⟨#[]⟩ : ByteArray) (⟨#[]⟩ : ByteArray)))).meta_) ∧ ((s_law51_fits p0 p1) = true → (decide (p2 < 0)) = false → (decide (((List.length p0) : Int) ≤ p2)) = false → (decide (p3 < 0)) = false → (decide ((w64 (1000000000000000 - (List.getD p1 (Int.toNat p2) 0))) < p3)) = false → H_qos_Rank p0 p1) ∧ ((s_law51_fits p0 p1) = true → (decide (p2 < 0)) = false → (decide (((List.length p0) : Int) ≤ p2)) = false → (decide (p3 < 0)) = false → (decide ((w64 (1000000000000000 - (List.getD p1 (Int.toNat p2) 0))) < p3)) = false → H_law51_place (s_qos_Rank p0 p1) (s_meta_KeyOf (List.getD p0 (Int.toNat p2) (Pod.mk (Meta.mk (⟨#[]⟩ : ByteArray) (⟨#[]⟩ : ByteArray) (⟨#[]⟩ : ByteArray) 0 0 0 0 false 0 [] [] [] []) (PodSpec.mk (⟨#[]⟩ : ByteArray) 0 0 0 [] [] [] [] [] []) (PodStatus.mk 0 false 0 0 0 [] 0 (⟨#[]⟩ : ByteArray) (⟨#[]⟩ : ByteArray)))).meta_)) ∧ ((s_law51_fits p0 p1) = true → (decide (p2 < 0)) = false → (decide (((List.length p0) : Int) ≤ p2)) = false → (decide (p3 < 0)) = false → (decide ((w64 (1000000000000000 - (List.getD p1 (Int.toNat p2) 0))) < p3)) = false → (List.isEmpty p1) = true → 0 ≤ p2) ∧ ((s_law51_fits p0 p1) = true → (decide (p2 < 0)) = false → (decide (((List.length p0) : Int) ≤ p2)) = false → (decide (p3 < 0)) = false → (decide ((w64 (1000000000000000 - (List.getD p1 (Int.toNat p2) 0))) < p3)) = false → (List.isEmpty p1) = true → Int.toNat p2 < List.length p1) ∧ ((s_law51_fits p0 p1) = true → (decide (p2 < 0)) = false → (decide (((List.length p0) : Int) ≤ p2)) = false → (decide (p3 < 0)) = false → (decide ((w64 (1000000000000000 - (List.getD p1 (Int.toNat p2) 0))) < p3)) = false → (List.isEmpty p1) = true → False) ∧ ((s_law51_fits p0 p1) = true → (decide (p2 < 0)) = false → (decide (((List.length p0) : Int) ≤ p2)) = false → (decide (p3 < 0)) = false → (decide ((w64 (1000000000000000 - (List.getD p1 (Int.toNat p2) 0))) < p3)) = false → (List.isEmpty p1) = false → (List.length p1) * 8 ≤ 140737488355328) ∧ ((s_law51_fits p0 p1) = true → (decide (p2 < 0)) = false → (decide (((List.length p0) : Int) ≤ p2)) = false → (decide (p3 < 0)) = false → (decide ((w64 (1000000000000000 - (List.getD p1 (Int.toNat p2) 0))) < p3)) = false → (List.isEmpty p1) = false → 0 ≤ p2) ∧ ((s_law51_fits p0 p1) = true → (decide (p2 < 0)) = false → (decide (((List.length p0) : Int) ≤ p2)) = false → (decide (p3 < 0)) = false → (decide ((w64 (1000000000000000 - (List.getD p1 (Int.toNat p2) 0))) < p3)) = false → (List.isEmpty p1) = false → Int.toNat p2 < List.length p1) ∧ ((s_law51_fits p0 p1) = true → (decide (p2 < 0)) = false → (decide (((List.length p0) : Int) ≤ p2)) = false → (decide (p3 < 0)) = false → (decide ((w64 (1000000000000000 - (List.getD p1 (Int.toNat p2) 0))) < p3)) = false → (List.isEmpty p1) = false → p2 < (((List.length p1) : Nat) : Int)) ∧ ((s_law51_fits p0 p1) = true → (decide (p2 < 0)) = false → (decide (((List.length p0) : Int) ≤ p2)) = false → (decide (p3 < 0)) = false → (decide ((w64 (1000000000000000 - (List.getD p1 (Int.toNat p2) 0))) < p3)) = false → (List.isEmpty p1) = false → (Int.toNat p2) < List.length p1) ∧ ((s_law51_fits p0 p1) = true → (decide (p2 < 0)) = false → (decide (((List.length p0) : Int) ≤ p2)) = false → (decide (p3 < 0)) = false → (decide ((w64 (1000000000000000 - (List.getD p1 (Int.toNat p2) 0))) < p3)) = false → (List.isEmpty p1) = false → H_qos_Rank p0 (List.set p1 (Int.toNat p2) (w64 ((List.getD p1 (Int.toNat p2) 0) + p3)))) ∧ ((s_law51_fits p0 p1) = true → (decide (p2 < 0)) = false → (decide (((List.length p0) : Int) ≤ p2)) = false → (decide (p3 < 0)) = false → (decide ((w64 (1000000000000000 - (List.getD p1 (Int.toNat p2) 0))) < p3)) = false → (List.isEmpty p1) = false → H_law51_place (s_qos_Rank p0 (List.set p1 (Int.toNat p2) (w64 ((List.getD p1 (Int.toNat p2) 0) + p3)))) (s_meta_KeyOf (List.getD p0 (Int.toNat p2) (Pod.mk (Meta.mk (⟨#[]⟩ : ByteArray) (⟨#[]⟩ : ByteArray) (⟨#[]⟩ : ByteArray) 0 0 0 0 false 0 [] [] [] []) (PodSpec.mk (⟨#[]⟩ : ByteArray) 0 0 0 [] [] [] [] [] []) (PodStatus.mk 0 false 0 0 0 [] 0 (⟨#[]⟩ : ByteArray) (⟨#[]⟩ : ByteArray)))).meta_)) ∧ True
theorem t_law51_QosRises_0 (p0 : List Pod) (p1 : List Int) (p2 : Int) (p3 : Int) (H : H_law51_QosRises p0 p1 p2 p3) (h0 : (s_law51_fits p0 p1) = true) (h1 : (decide (p2 < 0)) = true) : Tells G (c_law51_QosRises p0 p1 p2 p3) (.ret (.bool (true)) []) := by
  exact tells_VI (fn := Ir.law51_QosRises) rfl VOK.nil [hB 7 h1] [aB (t_law51_fits p0 p1 (H.1)) h0, aN t_law51_lives] (by kernel_rfl)
theorem t_law51_QosRises_1 (p0 : List Pod) (p1 : List Int) (p2 : Int) (p3 : Int) (H : H_law51_QosRises p0 p1 p2 p3) (h0 : (s_law51_fits p0 p1) = true) (h1 : (decide (p2 < 0)) = false) (h2 : (decide (((List.length p0) : Int) ≤ p2)) = true) : Tells G (c_law51_QosRises p0 p1 p2 p3) (.ret (.bool (true)) []) := by
  exact tells_VI (fn := Ir.law51_QosRises) rfl VOK.nil [hB 7 h1, hP 4 (len_ok (Pod.rows p0) (List.length p0) (Pod.rowsLen p0)), hB 0 h2] [aB (t_law51_fits p0 p1 (H.1)) h0, aN t_law51_lives] (by kernel_rfl)
theorem t_law51_QosRises_2 (p0 : List Pod) (p1 : List Int) (p2 : Int) (p3 : Int) (H : H_law51_QosRises p0 p1 p2 p3) (h0 : (s_law51_fits p0 p1) = true) (h1 : (decide (p2 < 0)) = false) (h2 : (decide (((List.length p0) : Int) ≤ p2)) = false) : Tells G (c_law51_QosRises p0 p1 p2 p3) (.ret (.bool (bif (decide (p3 < 0)) then
    true
  else
    bif (decide ((w64 (1000000000000000 - (List.getD p1 (Int.toNat p2) 0))) < p3)) then
      true
    else
      bif (List.isEmpty p1) then
        false
      else
        bif (decide (0 ≤ (s_law51_place (s_qos_Rank p0 p1) (s_meta_KeyOf (List.getD p0 (Int.toNat p2) (Pod.mk (Meta.mk (⟨#[]⟩ : ByteArray) (⟨#[]⟩ : ByteArray) (⟨#[]⟩ : ByteArray) 0 0 0 0 false 0 [] [] [] []) (PodSpec.mk (⟨#[]⟩ : ByteArray) 0 0 0 [] [] [] [] [] []) (PodStatus.mk 0 false 0 0 0 [] 0 (⟨#[]⟩ : ByteArray) (⟨#[]⟩ : ByteArray)))).meta_)))) then
          bif (decide (0 ≤ (s_law51_place (s_qos_Rank p0 (List.set p1 (Int.toNat p2) (w64 ((List.getD p1 (Int.toNat p2) 0) + p3)))) (s_meta_KeyOf (List.getD p0 (Int.toNat p2) (Pod.mk (Meta.mk (⟨#[]⟩ : ByteArray) (⟨#[]⟩ : ByteArray) (⟨#[]⟩ : ByteArray) 0 0 0 0 false 0 [] [] [] []) (PodSpec.mk (⟨#[]⟩ : ByteArray) 0 0 0 [] [] [] [] [] []) (PodStatus.mk 0 false 0 0 0 [] 0 (⟨#[]⟩ : ByteArray) (⟨#[]⟩ : ByteArray)))).meta_)))) then
            (decide ((s_law51_place (s_qos_Rank p0 (List.set p1 (Int.toNat p2) (w64 ((List.getD p1 (Int.toNat p2) 0) + p3)))) (s_meta_KeyOf (List.getD p0 (Int.toNat p2) (Pod.mk (Meta.mk (⟨#[]⟩ : ByteArray) (⟨#[]⟩ : ByteArray) (⟨#[]⟩ : ByteArray) 0 0 0 0 false 0 [] [] [] []) (PodSpec.mk (⟨#[]⟩ : ByteArray) 0 0 0 [] [] [] [] [] []) (PodStatus.mk 0 false 0 0 0 [] 0 (⟨#[]⟩ : ByteArray) (⟨#[]⟩ : ByteArray)))).meta_)) ≤ (s_law51_place (s_qos_Rank p0 p1) (s_meta_KeyOf (List.getD p0 (Int.toNat p2) (Pod.mk (Meta.mk (⟨#[]⟩ : ByteArray) (⟨#[]⟩ : ByteArray) (⟨#[]⟩ : ByteArray) 0 0 0 0 false 0 [] [] [] []) (PodSpec.mk (⟨#[]⟩ : ByteArray) 0 0 0 [] [] [] [] [] []) (PodStatus.mk 0 false 0 0 0 [] 0 (⟨#[]⟩ : ByteArray) (⟨#[]⟩ : ByteArray)))).meta_))))
          else
            false
        else
          false)) []) := by
  cases h3 : (decide (p3 < 0)) with
  | true =>
   exact tells_VI (fn := Ir.law51_QosRises) rfl VOK.nil [hB 7 h1, hP 4 (len_ok (Pod.rows p0) (List.length p0) (Pod.rowsLen p0)), hB 0 h2, hB 3 h3] [aB (t_law51_fits p0 p1 (H.1)) h0, aN t_law51_lives] (by kernel_rfl)
  | false =>
   cases h4 : (decide ((w64 (1000000000000000 - (List.getD p1 (Int.toNat p2) 0))) < p3)) with
   | true =>
    exact tells_VI (fn := Ir.law51_QosRises) rfl VOK.nil [hB 7 h1, hP 4 (len_ok (Pod.rows p0) (List.length p0) (Pod.rowsLen p0)), hB 0 h2, hB 3 h3, hP 5 (ixI_ok 1 (intRows p1) p2 _ (H.2.1 h0 h1 h2 h3) (intRowsGet (getD_ok p1 (Int.toNat p2) 0 (H.2.2.1 h0 h1 h2 h3))) rfl), hB 2 h4] [aB (t_law51_fits p0 p1 (H.1)) h0, aN t_law51_lives] (by kernel_rfl)
   | false =>
    cases h5 : (List.isEmpty p1) with
    | true =>
     exact (H.2.2.2.2.2.2.2.2.2.2.1 h0 h1 h2 h3 h4 h5).elim
    | false =>
     cases h6 : (decide (0 ≤ (s_law51_place (s_qos_Rank p0 p1) (s_meta_KeyOf (List.getD p0 (Int.toNat p2) (Pod.mk (Meta.mk (⟨#[]⟩ : ByteArray) (⟨#[]⟩ : ByteArray) (⟨#[]⟩ : ByteArray) 0 0 0 0 false 0 [] [] [] []) (PodSpec.mk (⟨#[]⟩ : ByteArray) 0 0 0 [] [] [] [] [] []) (PodStatus.mk 0 false 0 0 0 [] 0 (⟨#[]⟩ : ByteArray) (⟨#[]⟩ : ByteArray)))).meta_)))) with
     | true =>
      cases h7 : (decide (0 ≤ (s_law51_place (s_qos_Rank p0 (List.set p1 (Int.toNat p2) (w64 ((List.getD p1 (Int.toNat p2) 0) + p3)))) (s_meta_KeyOf (List.getD p0 (Int.toNat p2) (Pod.mk (Meta.mk (⟨#[]⟩ : ByteArray) (⟨#[]⟩ : ByteArray) (⟨#[]⟩ : ByteArray) 0 0 0 0 false 0 [] [] [] []) (PodSpec.mk (⟨#[]⟩ : ByteArray) 0 0 0 [] [] [] [] [] []) (PodStatus.mk 0 false 0 0 0 [] 0 (⟨#[]⟩ : ByteArray) (⟨#[]⟩ : ByteArray)))).meta_)))) with
      | true =>
       exact tells_VI (fn := Ir.law51_QosRises) rfl VOK.nil [hB 7 h1, hP 4 (len_ok (Pod.rows p0) (List.length p0) (Pod.rowsLen p0)), hB 0 h2, hB 3 h3, hP 5 (ixI_ok 1 (intRows p1) p2 _ (H.2.1 h0 h1 h2 h3) (intRowsGet (getD_ok p1 (Int.toNat p2) 0 (H.2.2.1 h0 h1 h2 h3))) rfl), hB 2 h4, hP 3 (ixI_ok 32 (Pod.rows p0) p2 _ (H.2.2.2.1 h0 h1 h2 h3 h4) (Pod.rowsGet (getD_ok p0 (Int.toNat p2) (Pod.mk (Meta.mk (⟨#[]⟩ : ByteArray) (⟨#[]⟩ : ByteArray) (⟨#[]⟩ : ByteArray) 0 0 0 0 false 0 [] [] [] []) (PodSpec.mk (⟨#[]⟩ : ByteArray) 0 0 0 [] [] [] [] [] []) (PodStatus.mk 0 false 0 0 0 [] 0 (⟨#[]⟩ : ByteArray) (⟨#[]⟩ : ByteArray))) (H.2.2.2.2.1 h0 h1 h2 h3 h4))) rfl), hV 13 [(2816, intRows p1)] (apn_ok 2816 1 8 (intRows p1) (List.length p1) (intRowsLen p1).symm (by intro e; have := congrArg List.length e; rw [intRowsLen] at this; have h := h5; cases hY : p1 <;> simp_all) (intRowsSize p1) (by rw [intRowsLen]; exact (H.2.2.2.2.2.2.2.2.2.2.2.1 h0 h1 h2 h3 h4 h5))), hS 0 true (intRowsView p1 1 rfl), hP 5 (ixI_ok 1 (intRows p1) p2 _ (H.2.2.2.2.2.2.2.2.2.2.2.2.1 h0 h1 h2 h3 h4 h5) (intRowsGet (getD_ok p1 (Int.toNat p2) 0 (H.2.2.2.2.2.2.2.2.2.2.2.2.2.1 h0 h1 h2 h3 h4 h5))) rfl), hP 3 (ixs_ok 2816 1 (List.length p1) p2 (Int.toNat p2) rfl (H.2.2.2.2.2.2.2.2.2.2.2.2.1 h0 h1 h2 h3 h4 h5) (H.2.2.2.2.2.2.2.2.2.2.2.2.2.2.1 h0 h1 h2 h3 h4 h5)), hV 0 [(2816, intRows (List.set p1 (Int.toNat p2) (w64 ((List.getD p1 (Int.toNat p2) 0) + p3))))] (st_ok 2816 1 true ((intRows p1).flatten) (intRows p1) (intRows (List.set p1 (Int.toNat p2) (w64 ((List.getD p1 (Int.toNat p2) 0) + p3)))) 1 (Int.toNat p2) 0 ((Int.toNat p2) * 1) _ (.int .i64 (w64 ((List.getD p1 (Int.toNat p2) 0) + p3))) rfl rfl (intRowsGet (getD_ok p1 (Int.toNat p2) 0 (H.2.2.2.2.2.2.2.2.2.2.2.2.2.2.2.1 h0 h1 h2 h3 h4 h5))) (intRowsSize p1) (by decide) rfl rfl (intRowsSet p1 (Int.toNat p2) (w64 ((List.getD p1 (Int.toNat p2) 0) + p3)))), hS 0 true (intRowsView (List.set p1 (Int.toNat p2) (w64 ((List.getD p1 (Int.toNat p2) 0) + p3))) 1 rfl), hQ ((intRowsLen (List.set p1 (Int.toNat p2) (w64 ((List.getD p1 (Int.toNat p2) 0) + p3)))).trans (lenSet rfl (Int.toNat p2) (w64 ((List.getD p1 (Int.toNat p2) 0) + p3)))).symm, hB 9 h6, hB 3 h7] [aB (t_law51_fits p0 p1 (H.1)) h0, aN (t_meta_KeyOf (List.getD p0 (Int.toNat p2) (Pod.mk (Meta.mk (⟨#[]⟩ : ByteArray) (⟨#[]⟩ : ByteArray) (⟨#[]⟩ : ByteArray) 0 0 0 0 false 0 [] [] [] []) (PodSpec.mk (⟨#[]⟩ : ByteArray) 0 0 0 [] [] [] [] [] []) (PodStatus.mk 0 false 0 0 0 [] 0 (⟨#[]⟩ : ByteArray) (⟨#[]⟩ : ByteArray)))).meta_ (H.2.2.2.2.2.1 h0 h1 h2 h3 h4)), aN (t_qos_Rank p0 p1 (H.2.2.2.2.2.2.1 h0 h1 h2 h3 h4)), aN (t_law51_place (s_qos_Rank p0 p1) (s_meta_KeyOf (List.getD p0 (Int.toNat p2) (Pod.mk (Meta.mk (⟨#[]⟩ : ByteArray) (⟨#[]⟩ : ByteArray) (⟨#[]⟩ : ByteArray) 0 0 0 0 false 0 [] [] [] []) (PodSpec.mk (⟨#[]⟩ : ByteArray) 0 0 0 [] [] [] [] [] []) (PodStatus.mk 0 false 0 0 0 [] 0 (⟨#[]⟩ : ByteArray) (⟨#[]⟩ : ByteArray)))).meta_) (H.2.2.2.2.2.2.2.1 h0 h1 h2 h3 h4)), aN (t_qos_Rank p0 (List.set p1 (Int.toNat p2) (w64 ((List.getD p1 (Int.toNat p2) 0) + p3))) (H.2.2.2.2.2.2.2.2.2.2.2.2.2.2.2.2.1 h0 h1 h2 h3 h4 h5)), aN (t_law51_place (s_qos_Rank p0 (List.set p1 (Int.toNat p2) (w64 ((List.getD p1 (Int.toNat p2) 0) + p3)))) (s_meta_KeyOf (List.getD p0 (Int.toNat p2) (Pod.mk (Meta.mk (⟨#[]⟩ : ByteArray) (⟨#[]⟩ : ByteArray) (⟨#[]⟩ : ByteArray) 0 0 0 0 false 0 [] [] [] []) (PodSpec.mk (⟨#[]⟩ : ByteArray) 0 0 0 [] [] [] [] [] []) (PodStatus.mk 0 false 0 0 0 [] 0 (⟨#[]⟩ : ByteArray) (⟨#[]⟩ : ByteArray)))).meta_) (H.2.2.2.2.2.2.2.2.2.2.2.2.2.2.2.2.2.1 h0 h1 h2 h3 h4 h5)), aN t_law51_lives] (by kernel_rfl)
      | false =>
       exact tells_VI (fn := Ir.law51_QosRises) rfl VOK.nil [hB 7 h1, hP 4 (len_ok (Pod.rows p0) (List.length p0) (Pod.rowsLen p0)), hB 0 h2, hB 3 h3, hP 5 (ixI_ok 1 (intRows p1) p2 _ (H.2.1 h0 h1 h2 h3) (intRowsGet (getD_ok p1 (Int.toNat p2) 0 (H.2.2.1 h0 h1 h2 h3))) rfl), hB 2 h4, hP 3 (ixI_ok 32 (Pod.rows p0) p2 _ (H.2.2.2.1 h0 h1 h2 h3 h4) (Pod.rowsGet (getD_ok p0 (Int.toNat p2) (Pod.mk (Meta.mk (⟨#[]⟩ : ByteArray) (⟨#[]⟩ : ByteArray) (⟨#[]⟩ : ByteArray) 0 0 0 0 false 0 [] [] [] []) (PodSpec.mk (⟨#[]⟩ : ByteArray) 0 0 0 [] [] [] [] [] []) (PodStatus.mk 0 false 0 0 0 [] 0 (⟨#[]⟩ : ByteArray) (⟨#[]⟩ : ByteArray))) (H.2.2.2.2.1 h0 h1 h2 h3 h4))) rfl), hV 13 [(2816, intRows p1)] (apn_ok 2816 1 8 (intRows p1) (List.length p1) (intRowsLen p1).symm (by intro e; have := congrArg List.length e; rw [intRowsLen] at this; have h := h5; cases hY : p1 <;> simp_all) (intRowsSize p1) (by rw [intRowsLen]; exact (H.2.2.2.2.2.2.2.2.2.2.2.1 h0 h1 h2 h3 h4 h5))), hS 0 true (intRowsView p1 1 rfl), hP 5 (ixI_ok 1 (intRows p1) p2 _ (H.2.2.2.2.2.2.2.2.2.2.2.2.1 h0 h1 h2 h3 h4 h5) (intRowsGet (getD_ok p1 (Int.toNat p2) 0 (H.2.2.2.2.2.2.2.2.2.2.2.2.2.1 h0 h1 h2 h3 h4 h5))) rfl), hP 3 (ixs_ok 2816 1 (List.length p1) p2 (Int.toNat p2) rfl (H.2.2.2.2.2.2.2.2.2.2.2.2.1 h0 h1 h2 h3 h4 h5) (H.2.2.2.2.2.2.2.2.2.2.2.2.2.2.1 h0 h1 h2 h3 h4 h5)), hV 0 [(2816, intRows (List.set p1 (Int.toNat p2) (w64 ((List.getD p1 (Int.toNat p2) 0) + p3))))] (st_ok 2816 1 true ((intRows p1).flatten) (intRows p1) (intRows (List.set p1 (Int.toNat p2) (w64 ((List.getD p1 (Int.toNat p2) 0) + p3)))) 1 (Int.toNat p2) 0 ((Int.toNat p2) * 1) _ (.int .i64 (w64 ((List.getD p1 (Int.toNat p2) 0) + p3))) rfl rfl (intRowsGet (getD_ok p1 (Int.toNat p2) 0 (H.2.2.2.2.2.2.2.2.2.2.2.2.2.2.2.1 h0 h1 h2 h3 h4 h5))) (intRowsSize p1) (by decide) rfl rfl (intRowsSet p1 (Int.toNat p2) (w64 ((List.getD p1 (Int.toNat p2) 0) + p3)))), hS 0 true (intRowsView (List.set p1 (Int.toNat p2) (w64 ((List.getD p1 (Int.toNat p2) 0) + p3))) 1 rfl), hQ ((intRowsLen (List.set p1 (Int.toNat p2) (w64 ((List.getD p1 (Int.toNat p2) 0) + p3)))).trans (lenSet rfl (Int.toNat p2) (w64 ((List.getD p1 (Int.toNat p2) 0) + p3)))).symm, hB 9 h6, hB 3 h7] [aB (t_law51_fits p0 p1 (H.1)) h0, aN (t_meta_KeyOf (List.getD p0 (Int.toNat p2) (Pod.mk (Meta.mk (⟨#[]⟩ : ByteArray) (⟨#[]⟩ : ByteArray) (⟨#[]⟩ : ByteArray) 0 0 0 0 false 0 [] [] [] []) (PodSpec.mk (⟨#[]⟩ : ByteArray) 0 0 0 [] [] [] [] [] []) (PodStatus.mk 0 false 0 0 0 [] 0 (⟨#[]⟩ : ByteArray) (⟨#[]⟩ : ByteArray)))).meta_ (H.2.2.2.2.2.1 h0 h1 h2 h3 h4)), aN (t_qos_Rank p0 p1 (H.2.2.2.2.2.2.1 h0 h1 h2 h3 h4)), aN (t_law51_place (s_qos_Rank p0 p1) (s_meta_KeyOf (List.getD p0 (Int.toNat p2) (Pod.mk (Meta.mk (⟨#[]⟩ : ByteArray) (⟨#[]⟩ : ByteArray) (⟨#[]⟩ : ByteArray) 0 0 0 0 false 0 [] [] [] []) (PodSpec.mk (⟨#[]⟩ : ByteArray) 0 0 0 [] [] [] [] [] []) (PodStatus.mk 0 false 0 0 0 [] 0 (⟨#[]⟩ : ByteArray) (⟨#[]⟩ : ByteArray)))).meta_) (H.2.2.2.2.2.2.2.1 h0 h1 h2 h3 h4)), aN (t_qos_Rank p0 (List.set p1 (Int.toNat p2) (w64 ((List.getD p1 (Int.toNat p2) 0) + p3))) (H.2.2.2.2.2.2.2.2.2.2.2.2.2.2.2.2.1 h0 h1 h2 h3 h4 h5)), aN (t_law51_place (s_qos_Rank p0 (List.set p1 (Int.toNat p2) (w64 ((List.getD p1 (Int.toNat p2) 0) + p3)))) (s_meta_KeyOf (List.getD p0 (Int.toNat p2) (Pod.mk (Meta.mk (⟨#[]⟩ : ByteArray) (⟨#[]⟩ : ByteArray) (⟨#[]⟩ : ByteArray) 0 0 0 0 false 0 [] [] [] []) (PodSpec.mk (⟨#[]⟩ : ByteArray) 0 0 0 [] [] [] [] [] []) (PodStatus.mk 0 false 0 0 0 [] 0 (⟨#[]⟩ : ByteArray) (⟨#[]⟩ : ByteArray)))).meta_) (H.2.2.2.2.2.2.2.2.2.2.2.2.2.2.2.2.2.1 h0 h1 h2 h3 h4 h5)), aN t_law51_lives] (by kernel_rfl)
     | false =>
      exact tells_VI (fn := Ir.law51_QosRises) rfl VOK.nil [hB 7 h1, hP 4 (len_ok (Pod.rows p0) (List.length p0) (Pod.rowsLen p0)), hB 0 h2, hB 3 h3, hP 5 (ixI_ok 1 (intRows p1) p2 _ (H.2.1 h0 h1 h2 h3) (intRowsGet (getD_ok p1 (Int.toNat p2) 0 (H.2.2.1 h0 h1 h2 h3))) rfl), hB 2 h4, hP 3 (ixI_ok 32 (Pod.rows p0) p2 _ (H.2.2.2.1 h0 h1 h2 h3 h4) (Pod.rowsGet (getD_ok p0 (Int.toNat p2) (Pod.mk (Meta.mk (⟨#[]⟩ : ByteArray) (⟨#[]⟩ : ByteArray) (⟨#[]⟩ : ByteArray) 0 0 0 0 false 0 [] [] [] []) (PodSpec.mk (⟨#[]⟩ : ByteArray) 0 0 0 [] [] [] [] [] []) (PodStatus.mk 0 false 0 0 0 [] 0 (⟨#[]⟩ : ByteArray) (⟨#[]⟩ : ByteArray))) (H.2.2.2.2.1 h0 h1 h2 h3 h4))) rfl), hV 13 [(2816, intRows p1)] (apn_ok 2816 1 8 (intRows p1) (List.length p1) (intRowsLen p1).symm (by intro e; have := congrArg List.length e; rw [intRowsLen] at this; have h := h5; cases hY : p1 <;> simp_all) (intRowsSize p1) (by rw [intRowsLen]; exact (H.2.2.2.2.2.2.2.2.2.2.2.1 h0 h1 h2 h3 h4 h5))), hS 0 true (intRowsView p1 1 rfl), hP 5 (ixI_ok 1 (intRows p1) p2 _ (H.2.2.2.2.2.2.2.2.2.2.2.2.1 h0 h1 h2 h3 h4 h5) (intRowsGet (getD_ok p1 (Int.toNat p2) 0 (H.2.2.2.2.2.2.2.2.2.2.2.2.2.1 h0 h1 h2 h3 h4 h5))) rfl), hP 3 (ixs_ok 2816 1 (List.length p1) p2 (Int.toNat p2) rfl (H.2.2.2.2.2.2.2.2.2.2.2.2.1 h0 h1 h2 h3 h4 h5) (H.2.2.2.2.2.2.2.2.2.2.2.2.2.2.1 h0 h1 h2 h3 h4 h5)), hV 0 [(2816, intRows (List.set p1 (Int.toNat p2) (w64 ((List.getD p1 (Int.toNat p2) 0) + p3))))] (st_ok 2816 1 true ((intRows p1).flatten) (intRows p1) (intRows (List.set p1 (Int.toNat p2) (w64 ((List.getD p1 (Int.toNat p2) 0) + p3)))) 1 (Int.toNat p2) 0 ((Int.toNat p2) * 1) _ (.int .i64 (w64 ((List.getD p1 (Int.toNat p2) 0) + p3))) rfl rfl (intRowsGet (getD_ok p1 (Int.toNat p2) 0 (H.2.2.2.2.2.2.2.2.2.2.2.2.2.2.2.1 h0 h1 h2 h3 h4 h5))) (intRowsSize p1) (by decide) rfl rfl (intRowsSet p1 (Int.toNat p2) (w64 ((List.getD p1 (Int.toNat p2) 0) + p3)))), hS 0 true (intRowsView (List.set p1 (Int.toNat p2) (w64 ((List.getD p1 (Int.toNat p2) 0) + p3))) 1 rfl), hQ ((intRowsLen (List.set p1 (Int.toNat p2) (w64 ((List.getD p1 (Int.toNat p2) 0) + p3)))).trans (lenSet rfl (Int.toNat p2) (w64 ((List.getD p1 (Int.toNat p2) 0) + p3)))).symm, hB 9 h6] [aB (t_law51_fits p0 p1 (H.1)) h0, aN (t_meta_KeyOf (List.getD p0 (Int.toNat p2) (Pod.mk (Meta.mk (⟨#[]⟩ : ByteArray) (⟨#[]⟩ : ByteArray) (⟨#[]⟩ : ByteArray) 0 0 0 0 false 0 [] [] [] []) (PodSpec.mk (⟨#[]⟩ : ByteArray) 0 0 0 [] [] [] [] [] []) (PodStatus.mk 0 false 0 0 0 [] 0 (⟨#[]⟩ : ByteArray) (⟨#[]⟩ : ByteArray)))).meta_ (H.2.2.2.2.2.1 h0 h1 h2 h3 h4)), aN (t_qos_Rank p0 p1 (H.2.2.2.2.2.2.1 h0 h1 h2 h3 h4)), aN (t_law51_place (s_qos_Rank p0 p1) (s_meta_KeyOf (List.getD p0 (Int.toNat p2) (Pod.mk (Meta.mk (⟨#[]⟩ : ByteArray) (⟨#[]⟩ : ByteArray) (⟨#[]⟩ : ByteArray) 0 0 0 0 false 0 [] [] [] []) (PodSpec.mk (⟨#[]⟩ : ByteArray) 0 0 0 [] [] [] [] [] []) (PodStatus.mk 0 false 0 0 0 [] 0 (⟨#[]⟩ : ByteArray) (⟨#[]⟩ : ByteArray)))).meta_) (H.2.2.2.2.2.2.2.1 h0 h1 h2 h3 h4)), aN (t_qos_Rank p0 (List.set p1 (Int.toNat p2) (w64 ((List.getD p1 (Int.toNat p2) 0) + p3))) (H.2.2.2.2.2.2.2.2.2.2.2.2.2.2.2.2.1 h0 h1 h2 h3 h4 h5)), aN (t_law51_place (s_qos_Rank p0 (List.set p1 (Int.toNat p2) (w64 ((List.getD p1 (Int.toNat p2) 0) + p3)))) (s_meta_KeyOf (List.getD p0 (Int.toNat p2) (Pod.mk (Meta.mk (⟨#[]⟩ : ByteArray) (⟨#[]⟩ : ByteArray) (⟨#[]⟩ : ByteArray) 0 0 0 0 false 0 [] [] [] []) (PodSpec.mk (⟨#[]⟩ : ByteArray) 0 0 0 [] [] [] [] [] []) (PodStatus.mk 0 false 0 0 0 [] 0 (⟨#[]⟩ : ByteArray) (⟨#[]⟩ : ByteArray)))).meta_) (H.2.2.2.2.2.2.2.2.2.2.2.2.2.2.2.2.2.1 h0 h1 h2 h3 h4 h5)), aN t_law51_lives] (by kernel_rfl)
theorem t_law51_QosRises_3 (p0 : List Pod) (p1 : List Int) (p2 : Int) (p3 : Int) (H : H_law51_QosRises p0 p1 p2 p3) (h0 : (s_law51_fits p0 p1) = false) : Tells G (c_law51_QosRises p0 p1 p2 p3) (.ret (.bool (true)) []) := by
  exact tells_VI (fn := Ir.law51_QosRises) rfl VOK.nil [] [aB (t_law51_fits p0 p1 (H.1)) h0, aN t_law51_lives] (by kernel_rfl)
theorem t_law51_QosRises (p0 : List Pod) (p1 : List Int) (p2 : Int) (p3 : Int) (H : H_law51_QosRises p0 p1 p2 p3) : Tells G (c_law51_QosRises p0 p1 p2 p3) (a_law51_QosRises p0 p1 p2 p3) := by
  unfold a_law51_QosRises s_law51_QosRises
  cases h0 : (s_law51_fits p0 p1) with
  | true =>
   cases h1 : (decide (p2 < 0)) with
   | true =>
    exact t_law51_QosRises_0 p0 p1 p2 p3 H h0 h1
   | false =>
    cases h2 : (decide (((List.length p0) : Int) ≤ p2)) with
    | true =>
     exact t_law51_QosRises_1 p0 p1 p2 p3 H h0 h1 h2
    | false =>
     exact t_law51_QosRises_2 p0 p1 p2 p3 H h0 h1 h2
  | false =>
   exact t_law51_QosRises_3 p0 p1 p2 p3 H h0

def tysQosRises : List Ty := [.sl 480 Pod_ty, .sl 8 (.int .i64), .int .i64, .int .i64]
theorem pureQosRises (hp : ∀ (p0 : List Pod) (p1 : List Int) (p2 : Int) (p3 : Int), (okL 480 Pod_ok) p0 → (okL 8 okI64) p1 → okI64 p2 → okI64 p3 → H_law51_QosRises p0 p1 p2 p3 ∧ s_law51_QosRises p0 p1 p2 p3 = true) : ∀ qs, Args Γ tysQosRises qs → ∃ n, runs G n (.call 6 qs []) = some (.ret (.bool true) []) := by
  intro qs h
  cases qs with
  | nil => cases h
  | cons q0 qs =>
  obtain ⟨h0, h⟩ := h
  cases qs with
  | nil => cases h
  | cons q1 qs =>
  obtain ⟨h1, h⟩ := h
  cases qs with
  | nil => cases h
  | cons q2 qs =>
  obtain ⟨h2, h⟩ := h
  cases qs with
  | nil => cases h
  | cons q3 qs =>
  obtain ⟨h3, h⟩ := h
  cases qs with
  | cons _ _ => cases h
  | nil =>
  have g0 := h0.one rfl
  obtain ⟨p0, e0, k0⟩ := (g0.sl1 (f := Pod.cells) (ok := Pod_ok) fun r hr => (Pod_open hr))
  injection e0 with e0
  subst e0
  have g1 := h1.one rfl
  obtain ⟨p1, e1, k1⟩ := (g1.sl1 (f := (fun n : Int => [.int .i64 n])) (ok := okI64) fun r hr => hr.i64)
  injection e1 with e1
  subst e1
  have g2 := h2.one rfl
  obtain ⟨p2, e2, k2⟩ := g2.i64
  injection e2 with e2
  subst e2
  have g3 := h3.one rfl
  obtain ⟨p3, e3, k3⟩ := g3.i64
  injection e3 with e3
  subst e3
  have e := hp p0 p1 p2 p3 k0 k1 k2 k3
  have t := t_law51_QosRises p0 p1 p2 p3 e.1
  unfold a_law51_QosRises at t
  rw [e.2] at t
  exact t

end Go.Proofs.Ytnicmdfafihmpaa
