/- What the laws ValueValid, ValueCompares, ValueOrder compute (printed by a program). -/
import Derived.Test.YtedohmdgbilicaaVal3
namespace Go.Proofs.Ytedohmdgbilicaa
open Go.Pv


/-- orchestrator/ orchestratorlaw04.awake -/
theorem t_law04_awake : Tells G (.call 10 [] []) (.ret (.bool true) []) := ⟨200, by kernel_rfl⟩

/-- orchestrator/ orchestratorlaw04.ValueValid -/
def s_law04_ValueValid (p0 : Val) : Bool :=
  bif (s_law04_small p0) then
    bif ((s_value_Valid p0) == (s_ref04_Valid p0)) then
      bif ((s_value_Size p0) == (s_ref04_Size p0)) then
        bif ((s_value_Depth p0) == (s_ref04_Depth p0)) then
          true
        else
          false
      else
        false
    else
      false
  else
    true
def c_law04_ValueValid (p0 : Val) : En := .call 3 [.agg (Val.cells p0)] []
def a_law04_ValueValid (p0 : Val) : Rs := .ret (.bool (s_law04_ValueValid p0)) []
def H_law04_ValueValid (p0 : Val) : Prop := (H_law04_small p0) ∧ ((s_law04_small p0) = true → H_value_Valid p0) ∧ ((s_law04_small p0) = true → H_ref04_Valid p0) ∧ ((s_law04_small p0) = true → ((s_value_Valid p0) == (s_ref04_Valid p0)) = true → H_value_Size p0) ∧ ((s_law04_small p0) = true → ((s_value_Valid p0) == (s_ref04_Valid p0)) = true → H_ref04_Size p0) ∧ ((s_law04_small p0) = true → ((s_value_Valid p0) == (s_ref04_Valid p0)) = true → ((s_value_Size p0) == (s_ref04_Size p0)) = true → H_value_Depth p0) ∧ ((s_law04_small p0) = true → ((s_value_Valid p0) == (s_ref04_Valid p0)) = true → ((s_value_Size p0) == (s_ref04_Size p0)) = true → H_ref04_Depth p0) ∧ True
theorem t_law04_ValueValid (p0 : Val) (H : H_law04_ValueValid p0) : Tells G (c_law04_ValueValid p0) (a_law04_ValueValid p0) := by
  unfold a_law04_ValueValid s_law04_ValueValid
  cases h0 : (s_law04_small p0) with
  | true =>
   cases h1 : ((s_value_Valid p0) == (s_ref04_Valid p0)) with
   | true =>
    cases h2 : ((s_value_Size p0) == (s_ref04_Size p0)) with
    | true =>
     cases h3 : ((s_value_Depth p0) == (s_ref04_Depth p0)) with
     | true =>
      exact tells_VI (fn := Ir.law04_ValueValid) rfl VOK.nil [hB 9 h1, hB 5 h2, hB 6 h3] [aB (t_law04_small p0 (H.1)) h0, aN (t_value_Valid p0 (H.2.1 h0)), aN (t_ref04_Valid p0 (H.2.2.1 h0)), aN (t_value_Size p0 (H.2.2.2.1 h0 h1)), aN (t_ref04_Size p0 (H.2.2.2.2.1 h0 h1)), aN (t_value_Depth p0 (H.2.2.2.2.2.1 h0 h1 h2)), aN (t_ref04_Depth p0 (H.2.2.2.2.2.2.1 h0 h1 h2)), aN t_law04_awake] (by kernel_rfl)
     | false =>
      exact tells_VI (fn := Ir.law04_ValueValid) rfl VOK.nil [hB 9 h1, hB 5 h2, hB 6 h3] [aB (t_law04_small p0 (H.1)) h0, aN (t_value_Valid p0 (H.2.1 h0)), aN (t_ref04_Valid p0 (H.2.2.1 h0)), aN (t_value_Size p0 (H.2.2.2.1 h0 h1)), aN (t_ref04_Size p0 (H.2.2.2.2.1 h0 h1)), aN (t_value_Depth p0 (H.2.2.2.2.2.1 h0 h1 h2)), aN (t_ref04_Depth p0 (H.2.2.2.2.2.2.1 h0 h1 h2))] (by kernel_rfl)
    | false =>
     exact tells_VI (fn := Ir.law04_ValueValid) rfl VOK.nil [hB 9 h1, hB 5 h2] [aB (t_law04_small p0 (H.1)) h0, aN (t_value_Valid p0 (H.2.1 h0)), aN (t_ref04_Valid p0 (H.2.2.1 h0)), aN (t_value_Size p0 (H.2.2.2.1 h0 h1)), aN (t_ref04_Size p0 (H.2.2.2.2.1 h0 h1))] (by kernel_rfl)
   | false =>
    exact tells_VI (fn := Ir.law04_ValueValid) rfl VOK.nil [hB 9 h1] [aB (t_law04_small p0 (H.1)) h0, aN (t_value_Valid p0 (H.2.1 h0)), aN (t_ref04_Valid p0 (H.2.2.1 h0))] (by kernel_rfl)
  | false =>
   exact tells_VI (fn := Ir.law04_ValueValid) rfl VOK.nil [] [aB (t_law04_small p0 (H.1)) h0, aN t_law04_awake] (by kernel_rfl)

def tysValueValid : List Ty := [.nm 25]
theorem pureValueValid (hp : ∀ (p0 : Val), Val_ok p0 → H_law04_ValueValid p0 ∧ s_law04_ValueValid p0 = true) : ∀ qs, Args Γ tysValueValid qs → ∃ n, runs G n (.call 3 qs []) = some (.ret (.bool true) []) := by
  intro qs h
  cases qs with
  | nil => cases h
  | cons q0 qs =>
  obtain ⟨h0, h⟩ := h
  cases qs with
  | cons _ _ => cases h
  | nil =>
  obtain ⟨c0, rfl, g0⟩ := h0.agg rfl
  obtain ⟨p0, rfl, k0⟩ := (Val_open (gam_at 25) g0)
  have e := hp p0 k0
  have t := t_law04_ValueValid p0 e.1
  unfold a_law04_ValueValid at t
  rw [e.2] at t
  exact t

/-- orchestrator/ orchestratorlaw04.ValueCompares -/
def s_law04_ValueCompares (p0 : Val) (p1 : Val) : Bool :=
  bif (s_law04_small p0) then
    bif (s_law04_small p1) then
      bif ((s_value_Compare p0 p1) == (s_ref04_Compare p0 p1)) then
        bif ((s_value_Equal p0 p1) == (s_ref04_Equal p0 p1)) then
          bif (s_value_Equal p0 p0) then
            true
          else
            false
        else
          false
      else
        false
    else
      true
  else
    true
def c_law04_ValueCompares (p0 : Val) (p1 : Val) : En := .call 4 [.agg (Val.cells p0), .agg (Val.cells p1)] []
def a_law04_ValueCompares (p0 : Val) (p1 : Val) : Rs := .ret (.bool (s_law04_ValueCompares p0 p1)) []
def H_law04_ValueCompares (p0 : Val) (p1 : Val) : Prop := (H_law04_small p0) ∧ ((s_law04_small p0) = true → H_law04_small p1) ∧ ((s_law04_small p0) = true → (s_law04_small p1) = true → H_value_Compare p0) ∧ ((s_law04_small p0) = true → (s_law04_small p1) = true → H_ref04_Compare p0) ∧ ((s_law04_small p0) = true → (s_law04_small p1) = true → ((s_value_Compare p0 p1) == (s_ref04_Compare p0 p1)) = true → H_value_Equal p0 p1) ∧ ((s_law04_small p0) = true → (s_law04_small p1) = true → ((s_value_Compare p0 p1) == (s_ref04_Compare p0 p1)) = true → H_ref04_Equal p0 p1) ∧ ((s_law04_small p0) = true → (s_law04_small p1) = true → ((s_value_Compare p0 p1) == (s_ref04_Compare p0 p1)) = true → ((s_value_Equal p0 p1) == (s_ref04_Equal p0 p1)) = true → H_value_Equal p0 p0) ∧ True
theorem t_law04_ValueCompares (p0 : Val) (p1 : Val) (H : H_law04_ValueCompares p0 p1) : Tells G (c_law04_ValueCompares p0 p1) (a_law04_ValueCompares p0 p1) := by
  unfold a_law04_ValueCompares s_law04_ValueCompares
  cases h0 : (s_law04_small p0) with
  | true =>
   cases h1 : (s_law04_small p1) with
   | true =>
    cases h2 : ((s_value_Compare p0 p1) == (s_ref04_Compare p0 p1)) with
    | true =>
     cases h3 : ((s_value_Equal p0 p1) == (s_ref04_Equal p0 p1)) with
     | true =>
      cases h4 : (s_value_Equal p0 p0) with
      | true =>
       exact tells_VI (fn := Ir.law04_ValueCompares) rfl VOK.nil [hB 17 h2, hB 7 h3] [aB (t_law04_small p0 (H.1)) h0, aB (t_law04_small p1 (H.2.1 h0)) h1, aN (t_value_Compare p0 p1 (H.2.2.1 h0 h1)), aN (t_ref04_Compare p0 p1 (H.2.2.2.1 h0 h1)), aN (t_value_Equal p0 p1 (H.2.2.2.2.1 h0 h1 h2)), aN (t_ref04_Equal p0 p1 (H.2.2.2.2.2.1 h0 h1 h2)), aB (t_value_Equal p0 p0 (H.2.2.2.2.2.2.1 h0 h1 h2 h3)) h4, aN t_law04_awake] (by kernel_rfl)
      | false =>
       exact tells_VI (fn := Ir.law04_ValueCompares) rfl VOK.nil [hB 17 h2, hB 7 h3] [aB (t_law04_small p0 (H.1)) h0, aB (t_law04_small p1 (H.2.1 h0)) h1, aN (t_value_Compare p0 p1 (H.2.2.1 h0 h1)), aN (t_ref04_Compare p0 p1 (H.2.2.2.1 h0 h1)), aN (t_value_Equal p0 p1 (H.2.2.2.2.1 h0 h1 h2)), aN (t_ref04_Equal p0 p1 (H.2.2.2.2.2.1 h0 h1 h2)), aB (t_value_Equal p0 p0 (H.2.2.2.2.2.2.1 h0 h1 h2 h3)) h4] (by kernel_rfl)
     | false =>
      exact tells_VI (fn := Ir.law04_ValueCompares) rfl VOK.nil [hB 17 h2, hB 7 h3] [aB (t_law04_small p0 (H.1)) h0, aB (t_law04_small p1 (H.2.1 h0)) h1, aN (t_value_Compare p0 p1 (H.2.2.1 h0 h1)), aN (t_ref04_Compare p0 p1 (H.2.2.2.1 h0 h1)), aN (t_value_Equal p0 p1 (H.2.2.2.2.1 h0 h1 h2)), aN (t_ref04_Equal p0 p1 (H.2.2.2.2.2.1 h0 h1 h2))] (by kernel_rfl)
    | false =>
     exact tells_VI (fn := Ir.law04_ValueCompares) rfl VOK.nil [hB 17 h2] [aB (t_law04_small p0 (H.1)) h0, aB (t_law04_small p1 (H.2.1 h0)) h1, aN (t_value_Compare p0 p1 (H.2.2.1 h0 h1)), aN (t_ref04_Compare p0 p1 (H.2.2.2.1 h0 h1))] (by kernel_rfl)
   | false =>
    exact tells_VI (fn := Ir.law04_ValueCompares) rfl VOK.nil [] [aB (t_law04_small p0 (H.1)) h0, aB (t_law04_small p1 (H.2.1 h0)) h1, aN t_law04_awake] (by kernel_rfl)
  | false =>
   exact tells_VI (fn := Ir.law04_ValueCompares) rfl VOK.nil [] [aB (t_law04_small p0 (H.1)) h0, aN t_law04_awake] (by kernel_rfl)

def tysValueCompares : List Ty := [.nm 25, .nm 25]
theorem pureValueCompares (hp : ∀ (p0 : Val) (p1 : Val), Val_ok p0 → Val_ok p1 → H_law04_ValueCompares p0 p1 ∧ s_law04_ValueCompares p0 p1 = true) : ∀ qs, Args Γ tysValueCompares qs → ∃ n, runs G n (.call 4 qs []) = some (.ret (.bool true) []) := by
  intro qs h
  cases qs with
  | nil => cases h
  | cons q0 qs =>
  obtain ⟨h0, h⟩ := h
  cases qs with
  | nil => cases h
  | cons q1 qs =>
  obtain ⟨h1, h⟩ := h
  cases qs with
  | cons _ _ => cases h
  | nil =>
  obtain ⟨c0, rfl, g0⟩ := h0.agg rfl
  obtain ⟨p0, rfl, k0⟩ := (Val_open (gam_at 25) g0)
  obtain ⟨c1, rfl, g1⟩ := h1.agg rfl
  obtain ⟨p1, rfl, k1⟩ := (Val_open (gam_at 25) g1)
  have e := hp p0 p1 k0 k1
  have t := t_law04_ValueCompares p0 p1 e.1
  unfold a_law04_ValueCompares at t
  rw [e.2] at t
  exact t

/-- orchestrator/ orchestratorlaw04.ValueOrder -/
def s_law04_ValueOrder (p0 : Val) (p1 : Val) (p2 : Val) : Bool :=
  bif (s_law04_small p0) then
    bif (s_law04_small p1) then
      bif (s_law04_small p2) then
        bif ((s_value_Compare p1 p0) == (w64 (0 - (s_value_Compare p0 p1)))) then
          bif (decide ((s_value_Compare p0 p1) < (-1))) then
            false
          else
            bif (decide (1 < (s_value_Compare p0 p1))) then
              false
            else
              bif ((s_value_Compare p0 p1) == 0) then
                bif ((s_value_Equal p0 p1) == true) then
                  bif ((s_value_Compare p0 p0) == 0) then
                    bif (decide ((s_value_Compare p0 p1) ≤ 0)) then
                      bif (decide ((s_value_Compare p1 p2) ≤ 0)) then
                        bif (decide (0 < (s_value_Compare p0 p2))) then
                          false
                        else
                          bif (decide (0 ≤ (s_value_Compare p0 p1))) then
                            bif (decide (0 ≤ (s_value_Compare p1 p2))) then
                              bif (decide ((s_value_Compare p0 p2) < 0)) then
                                false
                              else
                                bif ((s_value_Compare p1 p2) == (s_value_Compare p0 p2)) then
                                  true
                                else
                                  false
                            else
                              bif ((s_value_Compare p1 p2) == (s_value_Compare p0 p2)) then
                                true
                              else
                                false
                          else
                            bif ((s_value_Compare p1 p2) == (s_value_Compare p0 p2)) then
                              true
                            else
                              false
                      else
                        bif (decide (0 ≤ (s_value_Compare p0 p1))) then
                          bif (decide (0 ≤ (s_value_Compare p1 p2))) then
                            bif (decide ((s_value_Compare p0 p2) < 0)) then
                              false
                            else
                              bif ((s_value_Compare p1 p2) == (s_value_Compare p0 p2)) then
                                true
                              else
                                false
                          else
                            bif ((s_value_Compare p1 p2) == (s_value_Compare p0 p2)) then
                              true
                            else
                              false
                        else
                          bif ((s_value_Compare p1 p2) == (s_value_Compare p0 p2)) then
                            true
                          else
                            false
                    else
                      bif (decide (0 ≤ (s_value_Compare p0 p1))) then
                        bif (decide (0 ≤ (s_value_Compare p1 p2))) then
                          bif (decide ((s_value_Compare p0 p2) < 0)) then
                            false
                          else
                            bif ((s_value_Compare p1 p2) == (s_value_Compare p0 p2)) then
                              true
                            else
                              false
                        else
                          bif ((s_value_Compare p1 p2) == (s_value_Compare p0 p2)) then
                            true
                          else
                            false
                      else
                        bif ((s_value_Compare p1 p2) == (s_value_Compare p0 p2)) then
                          true
                        else
                          false
                  else
                    false
                else
                  false
              else
                bif ((s_value_Equal p0 p1) == false) then
                  bif ((s_value_Compare p0 p0) == 0) then
                    bif (decide ((s_value_Compare p0 p1) ≤ 0)) then
                      bif (decide ((s_value_Compare p1 p2) ≤ 0)) then
                        bif (decide (0 < (s_value_Compare p0 p2))) then
                          false
                        else
                          bif (decide (0 ≤ (s_value_Compare p0 p1))) then
                            bif (decide (0 ≤ (s_value_Compare p1 p2))) then
                              bif (decide ((s_value_Compare p0 p2) < 0)) then
                                false
                              else
                                true
                            else
                              true
                          else
                            true
                      else
                        bif (decide (0 ≤ (s_value_Compare p0 p1))) then
                          bif (decide (0 ≤ (s_value_Compare p1 p2))) then
                            bif (decide ((s_value_Compare p0 p2) < 0)) then
                              false
                            else
                              true
                          else
                            true
                        else
                          true
                    else
                      bif (decide (0 ≤ (s_value_Compare p0 p1))) then
                        bif (decide (0 ≤ (s_value_Compare p1 p2))) then
                          bif (decide ((s_value_Compare p0 p2) < 0)) then
                            false
                          else
                            true
                        else
                          true
                      else
                        true
                  else
                    false
                else
                  false
        else
          false
      else
        true
    else
      true
  else
    true
def c_law04_ValueOrder (p0 : Val) (p1 : Val) (p2 : Val) : En := .call 5 [.agg (Val.cells p0), .agg (Val.cells p1), .agg (Val.cells p2)] []
def a_law04_ValueOrder (p0 : Val) (p1 : Val) (p2 : Val) : Rs := .ret (.bool (s_law04_ValueOrder p0 p1 p2)) []
def H_law04_ValueOrder (p0 : Val) (p1 : Val) (p2 : Val) : Prop := (H_law04_small p0) ∧ ((s_law04_small p0) = true → H_law04_small p1) ∧ ((s_law04_small p0) = true → (s_law04_small p1) = true → H_law04_small p2) ∧ ((s_law04_small p0) = true → (s_law04_small p1) = true → (s_law04_small p2) = true → H_value_Compare p0) ∧ ((s_law04_small p0) = true → (s_law04_small p1) = true → (s_law04_small p2) = true → H_value_Compare p1) ∧ ((s_law04_small p0) = true → (s_law04_small p1) = true → (s_law04_small p2) = true → ((s_value_Compare p1 p0) == (w64 (0 - (s_value_Compare p0 p1)))) = true → (decide ((s_value_Compare p0 p1) < (-1))) = false → (decide (1 < (s_value_Compare p0 p1))) = false → H_value_Equal p0 p1) ∧ ((s_law04_small p0) = true → (s_law04_small p1) = true → (s_law04_small p2) = true → ((s_value_Compare p1 p0) == (w64 (0 - (s_value_Compare p0 p1)))) = true → (decide ((s_value_Compare p0 p1) < (-1))) = false → (decide (1 < (s_value_Compare p0 p1))) = false → ((s_value_Equal p0 p1) == ((s_value_Compare p0 p1) == 0)) = true → H_value_Compare p0) ∧ ((s_law04_small p0) = true → (s_law04_small p1) = true → (s_law04_small p2) = true → ((s_value_Compare p1 p0) == (w64 (0 - (s_value_Compare p0 p1)))) = true → (decide ((s_value_Compare p0 p1) < (-1))) = false → (decide (1 < (s_value_Compare p0 p1))) = false → ((s_value_Compare p0 p1) == 0) = true → ((s_value_Equal p0 p1) == true) = true → H_value_Compare p0) ∧ ((s_law04_small p0) = true → (s_law04_small p1) = true → (s_law04_small p2) = true → ((s_value_Compare p1 p0) == (w64 (0 - (s_value_Compare p0 p1)))) = true → (decide ((s_value_Compare p0 p1) < (-1))) = false → (decide (1 < (s_value_Compare p0 p1))) = false → ((s_value_Compare p0 p1) == 0) = false → ((s_value_Equal p0 p1) == false) = true → H_value_Compare p0) ∧ True
theorem t_law04_ValueOrder_0 (p0 : Val) (p1 : Val) (p2 : Val) (H : H_law04_ValueOrder p0 p1 p2) (h0 : (s_law04_small p0) = true) (h1 : (s_law04_small p1) = true) (h2 : (s_law04_small p2) = true) (h3 : ((s_value_Compare p1 p0) == (w64 (0 - (s_value_Compare p0 p1)))) = true) (h4 : (decide ((s_value_Compare p0 p1) < (-1))) = true) : Tells G (c_law04_ValueOrder p0 p1 p2) (.ret (.bool (false)) []) := by
  exact tells_VI (fn := Ir.law04_ValueOrder) rfl VOK.nil [hP 34 (dec (!((s_value_Compare p1 p0) == (w64 (0 - (s_value_Compare p0 p1))))) false (by rw [h3]; rfl)), hB 2 h4] [aB (t_law04_small p0 (H.1)) h0, aB (t_law04_small p1 (H.2.1 h0)) h1, aB (t_law04_small p2 (H.2.2.1 h0 h1)) h2, aN (t_value_Compare p0 p1 (H.2.2.2.1 h0 h1 h2)), aN (t_value_Compare p1 p2 (H.2.2.2.2.1 h0 h1 h2)), aN (t_value_Compare p0 p2 (H.2.2.2.1 h0 h1 h2)), aN (t_value_Compare p1 p0 (H.2.2.2.2.1 h0 h1 h2))] (by kernel_rfl)
theorem t_law04_ValueOrder_1 (p0 : Val) (p1 : Val) (p2 : Val) (H : H_law04_ValueOrder p0 p1 p2) (h0 : (s_law04_small p0) = true) (h1 : (s_law04_small p1) = true) (h2 : (s_law04_small p2) = true) (h3 : ((s_value_Compare p1 p0) == (w64 (0 - (s_value_Compare p0 p1)))) = true) (h4 : (decide ((s_value_Compare p0 p1) < (-1))) = false) (h5 : (decide (1 < (s_value_Compare p0 p1))) = true) : Tells G (c_law04_ValueOrder p0 p1 p2) (.ret (.bool (false)) []) := by
  exact tells_VI (fn := Ir.law04_ValueOrder) rfl VOK.nil [hP 34 (dec (!((s_value_Compare p1 p0) == (w64 (0 - (s_value_Compare p0 p1))))) false (by rw [h3]; rfl)), hB 2 h4, hB 3 h5] [aB (t_law04_small p0 (H.1)) h0, aB (t_law04_small p1 (H.2.1 h0)) h1, aB (t_law04_small p2 (H.2.2.1 h0 h1)) h2, aN (t_value_Compare p0 p1 (H.2.2.2.1 h0 h1 h2)), aN (t_value_Compare p1 p2 (H.2.2.2.2.1 h0 h1 h2)), aN (t_value_Compare p0 p2 (H.2.2.2.1 h0 h1 h2)), aN (t_value_Compare p1 p0 (H.2.2.2.2.1 h0 h1 h2))] (by kernel_rfl)
theorem t_law04_ValueOrder_2 (p0 : Val) (p1 : Val) (p2 : Val) (H : H_law04_ValueOrder p0 p1 p2) (h0 : (s_law04_small p0) = true) (h1 : (s_law04_small p1) = true) (h2 : (s_law04_small p2) = true) (h3 : ((s_value_Compare p1 p0) == (w64 (0 - (s_value_Compare p0 p1)))) = true) (h4 : (decide ((s_value_Compare p0 p1) < (-1))) = false) (h5 : (decide (1 < (s_value_Compare p0 p1))) = false) (h6 : ((s_value_Compare p0 p1) == 0) = true) (h7 : ((s_value_Equal p0 p1) == true) = true) (h8 : ((s_value_Compare p0 p0) == 0) = true) (h9 : (decide ((s_value_Compare p0 p1) ≤ 0)) = true) (h10 : (decide ((s_value_Compare p1 p2) ≤ 0)) = true) (h11 : (decide (0 < (s_value_Compare p0 p2))) = true) : Tells G (c_law04_ValueOrder p0 p1 p2) (.ret (.bool (false)) []) := by
  exact tells_VI (fn := Ir.law04_ValueOrder) rfl VOK.nil [hP 34 (dec (!((s_value_Compare p1 p0) == (w64 (0 - (s_value_Compare p0 p1))))) false (by rw [h3]; rfl)), hB 2 h4, hB 3 h5, hB 6 h6, hP 0 (dec (!((s_value_Equal p0 p1) == true)) false (by rw [h7]; rfl)), hP 5 (dec (!((s_value_Compare p0 p0) == 0)) false (by rw [h8]; rfl)), hB 2 h9, hB 2 h10, hB 3 h11] [aB (t_law04_small p0 (H.1)) h0, aB (t_law04_small p1 (H.2.1 h0)) h1, aB (t_law04_small p2 (H.2.2.1 h0 h1)) h2, aN (t_value_Compare p0 p1 (H.2.2.2.1 h0 h1 h2)), aN (t_value_Compare p1 p2 (H.2.2.2.2.1 h0 h1 h2)), aN (t_value_Compare p0 p2 (H.2.2.2.1 h0 h1 h2)), aN (t_value_Compare p1 p0 (H.2.2.2.2.1 h0 h1 h2)), aN (t_value_Equal p0 p1 (H.2.2.2.2.2.1 h0 h1 h2 h3 h4 h5)), aN (t_value_Compare p0 p0 (H.2.2.2.2.2.2.2.1 h0 h1 h2 h3 h4 h5 h6 h7))] (by kernel_rfl)
theorem t_law04_ValueOrder_3 (p0 : Val) (p1 : Val) (p2 : Val) (H : H_law04_ValueOrder p0 p1 p2) (h0 : (s_law04_small p0) = true) (h1 : (s_law04_small p1) = true) (h2 : (s_law04_small p2) = true) (h3 : ((s_value_Compare p1 p0) == (w64 (0 - (s_value_Compare p0 p1)))) = true) (h4 : (decide ((s_value_Compare p0 p1) < (-1))) = false) (h5 : (decide (1 < (s_value_Compare p0 p1))) = false) (h6 : ((s_value_Compare p0 p1) == 0) = true) (h7 : ((s_value_Equal p0 p1) == true) = true) (h8 : ((s_value_Compare p0 p0) == 0) = true) (h9 : (decide ((s_value_Compare p0 p1) ≤ 0)) = true) (h10 : (decide ((s_value_Compare p1 p2) ≤ 0)) = true) (h11 : (decide (0 < (s_value_Compare p0 p2))) = false) (h12 : (decide (0 ≤ (s_value_Compare p0 p1))) = true) : Tells G (c_law04_ValueOrder p0 p1 p2) (.ret (.bool (bif (decide (0 ≤ (s_value_Compare p1 p2))) then
    bif (decide ((s_value_Compare p0 p2) < 0)) then
      false
    else
      bif ((s_value_Compare p1 p2) == (s_value_Compare p0 p2)) then
        true
      else
        false
  else
    bif ((s_value_Compare p1 p2) == (s_value_Compare p0 p2)) then
      true
    else
      false)) []) := by
  cases h13 : (decide (0 ≤ (s_value_Compare p1 p2))) with
  | true =>
   cases h14 : (decide ((s_value_Compare p0 p2) < 0)) with
   | true =>
    exact tells_VI (fn := Ir.law04_ValueOrder) rfl VOK.nil [hP 34 (dec (!((s_value_Compare p1 p0) == (w64 (0 - (s_value_Compare p0 p1))))) false (by rw [h3]; rfl)), hB 2 h4, hB 3 h5, hB 6 h6, hP 0 (dec (!((s_value_Equal p0 p1) == true)) false (by rw [h7]; rfl)), hP 5 (dec (!((s_value_Compare p0 p0) == 0)) false (by rw [h8]; rfl)), hB 2 h9, hB 2 h10, hB 3 h11, hB 3 h12, hB 2 h13, hB 3 h14] [aB (t_law04_small p0 (H.1)) h0, aB (t_law04_small p1 (H.2.1 h0)) h1, aB (t_law04_small p2 (H.2.2.1 h0 h1)) h2, aN (t_value_Compare p0 p1 (H.2.2.2.1 h0 h1 h2)), aN (t_value_Compare p1 p2 (H.2.2.2.2.1 h0 h1 h2)), aN (t_value_Compare p0 p2 (H.2.2.2.1 h0 h1 h2)), aN (t_value_Compare p1 p0 (H.2.2.2.2.1 h0 h1 h2)), aN (t_value_Equal p0 p1 (H.2.2.2.2.2.1 h0 h1 h2 h3 h4 h5)), aN (t_value_Compare p0 p0 (H.2.2.2.2.2.2.2.1 h0 h1 h2 h3 h4 h5 h6 h7))] (by kernel_rfl)
   | false =>
    cases h15 : ((s_value_Compare p1 p2) == (s_value_Compare p0 p2)) with
    | true =>
     exact tells_VI (fn := Ir.law04_ValueOrder) rfl VOK.nil [hP 34 (dec (!((s_value_Compare p1 p0) == (w64 (0 - (s_value_Compare p0 p1))))) false (by rw [h3]; rfl)), hB 2 h4, hB 3 h5, hB 6 h6, hP 0 (dec (!((s_value_Equal p0 p1) == true)) false (by rw [h7]; rfl)), hP 5 (dec (!((s_value_Compare p0 p0) == 0)) false (by rw [h8]; rfl)), hB 2 h9, hB 2 h10, hB 3 h11, hB 3 h12, hB 2 h13, hB 3 h14, hB 4 h6, hP 3 (dec (!((s_value_Compare p1 p2) == (s_value_Compare p0 p2))) false (by rw [h15]; rfl))] [aB (t_law04_small p0 (H.1)) h0, aB (t_law04_small p1 (H.2.1 h0)) h1, aB (t_law04_small p2 (H.2.2.1 h0 h1)) h2, aN (t_value_Compare p0 p1 (H.2.2.2.1 h0 h1 h2)), aN (t_value_Compare p1 p2 (H.2.2.2.2.1 h0 h1 h2)), aN (t_value_Compare p0 p2 (H.2.2.2.1 h0 h1 h2)), aN (t_value_Compare p1 p0 (H.2.2.2.2.1 h0 h1 h2)), aN (t_value_Equal p0 p1 (H.2.2.2.2.2.1 h0 h1 h2 h3 h4 h5)), aN (t_value_Compare p0 p0 (H.2.2.2.2.2.2.2.1 h0 h1 h2 h3 h4 h5 h6 h7)), aN t_law04_awake] (by kernel_rfl)
    | false =>
     exact tells_VI (fn := Ir.law04_ValueOrder) rfl VOK.nil [hP 34 (dec (!((s_value_Compare p1 p0) == (w64 (0 - (s_value_Compare p0 p1))))) false (by rw [h3]; rfl)), hB 2 h4, hB 3 h5, hB 6 h6, hP 0 (dec (!((s_value_Equal p0 p1) == true)) false (by rw [h7]; rfl)), hP 5 (dec (!((s_value_Compare p0 p0) == 0)) false (by rw [h8]; rfl)), hB 2 h9, hB 2 h10, hB 3 h11, hB 3 h12, hB 2 h13, hB 3 h14, hB 4 h6, hP 3 (dec (!((s_value_Compare p1 p2) == (s_value_Compare p0 p2))) true (by rw [h15]; rfl))] [aB (t_law04_small p0 (H.1)) h0, aB (t_law04_small p1 (H.2.1 h0)) h1, aB (t_law04_small p2 (H.2.2.1 h0 h1)) h2, aN (t_value_Compare p0 p1 (H.2.2.2.1 h0 h1 h2)), aN (t_value_Compare p1 p2 (H.2.2.2.2.1 h0 h1 h2)), aN (t_value_Compare p0 p2 (H.2.2.2.1 h0 h1 h2)), aN (t_value_Compare p1 p0 (H.2.2.2.2.1 h0 h1 h2)), aN (t_value_Equal p0 p1 (H.2.2.2.2.2.1 h0 h1 h2 h3 h4 h5)), aN (t_value_Compare p0 p0 (H.2.2.2.2.2.2.2.1 h0 h1 h2 h3 h4 h5 h6 h7))] (by kernel_rfl)
  | false =>
   cases h14 : ((s_value_Compare p1 p2) == (s_value_Compare p0 p2)) with
   | true =>
    exact tells_VI (fn := Ir.law04_ValueOrder) rfl VOK.nil [hP 34 (dec (!((s_value_Compare p1 p0) == (w64 (0 - (s_value_Compare p0 p1))))) false (by rw [h3]; rfl)), hB 2 h4, hB 3 h5, hB 6 h6, hP 0 (dec (!((s_value_Equal p0 p1) == true)) false (by rw [h7]; rfl)), hP 5 (dec (!((s_value_Compare p0 p0) == 0)) false (by rw [h8]; rfl)), hB 2 h9, hB 2 h10, hB 3 h11, hB 3 h12, hB 2 h13, hB 8 h6, hP 3 (dec (!((s_value_Compare p1 p2) == (s_value_Compare p0 p2))) false (by rw [h14]; rfl))] [aB (t_law04_small p0 (H.1)) h0, aB (t_law04_small p1 (H.2.1 h0)) h1, aB (t_law04_small p2 (H.2.2.1 h0 h1)) h2, aN (t_value_Compare p0 p1 (H.2.2.2.1 h0 h1 h2)), aN (t_value_Compare p1 p2 (H.2.2.2.2.1 h0 h1 h2)), aN (t_value_Compare p0 p2 (H.2.2.2.1 h0 h1 h2)), aN (t_value_Compare p1 p0 (H.2.2.2.2.1 h0 h1 h2)), aN (t_value_Equal p0 p1 (H.2.2.2.2.2.1 h0 h1 h2 h3 h4 h5)), aN (t_value_Compare p0 p0 (H.2.2.2.2.2.2.2.1 h0 h1 h2 h3 h4 h5 h6 h7)), aN t_law04_awake] (by kernel_rfl)
   | false =>
    exact tells_VI (fn := Ir.law04_ValueOrder) rfl VOK.nil [hP 34 (dec (!((s_value_Compare p1 p0) == (w64 (0 - (s_value_Compare p0 p1))))) false (by rw [h3]; rfl)), hB 2 h4, hB 3 h5, hB 6 h6, hP 0 (dec (!((s_value_Equal p0 p1) == true)) false (by rw [h7]; rfl)), hP 5 (dec (!((s_value_Compare p0 p0) == 0)) false (by rw [h8]; rfl)), hB 2 h9, hB 2 h10, hB 3 h11, hB 3 h12, hB 2 h13, hB 8 h6, hP 3 (dec (!((s_value_Compare p1 p2) == (s_value_Compare p0 p2))) true (by rw [h14]; rfl))] [aB (t_law04_small p0 (H.1)) h0, aB (t_law04_small p1 (H.2.1 h0)) h1, aB (t_law04_small p2 (H.2.2.1 h0 h1)) h2, aN (t_value_Compare p0 p1 (H.2.2.2.1 h0 h1 h2)), aN (t_value_Compare p1 p2 (H.2.2.2.2.1 h0 h1 h2)), aN (t_value_Compare p0 p2 (H.2.2.2.1 h0 h1 h2)), aN (t_value_Compare p1 p0 (H.2.2.2.2.1 h0 h1 h2)), aN (t_value_Equal p0 p1 (H.2.2.2.2.2.1 h0 h1 h2 h3 h4 h5)), aN (t_value_Compare p0 p0 (H.2.2.2.2.2.2.2.1 h0 h1 h2 h3 h4 h5 h6 h7))] (by kernel_rfl)
theorem t_law04_ValueOrder_4 (p0 : Val) (p1 : Val) (p2 : Val) (H : H_law04_ValueOrder p0 p1 p2) (h0 : (s_law04_small p0) = true) (h1 : (s_law04_small p1) = true) (h2 : (s_law04_small p2) = true) (h3 : ((s_value_Compare p1 p0) == (w64 (0 - (s_value_Compare p0 p1)))) = true) (h4 : (decide ((s_value_Compare p0 p1) < (-1))) = false) (h5 : (decide (1 < (s_value_Compare p0 p1))) = false) (h6 : ((s_value_Compare p0 p1) == 0) = true) (h7 : ((s_value_Equal p0 p1) == true) = true) (h8 : ((s_value_Compare p0 p0) == 0) = true) (h9 : (decide ((s_value_Compare p0 p1) ≤ 0)) = true) (h10 : (decide ((s_value_Compare p1 p2) ≤ 0)) = true) (h11 : (decide (0 < (s_value_Compare p0 p2))) = false) (h12 : (decide (0 ≤ (s_value_Compare p0 p1))) = false) : Tells G (c_law04_ValueOrder p0 p1 p2) (.ret (.bool (bif ((s_value_Compare p1 p2) == (s_value_Compare p0 p2)) then
    true
  else
    false)) []) := by
  cases h13 : ((s_value_Compare p1 p2) == (s_value_Compare p0 p2)) with
  | true =>
   exact tells_VI (fn := Ir.law04_ValueOrder) rfl VOK.nil [hP 34 (dec (!((s_value_Compare p1 p0) == (w64 (0 - (s_value_Compare p0 p1))))) false (by rw [h3]; rfl)), hB 2 h4, hB 3 h5, hB 6 h6, hP 0 (dec (!((s_value_Equal p0 p1) == true)) false (by rw [h7]; rfl)), hP 5 (dec (!((s_value_Compare p0 p0) == 0)) false (by rw [h8]; rfl)), hB 2 h9, hB 2 h10, hB 3 h11, hB 3 h12, hB 11 h6, hP 3 (dec (!((s_value_Compare p1 p2) == (s_value_Compare p0 p2))) false (by rw [h13]; rfl))] [aB (t_law04_small p0 (H.1)) h0, aB (t_law04_small p1 (H.2.1 h0)) h1, aB (t_law04_small p2 (H.2.2.1 h0 h1)) h2, aN (t_value_Compare p0 p1 (H.2.2.2.1 h0 h1 h2)), aN (t_value_Compare p1 p2 (H.2.2.2.2.1 h0 h1 h2)), aN (t_value_Compare p0 p2 (H.2.2.2.1 h0 h1 h2)), aN (t_value_Compare p1 p0 (H.2.2.2.2.1 h0 h1 h2)), aN (t_value_Equal p0 p1 (H.2.2.2.2.2.1 h0 h1 h2 h3 h4 h5)), aN (t_value_Compare p0 p0 (H.2.2.2.2.2.2.2.1 h0 h1 h2 h3 h4 h5 h6 h7)), aN t_law04_awake] (by kernel_rfl)
  | false =>
   exact tells_VI (fn := Ir.law04_ValueOrder) rfl VOK.nil [hP 34 (dec (!((s_value_Compare p1 p0) == (w64 (0 - (s_value_Compare p0 p1))))) false (by rw [h3]; rfl)), hB 2 h4, hB 3 h5, hB 6 h6, hP 0 (dec (!((s_value_Equal p0 p1) == true)) false (by rw [h7]; rfl)), hP 5 (dec (!((s_value_Compare p0 p0) == 0)) false (by rw [h8]; rfl)), hB 2 h9, hB 2 h10, hB 3 h11, hB 3 h12, hB 11 h6, hP 3 (dec (!((s_value_Compare p1 p2) == (s_value_Compare p0 p2))) true (by rw [h13]; rfl))] [aB (t_law04_small p0 (H.1)) h0, aB (t_law04_small p1 (H.2.1 h0)) h1, aB (t_law04_small p2 (H.2.2.1 h0 h1)) h2, aN (t_value_Compare p0 p1 (H.2.2.2.1 h0 h1 h2)), aN (t_value_Compare p1 p2 (H.2.2.2.2.1 h0 h1 h2)), aN (t_value_Compare p0 p2 (H.2.2.2.1 h0 h1 h2)), aN (t_value_Compare p1 p0 (H.2.2.2.2.1 h0 h1 h2)), aN (t_value_Equal p0 p1 (H.2.2.2.2.2.1 h0 h1 h2 h3 h4 h5)), aN (t_value_Compare p0 p0 (H.2.2.2.2.2.2.2.1 h0 h1 h2 h3 h4 h5 h6 h7))] (by kernel_rfl)
theorem t_law04_ValueOrder_5 (p0 : Val) (p1 : Val) (p2 : Val) (H : H_law04_ValueOrder p0 p1 p2) (h0 : (s_law04_small p0) = true) (h1 : (s_law04_small p1) = true) (h2 : (s_law04_small p2) = true) (h3 : ((s_value_Compare p1 p0) == (w64 (0 - (s_value_Compare p0 p1)))) = true) (h4 : (decide ((s_value_Compare p0 p1) < (-1))) = false) (h5 : (decide (1 < (s_value_Compare p0 p1))) = false) (h6 : ((s_value_Compare p0 p1) == 0) = true) (h7 : ((s_value_Equal p0 p1) == true) = true) (h8 : ((s_value_Compare p0 p0) == 0) = true) (h9 : (decide ((s_value_Compare p0 p1) ≤ 0)) = true) (h10 : (decide ((s_value_Compare p1 p2) ≤ 0)) = false) (h11 : (decide (0 ≤ (s_value_Compare p0 p1))) = true) : Tells G (c_law04_ValueOrder p0 p1 p2) (.ret (.bool (bif (decide (0 ≤ (s_value_Compare p1 p2))) then
    bif (decide ((s_value_Compare p0 p2) < 0)) then
      false
    else
      bif ((s_value_Compare p1 p2) == (s_value_Compare p0 p2)) then
        true
      else
        false
  else
    bif ((s_value_Compare p1 p2) == (s_value_Compare p0 p2)) then
      true
    else
      false)) []) := by
  cases h12 : (decide (0 ≤ (s_value_Compare p1 p2))) with
  | true =>
   cases h13 : (decide ((s_value_Compare p0 p2) < 0)) with
   | true =>
    exact tells_VI (fn := Ir.law04_ValueOrder) rfl VOK.nil [hP 34 (dec (!((s_value_Compare p1 p0) == (w64 (0 - (s_value_Compare p0 p1))))) false (by rw [h3]; rfl)), hB 2 h4, hB 3 h5, hB 6 h6, hP 0 (dec (!((s_value_Equal p0 p1) == true)) false (by rw [h7]; rfl)), hP 5 (dec (!((s_value_Compare p0 p0) == 0)) false (by rw [h8]; rfl)), hB 2 h9, hB 2 h10, hB 7 h11, hB 2 h12, hB 3 h13] [aB (t_law04_small p0 (H.1)) h0, aB (t_law04_small p1 (H.2.1 h0)) h1, aB (t_law04_small p2 (H.2.2.1 h0 h1)) h2, aN (t_value_Compare p0 p1 (H.2.2.2.1 h0 h1 h2)), aN (t_value_Compare p1 p2 (H.2.2.2.2.1 h0 h1 h2)), aN (t_value_Compare p0 p2 (H.2.2.2.1 h0 h1 h2)), aN (t_value_Compare p1 p0 (H.2.2.2.2.1 h0 h1 h2)), aN (t_value_Equal p0 p1 (H.2.2.2.2.2.1 h0 h1 h2 h3 h4 h5)), aN (t_value_Compare p0 p0 (H.2.2.2.2.2.2.2.1 h0 h1 h2 h3 h4 h5 h6 h7))] (by kernel_rfl)
   | false =>
    cases h14 : ((s_value_Compare p1 p2) == (s_value_Compare p0 p2)) with
    | true =>
     exact tells_VI (fn := Ir.law04_ValueOrder) rfl VOK.nil [hP 34 (dec (!((s_value_Compare p1 p0) == (w64 (0 - (s_value_Compare p0 p1))))) false (by rw [h3]; rfl)), hB 2 h4, hB 3 h5, hB 6 h6, hP 0 (dec (!((s_value_Equal p0 p1) == true)) false (by rw [h7]; rfl)), hP 5 (dec (!((s_value_Compare p0 p0) == 0)) false (by rw [h8]; rfl)), hB 2 h9, hB 2 h10, hB 7 h11, hB 2 h12, hB 3 h13, hB 4 h6, hP 3 (dec (!((s_value_Compare p1 p2) == (s_value_Compare p0 p2))) false (by rw [h14]; rfl))] [aB (t_law04_small p0 (H.1)) h0, aB (t_law04_small p1 (H.2.1 h0)) h1, aB (t_law04_small p2 (H.2.2.1 h0 h1)) h2, aN (t_value_Compare p0 p1 (H.2.2.2.1 h0 h1 h2)), aN (t_value_Compare p1 p2 (H.2.2.2.2.1 h0 h1 h2)), aN (t_value_Compare p0 p2 (H.2.2.2.1 h0 h1 h2)), aN (t_value_Compare p1 p0 (H.2.2.2.2.1 h0 h1 h2)), aN (t_value_Equal p0 p1 (H.2.2.2.2.2.1 h0 h1 h2 h3 h4 h5)), aN (t_value_Compare p0 p0 (H.2.2.2.2.2.2.2.1 h0 h1 h2 h3 h4 h5 h6 h7)), aN t_law04_awake] (by kernel_rfl)
    | false =>
     exact tells_VI (fn := Ir.law04_ValueOrder) rfl VOK.nil [hP 34 (dec (!((s_value_Compare p1 p0) == (w64 (0 - (s_value_Compare p0 p1))))) false (by rw [h3]; rfl)), hB 2 h4, hB 3 h5, hB 6 h6, hP 0 (dec (!((s_value_Equal p0 p1) == true)) false (by rw [h7]; rfl)), hP 5 (dec (!((s_value_Compare p0 p0) == 0)) false (by rw [h8]; rfl)), hB 2 h9, hB 2 h10, hB 7 h11, hB 2 h12, hB 3 h13, hB 4 h6, hP 3 (dec (!((s_value_Compare p1 p2) == (s_value_Compare p0 p2))) true (by rw [h14]; rfl))] [aB (t_law04_small p0 (H.1)) h0, aB (t_law04_small p1 (H.2.1 h0)) h1, aB (t_law04_small p2 (H.2.2.1 h0 h1)) h2, aN (t_value_Compare p0 p1 (H.2.2.2.1 h0 h1 h2)), aN (t_value_Compare p1 p2 (H.2.2.2.2.1 h0 h1 h2)), aN (t_value_Compare p0 p2 (H.2.2.2.1 h0 h1 h2)), aN (t_value_Compare p1 p0 (H.2.2.2.2.1 h0 h1 h2)), aN (t_value_Equal p0 p1 (H.2.2.2.2.2.1 h0 h1 h2 h3 h4 h5)), aN (t_value_Compare p0 p0 (H.2.2.2.2.2.2.2.1 h0 h1 h2 h3 h4 h5 h6 h7))] (by kernel_rfl)
  | false =>
   cases h13 : ((s_value_Compare p1 p2) == (s_value_Compare p0 p2)) with
   | true =>
    exact tells_VI (fn := Ir.law04_ValueOrder) rfl VOK.nil [hP 34 (dec (!((s_value_Compare p1 p0) == (w64 (0 - (s_value_Compare p0 p1))))) false (by rw [h3]; rfl)), hB 2 h4, hB 3 h5, hB 6 h6, hP 0 (dec (!((s_value_Equal p0 p1) == true)) false (by rw [h7]; rfl)), hP 5 (dec (!((s_value_Compare p0 p0) == 0)) false (by rw [h8]; rfl)), hB 2 h9, hB 2 h10, hB 7 h11, hB 2 h12, hB 8 h6, hP 3 (dec (!((s_value_Compare p1 p2) == (s_value_Compare p0 p2))) false (by rw [h13]; rfl))] [aB (t_law04_small p0 (H.1)) h0, aB (t_law04_small p1 (H.2.1 h0)) h1, aB (t_law04_small p2 (H.2.2.1 h0 h1)) h2, aN (t_value_Compare p0 p1 (H.2.2.2.1 h0 h1 h2)), aN (t_value_Compare p1 p2 (H.2.2.2.2.1 h0 h1 h2)), aN (t_value_Compare p0 p2 (H.2.2.2.1 h0 h1 h2)), aN (t_value_Compare p1 p0 (H.2.2.2.2.1 h0 h1 h2)), aN (t_value_Equal p0 p1 (H.2.2.2.2.2.1 h0 h1 h2 h3 h4 h5)), aN (t_value_Compare p0 p0 (H.2.2.2.2.2.2.2.1 h0 h1 h2 h3 h4 h5 h6 h7)), aN t_law04_awake] (by kernel_rfl)
   | false =>
    exact tells_VI (fn := Ir.law04_ValueOrder) rfl VOK.nil [hP 34 (dec (!((s_value_Compare p1 p0) == (w64 (0 - (s_value_Compare p0 p1))))) false (by rw [h3]; rfl)), hB 2 h4, hB 3 h5, hB 6 h6, hP 0 (dec (!((s_value_Equal p0 p1) == true)) false (by rw [h7]; rfl)), hP 5 (dec (!((s_value_Compare p0 p0) == 0)) false (by rw [h8]; rfl)), hB 2 h9, hB 2 h10, hB 7 h11, hB 2 h12, hB 8 h6, hP 3 (dec (!((s_value_Compare p1 p2) == (s_value_Compare p0 p2))) true (by rw [h13]; rfl))] [aB (t_law04_small p0 (H.1)) h0, aB (t_law04_small p1 (H.2.1 h0)) h1, aB (t_law04_small p2 (H.2.2.1 h0 h1)) h2, aN (t_value_Compare p0 p1 (H.2.2.2.1 h0 h1 h2)), aN (t_value_Compare p1 p2 (H.2.2.2.2.1 h0 h1 h2)), aN (t_value_Compare p0 p2 (H.2.2.2.1 h0 h1 h2)), aN (t_value_Compare p1 p0 (H.2.2.2.2.1 h0 h1 h2)), aN (t_value_Equal p0 p1 (H.2.2.2.2.2.1 h0 h1 h2 h3 h4 h5)), aN (t_value_Compare p0 p0 (H.2.2.2.2.2.2.2.1 h0 h1 h2 h3 h4 h5 h6 h7))] (by kernel_rfl)
theorem t_law04_ValueOrder_6 (p0 : Val) (p1 : Val) (p2 : Val) (H : H_law04_ValueOrder p0 p1 p2) (h0 : (s_law04_small p0) = true) (h1 : (s_law04_small p1) = true) (h2 : (s_law04_small p2) = true) (h3 : ((s_value_Compare p1 p0) == (w64 (0 - (s_value_Compare p0 p1)))) = true) (h4 : (decide ((s_value_Compare p0 p1) < (-1))) = false) (h5 : (decide (1 < (s_value_Compare p0 p1))) = false) (h6 : ((s_value_Compare p0 p1) == 0) = true) (h7 : ((s_value_Equal p0 p1) == true) = true) (h8 : ((s_value_Compare p0 p0) == 0) = true) (h9 : (decide ((s_value_Compare p0 p1) ≤ 0)) = true) (h10 : (decide ((s_value_Compare p1 p2) ≤ 0)) = false) (h11 : (decide (0 ≤ (s_value_Compare p0 p1))) = false) : Tells G (c_law04_ValueOrder p0 p1 p2) (.ret (.bool (bif ((s_value_Compare p1 p2) == (s_value_Compare p0 p2)) then
    true
  else
    false)) []) := by
  cases h12 : ((s_value_Compare p1 p2) == (s_value_Compare p0 p2)) with
  | true =>
   exact tells_VI (fn := Ir.law04_ValueOrder) rfl VOK.nil [hP 34 (dec (!((s_value_Compare p1 p0) == (w64 (0 - (s_value_Compare p0 p1))))) false (by rw [h3]; rfl)), hB 2 h4, hB 3 h5, hB 6 h6, hP 0 (dec (!((s_value_Equal p0 p1) == true)) false (by rw [h7]; rfl)), hP 5 (dec (!((s_value_Compare p0 p0) == 0)) false (by rw [h8]; rfl)), hB 2 h9, hB 2 h10, hB 7 h11, hB 11 h6, hP 3 (dec (!((s_value_Compare p1 p2) == (s_value_Compare p0 p2))) false (by rw [h12]; rfl))] [aB (t_law04_small p0 (H.1)) h0, aB (t_law04_small p1 (H.2.1 h0)) h1, aB (t_law04_small p2 (H.2.2.1 h0 h1)) h2, aN (t_value_Compare p0 p1 (H.2.2.2.1 h0 h1 h2)), aN (t_value_Compare p1 p2 (H.2.2.2.2.1 h0 h1 h2)), aN (t_value_Compare p0 p2 (H.2.2.2.1 h0 h1 h2)), aN (t_value_Compare p1 p0 (H.2.2.2.2.1 h0 h1 h2)), aN (t_value_Equal p0 p1 (H.2.2.2.2.2.1 h0 h1 h2 h3 h4 h5)), aN (t_value_Compare p0 p0 (H.2.2.2.2.2.2.2.1 h0 h1 h2 h3 h4 h5 h6 h7)), aN t_law04_awake] (by kernel_rfl)
  | false =>
   exact tells_VI (fn := Ir.law04_ValueOrder) rfl VOK.nil [hP 34 (dec (!((s_value_Compare p1 p0) == (w64 (0 - (s_value_Compare p0 p1))))) false (by rw [h3]; rfl)), hB 2 h4, hB 3 h5, hB 6 h6, hP 0 (dec (!((s_value_Equal p0 p1) == true)) false (by rw [h7]; rfl)), hP 5 (dec (!((s_value_Compare p0 p0) == 0)) false (by rw [h8]; rfl)), hB 2 h9, hB 2 h10, hB 7 h11, hB 11 h6, hP 3 (dec (!((s_value_Compare p1 p2) == (s_value_Compare p0 p2))) true (by rw [h12]; rfl))] [aB (t_law04_small p0 (H.1)) h0, aB (t_law04_small p1 (H.2.1 h0)) h1, aB (t_law04_small p2 (H.2.2.1 h0 h1)) h2, aN (t_value_Compare p0 p1 (H.2.2.2.1 h0 h1 h2)), aN (t_value_Compare p1 p2 (H.2.2.2.2.1 h0 h1 h2)), aN (t_value_Compare p0 p2 (H.2.2.2.1 h0 h1 h2)), aN (t_value_Compare p1 p0 (H.2.2.2.2.1 h0 h1 h2)), aN (t_value_Equal p0 p1 (H.2.2.2.2.2.1 h0 h1 h2 h3 h4 h5)), aN (t_value_Compare p0 p0 (H.2.2.2.2.2.2.2.1 h0 h1 h2 h3 h4 h5 h6 h7))] (by kernel_rfl)
theorem t_law04_ValueOrder_7 (p0 : Val) (p1 : Val) (p2 : Val) (H : H_law04_ValueOrder p0 p1 p2) (h0 : (s_law04_small p0) = true) (h1 : (s_law04_small p1) = true) (h2 : (s_law04_small p2) = true) (h3 : ((s_value_Compare p1 p0) == (w64 (0 - (s_value_Compare p0 p1)))) = true) (h4 : (decide ((s_value_Compare p0 p1) < (-1))) = false) (h5 : (decide (1 < (s_value_Compare p0 p1))) = false) (h6 : ((s_value_Compare p0 p1) == 0) = true) (h7 : ((s_value_Equal p0 p1) == true) = true) (h8 : ((s_value_Compare p0 p0) == 0) = true) (h9 : (decide ((s_value_Compare p0 p1) ≤ 0)) = false) (h10 : (decide (0 ≤ (s_value_Compare p0 p1))) = true) : Tells G (c_law04_ValueOrder p0 p1 p2) (.ret (.bool (bif (decide (0 ≤ (s_value_Compare p1 p2))) then
    bif (decide ((s_value_Compare p0 p2) < 0)) then
      false
    else
      bif ((s_value_Compare p1 p2) == (s_value_Compare p0 p2)) then
        true
      else
        false
  else
    bif ((s_value_Compare p1 p2) == (s_value_Compare p0 p2)) then
      true
    else
      false)) []) := by
  cases h11 : (decide (0 ≤ (s_value_Compare p1 p2))) with
  | true =>
   cases h12 : (decide ((s_value_Compare p0 p2) < 0)) with
   | true =>
    exact tells_VI (fn := Ir.law04_ValueOrder) rfl VOK.nil [hP 34 (dec (!((s_value_Compare p1 p0) == (w64 (0 - (s_value_Compare p0 p1))))) false (by rw [h3]; rfl)), hB 2 h4, hB 3 h5, hB 6 h6, hP 0 (dec (!((s_value_Equal p0 p1) == true)) false (by rw [h7]; rfl)), hP 5 (dec (!((s_value_Compare p0 p0) == 0)) false (by rw [h8]; rfl)), hB 2 h9, hB 10 h10, hB 2 h11, hB 3 h12] [aB (t_law04_small p0 (H.1)) h0, aB (t_law04_small p1 (H.2.1 h0)) h1, aB (t_law04_small p2 (H.2.2.1 h0 h1)) h2, aN (t_value_Compare p0 p1 (H.2.2.2.1 h0 h1 h2)), aN (t_value_Compare p1 p2 (H.2.2.2.2.1 h0 h1 h2)), aN (t_value_Compare p0 p2 (H.2.2.2.1 h0 h1 h2)), aN (t_value_Compare p1 p0 (H.2.2.2.2.1 h0 h1 h2)), aN (t_value_Equal p0 p1 (H.2.2.2.2.2.1 h0 h1 h2 h3 h4 h5)), aN (t_value_Compare p0 p0 (H.2.2.2.2.2.2.2.1 h0 h1 h2 h3 h4 h5 h6 h7))] (by kernel_rfl)
   | false =>
    cases h13 : ((s_value_Compare p1 p2) == (s_value_Compare p0 p2)) with
    | true =>
     exact tells_VI (fn := Ir.law04_ValueOrder) rfl VOK.nil [hP 34 (dec (!((s_value_Compare p1 p0) == (w64 (0 - (s_value_Compare p0 p1))))) false (by rw [h3]; rfl)), hB 2 h4, hB 3 h5, hB 6 h6, hP 0 (dec (!((s_value_Equal p0 p1) == true)) false (by rw [h7]; rfl)), hP 5 (dec (!((s_value_Compare p0 p0) == 0)) false (by rw [h8]; rfl)), hB 2 h9, hB 10 h10, hB 2 h11, hB 3 h12, hB 4 h6, hP 3 (dec (!((s_value_Compare p1 p2) == (s_value_Compare p0 p2))) false (by rw [h13]; rfl))] [aB (t_law04_small p0 (H.1)) h0, aB (t_law04_small p1 (H.2.1 h0)) h1, aB (t_law04_small p2 (H.2.2.1 h0 h1)) h2, aN (t_value_Compare p0 p1 (H.2.2.2.1 h0 h1 h2)), aN (t_value_Compare p1 p2 (H.2.2.2.2.1 h0 h1 h2)), aN (t_value_Compare p0 p2 (H.2.2.2.1 h0 h1 h2)), aN (t_value_Compare p1 p0 (H.2.2.2.2.1 h0 h1 h2)), aN (t_value_Equal p0 p1 (H.2.2.2.2.2.1 h0 h1 h2 h3 h4 h5)), aN (t_value_Compare p0 p0 (H.2.2.2.2.2.2.2.1 h0 h1 h2 h3 h4 h5 h6 h7)), aN t_law04_awake] (by kernel_rfl)
    | false =>
     exact tells_VI (fn := Ir.law04_ValueOrder) rfl VOK.nil [hP 34 (dec (!((s_value_Compare p1 p0) == (w64 (0 - (s_value_Compare p0 p1))))) false (by rw [h3]; rfl)), hB 2 h4, hB 3 h5, hB 6 h6, hP 0 (dec (!((s_value_Equal p0 p1) == true)) false (by rw [h7]; rfl)), hP 5 (dec (!((s_value_Compare p0 p0) == 0)) false (by rw [h8]; rfl)), hB 2 h9, hB 10 h10, hB 2 h11, hB 3 h12, hB 4 h6, hP 3 (dec (!((s_value_Compare p1 p2) == (s_value_Compare p0 p2))) true (by rw [h13]; rfl))] [aB (t_law04_small p0 (H.1)) h0, aB (t_law04_small p1 (H.2.1 h0)) h1, aB (t_law04_small p2 (H.2.2.1 h0 h1)) h2, aN (t_value_Compare p0 p1 (H.2.2.2.1 h0 h1 h2)), aN (t_value_Compare p1 p2 (H.2.2.2.2.1 h0 h1 h2)), aN (t_value_Compare p0 p2 (H.2.2.2.1 h0 h1 h2)), aN (t_value_Compare p1 p0 (H.2.2.2.2.1 h0 h1 h2)), aN (t_value_Equal p0 p1 (H.2.2.2.2.2.1 h0 h1 h2 h3 h4 h5)), aN (t_value_Compare p0 p0 (H.2.2.2.2.2.2.2.1 h0 h1 h2 h3 h4 h5 h6 h7))] (by kernel_rfl)
  | false =>
   cases h12 : ((s_value_Compare p1 p2) == (s_value_Compare p0 p2)) with
   | true =>
    exact tells_VI (fn := Ir.law04_ValueOrder) rfl VOK.nil [hP 34 (dec (!((s_value_Compare p1 p0) == (w64 (0 - (s_value_Compare p0 p1))))) false (by rw [h3]; rfl)), hB 2 h4, hB 3 h5, hB 6 h6, hP 0 (dec (!((s_value_Equal p0 p1) == true)) false (by rw [h7]; rfl)), hP 5 (dec (!((s_value_Compare p0 p0) == 0)) false (by rw [h8]; rfl)), hB 2 h9, hB 10 h10, hB 2 h11, hB 8 h6, hP 3 (dec (!((s_value_Compare p1 p2) == (s_value_Compare p0 p2))) false (by rw [h12]; rfl))] [aB (t_law04_small p0 (H.1)) h0, aB (t_law04_small p1 (H.2.1 h0)) h1, aB (t_law04_small p2 (H.2.2.1 h0 h1)) h2, aN (t_value_Compare p0 p1 (H.2.2.2.1 h0 h1 h2)), aN (t_value_Compare p1 p2 (H.2.2.2.2.1 h0 h1 h2)), aN (t_value_Compare p0 p2 (H.2.2.2.1 h0 h1 h2)), aN (t_value_Compare p1 p0 (H.2.2.2.2.1 h0 h1 h2)), aN (t_value_Equal p0 p1 (H.2.2.2.2.2.1 h0 h1 h2 h3 h4 h5)), aN (t_value_Compare p0 p0 (H.2.2.2.2.2.2.2.1 h0 h1 h2 h3 h4 h5 h6 h7)), aN t_law04_awake] (by kernel_rfl)
   | false =>
    exact tells_VI (fn := Ir.law04_ValueOrder) rfl VOK.nil [hP 34 (dec (!((s_value_Compare p1 p0) == (w64 (0 - (s_value_Compare p0 p1))))) false (by rw [h3]; rfl)), hB 2 h4, hB 3 h5, hB 6 h6, hP 0 (dec (!((s_value_Equal p0 p1) == true)) false (by rw [h7]; rfl)), hP 5 (dec (!((s_value_Compare p0 p0) == 0)) false (by rw [h8]; rfl)), hB 2 h9, hB 10 h10, hB 2 h11, hB 8 h6, hP 3 (dec (!((s_value_Compare p1 p2) == (s_value_Compare p0 p2))) true (by rw [h12]; rfl))] [aB (t_law04_small p0 (H.1)) h0, aB (t_law04_small p1 (H.2.1 h0)) h1, aB (t_law04_small p2 (H.2.2.1 h0 h1)) h2, aN (t_value_Compare p0 p1 (H.2.2.2.1 h0 h1 h2)), aN (t_value_Compare p1 p2 (H.2.2.2.2.1 h0 h1 h2)), aN (t_value_Compare p0 p2 (H.2.2.2.1 h0 h1 h2)), aN (t_value_Compare p1 p0 (H.2.2.2.2.1 h0 h1 h2)), aN (t_value_Equal p0 p1 (H.2.2.2.2.2.1 h0 h1 h2 h3 h4 h5)), aN (t_value_Compare p0 p0 (H.2.2.2.2.2.2.2.1 h0 h1 h2 h3 h4 h5 h6 h7))] (by kernel_rfl)
theorem t_law04_ValueOrder_8 (p0 : Val) (p1 : Val) (p2 : Val) (H : H_law04_ValueOrder p0 p1 p2) (h0 : (s_law04_small p0) = true) (h1 : (s_law04_small p1) = true) (h2 : (s_law04_small p2) = true) (h3 : ((s_value_Compare p1 p0) == (w64 (0 - (s_value_Compare p0 p1)))) = true) (h4 : (decide ((s_value_Compare p0 p1) < (-1))) = false) (h5 : (decide (1 < (s_value_Compare p0 p1))) = false) (h6 : ((s_value_Compare p0 p1) == 0) = true) (h7 : ((s_value_Equal p0 p1) == true) = true) (h8 : ((s_value_Compare p0 p0) == 0) = true) (h9 : (decide ((s_value_Compare p0 p1) ≤ 0)) = false) (h10 : (decide (0 ≤ (s_value_Compare p0 p1))) = false) : Tells G (c_law04_ValueOrder p0 p1 p2) (.ret (.bool (bif ((s_value_Compare p1 p2) == (s_value_Compare p0 p2)) then
    true
  else
    false)) []) := by
  cases h11 : ((s_value_Compare p1 p2) == (s_value_Compare p0 p2)) with
  | true =>
   exact tells_VI (fn := Ir.law04_ValueOrder) rfl VOK.nil [hP 34 (dec (!((s_value_Compare p1 p0) == (w64 (0 - (s_value_Compare p0 p1))))) false (by rw [h3]; rfl)), hB 2 h4, hB 3 h5, hB 6 h6, hP 0 (dec (!((s_value_Equal p0 p1) == true)) false (by rw [h7]; rfl)), hP 5 (dec (!((s_value_Compare p0 p0) == 0)) false (by rw [h8]; rfl)), hB 2 h9, hB 10 h10, hB 11 h6, hP 3 (dec (!((s_value_Compare p1 p2) == (s_value_Compare p0 p2))) false (by rw [h11]; rfl))] [aB (t_law04_small p0 (H.1)) h0, aB (t_law04_small p1 (H.2.1 h0)) h1, aB (t_law04_small p2 (H.2.2.1 h0 h1)) h2, aN (t_value_Compare p0 p1 (H.2.2.2.1 h0 h1 h2)), aN (t_value_Compare p1 p2 (H.2.2.2.2.1 h0 h1 h2)), aN (t_value_Compare p0 p2 (H.2.2.2.1 h0 h1 h2)), aN (t_value_Compare p1 p0 (H.2.2.2.2.1 h0 h1 h2)), aN (t_value_Equal p0 p1 (H.2.2.2.2.2.1 h0 h1 h2 h3 h4 h5)), aN (t_value_Compare p0 p0 (H.2.2.2.2.2.2.2.1 h0 h1 h2 h3 h4 h5 h6 h7)), aN t_law04_awake] (by kernel_rfl)
  | false =>
   exact tells_VI (fn := Ir.law04_ValueOrder) rfl VOK.nil [hP 34 (dec (!((s_value_Compare p1 p0) == (w64 (0 - (s_value_Compare p0 p1))))) false (by rw [h3]; rfl)), hB 2 h4, hB 3 h5, hB 6 h6, hP 0 (dec (!((s_value_Equal p0 p1) == true)) false (by rw [h7]; rfl)), hP 5 (dec (!((s_value_Compare p0 p0) == 0)) false (by rw [h8]; rfl)), hB 2 h9, hB 10 h10, hB 11 h6, hP 3 (dec (!((s_value_Compare p1 p2) == (s_value_Compare p0 p2))) true (by rw [h11]; rfl))] [aB (t_law04_small p0 (H.1)) h0, aB (t_law04_small p1 (H.2.1 h0)) h1, aB (t_law04_small p2 (H.2.2.1 h0 h1)) h2, aN (t_value_Compare p0 p1 (H.2.2.2.1 h0 h1 h2)), aN (t_value_Compare p1 p2 (H.2.2.2.2.1 h0 h1 h2)), aN (t_value_Compare p0 p2 (H.2.2.2.1 h0 h1 h2)), aN (t_value_Compare p1 p0 (H.2.2.2.2.1 h0 h1 h2)), aN (t_value_Equal p0 p1 (H.2.2.2.2.2.1 h0 h1 h2 h3 h4 h5)), aN (t_value_Compare p0 p0 (H.2.2.2.2.2.2.2.1 h0 h1 h2 h3 h4 h5 h6 h7))] (by kernel_rfl)
theorem t_law04_ValueOrder_9 (p0 : Val) (p1 : Val) (p2 : Val) (H : H_law04_ValueOrder p0 p1 p2) (h0 : (s_law04_small p0) = true) (h1 : (s_law04_small p1) = true) (h2 : (s_law04_small p2) = true) (h3 : ((s_value_Compare p1 p0) == (w64 (0 - (s_value_Compare p0 p1)))) = true) (h4 : (decide ((s_value_Compare p0 p1) < (-1))) = false) (h5 : (decide (1 < (s_value_Compare p0 p1))) = false) (h6 : ((s_value_Compare p0 p1) == 0) = true) (h7 : ((s_value_Equal p0 p1) == true) = true) (h8 : ((s_value_Compare p0 p0) == 0) = false) : Tells G (c_law04_ValueOrder p0 p1 p2) (.ret (.bool (false)) []) := by
  exact tells_VI (fn := Ir.law04_ValueOrder) rfl VOK.nil [hP 34 (dec (!((s_value_Compare p1 p0) == (w64 (0 - (s_value_Compare p0 p1))))) false (by rw [h3]; rfl)), hB 2 h4, hB 3 h5, hB 6 h6, hP 0 (dec (!((s_value_Equal p0 p1) == true)) false (by rw [h7]; rfl)), hP 5 (dec (!((s_value_Compare p0 p0) == 0)) true (by rw [h8]; rfl))] [aB (t_law04_small p0 (H.1)) h0, aB (t_law04_small p1 (H.2.1 h0)) h1, aB (t_law04_small p2 (H.2.2.1 h0 h1)) h2, aN (t_value_Compare p0 p1 (H.2.2.2.1 h0 h1 h2)), aN (t_value_Compare p1 p2 (H.2.2.2.2.1 h0 h1 h2)), aN (t_value_Compare p0 p2 (H.2.2.2.1 h0 h1 h2)), aN (t_value_Compare p1 p0 (H.2.2.2.2.1 h0 h1 h2)), aN (t_value_Equal p0 p1 (H.2.2.2.2.2.1 h0 h1 h2 h3 h4 h5)), aN (t_value_Compare p0 p0 (H.2.2.2.2.2.2.2.1 h0 h1 h2 h3 h4 h5 h6 h7))] (by kernel_rfl)
theorem t_law04_ValueOrder_10 (p0 : Val) (p1 : Val) (p2 : Val) (H : H_law04_ValueOrder p0 p1 p2) (h0 : (s_law04_small p0) = true) (h1 : (s_law04_small p1) = true) (h2 : (s_law04_small p2) = true) (h3 : ((s_value_Compare p1 p0) == (w64 (0 - (s_value_Compare p0 p1)))) = true) (h4 : (decide ((s_value_Compare p0 p1) < (-1))) = false) (h5 : (decide (1 < (s_value_Compare p0 p1))) = false) (h6 : ((s_value_Compare p0 p1) == 0) = true) (h7 : ((s_value_Equal p0 p1) == true) = false) : Tells G (c_law04_ValueOrder p0 p1 p2) (.ret (.bool (false)) []) := by
  exact tells_VI (fn := Ir.law04_ValueOrder) rfl VOK.nil [hP 34 (dec (!((s_value_Compare p1 p0) == (w64 (0 - (s_value_Compare p0 p1))))) false (by rw [h3]; rfl)), hB 2 h4, hB 3 h5, hB 6 h6, hP 0 (dec (!((s_value_Equal p0 p1) == true)) true (by rw [h7]; rfl))] [aB (t_law04_small p0 (H.1)) h0, aB (t_law04_small p1 (H.2.1 h0)) h1, aB (t_law04_small p2 (H.2.2.1 h0 h1)) h2, aN (t_value_Compare p0 p1 (H.2.2.2.1 h0 h1 h2)), aN (t_value_Compare p1 p2 (H.2.2.2.2.1 h0 h1 h2)), aN (t_value_Compare p0 p2 (H.2.2.2.1 h0 h1 h2)), aN (t_value_Compare p1 p0 (H.2.2.2.2.1 h0 h1 h2)), aN (t_value_Equal p0 p1 (H.2.2.2.2.2.1 h0 h1 h2 h3 h4 h5))] (by kernel_rfl)
theorem t_law04_ValueOrder_11 (p0 : Val) (p1 : Val) (p2 : Val) (H : H_law04_ValueOrder p0 p1 p2) (h0 : (s_law04_small p0) = true) (h1 : (s_law04_small p1) = true) (h2 : (s_law04_small p2) = true) (h3 : ((s_value_Compare p1 p0) == (w64 (0 - (s_value_Compare p0 p1)))) = true) (h4 : (decide ((s_value_Compare p0 p1) < (-1))) = false) (h5 : (decide (1 < (s_value_Compare p0 p1))) = false) (h6 : ((s_value_Compare p0 p1) == 0) = false) (h7 : ((s_value_Equal p0 p1) == false) = true) (h8 : ((s_value_Compare p0 p0) == 0) = true) (h9 : (decide ((s_value_Compare p0 p1) ≤ 0)) = true) (h10 : (decide ((s_value_Compare p1 p2) ≤ 0)) = true) : Tells G (c_law04_ValueOrder p0 p1 p2) (.ret (.bool (bif (decide (0 < (s_value_Compare p0 p2))) then
    false
  else
    bif (decide (0 ≤ (s_value_Compare p0 p1))) then
      bif (decide (0 ≤ (s_value_Compare p1 p2))) then
        bif (decide ((s_value_Compare p0 p2) < 0)) then
          false
        else
          true
      else
        true
    else
      true)) []) := by
  cases h11 : (decide (0 < (s_value_Compare p0 p2))) with
  | true =>
   exact tells_VI (fn := Ir.law04_ValueOrder) rfl VOK.nil [hP 34 (dec (!((s_value_Compare p1 p0) == (w64 (0 - (s_value_Compare p0 p1))))) false (by rw [h3]; rfl)), hB 2 h4, hB 3 h5, hB 6 h6, hP 0 (dec (!((s_value_Equal p0 p1) == false)) false (by rw [h7]; rfl)), hP 5 (dec (!((s_value_Compare p0 p0) == 0)) false (by rw [h8]; rfl)), hB 2 h9, hB 2 h10, hB 3 h11] [aB (t_law04_small p0 (H.1)) h0, aB (t_law04_small p1 (H.2.1 h0)) h1, aB (t_law04_small p2 (H.2.2.1 h0 h1)) h2, aN (t_value_Compare p0 p1 (H.2.2.2.1 h0 h1 h2)), aN (t_value_Compare p1 p2 (H.2.2.2.2.1 h0 h1 h2)), aN (t_value_Compare p0 p2 (H.2.2.2.1 h0 h1 h2)), aN (t_value_Compare p1 p0 (H.2.2.2.2.1 h0 h1 h2)), aN (t_value_Equal p0 p1 (H.2.2.2.2.2.1 h0 h1 h2 h3 h4 h5)), aN (t_value_Compare p0 p0 (H.2.2.2.2.2.2.2.2.1 h0 h1 h2 h3 h4 h5 h6 h7))] (by kernel_rfl)
  | false =>
   cases h12 : (decide (0 ≤ (s_value_Compare p0 p1))) with
   | true =>
    cases h13 : (decide (0 ≤ (s_value_Compare p1 p2))) with
    | true =>
     cases h14 : (decide ((s_value_Compare p0 p2) < 0)) with
     | true =>
      exact tells_VI (fn := Ir.law04_ValueOrder) rfl VOK.nil [hP 34 (dec (!((s_value_Compare p1 p0) == (w64 (0 - (s_value_Compare p0 p1))))) false (by rw [h3]; rfl)), hB 2 h4, hB 3 h5, hB 6 h6, hP 0 (dec (!((s_value_Equal p0 p1) == false)) false (by rw [h7]; rfl)), hP 5 (dec (!((s_value_Compare p0 p0) == 0)) false (by rw [h8]; rfl)), hB 2 h9, hB 2 h10, hB 3 h11, hB 3 h12, hB 2 h13, hB 3 h14] [aB (t_law04_small p0 (H.1)) h0, aB (t_law04_small p1 (H.2.1 h0)) h1, aB (t_law04_small p2 (H.2.2.1 h0 h1)) h2, aN (t_value_Compare p0 p1 (H.2.2.2.1 h0 h1 h2)), aN (t_value_Compare p1 p2 (H.2.2.2.2.1 h0 h1 h2)), aN (t_value_Compare p0 p2 (H.2.2.2.1 h0 h1 h2)), aN (t_value_Compare p1 p0 (H.2.2.2.2.1 h0 h1 h2)), aN (t_value_Equal p0 p1 (H.2.2.2.2.2.1 h0 h1 h2 h3 h4 h5)), aN (t_value_Compare p0 p0 (H.2.2.2.2.2.2.2.2.1 h0 h1 h2 h3 h4 h5 h6 h7))] (by kernel_rfl)
     | false =>
      exact tells_VI (fn := Ir.law04_ValueOrder) rfl VOK.nil [hP 34 (dec (!((s_value_Compare p1 p0) == (w64 (0 - (s_value_Compare p0 p1))))) false (by rw [h3]; rfl)), hB 2 h4, hB 3 h5, hB 6 h6, hP 0 (dec (!((s_value_Equal p0 p1) == false)) false (by rw [h7]; rfl)), hP 5 (dec (!((s_value_Compare p0 p0) == 0)) false (by rw [h8]; rfl)), hB 2 h9, hB 2 h10, hB 3 h11, hB 3 h12, hB 2 h13, hB 3 h14, hB 4 h6] [aB (t_law04_small p0 (H.1)) h0, aB (t_law04_small p1 (H.2.1 h0)) h1, aB (t_law04_small p2 (H.2.2.1 h0 h1)) h2, aN (t_value_Compare p0 p1 (H.2.2.2.1 h0 h1 h2)), aN (t_value_Compare p1 p2 (H.2.2.2.2.1 h0 h1 h2)), aN (t_value_Compare p0 p2 (H.2.2.2.1 h0 h1 h2)), aN (t_value_Compare p1 p0 (H.2.2.2.2.1 h0 h1 h2)), aN (t_value_Equal p0 p1 (H.2.2.2.2.2.1 h0 h1 h2 h3 h4 h5)), aN (t_value_Compare p0 p0 (H.2.2.2.2.2.2.2.2.1 h0 h1 h2 h3 h4 h5 h6 h7)), aN t_law04_awake] (by kernel_rfl)
    | false =>
     exact tells_VI (fn := Ir.law04_ValueOrder) rfl VOK.nil [hP 34 (dec (!((s_value_Compare p1 p0) == (w64 (0 - (s_value_Compare p0 p1))))) false (by rw [h3]; rfl)), hB 2 h4, hB 3 h5, hB 6 h6, hP 0 (dec (!((s_value_Equal p0 p1) == false)) false (by rw [h7]; rfl)), hP 5 (dec (!((s_value_Compare p0 p0) == 0)) false (by rw [h8]; rfl)), hB 2 h9, hB 2 h10, hB 3 h11, hB 3 h12, hB 2 h13, hB 8 h6] [aB (t_law04_small p0 (H.1)) h0, aB (t_law04_small p1 (H.2.1 h0)) h1, aB (t_law04_small p2 (H.2.2.1 h0 h1)) h2, aN (t_value_Compare p0 p1 (H.2.2.2.1 h0 h1 h2)), aN (t_value_Compare p1 p2 (H.2.2.2.2.1 h0 h1 h2)), aN (t_value_Compare p0 p2 (H.2.2.2.1 h0 h1 h2)), aN (t_value_Compare p1 p0 (H.2.2.2.2.1 h0 h1 h2)), aN (t_value_Equal p0 p1 (H.2.2.2.2.2.1 h0 h1 h2 h3 h4 h5)), aN (t_value_Compare p0 p0 (H.2.2.2.2.2.2.2.2.1 h0 h1 h2 h3 h4 h5 h6 h7)), aN t_law04_awake] (by kernel_rfl)
   | false =>
    exact tells_VI (fn := Ir.law04_ValueOrder) rfl VOK.nil [hP 34 (dec (!((s_value_Compare p1 p0) == (w64 (0 - (s_value_Compare p0 p1))))) false (by rw [h3]; rfl)), hB 2 h4, hB 3 h5, hB 6 h6, hP 0 (dec (!((s_value_Equal p0 p1) == false)) false (by rw [h7]; rfl)), hP 5 (dec (!((s_value_Compare p0 p0) == 0)) false (by rw [h8]; rfl)), hB 2 h9, hB 2 h10, hB 3 h11, hB 3 h12, hB 11 h6] [aB (t_law04_small p0 (H.1)) h0, aB (t_law04_small p1 (H.2.1 h0)) h1, aB (t_law04_small p2 (H.2.2.1 h0 h1)) h2, aN (t_value_Compare p0 p1 (H.2.2.2.1 h0 h1 h2)), aN (t_value_Compare p1 p2 (H.2.2.2.2.1 h0 h1 h2)), aN (t_value_Compare p0 p2 (H.2.2.2.1 h0 h1 h2)), aN (t_value_Compare p1 p0 (H.2.2.2.2.1 h0 h1 h2)), aN (t_value_Equal p0 p1 (H.2.2.2.2.2.1 h0 h1 h2 h3 h4 h5)), aN (t_value_Compare p0 p0 (H.2.2.2.2.2.2.2.2.1 h0 h1 h2 h3 h4 h5 h6 h7)), aN t_law04_awake] (by kernel_rfl)
theorem t_law04_ValueOrder_12 (p0 : Val) (p1 : Val) (p2 : Val) (H : H_law04_ValueOrder p0 p1 p2) (h0 : (s_law04_small p0) = true) (h1 : (s_law04_small p1) = true) (h2 : (s_law04_small p2) = true) (h3 : ((s_value_Compare p1 p0) == (w64 (0 - (s_value_Compare p0 p1)))) = true) (h4 : (decide ((s_value_Compare p0 p1) < (-1))) = false) (h5 : (decide (1 < (s_value_Compare p0 p1))) = false) (h6 : ((s_value_Compare p0 p1) == 0) = false) (h7 : ((s_value_Equal p0 p1) == false) = true) (h8 : ((s_value_Compare p0 p0) == 0) = true) (h9 : (decide ((s_value_Compare p0 p1) ≤ 0)) = true) (h10 : (decide ((s_value_Compare p1 p2) ≤ 0)) = false) : Tells G (c_law04_ValueOrder p0 p1 p2) (.ret (.bool (bif (decide (0 ≤ (s_value_Compare p0 p1))) then
    bif (decide (0 ≤ (s_value_Compare p1 p2))) then
      bif (decide ((s_value_Compare p0 p2) < 0)) then
        false
      else
        true
    else
      true
  else
    true)) []) := by
  cases h11 : (decide (0 ≤ (s_value_Compare p0 p1))) with
  | true =>
   cases h12 : (decide (0 ≤ (s_value_Compare p1 p2))) with
   | true =>
    cases h13 : (decide ((s_value_Compare p0 p2) < 0)) with
    | true =>
     exact tells_VI (fn := Ir.law04_ValueOrder) rfl VOK.nil [hP 34 (dec (!((s_value_Compare p1 p0) == (w64 (0 - (s_value_Compare p0 p1))))) false (by rw [h3]; rfl)), hB 2 h4, hB 3 h5, hB 6 h6, hP 0 (dec (!((s_value_Equal p0 p1) == false)) false (by rw [h7]; rfl)), hP 5 (dec (!((s_value_Compare p0 p0) == 0)) false (by rw [h8]; rfl)), hB 2 h9, hB 2 h10, hB 7 h11, hB 2 h12, hB 3 h13] [aB (t_law04_small p0 (H.1)) h0, aB (t_law04_small p1 (H.2.1 h0)) h1, aB (t_law04_small p2 (H.2.2.1 h0 h1)) h2, aN (t_value_Compare p0 p1 (H.2.2.2.1 h0 h1 h2)), aN (t_value_Compare p1 p2 (H.2.2.2.2.1 h0 h1 h2)), aN (t_value_Compare p0 p2 (H.2.2.2.1 h0 h1 h2)), aN (t_value_Compare p1 p0 (H.2.2.2.2.1 h0 h1 h2)), aN (t_value_Equal p0 p1 (H.2.2.2.2.2.1 h0 h1 h2 h3 h4 h5)), aN (t_value_Compare p0 p0 (H.2.2.2.2.2.2.2.2.1 h0 h1 h2 h3 h4 h5 h6 h7))] (by kernel_rfl)
    | false =>
     exact tells_VI (fn := Ir.law04_ValueOrder) rfl VOK.nil [hP 34 (dec (!((s_value_Compare p1 p0) == (w64 (0 - (s_value_Compare p0 p1))))) false (by rw [h3]; rfl)), hB 2 h4, hB 3 h5, hB 6 h6, hP 0 (dec (!((s_value_Equal p0 p1) == false)) false (by rw [h7]; rfl)), hP 5 (dec (!((s_value_Compare p0 p0) == 0)) false (by rw [h8]; rfl)), hB 2 h9, hB 2 h10, hB 7 h11, hB 2 h12, hB 3 h13, hB 4 h6] [aB (t_law04_small p0 (H.1)) h0, aB (t_law04_small p1 (H.2.1 h0)) h1, aB (t_law04_small p2 (H.2.2.1 h0 h1)) h2, aN (t_value_Compare p0 p1 (H.2.2.2.1 h0 h1 h2)), aN (t_value_Compare p1 p2 (H.2.2.2.2.1 h0 h1 h2)), aN (t_value_Compare p0 p2 (H.2.2.2.1 h0 h1 h2)), aN (t_value_Compare p1 p0 (H.2.2.2.2.1 h0 h1 h2)), aN (t_value_Equal p0 p1 (H.2.2.2.2.2.1 h0 h1 h2 h3 h4 h5)), aN (t_value_Compare p0 p0 (H.2.2.2.2.2.2.2.2.1 h0 h1 h2 h3 h4 h5 h6 h7)), aN t_law04_awake] (by kernel_rfl)
   | false =>
    exact tells_VI (fn := Ir.law04_ValueOrder) rfl VOK.nil [hP 34 (dec (!((s_value_Compare p1 p0) == (w64 (0 - (s_value_Compare p0 p1))))) false (by rw [h3]; rfl)), hB 2 h4, hB 3 h5, hB 6 h6, hP 0 (dec (!((s_value_Equal p0 p1) == false)) false (by rw [h7]; rfl)), hP 5 (dec (!((s_value_Compare p0 p0) == 0)) false (by rw [h8]; rfl)), hB 2 h9, hB 2 h10, hB 7 h11, hB 2 h12, hB 8 h6] [aB (t_law04_small p0 (H.1)) h0, aB (t_law04_small p1 (H.2.1 h0)) h1, aB (t_law04_small p2 (H.2.2.1 h0 h1)) h2, aN (t_value_Compare p0 p1 (H.2.2.2.1 h0 h1 h2)), aN (t_value_Compare p1 p2 (H.2.2.2.2.1 h0 h1 h2)), aN (t_value_Compare p0 p2 (H.2.2.2.1 h0 h1 h2)), aN (t_value_Compare p1 p0 (H.2.2.2.2.1 h0 h1 h2)), aN (t_value_Equal p0 p1 (H.2.2.2.2.2.1 h0 h1 h2 h3 h4 h5)), aN (t_value_Compare p0 p0 (H.2.2.2.2.2.2.2.2.1 h0 h1 h2 h3 h4 h5 h6 h7)), aN t_law04_awake] (by kernel_rfl)
  | false =>
   exact tells_VI (fn := Ir.law04_ValueOrder) rfl VOK.nil [hP 34 (dec (!((s_value_Compare p1 p0) == (w64 (0 - (s_value_Compare p0 p1))))) false (by rw [h3]; rfl)), hB 2 h4, hB 3 h5, hB 6 h6, hP 0 (dec (!((s_value_Equal p0 p1) == false)) false (by rw [h7]; rfl)), hP 5 (dec (!((s_value_Compare p0 p0) == 0)) false (by rw [h8]; rfl)), hB 2 h9, hB 2 h10, hB 7 h11, hB 11 h6] [aB (t_law04_small p0 (H.1)) h0, aB (t_law04_small p1 (H.2.1 h0)) h1, aB (t_law04_small p2 (H.2.2.1 h0 h1)) h2, aN (t_value_Compare p0 p1 (H.2.2.2.1 h0 h1 h2)), aN (t_value_Compare p1 p2 (H.2.2.2.2.1 h0 h1 h2)), aN (t_value_Compare p0 p2 (H.2.2.2.1 h0 h1 h2)), aN (t_value_Compare p1 p0 (H.2.2.2.2.1 h0 h1 h2)), aN (t_value_Equal p0 p1 (H.2.2.2.2.2.1 h0 h1 h2 h3 h4 h5)), aN (t_value_Compare p0 p0 (H.2.2.2.2.2.2.2.2.1 h0 h1 h2 h3 h4 h5 h6 h7)), aN t_law04_awake] (by kernel_rfl)
theorem t_law04_ValueOrder_13 (p0 : Val) (p1 : Val) (p2 : Val) (H : H_law04_ValueOrder p0 p1 p2) (h0 : (s_law04_small p0) = true) (h1 : (s_law04_small p1) = true) (h2 : (s_law04_small p2) = true) (h3 : ((s_value_Compare p1 p0) == (w64 (0 - (s_value_Compare p0 p1)))) = true) (h4 : (decide ((s_value_Compare p0 p1) < (-1))) = false) (h5 : (decide (1 < (s_value_Compare p0 p1))) = false) (h6 : ((s_value_Compare p0 p1) == 0) = false) (h7 : ((s_value_Equal p0 p1) == false) = true) (h8 : ((s_value_Compare p0 p0) == 0) = true) (h9 : (decide ((s_value_Compare p0 p1) ≤ 0)) = false) : Tells G (c_law04_ValueOrder p0 p1 p2) (.ret (.bool (bif (decide (0 ≤ (s_value_Compare p0 p1))) then
    bif (decide (0 ≤ (s_value_Compare p1 p2))) then
      bif (decide ((s_value_Compare p0 p2) < 0)) then
        false
      else
        true
    else
      true
  else
    true)) []) := by
  cases h10 : (decide (0 ≤ (s_value_Compare p0 p1))) with
  | true =>
   cases h11 : (decide (0 ≤ (s_value_Compare p1 p2))) with
   | true =>
    cases h12 : (decide ((s_value_Compare p0 p2) < 0)) with
    | true =>
     exact tells_VI (fn := Ir.law04_ValueOrder) rfl VOK.nil [hP 34 (dec (!((s_value_Compare p1 p0) == (w64 (0 - (s_value_Compare p0 p1))))) false (by rw [h3]; rfl)), hB 2 h4, hB 3 h5, hB 6 h6, hP 0 (dec (!((s_value_Equal p0 p1) == false)) false (by rw [h7]; rfl)), hP 5 (dec (!((s_value_Compare p0 p0) == 0)) false (by rw [h8]; rfl)), hB 2 h9, hB 10 h10, hB 2 h11, hB 3 h12] [aB (t_law04_small p0 (H.1)) h0, aB (t_law04_small p1 (H.2.1 h0)) h1, aB (t_law04_small p2 (H.2.2.1 h0 h1)) h2, aN (t_value_Compare p0 p1 (H.2.2.2.1 h0 h1 h2)), aN (t_value_Compare p1 p2 (H.2.2.2.2.1 h0 h1 h2)), aN (t_value_Compare p0 p2 (H.2.2.2.1 h0 h1 h2)), aN (t_value_Compare p1 p0 (H.2.2.2.2.1 h0 h1 h2)), aN (t_value_Equal p0 p1 (H.2.2.2.2.2.1 h0 h1 h2 h3 h4 h5)), aN (t_value_Compare p0 p0 (H.2.2.2.2.2.2.2.2.1 h0 h1 h2 h3 h4 h5 h6 h7))] (by kernel_rfl)
    | false =>
     exact tells_VI (fn := Ir.law04_ValueOrder) rfl VOK.nil [hP 34 (dec (!((s_value_Compare p1 p0) == (w64 (0 - (s_value_Compare p0 p1))))) false (by rw [h3]; rfl)), hB 2 h4, hB 3 h5, hB 6 h6, hP 0 (dec (!((s_value_Equal p0 p1) == false)) false (by rw [h7]; rfl)), hP 5 (dec (!((s_value_Compare p0 p0) == 0)) false (by rw [h8]; rfl)), hB 2 h9, hB 10 h10, hB 2 h11, hB 3 h12, hB 4 h6] [aB (t_law04_small p0 (H.1)) h0, aB (t_law04_small p1 (H.2.1 h0)) h1, aB (t_law04_small p2 (H.2.2.1 h0 h1)) h2, aN (t_value_Compare p0 p1 (H.2.2.2.1 h0 h1 h2)), aN (t_value_Compare p1 p2 (H.2.2.2.2.1 h0 h1 h2)), aN (t_value_Compare p0 p2 (H.2.2.2.1 h0 h1 h2)), aN (t_value_Compare p1 p0 (H.2.2.2.2.1 h0 h1 h2)), aN (t_value_Equal p0 p1 (H.2.2.2.2.2.1 h0 h1 h2 h3 h4 h5)), aN (t_value_Compare p0 p0 (H.2.2.2.2.2.2.2.2.1 h0 h1 h2 h3 h4 h5 h6 h7)), aN t_law04_awake] (by kernel_rfl)
   | false =>
    exact tells_VI (fn := Ir.law04_ValueOrder) rfl VOK.nil [hP 34 (dec (!((s_value_Compare p1 p0) == (w64 (0 - (s_value_Compare p0 p1))))) false (by rw [h3]; rfl)), hB 2 h4, hB 3 h5, hB 6 h6, hP 0 (dec (!((s_value_Equal p0 p1) == false)) false (by rw [h7]; rfl)), hP 5 (dec (!((s_value_Compare p0 p0) == 0)) false (by rw [h8]; rfl)), hB 2 h9, hB 10 h10, hB 2 h11, hB 8 h6] [aB (t_law04_small p0 (H.1)) h0, aB (t_law04_small p1 (H.2.1 h0)) h1, aB (t_law04_small p2 (H.2.2.1 h0 h1)) h2, aN (t_value_Compare p0 p1 (H.2.2.2.1 h0 h1 h2)), aN (t_value_Compare p1 p2 (H.2.2.2.2.1 h0 h1 h2)), aN (t_value_Compare p0 p2 (H.2.2.2.1 h0 h1 h2)), aN (t_value_Compare p1 p0 (H.2.2.2.2.1 h0 h1 h2)), aN (t_value_Equal p0 p1 (H.2.2.2.2.2.1 h0 h1 h2 h3 h4 h5)), aN (t_value_Compare p0 p0 (H.2.2.2.2.2.2.2.2.1 h0 h1 h2 h3 h4 h5 h6 h7)), aN t_law04_awake] (by kernel_rfl)
  | false =>
   exact tells_VI (fn := Ir.law04_ValueOrder) rfl VOK.nil [hP 34 (dec (!((s_value_Compare p1 p0) == (w64 (0 - (s_value_Compare p0 p1))))) false (by rw [h3]; rfl)), hB 2 h4, hB 3 h5, hB 6 h6, hP 0 (dec (!((s_value_Equal p0 p1) == false)) false (by rw [h7]; rfl)), hP 5 (dec (!((s_value_Compare p0 p0) == 0)) false (by rw [h8]; rfl)), hB 2 h9, hB 10 h10, hB 11 h6] [aB (t_law04_small p0 (H.1)) h0, aB (t_law04_small p1 (H.2.1 h0)) h1, aB (t_law04_small p2 (H.2.2.1 h0 h1)) h2, aN (t_value_Compare p0 p1 (H.2.2.2.1 h0 h1 h2)), aN (t_value_Compare p1 p2 (H.2.2.2.2.1 h0 h1 h2)), aN (t_value_Compare p0 p2 (H.2.2.2.1 h0 h1 h2)), aN (t_value_Compare p1 p0 (H.2.2.2.2.1 h0 h1 h2)), aN (t_value_Equal p0 p1 (H.2.2.2.2.2.1 h0 h1 h2 h3 h4 h5)), aN (t_value_Compare p0 p0 (H.2.2.2.2.2.2.2.2.1 h0 h1 h2 h3 h4 h5 h6 h7)), aN t_law04_awake] (by kernel_rfl)
theorem t_law04_ValueOrder_14 (p0 : Val) (p1 : Val) (p2 : Val) (H : H_law04_ValueOrder p0 p1 p2) (h0 : (s_law04_small p0) = true) (h1 : (s_law04_small p1) = true) (h2 : (s_law04_small p2) = true) (h3 : ((s_value_Compare p1 p0) == (w64 (0 - (s_value_Compare p0 p1)))) = true) (h4 : (decide ((s_value_Compare p0 p1) < (-1))) = false) (h5 : (decide (1 < (s_value_Compare p0 p1))) = false) (h6 : ((s_value_Compare p0 p1) == 0) = false) (h7 : ((s_value_Equal p0 p1) == false) = true) (h8 : ((s_value_Compare p0 p0) == 0) = false) : Tells G (c_law04_ValueOrder p0 p1 p2) (.ret (.bool (false)) []) := by
  exact tells_VI (fn := Ir.law04_ValueOrder) rfl VOK.nil [hP 34 (dec (!((s_value_Compare p1 p0) == (w64 (0 - (s_value_Compare p0 p1))))) false (by rw [h3]; rfl)), hB 2 h4, hB 3 h5, hB 6 h6, hP 0 (dec (!((s_value_Equal p0 p1) == false)) false (by rw [h7]; rfl)), hP 5 (dec (!((s_value_Compare p0 p0) == 0)) true (by rw [h8]; rfl))] [aB (t_law04_small p0 (H.1)) h0, aB (t_law04_small p1 (H.2.1 h0)) h1, aB (t_law04_small p2 (H.2.2.1 h0 h1)) h2, aN (t_value_Compare p0 p1 (H.2.2.2.1 h0 h1 h2)), aN (t_value_Compare p1 p2 (H.2.2.2.2.1 h0 h1 h2)), aN (t_value_Compare p0 p2 (H.2.2.2.1 h0 h1 h2)), aN (t_value_Compare p1 p0 (H.2.2.2.2.1 h0 h1 h2)), aN (t_value_Equal p0 p1 (H.2.2.2.2.2.1 h0 h1 h2 h3 h4 h5)), aN (t_value_Compare p0 p0 (H.2.2.2.2.2.2.2.2.1 h0 h1 h2 h3 h4 h5 h6 h7))] (by kernel_rfl)
theorem t_law04_ValueOrder_15 (p0 : Val) (p1 : Val) (p2 : Val) (H : H_law04_ValueOrder p0 p1 p2) (h0 : (s_law04_small p0) = true) (h1 : (s_law04_small p1) = true) (h2 : (s_law04_small p2) = true) (h3 : ((s_value_Compare p1 p0) == (w64 (0 - (s_value_Compare p0 p1)))) = true) (h4 : (decide ((s_value_Compare p0 p1) < (-1))) = false) (h5 : (decide (1 < (s_value_Compare p0 p1))) = false) (h6 : ((s_value_Compare p0 p1) == 0) = false) (h7 : ((s_value_Equal p0 p1) == false) = false) : Tells G (c_law04_ValueOrder p0 p1 p2) (.ret (.bool (false)) []) := by
  exact tells_VI (fn := Ir.law04_ValueOrder) rfl VOK.nil [hP 34 (dec (!((s_value_Compare p1 p0) == (w64 (0 - (s_value_Compare p0 p1))))) false (by rw [h3]; rfl)), hB 2 h4, hB 3 h5, hB 6 h6, hP 0 (dec (!((s_value_Equal p0 p1) == false)) true (by rw [h7]; rfl))] [aB (t_law04_small p0 (H.1)) h0, aB (t_law04_small p1 (H.2.1 h0)) h1, aB (t_law04_small p2 (H.2.2.1 h0 h1)) h2, aN (t_value_Compare p0 p1 (H.2.2.2.1 h0 h1 h2)), aN (t_value_Compare p1 p2 (H.2.2.2.2.1 h0 h1 h2)), aN (t_value_Compare p0 p2 (H.2.2.2.1 h0 h1 h2)), aN (t_value_Compare p1 p0 (H.2.2.2.2.1 h0 h1 h2)), aN (t_value_Equal p0 p1 (H.2.2.2.2.2.1 h0 h1 h2 h3 h4 h5))] (by kernel_rfl)
theorem t_law04_ValueOrder_16 (p0 : Val) (p1 : Val) (p2 : Val) (H : H_law04_ValueOrder p0 p1 p2) (h0 : (s_law04_small p0) = true) (h1 : (s_law04_small p1) = true) (h2 : (s_law04_small p2) = true) (h3 : ((s_value_Compare p1 p0) == (w64 (0 - (s_value_Compare p0 p1)))) = false) : Tells G (c_law04_ValueOrder p0 p1 p2) (.ret (.bool (false)) []) := by
  exact tells_VI (fn := Ir.law04_ValueOrder) rfl VOK.nil [hP 34 (dec (!((s_value_Compare p1 p0) == (w64 (0 - (s_value_Compare p0 p1))))) true (by rw [h3]; rfl))] [aB (t_law04_small p0 (H.1)) h0, aB (t_law04_small p1 (H.2.1 h0)) h1, aB (t_law04_small p2 (H.2.2.1 h0 h1)) h2, aN (t_value_Compare p0 p1 (H.2.2.2.1 h0 h1 h2)), aN (t_value_Compare p1 p2 (H.2.2.2.2.1 h0 h1 h2)), aN (t_value_Compare p0 p2 (H.2.2.2.1 h0 h1 h2)), aN (t_value_Compare p1 p0 (H.2.2.2.2.1 h0 h1 h2))] (by kernel_rfl)
theorem t_law04_ValueOrder_17 (p0 : Val) (p1 : Val) (p2 : Val) (H : H_law04_ValueOrder p0 p1 p2) (h0 : (s_law04_small p0) = true) (h1 : (s_law04_small p1) = true) (h2 : (s_law04_small p2) = false) : Tells G (c_law04_ValueOrder p0 p1 p2) (.ret (.bool (true)) []) := by
  exact tells_VI (fn := Ir.law04_ValueOrder) rfl VOK.nil [] [aB (t_law04_small p0 (H.1)) h0, aB (t_law04_small p1 (H.2.1 h0)) h1, aB (t_law04_small p2 (H.2.2.1 h0 h1)) h2, aN t_law04_awake] (by kernel_rfl)
theorem t_law04_ValueOrder_18 (p0 : Val) (p1 : Val) (p2 : Val) (H : H_law04_ValueOrder p0 p1 p2) (h0 : (s_law04_small p0) = true) (h1 : (s_law04_small p1) = false) : Tells G (c_law04_ValueOrder p0 p1 p2) (.ret (.bool (true)) []) := by
  exact tells_VI (fn := Ir.law04_ValueOrder) rfl VOK.nil [] [aB (t_law04_small p0 (H.1)) h0, aB (t_law04_small p1 (H.2.1 h0)) h1, aN t_law04_awake] (by kernel_rfl)
theorem t_law04_ValueOrder_19 (p0 : Val) (p1 : Val) (p2 : Val) (H : H_law04_ValueOrder p0 p1 p2) (h0 : (s_law04_small p0) = false) : Tells G (c_law04_ValueOrder p0 p1 p2) (.ret (.bool (true)) []) := by
  exact tells_VI (fn := Ir.law04_ValueOrder) rfl VOK.nil [] [aB (t_law04_small p0 (H.1)) h0, aN t_law04_awake] (by kernel_rfl)
theorem t_law04_ValueOrder (p0 : Val) (p1 : Val) (p2 : Val) (H : H_law04_ValueOrder p0 p1 p2) : Tells G (c_law04_ValueOrder p0 p1 p2) (a_law04_ValueOrder p0 p1 p2) := by
  unfold a_law04_ValueOrder s_law04_ValueOrder
  cases h0 : (s_law04_small p0) with
  | true =>
   cases h1 : (s_law04_small p1) with
   | true =>
    cases h2 : (s_law04_small p2) with
    | true =>
     cases h3 : ((s_value_Compare p1 p0) == (w64 (0 - (s_value_Compare p0 p1)))) with
     | true =>
      cases h4 : (decide ((s_value_Compare p0 p1) < (-1))) with
      | true =>
       exact t_law04_ValueOrder_0 p0 p1 p2 H h0 h1 h2 h3 h4
      | false =>
       cases h5 : (decide (1 < (s_value_Compare p0 p1))) with
       | true =>
        exact t_law04_ValueOrder_1 p0 p1 p2 H h0 h1 h2 h3 h4 h5
       | false =>
        cases h6 : ((s_value_Compare p0 p1) == 0) with
        | true =>
         cases h7 : ((s_value_Equal p0 p1) == true) with
         | true =>
          cases h8 : ((s_value_Compare p0 p0) == 0) with
          | true =>
           cases h9 : (decide ((s_value_Compare p0 p1) ≤ 0)) with
           | true =>
            cases h10 : (decide ((s_value_Compare p1 p2) ≤ 0)) with
            | true =>
             cases h11 : (decide (0 < (s_value_Compare p0 p2))) with
             | true =>
              exact t_law04_ValueOrder_2 p0 p1 p2 H h0 h1 h2 h3 h4 h5 h6 h7 h8 h9 h10 h11
             | false =>
              cases h12 : (decide (0 ≤ (s_value_Compare p0 p1))) with
              | true =>
               exact t_law04_ValueOrder_3 p0 p1 p2 H h0 h1 h2 h3 h4 h5 h6 h7 h8 h9 h10 h11 h12
              | false =>
               exact t_law04_ValueOrder_4 p0 p1 p2 H h0 h1 h2 h3 h4 h5 h6 h7 h8 h9 h10 h11 h12
            | false =>
             cases h11 : (decide (0 ≤ (s_value_Compare p0 p1))) with
             | true =>
              exact t_law04_ValueOrder_5 p0 p1 p2 H h0 h1 h2 h3 h4 h5 h6 h7 h8 h9 h10 h11
             | false =>
              exact t_law04_ValueOrder_6 p0 p1 p2 H h0 h1 h2 h3 h4 h5 h6 h7 h8 h9 h10 h11
           | false =>
            cases h10 : (decide (0 ≤ (s_value_Compare p0 p1))) with
            | true =>
             exact t_law04_ValueOrder_7 p0 p1 p2 H h0 h1 h2 h3 h4 h5 h6 h7 h8 h9 h10
            | false =>
             exact t_law04_ValueOrder_8 p0 p1 p2 H h0 h1 h2 h3 h4 h5 h6 h7 h8 h9 h10
          | false =>
           exact t_law04_ValueOrder_9 p0 p1 p2 H h0 h1 h2 h3 h4 h5 h6 h7 h8
         | false =>
          exact t_law04_ValueOrder_10 p0 p1 p2 H h0 h1 h2 h3 h4 h5 h6 h7
        | false =>
         cases h7 : ((s_value_Equal p0 p1) == false) with
         | true =>
          cases h8 : ((s_value_Compare p0 p0) == 0) with
          | true =>
           cases h9 : (decide ((s_value_Compare p0 p1) ≤ 0)) with
           | true =>
            cases h10 : (decide ((s_value_Compare p1 p2) ≤ 0)) with
            | true =>
             exact t_law04_ValueOrder_11 p0 p1 p2 H h0 h1 h2 h3 h4 h5 h6 h7 h8 h9 h10
            | false =>
             exact t_law04_ValueOrder_12 p0 p1 p2 H h0 h1 h2 h3 h4 h5 h6 h7 h8 h9 h10
           | false =>
            exact t_law04_ValueOrder_13 p0 p1 p2 H h0 h1 h2 h3 h4 h5 h6 h7 h8 h9
          | false =>
           exact t_law04_ValueOrder_14 p0 p1 p2 H h0 h1 h2 h3 h4 h5 h6 h7 h8
         | false =>
          exact t_law04_ValueOrder_15 p0 p1 p2 H h0 h1 h2 h3 h4 h5 h6 h7
     | false =>
      exact t_law04_ValueOrder_16 p0 p1 p2 H h0 h1 h2 h3
    | false =>
     exact t_law04_ValueOrder_17 p0 p1 p2 H h0 h1 h2
   | false =>
    exact t_law04_ValueOrder_18 p0 p1 p2 H h0 h1
  | false =>
   exact t_law04_ValueOrder_19 p0 p1 p2 H h0

def tysValueOrder : List Ty := [.nm 25, .nm 25, .nm 25]
theorem pureValueOrder (hp : ∀ (p0 : Val) (p1 : Val) (p2 : Val), Val_ok p0 → Val_ok p1 → Val_ok p2 → H_law04_ValueOrder p0 p1 p2 ∧ s_law04_ValueOrder p0 p1 p2 = true) : ∀ qs, Args Γ tysValueOrder qs → ∃ n, runs G n (.call 5 qs []) = some (.ret (.bool true) []) := by
  intro qs h
  cases qs with
  | nil => cases h
  | cons q0 qs =>
  obtain ⟨h0, h⟩ := h
  cases qs with
  | nil => cases h
  | cons q1 qs =>
  obtain ⟨h1, h⟩ := h
  cases qs with
  | nil => cases h
  | cons q2 qs =>
  obtain ⟨h2, h⟩ := h
  cases qs with
  | cons _ _ => cases h
  | nil =>
  obtain ⟨c0, rfl, g0⟩ := h0.agg rfl
  obtain ⟨p0, rfl, k0⟩ := (Val_open (gam_at 25) g0)
  obtain ⟨c1, rfl, g1⟩ := h1.agg rfl
  obtain ⟨p1, rfl, k1⟩ := (Val_open (gam_at 25) g1)
  obtain ⟨c2, rfl, g2⟩ := h2.agg rfl
  obtain ⟨p2, rfl, k2⟩ := (Val_open (gam_at 25) g2)
  have e := hp p0 p1 p2 k0 k1 k2
  have t := t_law04_ValueOrder p0 p1 p2 e.1
  unfold a_law04_ValueOrder at t
  rw [e.2] at t
  exact t

end Go.Proofs.Ytedohmdgbilicaa
