/- Texts of the claim, merged by a program; what the statement does not reach is left out. -/
import Derived.Test.YtnhhddbbppbblaaBPatchBack6
import Derived.Lib.Strings
import Derived.Lib.Slices
import Derived.Lib.Walk
import Derived.Lib.Bytealg

section
/- What the law PatchBack computes (printed by a program). -/
namespace Go.Proofs.Ytnhhddbbppbblaa
open Go.Pv
def s_K4 (p0 : Val) (p1 : Val) (p2 : Val) : Bool :=
 bif (s_Kd ([p0, p1, p2])) then
  bif (Q29 p1) then
   bif (s_Ky (s_Kg p0 (s_Kf p0 p1)) p1) then
    bif (Q29 p0) then
     bif (Q29 (s_Kg p0 p2)) then
      true
     else
      false
    else
     true
   else
    false
  else
   bif (Q29 p0) then
    bif (Q29 (s_Kg p0 p2)) then
     true
    else
     false
   else
    true
 else
  true
def c_K4 (p0 : Val) (p1 : Val) (p2 : Val) : En := .call 7 [.agg (Val.cells p0), .agg (Val.cells p1), .agg (Val.cells p2)] []
def a_K4 (p0 : Val) (p1 : Val) (p2 : Val) : Rs := .ret (.bool (s_K4 p0 p1 p2)) []
def H_K4 (p0 : Val) (p1 : Val) (p2 : Val) : Prop := (H_Kd ([p0, p1, p2])) ∧ ((s_Kd ([p0, p1, p2])) = true → Q9u p1) ∧ ((s_Kd ([p0, p1, p2])) = true → (Q29 p1) = true → H_Kf p0 p1) ∧ ((s_Kd ([p0, p1, p2])) = true → (Q29 p1) = true → H_Kg p0 (s_Kf p0 p1)) ∧ ((s_Kd ([p0, p1, p2])) = true → (Q29 p1) = true → H_Ky (s_Kg p0 (s_Kf p0 p1))) ∧ ((s_Kd ([p0, p1, p2])) = true → (Q29 p1) = true → (s_Ky (s_Kg p0 (s_Kf p0 p1)) p1) = true → Q9u p0) ∧ ((s_Kd ([p0, p1, p2])) = true → (Q29 p1) = true → (s_Ky (s_Kg p0 (s_Kf p0 p1)) p1) = true → (Q29 p0) = true → H_Kg p0 p2) ∧ ((s_Kd ([p0, p1, p2])) = true → (Q29 p1) = true → (s_Ky (s_Kg p0 (s_Kf p0 p1)) p1) = true → (Q29 p0) = true → Q9u (s_Kg p0 p2)) ∧ ((s_Kd ([p0, p1, p2])) = true → (Q29 p1) = false → Q9u p0) ∧ ((s_Kd ([p0, p1, p2])) = true → (Q29 p1) = false → (Q29 p0) = true → H_Kg p0 p2) ∧ ((s_Kd ([p0, p1, p2])) = true → (Q29 p1) = false → (Q29 p0) = true → Q9u (s_Kg p0 p2)) ∧ True
theorem Q17l (p0 : Val) (p1 : Val) (p2 : Val) (H : H_K4 p0 p1 p2) (h0 : (s_Kd ([p0, p1, p2])) = true) (h1 : (Q29 p1) = true) : Q7 G (c_K4 p0 p1 p2) (.ret (.bool (bif (s_Ky (s_Kg p0 (s_Kf p0 p1)) p1) then
   bif (Q29 p0) then
     bif (Q29 (s_Kg p0 p2)) then
      true
     else
      false
   else
     true
 else
   false)) []) := by
 cases h2 : (s_Ky (s_Kg p0 (s_Kf p0 p1)) p1) with
 | true =>
  cases h3 : (Q29 p0) with
  | true =>
   cases h4 : (Q29 (s_Kg p0 p2)) with
   | true =>
    exact Q8 (fn := Ir.K4) rfl VOK.nil [] [aB (Ql9 (e' := .call 10 [.sl [(Val.cells p0), (Val.cells p1), (Val.cells p2)]] []) (t_Kd ([p0, p1, p2]) (H.1)) (by simp only [c_Kd, Val.Q1s, Val.Q2n])) h0, aB (Q65 p1 (H.2.1 h0)) h1, aN (t_Kf p0 p1 (H.2.2.1 h0 h1)), aN (t_Kg p0 (s_Kf p0 p1) (H.2.2.2.1 h0 h1)), aB (t_Ky (s_Kg p0 (s_Kf p0 p1)) p1 (H.2.2.2.2.1 h0 h1)) h2, aB (Q65 p0 (H.2.2.2.2.2.1 h0 h1 h2)) h3, aN (t_Kg p0 p2 (H.2.2.2.2.2.2.1 h0 h1 h2 h3)), aB (Q65 (s_Kg p0 p2) (H.2.2.2.2.2.2.2.1 h0 h1 h2 h3)) h4, aN t_Ka] (by kernel_rfl)
   | false =>
    exact Q8 (fn := Ir.K4) rfl VOK.nil [] [aB (Ql9 (e' := .call 10 [.sl [(Val.cells p0), (Val.cells p1), (Val.cells p2)]] []) (t_Kd ([p0, p1, p2]) (H.1)) (by simp only [c_Kd, Val.Q1s, Val.Q2n])) h0, aB (Q65 p1 (H.2.1 h0)) h1, aN (t_Kf p0 p1 (H.2.2.1 h0 h1)), aN (t_Kg p0 (s_Kf p0 p1) (H.2.2.2.1 h0 h1)), aB (t_Ky (s_Kg p0 (s_Kf p0 p1)) p1 (H.2.2.2.2.1 h0 h1)) h2, aB (Q65 p0 (H.2.2.2.2.2.1 h0 h1 h2)) h3, aN (t_Kg p0 p2 (H.2.2.2.2.2.2.1 h0 h1 h2 h3)), aB (Q65 (s_Kg p0 p2) (H.2.2.2.2.2.2.2.1 h0 h1 h2 h3)) h4] (by kernel_rfl)
  | false =>
   exact Q8 (fn := Ir.K4) rfl VOK.nil [] [aB (Ql9 (e' := .call 10 [.sl [(Val.cells p0), (Val.cells p1), (Val.cells p2)]] []) (t_Kd ([p0, p1, p2]) (H.1)) (by simp only [c_Kd, Val.Q1s, Val.Q2n])) h0, aB (Q65 p1 (H.2.1 h0)) h1, aN (t_Kf p0 p1 (H.2.2.1 h0 h1)), aN (t_Kg p0 (s_Kf p0 p1) (H.2.2.2.1 h0 h1)), aB (t_Ky (s_Kg p0 (s_Kf p0 p1)) p1 (H.2.2.2.2.1 h0 h1)) h2, aB (Q65 p0 (H.2.2.2.2.2.1 h0 h1 h2)) h3, aN t_Ka] (by kernel_rfl)
 | false =>
  exact Q8 (fn := Ir.K4) rfl VOK.nil [] [aB (Ql9 (e' := .call 10 [.sl [(Val.cells p0), (Val.cells p1), (Val.cells p2)]] []) (t_Kd ([p0, p1, p2]) (H.1)) (by simp only [c_Kd, Val.Q1s, Val.Q2n])) h0, aB (Q65 p1 (H.2.1 h0)) h1, aN (t_Kf p0 p1 (H.2.2.1 h0 h1)), aN (t_Kg p0 (s_Kf p0 p1) (H.2.2.2.1 h0 h1)), aB (t_Ky (s_Kg p0 (s_Kf p0 p1)) p1 (H.2.2.2.2.1 h0 h1)) h2] (by kernel_rfl)
theorem Q16i (p0 : Val) (p1 : Val) (p2 : Val) (H : H_K4 p0 p1 p2) (h0 : (s_Kd ([p0, p1, p2])) = true) (h1 : (Q29 p1) = false) : Q7 G (c_K4 p0 p1 p2) (.ret (.bool (bif (Q29 p0) then
   bif (Q29 (s_Kg p0 p2)) then
    true
   else
    false
 else
   true)) []) := by
 cases h2 : (Q29 p0) with
 | true =>
  cases h3 : (Q29 (s_Kg p0 p2)) with
  | true =>
   exact Q8 (fn := Ir.K4) rfl VOK.nil [] [aB (Ql9 (e' := .call 10 [.sl [(Val.cells p0), (Val.cells p1), (Val.cells p2)]] []) (t_Kd ([p0, p1, p2]) (H.1)) (by simp only [c_Kd, Val.Q1s, Val.Q2n])) h0, aB (Q65 p1 (H.2.1 h0)) h1, aB (Q65 p0 (H.2.2.2.2.2.2.2.2.1 h0 h1)) h2, aN (t_Kg p0 p2 (H.2.2.2.2.2.2.2.2.2.1 h0 h1 h2)), aB (Q65 (s_Kg p0 p2) (H.2.2.2.2.2.2.2.2.2.2.1 h0 h1 h2)) h3, aN t_Ka] (by kernel_rfl)
  | false =>
   exact Q8 (fn := Ir.K4) rfl VOK.nil [] [aB (Ql9 (e' := .call 10 [.sl [(Val.cells p0), (Val.cells p1), (Val.cells p2)]] []) (t_Kd ([p0, p1, p2]) (H.1)) (by simp only [c_Kd, Val.Q1s, Val.Q2n])) h0, aB (Q65 p1 (H.2.1 h0)) h1, aB (Q65 p0 (H.2.2.2.2.2.2.2.2.1 h0 h1)) h2, aN (t_Kg p0 p2 (H.2.2.2.2.2.2.2.2.2.1 h0 h1 h2)), aB (Q65 (s_Kg p0 p2) (H.2.2.2.2.2.2.2.2.2.2.1 h0 h1 h2)) h3] (by kernel_rfl)
 | false =>
  exact Q8 (fn := Ir.K4) rfl VOK.nil [] [aB (Ql9 (e' := .call 10 [.sl [(Val.cells p0), (Val.cells p1), (Val.cells p2)]] []) (t_Kd ([p0, p1, p2]) (H.1)) (by simp only [c_Kd, Val.Q1s, Val.Q2n])) h0, aB (Q65 p1 (H.2.1 h0)) h1, aB (Q65 p0 (H.2.2.2.2.2.2.2.2.1 h0 h1)) h2, aN t_Ka] (by kernel_rfl)
theorem Q17b (p0 : Val) (p1 : Val) (p2 : Val) (H : H_K4 p0 p1 p2) (h0 : (s_Kd ([p0, p1, p2])) = false) : Q7 G (c_K4 p0 p1 p2) (.ret (.bool (true)) []) := by
 exact Q8 (fn := Ir.K4) rfl VOK.nil [] [aB (Ql9 (e' := .call 10 [.sl [(Val.cells p0), (Val.cells p1), (Val.cells p2)]] []) (t_Kd ([p0, p1, p2]) (H.1)) (by simp only [c_Kd, Val.Q1s, Val.Q2n])) h0, aN t_Ka] (by kernel_rfl)
theorem t_K4 (p0 : Val) (p1 : Val) (p2 : Val) (H : H_K4 p0 p1 p2) : Q7 G (c_K4 p0 p1 p2) (a_K4 p0 p1 p2) := by
 unfold a_K4 s_K4
 cases h0 : (s_Kd ([p0, p1, p2])) with
 | true =>
  cases h1 : (Q29 p1) with
  | true =>
   exact Q17l p0 p1 p2 H h0 h1
  | false =>
   exact Q16i p0 p1 p2 H h0 h1
 | false =>
  exact Q17b p0 p1 p2 H h0
def tysPatchBack : List Ty := [.nm 25, .nm 25, .nm 25]
theorem purePatchBack (hp : ∀ (p0 : Val) (p1 : Val) (p2 : Val), Q2p p0 → Q2p p1 → Q2p p2 → H_K4 p0 p1 p2 ∧ s_K4 p0 p1 p2 = true) : ∀ qs, Args Γ tysPatchBack qs → ∃ n, runs G n (.call 7 qs []) = some (.ret (.bool true) []) := by
  intro qs h
  cases qs with
  | nil => cases h
  | cons q0 qs =>
  obtain ⟨h0, h⟩ := h
  cases qs with
  | nil => cases h
  | cons q1 qs =>
  obtain ⟨h1, h⟩ := h
  cases qs with
  | nil => cases h
  | cons q2 qs =>
  obtain ⟨h2, h⟩ := h
  cases qs with
  | cons _ _ => cases h
  | nil =>
  obtain ⟨c0, rfl, g0⟩ := h0.agg rfl
  obtain ⟨p0, rfl, k0⟩ := (Qmj (Qyu 25) g0)
  obtain ⟨c1, rfl, g1⟩ := h1.agg rfl
  obtain ⟨p1, rfl, k1⟩ := (Qmj (Qyu 25) g1)
  obtain ⟨c2, rfl, g2⟩ := h2.agg rfl
  obtain ⟨p2, rfl, k2⟩ := (Qmj (Qyu 25) g2)
  have e := hp p0 p1 p2 k0 k1 k2
  have t := t_K4 p0 p1 p2 e.1
  unfold a_K4 at t
  rw [e.2] at t
  exact t
end Go.Proofs.Ytnhhddbbppbblaa
end

section
/- PatchBack in plain words. -/
namespace Go.Proofs.Ytnhhddbbppbblaa
open Go.Pv
theorem back_holds (a b p : Val) (ha : Q2p a) (hb : Q2p b) (hp : Q2p p) : H_K4 a b p ∧ s_K4 a b p = true := by
  have S : s_Kd [a, b, p] = true → (tot a ≤ 3000 ∧ DV a) ∧ (tot b ≤ 3000 ∧ DV b) ∧ (tot p ≤ 3000 ∧ DV p) := fun h => ⟨Qmb (three ha hb hp) h a in3a, Qmb (three ha hb hp) h b in3b, Qmb (three ha hb hp) h p in3c⟩
  have C : ∀ {v : Val}, tot v ≤ 500000000 → Q9u v := fun h => Qat (by omega)
  have M : s_Kd [a, b, p] = true → H_Kg a p := fun h => by have := S h; unfold H_Kg; omega
  have T : s_Kd [a, b, p] = true → Q9u (s_Kg a p) := fun h => by
    have := S h
    have := Qsb p a
    rw [Q3m]
    exact C (by omega)
  have D : s_Kd [a, b, p] = true → tot (s_Kf a b) ≤ 9000000 := fun h => by
    have := S h
    have := Q13w this.1.1 this.2.1.1
    have := Q13s b a
    rw [Qah]
    omega
  refine ⟨⟨Q15y (three ha hb hp) (by simp), fun h => C (by have := S h; omega), fun h _ => ?_, fun h _ => ?_, fun h _ => ?_, fun h _ _ => C (by have := S h; omega), fun h _ _ _ => M h, fun h _ _ _ => T h, fun h _ => C (by have := S h; omega), fun h _ _ => M h, fun h _ _ => T h, trivial⟩, ?_⟩
  · have := S h
    have := Q13w this.1.1 this.2.1.1
    unfold H_Kf
    omega
  · have := S h
    have := D h
    unfold H_Kg
    omega
  · have := S h
    have := D h
    have := Qsb (s_Kf a b) a
    rw [Q3m]
    exact alH (by omega)
  · unfold s_K4
    cases h : s_Kd [a, b, p] with
    | false => rfl
    | true =>
      obtain ⟨⟨_, x⟩, ⟨_, y⟩, ⟨_, z⟩⟩ := S h
      have k : Q29 a = true → Q29 (s_Kg a p) = true := fun c => by
        rw [Q3m, Qg3]
        exact Q12r p z a x ((Qg3 a).1 c)
      have e : Q29 b = true → s_Ky (s_Kg a (s_Kf a b)) b = true := fun c => by
        rw [Q3m, Qah, Q194 b y ((Qg3 b).1 c) a x, Qw3]
      rw [cond_true]
      cases c : Q29 b with
      | false =>
        rw [cond_false]
        cases d : Q29 a with
        | false => rfl
        | true => rw [cond_true, k d]; rfl
      | true =>
        rw [cond_true, e c, cond_true]
        cases d : Q29 a with
        | false => rfl
        | true => rw [cond_true, k d]; rfl
end Go.Proofs.Ytnhhddbbppbblaa
end

section
/- The library's comparison of two strings, walked: it answers as the evaluator's cmpL. -/
namespace Go.Proofs.Ytnhhddbbppbblaa
open Go.Pv
theorem cmpL_eq : ∀ (a b : List UInt8), cmpL a b = Lib.compareBytes a b
  | [], [] => rfl
  | [], _ :: _ => rfl
  | _ :: _, [] => rfl
  | a :: x, b :: y => by
    rw [Lib.compareBytes, ← cmpL_eq x y]
    rfl
set_option maxHeartbeats 1000000 in
set_option maxRecDepth 100000 in
theorem comparing (a b : ByteArray) (w : World) :
    Calls Try.prog 54 #[.string a, .string b] w fun e w' => e = .returned (.int .i64 (Lib.compareBytes a.data.toList b.data.toList)) ∧ w' = w := by
  go_enter Try.func54, Try.ntmps54
  go_wp2
  rw [run_callFunc_extern Try.func68 (by kernel_rfl) (by kernel_rfl) (by kernel_rfl) (e := Extern.BytealgCompare.compare) (by kernel_rfl), Lib.run_compareString]
  simp only [Result.andThen]
  rw [Oper.upon_value]
  go_wp2
  go_ret
  exact ⟨rfl, rfl⟩
theorem cmpOK : Q12x Try.prog 54 := by
  refine ⟨⟨_, Try.func54, by kernel_rfl, by kernel_rfl⟩, fun x y w => ?_⟩
  have h := comparing x y w
  rw [← cmpL_eq, ← toList_data, ← toList_data] at h
  exact h
end Go.Proofs.Ytnhhddbbppbblaa
end

