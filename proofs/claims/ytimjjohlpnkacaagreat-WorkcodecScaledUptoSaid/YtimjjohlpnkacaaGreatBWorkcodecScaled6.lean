/- Texts of the claim, merged by a program; what the statement does not reach is left out. -/
import Derived.Test.YtimjjohlpnkacaaGreatBWorkcodecScaled5

section
/- What the decoders of templates compute (printed by a program). -/
namespace Go.Proofs.YtimjjohlpnkacaaGreat
open Go.Pv
structure PDecoder where
  failed : Bool
def PDecoder.cells (x : PDecoder) : List PV :=
  [.bool x.failed]
def PDecoder.rows (l : List PDecoder) : List (List PV) := l.map PDecoder.cells
def ft (o : PDecoder) (b : Bool) : PDecoder := ⟨o.failed || !b⟩
theorem Qng (o : PDecoder) (a b : Bool) : ft (ft o a) b = ft o (a && b) := by
  unfold ft
  simp only [Bool.not_and, Bool.or_assoc]
theorem Q57 (o : PDecoder) (b : Bool) : (ft o b).failed = (o.failed || !b) := rfl
theorem Q66 (o : PDecoder) (b : Bool) : PDecoder.mk (o.failed || !b) = ft o b := rfl
theorem Q9o (p1 : Val) (p2 : BA) : (bif (prt p1 p2).kind == 4 then prt p1 p2 else vZ).list = (dL p1 p2).1 := by
  unfold dL xL
  cases ((prt p1 p2).kind == 4) <;> rfl
theorem Q9c (f m x y q : Bool) (h : x = y) : ((f || !(m && x)) || !q) = (f || !(m && (y && q))) := by subst h; cases f <;> cases m <;> cases x <;> cases q <;> rfl
theorem Qwx (x : Val) : ((x.kind == 4) || (x.kind == 0)) = (xL x).2 := by unfold xL; cases (x.kind == 4) <;> rfl
def s_Ko (p1 : Val) (o0 : PDecoder) : Val × PDecoder := (p1, ft o0 (isM p1))
theorem e_Ko (p1 : Val) (o0 : PDecoder) : s_Ko p1 o0 = (bif o0.failed then
    (p1, (PDecoder.mk true))
  else
    bif (p1.kind == 5) then
      (p1, (PDecoder.mk false))
    else
      (p1, (PDecoder.mk (!(p1.kind == 0))))) := by
  obtain ⟨b⟩ := o0
  unfold s_Ko ft isM
  cases b <;> cases (p1.kind == 5) <;> cases (p1.kind == 0) <;> rfl
def c_Ko (p1 : Val) (o0 : PDecoder) : En := .call 215 [.bx 0 0, .agg (Val.cells p1)] [⟨1, 0, false, (PDecoder.cells o0)⟩]
def r_Ko (_p1 : Val) (_o0 : PDecoder) (q0 : Val) (q1 : PDecoder) : Rs := .ret (.agg (Val.cells q0)) [⟨1, 0, false, (PDecoder.cells q1)⟩]
def a_Ko (p1 : Val) (o0 : PDecoder) : Rs := r_Ko p1 o0 (s_Ko p1 o0).1 (s_Ko p1 o0).2
theorem t_Ko (p1 : Val) (o0 : PDecoder) : Qd G (c_Ko p1 o0) (a_Ko p1 o0) := by
 unfold a_Ko
 rw [e_Ko]
 cases h0 : o0.failed with
 | true =>
  exact Qj (fn := Ir.Ko) rfl (h := [⟨1, 0, false, (PDecoder.cells o0)⟩]) (vw := []) VOK.nil [hP 6 (decR o0.failed true [0] h0)] [] (by kernel_rfl)
 | false =>
  cases h1 : (p1.kind == 5) with
  | true =>
   exact Qj (fn := Ir.Ko) rfl (h := [⟨1, 0, false, (PDecoder.cells o0)⟩]) (vw := []) VOK.nil [hP 6 (decR o0.failed false [0] h0), hP 3 (dec (!(p1.kind == 5)) false (by rw [h1]; rfl))] [] (by kernel_rfl)
  | false =>
   exact Qj (fn := Ir.Ko) rfl (h := [⟨1, 0, false, (PDecoder.cells o0)⟩]) (vw := []) VOK.nil [hP 6 (decR o0.failed false [0] h0), hP 3 (dec (!(p1.kind == 5)) true (by rw [h1]; rfl))] [] (by kernel_rfl)
def s_Kd (p1 : Val) (p2 : BA) (p3 : Int) (o0 : PDecoder) : Val × PDecoder := (bif (prt p1 p2).kind == p3 then prt p1 p2 else vZ, ft o0 (isM p1 && ((prt p1 p2).kind == p3 || (prt p1 p2).kind == 0)))
theorem e_Kd (p1 : Val) (p2 : BA) (p3 : Int) (o0 : PDecoder) : s_Kd p1 p2 p3 o0 = (bif (p1.kind == 5) then
    bif ((Qoo p1 p2).1.kind == p3) then
      ((Qoo p1 p2).1, o0)
    else
      bif o0.failed then
        ((Val.mk 0 0 eB [] []), (PDecoder.mk true))
      else
        ((Val.mk 0 0 eB [] []), (PDecoder.mk (!((Qoo p1 p2).1.kind == 0))))
  else
    bif o0.failed then
      ((Val.mk 0 0 eB [] []), (PDecoder.mk true))
    else
      ((Val.mk 0 0 eB [] []), (PDecoder.mk (!(p1.kind == 0))))) := by
  obtain ⟨b⟩ := o0
  unfold s_Kd ft
  rw [vprt]
  cases h : (p1.kind == 5) with
  | true =>
    rw [Q1dx h]
    cases b <;> cases ((prt p1 p2).kind == p3) <;> cases ((prt p1 p2).kind == 0) <;> rfl
  | false =>
    rw [Qnk h, Qnx h]
    cases b <;> cases (p1.kind == 0) <;> cases (vZ.kind == p3) <;> rfl
def c_Kd (p1 : Val) (p2 : BA) (p3 : Int) (o0 : PDecoder) : En := .call 238 [.bx 0 0, .agg (Val.cells p1), .str p2, .int .i64 p3] [⟨1, 0, false, (PDecoder.cells o0)⟩]
def r_Kd (_p1 : Val) (_p2 : BA) (_p3 : Int) (_o0 : PDecoder) (q0 : Val) (q1 : PDecoder) : Rs := .ret (.agg (Val.cells q0)) [⟨1, 0, false, (PDecoder.cells q1)⟩]
def a_Kd (p1 : Val) (p2 : BA) (p3 : Int) (o0 : PDecoder) : Rs := r_Kd p1 p2 p3 o0 (s_Kd p1 p2 p3 o0).1 (s_Kd p1 p2 p3 o0).2
def H_Kd (p1 : Val) : Prop := Val.Sm 1000000000 p1
theorem Q12r (p1 : Val) (p2 : BA) (_p3 : Int) (_o0 : PDecoder) (H : H_Kd p1) : (Q1gh p1 p2) ∧ True := by
  exact ⟨Q1q6 H _, trivial⟩
theorem t_Kd (p1 : Val) (p2 : BA) (p3 : Int) (o0 : PDecoder) (H : H_Kd p1) : Qd G (c_Kd p1 p2 p3 o0) (a_Kd p1 p2 p3 o0) := by
 unfold a_Kd
 rw [e_Kd]
 cases h0 : (p1.kind == 5) with
 | true =>
  cases h1 : ((Qoo p1 p2).1.kind == p3) with
  | true =>
   exact Qj (fn := Ir.Kd) rfl (h := [⟨1, 0, false, (PDecoder.cells o0)⟩]) (vw := []) VOK.nil [hP 4 (dec (!(p1.kind == 5)) false (by rw [h0]; rfl)), hB 12 h1] [aN (Q1ix p1 p2 (Q12r p1 p2 p3 o0 H).1)] (by kernel_rfl)
  | false =>
   cases h2 : o0.failed with
   | true =>
    exact Qj (fn := Ir.Kd) rfl (h := [⟨1, 0, false, (PDecoder.cells o0)⟩]) (vw := []) VOK.nil [hP 4 (dec (!(p1.kind == 5)) false (by rw [h0]; rfl)), hB 12 h1, hP 4 (decR o0.failed true [0] h2)] [aN (Q1ix p1 p2 (Q12r p1 p2 p3 o0 H).1)] (by kernel_rfl)
   | false =>
    exact Qj (fn := Ir.Kd) rfl (h := [⟨1, 0, false, (PDecoder.cells o0)⟩]) (vw := []) VOK.nil [hP 4 (dec (!(p1.kind == 5)) false (by rw [h0]; rfl)), hB 12 h1, hP 4 (decR o0.failed false [0] h2)] [aN (Q1ix p1 p2 (Q12r p1 p2 p3 o0 H).1)] (by kernel_rfl)
 | false =>
  cases h1 : o0.failed with
  | true =>
   exact Qj (fn := Ir.Kd) rfl (h := [⟨1, 0, false, (PDecoder.cells o0)⟩]) (vw := []) VOK.nil [hP 4 (dec (!(p1.kind == 5)) true (by rw [h0]; rfl)), hP 4 (decR o0.failed true [0] h1)] [] (by kernel_rfl)
  | false =>
   exact Qj (fn := Ir.Kd) rfl (h := [⟨1, 0, false, (PDecoder.cells o0)⟩]) (vw := []) VOK.nil [hP 4 (dec (!(p1.kind == 5)) true (by rw [h0]; rfl)), hP 4 (decR o0.failed false [0] h1)] [] (by kernel_rfl)
def s_Kg (p1 : Val) (p2 : BA) (o0 : PDecoder) : Int × PDecoder := ((dN p1 p2).1, ft o0 (isM p1 && (dN p1 p2).2))
theorem e_Kg (p1 : Val) (p2 : BA) (o0 : PDecoder) : s_Kg p1 p2 o0 = (((s_Kd p1 p2 2 o0).1.n, (s_Kd p1 p2 2 o0).2)) := by
  unfold s_Kg s_Kd dN xN
  cases ((prt p1 p2).kind == 2) <;> rfl
def c_Kg (p1 : Val) (p2 : BA) (o0 : PDecoder) : En := .call 240 [.bx 0 0, .agg (Val.cells p1), .str p2] [⟨1, 0, false, (PDecoder.cells o0)⟩]
def r_Kg (_p1 : Val) (_p2 : BA) (_o0 : PDecoder) (q0 : Int) (q1 : PDecoder) : Rs := .ret (.int .i64 q0) [⟨1, 0, false, (PDecoder.cells q1)⟩]
def a_Kg (p1 : Val) (p2 : BA) (o0 : PDecoder) : Rs := r_Kg p1 p2 o0 (s_Kg p1 p2 o0).1 (s_Kg p1 p2 o0).2
def H_Kg (p1 : Val) : Prop := Val.Sm 1000000000 p1
theorem Q1mf (p1 : Val) (_p2 : BA) (_o0 : PDecoder) (H : H_Kg p1) : (H_Kd p1) ∧ True := by
  exact ⟨H, trivial⟩
theorem t_Kg (p1 : Val) (p2 : BA) (o0 : PDecoder) (H : H_Kg p1) : Qd G (c_Kg p1 p2 o0) (a_Kg p1 p2 o0) := by
 unfold a_Kg
 rw [e_Kg]
 exact Qj (fn := Ir.Kg) rfl (h := [⟨1, 0, false, (PDecoder.cells o0)⟩]) (vw := []) VOK.nil [] [aN (t_Kd p1 p2 2 o0 (Q1mf p1 p2 o0 H).1)] (by kernel_rfl)
def s_Kn (p1 : Val) (p2 : BA) (o0 : PDecoder) : ByteArray × PDecoder := ((dS p1 p2).1, ft o0 (isM p1 && (dS p1 p2).2))
theorem e_Kn (p1 : Val) (p2 : BA) (o0 : PDecoder) : s_Kn p1 p2 o0 = (((s_Kd p1 p2 3 o0).1.s, (s_Kd p1 p2 3 o0).2)) := by
  unfold s_Kn s_Kd dS xS
  cases ((prt p1 p2).kind == 3) <;> rfl
def c_Kn (p1 : Val) (p2 : BA) (o0 : PDecoder) : En := .call 239 [.bx 0 0, .agg (Val.cells p1), .str p2] [⟨1, 0, false, (PDecoder.cells o0)⟩]
def r_Kn (_p1 : Val) (_p2 : BA) (_o0 : PDecoder) (q0 : BA) (q1 : PDecoder) : Rs := .ret (.str q0) [⟨1, 0, false, (PDecoder.cells q1)⟩]
def a_Kn (p1 : Val) (p2 : BA) (o0 : PDecoder) : Rs := r_Kn p1 p2 o0 (s_Kn p1 p2 o0).1 (s_Kn p1 p2 o0).2
def H_Kn (p1 : Val) : Prop := Val.Sm 1000000000 p1
theorem Q1mg (p1 : Val) (_p2 : BA) (_o0 : PDecoder) (H : H_Kn p1) : (H_Kd p1) ∧ True := by
  exact ⟨H, trivial⟩
theorem t_Kn (p1 : Val) (p2 : BA) (o0 : PDecoder) (H : H_Kn p1) : Qd G (c_Kn p1 p2 o0) (a_Kn p1 p2 o0) := by
 unfold a_Kn
 rw [e_Kn]
 exact Qj (fn := Ir.Kn) rfl (h := [⟨1, 0, false, (PDecoder.cells o0)⟩]) (vw := []) VOK.nil [] [aN (t_Kd p1 p2 3 o0 (Q1mg p1 p2 o0 H).1)] (by kernel_rfl)
def s_Kc (p1 : Val) (p2 : BA) (o0 : PDecoder) : Bool × PDecoder := ((dB p1 p2).1, ft o0 (isM p1 && (dB p1 p2).2))
theorem e_Kc (p1 : Val) (p2 : BA) (o0 : PDecoder) : s_Kc p1 p2 o0 = (((!((s_Kd p1 p2 1 o0).1.n == 0)), (s_Kd p1 p2 1 o0).2)) := by
  unfold s_Kc s_Kd dB xB
  cases ((prt p1 p2).kind == 1) <;> rfl
def c_Kc (p1 : Val) (p2 : BA) (o0 : PDecoder) : En := .call 280 [.bx 0 0, .agg (Val.cells p1), .str p2] [⟨1, 0, false, (PDecoder.cells o0)⟩]
def r_Kc (_p1 : Val) (_p2 : BA) (_o0 : PDecoder) (q0 : Bool) (q1 : PDecoder) : Rs := .ret (.bool q0) [⟨1, 0, false, (PDecoder.cells q1)⟩]
def a_Kc (p1 : Val) (p2 : BA) (o0 : PDecoder) : Rs := r_Kc p1 p2 o0 (s_Kc p1 p2 o0).1 (s_Kc p1 p2 o0).2
def H_Kc (p1 : Val) : Prop := Val.Sm 1000000000 p1
theorem Q1me (p1 : Val) (_p2 : BA) (_o0 : PDecoder) (H : H_Kc p1) : (H_Kd p1) ∧ True := by
  exact ⟨H, trivial⟩
theorem t_Kc (p1 : Val) (p2 : BA) (o0 : PDecoder) (H : H_Kc p1) : Qd G (c_Kc p1 p2 o0) (a_Kc p1 p2 o0) := by
 unfold a_Kc
 rw [e_Kc]
 exact Qj (fn := Ir.Kc) rfl (h := [⟨1, 0, false, (PDecoder.cells o0)⟩]) (vw := []) VOK.nil [] [aN (t_Kd p1 p2 1 o0 (Q1me p1 p2 o0 H).1)] (by kernel_rfl)
def s_Kp (p1 : Val) (p2 : BA) (o0 : PDecoder) : Val × PDecoder := (s5 (prt p1 p2), ft o0 (isM p1 && isM (prt p1 p2)))
theorem e_Kp (p1 : Val) (p2 : BA) (o0 : PDecoder) : s_Kp p1 p2 o0 = (((s_Kd p1 p2 5 o0).1, (s_Kd p1 p2 5 o0).2)) := by
  rfl
def c_Kp (p1 : Val) (p2 : BA) (o0 : PDecoder) : En := .call 219 [.bx 0 0, .agg (Val.cells p1), .str p2] [⟨1, 0, false, (PDecoder.cells o0)⟩]
def r_Kp (_p1 : Val) (_p2 : BA) (_o0 : PDecoder) (q0 : Val) (q1 : PDecoder) : Rs := .ret (.agg (Val.cells q0)) [⟨1, 0, false, (PDecoder.cells q1)⟩]
def a_Kp (p1 : Val) (p2 : BA) (o0 : PDecoder) : Rs := r_Kp p1 p2 o0 (s_Kp p1 p2 o0).1 (s_Kp p1 p2 o0).2
def H_Kp (p1 : Val) : Prop := Val.Sm 1000000000 p1
theorem Q1mh (p1 : Val) (_p2 : BA) (_o0 : PDecoder) (H : H_Kp p1) : (H_Kd p1) ∧ True := by
  exact ⟨H, trivial⟩
theorem t_Kp (p1 : Val) (p2 : BA) (o0 : PDecoder) (H : H_Kp p1) : Qd G (c_Kp p1 p2 o0) (a_Kp p1 p2 o0) := by
 unfold a_Kp
 rw [e_Kp]
 exact Qj (fn := Ir.Kp) rfl (h := [⟨1, 0, false, (PDecoder.cells o0)⟩]) (vw := []) VOK.nil [] [aN (t_Kd p1 p2 5 o0 (Q1mh p1 p2 o0 H).1)] (by kernel_rfl)
def s_Kk (p1 : Val) (o0 : PDecoder) : Resources × PDecoder := ((Resources.dec p1).1, ft o0 (Resources.dec p1).2)
theorem e_Kk (p1 : Val) (o0 : PDecoder) : s_Kk p1 o0 = (((Resources.mk (s_Kg p1 Q5o o0).1 (s_Kg p1 Q3l (s_Kg p1 Q5o o0).2).1 (s_Kg p1 Q54 (s_Kg p1 Q3l (s_Kg p1 Q5o o0).2).2).1), (s_Kg p1 Q54 (s_Kg p1 Q3l (s_Kg p1 Q5o o0).2).2).2)) := by
  simp only [s_Kg, s_Kk, Resources.dec, Qng, Bool.and_assoc, Bool.and_left_comm, Bool.and_comm, Bool.and_self_left]
def c_Kk (p1 : Val) (o0 : PDecoder) : En := .call 275 [.bx 0 0, .agg (Val.cells p1)] [⟨1, 0, false, (PDecoder.cells o0)⟩]
def r_Kk (_p1 : Val) (_o0 : PDecoder) (q0 : Resources) (q1 : PDecoder) : Rs := .ret (.agg (Resources.cells q0)) [⟨1, 0, false, (PDecoder.cells q1)⟩]
def a_Kk (p1 : Val) (o0 : PDecoder) : Rs := r_Kk p1 o0 (s_Kk p1 o0).1 (s_Kk p1 o0).2
def H_Kk (p1 : Val) : Prop := Val.Sm 1000000000 p1
theorem Q12u (p1 : Val) (_o0 : PDecoder) (H : H_Kk p1) : (H_Kg p1) ∧ True := by
  repeat' with_reducible apply And.intro
  all_goals first | exact True.intro | exact H | exact Qo5 (Q3j H _)
theorem t_Kk (p1 : Val) (o0 : PDecoder) (H : H_Kk p1) : Qd G (c_Kk p1 o0) (a_Kk p1 o0) := by
 unfold a_Kk
 rw [e_Kk]
 exact Qj (fn := Ir.Kk) rfl (h := [⟨1, 0, false, (PDecoder.cells o0)⟩]) (vw := []) VOK.nil [] [aN (t_Kg p1 Q5o o0 (Q12u p1 o0 H).1), aN (t_Kg p1 Q3l (s_Kg p1 Q5o o0).2 (Q12u p1 o0 H).1), aN (t_Kg p1 Q54 (s_Kg p1 Q3l (s_Kg p1 Q5o o0).2).2 (Q12u p1 o0 H).1)] (by kernel_rfl)
def s_Ki (p1 : Val) (o0 : PDecoder) : Probe × PDecoder := ((Probe.dec p1).1, ft o0 (Probe.dec p1).2)
theorem e_Ki (p1 : Val) (o0 : PDecoder) : s_Ki p1 o0 = (((Probe.mk (s_Kg p1 Q2u (s_Ko p1 o0).2).1 (s_Kg p1 Q1d (s_Kg p1 Q2u (s_Ko p1 o0).2).2).1 (s_Kg p1 Q2c (s_Kg p1 Q1d (s_Kg p1 Q2u (s_Ko p1 o0).2).2).2).1 (s_Kg p1 Q2i (s_Kg p1 Q2c (s_Kg p1 Q1d (s_Kg p1 Q2u (s_Ko p1 o0).2).2).2).2).1), (s_Kg p1 Q2i (s_Kg p1 Q2c (s_Kg p1 Q1d (s_Kg p1 Q2u (s_Ko p1 o0).2).2).2).2).2)) := by
  simp only [s_Ko, s_Kg, s_Ki, Probe.dec, Qng, Bool.and_assoc, Bool.and_left_comm, Bool.and_comm, Bool.and_self_left]
def c_Ki (p1 : Val) (o0 : PDecoder) : En := .call 277 [.bx 0 0, .agg (Val.cells p1)] [⟨1, 0, false, (PDecoder.cells o0)⟩]
def r_Ki (_p1 : Val) (_o0 : PDecoder) (q0 : Probe) (q1 : PDecoder) : Rs := .ret (.agg (Probe.cells q0)) [⟨1, 0, false, (PDecoder.cells q1)⟩]
def a_Ki (p1 : Val) (o0 : PDecoder) : Rs := r_Ki p1 o0 (s_Ki p1 o0).1 (s_Ki p1 o0).2
def H_Ki (p1 : Val) : Prop := Val.Sm 1000000000 p1
theorem Qvy (p1 : Val) (_o0 : PDecoder) (H : H_Ki p1) : (H_Kg p1) ∧ True := by
  repeat' with_reducible apply And.intro
  all_goals first | exact True.intro | exact H | exact Qo5 (Q3j H _)
theorem t_Ki (p1 : Val) (o0 : PDecoder) (H : H_Ki p1) : Qd G (c_Ki p1 o0) (a_Ki p1 o0) := by
 unfold a_Ki
 rw [e_Ki]
 exact Qj (fn := Ir.Ki) rfl (h := [⟨1, 0, false, (PDecoder.cells o0)⟩]) (vw := []) VOK.nil [] [aN (t_Ko p1 o0), aN (t_Kg p1 Q2u (s_Ko p1 o0).2 (Qvy p1 o0 H).1), aN (t_Kg p1 Q1d (s_Kg p1 Q2u (s_Ko p1 o0).2).2 (Qvy p1 o0 H).1), aN (t_Kg p1 Q2c (s_Kg p1 Q1d (s_Kg p1 Q2u (s_Ko p1 o0).2).2).2 (Qvy p1 o0 H).1), aN (t_Kg p1 Q2i (s_Kg p1 Q2c (s_Kg p1 Q1d (s_Kg p1 Q2u (s_Ko p1 o0).2).2).2).2 (Qvy p1 o0 H).1)] (by kernel_rfl)
def Q75 (p1 : Val) (p2 : BA) (o0 : PDecoder) : List Val → Nat → Bool → (List Probe) → Bool × (List Probe)
 | [], _i0, v0_1, v0_2 =>
  (v0_1, v0_2)
 | x0 :: r0, i0, v0_1, v0_2 =>
  Q75 p1 p2 o0 r0 (i0 + 1) (s_Ki x0 (PDecoder.mk v0_1)).2.failed (v0_2 ++ [(s_Ki x0 (PDecoder.mk v0_1)).1])
def Q13z (p1 : Val) (p2 : BA) (o0 : PDecoder) (i0 : Nat) (_v0_1 : Bool) (v0_2 : List Probe) : List PV :=
  [.un, .un, .un, .fn 277 [.bx 0 0] []] ++ nuns 5 ++ [.ms 1 4 0 (List.length v0_2)] ++ nuns 6 ++ [.sl (Val.rows (s_Kd p1 p2 4 o0).1.list), .int .i64 ((List.length (s_Kd p1 p2 4 o0).1.list) : Int), .int .i64 (i0 : Int)] ++ nuns 11
def Qtp (_p1 : Val) (_p2 : BA) (_o0 : PDecoder) (_i0 : Nat) (v0_1 : Bool) (v0_2 : List Probe) : List Ob :=
  [⟨1, 0, false, [.bool v0_1]⟩, ⟨4, 0, true, (Probe.rows v0_2).flatten⟩]
def Qth (p1 : Val) (p2 : BA) (o0 : PDecoder) (i0 : Nat) (v0_1 : Bool) (v0_2 : List Probe) : En := .loop 1 Ir.Qoy Ir.Q1qm (Q13z p1 p2 o0 i0 v0_1 v0_2) (Qtp p1 p2 o0 i0 v0_1 v0_2)
def Qza (_p1 : Val) (_p2 : BA) (_o0 : PDecoder) (q0 : Bool) (q1 : List Probe) (z : Nat → PV) (_zo : Nat → List PV) : St :=
  ⟨zr z 0 9 ++ [.ms 1 4 0 (List.length q1)] ++ zr z 10 20, [(0, ⟨1, 0, false, [.bool q0]⟩), (1, ⟨4, 0, true, (Probe.rows q1).flatten⟩)], 66⟩
theorem Q1cw (p1 : Val) (p2 : BA) (o0 : PDecoder) (i0 : Nat) (v0_1 : Bool) (v0_2 : List Probe) : VOK (Go.Pv.look (number 0 (Qtp p1 p2 o0 i0 v0_1 v0_2))) [(1, Probe.rows v0_2)] := (VOK.cons (show Seen _ _ from Q3r (ob := ⟨4, 0, true, (Probe.rows v0_2).flatten⟩) (Probe.Qk v0_2 4 rfl)) VOK.nil)
def Qve (p1 : Val) (p2 : BA) (o0 : PDecoder) (e : En) (q : Bool × (List Probe)) : Prop := ∃ z zo, Qd G e (.st (.exit 0) (Qza p1 p2 o0 q.1 q.2 z zo))
theorem Qz0 (p1 : Val) (p2 : BA) (o0 : PDecoder) {e e' : En} (h : ∀ r, Qd G e r → Qd G e' r) : ∀ q, Qve p1 p2 o0 e q → Qve p1 p2 o0 e' q
  | _, ⟨z, zo, hz⟩ => ⟨z, zo, h _ hz⟩
def Qjy (p1 : Val) (p2 : BA) (o0 : PDecoder) : Prop := (List.length (s_Kd p1 p2 4 o0).1.list ≤ 137438953472) ∧ (∀ x0 ∈ (s_Kd p1 p2 4 o0).1.list, H_Ki x0) ∧ True
def Qzk (p1 : Val) (p2 : BA) (o0 : PDecoder) (i0 : Nat) (_v0_1 : Bool) (_v0_2 : List Probe) : List PV :=
  [.un, .un, .un, .fn 277 [.bx 0 0] []] ++ nuns 12 ++ [.sl (Val.rows (s_Kd p1 p2 4 o0).1.list), .int .i64 ((List.length (s_Kd p1 p2 4 o0).1.list) : Int), .int .i64 (i0 : Int), .bool false]
def Qqo (_p1 : Val) (_p2 : BA) (_o0 : PDecoder) (_i0 : Nat) (_v0_1 : Bool) (_v0_2 : List Probe) : List (Nat × List PV) :=
  []
theorem Q1gc (p1 : Val) (p2 : BA) (o0 : PDecoder) (_H : Qjy p1 p2 o0) (i0 : Nat) (v0_1 : Bool) (v0_2 : List Probe) (_ho0_0 : List.length v0_2 ≤ i0) (hc0 : (decide ((i0 : Int) < ((List.length (s_Kd p1 p2 4 o0).1.list) : Int))) = false) : Qve p1 p2 o0 (Qth p1 p2 o0 i0 v0_1 v0_2) (v0_1, v0_2) := by
 exact ⟨(envF (Qzk p1 p2 o0 i0 v0_1 v0_2)), (zoF (Qqo p1 p2 o0 i0 v0_1 v0_2)), Qv (Q1cw p1 p2 o0 i0 v0_1 v0_2) (x := ((.exit 0), Qza p1 p2 o0 v0_1 v0_2 (envF (Qzk p1 p2 o0 i0 v0_1 v0_2)) (zoF (Qqo p1 p2 o0 i0 v0_1 v0_2)))) [hB 0 hc0] [] (by kernel_rfl)⟩
theorem Q1ej (p1 : Val) (p2 : BA) (o0 : PDecoder) (H : Qjy p1 p2 o0) (x0 : Val) (i0 : Nat) (v0_1 : Bool) (v0_2 : List Probe) (hx0 : (s_Kd p1 p2 4 o0).1.list[i0]? = some x0) (hi0 : i0 < List.length (s_Kd p1 p2 4 o0).1.list) (ho0_0 : List.length v0_2 ≤ i0) (hc0 : (decide ((i0 : Int) < ((List.length (s_Kd p1 p2 4 o0).1.list) : Int))) = true) {r : Rs} (hr : Qd G (Qth p1 p2 o0 (i0 + 1) (s_Ki x0 (PDecoder.mk v0_1)).2.failed (v0_2 ++ [(s_Ki x0 (PDecoder.mk v0_1)).1])) r) : Qd G (Qth p1 p2 o0 i0 v0_1 v0_2) r := by
 have hB0 := H.1
 exact Qu (Q1cw p1 p2 o0 i0 v0_1 v0_2) (y := (Q13z p1 p2 o0 (i0 + 1) (s_Ki x0 (PDecoder.mk v0_1)).2.failed (v0_2 ++ [(s_Ki x0 (PDecoder.mk v0_1)).1]), Qtp p1 p2 o0 (i0 + 1) (s_Ki x0 (PDecoder.mk v0_1)).2.failed (v0_2 ++ [(s_Ki x0 (PDecoder.mk v0_1)).1]))) [hB 0 hc0, hP 0 (Q35 5 (Val.rows (s_Kd p1 p2 4 o0).1.list) i0 _ (Val.Qz hx0) rfl), hV 8 [(642, Probe.rows (v0_2 ++ [(s_Ki x0 (PDecoder.mk v0_1)).1]))] (Q4a 1 578 642 4 32 0 0 true (Probe.rows v0_2) (Probe.rows (v0_2 ++ [(s_Ki x0 (PDecoder.mk v0_1)).1])) (Probe.cells (s_Ki x0 (PDecoder.mk v0_1)).1) (List.length v0_2) (List.length (v0_2 ++ [(s_Ki x0 (PDecoder.mk v0_1)).1])) rfl (Probe.Qa v0_2).symm (Probe.Qa (v0_2 ++ [(s_Ki x0 (PDecoder.mk v0_1)).1])).symm (Probe.Q23 v0_2 (s_Ki x0 (PDecoder.mk v0_1)).1) (Probe.Q12 v0_2) rfl (by omega)), hS 0 true (Probe.Qk (v0_2 ++ [(s_Ki x0 (PDecoder.mk v0_1)).1]) 4 rfl), hP 1 (Q2s i0 (by omega))] [aN (t_Ki x0 (PDecoder.mk v0_1) (H.2.1 x0 (Q2z hx0)))] (by kernel_rfl) hr
theorem Q16n (p1 : Val) (p2 : BA) (o0 : PDecoder) (H : Qjy p1 p2 o0) : ∀ (r0 : List Val) (i0 : Nat) (v0_1 : Bool) (v0_2 : List Probe), List.drop i0 (s_Kd p1 p2 4 o0).1.list = r0 → List.length v0_2 ≤ i0 → Qve p1 p2 o0 (Qth p1 p2 o0 i0 v0_1 v0_2) (Q75 p1 p2 o0 r0 i0 v0_1 v0_2)
 | [], i0, v0_1, v0_2, hd, ho0_0 => by
  have hc0 : (decide ((i0 : Int) < ((List.length (s_Kd p1 p2 4 o0).1.list) : Int))) = false := by have := Q1y hd; simp; omega
  rw [Q75]
  exact Q1gc p1 p2 o0 H i0 v0_1 v0_2 ho0_0 hc0
 | x0 :: r0, i0, v0_1, v0_2, hd, ho0_0 => by
  obtain ⟨hx0, hi0, hd'⟩ := Q1v hd
  have hc0 : (decide ((i0 : Int) < ((List.length (s_Kd p1 p2 4 o0).1.list) : Int))) = true := by simp; omega
  rw [Q75]
  exact Qz0 p1 p2 o0 (fun r hr => Q1ej p1 p2 o0 H x0 i0 v0_1 v0_2 hx0 hi0 ho0_0 hc0 hr) _ (Q16n p1 p2 o0 H r0 (i0 + 1) (s_Ki x0 (PDecoder.mk v0_1)).2.failed (v0_2 ++ [(s_Ki x0 (PDecoder.mk v0_1)).1]) hd' (by first | omega | (simp; omega)))
def s_Kz (p1 : Val) (p2 : BA) (o0 : PDecoder) : List Probe × PDecoder := ((dE Probe.dec p1 p2).1, ft o0 (isM p1 && (dE Probe.dec p1 p2).2))
theorem Q1fb (p1 : Val) (p2 : BA) (o0 : PDecoder) : ∀ (l : List Val) (i : Nat) (b : Bool) (a : List Probe), Q75 p1 p2 o0 l i b a = (b || !(l.all fun x => (Probe.dec x).2), a ++ l.map (fun x => (Probe.dec x).1))
  | [], _, b, a => by rw [Q75]; simp
  | x :: l, i, b, a => by
    rw [Q75]
    refine (Q1fb p1 p2 o0 l (i + 1) (b || !(Probe.dec x).2) (a ++ [(Probe.dec x).1])).trans ?_
    simp only [List.append_assoc, List.singleton_append, List.map_cons, List.all_cons, Bool.not_and, Bool.or_assoc]
theorem e_Kz (p1 : Val) (p2 : BA) (o0 : PDecoder) : s_Kz p1 p2 o0 = (((Q75 p1 p2 o0 (s_Kd p1 p2 4 o0).1.list 0 (s_Kd p1 p2 4 o0).2.failed []).2, (PDecoder.mk (Q75 p1 p2 o0 (s_Kd p1 p2 4 o0).1.list 0 (s_Kd p1 p2 4 o0).2.failed []).1))) := by
  rw [Q1fb]
  unfold s_Kd s_Kz
  simp only [Q9o, Q57]
  refine Prod.ext rfl ?_
  rw [Q9c o0.failed (isM p1) _ _ _ (Qwx (prt p1 p2)), Q66]
  rfl
def c_Kz (p1 : Val) (p2 : BA) (o0 : PDecoder) : En := .call 276 [.bx 0 0, .agg (Val.cells p1), .str p2, .fn 277 [.bx 0 0] []] [⟨1, 0, false, (PDecoder.cells o0)⟩]
def r_Kz (_p1 : Val) (_p2 : BA) (_o0 : PDecoder) (q0 : List Probe) (q1 : PDecoder) : Rs := .ret (.sl (Probe.rows q0)) [⟨1, 0, false, (PDecoder.cells q1)⟩]
def a_Kz (p1 : Val) (p2 : BA) (o0 : PDecoder) : Rs := r_Kz p1 p2 o0 (s_Kz p1 p2 o0).1 (s_Kz p1 p2 o0).2
def H_Kz (p1 : Val) : Prop := Val.Sm 1000000000 p1
theorem Q1dr (p1 : Val) (p2 : BA) (o0 : PDecoder) (H : H_Kz p1) : (H_Kd p1) ∧ (Qjy p1 p2 o0) ∧ True := by
  have hl := Qem (Q3j H p2)
  refine ⟨H, ?_, trivial⟩
  unfold Qjy s_Kd
  simp only [Q9o]
  exact ⟨Nat.le_trans hl.1 (Nat.le_of_ble_eq_true rfl), hl.2, trivial⟩
theorem t_Kz (p1 : Val) (p2 : BA) (o0 : PDecoder) (H : H_Kz p1) : Qd G (c_Kz p1 p2 o0) (a_Kz p1 p2 o0) := by
 unfold a_Kz
 rw [e_Kz]
 have hl0 := Q16n p1 p2 o0 ((Q1dr p1 p2 o0 H).2.1) (s_Kd p1 p2 4 o0).1.list 0 (s_Kd p1 p2 4 o0).2.failed [] (by simp) (by simp)
 obtain ⟨z0, zo0, hl0⟩ := hl0
 exact Qj (fn := Ir.Kz) rfl (h := [⟨1, 0, false, (PDecoder.cells o0)⟩]) (vw := []) VOK.nil [hP 8 (Q1g (Val.rows (s_Kd p1 p2 4 o0).1.list) (List.length (s_Kd p1 p2 4 o0).1.list) (Val.Qa (s_Kd p1 p2 4 o0).1.list)), hS 0 true (Probe.Qk (Q75 p1 p2 o0 (s_Kd p1 p2 4 o0).1.list 0 (s_Kd p1 p2 4 o0).2.failed []).2 4 rfl), hQ (Probe.Qa (Q75 p1 p2 o0 (s_Kd p1 p2 4 o0).1.list 0 (s_Kd p1 p2 4 o0).2.failed []).2).symm] [aN (t_Kd p1 p2 4 o0 (Q1dr p1 p2 o0 H).1), aV [(1, Probe.rows (Q75 p1 p2 o0 (s_Kd p1 p2 4 o0).1.list 0 (s_Kd p1 p2 4 o0).2.failed []).2)] hl0] (by kernel_rfl)
def s_Kb (p1 : Val) (o0 : PDecoder) : Container × PDecoder := ((Container.dec p1).1, ft o0 (Container.dec p1).2)
theorem e_Kb (p1 : Val) (o0 : PDecoder) : s_Kb p1 o0 = (((Container.mk (s_Kn p1 Q17 (s_Ko p1 o0).2).1 (s_Kn p1 Q1f (s_Kn p1 Q17 (s_Ko p1 o0).2).2).1 (s_Kk (s_Kp p1 Qx (s_Kn p1 Q1f (s_Kn p1 Q17 (s_Ko p1 o0).2).2).2).1 (s_Kp p1 Qx (s_Kn p1 Q1f (s_Kn p1 Q17 (s_Ko p1 o0).2).2).2).2).1 (s_Kk (s_Kp p1 Q28 (s_Kk (s_Kp p1 Qx (s_Kn p1 Q1f (s_Kn p1 Q17 (s_Ko p1 o0).2).2).2).1 (s_Kp p1 Qx (s_Kn p1 Q1f (s_Kn p1 Q17 (s_Ko p1 o0).2).2).2).2).2).1 (s_Kp p1 Q28 (s_Kk (s_Kp p1 Qx (s_Kn p1 Q1f (s_Kn p1 Q17 (s_Ko p1 o0).2).2).2).1 (s_Kp p1 Qx (s_Kn p1 Q1f (s_Kn p1 Q17 (s_Ko p1 o0).2).2).2).2).2).2).1 (s_Kz p1 Q3e (s_Kk (s_Kp p1 Q28 (s_Kk (s_Kp p1 Qx (s_Kn p1 Q1f (s_Kn p1 Q17 (s_Ko p1 o0).2).2).2).1 (s_Kp p1 Qx (s_Kn p1 Q1f (s_Kn p1 Q17 (s_Ko p1 o0).2).2).2).2).2).1 (s_Kp p1 Q28 (s_Kk (s_Kp p1 Qx (s_Kn p1 Q1f (s_Kn p1 Q17 (s_Ko p1 o0).2).2).2).1 (s_Kp p1 Qx (s_Kn p1 Q1f (s_Kn p1 Q17 (s_Ko p1 o0).2).2).2).2).2).2).2).1 (s_Kz p1 Q1w (s_Kz p1 Q3e (s_Kk (s_Kp p1 Q28 (s_Kk (s_Kp p1 Qx (s_Kn p1 Q1f (s_Kn p1 Q17 (s_Ko p1 o0).2).2).2).1 (s_Kp p1 Qx (s_Kn p1 Q1f (s_Kn p1 Q17 (s_Ko p1 o0).2).2).2).2).2).1 (s_Kp p1 Q28 (s_Kk (s_Kp p1 Qx (s_Kn p1 Q1f (s_Kn p1 Q17 (s_Ko p1 o0).2).2).2).1 (s_Kp p1 Qx (s_Kn p1 Q1f (s_Kn p1 Q17 (s_Ko p1 o0).2).2).2).2).2).2).2).2).1 (s_Kz p1 Q2k (s_Kz p1 Q1w (s_Kz p1 Q3e (s_Kk (s_Kp p1 Q28 (s_Kk (s_Kp p1 Qx (s_Kn p1 Q1f (s_Kn p1 Q17 (s_Ko p1 o0).2).2).2).1 (s_Kp p1 Qx (s_Kn p1 Q1f (s_Kn p1 Q17 (s_Ko p1 o0).2).2).2).2).2).1 (s_Kp p1 Q28 (s_Kk (s_Kp p1 Qx (s_Kn p1 Q1f (s_Kn p1 Q17 (s_Ko p1 o0).2).2).2).1 (s_Kp p1 Qx (s_Kn p1 Q1f (s_Kn p1 Q17 (s_Ko p1 o0).2).2).2).2).2).2).2).2).2).1), (s_Kz p1 Q2k (s_Kz p1 Q1w (s_Kz p1 Q3e (s_Kk (s_Kp p1 Q28 (s_Kk (s_Kp p1 Qx (s_Kn p1 Q1f (s_Kn p1 Q17 (s_Ko p1 o0).2).2).2).1 (s_Kp p1 Qx (s_Kn p1 Q1f (s_Kn p1 Q17 (s_Ko p1 o0).2).2).2).2).2).1 (s_Kp p1 Q28 (s_Kk (s_Kp p1 Qx (s_Kn p1 Q1f (s_Kn p1 Q17 (s_Ko p1 o0).2).2).2).1 (s_Kp p1 Qx (s_Kn p1 Q1f (s_Kn p1 Q17 (s_Ko p1 o0).2).2).2).2).2).2).2).2).2).2)) := by
  simp only [s_Ko, s_Kn, s_Kp, s_Kk, s_Kz, s_Kb, Container.dec, Resources.sub1, Resources.sub2, Qng, Bool.and_assoc, Bool.and_left_comm, Bool.and_comm, Bool.and_self_left]
def c_Kb (p1 : Val) (o0 : PDecoder) : En := .call 242 [.bx 0 0, .agg (Val.cells p1)] [⟨1, 0, false, (PDecoder.cells o0)⟩]
def r_Kb (_p1 : Val) (_o0 : PDecoder) (q0 : Container) (q1 : PDecoder) : Rs := .ret (.agg (Container.cells q0)) [⟨1, 0, false, (PDecoder.cells q1)⟩]
def a_Kb (p1 : Val) (o0 : PDecoder) : Rs := r_Kb p1 o0 (s_Kb p1 o0).1 (s_Kb p1 o0).2
def H_Kb (p1 : Val) : Prop := Val.Sm 1000000000 p1
theorem Q9h (p1 : Val) (o0 : PDecoder) (H : H_Kb p1) : (H_Kn p1) ∧ (H_Kp p1) ∧ (H_Kk (s_Kp p1 Qx (s_Kn p1 Q1f (s_Kn p1 Q17 (s_Ko p1 o0).2).2).2).1) ∧ (H_Kk (s_Kp p1 Q28 (s_Kk (s_Kp p1 Qx (s_Kn p1 Q1f (s_Kn p1 Q17 (s_Ko p1 o0).2).2).2).1 (s_Kp p1 Qx (s_Kn p1 Q1f (s_Kn p1 Q17 (s_Ko p1 o0).2).2).2).2).2).1) ∧ (H_Kz p1) ∧ True := by
  repeat' with_reducible apply And.intro
  all_goals first | exact True.intro | exact H | exact Qo5 (Q3j H _)
theorem t_Kb (p1 : Val) (o0 : PDecoder) (H : H_Kb p1) : Qd G (c_Kb p1 o0) (a_Kb p1 o0) := by
 unfold a_Kb
 rw [e_Kb]
 exact Qj (fn := Ir.Kb) rfl (h := [⟨1, 0, false, (PDecoder.cells o0)⟩]) (vw := []) VOK.nil [] [aN (t_Ko p1 o0), aN (t_Kn p1 Q17 (s_Ko p1 o0).2 (Q9h p1 o0 H).1), aN (t_Kn p1 Q1f (s_Kn p1 Q17 (s_Ko p1 o0).2).2 (Q9h p1 o0 H).1), aN (t_Kp p1 Qx (s_Kn p1 Q1f (s_Kn p1 Q17 (s_Ko p1 o0).2).2).2 (Q9h p1 o0 H).2.1), aN (t_Kk (s_Kp p1 Qx (s_Kn p1 Q1f (s_Kn p1 Q17 (s_Ko p1 o0).2).2).2).1 (s_Kp p1 Qx (s_Kn p1 Q1f (s_Kn p1 Q17 (s_Ko p1 o0).2).2).2).2 (Q9h p1 o0 H).2.2.1), aN (t_Kp p1 Q28 (s_Kk (s_Kp p1 Qx (s_Kn p1 Q1f (s_Kn p1 Q17 (s_Ko p1 o0).2).2).2).1 (s_Kp p1 Qx (s_Kn p1 Q1f (s_Kn p1 Q17 (s_Ko p1 o0).2).2).2).2).2 (Q9h p1 o0 H).2.1), aN (t_Kk (s_Kp p1 Q28 (s_Kk (s_Kp p1 Qx (s_Kn p1 Q1f (s_Kn p1 Q17 (s_Ko p1 o0).2).2).2).1 (s_Kp p1 Qx (s_Kn p1 Q1f (s_Kn p1 Q17 (s_Ko p1 o0).2).2).2).2).2).1 (s_Kp p1 Q28 (s_Kk (s_Kp p1 Qx (s_Kn p1 Q1f (s_Kn p1 Q17 (s_Ko p1 o0).2).2).2).1 (s_Kp p1 Qx (s_Kn p1 Q1f (s_Kn p1 Q17 (s_Ko p1 o0).2).2).2).2).2).2 (Q9h p1 o0 H).2.2.2.1), aN (t_Kz p1 Q3e (s_Kk (s_Kp p1 Q28 (s_Kk (s_Kp p1 Qx (s_Kn p1 Q1f (s_Kn p1 Q17 (s_Ko p1 o0).2).2).2).1 (s_Kp p1 Qx (s_Kn p1 Q1f (s_Kn p1 Q17 (s_Ko p1 o0).2).2).2).2).2).1 (s_Kp p1 Q28 (s_Kk (s_Kp p1 Qx (s_Kn p1 Q1f (s_Kn p1 Q17 (s_Ko p1 o0).2).2).2).1 (s_Kp p1 Qx (s_Kn p1 Q1f (s_Kn p1 Q17 (s_Ko p1 o0).2).2).2).2).2).2).2 (Q9h p1 o0 H).2.2.2.2.1), aN (t_Kz p1 Q1w (s_Kz p1 Q3e (s_Kk (s_Kp p1 Q28 (s_Kk (s_Kp p1 Qx (s_Kn p1 Q1f (s_Kn p1 Q17 (s_Ko p1 o0).2).2).2).1 (s_Kp p1 Qx (s_Kn p1 Q1f (s_Kn p1 Q17 (s_Ko p1 o0).2).2).2).2).2).1 (s_Kp p1 Q28 (s_Kk (s_Kp p1 Qx (s_Kn p1 Q1f (s_Kn p1 Q17 (s_Ko p1 o0).2).2).2).1 (s_Kp p1 Qx (s_Kn p1 Q1f (s_Kn p1 Q17 (s_Ko p1 o0).2).2).2).2).2).2).2).2 (Q9h p1 o0 H).2.2.2.2.1), aN (t_Kz p1 Q2k (s_Kz p1 Q1w (s_Kz p1 Q3e (s_Kk (s_Kp p1 Q28 (s_Kk (s_Kp p1 Qx (s_Kn p1 Q1f (s_Kn p1 Q17 (s_Ko p1 o0).2).2).2).1 (s_Kp p1 Qx (s_Kn p1 Q1f (s_Kn p1 Q17 (s_Ko p1 o0).2).2).2).2).2).1 (s_Kp p1 Q28 (s_Kk (s_Kp p1 Qx (s_Kn p1 Q1f (s_Kn p1 Q17 (s_Ko p1 o0).2).2).2).1 (s_Kp p1 Qx (s_Kn p1 Q1f (s_Kn p1 Q17 (s_Ko p1 o0).2).2).2).2).2).2).2).2).2 (Q9h p1 o0 H).2.2.2.2.1)] (by kernel_rfl)
def Q6z (p1 : Val) (p2 : BA) (o0 : PDecoder) : List Val → Nat → Bool → (List Container) → Bool × (List Container)
 | [], _i0, v0_1, v0_2 =>
  (v0_1, v0_2)
 | x0 :: r0, i0, v0_1, v0_2 =>
  Q6z p1 p2 o0 r0 (i0 + 1) (s_Kb x0 (PDecoder.mk v0_1)).2.failed (v0_2 ++ [(s_Kb x0 (PDecoder.mk v0_1)).1])
def Q13t (p1 : Val) (p2 : BA) (o0 : PDecoder) (i0 : Nat) (_v0_1 : Bool) (v0_2 : List Container) : List PV :=
  [.un, .un, .un, .fn 242 [.bx 0 0] []] ++ nuns 5 ++ [.ms 1 11 0 (List.length v0_2)] ++ nuns 6 ++ [.sl (Val.rows (s_Kd p1 p2 4 o0).1.list), .int .i64 ((List.length (s_Kd p1 p2 4 o0).1.list) : Int), .int .i64 (i0 : Int)] ++ nuns 11
def Qtj (_p1 : Val) (_p2 : BA) (_o0 : PDecoder) (_i0 : Nat) (v0_1 : Bool) (v0_2 : List Container) : List Ob :=
  [⟨1, 0, false, [.bool v0_1]⟩, ⟨11, 0, true, (Container.rows v0_2).flatten⟩]
def Qtb (p1 : Val) (p2 : BA) (o0 : PDecoder) (i0 : Nat) (v0_1 : Bool) (v0_2 : List Container) : En := .loop 1 Ir.Qos Ir.Q1qg (Q13t p1 p2 o0 i0 v0_1 v0_2) (Qtj p1 p2 o0 i0 v0_1 v0_2)
def Qz4 (_p1 : Val) (_p2 : BA) (_o0 : PDecoder) (q0 : Bool) (q1 : List Container) (z : Nat → PV) (_zo : Nat → List PV) : St :=
  ⟨zr z 0 9 ++ [.ms 1 11 0 (List.length q1)] ++ zr z 10 20, [(0, ⟨1, 0, false, [.bool q0]⟩), (1, ⟨11, 0, true, (Container.rows q1).flatten⟩)], 66⟩
theorem Q1cq (p1 : Val) (p2 : BA) (o0 : PDecoder) (i0 : Nat) (v0_1 : Bool) (v0_2 : List Container) : VOK (Go.Pv.look (number 0 (Qtj p1 p2 o0 i0 v0_1 v0_2))) [(1, Container.rows v0_2)] := (VOK.cons (show Seen _ _ from Q3r (ob := ⟨11, 0, true, (Container.rows v0_2).flatten⟩) (Container.Qk v0_2 11 rfl)) VOK.nil)
def Qv8 (p1 : Val) (p2 : BA) (o0 : PDecoder) (e : En) (q : Bool × (List Container)) : Prop := ∃ z zo, Qd G e (.st (.exit 0) (Qz4 p1 p2 o0 q.1 q.2 z zo))
theorem Qyu (p1 : Val) (p2 : BA) (o0 : PDecoder) {e e' : En} (h : ∀ r, Qd G e r → Qd G e' r) : ∀ q, Qv8 p1 p2 o0 e q → Qv8 p1 p2 o0 e' q
  | _, ⟨z, zo, hz⟩ => ⟨z, zo, h _ hz⟩
def Qjs (p1 : Val) (p2 : BA) (o0 : PDecoder) : Prop := (List.length (s_Kd p1 p2 4 o0).1.list ≤ 137438953472) ∧ (∀ x0 ∈ (s_Kd p1 p2 4 o0).1.list, H_Kb x0) ∧ True
def Qze (p1 : Val) (p2 : BA) (o0 : PDecoder) (i0 : Nat) (_v0_1 : Bool) (_v0_2 : List Container) : List PV :=
  [.un, .un, .un, .fn 242 [.bx 0 0] []] ++ nuns 12 ++ [.sl (Val.rows (s_Kd p1 p2 4 o0).1.list), .int .i64 ((List.length (s_Kd p1 p2 4 o0).1.list) : Int), .int .i64 (i0 : Int), .bool false]
def Qqi (_p1 : Val) (_p2 : BA) (_o0 : PDecoder) (_i0 : Nat) (_v0_1 : Bool) (_v0_2 : List Container) : List (Nat × List PV) :=
  []
theorem Q1g6 (p1 : Val) (p2 : BA) (o0 : PDecoder) (_H : Qjs p1 p2 o0) (i0 : Nat) (v0_1 : Bool) (v0_2 : List Container) (_ho0_0 : List.length v0_2 ≤ i0) (hc0 : (decide ((i0 : Int) < ((List.length (s_Kd p1 p2 4 o0).1.list) : Int))) = false) : Qv8 p1 p2 o0 (Qtb p1 p2 o0 i0 v0_1 v0_2) (v0_1, v0_2) := by
 exact ⟨(envF (Qze p1 p2 o0 i0 v0_1 v0_2)), (zoF (Qqi p1 p2 o0 i0 v0_1 v0_2)), Qv (Q1cq p1 p2 o0 i0 v0_1 v0_2) (x := ((.exit 0), Qz4 p1 p2 o0 v0_1 v0_2 (envF (Qze p1 p2 o0 i0 v0_1 v0_2)) (zoF (Qqi p1 p2 o0 i0 v0_1 v0_2)))) [hB 0 hc0] [] (by kernel_rfl)⟩
theorem Q1ed (p1 : Val) (p2 : BA) (o0 : PDecoder) (H : Qjs p1 p2 o0) (x0 : Val) (i0 : Nat) (v0_1 : Bool) (v0_2 : List Container) (hx0 : (s_Kd p1 p2 4 o0).1.list[i0]? = some x0) (hi0 : i0 < List.length (s_Kd p1 p2 4 o0).1.list) (ho0_0 : List.length v0_2 ≤ i0) (hc0 : (decide ((i0 : Int) < ((List.length (s_Kd p1 p2 4 o0).1.list) : Int))) = true) {r : Rs} (hr : Qd G (Qtb p1 p2 o0 (i0 + 1) (s_Kb x0 (PDecoder.mk v0_1)).2.failed (v0_2 ++ [(s_Kb x0 (PDecoder.mk v0_1)).1])) r) : Qd G (Qtb p1 p2 o0 i0 v0_1 v0_2) r := by
 have hB0 := H.1
 exact Qu (Q1cq p1 p2 o0 i0 v0_1 v0_2) (y := (Q13t p1 p2 o0 (i0 + 1) (s_Kb x0 (PDecoder.mk v0_1)).2.failed (v0_2 ++ [(s_Kb x0 (PDecoder.mk v0_1)).1]), Qtj p1 p2 o0 (i0 + 1) (s_Kb x0 (PDecoder.mk v0_1)).2.failed (v0_2 ++ [(s_Kb x0 (PDecoder.mk v0_1)).1]))) [hB 0 hc0, hP 0 (Q35 5 (Val.rows (s_Kd p1 p2 4 o0).1.list) i0 _ (Val.Qz hx0) rfl), hV 8 [(642, Container.rows (v0_2 ++ [(s_Kb x0 (PDecoder.mk v0_1)).1]))] (Q4a 1 578 642 11 152 0 0 true (Container.rows v0_2) (Container.rows (v0_2 ++ [(s_Kb x0 (PDecoder.mk v0_1)).1])) (Container.cells (s_Kb x0 (PDecoder.mk v0_1)).1) (List.length v0_2) (List.length (v0_2 ++ [(s_Kb x0 (PDecoder.mk v0_1)).1])) rfl (Container.Qa v0_2).symm (Container.Qa (v0_2 ++ [(s_Kb x0 (PDecoder.mk v0_1)).1])).symm (Container.Q23 v0_2 (s_Kb x0 (PDecoder.mk v0_1)).1) (Container.Q12 v0_2) rfl (by omega)), hS 0 true (Container.Qk (v0_2 ++ [(s_Kb x0 (PDecoder.mk v0_1)).1]) 11 rfl), hP 1 (Q2s i0 (by omega))] [aN (t_Kb x0 (PDecoder.mk v0_1) (H.2.1 x0 (Q2z hx0)))] (by kernel_rfl) hr
theorem Q16h (p1 : Val) (p2 : BA) (o0 : PDecoder) (H : Qjs p1 p2 o0) : ∀ (r0 : List Val) (i0 : Nat) (v0_1 : Bool) (v0_2 : List Container), List.drop i0 (s_Kd p1 p2 4 o0).1.list = r0 → List.length v0_2 ≤ i0 → Qv8 p1 p2 o0 (Qtb p1 p2 o0 i0 v0_1 v0_2) (Q6z p1 p2 o0 r0 i0 v0_1 v0_2)
 | [], i0, v0_1, v0_2, hd, ho0_0 => by
  have hc0 : (decide ((i0 : Int) < ((List.length (s_Kd p1 p2 4 o0).1.list) : Int))) = false := by have := Q1y hd; simp; omega
  rw [Q6z]
  exact Q1g6 p1 p2 o0 H i0 v0_1 v0_2 ho0_0 hc0
 | x0 :: r0, i0, v0_1, v0_2, hd, ho0_0 => by
  obtain ⟨hx0, hi0, hd'⟩ := Q1v hd
  have hc0 : (decide ((i0 : Int) < ((List.length (s_Kd p1 p2 4 o0).1.list) : Int))) = true := by simp; omega
  rw [Q6z]
  exact Qyu p1 p2 o0 (fun r hr => Q1ed p1 p2 o0 H x0 i0 v0_1 v0_2 hx0 hi0 ho0_0 hc0 hr) _ (Q16h p1 p2 o0 H r0 (i0 + 1) (s_Kb x0 (PDecoder.mk v0_1)).2.failed (v0_2 ++ [(s_Kb x0 (PDecoder.mk v0_1)).1]) hd' (by first | omega | (simp; omega)))
def s_Kt (p1 : Val) (p2 : BA) (o0 : PDecoder) : List Container × PDecoder := ((dE Container.dec p1 p2).1, ft o0 (isM p1 && (dE Container.dec p1 p2).2))
theorem Q1f5 (p1 : Val) (p2 : BA) (o0 : PDecoder) : ∀ (l : List Val) (i : Nat) (b : Bool) (a : List Container), Q6z p1 p2 o0 l i b a = (b || !(l.all fun x => (Container.dec x).2), a ++ l.map (fun x => (Container.dec x).1))
  | [], _, b, a => by rw [Q6z]; simp
  | x :: l, i, b, a => by
    rw [Q6z]
    refine (Q1f5 p1 p2 o0 l (i + 1) (b || !(Container.dec x).2) (a ++ [(Container.dec x).1])).trans ?_
    simp only [List.append_assoc, List.singleton_append, List.map_cons, List.all_cons, Bool.not_and, Bool.or_assoc]
theorem e_Kt (p1 : Val) (p2 : BA) (o0 : PDecoder) : s_Kt p1 p2 o0 = (((Q6z p1 p2 o0 (s_Kd p1 p2 4 o0).1.list 0 (s_Kd p1 p2 4 o0).2.failed []).2, (PDecoder.mk (Q6z p1 p2 o0 (s_Kd p1 p2 4 o0).1.list 0 (s_Kd p1 p2 4 o0).2.failed []).1))) := by
  rw [Q1f5]
  unfold s_Kd s_Kt
  simp only [Q9o, Q57]
  refine Prod.ext rfl ?_
  rw [Q9c o0.failed (isM p1) _ _ _ (Qwx (prt p1 p2)), Q66]
  rfl
def c_Kt (p1 : Val) (p2 : BA) (o0 : PDecoder) : En := .call 241 [.bx 0 0, .agg (Val.cells p1), .str p2, .fn 242 [.bx 0 0] []] [⟨1, 0, false, (PDecoder.cells o0)⟩]
def r_Kt (_p1 : Val) (_p2 : BA) (_o0 : PDecoder) (q0 : List Container) (q1 : PDecoder) : Rs := .ret (.sl (Container.rows q0)) [⟨1, 0, false, (PDecoder.cells q1)⟩]
def a_Kt (p1 : Val) (p2 : BA) (o0 : PDecoder) : Rs := r_Kt p1 p2 o0 (s_Kt p1 p2 o0).1 (s_Kt p1 p2 o0).2
def H_Kt (p1 : Val) : Prop := Val.Sm 1000000000 p1
theorem Q1dl (p1 : Val) (p2 : BA) (o0 : PDecoder) (H : H_Kt p1) : (H_Kd p1) ∧ (Qjs p1 p2 o0) ∧ True := by
  have hl := Qem (Q3j H p2)
  refine ⟨H, ?_, trivial⟩
  unfold Qjs s_Kd
  simp only [Q9o]
  exact ⟨Nat.le_trans hl.1 (Nat.le_of_ble_eq_true rfl), hl.2, trivial⟩
theorem t_Kt (p1 : Val) (p2 : BA) (o0 : PDecoder) (H : H_Kt p1) : Qd G (c_Kt p1 p2 o0) (a_Kt p1 p2 o0) := by
 unfold a_Kt
 rw [e_Kt]
 have hl0 := Q16h p1 p2 o0 ((Q1dl p1 p2 o0 H).2.1) (s_Kd p1 p2 4 o0).1.list 0 (s_Kd p1 p2 4 o0).2.failed [] (by simp) (by simp)
 obtain ⟨z0, zo0, hl0⟩ := hl0
 exact Qj (fn := Ir.Kt) rfl (h := [⟨1, 0, false, (PDecoder.cells o0)⟩]) (vw := []) VOK.nil [hP 8 (Q1g (Val.rows (s_Kd p1 p2 4 o0).1.list) (List.length (s_Kd p1 p2 4 o0).1.list) (Val.Qa (s_Kd p1 p2 4 o0).1.list)), hS 0 true (Container.Qk (Q6z p1 p2 o0 (s_Kd p1 p2 4 o0).1.list 0 (s_Kd p1 p2 4 o0).2.failed []).2 11 rfl), hQ (Container.Qa (Q6z p1 p2 o0 (s_Kd p1 p2 4 o0).1.list 0 (s_Kd p1 p2 4 o0).2.failed []).2).symm] [aN (t_Kd p1 p2 4 o0 (Q1dl p1 p2 o0 H).1), aV [(1, Container.rows (Q6z p1 p2 o0 (s_Kd p1 p2 4 o0).1.list 0 (s_Kd p1 p2 4 o0).2.failed []).2)] hl0] (by kernel_rfl)
def s_Kq (p1 : Val) (o0 : PDecoder) : ByteArray × PDecoder := ((xS p1).1, ft o0 (xS p1).2)
theorem e_Kq (p1 : Val) (o0 : PDecoder) : s_Kq p1 o0 = (bif o0.failed then
    bif (p1.kind == 3) then
      (p1.s, (PDecoder.mk true))
    else
      (eB, (PDecoder.mk true))
  else
    bif (p1.kind == 3) then
      (p1.s, (PDecoder.mk false))
    else
      (eB, (PDecoder.mk (!(p1.kind == 0))))) := by
  obtain ⟨b⟩ := o0
  unfold s_Kq ft xS
  cases b <;> cases (p1.kind == 3) <;> cases (p1.kind == 0) <;> rfl
def c_Kq (p1 : Val) (o0 : PDecoder) : En := .call 279 [.bx 0 0, .agg (Val.cells p1)] [⟨1, 0, false, (PDecoder.cells o0)⟩]
def r_Kq (_p1 : Val) (_o0 : PDecoder) (q0 : BA) (q1 : PDecoder) : Rs := .ret (.str q0) [⟨1, 0, false, (PDecoder.cells q1)⟩]
def a_Kq (p1 : Val) (o0 : PDecoder) : Rs := r_Kq p1 o0 (s_Kq p1 o0).1 (s_Kq p1 o0).2
theorem t_Kq (p1 : Val) (o0 : PDecoder) : Qd G (c_Kq p1 o0) (a_Kq p1 o0) := by
 unfold a_Kq
 rw [e_Kq]
 cases h0 : o0.failed with
 | true =>
  cases h1 : (p1.kind == 3) with
  | true =>
   exact Qj (fn := Ir.Kq) rfl (h := [⟨1, 0, false, (PDecoder.cells o0)⟩]) (vw := []) VOK.nil [hP 6 (decR o0.failed true [0] h0), hP 15 (dec (!(p1.kind == 3)) false (by rw [h1]; rfl))] [] (by kernel_rfl)
  | false =>
   exact Qj (fn := Ir.Kq) rfl (h := [⟨1, 0, false, (PDecoder.cells o0)⟩]) (vw := []) VOK.nil [hP 6 (decR o0.failed true [0] h0), hP 15 (dec (!(p1.kind == 3)) true (by rw [h1]; rfl))] [] (by kernel_rfl)
 | false =>
  cases h1 : (p1.kind == 3) with
  | true =>
   exact Qj (fn := Ir.Kq) rfl (h := [⟨1, 0, false, (PDecoder.cells o0)⟩]) (vw := []) VOK.nil [hP 6 (decR o0.failed false [0] h0), hP 3 (dec (!(p1.kind == 3)) false (by rw [h1]; rfl)), hP 11 (dec (!(p1.kind == 3)) false (by rw [h1]; rfl))] [] (by kernel_rfl)
  | false =>
   exact Qj (fn := Ir.Kq) rfl (h := [⟨1, 0, false, (PDecoder.cells o0)⟩]) (vw := []) VOK.nil [hP 6 (decR o0.failed false [0] h0), hP 3 (dec (!(p1.kind == 3)) true (by rw [h1]; rfl)), hP 11 (dec (!(p1.kind == 3)) true (by rw [h1]; rfl))] [] (by kernel_rfl)
def Q5e (p1 : Val) (p2 : BA) (o0 : PDecoder) : List Val → Nat → Bool → (List ByteArray) → Bool × (List ByteArray)
 | [], _i0, v0_1, v0_2 =>
  (v0_1, v0_2)
 | x0 :: r0, i0, v0_1, v0_2 =>
  Q5e p1 p2 o0 r0 (i0 + 1) (s_Kq x0 (PDecoder.mk v0_1)).2.failed (v0_2 ++ [(s_Kq x0 (PDecoder.mk v0_1)).1])
def Qx1 (p1 : Val) (p2 : BA) (o0 : PDecoder) (i0 : Nat) (_v0_1 : Bool) (v0_2 : List ByteArray) : List PV :=
  [.un, .un, .un, .fn 279 [.bx 0 0] []] ++ nuns 5 ++ [.ms 1 1 0 (List.length v0_2)] ++ nuns 6 ++ [.sl (Val.rows (s_Kd p1 p2 4 o0).1.list), .int .i64 ((List.length (s_Kd p1 p2 4 o0).1.list) : Int), .int .i64 (i0 : Int)] ++ nuns 11
def Qio (_p1 : Val) (_p2 : BA) (_o0 : PDecoder) (_i0 : Nat) (v0_1 : Bool) (v0_2 : List ByteArray) : List Ob :=
  [⟨1, 0, false, [.bool v0_1]⟩, ⟨1, 0, true, (Q10 v0_2).flatten⟩]
def Qfb (p1 : Val) (p2 : BA) (o0 : PDecoder) (i0 : Nat) (v0_1 : Bool) (v0_2 : List ByteArray) : En := .loop 1 Ir.Qjz Ir.Q1j6 (Qx1 p1 p2 o0 i0 v0_1 v0_2) (Qio p1 p2 o0 i0 v0_1 v0_2)
def Qp5 (_p1 : Val) (_p2 : BA) (_o0 : PDecoder) (q0 : Bool) (q1 : List ByteArray) (z : Nat → PV) (_zo : Nat → List PV) : St :=
  ⟨zr z 0 9 ++ [.ms 1 1 0 (List.length q1)] ++ zr z 10 20, [(0, ⟨1, 0, false, [.bool q0]⟩), (1, ⟨1, 0, true, (Q10 q1).flatten⟩)], 66⟩
theorem Q144 (p1 : Val) (p2 : BA) (o0 : PDecoder) (i0 : Nat) (v0_1 : Bool) (v0_2 : List ByteArray) : VOK (Go.Pv.look (number 0 (Qio p1 p2 o0 i0 v0_1 v0_2))) [(1, Q10 v0_2)] := (VOK.cons (show Seen _ _ from Q3r (ob := ⟨1, 0, true, (Q10 v0_2).flatten⟩) (Q4n v0_2 1 rfl)) VOK.nil)
def Qha (p1 : Val) (p2 : BA) (o0 : PDecoder) (e : En) (q : Bool × (List ByteArray)) : Prop := ∃ z zo, Qd G e (.st (.exit 0) (Qp5 p1 p2 o0 q.1 q.2 z zo))
theorem Qtx (p1 : Val) (p2 : BA) (o0 : PDecoder) {e e' : En} (h : ∀ r, Qd G e r → Qd G e' r) : ∀ q, Qha p1 p2 o0 e q → Qha p1 p2 o0 e' q
  | _, ⟨z, zo, hz⟩ => ⟨z, zo, h _ hz⟩
def Qce (p1 : Val) (p2 : BA) (o0 : PDecoder) : Prop := (List.length (s_Kd p1 p2 4 o0).1.list ≤ 137438953472) ∧ True
def Qqp (p1 : Val) (p2 : BA) (o0 : PDecoder) (i0 : Nat) (_v0_1 : Bool) (_v0_2 : List ByteArray) : List PV :=
  [.un, .un, .un, .fn 279 [.bx 0 0] []] ++ nuns 12 ++ [.sl (Val.rows (s_Kd p1 p2 4 o0).1.list), .int .i64 ((List.length (s_Kd p1 p2 4 o0).1.list) : Int), .int .i64 (i0 : Int), .bool false]
def Qln (_p1 : Val) (_p2 : BA) (_o0 : PDecoder) (_i0 : Nat) (_v0_1 : Bool) (_v0_2 : List ByteArray) : List (Nat × List PV) :=
  []
theorem Q1az (p1 : Val) (p2 : BA) (o0 : PDecoder) (_H : Qce p1 p2 o0) (i0 : Nat) (v0_1 : Bool) (v0_2 : List ByteArray) (_ho0_0 : List.length v0_2 ≤ i0) (hc0 : (decide ((i0 : Int) < ((List.length (s_Kd p1 p2 4 o0).1.list) : Int))) = false) : Qha p1 p2 o0 (Qfb p1 p2 o0 i0 v0_1 v0_2) (v0_1, v0_2) := by
 exact ⟨(envF (Qqp p1 p2 o0 i0 v0_1 v0_2)), (zoF (Qln p1 p2 o0 i0 v0_1 v0_2)), Qv (Q144 p1 p2 o0 i0 v0_1 v0_2) (x := ((.exit 0), Qp5 p1 p2 o0 v0_1 v0_2 (envF (Qqp p1 p2 o0 i0 v0_1 v0_2)) (zoF (Qln p1 p2 o0 i0 v0_1 v0_2)))) [hB 0 hc0] [] (by kernel_rfl)⟩
theorem Q18o (p1 : Val) (p2 : BA) (o0 : PDecoder) (H : Qce p1 p2 o0) (x0 : Val) (i0 : Nat) (v0_1 : Bool) (v0_2 : List ByteArray) (hx0 : (s_Kd p1 p2 4 o0).1.list[i0]? = some x0) (hi0 : i0 < List.length (s_Kd p1 p2 4 o0).1.list) (ho0_0 : List.length v0_2 ≤ i0) (hc0 : (decide ((i0 : Int) < ((List.length (s_Kd p1 p2 4 o0).1.list) : Int))) = true) {r : Rs} (hr : Qd G (Qfb p1 p2 o0 (i0 + 1) (s_Kq x0 (PDecoder.mk v0_1)).2.failed (v0_2 ++ [(s_Kq x0 (PDecoder.mk v0_1)).1])) r) : Qd G (Qfb p1 p2 o0 i0 v0_1 v0_2) r := by
 have hB0 := H.1
 exact Qu (Q144 p1 p2 o0 i0 v0_1 v0_2) (y := (Qx1 p1 p2 o0 (i0 + 1) (s_Kq x0 (PDecoder.mk v0_1)).2.failed (v0_2 ++ [(s_Kq x0 (PDecoder.mk v0_1)).1]), Qio p1 p2 o0 (i0 + 1) (s_Kq x0 (PDecoder.mk v0_1)).2.failed (v0_2 ++ [(s_Kq x0 (PDecoder.mk v0_1)).1]))) [hB 0 hc0, hP 0 (Q35 5 (Val.rows (s_Kd p1 p2 4 o0).1.list) i0 _ (Val.Qz hx0) rfl), hV 8 [(642, Q10 (v0_2 ++ [(s_Kq x0 (PDecoder.mk v0_1)).1]))] (Q4a 1 578 642 1 16 0 0 true (Q10 v0_2) (Q10 (v0_2 ++ [(s_Kq x0 (PDecoder.mk v0_1)).1])) [.str (s_Kq x0 (PDecoder.mk v0_1)).1] (List.length v0_2) (List.length (v0_2 ++ [(s_Kq x0 (PDecoder.mk v0_1)).1])) rfl (Q30 v0_2).symm (Q30 (v0_2 ++ [(s_Kq x0 (PDecoder.mk v0_1)).1])).symm (Qo6 v0_2 (s_Kq x0 (PDecoder.mk v0_1)).1) (Qc6 v0_2) rfl (by omega)), hS 0 true (Q4n (v0_2 ++ [(s_Kq x0 (PDecoder.mk v0_1)).1]) 1 rfl), hP 1 (Q2s i0 (by omega))] [aN (t_Kq x0 (PDecoder.mk v0_1))] (by kernel_rfl) hr
theorem Q10a (p1 : Val) (p2 : BA) (o0 : PDecoder) (H : Qce p1 p2 o0) : ∀ (r0 : List Val) (i0 : Nat) (v0_1 : Bool) (v0_2 : List ByteArray), List.drop i0 (s_Kd p1 p2 4 o0).1.list = r0 → List.length v0_2 ≤ i0 → Qha p1 p2 o0 (Qfb p1 p2 o0 i0 v0_1 v0_2) (Q5e p1 p2 o0 r0 i0 v0_1 v0_2)
 | [], i0, v0_1, v0_2, hd, ho0_0 => by
  have hc0 : (decide ((i0 : Int) < ((List.length (s_Kd p1 p2 4 o0).1.list) : Int))) = false := by have := Q1y hd; simp; omega
  rw [Q5e]
  exact Q1az p1 p2 o0 H i0 v0_1 v0_2 ho0_0 hc0
 | x0 :: r0, i0, v0_1, v0_2, hd, ho0_0 => by
  obtain ⟨hx0, hi0, hd'⟩ := Q1v hd
  have hc0 : (decide ((i0 : Int) < ((List.length (s_Kd p1 p2 4 o0).1.list) : Int))) = true := by simp; omega
  rw [Q5e]
  exact Qtx p1 p2 o0 (fun r hr => Q18o p1 p2 o0 H x0 i0 v0_1 v0_2 hx0 hi0 ho0_0 hc0 hr) _ (Q10a p1 p2 o0 H r0 (i0 + 1) (s_Kq x0 (PDecoder.mk v0_1)).2.failed (v0_2 ++ [(s_Kq x0 (PDecoder.mk v0_1)).1]) hd' (by first | omega | (simp; omega)))
def Q13g (p1 : Val) (p2 : BA) (o0 : PDecoder) : List ByteArray × PDecoder := ((dE xS p1 p2).1, ft o0 (isM p1 && (dE xS p1 p2).2))
theorem Q176 (p1 : Val) (p2 : BA) (o0 : PDecoder) : ∀ (l : List Val) (i : Nat) (b : Bool) (a : List ByteArray), Q5e p1 p2 o0 l i b a = (b || !(l.all fun x => (xS x).2), a ++ l.map (fun x => (xS x).1))
  | [], _, b, a => by rw [Q5e]; simp
  | x :: l, i, b, a => by
    rw [Q5e]
    refine (Q176 p1 p2 o0 l (i + 1) (b || !(xS x).2) (a ++ [(xS x).1])).trans ?_
    simp only [List.append_assoc, List.singleton_append, List.map_cons, List.all_cons, Bool.not_and, Bool.or_assoc]
theorem Q22a (p1 : Val) (p2 : BA) (o0 : PDecoder) : Q13g p1 p2 o0 = (((Q5e p1 p2 o0 (s_Kd p1 p2 4 o0).1.list 0 (s_Kd p1 p2 4 o0).2.failed []).2, (PDecoder.mk (Q5e p1 p2 o0 (s_Kd p1 p2 4 o0).1.list 0 (s_Kd p1 p2 4 o0).2.failed []).1))) := by
  rw [Q176]
  unfold s_Kd Q13g
  simp only [Q9o, Q57]
  refine Prod.ext rfl ?_
  rw [Q9c o0.failed (isM p1) _ _ _ (Qwx (prt p1 p2)), Q66]
  rfl
def Q1zu (p1 : Val) (p2 : BA) (o0 : PDecoder) : En := .call 278 [.bx 0 0, .agg (Val.cells p1), .str p2, .fn 279 [.bx 0 0] []] [⟨1, 0, false, (PDecoder.cells o0)⟩]
def Q24a (_p1 : Val) (_p2 : BA) (_o0 : PDecoder) (q0 : List ByteArray) (q1 : PDecoder) : Rs := .ret (.sl (Q10 q0)) [⟨1, 0, false, (PDecoder.cells q1)⟩]
def Q1qr (p1 : Val) (p2 : BA) (o0 : PDecoder) : Rs := Q24a p1 p2 o0 (Q13g p1 p2 o0).1 (Q13g p1 p2 o0).2
def Q1kz (p1 : Val) : Prop := Val.Sm 1000000000 p1
theorem Q15d (p1 : Val) (p2 : BA) (o0 : PDecoder) (H : Q1kz p1) : (H_Kd p1) ∧ (Qce p1 p2 o0) ∧ True := by
  have hl := Qem (Q3j H p2)
  refine ⟨H, ?_, trivial⟩
  unfold Qce s_Kd
  simp only [Q9o]
  exact ⟨Nat.le_trans hl.1 (Nat.le_of_ble_eq_true rfl), trivial⟩
theorem Q250 (p1 : Val) (p2 : BA) (o0 : PDecoder) (H : Q1kz p1) : Qd G (Q1zu p1 p2 o0) (Q1qr p1 p2 o0) := by
 unfold Q1qr
 rw [Q22a]
 have hl0 := Q10a p1 p2 o0 ((Q15d p1 p2 o0 H).2.1) (s_Kd p1 p2 4 o0).1.list 0 (s_Kd p1 p2 4 o0).2.failed [] (by simp) (by simp)
 obtain ⟨z0, zo0, hl0⟩ := hl0
 exact Qj (fn := Ir.K10) rfl (h := [⟨1, 0, false, (PDecoder.cells o0)⟩]) (vw := []) VOK.nil [hP 8 (Q1g (Val.rows (s_Kd p1 p2 4 o0).1.list) (List.length (s_Kd p1 p2 4 o0).1.list) (Val.Qa (s_Kd p1 p2 4 o0).1.list)), hS 0 true (Q4n (Q5e p1 p2 o0 (s_Kd p1 p2 4 o0).1.list 0 (s_Kd p1 p2 4 o0).2.failed []).2 1 rfl), hQ (Q30 (Q5e p1 p2 o0 (s_Kd p1 p2 4 o0).1.list 0 (s_Kd p1 p2 4 o0).2.failed []).2).symm] [aN (t_Kd p1 p2 4 o0 (Q15d p1 p2 o0 H).1), aV [(1, Q10 (Q5e p1 p2 o0 (s_Kd p1 p2 4 o0).1.list 0 (s_Kd p1 p2 4 o0).2.failed []).2)] hl0] (by kernel_rfl)
def s_Kj (p1 : Val) (o0 : PDecoder) : Requirement × PDecoder := ((Requirement.dec p1).1, ft o0 (Requirement.dec p1).2)
theorem e_Kj (p1 : Val) (o0 : PDecoder) : s_Kj p1 o0 = (((Requirement.mk (s_Kn p1 Q1m (s_Ko p1 o0).2).1 (s_Kg p1 Q4b (s_Kn p1 Q1m (s_Ko p1 o0).2).2).1 (Q13g p1 Q20 (s_Kg p1 Q4b (s_Kn p1 Q1m (s_Ko p1 o0).2).2).2).1), (Q13g p1 Q20 (s_Kg p1 Q4b (s_Kn p1 Q1m (s_Ko p1 o0).2).2).2).2)) := by
  simp only [s_Ko, s_Kg, s_Kn, Q13g, s_Kj, Requirement.dec, Qng, Bool.and_assoc, Bool.and_left_comm, Bool.and_comm, Bool.and_self_left]
def c_Kj (p1 : Val) (o0 : PDecoder) : En := .call 244 [.bx 0 0, .agg (Val.cells p1)] [⟨1, 0, false, (PDecoder.cells o0)⟩]
def r_Kj (_p1 : Val) (_o0 : PDecoder) (q0 : Requirement) (q1 : PDecoder) : Rs := .ret (.agg (Requirement.cells q0)) [⟨1, 0, false, (PDecoder.cells q1)⟩]
def a_Kj (p1 : Val) (o0 : PDecoder) : Rs := r_Kj p1 o0 (s_Kj p1 o0).1 (s_Kj p1 o0).2
def H_Kj (p1 : Val) : Prop := Val.Sm 1000000000 p1
theorem Q12t (p1 : Val) (_o0 : PDecoder) (H : H_Kj p1) : (H_Kn p1) ∧ (H_Kg p1) ∧ (Q1kz p1) ∧ True := by
  repeat' with_reducible apply And.intro
  all_goals first | exact True.intro | exact H | exact Qo5 (Q3j H _)
theorem t_Kj (p1 : Val) (o0 : PDecoder) (H : H_Kj p1) : Qd G (c_Kj p1 o0) (a_Kj p1 o0) := by
 unfold a_Kj
 rw [e_Kj]
 exact Qj (fn := Ir.Kj) rfl (h := [⟨1, 0, false, (PDecoder.cells o0)⟩]) (vw := []) VOK.nil [] [aN (t_Ko p1 o0), aN (t_Kn p1 Q1m (s_Ko p1 o0).2 (Q12t p1 o0 H).1), aN (t_Kg p1 Q4b (s_Kn p1 Q1m (s_Ko p1 o0).2).2 (Q12t p1 o0 H).2.1), aN (Q250 p1 Q20 (s_Kg p1 Q4b (s_Kn p1 Q1m (s_Ko p1 o0).2).2).2 (Q12t p1 o0 H).2.2.1)] (by kernel_rfl)
def Q70 (p1 : Val) (p2 : BA) (o0 : PDecoder) : List Val → Nat → Bool → (List Requirement) → Bool × (List Requirement)
 | [], _i0, v0_1, v0_2 =>
  (v0_1, v0_2)
 | x0 :: r0, i0, v0_1, v0_2 =>
  Q70 p1 p2 o0 r0 (i0 + 1) (s_Kj x0 (PDecoder.mk v0_1)).2.failed (v0_2 ++ [(s_Kj x0 (PDecoder.mk v0_1)).1])
def Q13u (p1 : Val) (p2 : BA) (o0 : PDecoder) (i0 : Nat) (_v0_1 : Bool) (v0_2 : List Requirement) : List PV :=
  [.un, .un, .un, .fn 244 [.bx 0 0] []] ++ nuns 5 ++ [.ms 1 3 0 (List.length v0_2)] ++ nuns 6 ++ [.sl (Val.rows (s_Kd p1 p2 4 o0).1.list), .int .i64 ((List.length (s_Kd p1 p2 4 o0).1.list) : Int), .int .i64 (i0 : Int)] ++ nuns 11
def Qtk (_p1 : Val) (_p2 : BA) (_o0 : PDecoder) (_i0 : Nat) (v0_1 : Bool) (v0_2 : List Requirement) : List Ob :=
  [⟨1, 0, false, [.bool v0_1]⟩, ⟨3, 0, true, (Requirement.rows v0_2).flatten⟩]
def Qtc (p1 : Val) (p2 : BA) (o0 : PDecoder) (i0 : Nat) (v0_1 : Bool) (v0_2 : List Requirement) : En := .loop 1 Ir.Qot Ir.Q1qh (Q13u p1 p2 o0 i0 v0_1 v0_2) (Qtk p1 p2 o0 i0 v0_1 v0_2)
def Qz5 (_p1 : Val) (_p2 : BA) (_o0 : PDecoder) (q0 : Bool) (q1 : List Requirement) (z : Nat → PV) (_zo : Nat → List PV) : St :=
  ⟨zr z 0 9 ++ [.ms 1 3 0 (List.length q1)] ++ zr z 10 20, [(0, ⟨1, 0, false, [.bool q0]⟩), (1, ⟨3, 0, true, (Requirement.rows q1).flatten⟩)], 66⟩
theorem Q1cr (p1 : Val) (p2 : BA) (o0 : PDecoder) (i0 : Nat) (v0_1 : Bool) (v0_2 : List Requirement) : VOK (Go.Pv.look (number 0 (Qtk p1 p2 o0 i0 v0_1 v0_2))) [(1, Requirement.rows v0_2)] := (VOK.cons (show Seen _ _ from Q3r (ob := ⟨3, 0, true, (Requirement.rows v0_2).flatten⟩) (Requirement.Qk v0_2 3 rfl)) VOK.nil)
def Qv9 (p1 : Val) (p2 : BA) (o0 : PDecoder) (e : En) (q : Bool × (List Requirement)) : Prop := ∃ z zo, Qd G e (.st (.exit 0) (Qz5 p1 p2 o0 q.1 q.2 z zo))
theorem Qyv (p1 : Val) (p2 : BA) (o0 : PDecoder) {e e' : En} (h : ∀ r, Qd G e r → Qd G e' r) : ∀ q, Qv9 p1 p2 o0 e q → Qv9 p1 p2 o0 e' q
  | _, ⟨z, zo, hz⟩ => ⟨z, zo, h _ hz⟩
def Qjt (p1 : Val) (p2 : BA) (o0 : PDecoder) : Prop := (List.length (s_Kd p1 p2 4 o0).1.list ≤ 137438953472) ∧ (∀ x0 ∈ (s_Kd p1 p2 4 o0).1.list, H_Kj x0) ∧ True
def Qzf (p1 : Val) (p2 : BA) (o0 : PDecoder) (i0 : Nat) (_v0_1 : Bool) (_v0_2 : List Requirement) : List PV :=
  [.un, .un, .un, .fn 244 [.bx 0 0] []] ++ nuns 12 ++ [.sl (Val.rows (s_Kd p1 p2 4 o0).1.list), .int .i64 ((List.length (s_Kd p1 p2 4 o0).1.list) : Int), .int .i64 (i0 : Int), .bool false]
def Qqj (_p1 : Val) (_p2 : BA) (_o0 : PDecoder) (_i0 : Nat) (_v0_1 : Bool) (_v0_2 : List Requirement) : List (Nat × List PV) :=
  []
theorem Q1g7 (p1 : Val) (p2 : BA) (o0 : PDecoder) (_H : Qjt p1 p2 o0) (i0 : Nat) (v0_1 : Bool) (v0_2 : List Requirement) (_ho0_0 : List.length v0_2 ≤ i0) (hc0 : (decide ((i0 : Int) < ((List.length (s_Kd p1 p2 4 o0).1.list) : Int))) = false) : Qv9 p1 p2 o0 (Qtc p1 p2 o0 i0 v0_1 v0_2) (v0_1, v0_2) := by
 exact ⟨(envF (Qzf p1 p2 o0 i0 v0_1 v0_2)), (zoF (Qqj p1 p2 o0 i0 v0_1 v0_2)), Qv (Q1cr p1 p2 o0 i0 v0_1 v0_2) (x := ((.exit 0), Qz5 p1 p2 o0 v0_1 v0_2 (envF (Qzf p1 p2 o0 i0 v0_1 v0_2)) (zoF (Qqj p1 p2 o0 i0 v0_1 v0_2)))) [hB 0 hc0] [] (by kernel_rfl)⟩
theorem Q1ee (p1 : Val) (p2 : BA) (o0 : PDecoder) (H : Qjt p1 p2 o0) (x0 : Val) (i0 : Nat) (v0_1 : Bool) (v0_2 : List Requirement) (hx0 : (s_Kd p1 p2 4 o0).1.list[i0]? = some x0) (hi0 : i0 < List.length (s_Kd p1 p2 4 o0).1.list) (ho0_0 : List.length v0_2 ≤ i0) (hc0 : (decide ((i0 : Int) < ((List.length (s_Kd p1 p2 4 o0).1.list) : Int))) = true) {r : Rs} (hr : Qd G (Qtc p1 p2 o0 (i0 + 1) (s_Kj x0 (PDecoder.mk v0_1)).2.failed (v0_2 ++ [(s_Kj x0 (PDecoder.mk v0_1)).1])) r) : Qd G (Qtc p1 p2 o0 i0 v0_1 v0_2) r := by
 have hB0 := H.1
 exact Qu (Q1cr p1 p2 o0 i0 v0_1 v0_2) (y := (Q13u p1 p2 o0 (i0 + 1) (s_Kj x0 (PDecoder.mk v0_1)).2.failed (v0_2 ++ [(s_Kj x0 (PDecoder.mk v0_1)).1]), Qtk p1 p2 o0 (i0 + 1) (s_Kj x0 (PDecoder.mk v0_1)).2.failed (v0_2 ++ [(s_Kj x0 (PDecoder.mk v0_1)).1]))) [hB 0 hc0, hP 0 (Q35 5 (Val.rows (s_Kd p1 p2 4 o0).1.list) i0 _ (Val.Qz hx0) rfl), hV 8 [(642, Requirement.rows (v0_2 ++ [(s_Kj x0 (PDecoder.mk v0_1)).1]))] (Q4a 1 578 642 3 48 0 0 true (Requirement.rows v0_2) (Requirement.rows (v0_2 ++ [(s_Kj x0 (PDecoder.mk v0_1)).1])) (Requirement.cells (s_Kj x0 (PDecoder.mk v0_1)).1) (List.length v0_2) (List.length (v0_2 ++ [(s_Kj x0 (PDecoder.mk v0_1)).1])) rfl (Requirement.Qa v0_2).symm (Requirement.Qa (v0_2 ++ [(s_Kj x0 (PDecoder.mk v0_1)).1])).symm (Requirement.Q23 v0_2 (s_Kj x0 (PDecoder.mk v0_1)).1) (Requirement.Q12 v0_2) rfl (by omega)), hS 0 true (Requirement.Qk (v0_2 ++ [(s_Kj x0 (PDecoder.mk v0_1)).1]) 3 rfl), hP 1 (Q2s i0 (by omega))] [aN (t_Kj x0 (PDecoder.mk v0_1) (H.2.1 x0 (Q2z hx0)))] (by kernel_rfl) hr
theorem Q16i (p1 : Val) (p2 : BA) (o0 : PDecoder) (H : Qjt p1 p2 o0) : ∀ (r0 : List Val) (i0 : Nat) (v0_1 : Bool) (v0_2 : List Requirement), List.drop i0 (s_Kd p1 p2 4 o0).1.list = r0 → List.length v0_2 ≤ i0 → Qv9 p1 p2 o0 (Qtc p1 p2 o0 i0 v0_1 v0_2) (Q70 p1 p2 o0 r0 i0 v0_1 v0_2)
 | [], i0, v0_1, v0_2, hd, ho0_0 => by
  have hc0 : (decide ((i0 : Int) < ((List.length (s_Kd p1 p2 4 o0).1.list) : Int))) = false := by have := Q1y hd; simp; omega
  rw [Q70]
  exact Q1g7 p1 p2 o0 H i0 v0_1 v0_2 ho0_0 hc0
 | x0 :: r0, i0, v0_1, v0_2, hd, ho0_0 => by
  obtain ⟨hx0, hi0, hd'⟩ := Q1v hd
  have hc0 : (decide ((i0 : Int) < ((List.length (s_Kd p1 p2 4 o0).1.list) : Int))) = true := by simp; omega
  rw [Q70]
  exact Qyv p1 p2 o0 (fun r hr => Q1ee p1 p2 o0 H x0 i0 v0_1 v0_2 hx0 hi0 ho0_0 hc0 hr) _ (Q16i p1 p2 o0 H r0 (i0 + 1) (s_Kj x0 (PDecoder.mk v0_1)).2.failed (v0_2 ++ [(s_Kj x0 (PDecoder.mk v0_1)).1]) hd' (by first | omega | (simp; omega)))
def s_Ku (p1 : Val) (p2 : BA) (o0 : PDecoder) : List Requirement × PDecoder := ((dE Requirement.dec p1 p2).1, ft o0 (isM p1 && (dE Requirement.dec p1 p2).2))
theorem Q1f6 (p1 : Val) (p2 : BA) (o0 : PDecoder) : ∀ (l : List Val) (i : Nat) (b : Bool) (a : List Requirement), Q70 p1 p2 o0 l i b a = (b || !(l.all fun x => (Requirement.dec x).2), a ++ l.map (fun x => (Requirement.dec x).1))
  | [], _, b, a => by rw [Q70]; simp
  | x :: l, i, b, a => by
    rw [Q70]
    refine (Q1f6 p1 p2 o0 l (i + 1) (b || !(Requirement.dec x).2) (a ++ [(Requirement.dec x).1])).trans ?_
    simp only [List.append_assoc, List.singleton_append, List.map_cons, List.all_cons, Bool.not_and, Bool.or_assoc]
theorem e_Ku (p1 : Val) (p2 : BA) (o0 : PDecoder) : s_Ku p1 p2 o0 = (((Q70 p1 p2 o0 (s_Kd p1 p2 4 o0).1.list 0 (s_Kd p1 p2 4 o0).2.failed []).2, (PDecoder.mk (Q70 p1 p2 o0 (s_Kd p1 p2 4 o0).1.list 0 (s_Kd p1 p2 4 o0).2.failed []).1))) := by
  rw [Q1f6]
  unfold s_Kd s_Ku
  simp only [Q9o, Q57]
  refine Prod.ext rfl ?_
  rw [Q9c o0.failed (isM p1) _ _ _ (Qwx (prt p1 p2)), Q66]
  rfl
def c_Ku (p1 : Val) (p2 : BA) (o0 : PDecoder) : En := .call 243 [.bx 0 0, .agg (Val.cells p1), .str p2, .fn 244 [.bx 0 0] []] [⟨1, 0, false, (PDecoder.cells o0)⟩]
def r_Ku (_p1 : Val) (_p2 : BA) (_o0 : PDecoder) (q0 : List Requirement) (q1 : PDecoder) : Rs := .ret (.sl (Requirement.rows q0)) [⟨1, 0, false, (PDecoder.cells q1)⟩]
def a_Ku (p1 : Val) (p2 : BA) (o0 : PDecoder) : Rs := r_Ku p1 p2 o0 (s_Ku p1 p2 o0).1 (s_Ku p1 p2 o0).2
def H_Ku (p1 : Val) : Prop := Val.Sm 1000000000 p1
theorem Q1dm (p1 : Val) (p2 : BA) (o0 : PDecoder) (H : H_Ku p1) : (H_Kd p1) ∧ (Qjt p1 p2 o0) ∧ True := by
  have hl := Qem (Q3j H p2)
  refine ⟨H, ?_, trivial⟩
  unfold Qjt s_Kd
  simp only [Q9o]
  exact ⟨Nat.le_trans hl.1 (Nat.le_of_ble_eq_true rfl), hl.2, trivial⟩
theorem t_Ku (p1 : Val) (p2 : BA) (o0 : PDecoder) (H : H_Ku p1) : Qd G (c_Ku p1 p2 o0) (a_Ku p1 p2 o0) := by
 unfold a_Ku
 rw [e_Ku]
 have hl0 := Q16i p1 p2 o0 ((Q1dm p1 p2 o0 H).2.1) (s_Kd p1 p2 4 o0).1.list 0 (s_Kd p1 p2 4 o0).2.failed [] (by simp) (by simp)
 obtain ⟨z0, zo0, hl0⟩ := hl0
 exact Qj (fn := Ir.Ku) rfl (h := [⟨1, 0, false, (PDecoder.cells o0)⟩]) (vw := []) VOK.nil [hP 8 (Q1g (Val.rows (s_Kd p1 p2 4 o0).1.list) (List.length (s_Kd p1 p2 4 o0).1.list) (Val.Qa (s_Kd p1 p2 4 o0).1.list)), hS 0 true (Requirement.Qk (Q70 p1 p2 o0 (s_Kd p1 p2 4 o0).1.list 0 (s_Kd p1 p2 4 o0).2.failed []).2 3 rfl), hQ (Requirement.Qa (Q70 p1 p2 o0 (s_Kd p1 p2 4 o0).1.list 0 (s_Kd p1 p2 4 o0).2.failed []).2).symm] [aN (t_Kd p1 p2 4 o0 (Q1dm p1 p2 o0 H).1), aV [(1, Requirement.rows (Q70 p1 p2 o0 (s_Kd p1 p2 4 o0).1.list 0 (s_Kd p1 p2 4 o0).2.failed []).2)] hl0] (by kernel_rfl)
def s_Kf (p1 : Val) (o0 : PDecoder) : NodeTerm × PDecoder := ((NodeTerm.dec p1).1, ft o0 (NodeTerm.dec p1).2)
theorem e_Kf (p1 : Val) (o0 : PDecoder) : s_Kf p1 o0 = (((NodeTerm.mk (s_Kc p1 Qo (s_Ko p1 o0).2).1 (s_Ku p1 Qh (s_Kc p1 Qo (s_Ko p1 o0).2).2).1 (s_Kg p1 Q1k (s_Ku p1 Qh (s_Kc p1 Qo (s_Ko p1 o0).2).2).2).1), (s_Kg p1 Q1k (s_Ku p1 Qh (s_Kc p1 Qo (s_Ko p1 o0).2).2).2).2)) := by
  simp only [s_Ko, s_Kg, s_Kc, s_Ku, s_Kf, NodeTerm.dec, Qng, Bool.and_assoc, Bool.and_left_comm, Bool.and_self_left]
def c_Kf (p1 : Val) (o0 : PDecoder) : En := .call 246 [.bx 0 0, .agg (Val.cells p1)] [⟨1, 0, false, (PDecoder.cells o0)⟩]
def r_Kf (_p1 : Val) (_o0 : PDecoder) (q0 : NodeTerm) (q1 : PDecoder) : Rs := .ret (.agg (NodeTerm.cells q0)) [⟨1, 0, false, (PDecoder.cells q1)⟩]
def a_Kf (p1 : Val) (o0 : PDecoder) : Rs := r_Kf p1 o0 (s_Kf p1 o0).1 (s_Kf p1 o0).2
def H_Kf (p1 : Val) : Prop := Val.Sm 1000000000 p1
theorem Q12s (p1 : Val) (_o0 : PDecoder) (H : H_Kf p1) : (H_Kc p1) ∧ (H_Ku p1) ∧ (H_Kg p1) ∧ True := by
  repeat' with_reducible apply And.intro
  all_goals first | exact True.intro | exact H | exact Qo5 (Q3j H _)
theorem t_Kf (p1 : Val) (o0 : PDecoder) (H : H_Kf p1) : Qd G (c_Kf p1 o0) (a_Kf p1 o0) := by
 unfold a_Kf
 rw [e_Kf]
 exact Qj (fn := Ir.Kf) rfl (h := [⟨1, 0, false, (PDecoder.cells o0)⟩]) (vw := []) VOK.nil [] [aN (t_Ko p1 o0), aN (t_Kc p1 Qo (s_Ko p1 o0).2 (Q12s p1 o0 H).1), aN (t_Ku p1 Qh (s_Kc p1 Qo (s_Ko p1 o0).2).2 (Q12s p1 o0 H).2.1), aN (t_Kg p1 Q1k (s_Ku p1 Qh (s_Kc p1 Qo (s_Ko p1 o0).2).2).2 (Q12s p1 o0 H).2.2.1)] (by kernel_rfl)
def Q71 (p1 : Val) (p2 : BA) (o0 : PDecoder) : List Val → Nat → Bool → (List NodeTerm) → Bool × (List NodeTerm)
 | [], _i0, v0_1, v0_2 =>
  (v0_1, v0_2)
 | x0 :: r0, i0, v0_1, v0_2 =>
  Q71 p1 p2 o0 r0 (i0 + 1) (s_Kf x0 (PDecoder.mk v0_1)).2.failed (v0_2 ++ [(s_Kf x0 (PDecoder.mk v0_1)).1])
def Q13v (p1 : Val) (p2 : BA) (o0 : PDecoder) (i0 : Nat) (_v0_1 : Bool) (v0_2 : List NodeTerm) : List PV :=
  [.un, .un, .un, .fn 246 [.bx 0 0] []] ++ nuns 5 ++ [.ms 1 3 0 (List.length v0_2)] ++ nuns 6 ++ [.sl (Val.rows (s_Kd p1 p2 4 o0).1.list), .int .i64 ((List.length (s_Kd p1 p2 4 o0).1.list) : Int), .int .i64 (i0 : Int)] ++ nuns 11
def Qtl (_p1 : Val) (_p2 : BA) (_o0 : PDecoder) (_i0 : Nat) (v0_1 : Bool) (v0_2 : List NodeTerm) : List Ob :=
  [⟨1, 0, false, [.bool v0_1]⟩, ⟨3, 0, true, (NodeTerm.rows v0_2).flatten⟩]
def Qtd (p1 : Val) (p2 : BA) (o0 : PDecoder) (i0 : Nat) (v0_1 : Bool) (v0_2 : List NodeTerm) : En := .loop 1 Ir.Qou Ir.Q1qi (Q13v p1 p2 o0 i0 v0_1 v0_2) (Qtl p1 p2 o0 i0 v0_1 v0_2)
def Qz6 (_p1 : Val) (_p2 : BA) (_o0 : PDecoder) (q0 : Bool) (q1 : List NodeTerm) (z : Nat → PV) (_zo : Nat → List PV) : St :=
  ⟨zr z 0 9 ++ [.ms 1 3 0 (List.length q1)] ++ zr z 10 20, [(0, ⟨1, 0, false, [.bool q0]⟩), (1, ⟨3, 0, true, (NodeTerm.rows q1).flatten⟩)], 66⟩
theorem Q1cs (p1 : Val) (p2 : BA) (o0 : PDecoder) (i0 : Nat) (v0_1 : Bool) (v0_2 : List NodeTerm) : VOK (Go.Pv.look (number 0 (Qtl p1 p2 o0 i0 v0_1 v0_2))) [(1, NodeTerm.rows v0_2)] := (VOK.cons (show Seen _ _ from Q3r (ob := ⟨3, 0, true, (NodeTerm.rows v0_2).flatten⟩) (NodeTerm.Qk v0_2 3 rfl)) VOK.nil)
def Qva (p1 : Val) (p2 : BA) (o0 : PDecoder) (e : En) (q : Bool × (List NodeTerm)) : Prop := ∃ z zo, Qd G e (.st (.exit 0) (Qz6 p1 p2 o0 q.1 q.2 z zo))
theorem Qyw (p1 : Val) (p2 : BA) (o0 : PDecoder) {e e' : En} (h : ∀ r, Qd G e r → Qd G e' r) : ∀ q, Qva p1 p2 o0 e q → Qva p1 p2 o0 e' q
  | _, ⟨z, zo, hz⟩ => ⟨z, zo, h _ hz⟩
def Qju (p1 : Val) (p2 : BA) (o0 : PDecoder) : Prop := (List.length (s_Kd p1 p2 4 o0).1.list ≤ 137438953472) ∧ (∀ x0 ∈ (s_Kd p1 p2 4 o0).1.list, H_Kf x0) ∧ True
def Qzg (p1 : Val) (p2 : BA) (o0 : PDecoder) (i0 : Nat) (_v0_1 : Bool) (_v0_2 : List NodeTerm) : List PV :=
  [.un, .un, .un, .fn 246 [.bx 0 0] []] ++ nuns 12 ++ [.sl (Val.rows (s_Kd p1 p2 4 o0).1.list), .int .i64 ((List.length (s_Kd p1 p2 4 o0).1.list) : Int), .int .i64 (i0 : Int), .bool false]
def Qqk (_p1 : Val) (_p2 : BA) (_o0 : PDecoder) (_i0 : Nat) (_v0_1 : Bool) (_v0_2 : List NodeTerm) : List (Nat × List PV) :=
  []
theorem Q1g8 (p1 : Val) (p2 : BA) (o0 : PDecoder) (_H : Qju p1 p2 o0) (i0 : Nat) (v0_1 : Bool) (v0_2 : List NodeTerm) (_ho0_0 : List.length v0_2 ≤ i0) (hc0 : (decide ((i0 : Int) < ((List.length (s_Kd p1 p2 4 o0).1.list) : Int))) = false) : Qva p1 p2 o0 (Qtd p1 p2 o0 i0 v0_1 v0_2) (v0_1, v0_2) := by
 exact ⟨(envF (Qzg p1 p2 o0 i0 v0_1 v0_2)), (zoF (Qqk p1 p2 o0 i0 v0_1 v0_2)), Qv (Q1cs p1 p2 o0 i0 v0_1 v0_2) (x := ((.exit 0), Qz6 p1 p2 o0 v0_1 v0_2 (envF (Qzg p1 p2 o0 i0 v0_1 v0_2)) (zoF (Qqk p1 p2 o0 i0 v0_1 v0_2)))) [hB 0 hc0] [] (by kernel_rfl)⟩
theorem Q1ef (p1 : Val) (p2 : BA) (o0 : PDecoder) (H : Qju p1 p2 o0) (x0 : Val) (i0 : Nat) (v0_1 : Bool) (v0_2 : List NodeTerm) (hx0 : (s_Kd p1 p2 4 o0).1.list[i0]? = some x0) (hi0 : i0 < List.length (s_Kd p1 p2 4 o0).1.list) (ho0_0 : List.length v0_2 ≤ i0) (hc0 : (decide ((i0 : Int) < ((List.length (s_Kd p1 p2 4 o0).1.list) : Int))) = true) {r : Rs} (hr : Qd G (Qtd p1 p2 o0 (i0 + 1) (s_Kf x0 (PDecoder.mk v0_1)).2.failed (v0_2 ++ [(s_Kf x0 (PDecoder.mk v0_1)).1])) r) : Qd G (Qtd p1 p2 o0 i0 v0_1 v0_2) r := by
 have hB0 := H.1
 exact Qu (Q1cs p1 p2 o0 i0 v0_1 v0_2) (y := (Q13v p1 p2 o0 (i0 + 1) (s_Kf x0 (PDecoder.mk v0_1)).2.failed (v0_2 ++ [(s_Kf x0 (PDecoder.mk v0_1)).1]), Qtl p1 p2 o0 (i0 + 1) (s_Kf x0 (PDecoder.mk v0_1)).2.failed (v0_2 ++ [(s_Kf x0 (PDecoder.mk v0_1)).1]))) [hB 0 hc0, hP 0 (Q35 5 (Val.rows (s_Kd p1 p2 4 o0).1.list) i0 _ (Val.Qz hx0) rfl), hV 8 [(642, NodeTerm.rows (v0_2 ++ [(s_Kf x0 (PDecoder.mk v0_1)).1]))] (Q4a 1 578 642 3 40 0 0 true (NodeTerm.rows v0_2) (NodeTerm.rows (v0_2 ++ [(s_Kf x0 (PDecoder.mk v0_1)).1])) (NodeTerm.cells (s_Kf x0 (PDecoder.mk v0_1)).1) (List.length v0_2) (List.length (v0_2 ++ [(s_Kf x0 (PDecoder.mk v0_1)).1])) rfl (NodeTerm.Qa v0_2).symm (NodeTerm.Qa (v0_2 ++ [(s_Kf x0 (PDecoder.mk v0_1)).1])).symm (NodeTerm.Q23 v0_2 (s_Kf x0 (PDecoder.mk v0_1)).1) (NodeTerm.Q12 v0_2) rfl (by omega)), hS 0 true (NodeTerm.Qk (v0_2 ++ [(s_Kf x0 (PDecoder.mk v0_1)).1]) 3 rfl), hP 1 (Q2s i0 (by omega))] [aN (t_Kf x0 (PDecoder.mk v0_1) (H.2.1 x0 (Q2z hx0)))] (by kernel_rfl) hr
theorem Q16j (p1 : Val) (p2 : BA) (o0 : PDecoder) (H : Qju p1 p2 o0) : ∀ (r0 : List Val) (i0 : Nat) (v0_1 : Bool) (v0_2 : List NodeTerm), List.drop i0 (s_Kd p1 p2 4 o0).1.list = r0 → List.length v0_2 ≤ i0 → Qva p1 p2 o0 (Qtd p1 p2 o0 i0 v0_1 v0_2) (Q71 p1 p2 o0 r0 i0 v0_1 v0_2)
 | [], i0, v0_1, v0_2, hd, ho0_0 => by
  have hc0 : (decide ((i0 : Int) < ((List.length (s_Kd p1 p2 4 o0).1.list) : Int))) = false := by have := Q1y hd; simp; omega
  rw [Q71]
  exact Q1g8 p1 p2 o0 H i0 v0_1 v0_2 ho0_0 hc0
 | x0 :: r0, i0, v0_1, v0_2, hd, ho0_0 => by
  obtain ⟨hx0, hi0, hd'⟩ := Q1v hd
  have hc0 : (decide ((i0 : Int) < ((List.length (s_Kd p1 p2 4 o0).1.list) : Int))) = true := by simp; omega
  rw [Q71]
  exact Qyw p1 p2 o0 (fun r hr => Q1ef p1 p2 o0 H x0 i0 v0_1 v0_2 hx0 hi0 ho0_0 hc0 hr) _ (Q16j p1 p2 o0 H r0 (i0 + 1) (s_Kf x0 (PDecoder.mk v0_1)).2.failed (v0_2 ++ [(s_Kf x0 (PDecoder.mk v0_1)).1]) hd' (by first | omega | (simp; omega)))
def s_Kv (p1 : Val) (p2 : BA) (o0 : PDecoder) : List NodeTerm × PDecoder := ((dE NodeTerm.dec p1 p2).1, ft o0 (isM p1 && (dE NodeTerm.dec p1 p2).2))
theorem Q1f7 (p1 : Val) (p2 : BA) (o0 : PDecoder) : ∀ (l : List Val) (i : Nat) (b : Bool) (a : List NodeTerm), Q71 p1 p2 o0 l i b a = (b || !(l.all fun x => (NodeTerm.dec x).2), a ++ l.map (fun x => (NodeTerm.dec x).1))
  | [], _, b, a => by rw [Q71]; simp
  | x :: l, i, b, a => by
    rw [Q71]
    refine (Q1f7 p1 p2 o0 l (i + 1) (b || !(NodeTerm.dec x).2) (a ++ [(NodeTerm.dec x).1])).trans ?_
    simp only [List.append_assoc, List.singleton_append, List.map_cons, List.all_cons, Bool.not_and, Bool.or_assoc]
theorem e_Kv (p1 : Val) (p2 : BA) (o0 : PDecoder) : s_Kv p1 p2 o0 = (((Q71 p1 p2 o0 (s_Kd p1 p2 4 o0).1.list 0 (s_Kd p1 p2 4 o0).2.failed []).2, (PDecoder.mk (Q71 p1 p2 o0 (s_Kd p1 p2 4 o0).1.list 0 (s_Kd p1 p2 4 o0).2.failed []).1))) := by
  rw [Q1f7]
  unfold s_Kd s_Kv
  simp only [Q9o, Q57]
  refine Prod.ext rfl ?_
  rw [Q9c o0.failed (isM p1) _ _ _ (Qwx (prt p1 p2)), Q66]
  rfl
def c_Kv (p1 : Val) (p2 : BA) (o0 : PDecoder) : En := .call 245 [.bx 0 0, .agg (Val.cells p1), .str p2, .fn 246 [.bx 0 0] []] [⟨1, 0, false, (PDecoder.cells o0)⟩]
def r_Kv (_p1 : Val) (_p2 : BA) (_o0 : PDecoder) (q0 : List NodeTerm) (q1 : PDecoder) : Rs := .ret (.sl (NodeTerm.rows q0)) [⟨1, 0, false, (PDecoder.cells q1)⟩]
def a_Kv (p1 : Val) (p2 : BA) (o0 : PDecoder) : Rs := r_Kv p1 p2 o0 (s_Kv p1 p2 o0).1 (s_Kv p1 p2 o0).2
def H_Kv (p1 : Val) : Prop := Val.Sm 1000000000 p1
theorem Q1dn (p1 : Val) (p2 : BA) (o0 : PDecoder) (H : H_Kv p1) : (H_Kd p1) ∧ (Qju p1 p2 o0) ∧ True := by
  have hl := Qem (Q3j H p2)
  refine ⟨H, ?_, trivial⟩
  unfold Qju s_Kd
  simp only [Q9o]
  exact ⟨Nat.le_trans hl.1 (Nat.le_of_ble_eq_true rfl), hl.2, trivial⟩
theorem t_Kv (p1 : Val) (p2 : BA) (o0 : PDecoder) (H : H_Kv p1) : Qd G (c_Kv p1 p2 o0) (a_Kv p1 p2 o0) := by
 unfold a_Kv
 rw [e_Kv]
 have hl0 := Q16j p1 p2 o0 ((Q1dn p1 p2 o0 H).2.1) (s_Kd p1 p2 4 o0).1.list 0 (s_Kd p1 p2 4 o0).2.failed [] (by simp) (by simp)
 obtain ⟨z0, zo0, hl0⟩ := hl0
 exact Qj (fn := Ir.Kv) rfl (h := [⟨1, 0, false, (PDecoder.cells o0)⟩]) (vw := []) VOK.nil [hP 8 (Q1g (Val.rows (s_Kd p1 p2 4 o0).1.list) (List.length (s_Kd p1 p2 4 o0).1.list) (Val.Qa (s_Kd p1 p2 4 o0).1.list)), hS 0 true (NodeTerm.Qk (Q71 p1 p2 o0 (s_Kd p1 p2 4 o0).1.list 0 (s_Kd p1 p2 4 o0).2.failed []).2 3 rfl), hQ (NodeTerm.Qa (Q71 p1 p2 o0 (s_Kd p1 p2 4 o0).1.list 0 (s_Kd p1 p2 4 o0).2.failed []).2).symm] [aN (t_Kd p1 p2 4 o0 (Q1dn p1 p2 o0 H).1), aV [(1, NodeTerm.rows (Q71 p1 p2 o0 (s_Kd p1 p2 4 o0).1.list 0 (s_Kd p1 p2 4 o0).2.failed []).2)] hl0] (by kernel_rfl)
def s_Kh (p1 : Val) (o0 : PDecoder) : PodTerm × PDecoder := ((PodTerm.dec p1).1, ft o0 (PodTerm.dec p1).2)
theorem e_Kh (p1 : Val) (o0 : PDecoder) : s_Kh p1 o0 = (((PodTerm.mk (s_Kc p1 Qo (s_Ko p1 o0).2).1 (s_Kc p1 Q3a (s_Kc p1 Qo (s_Ko p1 o0).2).2).1 (s_Ku p1 Qh (s_Kc p1 Q3a (s_Kc p1 Qo (s_Ko p1 o0).2).2).2).1 (s_Kn p1 Qy (s_Ku p1 Qh (s_Kc p1 Q3a (s_Kc p1 Qo (s_Ko p1 o0).2).2).2).2).1 (s_Kg p1 Q1k (s_Kn p1 Qy (s_Ku p1 Qh (s_Kc p1 Q3a (s_Kc p1 Qo (s_Ko p1 o0).2).2).2).2).2).1), (s_Kg p1 Q1k (s_Kn p1 Qy (s_Ku p1 Qh (s_Kc p1 Q3a (s_Kc p1 Qo (s_Ko p1 o0).2).2).2).2).2).2)) := by
  simp only [s_Ko, s_Kg, s_Kn, s_Kc, s_Ku, s_Kh, PodTerm.dec, Qng, Bool.and_assoc, Bool.and_left_comm, Bool.and_comm, Bool.and_self_left]
def c_Kh (p1 : Val) (o0 : PDecoder) : En := .call 248 [.bx 0 0, .agg (Val.cells p1)] [⟨1, 0, false, (PDecoder.cells o0)⟩]
def r_Kh (_p1 : Val) (_o0 : PDecoder) (q0 : PodTerm) (q1 : PDecoder) : Rs := .ret (.agg (PodTerm.cells q0)) [⟨1, 0, false, (PDecoder.cells q1)⟩]
def a_Kh (p1 : Val) (o0 : PDecoder) : Rs := r_Kh p1 o0 (s_Kh p1 o0).1 (s_Kh p1 o0).2
def H_Kh (p1 : Val) : Prop := Val.Sm 1000000000 p1
theorem Qnh (p1 : Val) (_o0 : PDecoder) (H : H_Kh p1) : (H_Kc p1) ∧ (H_Ku p1) ∧ (H_Kn p1) ∧ (H_Kg p1) ∧ True := by
  repeat' with_reducible apply And.intro
  all_goals first | exact True.intro | exact H | exact Qo5 (Q3j H _)
theorem t_Kh (p1 : Val) (o0 : PDecoder) (H : H_Kh p1) : Qd G (c_Kh p1 o0) (a_Kh p1 o0) := by
 unfold a_Kh
 rw [e_Kh]
 exact Qj (fn := Ir.Kh) rfl (h := [⟨1, 0, false, (PDecoder.cells o0)⟩]) (vw := []) VOK.nil [] [aN (t_Ko p1 o0), aN (t_Kc p1 Qo (s_Ko p1 o0).2 (Qnh p1 o0 H).1), aN (t_Kc p1 Q3a (s_Kc p1 Qo (s_Ko p1 o0).2).2 (Qnh p1 o0 H).1), aN (t_Ku p1 Qh (s_Kc p1 Q3a (s_Kc p1 Qo (s_Ko p1 o0).2).2).2 (Qnh p1 o0 H).2.1), aN (t_Kn p1 Qy (s_Ku p1 Qh (s_Kc p1 Q3a (s_Kc p1 Qo (s_Ko p1 o0).2).2).2).2 (Qnh p1 o0 H).2.2.1), aN (t_Kg p1 Q1k (s_Kn p1 Qy (s_Ku p1 Qh (s_Kc p1 Q3a (s_Kc p1 Qo (s_Ko p1 o0).2).2).2).2).2 (Qnh p1 o0 H).2.2.2.1)] (by kernel_rfl)
def Q72 (p1 : Val) (p2 : BA) (o0 : PDecoder) : List Val → Nat → Bool → (List PodTerm) → Bool × (List PodTerm)
 | [], _i0, v0_1, v0_2 =>
  (v0_1, v0_2)
 | x0 :: r0, i0, v0_1, v0_2 =>
  Q72 p1 p2 o0 r0 (i0 + 1) (s_Kh x0 (PDecoder.mk v0_1)).2.failed (v0_2 ++ [(s_Kh x0 (PDecoder.mk v0_1)).1])
def Q13w (p1 : Val) (p2 : BA) (o0 : PDecoder) (i0 : Nat) (_v0_1 : Bool) (v0_2 : List PodTerm) : List PV :=
  [.un, .un, .un, .fn 248 [.bx 0 0] []] ++ nuns 5 ++ [.ms 1 5 0 (List.length v0_2)] ++ nuns 6 ++ [.sl (Val.rows (s_Kd p1 p2 4 o0).1.list), .int .i64 ((List.length (s_Kd p1 p2 4 o0).1.list) : Int), .int .i64 (i0 : Int)] ++ nuns 11
def Qtm (_p1 : Val) (_p2 : BA) (_o0 : PDecoder) (_i0 : Nat) (v0_1 : Bool) (v0_2 : List PodTerm) : List Ob :=
  [⟨1, 0, false, [.bool v0_1]⟩, ⟨5, 0, true, (PodTerm.rows v0_2).flatten⟩]
def Qte (p1 : Val) (p2 : BA) (o0 : PDecoder) (i0 : Nat) (v0_1 : Bool) (v0_2 : List PodTerm) : En := .loop 1 Ir.Qov Ir.Q1qj (Q13w p1 p2 o0 i0 v0_1 v0_2) (Qtm p1 p2 o0 i0 v0_1 v0_2)
def Qz7 (_p1 : Val) (_p2 : BA) (_o0 : PDecoder) (q0 : Bool) (q1 : List PodTerm) (z : Nat → PV) (_zo : Nat → List PV) : St :=
  ⟨zr z 0 9 ++ [.ms 1 5 0 (List.length q1)] ++ zr z 10 20, [(0, ⟨1, 0, false, [.bool q0]⟩), (1, ⟨5, 0, true, (PodTerm.rows q1).flatten⟩)], 66⟩
theorem Q1ct (p1 : Val) (p2 : BA) (o0 : PDecoder) (i0 : Nat) (v0_1 : Bool) (v0_2 : List PodTerm) : VOK (Go.Pv.look (number 0 (Qtm p1 p2 o0 i0 v0_1 v0_2))) [(1, PodTerm.rows v0_2)] := (VOK.cons (show Seen _ _ from Q3r (ob := ⟨5, 0, true, (PodTerm.rows v0_2).flatten⟩) (PodTerm.Qk v0_2 5 rfl)) VOK.nil)
def Qvb (p1 : Val) (p2 : BA) (o0 : PDecoder) (e : En) (q : Bool × (List PodTerm)) : Prop := ∃ z zo, Qd G e (.st (.exit 0) (Qz7 p1 p2 o0 q.1 q.2 z zo))
theorem Qyx (p1 : Val) (p2 : BA) (o0 : PDecoder) {e e' : En} (h : ∀ r, Qd G e r → Qd G e' r) : ∀ q, Qvb p1 p2 o0 e q → Qvb p1 p2 o0 e' q
  | _, ⟨z, zo, hz⟩ => ⟨z, zo, h _ hz⟩
def Qjv (p1 : Val) (p2 : BA) (o0 : PDecoder) : Prop := (List.length (s_Kd p1 p2 4 o0).1.list ≤ 137438953472) ∧ (∀ x0 ∈ (s_Kd p1 p2 4 o0).1.list, H_Kh x0) ∧ True
def Qzh (p1 : Val) (p2 : BA) (o0 : PDecoder) (i0 : Nat) (_v0_1 : Bool) (_v0_2 : List PodTerm) : List PV :=
  [.un, .un, .un, .fn 248 [.bx 0 0] []] ++ nuns 12 ++ [.sl (Val.rows (s_Kd p1 p2 4 o0).1.list), .int .i64 ((List.length (s_Kd p1 p2 4 o0).1.list) : Int), .int .i64 (i0 : Int), .bool false]
def Qql (_p1 : Val) (_p2 : BA) (_o0 : PDecoder) (_i0 : Nat) (_v0_1 : Bool) (_v0_2 : List PodTerm) : List (Nat × List PV) :=
  []
theorem Q1g9 (p1 : Val) (p2 : BA) (o0 : PDecoder) (_H : Qjv p1 p2 o0) (i0 : Nat) (v0_1 : Bool) (v0_2 : List PodTerm) (_ho0_0 : List.length v0_2 ≤ i0) (hc0 : (decide ((i0 : Int) < ((List.length (s_Kd p1 p2 4 o0).1.list) : Int))) = false) : Qvb p1 p2 o0 (Qte p1 p2 o0 i0 v0_1 v0_2) (v0_1, v0_2) := by
 exact ⟨(envF (Qzh p1 p2 o0 i0 v0_1 v0_2)), (zoF (Qql p1 p2 o0 i0 v0_1 v0_2)), Qv (Q1ct p1 p2 o0 i0 v0_1 v0_2) (x := ((.exit 0), Qz7 p1 p2 o0 v0_1 v0_2 (envF (Qzh p1 p2 o0 i0 v0_1 v0_2)) (zoF (Qql p1 p2 o0 i0 v0_1 v0_2)))) [hB 0 hc0] [] (by kernel_rfl)⟩
theorem Q1eg (p1 : Val) (p2 : BA) (o0 : PDecoder) (H : Qjv p1 p2 o0) (x0 : Val) (i0 : Nat) (v0_1 : Bool) (v0_2 : List PodTerm) (hx0 : (s_Kd p1 p2 4 o0).1.list[i0]? = some x0) (hi0 : i0 < List.length (s_Kd p1 p2 4 o0).1.list) (ho0_0 : List.length v0_2 ≤ i0) (hc0 : (decide ((i0 : Int) < ((List.length (s_Kd p1 p2 4 o0).1.list) : Int))) = true) {r : Rs} (hr : Qd G (Qte p1 p2 o0 (i0 + 1) (s_Kh x0 (PDecoder.mk v0_1)).2.failed (v0_2 ++ [(s_Kh x0 (PDecoder.mk v0_1)).1])) r) : Qd G (Qte p1 p2 o0 i0 v0_1 v0_2) r := by
 have hB0 := H.1
 exact Qu (Q1ct p1 p2 o0 i0 v0_1 v0_2) (y := (Q13w p1 p2 o0 (i0 + 1) (s_Kh x0 (PDecoder.mk v0_1)).2.failed (v0_2 ++ [(s_Kh x0 (PDecoder.mk v0_1)).1]), Qtm p1 p2 o0 (i0 + 1) (s_Kh x0 (PDecoder.mk v0_1)).2.failed (v0_2 ++ [(s_Kh x0 (PDecoder.mk v0_1)).1]))) [hB 0 hc0, hP 0 (Q35 5 (Val.rows (s_Kd p1 p2 4 o0).1.list) i0 _ (Val.Qz hx0) rfl), hV 8 [(642, PodTerm.rows (v0_2 ++ [(s_Kh x0 (PDecoder.mk v0_1)).1]))] (Q4a 1 578 642 5 56 0 0 true (PodTerm.rows v0_2) (PodTerm.rows (v0_2 ++ [(s_Kh x0 (PDecoder.mk v0_1)).1])) (PodTerm.cells (s_Kh x0 (PDecoder.mk v0_1)).1) (List.length v0_2) (List.length (v0_2 ++ [(s_Kh x0 (PDecoder.mk v0_1)).1])) rfl (PodTerm.Qa v0_2).symm (PodTerm.Qa (v0_2 ++ [(s_Kh x0 (PDecoder.mk v0_1)).1])).symm (PodTerm.Q23 v0_2 (s_Kh x0 (PDecoder.mk v0_1)).1) (PodTerm.Q12 v0_2) rfl (by omega)), hS 0 true (PodTerm.Qk (v0_2 ++ [(s_Kh x0 (PDecoder.mk v0_1)).1]) 5 rfl), hP 1 (Q2s i0 (by omega))] [aN (t_Kh x0 (PDecoder.mk v0_1) (H.2.1 x0 (Q2z hx0)))] (by kernel_rfl) hr
theorem Q16k (p1 : Val) (p2 : BA) (o0 : PDecoder) (H : Qjv p1 p2 o0) : ∀ (r0 : List Val) (i0 : Nat) (v0_1 : Bool) (v0_2 : List PodTerm), List.drop i0 (s_Kd p1 p2 4 o0).1.list = r0 → List.length v0_2 ≤ i0 → Qvb p1 p2 o0 (Qte p1 p2 o0 i0 v0_1 v0_2) (Q72 p1 p2 o0 r0 i0 v0_1 v0_2)
 | [], i0, v0_1, v0_2, hd, ho0_0 => by
  have hc0 : (decide ((i0 : Int) < ((List.length (s_Kd p1 p2 4 o0).1.list) : Int))) = false := by have := Q1y hd; simp; omega
  rw [Q72]
  exact Q1g9 p1 p2 o0 H i0 v0_1 v0_2 ho0_0 hc0
 | x0 :: r0, i0, v0_1, v0_2, hd, ho0_0 => by
  obtain ⟨hx0, hi0, hd'⟩ := Q1v hd
  have hc0 : (decide ((i0 : Int) < ((List.length (s_Kd p1 p2 4 o0).1.list) : Int))) = true := by simp; omega
  rw [Q72]
  exact Qyx p1 p2 o0 (fun r hr => Q1eg p1 p2 o0 H x0 i0 v0_1 v0_2 hx0 hi0 ho0_0 hc0 hr) _ (Q16k p1 p2 o0 H r0 (i0 + 1) (s_Kh x0 (PDecoder.mk v0_1)).2.failed (v0_2 ++ [(s_Kh x0 (PDecoder.mk v0_1)).1]) hd' (by first | omega | (simp; omega)))
def s_Kw (p1 : Val) (p2 : BA) (o0 : PDecoder) : List PodTerm × PDecoder := ((dE PodTerm.dec p1 p2).1, ft o0 (isM p1 && (dE PodTerm.dec p1 p2).2))
theorem Q1f8 (p1 : Val) (p2 : BA) (o0 : PDecoder) : ∀ (l : List Val) (i : Nat) (b : Bool) (a : List PodTerm), Q72 p1 p2 o0 l i b a = (b || !(l.all fun x => (PodTerm.dec x).2), a ++ l.map (fun x => (PodTerm.dec x).1))
  | [], _, b, a => by rw [Q72]; simp
  | x :: l, i, b, a => by
    rw [Q72]
    refine (Q1f8 p1 p2 o0 l (i + 1) (b || !(PodTerm.dec x).2) (a ++ [(PodTerm.dec x).1])).trans ?_
    simp only [List.append_assoc, List.singleton_append, List.map_cons, List.all_cons, Bool.not_and, Bool.or_assoc]
theorem e_Kw (p1 : Val) (p2 : BA) (o0 : PDecoder) : s_Kw p1 p2 o0 = (((Q72 p1 p2 o0 (s_Kd p1 p2 4 o0).1.list 0 (s_Kd p1 p2 4 o0).2.failed []).2, (PDecoder.mk (Q72 p1 p2 o0 (s_Kd p1 p2 4 o0).1.list 0 (s_Kd p1 p2 4 o0).2.failed []).1))) := by
  rw [Q1f8]
  unfold s_Kd s_Kw
  simp only [Q9o, Q57]
  refine Prod.ext rfl ?_
  rw [Q9c o0.failed (isM p1) _ _ _ (Qwx (prt p1 p2)), Q66]
  rfl
def c_Kw (p1 : Val) (p2 : BA) (o0 : PDecoder) : En := .call 247 [.bx 0 0, .agg (Val.cells p1), .str p2, .fn 248 [.bx 0 0] []] [⟨1, 0, false, (PDecoder.cells o0)⟩]
def r_Kw (_p1 : Val) (_p2 : BA) (_o0 : PDecoder) (q0 : List PodTerm) (q1 : PDecoder) : Rs := .ret (.sl (PodTerm.rows q0)) [⟨1, 0, false, (PDecoder.cells q1)⟩]
def a_Kw (p1 : Val) (p2 : BA) (o0 : PDecoder) : Rs := r_Kw p1 p2 o0 (s_Kw p1 p2 o0).1 (s_Kw p1 p2 o0).2
def H_Kw (p1 : Val) : Prop := Val.Sm 1000000000 p1
theorem Q1do (p1 : Val) (p2 : BA) (o0 : PDecoder) (H : H_Kw p1) : (H_Kd p1) ∧ (Qjv p1 p2 o0) ∧ True := by
  have hl := Qem (Q3j H p2)
  refine ⟨H, ?_, trivial⟩
  unfold Qjv s_Kd
  simp only [Q9o]
  exact ⟨Nat.le_trans hl.1 (Nat.le_of_ble_eq_true rfl), hl.2, trivial⟩
theorem t_Kw (p1 : Val) (p2 : BA) (o0 : PDecoder) (H : H_Kw p1) : Qd G (c_Kw p1 p2 o0) (a_Kw p1 p2 o0) := by
 unfold a_Kw
 rw [e_Kw]
 have hl0 := Q16k p1 p2 o0 ((Q1do p1 p2 o0 H).2.1) (s_Kd p1 p2 4 o0).1.list 0 (s_Kd p1 p2 4 o0).2.failed [] (by simp) (by simp)
 obtain ⟨z0, zo0, hl0⟩ := hl0
 exact Qj (fn := Ir.Kw) rfl (h := [⟨1, 0, false, (PDecoder.cells o0)⟩]) (vw := []) VOK.nil [hP 8 (Q1g (Val.rows (s_Kd p1 p2 4 o0).1.list) (List.length (s_Kd p1 p2 4 o0).1.list) (Val.Qa (s_Kd p1 p2 4 o0).1.list)), hS 0 true (PodTerm.Qk (Q72 p1 p2 o0 (s_Kd p1 p2 4 o0).1.list 0 (s_Kd p1 p2 4 o0).2.failed []).2 5 rfl), hQ (PodTerm.Qa (Q72 p1 p2 o0 (s_Kd p1 p2 4 o0).1.list 0 (s_Kd p1 p2 4 o0).2.failed []).2).symm] [aN (t_Kd p1 p2 4 o0 (Q1do p1 p2 o0 H).1), aV [(1, PodTerm.rows (Q72 p1 p2 o0 (s_Kd p1 p2 4 o0).1.list 0 (s_Kd p1 p2 4 o0).2.failed []).2)] hl0] (by kernel_rfl)
def s_Km (p1 : Val) (o0 : PDecoder) : SpreadRule × PDecoder := ((SpreadRule.dec p1).1, ft o0 (SpreadRule.dec p1).2)
theorem e_Km (p1 : Val) (o0 : PDecoder) : s_Km p1 o0 = (((SpreadRule.mk (s_Kg p1 Q25 (s_Ko p1 o0).2).1 (s_Kn p1 Qy (s_Kg p1 Q25 (s_Ko p1 o0).2).2).1 (s_Ku p1 Qh (s_Kn p1 Qy (s_Kg p1 Q25 (s_Ko p1 o0).2).2).2).1 (s_Kc p1 Qo (s_Ku p1 Qh (s_Kn p1 Qy (s_Kg p1 Q25 (s_Ko p1 o0).2).2).2).2).1), (s_Kc p1 Qo (s_Ku p1 Qh (s_Kn p1 Qy (s_Kg p1 Q25 (s_Ko p1 o0).2).2).2).2).2)) := by
  simp only [s_Ko, s_Kg, s_Kn, s_Kc, s_Ku, s_Km, SpreadRule.dec, Qng, Bool.and_assoc, Bool.and_left_comm, Bool.and_comm, Bool.and_self_left]
def c_Km (p1 : Val) (o0 : PDecoder) : En := .call 250 [.bx 0 0, .agg (Val.cells p1)] [⟨1, 0, false, (PDecoder.cells o0)⟩]
def r_Km (_p1 : Val) (_o0 : PDecoder) (q0 : SpreadRule) (q1 : PDecoder) : Rs := .ret (.agg (SpreadRule.cells q0)) [⟨1, 0, false, (PDecoder.cells q1)⟩]
def a_Km (p1 : Val) (o0 : PDecoder) : Rs := r_Km p1 o0 (s_Km p1 o0).1 (s_Km p1 o0).2
def H_Km (p1 : Val) : Prop := Val.Sm 1000000000 p1
theorem Qvz (p1 : Val) (_o0 : PDecoder) (H : H_Km p1) : (H_Kg p1) ∧ (H_Kn p1) ∧ (H_Ku p1) ∧ (H_Kc p1) ∧ True := by
  repeat' with_reducible apply And.intro
  all_goals first | exact True.intro | exact H | exact Qo5 (Q3j H _)
theorem t_Km (p1 : Val) (o0 : PDecoder) (H : H_Km p1) : Qd G (c_Km p1 o0) (a_Km p1 o0) := by
 unfold a_Km
 rw [e_Km]
 exact Qj (fn := Ir.Km) rfl (h := [⟨1, 0, false, (PDecoder.cells o0)⟩]) (vw := []) VOK.nil [] [aN (t_Ko p1 o0), aN (t_Kg p1 Q25 (s_Ko p1 o0).2 (Qvz p1 o0 H).1), aN (t_Kn p1 Qy (s_Kg p1 Q25 (s_Ko p1 o0).2).2 (Qvz p1 o0 H).2.1), aN (t_Ku p1 Qh (s_Kn p1 Qy (s_Kg p1 Q25 (s_Ko p1 o0).2).2).2 (Qvz p1 o0 H).2.2.1), aN (t_Kc p1 Qo (s_Ku p1 Qh (s_Kn p1 Qy (s_Kg p1 Q25 (s_Ko p1 o0).2).2).2).2 (Qvz p1 o0 H).2.2.2.1)] (by kernel_rfl)
def Q73 (p1 : Val) (p2 : BA) (o0 : PDecoder) : List Val → Nat → Bool → (List SpreadRule) → Bool × (List SpreadRule)
 | [], _i0, v0_1, v0_2 =>
  (v0_1, v0_2)
 | x0 :: r0, i0, v0_1, v0_2 =>
  Q73 p1 p2 o0 r0 (i0 + 1) (s_Km x0 (PDecoder.mk v0_1)).2.failed (v0_2 ++ [(s_Km x0 (PDecoder.mk v0_1)).1])
def Q13x (p1 : Val) (p2 : BA) (o0 : PDecoder) (i0 : Nat) (_v0_1 : Bool) (v0_2 : List SpreadRule) : List PV :=
  [.un, .un, .un, .fn 250 [.bx 0 0] []] ++ nuns 5 ++ [.ms 1 4 0 (List.length v0_2)] ++ nuns 6 ++ [.sl (Val.rows (s_Kd p1 p2 4 o0).1.list), .int .i64 ((List.length (s_Kd p1 p2 4 o0).1.list) : Int), .int .i64 (i0 : Int)] ++ nuns 11
def Qtn (_p1 : Val) (_p2 : BA) (_o0 : PDecoder) (_i0 : Nat) (v0_1 : Bool) (v0_2 : List SpreadRule) : List Ob :=
  [⟨1, 0, false, [.bool v0_1]⟩, ⟨4, 0, true, (SpreadRule.rows v0_2).flatten⟩]
def Qtf (p1 : Val) (p2 : BA) (o0 : PDecoder) (i0 : Nat) (v0_1 : Bool) (v0_2 : List SpreadRule) : En := .loop 1 Ir.Qow Ir.Q1qk (Q13x p1 p2 o0 i0 v0_1 v0_2) (Qtn p1 p2 o0 i0 v0_1 v0_2)
def Qz8 (_p1 : Val) (_p2 : BA) (_o0 : PDecoder) (q0 : Bool) (q1 : List SpreadRule) (z : Nat → PV) (_zo : Nat → List PV) : St :=
  ⟨zr z 0 9 ++ [.ms 1 4 0 (List.length q1)] ++ zr z 10 20, [(0, ⟨1, 0, false, [.bool q0]⟩), (1, ⟨4, 0, true, (SpreadRule.rows q1).flatten⟩)], 66⟩
theorem Q1cu (p1 : Val) (p2 : BA) (o0 : PDecoder) (i0 : Nat) (v0_1 : Bool) (v0_2 : List SpreadRule) : VOK (Go.Pv.look (number 0 (Qtn p1 p2 o0 i0 v0_1 v0_2))) [(1, SpreadRule.rows v0_2)] := (VOK.cons (show Seen _ _ from Q3r (ob := ⟨4, 0, true, (SpreadRule.rows v0_2).flatten⟩) (SpreadRule.Qk v0_2 4 rfl)) VOK.nil)
def Qvc (p1 : Val) (p2 : BA) (o0 : PDecoder) (e : En) (q : Bool × (List SpreadRule)) : Prop := ∃ z zo, Qd G e (.st (.exit 0) (Qz8 p1 p2 o0 q.1 q.2 z zo))
theorem Qyy (p1 : Val) (p2 : BA) (o0 : PDecoder) {e e' : En} (h : ∀ r, Qd G e r → Qd G e' r) : ∀ q, Qvc p1 p2 o0 e q → Qvc p1 p2 o0 e' q
  | _, ⟨z, zo, hz⟩ => ⟨z, zo, h _ hz⟩
def Qjw (p1 : Val) (p2 : BA) (o0 : PDecoder) : Prop := (List.length (s_Kd p1 p2 4 o0).1.list ≤ 137438953472) ∧ (∀ x0 ∈ (s_Kd p1 p2 4 o0).1.list, H_Km x0) ∧ True
def Qzi (p1 : Val) (p2 : BA) (o0 : PDecoder) (i0 : Nat) (_v0_1 : Bool) (_v0_2 : List SpreadRule) : List PV :=
  [.un, .un, .un, .fn 250 [.bx 0 0] []] ++ nuns 12 ++ [.sl (Val.rows (s_Kd p1 p2 4 o0).1.list), .int .i64 ((List.length (s_Kd p1 p2 4 o0).1.list) : Int), .int .i64 (i0 : Int), .bool false]
def Qqm (_p1 : Val) (_p2 : BA) (_o0 : PDecoder) (_i0 : Nat) (_v0_1 : Bool) (_v0_2 : List SpreadRule) : List (Nat × List PV) :=
  []
theorem Q1ga (p1 : Val) (p2 : BA) (o0 : PDecoder) (_H : Qjw p1 p2 o0) (i0 : Nat) (v0_1 : Bool) (v0_2 : List SpreadRule) (_ho0_0 : List.length v0_2 ≤ i0) (hc0 : (decide ((i0 : Int) < ((List.length (s_Kd p1 p2 4 o0).1.list) : Int))) = false) : Qvc p1 p2 o0 (Qtf p1 p2 o0 i0 v0_1 v0_2) (v0_1, v0_2) := by
 exact ⟨(envF (Qzi p1 p2 o0 i0 v0_1 v0_2)), (zoF (Qqm p1 p2 o0 i0 v0_1 v0_2)), Qv (Q1cu p1 p2 o0 i0 v0_1 v0_2) (x := ((.exit 0), Qz8 p1 p2 o0 v0_1 v0_2 (envF (Qzi p1 p2 o0 i0 v0_1 v0_2)) (zoF (Qqm p1 p2 o0 i0 v0_1 v0_2)))) [hB 0 hc0] [] (by kernel_rfl)⟩
theorem Q1eh (p1 : Val) (p2 : BA) (o0 : PDecoder) (H : Qjw p1 p2 o0) (x0 : Val) (i0 : Nat) (v0_1 : Bool) (v0_2 : List SpreadRule) (hx0 : (s_Kd p1 p2 4 o0).1.list[i0]? = some x0) (hi0 : i0 < List.length (s_Kd p1 p2 4 o0).1.list) (ho0_0 : List.length v0_2 ≤ i0) (hc0 : (decide ((i0 : Int) < ((List.length (s_Kd p1 p2 4 o0).1.list) : Int))) = true) {r : Rs} (hr : Qd G (Qtf p1 p2 o0 (i0 + 1) (s_Km x0 (PDecoder.mk v0_1)).2.failed (v0_2 ++ [(s_Km x0 (PDecoder.mk v0_1)).1])) r) : Qd G (Qtf p1 p2 o0 i0 v0_1 v0_2) r := by
 have hB0 := H.1
 exact Qu (Q1cu p1 p2 o0 i0 v0_1 v0_2) (y := (Q13x p1 p2 o0 (i0 + 1) (s_Km x0 (PDecoder.mk v0_1)).2.failed (v0_2 ++ [(s_Km x0 (PDecoder.mk v0_1)).1]), Qtn p1 p2 o0 (i0 + 1) (s_Km x0 (PDecoder.mk v0_1)).2.failed (v0_2 ++ [(s_Km x0 (PDecoder.mk v0_1)).1]))) [hB 0 hc0, hP 0 (Q35 5 (Val.rows (s_Kd p1 p2 4 o0).1.list) i0 _ (Val.Qz hx0) rfl), hV 8 [(642, SpreadRule.rows (v0_2 ++ [(s_Km x0 (PDecoder.mk v0_1)).1]))] (Q4a 1 578 642 4 56 0 0 true (SpreadRule.rows v0_2) (SpreadRule.rows (v0_2 ++ [(s_Km x0 (PDecoder.mk v0_1)).1])) (SpreadRule.cells (s_Km x0 (PDecoder.mk v0_1)).1) (List.length v0_2) (List.length (v0_2 ++ [(s_Km x0 (PDecoder.mk v0_1)).1])) rfl (SpreadRule.Qa v0_2).symm (SpreadRule.Qa (v0_2 ++ [(s_Km x0 (PDecoder.mk v0_1)).1])).symm (SpreadRule.Q23 v0_2 (s_Km x0 (PDecoder.mk v0_1)).1) (SpreadRule.Q12 v0_2) rfl (by omega)), hS 0 true (SpreadRule.Qk (v0_2 ++ [(s_Km x0 (PDecoder.mk v0_1)).1]) 4 rfl), hP 1 (Q2s i0 (by omega))] [aN (t_Km x0 (PDecoder.mk v0_1) (H.2.1 x0 (Q2z hx0)))] (by kernel_rfl) hr
theorem Q16l (p1 : Val) (p2 : BA) (o0 : PDecoder) (H : Qjw p1 p2 o0) : ∀ (r0 : List Val) (i0 : Nat) (v0_1 : Bool) (v0_2 : List SpreadRule), List.drop i0 (s_Kd p1 p2 4 o0).1.list = r0 → List.length v0_2 ≤ i0 → Qvc p1 p2 o0 (Qtf p1 p2 o0 i0 v0_1 v0_2) (Q73 p1 p2 o0 r0 i0 v0_1 v0_2)
 | [], i0, v0_1, v0_2, hd, ho0_0 => by
  have hc0 : (decide ((i0 : Int) < ((List.length (s_Kd p1 p2 4 o0).1.list) : Int))) = false := by have := Q1y hd; simp; omega
  rw [Q73]
  exact Q1ga p1 p2 o0 H i0 v0_1 v0_2 ho0_0 hc0
 | x0 :: r0, i0, v0_1, v0_2, hd, ho0_0 => by
  obtain ⟨hx0, hi0, hd'⟩ := Q1v hd
  have hc0 : (decide ((i0 : Int) < ((List.length (s_Kd p1 p2 4 o0).1.list) : Int))) = true := by simp; omega
  rw [Q73]
  exact Qyy p1 p2 o0 (fun r hr => Q1eh p1 p2 o0 H x0 i0 v0_1 v0_2 hx0 hi0 ho0_0 hc0 hr) _ (Q16l p1 p2 o0 H r0 (i0 + 1) (s_Km x0 (PDecoder.mk v0_1)).2.failed (v0_2 ++ [(s_Km x0 (PDecoder.mk v0_1)).1]) hd' (by first | omega | (simp; omega)))
def s_Kx (p1 : Val) (p2 : BA) (o0 : PDecoder) : List SpreadRule × PDecoder := ((dE SpreadRule.dec p1 p2).1, ft o0 (isM p1 && (dE SpreadRule.dec p1 p2).2))
theorem Q1f9 (p1 : Val) (p2 : BA) (o0 : PDecoder) : ∀ (l : List Val) (i : Nat) (b : Bool) (a : List SpreadRule), Q73 p1 p2 o0 l i b a = (b || !(l.all fun x => (SpreadRule.dec x).2), a ++ l.map (fun x => (SpreadRule.dec x).1))
  | [], _, b, a => by rw [Q73]; simp
  | x :: l, i, b, a => by
    rw [Q73]
    refine (Q1f9 p1 p2 o0 l (i + 1) (b || !(SpreadRule.dec x).2) (a ++ [(SpreadRule.dec x).1])).trans ?_
    simp only [List.append_assoc, List.singleton_append, List.map_cons, List.all_cons, Bool.not_and, Bool.or_assoc]
theorem e_Kx (p1 : Val) (p2 : BA) (o0 : PDecoder) : s_Kx p1 p2 o0 = (((Q73 p1 p2 o0 (s_Kd p1 p2 4 o0).1.list 0 (s_Kd p1 p2 4 o0).2.failed []).2, (PDecoder.mk (Q73 p1 p2 o0 (s_Kd p1 p2 4 o0).1.list 0 (s_Kd p1 p2 4 o0).2.failed []).1))) := by
  rw [Q1f9]
  unfold s_Kd s_Kx
  simp only [Q9o, Q57]
  refine Prod.ext rfl ?_
  rw [Q9c o0.failed (isM p1) _ _ _ (Qwx (prt p1 p2)), Q66]
  rfl
def c_Kx (p1 : Val) (p2 : BA) (o0 : PDecoder) : En := .call 249 [.bx 0 0, .agg (Val.cells p1), .str p2, .fn 250 [.bx 0 0] []] [⟨1, 0, false, (PDecoder.cells o0)⟩]
def r_Kx (_p1 : Val) (_p2 : BA) (_o0 : PDecoder) (q0 : List SpreadRule) (q1 : PDecoder) : Rs := .ret (.sl (SpreadRule.rows q0)) [⟨1, 0, false, (PDecoder.cells q1)⟩]
def a_Kx (p1 : Val) (p2 : BA) (o0 : PDecoder) : Rs := r_Kx p1 p2 o0 (s_Kx p1 p2 o0).1 (s_Kx p1 p2 o0).2
def H_Kx (p1 : Val) : Prop := Val.Sm 1000000000 p1
theorem Q1dp (p1 : Val) (p2 : BA) (o0 : PDecoder) (H : H_Kx p1) : (H_Kd p1) ∧ (Qjw p1 p2 o0) ∧ True := by
  have hl := Qem (Q3j H p2)
  refine ⟨H, ?_, trivial⟩
  unfold Qjw s_Kd
  simp only [Q9o]
  exact ⟨Nat.le_trans hl.1 (Nat.le_of_ble_eq_true rfl), hl.2, trivial⟩
theorem t_Kx (p1 : Val) (p2 : BA) (o0 : PDecoder) (H : H_Kx p1) : Qd G (c_Kx p1 p2 o0) (a_Kx p1 p2 o0) := by
 unfold a_Kx
 rw [e_Kx]
 have hl0 := Q16l p1 p2 o0 ((Q1dp p1 p2 o0 H).2.1) (s_Kd p1 p2 4 o0).1.list 0 (s_Kd p1 p2 4 o0).2.failed [] (by simp) (by simp)
 obtain ⟨z0, zo0, hl0⟩ := hl0
 exact Qj (fn := Ir.Kx) rfl (h := [⟨1, 0, false, (PDecoder.cells o0)⟩]) (vw := []) VOK.nil [hP 8 (Q1g (Val.rows (s_Kd p1 p2 4 o0).1.list) (List.length (s_Kd p1 p2 4 o0).1.list) (Val.Qa (s_Kd p1 p2 4 o0).1.list)), hS 0 true (SpreadRule.Qk (Q73 p1 p2 o0 (s_Kd p1 p2 4 o0).1.list 0 (s_Kd p1 p2 4 o0).2.failed []).2 4 rfl), hQ (SpreadRule.Qa (Q73 p1 p2 o0 (s_Kd p1 p2 4 o0).1.list 0 (s_Kd p1 p2 4 o0).2.failed []).2).symm] [aN (t_Kd p1 p2 4 o0 (Q1dp p1 p2 o0 H).1), aV [(1, SpreadRule.rows (Q73 p1 p2 o0 (s_Kd p1 p2 4 o0).1.list 0 (s_Kd p1 p2 4 o0).2.failed []).2)] hl0] (by kernel_rfl)
def s_Kr (p1 : Val) (o0 : PDecoder) : Toleration × PDecoder := ((Toleration.dec p1).1, ft o0 (Toleration.dec p1).2)
theorem e_Kr (p1 : Val) (o0 : PDecoder) : s_Kr p1 o0 = (((Toleration.mk (s_Kn p1 Q1m (s_Ko p1 o0).2).1 (s_Kn p1 Q1q (s_Kn p1 Q1m (s_Ko p1 o0).2).2).1 (s_Kc p1 Q2m (s_Kn p1 Q1q (s_Kn p1 Q1m (s_Ko p1 o0).2).2).2).1 (s_Kg p1 Q2r (s_Kc p1 Q2m (s_Kn p1 Q1q (s_Kn p1 Q1m (s_Ko p1 o0).2).2).2).2).1 (s_Kg p1 Q2j (s_Kg p1 Q2r (s_Kc p1 Q2m (s_Kn p1 Q1q (s_Kn p1 Q1m (s_Ko p1 o0).2).2).2).2).2).1), (s_Kg p1 Q2j (s_Kg p1 Q2r (s_Kc p1 Q2m (s_Kn p1 Q1q (s_Kn p1 Q1m (s_Ko p1 o0).2).2).2).2).2).2)) := by
  simp only [s_Ko, s_Kg, s_Kn, s_Kc, s_Kr, Toleration.dec, Qng, Bool.and_assoc, Bool.and_left_comm, Bool.and_comm, Bool.and_self_left]
def c_Kr (p1 : Val) (o0 : PDecoder) : En := .call 252 [.bx 0 0, .agg (Val.cells p1)] [⟨1, 0, false, (PDecoder.cells o0)⟩]
def r_Kr (_p1 : Val) (_o0 : PDecoder) (q0 : Toleration) (q1 : PDecoder) : Rs := .ret (.agg (Toleration.cells q0)) [⟨1, 0, false, (PDecoder.cells q1)⟩]
def a_Kr (p1 : Val) (o0 : PDecoder) : Rs := r_Kr p1 o0 (s_Kr p1 o0).1 (s_Kr p1 o0).2
def H_Kr (p1 : Val) : Prop := Val.Sm 1000000000 p1
theorem Qni (p1 : Val) (_o0 : PDecoder) (H : H_Kr p1) : (H_Kn p1) ∧ (H_Kc p1) ∧ (H_Kg p1) ∧ True := by
  repeat' with_reducible apply And.intro
  all_goals first | exact True.intro | exact H | exact Qo5 (Q3j H _)
theorem t_Kr (p1 : Val) (o0 : PDecoder) (H : H_Kr p1) : Qd G (c_Kr p1 o0) (a_Kr p1 o0) := by
 unfold a_Kr
 rw [e_Kr]
 exact Qj (fn := Ir.Kr) rfl (h := [⟨1, 0, false, (PDecoder.cells o0)⟩]) (vw := []) VOK.nil [] [aN (t_Ko p1 o0), aN (t_Kn p1 Q1m (s_Ko p1 o0).2 (Qni p1 o0 H).1), aN (t_Kn p1 Q1q (s_Kn p1 Q1m (s_Ko p1 o0).2).2 (Qni p1 o0 H).1), aN (t_Kc p1 Q2m (s_Kn p1 Q1q (s_Kn p1 Q1m (s_Ko p1 o0).2).2).2 (Qni p1 o0 H).2.1), aN (t_Kg p1 Q2r (s_Kc p1 Q2m (s_Kn p1 Q1q (s_Kn p1 Q1m (s_Ko p1 o0).2).2).2).2 (Qni p1 o0 H).2.2.1), aN (t_Kg p1 Q2j (s_Kg p1 Q2r (s_Kc p1 Q2m (s_Kn p1 Q1q (s_Kn p1 Q1m (s_Ko p1 o0).2).2).2).2).2 (Qni p1 o0 H).2.2.1)] (by kernel_rfl)
def Q74 (p1 : Val) (p2 : BA) (o0 : PDecoder) : List Val → Nat → Bool → (List Toleration) → Bool × (List Toleration)
 | [], _i0, v0_1, v0_2 =>
  (v0_1, v0_2)
 | x0 :: r0, i0, v0_1, v0_2 =>
  Q74 p1 p2 o0 r0 (i0 + 1) (s_Kr x0 (PDecoder.mk v0_1)).2.failed (v0_2 ++ [(s_Kr x0 (PDecoder.mk v0_1)).1])
def Q13y (p1 : Val) (p2 : BA) (o0 : PDecoder) (i0 : Nat) (_v0_1 : Bool) (v0_2 : List Toleration) : List PV :=
  [.un, .un, .un, .fn 252 [.bx 0 0] []] ++ nuns 5 ++ [.ms 1 5 0 (List.length v0_2)] ++ nuns 6 ++ [.sl (Val.rows (s_Kd p1 p2 4 o0).1.list), .int .i64 ((List.length (s_Kd p1 p2 4 o0).1.list) : Int), .int .i64 (i0 : Int)] ++ nuns 11
def Qto (_p1 : Val) (_p2 : BA) (_o0 : PDecoder) (_i0 : Nat) (v0_1 : Bool) (v0_2 : List Toleration) : List Ob :=
  [⟨1, 0, false, [.bool v0_1]⟩, ⟨5, 0, true, (Toleration.rows v0_2).flatten⟩]
def Qtg (p1 : Val) (p2 : BA) (o0 : PDecoder) (i0 : Nat) (v0_1 : Bool) (v0_2 : List Toleration) : En := .loop 1 Ir.Qox Ir.Q1ql (Q13y p1 p2 o0 i0 v0_1 v0_2) (Qto p1 p2 o0 i0 v0_1 v0_2)
def Qz9 (_p1 : Val) (_p2 : BA) (_o0 : PDecoder) (q0 : Bool) (q1 : List Toleration) (z : Nat → PV) (_zo : Nat → List PV) : St :=
  ⟨zr z 0 9 ++ [.ms 1 5 0 (List.length q1)] ++ zr z 10 20, [(0, ⟨1, 0, false, [.bool q0]⟩), (1, ⟨5, 0, true, (Toleration.rows q1).flatten⟩)], 66⟩
theorem Q1cv (p1 : Val) (p2 : BA) (o0 : PDecoder) (i0 : Nat) (v0_1 : Bool) (v0_2 : List Toleration) : VOK (Go.Pv.look (number 0 (Qto p1 p2 o0 i0 v0_1 v0_2))) [(1, Toleration.rows v0_2)] := (VOK.cons (show Seen _ _ from Q3r (ob := ⟨5, 0, true, (Toleration.rows v0_2).flatten⟩) (Toleration.Qk v0_2 5 rfl)) VOK.nil)
def Qvd (p1 : Val) (p2 : BA) (o0 : PDecoder) (e : En) (q : Bool × (List Toleration)) : Prop := ∃ z zo, Qd G e (.st (.exit 0) (Qz9 p1 p2 o0 q.1 q.2 z zo))
theorem Qyz (p1 : Val) (p2 : BA) (o0 : PDecoder) {e e' : En} (h : ∀ r, Qd G e r → Qd G e' r) : ∀ q, Qvd p1 p2 o0 e q → Qvd p1 p2 o0 e' q
  | _, ⟨z, zo, hz⟩ => ⟨z, zo, h _ hz⟩
def Qjx (p1 : Val) (p2 : BA) (o0 : PDecoder) : Prop := (List.length (s_Kd p1 p2 4 o0).1.list ≤ 137438953472) ∧ (∀ x0 ∈ (s_Kd p1 p2 4 o0).1.list, H_Kr x0) ∧ True
def Qzj (p1 : Val) (p2 : BA) (o0 : PDecoder) (i0 : Nat) (_v0_1 : Bool) (_v0_2 : List Toleration) : List PV :=
  [.un, .un, .un, .fn 252 [.bx 0 0] []] ++ nuns 12 ++ [.sl (Val.rows (s_Kd p1 p2 4 o0).1.list), .int .i64 ((List.length (s_Kd p1 p2 4 o0).1.list) : Int), .int .i64 (i0 : Int), .bool false]
def Qqn (_p1 : Val) (_p2 : BA) (_o0 : PDecoder) (_i0 : Nat) (_v0_1 : Bool) (_v0_2 : List Toleration) : List (Nat × List PV) :=
  []
theorem Q1gb (p1 : Val) (p2 : BA) (o0 : PDecoder) (_H : Qjx p1 p2 o0) (i0 : Nat) (v0_1 : Bool) (v0_2 : List Toleration) (_ho0_0 : List.length v0_2 ≤ i0) (hc0 : (decide ((i0 : Int) < ((List.length (s_Kd p1 p2 4 o0).1.list) : Int))) = false) : Qvd p1 p2 o0 (Qtg p1 p2 o0 i0 v0_1 v0_2) (v0_1, v0_2) := by
 exact ⟨(envF (Qzj p1 p2 o0 i0 v0_1 v0_2)), (zoF (Qqn p1 p2 o0 i0 v0_1 v0_2)), Qv (Q1cv p1 p2 o0 i0 v0_1 v0_2) (x := ((.exit 0), Qz9 p1 p2 o0 v0_1 v0_2 (envF (Qzj p1 p2 o0 i0 v0_1 v0_2)) (zoF (Qqn p1 p2 o0 i0 v0_1 v0_2)))) [hB 0 hc0] [] (by kernel_rfl)⟩
theorem Q1ei (p1 : Val) (p2 : BA) (o0 : PDecoder) (H : Qjx p1 p2 o0) (x0 : Val) (i0 : Nat) (v0_1 : Bool) (v0_2 : List Toleration) (hx0 : (s_Kd p1 p2 4 o0).1.list[i0]? = some x0) (hi0 : i0 < List.length (s_Kd p1 p2 4 o0).1.list) (ho0_0 : List.length v0_2 ≤ i0) (hc0 : (decide ((i0 : Int) < ((List.length (s_Kd p1 p2 4 o0).1.list) : Int))) = true) {r : Rs} (hr : Qd G (Qtg p1 p2 o0 (i0 + 1) (s_Kr x0 (PDecoder.mk v0_1)).2.failed (v0_2 ++ [(s_Kr x0 (PDecoder.mk v0_1)).1])) r) : Qd G (Qtg p1 p2 o0 i0 v0_1 v0_2) r := by
 have hB0 := H.1
 exact Qu (Q1cv p1 p2 o0 i0 v0_1 v0_2) (y := (Q13y p1 p2 o0 (i0 + 1) (s_Kr x0 (PDecoder.mk v0_1)).2.failed (v0_2 ++ [(s_Kr x0 (PDecoder.mk v0_1)).1]), Qto p1 p2 o0 (i0 + 1) (s_Kr x0 (PDecoder.mk v0_1)).2.failed (v0_2 ++ [(s_Kr x0 (PDecoder.mk v0_1)).1]))) [hB 0 hc0, hP 0 (Q35 5 (Val.rows (s_Kd p1 p2 4 o0).1.list) i0 _ (Val.Qz hx0) rfl), hV 8 [(642, Toleration.rows (v0_2 ++ [(s_Kr x0 (PDecoder.mk v0_1)).1]))] (Q4a 1 578 642 5 56 0 0 true (Toleration.rows v0_2) (Toleration.rows (v0_2 ++ [(s_Kr x0 (PDecoder.mk v0_1)).1])) (Toleration.cells (s_Kr x0 (PDecoder.mk v0_1)).1) (List.length v0_2) (List.length (v0_2 ++ [(s_Kr x0 (PDecoder.mk v0_1)).1])) rfl (Toleration.Qa v0_2).symm (Toleration.Qa (v0_2 ++ [(s_Kr x0 (PDecoder.mk v0_1)).1])).symm (Toleration.Q23 v0_2 (s_Kr x0 (PDecoder.mk v0_1)).1) (Toleration.Q12 v0_2) rfl (by omega)), hS 0 true (Toleration.Qk (v0_2 ++ [(s_Kr x0 (PDecoder.mk v0_1)).1]) 5 rfl), hP 1 (Q2s i0 (by omega))] [aN (t_Kr x0 (PDecoder.mk v0_1) (H.2.1 x0 (Q2z hx0)))] (by kernel_rfl) hr
theorem Q16m (p1 : Val) (p2 : BA) (o0 : PDecoder) (H : Qjx p1 p2 o0) : ∀ (r0 : List Val) (i0 : Nat) (v0_1 : Bool) (v0_2 : List Toleration), List.drop i0 (s_Kd p1 p2 4 o0).1.list = r0 → List.length v0_2 ≤ i0 → Qvd p1 p2 o0 (Qtg p1 p2 o0 i0 v0_1 v0_2) (Q74 p1 p2 o0 r0 i0 v0_1 v0_2)
 | [], i0, v0_1, v0_2, hd, ho0_0 => by
  have hc0 : (decide ((i0 : Int) < ((List.length (s_Kd p1 p2 4 o0).1.list) : Int))) = false := by have := Q1y hd; simp; omega
  rw [Q74]
  exact Q1gb p1 p2 o0 H i0 v0_1 v0_2 ho0_0 hc0
 | x0 :: r0, i0, v0_1, v0_2, hd, ho0_0 => by
  obtain ⟨hx0, hi0, hd'⟩ := Q1v hd
  have hc0 : (decide ((i0 : Int) < ((List.length (s_Kd p1 p2 4 o0).1.list) : Int))) = true := by simp; omega
  rw [Q74]
  exact Qyz p1 p2 o0 (fun r hr => Q1ei p1 p2 o0 H x0 i0 v0_1 v0_2 hx0 hi0 ho0_0 hc0 hr) _ (Q16m p1 p2 o0 H r0 (i0 + 1) (s_Kr x0 (PDecoder.mk v0_1)).2.failed (v0_2 ++ [(s_Kr x0 (PDecoder.mk v0_1)).1]) hd' (by first | omega | (simp; omega)))
def s_Ky (p1 : Val) (p2 : BA) (o0 : PDecoder) : List Toleration × PDecoder := ((dE Toleration.dec p1 p2).1, ft o0 (isM p1 && (dE Toleration.dec p1 p2).2))
theorem Q1fa (p1 : Val) (p2 : BA) (o0 : PDecoder) : ∀ (l : List Val) (i : Nat) (b : Bool) (a : List Toleration), Q74 p1 p2 o0 l i b a = (b || !(l.all fun x => (Toleration.dec x).2), a ++ l.map (fun x => (Toleration.dec x).1))
  | [], _, b, a => by rw [Q74]; simp
  | x :: l, i, b, a => by
    rw [Q74]
    refine (Q1fa p1 p2 o0 l (i + 1) (b || !(Toleration.dec x).2) (a ++ [(Toleration.dec x).1])).trans ?_
    simp only [List.append_assoc, List.singleton_append, List.map_cons, List.all_cons, Bool.not_and, Bool.or_assoc]
theorem e_Ky (p1 : Val) (p2 : BA) (o0 : PDecoder) : s_Ky p1 p2 o0 = (((Q74 p1 p2 o0 (s_Kd p1 p2 4 o0).1.list 0 (s_Kd p1 p2 4 o0).2.failed []).2, (PDecoder.mk (Q74 p1 p2 o0 (s_Kd p1 p2 4 o0).1.list 0 (s_Kd p1 p2 4 o0).2.failed []).1))) := by
  rw [Q1fa]
  unfold s_Kd s_Ky
  simp only [Q9o, Q57]
  refine Prod.ext rfl ?_
  rw [Q9c o0.failed (isM p1) _ _ _ (Qwx (prt p1 p2)), Q66]
  rfl
def c_Ky (p1 : Val) (p2 : BA) (o0 : PDecoder) : En := .call 251 [.bx 0 0, .agg (Val.cells p1), .str p2, .fn 252 [.bx 0 0] []] [⟨1, 0, false, (PDecoder.cells o0)⟩]
def r_Ky (_p1 : Val) (_p2 : BA) (_o0 : PDecoder) (q0 : List Toleration) (q1 : PDecoder) : Rs := .ret (.sl (Toleration.rows q0)) [⟨1, 0, false, (PDecoder.cells q1)⟩]
def a_Ky (p1 : Val) (p2 : BA) (o0 : PDecoder) : Rs := r_Ky p1 p2 o0 (s_Ky p1 p2 o0).1 (s_Ky p1 p2 o0).2
def H_Ky (p1 : Val) : Prop := Val.Sm 1000000000 p1
theorem Q1dq (p1 : Val) (p2 : BA) (o0 : PDecoder) (H : H_Ky p1) : (H_Kd p1) ∧ (Qjx p1 p2 o0) ∧ True := by
  have hl := Qem (Q3j H p2)
  refine ⟨H, ?_, trivial⟩
  unfold Qjx s_Kd
  simp only [Q9o]
  exact ⟨Nat.le_trans hl.1 (Nat.le_of_ble_eq_true rfl), hl.2, trivial⟩
theorem t_Ky (p1 : Val) (p2 : BA) (o0 : PDecoder) (H : H_Ky p1) : Qd G (c_Ky p1 p2 o0) (a_Ky p1 p2 o0) := by
 unfold a_Ky
 rw [e_Ky]
 have hl0 := Q16m p1 p2 o0 ((Q1dq p1 p2 o0 H).2.1) (s_Kd p1 p2 4 o0).1.list 0 (s_Kd p1 p2 4 o0).2.failed [] (by simp) (by simp)
 obtain ⟨z0, zo0, hl0⟩ := hl0
 exact Qj (fn := Ir.Ky) rfl (h := [⟨1, 0, false, (PDecoder.cells o0)⟩]) (vw := []) VOK.nil [hP 8 (Q1g (Val.rows (s_Kd p1 p2 4 o0).1.list) (List.length (s_Kd p1 p2 4 o0).1.list) (Val.Qa (s_Kd p1 p2 4 o0).1.list)), hS 0 true (Toleration.Qk (Q74 p1 p2 o0 (s_Kd p1 p2 4 o0).1.list 0 (s_Kd p1 p2 4 o0).2.failed []).2 5 rfl), hQ (Toleration.Qa (Q74 p1 p2 o0 (s_Kd p1 p2 4 o0).1.list 0 (s_Kd p1 p2 4 o0).2.failed []).2).symm] [aN (t_Kd p1 p2 4 o0 (Q1dq p1 p2 o0 H).1), aV [(1, Toleration.rows (Q74 p1 p2 o0 (s_Kd p1 p2 4 o0).1.list 0 (s_Kd p1 p2 4 o0).2.failed []).2)] hl0] (by kernel_rfl)
def s_Kl (p1 : Val) (o0 : PDecoder) : PodSpec × PDecoder := ((PodSpec.dec p1).1, ft o0 (PodSpec.dec p1).2)
theorem e_Kl (p1 : Val) (o0 : PDecoder) : s_Kl p1 o0 = (((PodSpec.mk (s_Kn p1 Q3b (s_Ko p1 o0).2).1 (s_Kg p1 Q1z (s_Kn p1 Q3b (s_Ko p1 o0).2).2).1 (s_Kg p1 Q2b (s_Kg p1 Q1z (s_Kn p1 Q3b (s_Ko p1 o0).2).2).2).1 (s_Kg p1 Q38 (s_Kg p1 Q2b (s_Kg p1 Q1z (s_Kn p1 Q3b (s_Ko p1 o0).2).2).2).2).1 (s_Kt p1 Q1x (s_Kg p1 Q38 (s_Kg p1 Q2b (s_Kg p1 Q1z (s_Kn p1 Q3b (s_Ko p1 o0).2).2).2).2).2).1 (s_Ku p1 Q1t (s_Kt p1 Q1x (s_Kg p1 Q38 (s_Kg p1 Q2b (s_Kg p1 Q1z (s_Kn p1 Q3b (s_Ko p1 o0).2).2).2).2).2).2).1 (s_Kv p1 Q2f (s_Ku p1 Q1t (s_Kt p1 Q1x (s_Kg p1 Q38 (s_Kg p1 Q2b (s_Kg p1 Q1z (s_Kn p1 Q3b (s_Ko p1 o0).2).2).2).2).2).2).2).1 (s_Kw p1 Q2x (s_Kv p1 Q2f (s_Ku p1 Q1t (s_Kt p1 Q1x (s_Kg p1 Q38 (s_Kg p1 Q2b (s_Kg p1 Q1z (s_Kn p1 Q3b (s_Ko p1 o0).2).2).2).2).2).2).2).2).1 (s_Kx p1 Q3m (s_Kw p1 Q2x (s_Kv p1 Q2f (s_Ku p1 Q1t (s_Kt p1 Q1x (s_Kg p1 Q38 (s_Kg p1 Q2b (s_Kg p1 Q1z (s_Kn p1 Q3b (s_Ko p1 o0).2).2).2).2).2).2).2).2).2).1 (s_Ky p1 Q2q (s_Kx p1 Q3m (s_Kw p1 Q2x (s_Kv p1 Q2f (s_Ku p1 Q1t (s_Kt p1 Q1x (s_Kg p1 Q38 (s_Kg p1 Q2b (s_Kg p1 Q1z (s_Kn p1 Q3b (s_Ko p1 o0).2).2).2).2).2).2).2).2).2).2).1), (s_Ky p1 Q2q (s_Kx p1 Q3m (s_Kw p1 Q2x (s_Kv p1 Q2f (s_Ku p1 Q1t (s_Kt p1 Q1x (s_Kg p1 Q38 (s_Kg p1 Q2b (s_Kg p1 Q1z (s_Kn p1 Q3b (s_Ko p1 o0).2).2).2).2).2).2).2).2).2).2).2)) := by
  simp only [s_Ko, s_Kg, s_Kn, s_Kt, s_Kv, s_Kw, s_Ku, s_Kx, s_Ky, s_Kl, PodSpec.dec, Qng, Bool.and_assoc, Bool.and_left_comm, Bool.and_comm, Bool.and_self_left]
def c_Kl (p1 : Val) (o0 : PDecoder) : En := .call 218 [.bx 0 0, .agg (Val.cells p1)] [⟨1, 0, false, (PDecoder.cells o0)⟩]
def r_Kl (_p1 : Val) (_o0 : PDecoder) (q0 : PodSpec) (q1 : PDecoder) : Rs := .ret (.agg (PodSpec.cells q0)) [⟨1, 0, false, (PDecoder.cells q1)⟩]
def a_Kl (p1 : Val) (o0 : PDecoder) : Rs := r_Kl p1 o0 (s_Kl p1 o0).1 (s_Kl p1 o0).2
def H_Kl (p1 : Val) : Prop := Val.Sm 1000000000 p1
theorem Q8g (p1 : Val) (_o0 : PDecoder) (H : H_Kl p1) : (H_Kn p1) ∧ (H_Kg p1) ∧ (H_Kt p1) ∧ (H_Ku p1) ∧ (H_Kv p1) ∧ (H_Kw p1) ∧ (H_Kx p1) ∧ (H_Ky p1) ∧ True := by
  repeat' with_reducible apply And.intro
  all_goals first | exact True.intro | exact H | exact Qo5 (Q3j H _)
theorem t_Kl (p1 : Val) (o0 : PDecoder) (H : H_Kl p1) : Qd G (c_Kl p1 o0) (a_Kl p1 o0) := by
 unfold a_Kl
 rw [e_Kl]
 exact Qj (fn := Ir.Kl) rfl (h := [⟨1, 0, false, (PDecoder.cells o0)⟩]) (vw := []) VOK.nil [] [aN (t_Ko p1 o0), aN (t_Kn p1 Q3b (s_Ko p1 o0).2 (Q8g p1 o0 H).1), aN (t_Kg p1 Q1z (s_Kn p1 Q3b (s_Ko p1 o0).2).2 (Q8g p1 o0 H).2.1), aN (t_Kg p1 Q2b (s_Kg p1 Q1z (s_Kn p1 Q3b (s_Ko p1 o0).2).2).2 (Q8g p1 o0 H).2.1), aN (t_Kg p1 Q38 (s_Kg p1 Q2b (s_Kg p1 Q1z (s_Kn p1 Q3b (s_Ko p1 o0).2).2).2).2 (Q8g p1 o0 H).2.1), aN (t_Kt p1 Q1x (s_Kg p1 Q38 (s_Kg p1 Q2b (s_Kg p1 Q1z (s_Kn p1 Q3b (s_Ko p1 o0).2).2).2).2).2 (Q8g p1 o0 H).2.2.1), aN (t_Ku p1 Q1t (s_Kt p1 Q1x (s_Kg p1 Q38 (s_Kg p1 Q2b (s_Kg p1 Q1z (s_Kn p1 Q3b (s_Ko p1 o0).2).2).2).2).2).2 (Q8g p1 o0 H).2.2.2.1), aN (t_Kv p1 Q2f (s_Ku p1 Q1t (s_Kt p1 Q1x (s_Kg p1 Q38 (s_Kg p1 Q2b (s_Kg p1 Q1z (s_Kn p1 Q3b (s_Ko p1 o0).2).2).2).2).2).2).2 (Q8g p1 o0 H).2.2.2.2.1), aN (t_Kw p1 Q2x (s_Kv p1 Q2f (s_Ku p1 Q1t (s_Kt p1 Q1x (s_Kg p1 Q38 (s_Kg p1 Q2b (s_Kg p1 Q1z (s_Kn p1 Q3b (s_Ko p1 o0).2).2).2).2).2).2).2).2 (Q8g p1 o0 H).2.2.2.2.2.1), aN (t_Kx p1 Q3m (s_Kw p1 Q2x (s_Kv p1 Q2f (s_Ku p1 Q1t (s_Kt p1 Q1x (s_Kg p1 Q38 (s_Kg p1 Q2b (s_Kg p1 Q1z (s_Kn p1 Q3b (s_Ko p1 o0).2).2).2).2).2).2).2).2).2 (Q8g p1 o0 H).2.2.2.2.2.2.1), aN (t_Ky p1 Q2q (s_Kx p1 Q3m (s_Kw p1 Q2x (s_Kv p1 Q2f (s_Ku p1 Q1t (s_Kt p1 Q1x (s_Kg p1 Q38 (s_Kg p1 Q2b (s_Kg p1 Q1z (s_Kn p1 Q3b (s_Ko p1 o0).2).2).2).2).2).2).2).2).2).2 (Q8g p1 o0 H).2.2.2.2.2.2.2.1)] (by kernel_rfl)
def s_Ke (p1 : Val) (o0 : PDecoder) : Label × PDecoder := ((Label.dec p1).1, ft o0 (Label.dec p1).2)
theorem e_Ke (p1 : Val) (o0 : PDecoder) : s_Ke p1 o0 = (((Label.mk (s_Kn p1 Q1m (s_Ko p1 o0).2).1 (s_Kn p1 Q1q (s_Kn p1 Q1m (s_Ko p1 o0).2).2).1), (s_Kn p1 Q1q (s_Kn p1 Q1m (s_Ko p1 o0).2).2).2)) := by
  simp only [s_Ko, s_Kn, s_Ke, Label.dec, Qng, Bool.and_assoc, Bool.and_left_comm, Bool.and_self_left]
def c_Ke (p1 : Val) (o0 : PDecoder) : En := .call 217 [.bx 0 0, .agg (Val.cells p1)] [⟨1, 0, false, (PDecoder.cells o0)⟩]
def r_Ke (_p1 : Val) (_o0 : PDecoder) (q0 : Label) (q1 : PDecoder) : Rs := .ret (.agg (Label.cells q0)) [⟨1, 0, false, (PDecoder.cells q1)⟩]
def a_Ke (p1 : Val) (o0 : PDecoder) : Rs := r_Ke p1 o0 (s_Ke p1 o0).1 (s_Ke p1 o0).2
def H_Ke (p1 : Val) : Prop := Val.Sm 1000000000 p1
theorem Q1dj (p1 : Val) (_o0 : PDecoder) (H : H_Ke p1) : (H_Kn p1) ∧ True := by
  repeat' with_reducible apply And.intro
  all_goals first | exact True.intro | exact H | exact Qo5 (Q3j H _)
theorem t_Ke (p1 : Val) (o0 : PDecoder) (H : H_Ke p1) : Qd G (c_Ke p1 o0) (a_Ke p1 o0) := by
 unfold a_Ke
 rw [e_Ke]
 exact Qj (fn := Ir.Ke) rfl (h := [⟨1, 0, false, (PDecoder.cells o0)⟩]) (vw := []) VOK.nil [] [aN (t_Ko p1 o0), aN (t_Kn p1 Q1m (s_Ko p1 o0).2 (Q1dj p1 o0 H).1), aN (t_Kn p1 Q1q (s_Kn p1 Q1m (s_Ko p1 o0).2).2 (Q1dj p1 o0 H).1)] (by kernel_rfl)
def Q6y (p1 : Val) (p2 : BA) (o0 : PDecoder) : List Val → Nat → Bool → (List Label) → Bool × (List Label)
 | [], _i0, v0_1, v0_2 =>
  (v0_1, v0_2)
 | x0 :: r0, i0, v0_1, v0_2 =>
  Q6y p1 p2 o0 r0 (i0 + 1) (s_Ke x0 (PDecoder.mk v0_1)).2.failed (v0_2 ++ [(s_Ke x0 (PDecoder.mk v0_1)).1])
def Q13s (p1 : Val) (p2 : BA) (o0 : PDecoder) (i0 : Nat) (_v0_1 : Bool) (v0_2 : List Label) : List PV :=
  [.un, .un, .un, .fn 217 [.bx 0 0] []] ++ nuns 5 ++ [.ms 1 2 0 (List.length v0_2)] ++ nuns 6 ++ [.sl (Val.rows (s_Kd p1 p2 4 o0).1.list), .int .i64 ((List.length (s_Kd p1 p2 4 o0).1.list) : Int), .int .i64 (i0 : Int)] ++ nuns 11
def Qti (_p1 : Val) (_p2 : BA) (_o0 : PDecoder) (_i0 : Nat) (v0_1 : Bool) (v0_2 : List Label) : List Ob :=
  [⟨1, 0, false, [.bool v0_1]⟩, ⟨2, 0, true, (Label.rows v0_2).flatten⟩]
def Qta (p1 : Val) (p2 : BA) (o0 : PDecoder) (i0 : Nat) (v0_1 : Bool) (v0_2 : List Label) : En := .loop 1 Ir.Qor Ir.Q1qf (Q13s p1 p2 o0 i0 v0_1 v0_2) (Qti p1 p2 o0 i0 v0_1 v0_2)
def Qz3 (_p1 : Val) (_p2 : BA) (_o0 : PDecoder) (q0 : Bool) (q1 : List Label) (z : Nat → PV) (_zo : Nat → List PV) : St :=
  ⟨zr z 0 9 ++ [.ms 1 2 0 (List.length q1)] ++ zr z 10 20, [(0, ⟨1, 0, false, [.bool q0]⟩), (1, ⟨2, 0, true, (Label.rows q1).flatten⟩)], 66⟩
theorem Q1cp (p1 : Val) (p2 : BA) (o0 : PDecoder) (i0 : Nat) (v0_1 : Bool) (v0_2 : List Label) : VOK (Go.Pv.look (number 0 (Qti p1 p2 o0 i0 v0_1 v0_2))) [(1, Label.rows v0_2)] := (VOK.cons (show Seen _ _ from Q3r (ob := ⟨2, 0, true, (Label.rows v0_2).flatten⟩) (Label.Qk v0_2 2 rfl)) VOK.nil)
def Qv7 (p1 : Val) (p2 : BA) (o0 : PDecoder) (e : En) (q : Bool × (List Label)) : Prop := ∃ z zo, Qd G e (.st (.exit 0) (Qz3 p1 p2 o0 q.1 q.2 z zo))
theorem Qyt (p1 : Val) (p2 : BA) (o0 : PDecoder) {e e' : En} (h : ∀ r, Qd G e r → Qd G e' r) : ∀ q, Qv7 p1 p2 o0 e q → Qv7 p1 p2 o0 e' q
  | _, ⟨z, zo, hz⟩ => ⟨z, zo, h _ hz⟩
def Qjr (p1 : Val) (p2 : BA) (o0 : PDecoder) : Prop := (List.length (s_Kd p1 p2 4 o0).1.list ≤ 137438953472) ∧ (∀ x0 ∈ (s_Kd p1 p2 4 o0).1.list, H_Ke x0) ∧ True
def Qzd (p1 : Val) (p2 : BA) (o0 : PDecoder) (i0 : Nat) (_v0_1 : Bool) (_v0_2 : List Label) : List PV :=
  [.un, .un, .un, .fn 217 [.bx 0 0] []] ++ nuns 12 ++ [.sl (Val.rows (s_Kd p1 p2 4 o0).1.list), .int .i64 ((List.length (s_Kd p1 p2 4 o0).1.list) : Int), .int .i64 (i0 : Int), .bool false]
def Qqh (_p1 : Val) (_p2 : BA) (_o0 : PDecoder) (_i0 : Nat) (_v0_1 : Bool) (_v0_2 : List Label) : List (Nat × List PV) :=
  []
theorem Q1g5 (p1 : Val) (p2 : BA) (o0 : PDecoder) (_H : Qjr p1 p2 o0) (i0 : Nat) (v0_1 : Bool) (v0_2 : List Label) (_ho0_0 : List.length v0_2 ≤ i0) (hc0 : (decide ((i0 : Int) < ((List.length (s_Kd p1 p2 4 o0).1.list) : Int))) = false) : Qv7 p1 p2 o0 (Qta p1 p2 o0 i0 v0_1 v0_2) (v0_1, v0_2) := by
 exact ⟨(envF (Qzd p1 p2 o0 i0 v0_1 v0_2)), (zoF (Qqh p1 p2 o0 i0 v0_1 v0_2)), Qv (Q1cp p1 p2 o0 i0 v0_1 v0_2) (x := ((.exit 0), Qz3 p1 p2 o0 v0_1 v0_2 (envF (Qzd p1 p2 o0 i0 v0_1 v0_2)) (zoF (Qqh p1 p2 o0 i0 v0_1 v0_2)))) [hB 0 hc0] [] (by kernel_rfl)⟩
theorem Q1ec (p1 : Val) (p2 : BA) (o0 : PDecoder) (H : Qjr p1 p2 o0) (x0 : Val) (i0 : Nat) (v0_1 : Bool) (v0_2 : List Label) (hx0 : (s_Kd p1 p2 4 o0).1.list[i0]? = some x0) (hi0 : i0 < List.length (s_Kd p1 p2 4 o0).1.list) (ho0_0 : List.length v0_2 ≤ i0) (hc0 : (decide ((i0 : Int) < ((List.length (s_Kd p1 p2 4 o0).1.list) : Int))) = true) {r : Rs} (hr : Qd G (Qta p1 p2 o0 (i0 + 1) (s_Ke x0 (PDecoder.mk v0_1)).2.failed (v0_2 ++ [(s_Ke x0 (PDecoder.mk v0_1)).1])) r) : Qd G (Qta p1 p2 o0 i0 v0_1 v0_2) r := by
 have hB0 := H.1
 exact Qu (Q1cp p1 p2 o0 i0 v0_1 v0_2) (y := (Q13s p1 p2 o0 (i0 + 1) (s_Ke x0 (PDecoder.mk v0_1)).2.failed (v0_2 ++ [(s_Ke x0 (PDecoder.mk v0_1)).1]), Qti p1 p2 o0 (i0 + 1) (s_Ke x0 (PDecoder.mk v0_1)).2.failed (v0_2 ++ [(s_Ke x0 (PDecoder.mk v0_1)).1]))) [hB 0 hc0, hP 0 (Q35 5 (Val.rows (s_Kd p1 p2 4 o0).1.list) i0 _ (Val.Qz hx0) rfl), hV 8 [(642, Label.rows (v0_2 ++ [(s_Ke x0 (PDecoder.mk v0_1)).1]))] (Q4a 1 578 642 2 32 0 0 true (Label.rows v0_2) (Label.rows (v0_2 ++ [(s_Ke x0 (PDecoder.mk v0_1)).1])) (Label.cells (s_Ke x0 (PDecoder.mk v0_1)).1) (List.length v0_2) (List.length (v0_2 ++ [(s_Ke x0 (PDecoder.mk v0_1)).1])) rfl (Label.Qa v0_2).symm (Label.Qa (v0_2 ++ [(s_Ke x0 (PDecoder.mk v0_1)).1])).symm (Label.Q23 v0_2 (s_Ke x0 (PDecoder.mk v0_1)).1) (Label.Q12 v0_2) rfl (by omega)), hS 0 true (Label.Qk (v0_2 ++ [(s_Ke x0 (PDecoder.mk v0_1)).1]) 2 rfl), hP 1 (Q2s i0 (by omega))] [aN (t_Ke x0 (PDecoder.mk v0_1) (H.2.1 x0 (Q2z hx0)))] (by kernel_rfl) hr
theorem Q16g (p1 : Val) (p2 : BA) (o0 : PDecoder) (H : Qjr p1 p2 o0) : ∀ (r0 : List Val) (i0 : Nat) (v0_1 : Bool) (v0_2 : List Label), List.drop i0 (s_Kd p1 p2 4 o0).1.list = r0 → List.length v0_2 ≤ i0 → Qv7 p1 p2 o0 (Qta p1 p2 o0 i0 v0_1 v0_2) (Q6y p1 p2 o0 r0 i0 v0_1 v0_2)
 | [], i0, v0_1, v0_2, hd, ho0_0 => by
  have hc0 : (decide ((i0 : Int) < ((List.length (s_Kd p1 p2 4 o0).1.list) : Int))) = false := by have := Q1y hd; simp; omega
  rw [Q6y]
  exact Q1g5 p1 p2 o0 H i0 v0_1 v0_2 ho0_0 hc0
 | x0 :: r0, i0, v0_1, v0_2, hd, ho0_0 => by
  obtain ⟨hx0, hi0, hd'⟩ := Q1v hd
  have hc0 : (decide ((i0 : Int) < ((List.length (s_Kd p1 p2 4 o0).1.list) : Int))) = true := by simp; omega
  rw [Q6y]
  exact Qyt p1 p2 o0 (fun r hr => Q1ec p1 p2 o0 H x0 i0 v0_1 v0_2 hx0 hi0 ho0_0 hc0 hr) _ (Q16g p1 p2 o0 H r0 (i0 + 1) (s_Ke x0 (PDecoder.mk v0_1)).2.failed (v0_2 ++ [(s_Ke x0 (PDecoder.mk v0_1)).1]) hd' (by first | omega | (simp; omega)))
def s_Ks (p1 : Val) (p2 : BA) (o0 : PDecoder) : List Label × PDecoder := ((dE Label.dec p1 p2).1, ft o0 (isM p1 && (dE Label.dec p1 p2).2))
theorem Q1f4 (p1 : Val) (p2 : BA) (o0 : PDecoder) : ∀ (l : List Val) (i : Nat) (b : Bool) (a : List Label), Q6y p1 p2 o0 l i b a = (b || !(l.all fun x => (Label.dec x).2), a ++ l.map (fun x => (Label.dec x).1))
  | [], _, b, a => by rw [Q6y]; simp
  | x :: l, i, b, a => by
    rw [Q6y]
    refine (Q1f4 p1 p2 o0 l (i + 1) (b || !(Label.dec x).2) (a ++ [(Label.dec x).1])).trans ?_
    simp only [List.append_assoc, List.singleton_append, List.map_cons, List.all_cons, Bool.not_and, Bool.or_assoc]
theorem e_Ks (p1 : Val) (p2 : BA) (o0 : PDecoder) : s_Ks p1 p2 o0 = (((Q6y p1 p2 o0 (s_Kd p1 p2 4 o0).1.list 0 (s_Kd p1 p2 4 o0).2.failed []).2, (PDecoder.mk (Q6y p1 p2 o0 (s_Kd p1 p2 4 o0).1.list 0 (s_Kd p1 p2 4 o0).2.failed []).1))) := by
  rw [Q1f4]
  unfold s_Kd s_Ks
  simp only [Q9o, Q57]
  refine Prod.ext rfl ?_
  rw [Q9c o0.failed (isM p1) _ _ _ (Qwx (prt p1 p2)), Q66]
  rfl
def c_Ks (p1 : Val) (p2 : BA) (o0 : PDecoder) : En := .call 216 [.bx 0 0, .agg (Val.cells p1), .str p2, .fn 217 [.bx 0 0] []] [⟨1, 0, false, (PDecoder.cells o0)⟩]
def r_Ks (_p1 : Val) (_p2 : BA) (_o0 : PDecoder) (q0 : List Label) (q1 : PDecoder) : Rs := .ret (.sl (Label.rows q0)) [⟨1, 0, false, (PDecoder.cells q1)⟩]
def a_Ks (p1 : Val) (p2 : BA) (o0 : PDecoder) : Rs := r_Ks p1 p2 o0 (s_Ks p1 p2 o0).1 (s_Ks p1 p2 o0).2
def H_Ks (p1 : Val) : Prop := Val.Sm 1000000000 p1
theorem Q1dk (p1 : Val) (p2 : BA) (o0 : PDecoder) (H : H_Ks p1) : (H_Kd p1) ∧ (Qjr p1 p2 o0) ∧ True := by
  have hl := Qem (Q3j H p2)
  refine ⟨H, ?_, trivial⟩
  unfold Qjr s_Kd
  simp only [Q9o]
  exact ⟨Nat.le_trans hl.1 (Nat.le_of_ble_eq_true rfl), hl.2, trivial⟩
theorem t_Ks (p1 : Val) (p2 : BA) (o0 : PDecoder) (H : H_Ks p1) : Qd G (c_Ks p1 p2 o0) (a_Ks p1 p2 o0) := by
 unfold a_Ks
 rw [e_Ks]
 have hl0 := Q16g p1 p2 o0 ((Q1dk p1 p2 o0 H).2.1) (s_Kd p1 p2 4 o0).1.list 0 (s_Kd p1 p2 4 o0).2.failed [] (by simp) (by simp)
 obtain ⟨z0, zo0, hl0⟩ := hl0
 exact Qj (fn := Ir.Ks) rfl (h := [⟨1, 0, false, (PDecoder.cells o0)⟩]) (vw := []) VOK.nil [hP 8 (Q1g (Val.rows (s_Kd p1 p2 4 o0).1.list) (List.length (s_Kd p1 p2 4 o0).1.list) (Val.Qa (s_Kd p1 p2 4 o0).1.list)), hS 0 true (Label.Qk (Q6y p1 p2 o0 (s_Kd p1 p2 4 o0).1.list 0 (s_Kd p1 p2 4 o0).2.failed []).2 2 rfl), hQ (Label.Qa (Q6y p1 p2 o0 (s_Kd p1 p2 4 o0).1.list 0 (s_Kd p1 p2 4 o0).2.failed []).2).symm] [aN (t_Kd p1 p2 4 o0 (Q1dk p1 p2 o0 H).1), aV [(1, Label.rows (Q6y p1 p2 o0 (s_Kd p1 p2 4 o0).1.list 0 (s_Kd p1 p2 4 o0).2.failed []).2)] hl0] (by kernel_rfl)
def s_Ka (p0 : Val) : Template × Int := Q1av p0
theorem e_Ka (p0 : Val) : s_Ka p0 = (bif (s_Kl (s_Kp p0 Q3g (s_Ks p0 Q2h (s_Ko p0 (PDecoder.mk false)).2).2).1 (s_Kp p0 Q3g (s_Ks p0 Q2h (s_Ko p0 (PDecoder.mk false)).2).2).2).2.failed then
    ((Template.mk [] (PodSpec.mk eB 0 0 0 [] [] [] [] [] [])), 6)
  else
    ((Template.mk (s_Ks p0 Q2h (s_Ko p0 (PDecoder.mk false)).2).1 (s_Kl (s_Kp p0 Q3g (s_Ks p0 Q2h (s_Ko p0 (PDecoder.mk false)).2).2).1 (s_Kp p0 Q3g (s_Ks p0 Q2h (s_Ko p0 (PDecoder.mk false)).2).2).2).1), 0)) := by
  unfold s_Ka Q1av Template.dec
  simp only [s_Ko, s_Kp, s_Kl, s_Ks, PodSpec.sub1, dT, PodSpec.sub2, Qng, Q57, Bool.false_or, Bool.and_assoc, Bool.and_left_comm, Bool.and_comm, Bool.and_self_left]
  rfl
def c_Ka (p0 : Val) : En := .call 183 [.agg (Val.cells p0)] []
def a_Ka (p0 : Val) : Rs := .ret (.tup [.agg (Template.cells (s_Ka p0).1), .int .i64 (s_Ka p0).2]) []
def H_Ka (p0 : Val) : Prop := Val.Sm 1000000000 p0
theorem Qe8 (p0 : Val) (H : H_Ka p0) : (H_Ks p0) ∧ (H_Kp p0) ∧ (H_Kl (s_Kp p0 Q3g (s_Ks p0 Q2h (s_Ko p0 (PDecoder.mk false)).2).2).1) ∧ True := by
  repeat' with_reducible apply And.intro
  all_goals first | exact True.intro | exact H | exact Qo5 (Q3j H _)
theorem t_Ka (p0 : Val) (H : H_Ka p0) : Qd G (c_Ka p0) (a_Ka p0) := by
 unfold a_Ka
 rw [e_Ka]
 cases h0 : (s_Kl (s_Kp p0 Q3g (s_Ks p0 Q2h (s_Ko p0 (PDecoder.mk false)).2).2).1 (s_Kp p0 Q3g (s_Ks p0 Q2h (s_Ko p0 (PDecoder.mk false)).2).2).2).2.failed with
 | true =>
  exact Qj (fn := Ir.Ka) rfl VOK.nil [hP 25 (decR (s_Kl (s_Kp p0 Q3g (s_Ks p0 Q2h (s_Ko p0 (PDecoder.mk false)).2).2).1 (s_Kp p0 Q3g (s_Ks p0 Q2h (s_Ko p0 (PDecoder.mk false)).2).2).2).2.failed true [256] h0)] [aN (t_Ko p0 (PDecoder.mk false)), aN (t_Ks p0 Q2h (s_Ko p0 (PDecoder.mk false)).2 (Qe8 p0 H).1), aN (t_Kp p0 Q3g (s_Ks p0 Q2h (s_Ko p0 (PDecoder.mk false)).2).2 (Qe8 p0 H).2.1), aN (t_Kl (s_Kp p0 Q3g (s_Ks p0 Q2h (s_Ko p0 (PDecoder.mk false)).2).2).1 (s_Kp p0 Q3g (s_Ks p0 Q2h (s_Ko p0 (PDecoder.mk false)).2).2).2 (Qe8 p0 H).2.2.1)] (by kernel_rfl)
 | false =>
  exact Qj (fn := Ir.Ka) rfl VOK.nil [hP 25 (decR (s_Kl (s_Kp p0 Q3g (s_Ks p0 Q2h (s_Ko p0 (PDecoder.mk false)).2).2).1 (s_Kp p0 Q3g (s_Ks p0 Q2h (s_Ko p0 (PDecoder.mk false)).2).2).2).2.failed false [256] h0)] [aN (t_Ko p0 (PDecoder.mk false)), aN (t_Ks p0 Q2h (s_Ko p0 (PDecoder.mk false)).2 (Qe8 p0 H).1), aN (t_Kp p0 Q3g (s_Ks p0 Q2h (s_Ko p0 (PDecoder.mk false)).2).2 (Qe8 p0 H).2.1), aN (t_Kl (s_Kp p0 Q3g (s_Ks p0 Q2h (s_Ko p0 (PDecoder.mk false)).2).2).1 (s_Kp p0 Q3g (s_Ks p0 Q2h (s_Ko p0 (PDecoder.mk false)).2).2).2 (Qe8 p0 H).2.2.1)] (by kernel_rfl)
end Go.Proofs.YtimjjohlpnkacaaGreat
end

