/- Texts of the claim, merged by a program; what the statement does not reach is left out. -/
import Derived.Test.YtimjjohlpnkacaaGreatBWorkcodecJobs5

section
/- What the decoders of templates compute (printed by a program). -/
namespace Go.Proofs.YtimjjohlpnkacaaGreat
open Go.Pv
structure PDecoder where
  failed : Bool
def PDecoder.cells (x : PDecoder) : List PV :=
  [.bool x.failed]
def PDecoder.rows (l : List PDecoder) : List (List PV) := l.map PDecoder.cells
def ft (o : PDecoder) (b : Bool) : PDecoder := ⟨o.failed || !b⟩
theorem Qlt (o : PDecoder) (a b : Bool) : ft (ft o a) b = ft o (a && b) := by
  unfold ft
  simp only [Bool.not_and, Bool.or_assoc]
theorem Q4r (o : PDecoder) (b : Bool) : (ft o b).failed = (o.failed || !b) := rfl
theorem Q5p (o : PDecoder) (b : Bool) : PDecoder.mk (o.failed || !b) = ft o b := rfl
theorem Q8u (p1 : Val) (p2 : BA) : (bif (prt p1 p2).kind == 4 then prt p1 p2 else vZ).list = (dL p1 p2).1 := by
  unfold dL xL
  cases ((prt p1 p2).kind == 4) <;> rfl
theorem Q8j (f m x y q : Bool) (h : x = y) : ((f || !(m && x)) || !q) = (f || !(m && (y && q))) := by subst h; cases f <;> cases m <;> cases x <;> cases q <;> rfl
theorem Qv2 (x : Val) : ((x.kind == 4) || (x.kind == 0)) = (xL x).2 := by unfold xL; cases (x.kind == 4) <;> rfl
def s_Ko (p1 : Val) (o0 : PDecoder) : Val × PDecoder := (p1, ft o0 (isM p1))
theorem e_Ko (p1 : Val) (o0 : PDecoder) : s_Ko p1 o0 = (bif o0.failed then
    (p1, (PDecoder.mk true))
  else
    bif (p1.kind == 5) then
      (p1, (PDecoder.mk false))
    else
      (p1, (PDecoder.mk (!(p1.kind == 0))))) := by
  obtain ⟨b⟩ := o0
  unfold s_Ko ft isM
  cases b <;> cases (p1.kind == 5) <;> cases (p1.kind == 0) <;> rfl
def c_Ko (p1 : Val) (o0 : PDecoder) : En := .call 215 [.bx 0 0, .agg (Val.cells p1)] [⟨1, 0, false, (PDecoder.cells o0)⟩]
def r_Ko (_p1 : Val) (_o0 : PDecoder) (q0 : Val) (q1 : PDecoder) : Rs := .ret (.agg (Val.cells q0)) [⟨1, 0, false, (PDecoder.cells q1)⟩]
def a_Ko (p1 : Val) (o0 : PDecoder) : Rs := r_Ko p1 o0 (s_Ko p1 o0).1 (s_Ko p1 o0).2
theorem t_Ko (p1 : Val) (o0 : PDecoder) : Q5 G (c_Ko p1 o0) (a_Ko p1 o0) := by
 unfold a_Ko
 rw [e_Ko]
 cases h0 : o0.failed with
 | true =>
  exact Q6 (fn := Ir.Ko) rfl (h := [⟨1, 0, false, (PDecoder.cells o0)⟩]) (vw := []) VOK.nil [hP 6 (decR o0.failed true [0] h0)] [] (by kernel_rfl)
 | false =>
  cases h1 : (p1.kind == 5) with
  | true =>
   exact Q6 (fn := Ir.Ko) rfl (h := [⟨1, 0, false, (PDecoder.cells o0)⟩]) (vw := []) VOK.nil [hP 6 (decR o0.failed false [0] h0), hP 3 (dec (!(p1.kind == 5)) false (by rw [h1]; rfl))] [] (by kernel_rfl)
  | false =>
   exact Q6 (fn := Ir.Ko) rfl (h := [⟨1, 0, false, (PDecoder.cells o0)⟩]) (vw := []) VOK.nil [hP 6 (decR o0.failed false [0] h0), hP 3 (dec (!(p1.kind == 5)) true (by rw [h1]; rfl))] [] (by kernel_rfl)
def s_Kd (p1 : Val) (p2 : BA) (p3 : Int) (o0 : PDecoder) : Val × PDecoder := (bif (prt p1 p2).kind == p3 then prt p1 p2 else vZ, ft o0 (isM p1 && ((prt p1 p2).kind == p3 || (prt p1 p2).kind == 0)))
theorem e_Kd (p1 : Val) (p2 : BA) (p3 : Int) (o0 : PDecoder) : s_Kd p1 p2 p3 o0 = (bif (p1.kind == 5) then
    bif ((Qn3 p1 p2).1.kind == p3) then
      ((Qn3 p1 p2).1, o0)
    else
      bif o0.failed then
        ((Val.mk 0 0 eB [] []), (PDecoder.mk true))
      else
        ((Val.mk 0 0 eB [] []), (PDecoder.mk (!((Qn3 p1 p2).1.kind == 0))))
  else
    bif o0.failed then
      ((Val.mk 0 0 eB [] []), (PDecoder.mk true))
    else
      ((Val.mk 0 0 eB [] []), (PDecoder.mk (!(p1.kind == 0))))) := by
  obtain ⟨b⟩ := o0
  unfold s_Kd ft
  rw [vprt]
  cases h : (p1.kind == 5) with
  | true =>
    rw [Q1b4 h]
    cases b <;> cases ((prt p1 p2).kind == p3) <;> cases ((prt p1 p2).kind == 0) <;> rfl
  | false =>
    rw [Qly h, Qme h]
    cases b <;> cases (p1.kind == 0) <;> cases (vZ.kind == p3) <;> rfl
def c_Kd (p1 : Val) (p2 : BA) (p3 : Int) (o0 : PDecoder) : En := .call 238 [.bx 0 0, .agg (Val.cells p1), .str p2, .int .i64 p3] [⟨1, 0, false, (PDecoder.cells o0)⟩]
def r_Kd (_p1 : Val) (_p2 : BA) (_p3 : Int) (_o0 : PDecoder) (q0 : Val) (q1 : PDecoder) : Rs := .ret (.agg (Val.cells q0)) [⟨1, 0, false, (PDecoder.cells q1)⟩]
def a_Kd (p1 : Val) (p2 : BA) (p3 : Int) (o0 : PDecoder) : Rs := r_Kd p1 p2 p3 o0 (s_Kd p1 p2 p3 o0).1 (s_Kd p1 p2 p3 o0).2
def H_Kd (p1 : Val) : Prop := Val.Sm 1000000000 p1
theorem Q10i (p1 : Val) (p2 : BA) (_p3 : Int) (_o0 : PDecoder) (H : H_Kd p1) : (Q1dk p1 p2) ∧ True := by
  exact ⟨Q1ne H _, trivial⟩
theorem t_Kd (p1 : Val) (p2 : BA) (p3 : Int) (o0 : PDecoder) (H : H_Kd p1) : Q5 G (c_Kd p1 p2 p3 o0) (a_Kd p1 p2 p3 o0) := by
 unfold a_Kd
 rw [e_Kd]
 cases h0 : (p1.kind == 5) with
 | true =>
  cases h1 : ((Qn3 p1 p2).1.kind == p3) with
  | true =>
   exact Q6 (fn := Ir.Kd) rfl (h := [⟨1, 0, false, (PDecoder.cells o0)⟩]) (vw := []) VOK.nil [hP 4 (dec (!(p1.kind == 5)) false (by rw [h0]; rfl)), hB 12 h1] [aN (Q1fw p1 p2 (Q10i p1 p2 p3 o0 H).1)] (by kernel_rfl)
  | false =>
   cases h2 : o0.failed with
   | true =>
    exact Q6 (fn := Ir.Kd) rfl (h := [⟨1, 0, false, (PDecoder.cells o0)⟩]) (vw := []) VOK.nil [hP 4 (dec (!(p1.kind == 5)) false (by rw [h0]; rfl)), hB 12 h1, hP 4 (decR o0.failed true [0] h2)] [aN (Q1fw p1 p2 (Q10i p1 p2 p3 o0 H).1)] (by kernel_rfl)
   | false =>
    exact Q6 (fn := Ir.Kd) rfl (h := [⟨1, 0, false, (PDecoder.cells o0)⟩]) (vw := []) VOK.nil [hP 4 (dec (!(p1.kind == 5)) false (by rw [h0]; rfl)), hB 12 h1, hP 4 (decR o0.failed false [0] h2)] [aN (Q1fw p1 p2 (Q10i p1 p2 p3 o0 H).1)] (by kernel_rfl)
 | false =>
  cases h1 : o0.failed with
  | true =>
   exact Q6 (fn := Ir.Kd) rfl (h := [⟨1, 0, false, (PDecoder.cells o0)⟩]) (vw := []) VOK.nil [hP 4 (dec (!(p1.kind == 5)) true (by rw [h0]; rfl)), hP 4 (decR o0.failed true [0] h1)] [] (by kernel_rfl)
  | false =>
   exact Q6 (fn := Ir.Kd) rfl (h := [⟨1, 0, false, (PDecoder.cells o0)⟩]) (vw := []) VOK.nil [hP 4 (dec (!(p1.kind == 5)) true (by rw [h0]; rfl)), hP 4 (decR o0.failed false [0] h1)] [] (by kernel_rfl)
def s_Kg (p1 : Val) (p2 : BA) (o0 : PDecoder) : Int × PDecoder := ((dN p1 p2).1, ft o0 (isM p1 && (dN p1 p2).2))
theorem e_Kg (p1 : Val) (p2 : BA) (o0 : PDecoder) : s_Kg p1 p2 o0 = (((s_Kd p1 p2 2 o0).1.n, (s_Kd p1 p2 2 o0).2)) := by
  unfold s_Kg s_Kd dN xN
  cases ((prt p1 p2).kind == 2) <;> rfl
def c_Kg (p1 : Val) (p2 : BA) (o0 : PDecoder) : En := .call 240 [.bx 0 0, .agg (Val.cells p1), .str p2] [⟨1, 0, false, (PDecoder.cells o0)⟩]
def r_Kg (_p1 : Val) (_p2 : BA) (_o0 : PDecoder) (q0 : Int) (q1 : PDecoder) : Rs := .ret (.int .i64 q0) [⟨1, 0, false, (PDecoder.cells q1)⟩]
def a_Kg (p1 : Val) (p2 : BA) (o0 : PDecoder) : Rs := r_Kg p1 p2 o0 (s_Kg p1 p2 o0).1 (s_Kg p1 p2 o0).2
def H_Kg (p1 : Val) : Prop := Val.Sm 1000000000 p1
theorem Q1ix (p1 : Val) (_p2 : BA) (_o0 : PDecoder) (H : H_Kg p1) : (H_Kd p1) ∧ True := by
  exact ⟨H, trivial⟩
theorem t_Kg (p1 : Val) (p2 : BA) (o0 : PDecoder) (H : H_Kg p1) : Q5 G (c_Kg p1 p2 o0) (a_Kg p1 p2 o0) := by
 unfold a_Kg
 rw [e_Kg]
 exact Q6 (fn := Ir.Kg) rfl (h := [⟨1, 0, false, (PDecoder.cells o0)⟩]) (vw := []) VOK.nil [] [aN (t_Kd p1 p2 2 o0 (Q1ix p1 p2 o0 H).1)] (by kernel_rfl)
def s_Kn (p1 : Val) (p2 : BA) (o0 : PDecoder) : ByteArray × PDecoder := ((dS p1 p2).1, ft o0 (isM p1 && (dS p1 p2).2))
theorem e_Kn (p1 : Val) (p2 : BA) (o0 : PDecoder) : s_Kn p1 p2 o0 = (((s_Kd p1 p2 3 o0).1.s, (s_Kd p1 p2 3 o0).2)) := by
  unfold s_Kn s_Kd dS xS
  cases ((prt p1 p2).kind == 3) <;> rfl
def c_Kn (p1 : Val) (p2 : BA) (o0 : PDecoder) : En := .call 239 [.bx 0 0, .agg (Val.cells p1), .str p2] [⟨1, 0, false, (PDecoder.cells o0)⟩]
def r_Kn (_p1 : Val) (_p2 : BA) (_o0 : PDecoder) (q0 : BA) (q1 : PDecoder) : Rs := .ret (.str q0) [⟨1, 0, false, (PDecoder.cells q1)⟩]
def a_Kn (p1 : Val) (p2 : BA) (o0 : PDecoder) : Rs := r_Kn p1 p2 o0 (s_Kn p1 p2 o0).1 (s_Kn p1 p2 o0).2
def H_Kn (p1 : Val) : Prop := Val.Sm 1000000000 p1
theorem Q1iy (p1 : Val) (_p2 : BA) (_o0 : PDecoder) (H : H_Kn p1) : (H_Kd p1) ∧ True := by
  exact ⟨H, trivial⟩
theorem t_Kn (p1 : Val) (p2 : BA) (o0 : PDecoder) (H : H_Kn p1) : Q5 G (c_Kn p1 p2 o0) (a_Kn p1 p2 o0) := by
 unfold a_Kn
 rw [e_Kn]
 exact Q6 (fn := Ir.Kn) rfl (h := [⟨1, 0, false, (PDecoder.cells o0)⟩]) (vw := []) VOK.nil [] [aN (t_Kd p1 p2 3 o0 (Q1iy p1 p2 o0 H).1)] (by kernel_rfl)
def s_Kc (p1 : Val) (p2 : BA) (o0 : PDecoder) : Bool × PDecoder := ((dB p1 p2).1, ft o0 (isM p1 && (dB p1 p2).2))
theorem e_Kc (p1 : Val) (p2 : BA) (o0 : PDecoder) : s_Kc p1 p2 o0 = (((!((s_Kd p1 p2 1 o0).1.n == 0)), (s_Kd p1 p2 1 o0).2)) := by
  unfold s_Kc s_Kd dB xB
  cases ((prt p1 p2).kind == 1) <;> rfl
def c_Kc (p1 : Val) (p2 : BA) (o0 : PDecoder) : En := .call 280 [.bx 0 0, .agg (Val.cells p1), .str p2] [⟨1, 0, false, (PDecoder.cells o0)⟩]
def r_Kc (_p1 : Val) (_p2 : BA) (_o0 : PDecoder) (q0 : Bool) (q1 : PDecoder) : Rs := .ret (.bool q0) [⟨1, 0, false, (PDecoder.cells q1)⟩]
def a_Kc (p1 : Val) (p2 : BA) (o0 : PDecoder) : Rs := r_Kc p1 p2 o0 (s_Kc p1 p2 o0).1 (s_Kc p1 p2 o0).2
def H_Kc (p1 : Val) : Prop := Val.Sm 1000000000 p1
theorem Q1iw (p1 : Val) (_p2 : BA) (_o0 : PDecoder) (H : H_Kc p1) : (H_Kd p1) ∧ True := by
  exact ⟨H, trivial⟩
theorem t_Kc (p1 : Val) (p2 : BA) (o0 : PDecoder) (H : H_Kc p1) : Q5 G (c_Kc p1 p2 o0) (a_Kc p1 p2 o0) := by
 unfold a_Kc
 rw [e_Kc]
 exact Q6 (fn := Ir.Kc) rfl (h := [⟨1, 0, false, (PDecoder.cells o0)⟩]) (vw := []) VOK.nil [] [aN (t_Kd p1 p2 1 o0 (Q1iw p1 p2 o0 H).1)] (by kernel_rfl)
def s_Kp (p1 : Val) (p2 : BA) (o0 : PDecoder) : Val × PDecoder := (s5 (prt p1 p2), ft o0 (isM p1 && isM (prt p1 p2)))
theorem e_Kp (p1 : Val) (p2 : BA) (o0 : PDecoder) : s_Kp p1 p2 o0 = (((s_Kd p1 p2 5 o0).1, (s_Kd p1 p2 5 o0).2)) := by
  rfl
def c_Kp (p1 : Val) (p2 : BA) (o0 : PDecoder) : En := .call 219 [.bx 0 0, .agg (Val.cells p1), .str p2] [⟨1, 0, false, (PDecoder.cells o0)⟩]
def r_Kp (_p1 : Val) (_p2 : BA) (_o0 : PDecoder) (q0 : Val) (q1 : PDecoder) : Rs := .ret (.agg (Val.cells q0)) [⟨1, 0, false, (PDecoder.cells q1)⟩]
def a_Kp (p1 : Val) (p2 : BA) (o0 : PDecoder) : Rs := r_Kp p1 p2 o0 (s_Kp p1 p2 o0).1 (s_Kp p1 p2 o0).2
def H_Kp (p1 : Val) : Prop := Val.Sm 1000000000 p1
theorem Q1iz (p1 : Val) (_p2 : BA) (_o0 : PDecoder) (H : H_Kp p1) : (H_Kd p1) ∧ True := by
  exact ⟨H, trivial⟩
theorem t_Kp (p1 : Val) (p2 : BA) (o0 : PDecoder) (H : H_Kp p1) : Q5 G (c_Kp p1 p2 o0) (a_Kp p1 p2 o0) := by
 unfold a_Kp
 rw [e_Kp]
 exact Q6 (fn := Ir.Kp) rfl (h := [⟨1, 0, false, (PDecoder.cells o0)⟩]) (vw := []) VOK.nil [] [aN (t_Kd p1 p2 5 o0 (Q1iz p1 p2 o0 H).1)] (by kernel_rfl)
def s_Kk (p1 : Val) (o0 : PDecoder) : Resources × PDecoder := ((Resources.dec p1).1, ft o0 (Resources.dec p1).2)
theorem e_Kk (p1 : Val) (o0 : PDecoder) : s_Kk p1 o0 = (((Resources.mk (s_Kg p1 Q4t o0).1 (s_Kg p1 Q34 (s_Kg p1 Q4t o0).2).1 (s_Kg p1 Q46 (s_Kg p1 Q34 (s_Kg p1 Q4t o0).2).2).1), (s_Kg p1 Q46 (s_Kg p1 Q34 (s_Kg p1 Q4t o0).2).2).2)) := by
  simp only [s_Kg, s_Kk, Resources.dec, Qlt, Bool.and_assoc, Bool.and_left_comm, Bool.and_comm, Bool.and_self_left]
def c_Kk (p1 : Val) (o0 : PDecoder) : En := .call 275 [.bx 0 0, .agg (Val.cells p1)] [⟨1, 0, false, (PDecoder.cells o0)⟩]
def r_Kk (_p1 : Val) (_o0 : PDecoder) (q0 : Resources) (q1 : PDecoder) : Rs := .ret (.agg (Resources.cells q0)) [⟨1, 0, false, (PDecoder.cells q1)⟩]
def a_Kk (p1 : Val) (o0 : PDecoder) : Rs := r_Kk p1 o0 (s_Kk p1 o0).1 (s_Kk p1 o0).2
def H_Kk (p1 : Val) : Prop := Val.Sm 1000000000 p1
theorem Q10l (p1 : Val) (_o0 : PDecoder) (H : H_Kk p1) : (H_Kg p1) ∧ True := by
  repeat' with_reducible apply And.intro
  all_goals first | exact True.intro | exact H | exact Qmm (Q3t H _)
theorem t_Kk (p1 : Val) (o0 : PDecoder) (H : H_Kk p1) : Q5 G (c_Kk p1 o0) (a_Kk p1 o0) := by
 unfold a_Kk
 rw [e_Kk]
 exact Q6 (fn := Ir.Kk) rfl (h := [⟨1, 0, false, (PDecoder.cells o0)⟩]) (vw := []) VOK.nil [] [aN (t_Kg p1 Q4t o0 (Q10l p1 o0 H).1), aN (t_Kg p1 Q34 (s_Kg p1 Q4t o0).2 (Q10l p1 o0 H).1), aN (t_Kg p1 Q46 (s_Kg p1 Q34 (s_Kg p1 Q4t o0).2).2 (Q10l p1 o0 H).1)] (by kernel_rfl)
def s_Ki (p1 : Val) (o0 : PDecoder) : Probe × PDecoder := ((Probe.dec p1).1, ft o0 (Probe.dec p1).2)
theorem e_Ki (p1 : Val) (o0 : PDecoder) : s_Ki p1 o0 = (((Probe.mk (s_Kg p1 Q2d (s_Ko p1 o0).2).1 (s_Kg p1 Q26 (s_Kg p1 Q2d (s_Ko p1 o0).2).2).1 (s_Kg p1 Q1w (s_Kg p1 Q26 (s_Kg p1 Q2d (s_Ko p1 o0).2).2).2).1 (s_Kg p1 Q22 (s_Kg p1 Q1w (s_Kg p1 Q26 (s_Kg p1 Q2d (s_Ko p1 o0).2).2).2).2).1), (s_Kg p1 Q22 (s_Kg p1 Q1w (s_Kg p1 Q26 (s_Kg p1 Q2d (s_Ko p1 o0).2).2).2).2).2)) := by
  simp only [s_Ko, s_Kg, s_Ki, Probe.dec, Qlt, Bool.and_assoc, Bool.and_left_comm, Bool.and_comm, Bool.and_self_left]
def c_Ki (p1 : Val) (o0 : PDecoder) : En := .call 277 [.bx 0 0, .agg (Val.cells p1)] [⟨1, 0, false, (PDecoder.cells o0)⟩]
def r_Ki (_p1 : Val) (_o0 : PDecoder) (q0 : Probe) (q1 : PDecoder) : Rs := .ret (.agg (Probe.cells q0)) [⟨1, 0, false, (PDecoder.cells q1)⟩]
def a_Ki (p1 : Val) (o0 : PDecoder) : Rs := r_Ki p1 o0 (s_Ki p1 o0).1 (s_Ki p1 o0).2
def H_Ki (p1 : Val) : Prop := Val.Sm 1000000000 p1
theorem Qu2 (p1 : Val) (_o0 : PDecoder) (H : H_Ki p1) : (H_Kg p1) ∧ True := by
  repeat' with_reducible apply And.intro
  all_goals first | exact True.intro | exact H | exact Qmm (Q3t H _)
theorem t_Ki (p1 : Val) (o0 : PDecoder) (H : H_Ki p1) : Q5 G (c_Ki p1 o0) (a_Ki p1 o0) := by
 unfold a_Ki
 rw [e_Ki]
 exact Q6 (fn := Ir.Ki) rfl (h := [⟨1, 0, false, (PDecoder.cells o0)⟩]) (vw := []) VOK.nil [] [aN (t_Ko p1 o0), aN (t_Kg p1 Q2d (s_Ko p1 o0).2 (Qu2 p1 o0 H).1), aN (t_Kg p1 Q26 (s_Kg p1 Q2d (s_Ko p1 o0).2).2 (Qu2 p1 o0 H).1), aN (t_Kg p1 Q1w (s_Kg p1 Q26 (s_Kg p1 Q2d (s_Ko p1 o0).2).2).2 (Qu2 p1 o0 H).1), aN (t_Kg p1 Q22 (s_Kg p1 Q1w (s_Kg p1 Q26 (s_Kg p1 Q2d (s_Ko p1 o0).2).2).2).2 (Qu2 p1 o0 H).1)] (by kernel_rfl)
def Q6h (p1 : Val) (p2 : BA) (o0 : PDecoder) : List Val → Nat → Bool → (List Probe) → Bool × (List Probe)
 | [], _i0, v0_1, v0_2 =>
  (v0_1, v0_2)
 | x0 :: r0, i0, v0_1, v0_2 =>
  Q6h p1 p2 o0 r0 (i0 + 1) (s_Ki x0 (PDecoder.mk v0_1)).2.failed (v0_2 ++ [(s_Ki x0 (PDecoder.mk v0_1)).1])
def Q11u (p1 : Val) (p2 : BA) (o0 : PDecoder) (i0 : Nat) (_v0_1 : Bool) (v0_2 : List Probe) : List PV :=
  [.un, .un, .un, .fn 277 [.bx 0 0] []] ++ nuns 5 ++ [.ms 1 4 0 (List.length v0_2)] ++ nuns 6 ++ [.sl (Val.rows (s_Kd p1 p2 4 o0).1.list), .int .i64 ((List.length (s_Kd p1 p2 4 o0).1.list) : Int), .int .i64 (i0 : Int)] ++ nuns 11
def Qs1 (_p1 : Val) (_p2 : BA) (_o0 : PDecoder) (_i0 : Nat) (v0_1 : Bool) (v0_2 : List Probe) : List Ob :=
  [⟨1, 0, false, [.bool v0_1]⟩, ⟨4, 0, true, (Probe.rows v0_2).flatten⟩]
def Qrt (p1 : Val) (p2 : BA) (o0 : PDecoder) (i0 : Nat) (v0_1 : Bool) (v0_2 : List Probe) : En := .loop 1 Ir.Qnf Ir.Q1ns (Q11u p1 p2 o0 i0 v0_1 v0_2) (Qs1 p1 p2 o0 i0 v0_1 v0_2)
def Qxc (_p1 : Val) (_p2 : BA) (_o0 : PDecoder) (q0 : Bool) (q1 : List Probe) (z : Nat → PV) (_zo : Nat → List PV) : St :=
  ⟨zr z 0 9 ++ [.ms 1 4 0 (List.length q1)] ++ zr z 10 20, [(0, ⟨1, 0, false, [.bool q0]⟩), (1, ⟨4, 0, true, (Probe.rows q1).flatten⟩)], 66⟩
theorem Q1a6 (p1 : Val) (p2 : BA) (o0 : PDecoder) (i0 : Nat) (v0_1 : Bool) (v0_2 : List Probe) : VOK (Go.Pv.look (number 0 (Qs1 p1 p2 o0 i0 v0_1 v0_2))) [(1, Probe.rows v0_2)] := (VOK.cons (show Seen _ _ from Q3i (ob := ⟨4, 0, true, (Probe.rows v0_2).flatten⟩) (Probe.Q7 v0_2 4 rfl)) VOK.nil)
def Qtl (p1 : Val) (p2 : BA) (o0 : PDecoder) (e : En) (q : Bool × (List Probe)) : Prop := ∃ z zo, Q5 G e (.st (.exit 0) (Qxc p1 p2 o0 q.1 q.2 z zo))
theorem Qx2 (p1 : Val) (p2 : BA) (o0 : PDecoder) {e e' : En} (h : ∀ r, Q5 G e r → Q5 G e' r) : ∀ q, Qtl p1 p2 o0 e q → Qtl p1 p2 o0 e' q
  | _, ⟨z, zo, hz⟩ => ⟨z, zo, h _ hz⟩
def Qij (p1 : Val) (p2 : BA) (o0 : PDecoder) : Prop := (List.length (s_Kd p1 p2 4 o0).1.list ≤ 137438953472) ∧ (∀ x0 ∈ (s_Kd p1 p2 4 o0).1.list, H_Ki x0) ∧ True
def Qxm (p1 : Val) (p2 : BA) (o0 : PDecoder) (i0 : Nat) (_v0_1 : Bool) (_v0_2 : List Probe) : List PV :=
  [.un, .un, .un, .fn 277 [.bx 0 0] []] ++ nuns 12 ++ [.sl (Val.rows (s_Kd p1 p2 4 o0).1.list), .int .i64 ((List.length (s_Kd p1 p2 4 o0).1.list) : Int), .int .i64 (i0 : Int), .bool false]
def Qp2 (_p1 : Val) (_p2 : BA) (_o0 : PDecoder) (_i0 : Nat) (_v0_1 : Bool) (_v0_2 : List Probe) : List (Nat × List PV) :=
  []
theorem Q1dd (p1 : Val) (p2 : BA) (o0 : PDecoder) (_H : Qij p1 p2 o0) (i0 : Nat) (v0_1 : Bool) (v0_2 : List Probe) (_ho0_0 : List.length v0_2 ≤ i0) (hc0 : (decide ((i0 : Int) < ((List.length (s_Kd p1 p2 4 o0).1.list) : Int))) = false) : Qtl p1 p2 o0 (Qrt p1 p2 o0 i0 v0_1 v0_2) (v0_1, v0_2) := by
 exact ⟨(envF (Qxm p1 p2 o0 i0 v0_1 v0_2)), (zoF (Qp2 p1 p2 o0 i0 v0_1 v0_2)), Qj (Q1a6 p1 p2 o0 i0 v0_1 v0_2) (x := ((.exit 0), Qxc p1 p2 o0 v0_1 v0_2 (envF (Qxm p1 p2 o0 i0 v0_1 v0_2)) (zoF (Qp2 p1 p2 o0 i0 v0_1 v0_2)))) [hB 0 hc0] [] (by kernel_rfl)⟩
theorem Q1br (p1 : Val) (p2 : BA) (o0 : PDecoder) (H : Qij p1 p2 o0) (x0 : Val) (i0 : Nat) (v0_1 : Bool) (v0_2 : List Probe) (hx0 : (s_Kd p1 p2 4 o0).1.list[i0]? = some x0) (hi0 : i0 < List.length (s_Kd p1 p2 4 o0).1.list) (ho0_0 : List.length v0_2 ≤ i0) (hc0 : (decide ((i0 : Int) < ((List.length (s_Kd p1 p2 4 o0).1.list) : Int))) = true) {r : Rs} (hr : Q5 G (Qrt p1 p2 o0 (i0 + 1) (s_Ki x0 (PDecoder.mk v0_1)).2.failed (v0_2 ++ [(s_Ki x0 (PDecoder.mk v0_1)).1])) r) : Q5 G (Qrt p1 p2 o0 i0 v0_1 v0_2) r := by
 have hB0 := H.1
 exact Qd (Q1a6 p1 p2 o0 i0 v0_1 v0_2) (y := (Q11u p1 p2 o0 (i0 + 1) (s_Ki x0 (PDecoder.mk v0_1)).2.failed (v0_2 ++ [(s_Ki x0 (PDecoder.mk v0_1)).1]), Qs1 p1 p2 o0 (i0 + 1) (s_Ki x0 (PDecoder.mk v0_1)).2.failed (v0_2 ++ [(s_Ki x0 (PDecoder.mk v0_1)).1]))) [hB 0 hc0, hP 0 (Q2g 5 (Val.rows (s_Kd p1 p2 4 o0).1.list) i0 _ (Val.Qe hx0) rfl), hV 8 [(642, Probe.rows (v0_2 ++ [(s_Ki x0 (PDecoder.mk v0_1)).1]))] (Q3x 1 578 642 4 32 0 0 true (Probe.rows v0_2) (Probe.rows (v0_2 ++ [(s_Ki x0 (PDecoder.mk v0_1)).1])) (Probe.cells (s_Ki x0 (PDecoder.mk v0_1)).1) (List.length v0_2) (List.length (v0_2 ++ [(s_Ki x0 (PDecoder.mk v0_1)).1])) rfl (Probe.Q0 v0_2).symm (Probe.Q0 (v0_2 ++ [(s_Ki x0 (PDecoder.mk v0_1)).1])).symm (Probe.Q1q v0_2 (s_Ki x0 (PDecoder.mk v0_1)).1) (Probe.Ql v0_2) rfl (by omega)), hS 0 true (Probe.Q7 (v0_2 ++ [(s_Ki x0 (PDecoder.mk v0_1)).1]) 4 rfl), hP 1 (Q28 i0 (by omega))] [aN (t_Ki x0 (PDecoder.mk v0_1) (H.2.1 x0 (Q2o hx0)))] (by kernel_rfl) hr
theorem Q14b (p1 : Val) (p2 : BA) (o0 : PDecoder) (H : Qij p1 p2 o0) : ∀ (r0 : List Val) (i0 : Nat) (v0_1 : Bool) (v0_2 : List Probe), List.drop i0 (s_Kd p1 p2 4 o0).1.list = r0 → List.length v0_2 ≤ i0 → Qtl p1 p2 o0 (Qrt p1 p2 o0 i0 v0_1 v0_2) (Q6h p1 p2 o0 r0 i0 v0_1 v0_2)
 | [], i0, v0_1, v0_2, hd, ho0_0 => by
  have hc0 : (decide ((i0 : Int) < ((List.length (s_Kd p1 p2 4 o0).1.list) : Int))) = false := by have := Q1o hd; simp; omega
  rw [Q6h]
  exact Q1dd p1 p2 o0 H i0 v0_1 v0_2 ho0_0 hc0
 | x0 :: r0, i0, v0_1, v0_2, hd, ho0_0 => by
  obtain ⟨hx0, hi0, hd'⟩ := Q1i hd
  have hc0 : (decide ((i0 : Int) < ((List.length (s_Kd p1 p2 4 o0).1.list) : Int))) = true := by simp; omega
  rw [Q6h]
  exact Qx2 p1 p2 o0 (fun r hr => Q1br p1 p2 o0 H x0 i0 v0_1 v0_2 hx0 hi0 ho0_0 hc0 hr) _ (Q14b p1 p2 o0 H r0 (i0 + 1) (s_Ki x0 (PDecoder.mk v0_1)).2.failed (v0_2 ++ [(s_Ki x0 (PDecoder.mk v0_1)).1]) hd' (by first | omega | (simp; omega)))
def s_Kz (p1 : Val) (p2 : BA) (o0 : PDecoder) : List Probe × PDecoder := ((dE Probe.dec p1 p2).1, ft o0 (isM p1 && (dE Probe.dec p1 p2).2))
theorem Q1cf (p1 : Val) (p2 : BA) (o0 : PDecoder) : ∀ (l : List Val) (i : Nat) (b : Bool) (a : List Probe), Q6h p1 p2 o0 l i b a = (b || !(l.all fun x => (Probe.dec x).2), a ++ l.map (fun x => (Probe.dec x).1))
  | [], _, b, a => by rw [Q6h]; simp
  | x :: l, i, b, a => by
    rw [Q6h]
    refine (Q1cf p1 p2 o0 l (i + 1) (b || !(Probe.dec x).2) (a ++ [(Probe.dec x).1])).trans ?_
    simp only [List.append_assoc, List.singleton_append, List.map_cons, List.all_cons, Bool.not_and, Bool.or_assoc]
theorem e_Kz (p1 : Val) (p2 : BA) (o0 : PDecoder) : s_Kz p1 p2 o0 = (((Q6h p1 p2 o0 (s_Kd p1 p2 4 o0).1.list 0 (s_Kd p1 p2 4 o0).2.failed []).2, (PDecoder.mk (Q6h p1 p2 o0 (s_Kd p1 p2 4 o0).1.list 0 (s_Kd p1 p2 4 o0).2.failed []).1))) := by
  rw [Q1cf]
  unfold s_Kd s_Kz
  simp only [Q8u, Q4r]
  refine Prod.ext rfl ?_
  rw [Q8j o0.failed (isM p1) _ _ _ (Qv2 (prt p1 p2)), Q5p]
  rfl
def c_Kz (p1 : Val) (p2 : BA) (o0 : PDecoder) : En := .call 276 [.bx 0 0, .agg (Val.cells p1), .str p2, .fn 277 [.bx 0 0] []] [⟨1, 0, false, (PDecoder.cells o0)⟩]
def r_Kz (_p1 : Val) (_p2 : BA) (_o0 : PDecoder) (q0 : List Probe) (q1 : PDecoder) : Rs := .ret (.sl (Probe.rows q0)) [⟨1, 0, false, (PDecoder.cells q1)⟩]
def a_Kz (p1 : Val) (p2 : BA) (o0 : PDecoder) : Rs := r_Kz p1 p2 o0 (s_Kz p1 p2 o0).1 (s_Kz p1 p2 o0).2
def H_Kz (p1 : Val) : Prop := Val.Sm 1000000000 p1
theorem Q1ay (p1 : Val) (p2 : BA) (o0 : PDecoder) (H : H_Kz p1) : (H_Kd p1) ∧ (Qij p1 p2 o0) ∧ True := by
  have hl := Qn5 (Q3t H p2)
  refine ⟨H, ?_, trivial⟩
  unfold Qij s_Kd
  simp only [Q8u]
  exact ⟨Nat.le_trans hl.1 (Nat.le_of_ble_eq_true rfl), hl.2, trivial⟩
theorem t_Kz (p1 : Val) (p2 : BA) (o0 : PDecoder) (H : H_Kz p1) : Q5 G (c_Kz p1 p2 o0) (a_Kz p1 p2 o0) := by
 unfold a_Kz
 rw [e_Kz]
 have hl0 := Q14b p1 p2 o0 ((Q1ay p1 p2 o0 H).2.1) (s_Kd p1 p2 4 o0).1.list 0 (s_Kd p1 p2 4 o0).2.failed [] (by simp) (by simp)
 obtain ⟨z0, zo0, hl0⟩ := hl0
 exact Q6 (fn := Ir.Kz) rfl (h := [⟨1, 0, false, (PDecoder.cells o0)⟩]) (vw := []) VOK.nil [hP 8 (Qw (Val.rows (s_Kd p1 p2 4 o0).1.list) (List.length (s_Kd p1 p2 4 o0).1.list) (Val.Q0 (s_Kd p1 p2 4 o0).1.list)), hS 0 true (Probe.Q7 (Q6h p1 p2 o0 (s_Kd p1 p2 4 o0).1.list 0 (s_Kd p1 p2 4 o0).2.failed []).2 4 rfl), hQ (Probe.Q0 (Q6h p1 p2 o0 (s_Kd p1 p2 4 o0).1.list 0 (s_Kd p1 p2 4 o0).2.failed []).2).symm] [aN (t_Kd p1 p2 4 o0 (Q1ay p1 p2 o0 H).1), aV [(1, Probe.rows (Q6h p1 p2 o0 (s_Kd p1 p2 4 o0).1.list 0 (s_Kd p1 p2 4 o0).2.failed []).2)] hl0] (by kernel_rfl)
def s_Kb (p1 : Val) (o0 : PDecoder) : Container × PDecoder := ((Container.dec p1).1, ft o0 (Container.dec p1).2)
theorem e_Kb (p1 : Val) (o0 : PDecoder) : s_Kb p1 o0 = (((Container.mk (s_Kn p1 Q11 (s_Ko p1 o0).2).1 (s_Kn p1 Qx (s_Kn p1 Q11 (s_Ko p1 o0).2).2).1 (s_Kk (s_Kp p1 Qh (s_Kn p1 Qx (s_Kn p1 Q11 (s_Ko p1 o0).2).2).2).1 (s_Kp p1 Qh (s_Kn p1 Qx (s_Kn p1 Q11 (s_Ko p1 o0).2).2).2).2).1 (s_Kk (s_Kp p1 Q1r (s_Kk (s_Kp p1 Qh (s_Kn p1 Qx (s_Kn p1 Q11 (s_Ko p1 o0).2).2).2).1 (s_Kp p1 Qh (s_Kn p1 Qx (s_Kn p1 Q11 (s_Ko p1 o0).2).2).2).2).2).1 (s_Kp p1 Q1r (s_Kk (s_Kp p1 Qh (s_Kn p1 Qx (s_Kn p1 Q11 (s_Ko p1 o0).2).2).2).1 (s_Kp p1 Qh (s_Kn p1 Qx (s_Kn p1 Q11 (s_Ko p1 o0).2).2).2).2).2).2).1 (s_Kz p1 Q2y (s_Kk (s_Kp p1 Q1r (s_Kk (s_Kp p1 Qh (s_Kn p1 Qx (s_Kn p1 Q11 (s_Ko p1 o0).2).2).2).1 (s_Kp p1 Qh (s_Kn p1 Qx (s_Kn p1 Q11 (s_Ko p1 o0).2).2).2).2).2).1 (s_Kp p1 Q1r (s_Kk (s_Kp p1 Qh (s_Kn p1 Qx (s_Kn p1 Q11 (s_Ko p1 o0).2).2).2).1 (s_Kp p1 Qh (s_Kn p1 Qx (s_Kn p1 Q11 (s_Ko p1 o0).2).2).2).2).2).2).2).1 (s_Kz p1 Q2b (s_Kz p1 Q2y (s_Kk (s_Kp p1 Q1r (s_Kk (s_Kp p1 Qh (s_Kn p1 Qx (s_Kn p1 Q11 (s_Ko p1 o0).2).2).2).1 (s_Kp p1 Qh (s_Kn p1 Qx (s_Kn p1 Q11 (s_Ko p1 o0).2).2).2).2).2).1 (s_Kp p1 Q1r (s_Kk (s_Kp p1 Qh (s_Kn p1 Qx (s_Kn p1 Q11 (s_Ko p1 o0).2).2).2).1 (s_Kp p1 Qh (s_Kn p1 Qx (s_Kn p1 Q11 (s_Ko p1 o0).2).2).2).2).2).2).2).2).1 (s_Kz p1 Q24 (s_Kz p1 Q2b (s_Kz p1 Q2y (s_Kk (s_Kp p1 Q1r (s_Kk (s_Kp p1 Qh (s_Kn p1 Qx (s_Kn p1 Q11 (s_Ko p1 o0).2).2).2).1 (s_Kp p1 Qh (s_Kn p1 Qx (s_Kn p1 Q11 (s_Ko p1 o0).2).2).2).2).2).1 (s_Kp p1 Q1r (s_Kk (s_Kp p1 Qh (s_Kn p1 Qx (s_Kn p1 Q11 (s_Ko p1 o0).2).2).2).1 (s_Kp p1 Qh (s_Kn p1 Qx (s_Kn p1 Q11 (s_Ko p1 o0).2).2).2).2).2).2).2).2).2).1), (s_Kz p1 Q24 (s_Kz p1 Q2b (s_Kz p1 Q2y (s_Kk (s_Kp p1 Q1r (s_Kk (s_Kp p1 Qh (s_Kn p1 Qx (s_Kn p1 Q11 (s_Ko p1 o0).2).2).2).1 (s_Kp p1 Qh (s_Kn p1 Qx (s_Kn p1 Q11 (s_Ko p1 o0).2).2).2).2).2).1 (s_Kp p1 Q1r (s_Kk (s_Kp p1 Qh (s_Kn p1 Qx (s_Kn p1 Q11 (s_Ko p1 o0).2).2).2).1 (s_Kp p1 Qh (s_Kn p1 Qx (s_Kn p1 Q11 (s_Ko p1 o0).2).2).2).2).2).2).2).2).2).2)) := by
  simp only [s_Ko, s_Kn, s_Kp, s_Kk, s_Kz, s_Kb, Container.dec, Resources.sub1, Resources.sub2, Qlt, Bool.and_assoc, Bool.and_left_comm, Bool.and_comm, Bool.and_self_left]
def c_Kb (p1 : Val) (o0 : PDecoder) : En := .call 242 [.bx 0 0, .agg (Val.cells p1)] [⟨1, 0, false, (PDecoder.cells o0)⟩]
def r_Kb (_p1 : Val) (_o0 : PDecoder) (q0 : Container) (q1 : PDecoder) : Rs := .ret (.agg (Container.cells q0)) [⟨1, 0, false, (PDecoder.cells q1)⟩]
def a_Kb (p1 : Val) (o0 : PDecoder) : Rs := r_Kb p1 o0 (s_Kb p1 o0).1 (s_Kb p1 o0).2
def H_Kb (p1 : Val) : Prop := Val.Sm 1000000000 p1
theorem Q8m (p1 : Val) (o0 : PDecoder) (H : H_Kb p1) : (H_Kn p1) ∧ (H_Kp p1) ∧ (H_Kk (s_Kp p1 Qh (s_Kn p1 Qx (s_Kn p1 Q11 (s_Ko p1 o0).2).2).2).1) ∧ (H_Kk (s_Kp p1 Q1r (s_Kk (s_Kp p1 Qh (s_Kn p1 Qx (s_Kn p1 Q11 (s_Ko p1 o0).2).2).2).1 (s_Kp p1 Qh (s_Kn p1 Qx (s_Kn p1 Q11 (s_Ko p1 o0).2).2).2).2).2).1) ∧ (H_Kz p1) ∧ True := by
  repeat' with_reducible apply And.intro
  all_goals first | exact True.intro | exact H | exact Qmm (Q3t H _)
theorem t_Kb (p1 : Val) (o0 : PDecoder) (H : H_Kb p1) : Q5 G (c_Kb p1 o0) (a_Kb p1 o0) := by
 unfold a_Kb
 rw [e_Kb]
 exact Q6 (fn := Ir.Kb) rfl (h := [⟨1, 0, false, (PDecoder.cells o0)⟩]) (vw := []) VOK.nil [] [aN (t_Ko p1 o0), aN (t_Kn p1 Q11 (s_Ko p1 o0).2 (Q8m p1 o0 H).1), aN (t_Kn p1 Qx (s_Kn p1 Q11 (s_Ko p1 o0).2).2 (Q8m p1 o0 H).1), aN (t_Kp p1 Qh (s_Kn p1 Qx (s_Kn p1 Q11 (s_Ko p1 o0).2).2).2 (Q8m p1 o0 H).2.1), aN (t_Kk (s_Kp p1 Qh (s_Kn p1 Qx (s_Kn p1 Q11 (s_Ko p1 o0).2).2).2).1 (s_Kp p1 Qh (s_Kn p1 Qx (s_Kn p1 Q11 (s_Ko p1 o0).2).2).2).2 (Q8m p1 o0 H).2.2.1), aN (t_Kp p1 Q1r (s_Kk (s_Kp p1 Qh (s_Kn p1 Qx (s_Kn p1 Q11 (s_Ko p1 o0).2).2).2).1 (s_Kp p1 Qh (s_Kn p1 Qx (s_Kn p1 Q11 (s_Ko p1 o0).2).2).2).2).2 (Q8m p1 o0 H).2.1), aN (t_Kk (s_Kp p1 Q1r (s_Kk (s_Kp p1 Qh (s_Kn p1 Qx (s_Kn p1 Q11 (s_Ko p1 o0).2).2).2).1 (s_Kp p1 Qh (s_Kn p1 Qx (s_Kn p1 Q11 (s_Ko p1 o0).2).2).2).2).2).1 (s_Kp p1 Q1r (s_Kk (s_Kp p1 Qh (s_Kn p1 Qx (s_Kn p1 Q11 (s_Ko p1 o0).2).2).2).1 (s_Kp p1 Qh (s_Kn p1 Qx (s_Kn p1 Q11 (s_Ko p1 o0).2).2).2).2).2).2 (Q8m p1 o0 H).2.2.2.1), aN (t_Kz p1 Q2y (s_Kk (s_Kp p1 Q1r (s_Kk (s_Kp p1 Qh (s_Kn p1 Qx (s_Kn p1 Q11 (s_Ko p1 o0).2).2).2).1 (s_Kp p1 Qh (s_Kn p1 Qx (s_Kn p1 Q11 (s_Ko p1 o0).2).2).2).2).2).1 (s_Kp p1 Q1r (s_Kk (s_Kp p1 Qh (s_Kn p1 Qx (s_Kn p1 Q11 (s_Ko p1 o0).2).2).2).1 (s_Kp p1 Qh (s_Kn p1 Qx (s_Kn p1 Q11 (s_Ko p1 o0).2).2).2).2).2).2).2 (Q8m p1 o0 H).2.2.2.2.1), aN (t_Kz p1 Q2b (s_Kz p1 Q2y (s_Kk (s_Kp p1 Q1r (s_Kk (s_Kp p1 Qh (s_Kn p1 Qx (s_Kn p1 Q11 (s_Ko p1 o0).2).2).2).1 (s_Kp p1 Qh (s_Kn p1 Qx (s_Kn p1 Q11 (s_Ko p1 o0).2).2).2).2).2).1 (s_Kp p1 Q1r (s_Kk (s_Kp p1 Qh (s_Kn p1 Qx (s_Kn p1 Q11 (s_Ko p1 o0).2).2).2).1 (s_Kp p1 Qh (s_Kn p1 Qx (s_Kn p1 Q11 (s_Ko p1 o0).2).2).2).2).2).2).2).2 (Q8m p1 o0 H).2.2.2.2.1), aN (t_Kz p1 Q24 (s_Kz p1 Q2b (s_Kz p1 Q2y (s_Kk (s_Kp p1 Q1r (s_Kk (s_Kp p1 Qh (s_Kn p1 Qx (s_Kn p1 Q11 (s_Ko p1 o0).2).2).2).1 (s_Kp p1 Qh (s_Kn p1 Qx (s_Kn p1 Q11 (s_Ko p1 o0).2).2).2).2).2).1 (s_Kp p1 Q1r (s_Kk (s_Kp p1 Qh (s_Kn p1 Qx (s_Kn p1 Q11 (s_Ko p1 o0).2).2).2).1 (s_Kp p1 Qh (s_Kn p1 Qx (s_Kn p1 Q11 (s_Ko p1 o0).2).2).2).2).2).2).2).2).2 (Q8m p1 o0 H).2.2.2.2.1)] (by kernel_rfl)
def Q6b (p1 : Val) (p2 : BA) (o0 : PDecoder) : List Val → Nat → Bool → (List Container) → Bool × (List Container)
 | [], _i0, v0_1, v0_2 =>
  (v0_1, v0_2)
 | x0 :: r0, i0, v0_1, v0_2 =>
  Q6b p1 p2 o0 r0 (i0 + 1) (s_Kb x0 (PDecoder.mk v0_1)).2.failed (v0_2 ++ [(s_Kb x0 (PDecoder.mk v0_1)).1])
def Q11o (p1 : Val) (p2 : BA) (o0 : PDecoder) (i0 : Nat) (_v0_1 : Bool) (v0_2 : List Container) : List PV :=
  [.un, .un, .un, .fn 242 [.bx 0 0] []] ++ nuns 5 ++ [.ms 1 11 0 (List.length v0_2)] ++ nuns 6 ++ [.sl (Val.rows (s_Kd p1 p2 4 o0).1.list), .int .i64 ((List.length (s_Kd p1 p2 4 o0).1.list) : Int), .int .i64 (i0 : Int)] ++ nuns 11
def Qrv (_p1 : Val) (_p2 : BA) (_o0 : PDecoder) (_i0 : Nat) (v0_1 : Bool) (v0_2 : List Container) : List Ob :=
  [⟨1, 0, false, [.bool v0_1]⟩, ⟨11, 0, true, (Container.rows v0_2).flatten⟩]
def Qrn (p1 : Val) (p2 : BA) (o0 : PDecoder) (i0 : Nat) (v0_1 : Bool) (v0_2 : List Container) : En := .loop 1 Ir.Qn9 Ir.Q1nm (Q11o p1 p2 o0 i0 v0_1 v0_2) (Qrv p1 p2 o0 i0 v0_1 v0_2)
def Qx6 (_p1 : Val) (_p2 : BA) (_o0 : PDecoder) (q0 : Bool) (q1 : List Container) (z : Nat → PV) (_zo : Nat → List PV) : St :=
  ⟨zr z 0 9 ++ [.ms 1 11 0 (List.length q1)] ++ zr z 10 20, [(0, ⟨1, 0, false, [.bool q0]⟩), (1, ⟨11, 0, true, (Container.rows q1).flatten⟩)], 66⟩
theorem Q1a0 (p1 : Val) (p2 : BA) (o0 : PDecoder) (i0 : Nat) (v0_1 : Bool) (v0_2 : List Container) : VOK (Go.Pv.look (number 0 (Qrv p1 p2 o0 i0 v0_1 v0_2))) [(1, Container.rows v0_2)] := (VOK.cons (show Seen _ _ from Q3i (ob := ⟨11, 0, true, (Container.rows v0_2).flatten⟩) (Container.Q7 v0_2 11 rfl)) VOK.nil)
def Qtf (p1 : Val) (p2 : BA) (o0 : PDecoder) (e : En) (q : Bool × (List Container)) : Prop := ∃ z zo, Q5 G e (.st (.exit 0) (Qx6 p1 p2 o0 q.1 q.2 z zo))
theorem Qww (p1 : Val) (p2 : BA) (o0 : PDecoder) {e e' : En} (h : ∀ r, Q5 G e r → Q5 G e' r) : ∀ q, Qtf p1 p2 o0 e q → Qtf p1 p2 o0 e' q
  | _, ⟨z, zo, hz⟩ => ⟨z, zo, h _ hz⟩
def Qid (p1 : Val) (p2 : BA) (o0 : PDecoder) : Prop := (List.length (s_Kd p1 p2 4 o0).1.list ≤ 137438953472) ∧ (∀ x0 ∈ (s_Kd p1 p2 4 o0).1.list, H_Kb x0) ∧ True
def Qxg (p1 : Val) (p2 : BA) (o0 : PDecoder) (i0 : Nat) (_v0_1 : Bool) (_v0_2 : List Container) : List PV :=
  [.un, .un, .un, .fn 242 [.bx 0 0] []] ++ nuns 12 ++ [.sl (Val.rows (s_Kd p1 p2 4 o0).1.list), .int .i64 ((List.length (s_Kd p1 p2 4 o0).1.list) : Int), .int .i64 (i0 : Int), .bool false]
def Qow (_p1 : Val) (_p2 : BA) (_o0 : PDecoder) (_i0 : Nat) (_v0_1 : Bool) (_v0_2 : List Container) : List (Nat × List PV) :=
  []
theorem Q1d7 (p1 : Val) (p2 : BA) (o0 : PDecoder) (_H : Qid p1 p2 o0) (i0 : Nat) (v0_1 : Bool) (v0_2 : List Container) (_ho0_0 : List.length v0_2 ≤ i0) (hc0 : (decide ((i0 : Int) < ((List.length (s_Kd p1 p2 4 o0).1.list) : Int))) = false) : Qtf p1 p2 o0 (Qrn p1 p2 o0 i0 v0_1 v0_2) (v0_1, v0_2) := by
 exact ⟨(envF (Qxg p1 p2 o0 i0 v0_1 v0_2)), (zoF (Qow p1 p2 o0 i0 v0_1 v0_2)), Qj (Q1a0 p1 p2 o0 i0 v0_1 v0_2) (x := ((.exit 0), Qx6 p1 p2 o0 v0_1 v0_2 (envF (Qxg p1 p2 o0 i0 v0_1 v0_2)) (zoF (Qow p1 p2 o0 i0 v0_1 v0_2)))) [hB 0 hc0] [] (by kernel_rfl)⟩
theorem Q1bl (p1 : Val) (p2 : BA) (o0 : PDecoder) (H : Qid p1 p2 o0) (x0 : Val) (i0 : Nat) (v0_1 : Bool) (v0_2 : List Container) (hx0 : (s_Kd p1 p2 4 o0).1.list[i0]? = some x0) (hi0 : i0 < List.length (s_Kd p1 p2 4 o0).1.list) (ho0_0 : List.length v0_2 ≤ i0) (hc0 : (decide ((i0 : Int) < ((List.length (s_Kd p1 p2 4 o0).1.list) : Int))) = true) {r : Rs} (hr : Q5 G (Qrn p1 p2 o0 (i0 + 1) (s_Kb x0 (PDecoder.mk v0_1)).2.failed (v0_2 ++ [(s_Kb x0 (PDecoder.mk v0_1)).1])) r) : Q5 G (Qrn p1 p2 o0 i0 v0_1 v0_2) r := by
 have hB0 := H.1
 exact Qd (Q1a0 p1 p2 o0 i0 v0_1 v0_2) (y := (Q11o p1 p2 o0 (i0 + 1) (s_Kb x0 (PDecoder.mk v0_1)).2.failed (v0_2 ++ [(s_Kb x0 (PDecoder.mk v0_1)).1]), Qrv p1 p2 o0 (i0 + 1) (s_Kb x0 (PDecoder.mk v0_1)).2.failed (v0_2 ++ [(s_Kb x0 (PDecoder.mk v0_1)).1]))) [hB 0 hc0, hP 0 (Q2g 5 (Val.rows (s_Kd p1 p2 4 o0).1.list) i0 _ (Val.Qe hx0) rfl), hV 8 [(642, Container.rows (v0_2 ++ [(s_Kb x0 (PDecoder.mk v0_1)).1]))] (Q3x 1 578 642 11 152 0 0 true (Container.rows v0_2) (Container.rows (v0_2 ++ [(s_Kb x0 (PDecoder.mk v0_1)).1])) (Container.cells (s_Kb x0 (PDecoder.mk v0_1)).1) (List.length v0_2) (List.length (v0_2 ++ [(s_Kb x0 (PDecoder.mk v0_1)).1])) rfl (Container.Q0 v0_2).symm (Container.Q0 (v0_2 ++ [(s_Kb x0 (PDecoder.mk v0_1)).1])).symm (Container.Q1q v0_2 (s_Kb x0 (PDecoder.mk v0_1)).1) (Container.Ql v0_2) rfl (by omega)), hS 0 true (Container.Q7 (v0_2 ++ [(s_Kb x0 (PDecoder.mk v0_1)).1]) 11 rfl), hP 1 (Q28 i0 (by omega))] [aN (t_Kb x0 (PDecoder.mk v0_1) (H.2.1 x0 (Q2o hx0)))] (by kernel_rfl) hr
theorem Q145 (p1 : Val) (p2 : BA) (o0 : PDecoder) (H : Qid p1 p2 o0) : ∀ (r0 : List Val) (i0 : Nat) (v0_1 : Bool) (v0_2 : List Container), List.drop i0 (s_Kd p1 p2 4 o0).1.list = r0 → List.length v0_2 ≤ i0 → Qtf p1 p2 o0 (Qrn p1 p2 o0 i0 v0_1 v0_2) (Q6b p1 p2 o0 r0 i0 v0_1 v0_2)
 | [], i0, v0_1, v0_2, hd, ho0_0 => by
  have hc0 : (decide ((i0 : Int) < ((List.length (s_Kd p1 p2 4 o0).1.list) : Int))) = false := by have := Q1o hd; simp; omega
  rw [Q6b]
  exact Q1d7 p1 p2 o0 H i0 v0_1 v0_2 ho0_0 hc0
 | x0 :: r0, i0, v0_1, v0_2, hd, ho0_0 => by
  obtain ⟨hx0, hi0, hd'⟩ := Q1i hd
  have hc0 : (decide ((i0 : Int) < ((List.length (s_Kd p1 p2 4 o0).1.list) : Int))) = true := by simp; omega
  rw [Q6b]
  exact Qww p1 p2 o0 (fun r hr => Q1bl p1 p2 o0 H x0 i0 v0_1 v0_2 hx0 hi0 ho0_0 hc0 hr) _ (Q145 p1 p2 o0 H r0 (i0 + 1) (s_Kb x0 (PDecoder.mk v0_1)).2.failed (v0_2 ++ [(s_Kb x0 (PDecoder.mk v0_1)).1]) hd' (by first | omega | (simp; omega)))
def s_Kt (p1 : Val) (p2 : BA) (o0 : PDecoder) : List Container × PDecoder := ((dE Container.dec p1 p2).1, ft o0 (isM p1 && (dE Container.dec p1 p2).2))
theorem Q1c9 (p1 : Val) (p2 : BA) (o0 : PDecoder) : ∀ (l : List Val) (i : Nat) (b : Bool) (a : List Container), Q6b p1 p2 o0 l i b a = (b || !(l.all fun x => (Container.dec x).2), a ++ l.map (fun x => (Container.dec x).1))
  | [], _, b, a => by rw [Q6b]; simp
  | x :: l, i, b, a => by
    rw [Q6b]
    refine (Q1c9 p1 p2 o0 l (i + 1) (b || !(Container.dec x).2) (a ++ [(Container.dec x).1])).trans ?_
    simp only [List.append_assoc, List.singleton_append, List.map_cons, List.all_cons, Bool.not_and, Bool.or_assoc]
theorem e_Kt (p1 : Val) (p2 : BA) (o0 : PDecoder) : s_Kt p1 p2 o0 = (((Q6b p1 p2 o0 (s_Kd p1 p2 4 o0).1.list 0 (s_Kd p1 p2 4 o0).2.failed []).2, (PDecoder.mk (Q6b p1 p2 o0 (s_Kd p1 p2 4 o0).1.list 0 (s_Kd p1 p2 4 o0).2.failed []).1))) := by
  rw [Q1c9]
  unfold s_Kd s_Kt
  simp only [Q8u, Q4r]
  refine Prod.ext rfl ?_
  rw [Q8j o0.failed (isM p1) _ _ _ (Qv2 (prt p1 p2)), Q5p]
  rfl
def c_Kt (p1 : Val) (p2 : BA) (o0 : PDecoder) : En := .call 241 [.bx 0 0, .agg (Val.cells p1), .str p2, .fn 242 [.bx 0 0] []] [⟨1, 0, false, (PDecoder.cells o0)⟩]
def r_Kt (_p1 : Val) (_p2 : BA) (_o0 : PDecoder) (q0 : List Container) (q1 : PDecoder) : Rs := .ret (.sl (Container.rows q0)) [⟨1, 0, false, (PDecoder.cells q1)⟩]
def a_Kt (p1 : Val) (p2 : BA) (o0 : PDecoder) : Rs := r_Kt p1 p2 o0 (s_Kt p1 p2 o0).1 (s_Kt p1 p2 o0).2
def H_Kt (p1 : Val) : Prop := Val.Sm 1000000000 p1
theorem Q1as (p1 : Val) (p2 : BA) (o0 : PDecoder) (H : H_Kt p1) : (H_Kd p1) ∧ (Qid p1 p2 o0) ∧ True := by
  have hl := Qn5 (Q3t H p2)
  refine ⟨H, ?_, trivial⟩
  unfold Qid s_Kd
  simp only [Q8u]
  exact ⟨Nat.le_trans hl.1 (Nat.le_of_ble_eq_true rfl), hl.2, trivial⟩
theorem t_Kt (p1 : Val) (p2 : BA) (o0 : PDecoder) (H : H_Kt p1) : Q5 G (c_Kt p1 p2 o0) (a_Kt p1 p2 o0) := by
 unfold a_Kt
 rw [e_Kt]
 have hl0 := Q145 p1 p2 o0 ((Q1as p1 p2 o0 H).2.1) (s_Kd p1 p2 4 o0).1.list 0 (s_Kd p1 p2 4 o0).2.failed [] (by simp) (by simp)
 obtain ⟨z0, zo0, hl0⟩ := hl0
 exact Q6 (fn := Ir.Kt) rfl (h := [⟨1, 0, false, (PDecoder.cells o0)⟩]) (vw := []) VOK.nil [hP 8 (Qw (Val.rows (s_Kd p1 p2 4 o0).1.list) (List.length (s_Kd p1 p2 4 o0).1.list) (Val.Q0 (s_Kd p1 p2 4 o0).1.list)), hS 0 true (Container.Q7 (Q6b p1 p2 o0 (s_Kd p1 p2 4 o0).1.list 0 (s_Kd p1 p2 4 o0).2.failed []).2 11 rfl), hQ (Container.Q0 (Q6b p1 p2 o0 (s_Kd p1 p2 4 o0).1.list 0 (s_Kd p1 p2 4 o0).2.failed []).2).symm] [aN (t_Kd p1 p2 4 o0 (Q1as p1 p2 o0 H).1), aV [(1, Container.rows (Q6b p1 p2 o0 (s_Kd p1 p2 4 o0).1.list 0 (s_Kd p1 p2 4 o0).2.failed []).2)] hl0] (by kernel_rfl)
def s_Kq (p1 : Val) (o0 : PDecoder) : ByteArray × PDecoder := ((xS p1).1, ft o0 (xS p1).2)
theorem e_Kq (p1 : Val) (o0 : PDecoder) : s_Kq p1 o0 = (bif o0.failed then
    bif (p1.kind == 3) then
      (p1.s, (PDecoder.mk true))
    else
      (eB, (PDecoder.mk true))
  else
    bif (p1.kind == 3) then
      (p1.s, (PDecoder.mk false))
    else
      (eB, (PDecoder.mk (!(p1.kind == 0))))) := by
  obtain ⟨b⟩ := o0
  unfold s_Kq ft xS
  cases b <;> cases (p1.kind == 3) <;> cases (p1.kind == 0) <;> rfl
def c_Kq (p1 : Val) (o0 : PDecoder) : En := .call 279 [.bx 0 0, .agg (Val.cells p1)] [⟨1, 0, false, (PDecoder.cells o0)⟩]
def r_Kq (_p1 : Val) (_o0 : PDecoder) (q0 : BA) (q1 : PDecoder) : Rs := .ret (.str q0) [⟨1, 0, false, (PDecoder.cells q1)⟩]
def a_Kq (p1 : Val) (o0 : PDecoder) : Rs := r_Kq p1 o0 (s_Kq p1 o0).1 (s_Kq p1 o0).2
theorem t_Kq (p1 : Val) (o0 : PDecoder) : Q5 G (c_Kq p1 o0) (a_Kq p1 o0) := by
 unfold a_Kq
 rw [e_Kq]
 cases h0 : o0.failed with
 | true =>
  cases h1 : (p1.kind == 3) with
  | true =>
   exact Q6 (fn := Ir.Kq) rfl (h := [⟨1, 0, false, (PDecoder.cells o0)⟩]) (vw := []) VOK.nil [hP 6 (decR o0.failed true [0] h0), hP 15 (dec (!(p1.kind == 3)) false (by rw [h1]; rfl))] [] (by kernel_rfl)
  | false =>
   exact Q6 (fn := Ir.Kq) rfl (h := [⟨1, 0, false, (PDecoder.cells o0)⟩]) (vw := []) VOK.nil [hP 6 (decR o0.failed true [0] h0), hP 15 (dec (!(p1.kind == 3)) true (by rw [h1]; rfl))] [] (by kernel_rfl)
 | false =>
  cases h1 : (p1.kind == 3) with
  | true =>
   exact Q6 (fn := Ir.Kq) rfl (h := [⟨1, 0, false, (PDecoder.cells o0)⟩]) (vw := []) VOK.nil [hP 6 (decR o0.failed false [0] h0), hP 3 (dec (!(p1.kind == 3)) false (by rw [h1]; rfl)), hP 11 (dec (!(p1.kind == 3)) false (by rw [h1]; rfl))] [] (by kernel_rfl)
  | false =>
   exact Q6 (fn := Ir.Kq) rfl (h := [⟨1, 0, false, (PDecoder.cells o0)⟩]) (vw := []) VOK.nil [hP 6 (decR o0.failed false [0] h0), hP 3 (dec (!(p1.kind == 3)) true (by rw [h1]; rfl)), hP 11 (dec (!(p1.kind == 3)) true (by rw [h1]; rfl))] [] (by kernel_rfl)
def Q4y (p1 : Val) (p2 : BA) (o0 : PDecoder) : List Val → Nat → Bool → (List ByteArray) → Bool × (List ByteArray)
 | [], _i0, v0_1, v0_2 =>
  (v0_1, v0_2)
 | x0 :: r0, i0, v0_1, v0_2 =>
  Q4y p1 p2 o0 r0 (i0 + 1) (s_Kq x0 (PDecoder.mk v0_1)).2.failed (v0_2 ++ [(s_Kq x0 (PDecoder.mk v0_1)).1])
def Qv5 (p1 : Val) (p2 : BA) (o0 : PDecoder) (i0 : Nat) (_v0_1 : Bool) (v0_2 : List ByteArray) : List PV :=
  [.un, .un, .un, .fn 279 [.bx 0 0] []] ++ nuns 5 ++ [.ms 1 1 0 (List.length v0_2)] ++ nuns 6 ++ [.sl (Val.rows (s_Kd p1 p2 4 o0).1.list), .int .i64 ((List.length (s_Kd p1 p2 4 o0).1.list) : Int), .int .i64 (i0 : Int)] ++ nuns 11
def Qhg (_p1 : Val) (_p2 : BA) (_o0 : PDecoder) (_i0 : Nat) (v0_1 : Bool) (v0_2 : List ByteArray) : List Ob :=
  [⟨1, 0, false, [.bool v0_1]⟩, ⟨1, 0, true, (Qu v0_2).flatten⟩]
def Qed (p1 : Val) (p2 : BA) (o0 : PDecoder) (i0 : Nat) (v0_1 : Bool) (v0_2 : List ByteArray) : En := .loop 1 Ir.Qik Ir.Q1g0 (Qv5 p1 p2 o0 i0 v0_1 v0_2) (Qhg p1 p2 o0 i0 v0_1 v0_2)
def Qnm (_p1 : Val) (_p2 : BA) (_o0 : PDecoder) (q0 : Bool) (q1 : List ByteArray) (z : Nat → PV) (_zo : Nat → List PV) : St :=
  ⟨zr z 0 9 ++ [.ms 1 1 0 (List.length q1)] ++ zr z 10 20, [(0, ⟨1, 0, false, [.bool q0]⟩), (1, ⟨1, 0, true, (Qu q1).flatten⟩)], 66⟩
theorem Q121 (p1 : Val) (p2 : BA) (o0 : PDecoder) (i0 : Nat) (v0_1 : Bool) (v0_2 : List ByteArray) : VOK (Go.Pv.look (number 0 (Qhg p1 p2 o0 i0 v0_1 v0_2))) [(1, Qu v0_2)] := (VOK.cons (show Seen _ _ from Q3i (ob := ⟨1, 0, true, (Qu v0_2).flatten⟩) (Q75 v0_2 1 rfl)) VOK.nil)
def Qg7 (p1 : Val) (p2 : BA) (o0 : PDecoder) (e : En) (q : Bool × (List ByteArray)) : Prop := ∃ z zo, Q5 G e (.st (.exit 0) (Qnm p1 p2 o0 q.1 q.2 z zo))
theorem Qs9 (p1 : Val) (p2 : BA) (o0 : PDecoder) {e e' : En} (h : ∀ r, Q5 G e r → Q5 G e' r) : ∀ q, Qg7 p1 p2 o0 e q → Qg7 p1 p2 o0 e' q
  | _, ⟨z, zo, hz⟩ => ⟨z, zo, h _ hz⟩
def Qbn (p1 : Val) (p2 : BA) (o0 : PDecoder) : Prop := (List.length (s_Kd p1 p2 4 o0).1.list ≤ 137438953472) ∧ True
def Qp3 (p1 : Val) (p2 : BA) (o0 : PDecoder) (i0 : Nat) (_v0_1 : Bool) (_v0_2 : List ByteArray) : List PV :=
  [.un, .un, .un, .fn 279 [.bx 0 0] []] ++ nuns 12 ++ [.sl (Val.rows (s_Kd p1 p2 4 o0).1.list), .int .i64 ((List.length (s_Kd p1 p2 4 o0).1.list) : Int), .int .i64 (i0 : Int), .bool false]
def Qk3 (_p1 : Val) (_p2 : BA) (_o0 : PDecoder) (_i0 : Nat) (_v0_1 : Bool) (_v0_2 : List ByteArray) : List (Nat × List PV) :=
  []
theorem Q18c (p1 : Val) (p2 : BA) (o0 : PDecoder) (_H : Qbn p1 p2 o0) (i0 : Nat) (v0_1 : Bool) (v0_2 : List ByteArray) (_ho0_0 : List.length v0_2 ≤ i0) (hc0 : (decide ((i0 : Int) < ((List.length (s_Kd p1 p2 4 o0).1.list) : Int))) = false) : Qg7 p1 p2 o0 (Qed p1 p2 o0 i0 v0_1 v0_2) (v0_1, v0_2) := by
 exact ⟨(envF (Qp3 p1 p2 o0 i0 v0_1 v0_2)), (zoF (Qk3 p1 p2 o0 i0 v0_1 v0_2)), Qj (Q121 p1 p2 o0 i0 v0_1 v0_2) (x := ((.exit 0), Qnm p1 p2 o0 v0_1 v0_2 (envF (Qp3 p1 p2 o0 i0 v0_1 v0_2)) (zoF (Qk3 p1 p2 o0 i0 v0_1 v0_2)))) [hB 0 hc0] [] (by kernel_rfl)⟩
theorem Q164 (p1 : Val) (p2 : BA) (o0 : PDecoder) (H : Qbn p1 p2 o0) (x0 : Val) (i0 : Nat) (v0_1 : Bool) (v0_2 : List ByteArray) (hx0 : (s_Kd p1 p2 4 o0).1.list[i0]? = some x0) (hi0 : i0 < List.length (s_Kd p1 p2 4 o0).1.list) (ho0_0 : List.length v0_2 ≤ i0) (hc0 : (decide ((i0 : Int) < ((List.length (s_Kd p1 p2 4 o0).1.list) : Int))) = true) {r : Rs} (hr : Q5 G (Qed p1 p2 o0 (i0 + 1) (s_Kq x0 (PDecoder.mk v0_1)).2.failed (v0_2 ++ [(s_Kq x0 (PDecoder.mk v0_1)).1])) r) : Q5 G (Qed p1 p2 o0 i0 v0_1 v0_2) r := by
 have hB0 := H.1
 exact Qd (Q121 p1 p2 o0 i0 v0_1 v0_2) (y := (Qv5 p1 p2 o0 (i0 + 1) (s_Kq x0 (PDecoder.mk v0_1)).2.failed (v0_2 ++ [(s_Kq x0 (PDecoder.mk v0_1)).1]), Qhg p1 p2 o0 (i0 + 1) (s_Kq x0 (PDecoder.mk v0_1)).2.failed (v0_2 ++ [(s_Kq x0 (PDecoder.mk v0_1)).1]))) [hB 0 hc0, hP 0 (Q2g 5 (Val.rows (s_Kd p1 p2 4 o0).1.list) i0 _ (Val.Qe hx0) rfl), hV 8 [(642, Qu (v0_2 ++ [(s_Kq x0 (PDecoder.mk v0_1)).1]))] (Q3x 1 578 642 1 16 0 0 true (Qu v0_2) (Qu (v0_2 ++ [(s_Kq x0 (PDecoder.mk v0_1)).1])) [.str (s_Kq x0 (PDecoder.mk v0_1)).1] (List.length v0_2) (List.length (v0_2 ++ [(s_Kq x0 (PDecoder.mk v0_1)).1])) rfl (Q2u v0_2).symm (Q2u (v0_2 ++ [(s_Kq x0 (PDecoder.mk v0_1)).1])).symm (Q11f v0_2 (s_Kq x0 (PDecoder.mk v0_1)).1) (Qmn v0_2) rfl (by omega)), hS 0 true (Q75 (v0_2 ++ [(s_Kq x0 (PDecoder.mk v0_1)).1]) 1 rfl), hP 1 (Q28 i0 (by omega))] [aN (t_Kq x0 (PDecoder.mk v0_1))] (by kernel_rfl) hr
theorem Qy9 (p1 : Val) (p2 : BA) (o0 : PDecoder) (H : Qbn p1 p2 o0) : ∀ (r0 : List Val) (i0 : Nat) (v0_1 : Bool) (v0_2 : List ByteArray), List.drop i0 (s_Kd p1 p2 4 o0).1.list = r0 → List.length v0_2 ≤ i0 → Qg7 p1 p2 o0 (Qed p1 p2 o0 i0 v0_1 v0_2) (Q4y p1 p2 o0 r0 i0 v0_1 v0_2)
 | [], i0, v0_1, v0_2, hd, ho0_0 => by
  have hc0 : (decide ((i0 : Int) < ((List.length (s_Kd p1 p2 4 o0).1.list) : Int))) = false := by have := Q1o hd; simp; omega
  rw [Q4y]
  exact Q18c p1 p2 o0 H i0 v0_1 v0_2 ho0_0 hc0
 | x0 :: r0, i0, v0_1, v0_2, hd, ho0_0 => by
  obtain ⟨hx0, hi0, hd'⟩ := Q1i hd
  have hc0 : (decide ((i0 : Int) < ((List.length (s_Kd p1 p2 4 o0).1.list) : Int))) = true := by simp; omega
  rw [Q4y]
  exact Qs9 p1 p2 o0 (fun r hr => Q164 p1 p2 o0 H x0 i0 v0_1 v0_2 hx0 hi0 ho0_0 hc0 hr) _ (Qy9 p1 p2 o0 H r0 (i0 + 1) (s_Kq x0 (PDecoder.mk v0_1)).2.failed (v0_2 ++ [(s_Kq x0 (PDecoder.mk v0_1)).1]) hd' (by first | omega | (simp; omega)))
def Q117 (p1 : Val) (p2 : BA) (o0 : PDecoder) : List ByteArray × PDecoder := ((dE xS p1 p2).1, ft o0 (isM p1 && (dE xS p1 p2).2))
theorem Q14q (p1 : Val) (p2 : BA) (o0 : PDecoder) : ∀ (l : List Val) (i : Nat) (b : Bool) (a : List ByteArray), Q4y p1 p2 o0 l i b a = (b || !(l.all fun x => (xS x).2), a ++ l.map (fun x => (xS x).1))
  | [], _, b, a => by rw [Q4y]; simp
  | x :: l, i, b, a => by
    rw [Q4y]
    refine (Q14q p1 p2 o0 l (i + 1) (b || !(xS x).2) (a ++ [(xS x).1])).trans ?_
    simp only [List.append_assoc, List.singleton_append, List.map_cons, List.all_cons, Bool.not_and, Bool.or_assoc]
theorem Q1y9 (p1 : Val) (p2 : BA) (o0 : PDecoder) : Q117 p1 p2 o0 = (((Q4y p1 p2 o0 (s_Kd p1 p2 4 o0).1.list 0 (s_Kd p1 p2 4 o0).2.failed []).2, (PDecoder.mk (Q4y p1 p2 o0 (s_Kd p1 p2 4 o0).1.list 0 (s_Kd p1 p2 4 o0).2.failed []).1))) := by
  rw [Q14q]
  unfold s_Kd Q117
  simp only [Q8u, Q4r]
  refine Prod.ext rfl ?_
  rw [Q8j o0.failed (isM p1) _ _ _ (Qv2 (prt p1 p2)), Q5p]
  rfl
def Q1w5 (p1 : Val) (p2 : BA) (o0 : PDecoder) : En := .call 278 [.bx 0 0, .agg (Val.cells p1), .str p2, .fn 279 [.bx 0 0] []] [⟨1, 0, false, (PDecoder.cells o0)⟩]
def Q1zy (_p1 : Val) (_p2 : BA) (_o0 : PDecoder) (q0 : List ByteArray) (q1 : PDecoder) : Rs := .ret (.sl (Qu q0)) [⟨1, 0, false, (PDecoder.cells q1)⟩]
def Q1nx (p1 : Val) (p2 : BA) (o0 : PDecoder) : Rs := Q1zy p1 p2 o0 (Q117 p1 p2 o0).1 (Q117 p1 p2 o0).2
def Q1hs (p1 : Val) : Prop := Val.Sm 1000000000 p1
theorem Q135 (p1 : Val) (p2 : BA) (o0 : PDecoder) (H : Q1hs p1) : (H_Kd p1) ∧ (Qbn p1 p2 o0) ∧ True := by
  have hl := Qn5 (Q3t H p2)
  refine ⟨H, ?_, trivial⟩
  unfold Qbn s_Kd
  simp only [Q8u]
  exact ⟨Nat.le_trans hl.1 (Nat.le_of_ble_eq_true rfl), trivial⟩
theorem Q212 (p1 : Val) (p2 : BA) (o0 : PDecoder) (H : Q1hs p1) : Q5 G (Q1w5 p1 p2 o0) (Q1nx p1 p2 o0) := by
 unfold Q1nx
 rw [Q1y9]
 have hl0 := Qy9 p1 p2 o0 ((Q135 p1 p2 o0 H).2.1) (s_Kd p1 p2 4 o0).1.list 0 (s_Kd p1 p2 4 o0).2.failed [] (by simp) (by simp)
 obtain ⟨z0, zo0, hl0⟩ := hl0
 exact Q6 (fn := Ir.K10) rfl (h := [⟨1, 0, false, (PDecoder.cells o0)⟩]) (vw := []) VOK.nil [hP 8 (Qw (Val.rows (s_Kd p1 p2 4 o0).1.list) (List.length (s_Kd p1 p2 4 o0).1.list) (Val.Q0 (s_Kd p1 p2 4 o0).1.list)), hS 0 true (Q75 (Q4y p1 p2 o0 (s_Kd p1 p2 4 o0).1.list 0 (s_Kd p1 p2 4 o0).2.failed []).2 1 rfl), hQ (Q2u (Q4y p1 p2 o0 (s_Kd p1 p2 4 o0).1.list 0 (s_Kd p1 p2 4 o0).2.failed []).2).symm] [aN (t_Kd p1 p2 4 o0 (Q135 p1 p2 o0 H).1), aV [(1, Qu (Q4y p1 p2 o0 (s_Kd p1 p2 4 o0).1.list 0 (s_Kd p1 p2 4 o0).2.failed []).2)] hl0] (by kernel_rfl)
def s_Kj (p1 : Val) (o0 : PDecoder) : Requirement × PDecoder := ((Requirement.dec p1).1, ft o0 (Requirement.dec p1).2)
theorem e_Kj (p1 : Val) (o0 : PDecoder) : s_Kj p1 o0 = (((Requirement.mk (s_Kn p1 Q15 (s_Ko p1 o0).2).1 (s_Kg p1 Q51 (s_Kn p1 Q15 (s_Ko p1 o0).2).2).1 (Q117 p1 Q2c (s_Kg p1 Q51 (s_Kn p1 Q15 (s_Ko p1 o0).2).2).2).1), (Q117 p1 Q2c (s_Kg p1 Q51 (s_Kn p1 Q15 (s_Ko p1 o0).2).2).2).2)) := by
  simp only [s_Ko, s_Kg, s_Kn, Q117, s_Kj, Requirement.dec, Qlt, Bool.and_assoc, Bool.and_left_comm, Bool.and_comm, Bool.and_self_left]
def c_Kj (p1 : Val) (o0 : PDecoder) : En := .call 244 [.bx 0 0, .agg (Val.cells p1)] [⟨1, 0, false, (PDecoder.cells o0)⟩]
def r_Kj (_p1 : Val) (_o0 : PDecoder) (q0 : Requirement) (q1 : PDecoder) : Rs := .ret (.agg (Requirement.cells q0)) [⟨1, 0, false, (PDecoder.cells q1)⟩]
def a_Kj (p1 : Val) (o0 : PDecoder) : Rs := r_Kj p1 o0 (s_Kj p1 o0).1 (s_Kj p1 o0).2
def H_Kj (p1 : Val) : Prop := Val.Sm 1000000000 p1
theorem Q10k (p1 : Val) (_o0 : PDecoder) (H : H_Kj p1) : (H_Kn p1) ∧ (H_Kg p1) ∧ (Q1hs p1) ∧ True := by
  repeat' with_reducible apply And.intro
  all_goals first | exact True.intro | exact H | exact Qmm (Q3t H _)
theorem t_Kj (p1 : Val) (o0 : PDecoder) (H : H_Kj p1) : Q5 G (c_Kj p1 o0) (a_Kj p1 o0) := by
 unfold a_Kj
 rw [e_Kj]
 exact Q6 (fn := Ir.Kj) rfl (h := [⟨1, 0, false, (PDecoder.cells o0)⟩]) (vw := []) VOK.nil [] [aN (t_Ko p1 o0), aN (t_Kn p1 Q15 (s_Ko p1 o0).2 (Q10k p1 o0 H).1), aN (t_Kg p1 Q51 (s_Kn p1 Q15 (s_Ko p1 o0).2).2 (Q10k p1 o0 H).2.1), aN (Q212 p1 Q2c (s_Kg p1 Q51 (s_Kn p1 Q15 (s_Ko p1 o0).2).2).2 (Q10k p1 o0 H).2.2.1)] (by kernel_rfl)
def Q6c (p1 : Val) (p2 : BA) (o0 : PDecoder) : List Val → Nat → Bool → (List Requirement) → Bool × (List Requirement)
 | [], _i0, v0_1, v0_2 =>
  (v0_1, v0_2)
 | x0 :: r0, i0, v0_1, v0_2 =>
  Q6c p1 p2 o0 r0 (i0 + 1) (s_Kj x0 (PDecoder.mk v0_1)).2.failed (v0_2 ++ [(s_Kj x0 (PDecoder.mk v0_1)).1])
def Q11p (p1 : Val) (p2 : BA) (o0 : PDecoder) (i0 : Nat) (_v0_1 : Bool) (v0_2 : List Requirement) : List PV :=
  [.un, .un, .un, .fn 244 [.bx 0 0] []] ++ nuns 5 ++ [.ms 1 3 0 (List.length v0_2)] ++ nuns 6 ++ [.sl (Val.rows (s_Kd p1 p2 4 o0).1.list), .int .i64 ((List.length (s_Kd p1 p2 4 o0).1.list) : Int), .int .i64 (i0 : Int)] ++ nuns 11
def Qrw (_p1 : Val) (_p2 : BA) (_o0 : PDecoder) (_i0 : Nat) (v0_1 : Bool) (v0_2 : List Requirement) : List Ob :=
  [⟨1, 0, false, [.bool v0_1]⟩, ⟨3, 0, true, (Requirement.rows v0_2).flatten⟩]
def Qro (p1 : Val) (p2 : BA) (o0 : PDecoder) (i0 : Nat) (v0_1 : Bool) (v0_2 : List Requirement) : En := .loop 1 Ir.Qna Ir.Q1nn (Q11p p1 p2 o0 i0 v0_1 v0_2) (Qrw p1 p2 o0 i0 v0_1 v0_2)
def Qx7 (_p1 : Val) (_p2 : BA) (_o0 : PDecoder) (q0 : Bool) (q1 : List Requirement) (z : Nat → PV) (_zo : Nat → List PV) : St :=
  ⟨zr z 0 9 ++ [.ms 1 3 0 (List.length q1)] ++ zr z 10 20, [(0, ⟨1, 0, false, [.bool q0]⟩), (1, ⟨3, 0, true, (Requirement.rows q1).flatten⟩)], 66⟩
theorem Q1a1 (p1 : Val) (p2 : BA) (o0 : PDecoder) (i0 : Nat) (v0_1 : Bool) (v0_2 : List Requirement) : VOK (Go.Pv.look (number 0 (Qrw p1 p2 o0 i0 v0_1 v0_2))) [(1, Requirement.rows v0_2)] := (VOK.cons (show Seen _ _ from Q3i (ob := ⟨3, 0, true, (Requirement.rows v0_2).flatten⟩) (Requirement.Q7 v0_2 3 rfl)) VOK.nil)
def Qtg (p1 : Val) (p2 : BA) (o0 : PDecoder) (e : En) (q : Bool × (List Requirement)) : Prop := ∃ z zo, Q5 G e (.st (.exit 0) (Qx7 p1 p2 o0 q.1 q.2 z zo))
theorem Qwx (p1 : Val) (p2 : BA) (o0 : PDecoder) {e e' : En} (h : ∀ r, Q5 G e r → Q5 G e' r) : ∀ q, Qtg p1 p2 o0 e q → Qtg p1 p2 o0 e' q
  | _, ⟨z, zo, hz⟩ => ⟨z, zo, h _ hz⟩
def Qie (p1 : Val) (p2 : BA) (o0 : PDecoder) : Prop := (List.length (s_Kd p1 p2 4 o0).1.list ≤ 137438953472) ∧ (∀ x0 ∈ (s_Kd p1 p2 4 o0).1.list, H_Kj x0) ∧ True
def Qxh (p1 : Val) (p2 : BA) (o0 : PDecoder) (i0 : Nat) (_v0_1 : Bool) (_v0_2 : List Requirement) : List PV :=
  [.un, .un, .un, .fn 244 [.bx 0 0] []] ++ nuns 12 ++ [.sl (Val.rows (s_Kd p1 p2 4 o0).1.list), .int .i64 ((List.length (s_Kd p1 p2 4 o0).1.list) : Int), .int .i64 (i0 : Int), .bool false]
def Qox (_p1 : Val) (_p2 : BA) (_o0 : PDecoder) (_i0 : Nat) (_v0_1 : Bool) (_v0_2 : List Requirement) : List (Nat × List PV) :=
  []
theorem Q1d8 (p1 : Val) (p2 : BA) (o0 : PDecoder) (_H : Qie p1 p2 o0) (i0 : Nat) (v0_1 : Bool) (v0_2 : List Requirement) (_ho0_0 : List.length v0_2 ≤ i0) (hc0 : (decide ((i0 : Int) < ((List.length (s_Kd p1 p2 4 o0).1.list) : Int))) = false) : Qtg p1 p2 o0 (Qro p1 p2 o0 i0 v0_1 v0_2) (v0_1, v0_2) := by
 exact ⟨(envF (Qxh p1 p2 o0 i0 v0_1 v0_2)), (zoF (Qox p1 p2 o0 i0 v0_1 v0_2)), Qj (Q1a1 p1 p2 o0 i0 v0_1 v0_2) (x := ((.exit 0), Qx7 p1 p2 o0 v0_1 v0_2 (envF (Qxh p1 p2 o0 i0 v0_1 v0_2)) (zoF (Qox p1 p2 o0 i0 v0_1 v0_2)))) [hB 0 hc0] [] (by kernel_rfl)⟩
theorem Q1bm (p1 : Val) (p2 : BA) (o0 : PDecoder) (H : Qie p1 p2 o0) (x0 : Val) (i0 : Nat) (v0_1 : Bool) (v0_2 : List Requirement) (hx0 : (s_Kd p1 p2 4 o0).1.list[i0]? = some x0) (hi0 : i0 < List.length (s_Kd p1 p2 4 o0).1.list) (ho0_0 : List.length v0_2 ≤ i0) (hc0 : (decide ((i0 : Int) < ((List.length (s_Kd p1 p2 4 o0).1.list) : Int))) = true) {r : Rs} (hr : Q5 G (Qro p1 p2 o0 (i0 + 1) (s_Kj x0 (PDecoder.mk v0_1)).2.failed (v0_2 ++ [(s_Kj x0 (PDecoder.mk v0_1)).1])) r) : Q5 G (Qro p1 p2 o0 i0 v0_1 v0_2) r := by
 have hB0 := H.1
 exact Qd (Q1a1 p1 p2 o0 i0 v0_1 v0_2) (y := (Q11p p1 p2 o0 (i0 + 1) (s_Kj x0 (PDecoder.mk v0_1)).2.failed (v0_2 ++ [(s_Kj x0 (PDecoder.mk v0_1)).1]), Qrw p1 p2 o0 (i0 + 1) (s_Kj x0 (PDecoder.mk v0_1)).2.failed (v0_2 ++ [(s_Kj x0 (PDecoder.mk v0_1)).1]))) [hB 0 hc0, hP 0 (Q2g 5 (Val.rows (s_Kd p1 p2 4 o0).1.list) i0 _ (Val.Qe hx0) rfl), hV 8 [(642, Requirement.rows (v0_2 ++ [(s_Kj x0 (PDecoder.mk v0_1)).1]))] (Q3x 1 578 642 3 48 0 0 true (Requirement.rows v0_2) (Requirement.rows (v0_2 ++ [(s_Kj x0 (PDecoder.mk v0_1)).1])) (Requirement.cells (s_Kj x0 (PDecoder.mk v0_1)).1) (List.length v0_2) (List.length (v0_2 ++ [(s_Kj x0 (PDecoder.mk v0_1)).1])) rfl (Requirement.Q0 v0_2).symm (Requirement.Q0 (v0_2 ++ [(s_Kj x0 (PDecoder.mk v0_1)).1])).symm (Requirement.Q1q v0_2 (s_Kj x0 (PDecoder.mk v0_1)).1) (Requirement.Ql v0_2) rfl (by omega)), hS 0 true (Requirement.Q7 (v0_2 ++ [(s_Kj x0 (PDecoder.mk v0_1)).1]) 3 rfl), hP 1 (Q28 i0 (by omega))] [aN (t_Kj x0 (PDecoder.mk v0_1) (H.2.1 x0 (Q2o hx0)))] (by kernel_rfl) hr
theorem Q146 (p1 : Val) (p2 : BA) (o0 : PDecoder) (H : Qie p1 p2 o0) : ∀ (r0 : List Val) (i0 : Nat) (v0_1 : Bool) (v0_2 : List Requirement), List.drop i0 (s_Kd p1 p2 4 o0).1.list = r0 → List.length v0_2 ≤ i0 → Qtg p1 p2 o0 (Qro p1 p2 o0 i0 v0_1 v0_2) (Q6c p1 p2 o0 r0 i0 v0_1 v0_2)
 | [], i0, v0_1, v0_2, hd, ho0_0 => by
  have hc0 : (decide ((i0 : Int) < ((List.length (s_Kd p1 p2 4 o0).1.list) : Int))) = false := by have := Q1o hd; simp; omega
  rw [Q6c]
  exact Q1d8 p1 p2 o0 H i0 v0_1 v0_2 ho0_0 hc0
 | x0 :: r0, i0, v0_1, v0_2, hd, ho0_0 => by
  obtain ⟨hx0, hi0, hd'⟩ := Q1i hd
  have hc0 : (decide ((i0 : Int) < ((List.length (s_Kd p1 p2 4 o0).1.list) : Int))) = true := by simp; omega
  rw [Q6c]
  exact Qwx p1 p2 o0 (fun r hr => Q1bm p1 p2 o0 H x0 i0 v0_1 v0_2 hx0 hi0 ho0_0 hc0 hr) _ (Q146 p1 p2 o0 H r0 (i0 + 1) (s_Kj x0 (PDecoder.mk v0_1)).2.failed (v0_2 ++ [(s_Kj x0 (PDecoder.mk v0_1)).1]) hd' (by first | omega | (simp; omega)))
def s_Ku (p1 : Val) (p2 : BA) (o0 : PDecoder) : List Requirement × PDecoder := ((dE Requirement.dec p1 p2).1, ft o0 (isM p1 && (dE Requirement.dec p1 p2).2))
theorem Q1ca (p1 : Val) (p2 : BA) (o0 : PDecoder) : ∀ (l : List Val) (i : Nat) (b : Bool) (a : List Requirement), Q6c p1 p2 o0 l i b a = (b || !(l.all fun x => (Requirement.dec x).2), a ++ l.map (fun x => (Requirement.dec x).1))
  | [], _, b, a => by rw [Q6c]; simp
  | x :: l, i, b, a => by
    rw [Q6c]
    refine (Q1ca p1 p2 o0 l (i + 1) (b || !(Requirement.dec x).2) (a ++ [(Requirement.dec x).1])).trans ?_
    simp only [List.append_assoc, List.singleton_append, List.map_cons, List.all_cons, Bool.not_and, Bool.or_assoc]
theorem e_Ku (p1 : Val) (p2 : BA) (o0 : PDecoder) : s_Ku p1 p2 o0 = (((Q6c p1 p2 o0 (s_Kd p1 p2 4 o0).1.list 0 (s_Kd p1 p2 4 o0).2.failed []).2, (PDecoder.mk (Q6c p1 p2 o0 (s_Kd p1 p2 4 o0).1.list 0 (s_Kd p1 p2 4 o0).2.failed []).1))) := by
  rw [Q1ca]
  unfold s_Kd s_Ku
  simp only [Q8u, Q4r]
  refine Prod.ext rfl ?_
  rw [Q8j o0.failed (isM p1) _ _ _ (Qv2 (prt p1 p2)), Q5p]
  rfl
def c_Ku (p1 : Val) (p2 : BA) (o0 : PDecoder) : En := .call 243 [.bx 0 0, .agg (Val.cells p1), .str p2, .fn 244 [.bx 0 0] []] [⟨1, 0, false, (PDecoder.cells o0)⟩]
def r_Ku (_p1 : Val) (_p2 : BA) (_o0 : PDecoder) (q0 : List Requirement) (q1 : PDecoder) : Rs := .ret (.sl (Requirement.rows q0)) [⟨1, 0, false, (PDecoder.cells q1)⟩]
def a_Ku (p1 : Val) (p2 : BA) (o0 : PDecoder) : Rs := r_Ku p1 p2 o0 (s_Ku p1 p2 o0).1 (s_Ku p1 p2 o0).2
def H_Ku (p1 : Val) : Prop := Val.Sm 1000000000 p1
theorem Q1at (p1 : Val) (p2 : BA) (o0 : PDecoder) (H : H_Ku p1) : (H_Kd p1) ∧ (Qie p1 p2 o0) ∧ True := by
  have hl := Qn5 (Q3t H p2)
  refine ⟨H, ?_, trivial⟩
  unfold Qie s_Kd
  simp only [Q8u]
  exact ⟨Nat.le_trans hl.1 (Nat.le_of_ble_eq_true rfl), hl.2, trivial⟩
theorem t_Ku (p1 : Val) (p2 : BA) (o0 : PDecoder) (H : H_Ku p1) : Q5 G (c_Ku p1 p2 o0) (a_Ku p1 p2 o0) := by
 unfold a_Ku
 rw [e_Ku]
 have hl0 := Q146 p1 p2 o0 ((Q1at p1 p2 o0 H).2.1) (s_Kd p1 p2 4 o0).1.list 0 (s_Kd p1 p2 4 o0).2.failed [] (by simp) (by simp)
 obtain ⟨z0, zo0, hl0⟩ := hl0
 exact Q6 (fn := Ir.Ku) rfl (h := [⟨1, 0, false, (PDecoder.cells o0)⟩]) (vw := []) VOK.nil [hP 8 (Qw (Val.rows (s_Kd p1 p2 4 o0).1.list) (List.length (s_Kd p1 p2 4 o0).1.list) (Val.Q0 (s_Kd p1 p2 4 o0).1.list)), hS 0 true (Requirement.Q7 (Q6c p1 p2 o0 (s_Kd p1 p2 4 o0).1.list 0 (s_Kd p1 p2 4 o0).2.failed []).2 3 rfl), hQ (Requirement.Q0 (Q6c p1 p2 o0 (s_Kd p1 p2 4 o0).1.list 0 (s_Kd p1 p2 4 o0).2.failed []).2).symm] [aN (t_Kd p1 p2 4 o0 (Q1at p1 p2 o0 H).1), aV [(1, Requirement.rows (Q6c p1 p2 o0 (s_Kd p1 p2 4 o0).1.list 0 (s_Kd p1 p2 4 o0).2.failed []).2)] hl0] (by kernel_rfl)
def s_Kf (p1 : Val) (o0 : PDecoder) : NodeTerm × PDecoder := ((NodeTerm.dec p1).1, ft o0 (NodeTerm.dec p1).2)
theorem e_Kf (p1 : Val) (o0 : PDecoder) : s_Kf p1 o0 = (((NodeTerm.mk (s_Kc p1 Q9 (s_Ko p1 o0).2).1 (s_Ku p1 Q8 (s_Kc p1 Q9 (s_Ko p1 o0).2).2).1 (s_Kg p1 Q10 (s_Ku p1 Q8 (s_Kc p1 Q9 (s_Ko p1 o0).2).2).2).1), (s_Kg p1 Q10 (s_Ku p1 Q8 (s_Kc p1 Q9 (s_Ko p1 o0).2).2).2).2)) := by
  simp only [s_Ko, s_Kg, s_Kc, s_Ku, s_Kf, NodeTerm.dec, Qlt, Bool.and_assoc, Bool.and_left_comm, Bool.and_self_left]
def c_Kf (p1 : Val) (o0 : PDecoder) : En := .call 246 [.bx 0 0, .agg (Val.cells p1)] [⟨1, 0, false, (PDecoder.cells o0)⟩]
def r_Kf (_p1 : Val) (_o0 : PDecoder) (q0 : NodeTerm) (q1 : PDecoder) : Rs := .ret (.agg (NodeTerm.cells q0)) [⟨1, 0, false, (PDecoder.cells q1)⟩]
def a_Kf (p1 : Val) (o0 : PDecoder) : Rs := r_Kf p1 o0 (s_Kf p1 o0).1 (s_Kf p1 o0).2
def H_Kf (p1 : Val) : Prop := Val.Sm 1000000000 p1
theorem Q10j (p1 : Val) (_o0 : PDecoder) (H : H_Kf p1) : (H_Kc p1) ∧ (H_Ku p1) ∧ (H_Kg p1) ∧ True := by
  repeat' with_reducible apply And.intro
  all_goals first | exact True.intro | exact H | exact Qmm (Q3t H _)
theorem t_Kf (p1 : Val) (o0 : PDecoder) (H : H_Kf p1) : Q5 G (c_Kf p1 o0) (a_Kf p1 o0) := by
 unfold a_Kf
 rw [e_Kf]
 exact Q6 (fn := Ir.Kf) rfl (h := [⟨1, 0, false, (PDecoder.cells o0)⟩]) (vw := []) VOK.nil [] [aN (t_Ko p1 o0), aN (t_Kc p1 Q9 (s_Ko p1 o0).2 (Q10j p1 o0 H).1), aN (t_Ku p1 Q8 (s_Kc p1 Q9 (s_Ko p1 o0).2).2 (Q10j p1 o0 H).2.1), aN (t_Kg p1 Q10 (s_Ku p1 Q8 (s_Kc p1 Q9 (s_Ko p1 o0).2).2).2 (Q10j p1 o0 H).2.2.1)] (by kernel_rfl)
def Q6d (p1 : Val) (p2 : BA) (o0 : PDecoder) : List Val → Nat → Bool → (List NodeTerm) → Bool × (List NodeTerm)
 | [], _i0, v0_1, v0_2 =>
  (v0_1, v0_2)
 | x0 :: r0, i0, v0_1, v0_2 =>
  Q6d p1 p2 o0 r0 (i0 + 1) (s_Kf x0 (PDecoder.mk v0_1)).2.failed (v0_2 ++ [(s_Kf x0 (PDecoder.mk v0_1)).1])
def Q11q (p1 : Val) (p2 : BA) (o0 : PDecoder) (i0 : Nat) (_v0_1 : Bool) (v0_2 : List NodeTerm) : List PV :=
  [.un, .un, .un, .fn 246 [.bx 0 0] []] ++ nuns 5 ++ [.ms 1 3 0 (List.length v0_2)] ++ nuns 6 ++ [.sl (Val.rows (s_Kd p1 p2 4 o0).1.list), .int .i64 ((List.length (s_Kd p1 p2 4 o0).1.list) : Int), .int .i64 (i0 : Int)] ++ nuns 11
def Qrx (_p1 : Val) (_p2 : BA) (_o0 : PDecoder) (_i0 : Nat) (v0_1 : Bool) (v0_2 : List NodeTerm) : List Ob :=
  [⟨1, 0, false, [.bool v0_1]⟩, ⟨3, 0, true, (NodeTerm.rows v0_2).flatten⟩]
def Qrp (p1 : Val) (p2 : BA) (o0 : PDecoder) (i0 : Nat) (v0_1 : Bool) (v0_2 : List NodeTerm) : En := .loop 1 Ir.Qnb Ir.Q1no (Q11q p1 p2 o0 i0 v0_1 v0_2) (Qrx p1 p2 o0 i0 v0_1 v0_2)
def Qx8 (_p1 : Val) (_p2 : BA) (_o0 : PDecoder) (q0 : Bool) (q1 : List NodeTerm) (z : Nat → PV) (_zo : Nat → List PV) : St :=
  ⟨zr z 0 9 ++ [.ms 1 3 0 (List.length q1)] ++ zr z 10 20, [(0, ⟨1, 0, false, [.bool q0]⟩), (1, ⟨3, 0, true, (NodeTerm.rows q1).flatten⟩)], 66⟩
theorem Q1a2 (p1 : Val) (p2 : BA) (o0 : PDecoder) (i0 : Nat) (v0_1 : Bool) (v0_2 : List NodeTerm) : VOK (Go.Pv.look (number 0 (Qrx p1 p2 o0 i0 v0_1 v0_2))) [(1, NodeTerm.rows v0_2)] := (VOK.cons (show Seen _ _ from Q3i (ob := ⟨3, 0, true, (NodeTerm.rows v0_2).flatten⟩) (NodeTerm.Q7 v0_2 3 rfl)) VOK.nil)
def Qth (p1 : Val) (p2 : BA) (o0 : PDecoder) (e : En) (q : Bool × (List NodeTerm)) : Prop := ∃ z zo, Q5 G e (.st (.exit 0) (Qx8 p1 p2 o0 q.1 q.2 z zo))
theorem Qwy (p1 : Val) (p2 : BA) (o0 : PDecoder) {e e' : En} (h : ∀ r, Q5 G e r → Q5 G e' r) : ∀ q, Qth p1 p2 o0 e q → Qth p1 p2 o0 e' q
  | _, ⟨z, zo, hz⟩ => ⟨z, zo, h _ hz⟩
def Qif (p1 : Val) (p2 : BA) (o0 : PDecoder) : Prop := (List.length (s_Kd p1 p2 4 o0).1.list ≤ 137438953472) ∧ (∀ x0 ∈ (s_Kd p1 p2 4 o0).1.list, H_Kf x0) ∧ True
def Qxi (p1 : Val) (p2 : BA) (o0 : PDecoder) (i0 : Nat) (_v0_1 : Bool) (_v0_2 : List NodeTerm) : List PV :=
  [.un, .un, .un, .fn 246 [.bx 0 0] []] ++ nuns 12 ++ [.sl (Val.rows (s_Kd p1 p2 4 o0).1.list), .int .i64 ((List.length (s_Kd p1 p2 4 o0).1.list) : Int), .int .i64 (i0 : Int), .bool false]
def Qoy (_p1 : Val) (_p2 : BA) (_o0 : PDecoder) (_i0 : Nat) (_v0_1 : Bool) (_v0_2 : List NodeTerm) : List (Nat × List PV) :=
  []
theorem Q1d9 (p1 : Val) (p2 : BA) (o0 : PDecoder) (_H : Qif p1 p2 o0) (i0 : Nat) (v0_1 : Bool) (v0_2 : List NodeTerm) (_ho0_0 : List.length v0_2 ≤ i0) (hc0 : (decide ((i0 : Int) < ((List.length (s_Kd p1 p2 4 o0).1.list) : Int))) = false) : Qth p1 p2 o0 (Qrp p1 p2 o0 i0 v0_1 v0_2) (v0_1, v0_2) := by
 exact ⟨(envF (Qxi p1 p2 o0 i0 v0_1 v0_2)), (zoF (Qoy p1 p2 o0 i0 v0_1 v0_2)), Qj (Q1a2 p1 p2 o0 i0 v0_1 v0_2) (x := ((.exit 0), Qx8 p1 p2 o0 v0_1 v0_2 (envF (Qxi p1 p2 o0 i0 v0_1 v0_2)) (zoF (Qoy p1 p2 o0 i0 v0_1 v0_2)))) [hB 0 hc0] [] (by kernel_rfl)⟩
theorem Q1bn (p1 : Val) (p2 : BA) (o0 : PDecoder) (H : Qif p1 p2 o0) (x0 : Val) (i0 : Nat) (v0_1 : Bool) (v0_2 : List NodeTerm) (hx0 : (s_Kd p1 p2 4 o0).1.list[i0]? = some x0) (hi0 : i0 < List.length (s_Kd p1 p2 4 o0).1.list) (ho0_0 : List.length v0_2 ≤ i0) (hc0 : (decide ((i0 : Int) < ((List.length (s_Kd p1 p2 4 o0).1.list) : Int))) = true) {r : Rs} (hr : Q5 G (Qrp p1 p2 o0 (i0 + 1) (s_Kf x0 (PDecoder.mk v0_1)).2.failed (v0_2 ++ [(s_Kf x0 (PDecoder.mk v0_1)).1])) r) : Q5 G (Qrp p1 p2 o0 i0 v0_1 v0_2) r := by
 have hB0 := H.1
 exact Qd (Q1a2 p1 p2 o0 i0 v0_1 v0_2) (y := (Q11q p1 p2 o0 (i0 + 1) (s_Kf x0 (PDecoder.mk v0_1)).2.failed (v0_2 ++ [(s_Kf x0 (PDecoder.mk v0_1)).1]), Qrx p1 p2 o0 (i0 + 1) (s_Kf x0 (PDecoder.mk v0_1)).2.failed (v0_2 ++ [(s_Kf x0 (PDecoder.mk v0_1)).1]))) [hB 0 hc0, hP 0 (Q2g 5 (Val.rows (s_Kd p1 p2 4 o0).1.list) i0 _ (Val.Qe hx0) rfl), hV 8 [(642, NodeTerm.rows (v0_2 ++ [(s_Kf x0 (PDecoder.mk v0_1)).1]))] (Q3x 1 578 642 3 40 0 0 true (NodeTerm.rows v0_2) (NodeTerm.rows (v0_2 ++ [(s_Kf x0 (PDecoder.mk v0_1)).1])) (NodeTerm.cells (s_Kf x0 (PDecoder.mk v0_1)).1) (List.length v0_2) (List.length (v0_2 ++ [(s_Kf x0 (PDecoder.mk v0_1)).1])) rfl (NodeTerm.Q0 v0_2).symm (NodeTerm.Q0 (v0_2 ++ [(s_Kf x0 (PDecoder.mk v0_1)).1])).symm (NodeTerm.Q1q v0_2 (s_Kf x0 (PDecoder.mk v0_1)).1) (NodeTerm.Ql v0_2) rfl (by omega)), hS 0 true (NodeTerm.Q7 (v0_2 ++ [(s_Kf x0 (PDecoder.mk v0_1)).1]) 3 rfl), hP 1 (Q28 i0 (by omega))] [aN (t_Kf x0 (PDecoder.mk v0_1) (H.2.1 x0 (Q2o hx0)))] (by kernel_rfl) hr
theorem Q147 (p1 : Val) (p2 : BA) (o0 : PDecoder) (H : Qif p1 p2 o0) : ∀ (r0 : List Val) (i0 : Nat) (v0_1 : Bool) (v0_2 : List NodeTerm), List.drop i0 (s_Kd p1 p2 4 o0).1.list = r0 → List.length v0_2 ≤ i0 → Qth p1 p2 o0 (Qrp p1 p2 o0 i0 v0_1 v0_2) (Q6d p1 p2 o0 r0 i0 v0_1 v0_2)
 | [], i0, v0_1, v0_2, hd, ho0_0 => by
  have hc0 : (decide ((i0 : Int) < ((List.length (s_Kd p1 p2 4 o0).1.list) : Int))) = false := by have := Q1o hd; simp; omega
  rw [Q6d]
  exact Q1d9 p1 p2 o0 H i0 v0_1 v0_2 ho0_0 hc0
 | x0 :: r0, i0, v0_1, v0_2, hd, ho0_0 => by
  obtain ⟨hx0, hi0, hd'⟩ := Q1i hd
  have hc0 : (decide ((i0 : Int) < ((List.length (s_Kd p1 p2 4 o0).1.list) : Int))) = true := by simp; omega
  rw [Q6d]
  exact Qwy p1 p2 o0 (fun r hr => Q1bn p1 p2 o0 H x0 i0 v0_1 v0_2 hx0 hi0 ho0_0 hc0 hr) _ (Q147 p1 p2 o0 H r0 (i0 + 1) (s_Kf x0 (PDecoder.mk v0_1)).2.failed (v0_2 ++ [(s_Kf x0 (PDecoder.mk v0_1)).1]) hd' (by first | omega | (simp; omega)))
def s_Kv (p1 : Val) (p2 : BA) (o0 : PDecoder) : List NodeTerm × PDecoder := ((dE NodeTerm.dec p1 p2).1, ft o0 (isM p1 && (dE NodeTerm.dec p1 p2).2))
theorem Q1cb (p1 : Val) (p2 : BA) (o0 : PDecoder) : ∀ (l : List Val) (i : Nat) (b : Bool) (a : List NodeTerm), Q6d p1 p2 o0 l i b a = (b || !(l.all fun x => (NodeTerm.dec x).2), a ++ l.map (fun x => (NodeTerm.dec x).1))
  | [], _, b, a => by rw [Q6d]; simp
  | x :: l, i, b, a => by
    rw [Q6d]
    refine (Q1cb p1 p2 o0 l (i + 1) (b || !(NodeTerm.dec x).2) (a ++ [(NodeTerm.dec x).1])).trans ?_
    simp only [List.append_assoc, List.singleton_append, List.map_cons, List.all_cons, Bool.not_and, Bool.or_assoc]
theorem e_Kv (p1 : Val) (p2 : BA) (o0 : PDecoder) : s_Kv p1 p2 o0 = (((Q6d p1 p2 o0 (s_Kd p1 p2 4 o0).1.list 0 (s_Kd p1 p2 4 o0).2.failed []).2, (PDecoder.mk (Q6d p1 p2 o0 (s_Kd p1 p2 4 o0).1.list 0 (s_Kd p1 p2 4 o0).2.failed []).1))) := by
  rw [Q1cb]
  unfold s_Kd s_Kv
  simp only [Q8u, Q4r]
  refine Prod.ext rfl ?_
  rw [Q8j o0.failed (isM p1) _ _ _ (Qv2 (prt p1 p2)), Q5p]
  rfl
def c_Kv (p1 : Val) (p2 : BA) (o0 : PDecoder) : En := .call 245 [.bx 0 0, .agg (Val.cells p1), .str p2, .fn 246 [.bx 0 0] []] [⟨1, 0, false, (PDecoder.cells o0)⟩]
def r_Kv (_p1 : Val) (_p2 : BA) (_o0 : PDecoder) (q0 : List NodeTerm) (q1 : PDecoder) : Rs := .ret (.sl (NodeTerm.rows q0)) [⟨1, 0, false, (PDecoder.cells q1)⟩]
def a_Kv (p1 : Val) (p2 : BA) (o0 : PDecoder) : Rs := r_Kv p1 p2 o0 (s_Kv p1 p2 o0).1 (s_Kv p1 p2 o0).2
def H_Kv (p1 : Val) : Prop := Val.Sm 1000000000 p1
theorem Q1au (p1 : Val) (p2 : BA) (o0 : PDecoder) (H : H_Kv p1) : (H_Kd p1) ∧ (Qif p1 p2 o0) ∧ True := by
  have hl := Qn5 (Q3t H p2)
  refine ⟨H, ?_, trivial⟩
  unfold Qif s_Kd
  simp only [Q8u]
  exact ⟨Nat.le_trans hl.1 (Nat.le_of_ble_eq_true rfl), hl.2, trivial⟩
theorem t_Kv (p1 : Val) (p2 : BA) (o0 : PDecoder) (H : H_Kv p1) : Q5 G (c_Kv p1 p2 o0) (a_Kv p1 p2 o0) := by
 unfold a_Kv
 rw [e_Kv]
 have hl0 := Q147 p1 p2 o0 ((Q1au p1 p2 o0 H).2.1) (s_Kd p1 p2 4 o0).1.list 0 (s_Kd p1 p2 4 o0).2.failed [] (by simp) (by simp)
 obtain ⟨z0, zo0, hl0⟩ := hl0
 exact Q6 (fn := Ir.Kv) rfl (h := [⟨1, 0, false, (PDecoder.cells o0)⟩]) (vw := []) VOK.nil [hP 8 (Qw (Val.rows (s_Kd p1 p2 4 o0).1.list) (List.length (s_Kd p1 p2 4 o0).1.list) (Val.Q0 (s_Kd p1 p2 4 o0).1.list)), hS 0 true (NodeTerm.Q7 (Q6d p1 p2 o0 (s_Kd p1 p2 4 o0).1.list 0 (s_Kd p1 p2 4 o0).2.failed []).2 3 rfl), hQ (NodeTerm.Q0 (Q6d p1 p2 o0 (s_Kd p1 p2 4 o0).1.list 0 (s_Kd p1 p2 4 o0).2.failed []).2).symm] [aN (t_Kd p1 p2 4 o0 (Q1au p1 p2 o0 H).1), aV [(1, NodeTerm.rows (Q6d p1 p2 o0 (s_Kd p1 p2 4 o0).1.list 0 (s_Kd p1 p2 4 o0).2.failed []).2)] hl0] (by kernel_rfl)
def s_Kh (p1 : Val) (o0 : PDecoder) : PodTerm × PDecoder := ((PodTerm.dec p1).1, ft o0 (PodTerm.dec p1).2)
theorem e_Kh (p1 : Val) (o0 : PDecoder) : s_Kh p1 o0 = (((PodTerm.mk (s_Kc p1 Q9 (s_Ko p1 o0).2).1 (s_Kc p1 Q2t (s_Kc p1 Q9 (s_Ko p1 o0).2).2).1 (s_Ku p1 Q8 (s_Kc p1 Q2t (s_Kc p1 Q9 (s_Ko p1 o0).2).2).2).1 (s_Kn p1 Qi (s_Ku p1 Q8 (s_Kc p1 Q2t (s_Kc p1 Q9 (s_Ko p1 o0).2).2).2).2).1 (s_Kg p1 Q10 (s_Kn p1 Qi (s_Ku p1 Q8 (s_Kc p1 Q2t (s_Kc p1 Q9 (s_Ko p1 o0).2).2).2).2).2).1), (s_Kg p1 Q10 (s_Kn p1 Qi (s_Ku p1 Q8 (s_Kc p1 Q2t (s_Kc p1 Q9 (s_Ko p1 o0).2).2).2).2).2).2)) := by
  simp only [s_Ko, s_Kg, s_Kn, s_Kc, s_Ku, s_Kh, PodTerm.dec, Qlt, Bool.and_assoc, Bool.and_left_comm, Bool.and_comm, Bool.and_self_left]
def c_Kh (p1 : Val) (o0 : PDecoder) : En := .call 248 [.bx 0 0, .agg (Val.cells p1)] [⟨1, 0, false, (PDecoder.cells o0)⟩]
def r_Kh (_p1 : Val) (_o0 : PDecoder) (q0 : PodTerm) (q1 : PDecoder) : Rs := .ret (.agg (PodTerm.cells q0)) [⟨1, 0, false, (PDecoder.cells q1)⟩]
def a_Kh (p1 : Val) (o0 : PDecoder) : Rs := r_Kh p1 o0 (s_Kh p1 o0).1 (s_Kh p1 o0).2
def H_Kh (p1 : Val) : Prop := Val.Sm 1000000000 p1
theorem Qlu (p1 : Val) (_o0 : PDecoder) (H : H_Kh p1) : (H_Kc p1) ∧ (H_Ku p1) ∧ (H_Kn p1) ∧ (H_Kg p1) ∧ True := by
  repeat' with_reducible apply And.intro
  all_goals first | exact True.intro | exact H | exact Qmm (Q3t H _)
theorem t_Kh (p1 : Val) (o0 : PDecoder) (H : H_Kh p1) : Q5 G (c_Kh p1 o0) (a_Kh p1 o0) := by
 unfold a_Kh
 rw [e_Kh]
 exact Q6 (fn := Ir.Kh) rfl (h := [⟨1, 0, false, (PDecoder.cells o0)⟩]) (vw := []) VOK.nil [] [aN (t_Ko p1 o0), aN (t_Kc p1 Q9 (s_Ko p1 o0).2 (Qlu p1 o0 H).1), aN (t_Kc p1 Q2t (s_Kc p1 Q9 (s_Ko p1 o0).2).2 (Qlu p1 o0 H).1), aN (t_Ku p1 Q8 (s_Kc p1 Q2t (s_Kc p1 Q9 (s_Ko p1 o0).2).2).2 (Qlu p1 o0 H).2.1), aN (t_Kn p1 Qi (s_Ku p1 Q8 (s_Kc p1 Q2t (s_Kc p1 Q9 (s_Ko p1 o0).2).2).2).2 (Qlu p1 o0 H).2.2.1), aN (t_Kg p1 Q10 (s_Kn p1 Qi (s_Ku p1 Q8 (s_Kc p1 Q2t (s_Kc p1 Q9 (s_Ko p1 o0).2).2).2).2).2 (Qlu p1 o0 H).2.2.2.1)] (by kernel_rfl)
def Q6e (p1 : Val) (p2 : BA) (o0 : PDecoder) : List Val → Nat → Bool → (List PodTerm) → Bool × (List PodTerm)
 | [], _i0, v0_1, v0_2 =>
  (v0_1, v0_2)
 | x0 :: r0, i0, v0_1, v0_2 =>
  Q6e p1 p2 o0 r0 (i0 + 1) (s_Kh x0 (PDecoder.mk v0_1)).2.failed (v0_2 ++ [(s_Kh x0 (PDecoder.mk v0_1)).1])
def Q11r (p1 : Val) (p2 : BA) (o0 : PDecoder) (i0 : Nat) (_v0_1 : Bool) (v0_2 : List PodTerm) : List PV :=
  [.un, .un, .un, .fn 248 [.bx 0 0] []] ++ nuns 5 ++ [.ms 1 5 0 (List.length v0_2)] ++ nuns 6 ++ [.sl (Val.rows (s_Kd p1 p2 4 o0).1.list), .int .i64 ((List.length (s_Kd p1 p2 4 o0).1.list) : Int), .int .i64 (i0 : Int)] ++ nuns 11
def Qry (_p1 : Val) (_p2 : BA) (_o0 : PDecoder) (_i0 : Nat) (v0_1 : Bool) (v0_2 : List PodTerm) : List Ob :=
  [⟨1, 0, false, [.bool v0_1]⟩, ⟨5, 0, true, (PodTerm.rows v0_2).flatten⟩]
def Qrq (p1 : Val) (p2 : BA) (o0 : PDecoder) (i0 : Nat) (v0_1 : Bool) (v0_2 : List PodTerm) : En := .loop 1 Ir.Qnc Ir.Q1np (Q11r p1 p2 o0 i0 v0_1 v0_2) (Qry p1 p2 o0 i0 v0_1 v0_2)
def Qx9 (_p1 : Val) (_p2 : BA) (_o0 : PDecoder) (q0 : Bool) (q1 : List PodTerm) (z : Nat → PV) (_zo : Nat → List PV) : St :=
  ⟨zr z 0 9 ++ [.ms 1 5 0 (List.length q1)] ++ zr z 10 20, [(0, ⟨1, 0, false, [.bool q0]⟩), (1, ⟨5, 0, true, (PodTerm.rows q1).flatten⟩)], 66⟩
theorem Q1a3 (p1 : Val) (p2 : BA) (o0 : PDecoder) (i0 : Nat) (v0_1 : Bool) (v0_2 : List PodTerm) : VOK (Go.Pv.look (number 0 (Qry p1 p2 o0 i0 v0_1 v0_2))) [(1, PodTerm.rows v0_2)] := (VOK.cons (show Seen _ _ from Q3i (ob := ⟨5, 0, true, (PodTerm.rows v0_2).flatten⟩) (PodTerm.Q7 v0_2 5 rfl)) VOK.nil)
def Qti (p1 : Val) (p2 : BA) (o0 : PDecoder) (e : En) (q : Bool × (List PodTerm)) : Prop := ∃ z zo, Q5 G e (.st (.exit 0) (Qx9 p1 p2 o0 q.1 q.2 z zo))
theorem Qwz (p1 : Val) (p2 : BA) (o0 : PDecoder) {e e' : En} (h : ∀ r, Q5 G e r → Q5 G e' r) : ∀ q, Qti p1 p2 o0 e q → Qti p1 p2 o0 e' q
  | _, ⟨z, zo, hz⟩ => ⟨z, zo, h _ hz⟩
def Qig (p1 : Val) (p2 : BA) (o0 : PDecoder) : Prop := (List.length (s_Kd p1 p2 4 o0).1.list ≤ 137438953472) ∧ (∀ x0 ∈ (s_Kd p1 p2 4 o0).1.list, H_Kh x0) ∧ True
def Qxj (p1 : Val) (p2 : BA) (o0 : PDecoder) (i0 : Nat) (_v0_1 : Bool) (_v0_2 : List PodTerm) : List PV :=
  [.un, .un, .un, .fn 248 [.bx 0 0] []] ++ nuns 12 ++ [.sl (Val.rows (s_Kd p1 p2 4 o0).1.list), .int .i64 ((List.length (s_Kd p1 p2 4 o0).1.list) : Int), .int .i64 (i0 : Int), .bool false]
def Qoz (_p1 : Val) (_p2 : BA) (_o0 : PDecoder) (_i0 : Nat) (_v0_1 : Bool) (_v0_2 : List PodTerm) : List (Nat × List PV) :=
  []
theorem Q1da (p1 : Val) (p2 : BA) (o0 : PDecoder) (_H : Qig p1 p2 o0) (i0 : Nat) (v0_1 : Bool) (v0_2 : List PodTerm) (_ho0_0 : List.length v0_2 ≤ i0) (hc0 : (decide ((i0 : Int) < ((List.length (s_Kd p1 p2 4 o0).1.list) : Int))) = false) : Qti p1 p2 o0 (Qrq p1 p2 o0 i0 v0_1 v0_2) (v0_1, v0_2) := by
 exact ⟨(envF (Qxj p1 p2 o0 i0 v0_1 v0_2)), (zoF (Qoz p1 p2 o0 i0 v0_1 v0_2)), Qj (Q1a3 p1 p2 o0 i0 v0_1 v0_2) (x := ((.exit 0), Qx9 p1 p2 o0 v0_1 v0_2 (envF (Qxj p1 p2 o0 i0 v0_1 v0_2)) (zoF (Qoz p1 p2 o0 i0 v0_1 v0_2)))) [hB 0 hc0] [] (by kernel_rfl)⟩
theorem Q1bo (p1 : Val) (p2 : BA) (o0 : PDecoder) (H : Qig p1 p2 o0) (x0 : Val) (i0 : Nat) (v0_1 : Bool) (v0_2 : List PodTerm) (hx0 : (s_Kd p1 p2 4 o0).1.list[i0]? = some x0) (hi0 : i0 < List.length (s_Kd p1 p2 4 o0).1.list) (ho0_0 : List.length v0_2 ≤ i0) (hc0 : (decide ((i0 : Int) < ((List.length (s_Kd p1 p2 4 o0).1.list) : Int))) = true) {r : Rs} (hr : Q5 G (Qrq p1 p2 o0 (i0 + 1) (s_Kh x0 (PDecoder.mk v0_1)).2.failed (v0_2 ++ [(s_Kh x0 (PDecoder.mk v0_1)).1])) r) : Q5 G (Qrq p1 p2 o0 i0 v0_1 v0_2) r := by
 have hB0 := H.1
 exact Qd (Q1a3 p1 p2 o0 i0 v0_1 v0_2) (y := (Q11r p1 p2 o0 (i0 + 1) (s_Kh x0 (PDecoder.mk v0_1)).2.failed (v0_2 ++ [(s_Kh x0 (PDecoder.mk v0_1)).1]), Qry p1 p2 o0 (i0 + 1) (s_Kh x0 (PDecoder.mk v0_1)).2.failed (v0_2 ++ [(s_Kh x0 (PDecoder.mk v0_1)).1]))) [hB 0 hc0, hP 0 (Q2g 5 (Val.rows (s_Kd p1 p2 4 o0).1.list) i0 _ (Val.Qe hx0) rfl), hV 8 [(642, PodTerm.rows (v0_2 ++ [(s_Kh x0 (PDecoder.mk v0_1)).1]))] (Q3x 1 578 642 5 56 0 0 true (PodTerm.rows v0_2) (PodTerm.rows (v0_2 ++ [(s_Kh x0 (PDecoder.mk v0_1)).1])) (PodTerm.cells (s_Kh x0 (PDecoder.mk v0_1)).1) (List.length v0_2) (List.length (v0_2 ++ [(s_Kh x0 (PDecoder.mk v0_1)).1])) rfl (PodTerm.Q0 v0_2).symm (PodTerm.Q0 (v0_2 ++ [(s_Kh x0 (PDecoder.mk v0_1)).1])).symm (PodTerm.Q1q v0_2 (s_Kh x0 (PDecoder.mk v0_1)).1) (PodTerm.Ql v0_2) rfl (by omega)), hS 0 true (PodTerm.Q7 (v0_2 ++ [(s_Kh x0 (PDecoder.mk v0_1)).1]) 5 rfl), hP 1 (Q28 i0 (by omega))] [aN (t_Kh x0 (PDecoder.mk v0_1) (H.2.1 x0 (Q2o hx0)))] (by kernel_rfl) hr
theorem Q148 (p1 : Val) (p2 : BA) (o0 : PDecoder) (H : Qig p1 p2 o0) : ∀ (r0 : List Val) (i0 : Nat) (v0_1 : Bool) (v0_2 : List PodTerm), List.drop i0 (s_Kd p1 p2 4 o0).1.list = r0 → List.length v0_2 ≤ i0 → Qti p1 p2 o0 (Qrq p1 p2 o0 i0 v0_1 v0_2) (Q6e p1 p2 o0 r0 i0 v0_1 v0_2)
 | [], i0, v0_1, v0_2, hd, ho0_0 => by
  have hc0 : (decide ((i0 : Int) < ((List.length (s_Kd p1 p2 4 o0).1.list) : Int))) = false := by have := Q1o hd; simp; omega
  rw [Q6e]
  exact Q1da p1 p2 o0 H i0 v0_1 v0_2 ho0_0 hc0
 | x0 :: r0, i0, v0_1, v0_2, hd, ho0_0 => by
  obtain ⟨hx0, hi0, hd'⟩ := Q1i hd
  have hc0 : (decide ((i0 : Int) < ((List.length (s_Kd p1 p2 4 o0).1.list) : Int))) = true := by simp; omega
  rw [Q6e]
  exact Qwz p1 p2 o0 (fun r hr => Q1bo p1 p2 o0 H x0 i0 v0_1 v0_2 hx0 hi0 ho0_0 hc0 hr) _ (Q148 p1 p2 o0 H r0 (i0 + 1) (s_Kh x0 (PDecoder.mk v0_1)).2.failed (v0_2 ++ [(s_Kh x0 (PDecoder.mk v0_1)).1]) hd' (by first | omega | (simp; omega)))
def s_Kw (p1 : Val) (p2 : BA) (o0 : PDecoder) : List PodTerm × PDecoder := ((dE PodTerm.dec p1 p2).1, ft o0 (isM p1 && (dE PodTerm.dec p1 p2).2))
theorem Q1cc (p1 : Val) (p2 : BA) (o0 : PDecoder) : ∀ (l : List Val) (i : Nat) (b : Bool) (a : List PodTerm), Q6e p1 p2 o0 l i b a = (b || !(l.all fun x => (PodTerm.dec x).2), a ++ l.map (fun x => (PodTerm.dec x).1))
  | [], _, b, a => by rw [Q6e]; simp
  | x :: l, i, b, a => by
    rw [Q6e]
    refine (Q1cc p1 p2 o0 l (i + 1) (b || !(PodTerm.dec x).2) (a ++ [(PodTerm.dec x).1])).trans ?_
    simp only [List.append_assoc, List.singleton_append, List.map_cons, List.all_cons, Bool.not_and, Bool.or_assoc]
theorem e_Kw (p1 : Val) (p2 : BA) (o0 : PDecoder) : s_Kw p1 p2 o0 = (((Q6e p1 p2 o0 (s_Kd p1 p2 4 o0).1.list 0 (s_Kd p1 p2 4 o0).2.failed []).2, (PDecoder.mk (Q6e p1 p2 o0 (s_Kd p1 p2 4 o0).1.list 0 (s_Kd p1 p2 4 o0).2.failed []).1))) := by
  rw [Q1cc]
  unfold s_Kd s_Kw
  simp only [Q8u, Q4r]
  refine Prod.ext rfl ?_
  rw [Q8j o0.failed (isM p1) _ _ _ (Qv2 (prt p1 p2)), Q5p]
  rfl
def c_Kw (p1 : Val) (p2 : BA) (o0 : PDecoder) : En := .call 247 [.bx 0 0, .agg (Val.cells p1), .str p2, .fn 248 [.bx 0 0] []] [⟨1, 0, false, (PDecoder.cells o0)⟩]
def r_Kw (_p1 : Val) (_p2 : BA) (_o0 : PDecoder) (q0 : List PodTerm) (q1 : PDecoder) : Rs := .ret (.sl (PodTerm.rows q0)) [⟨1, 0, false, (PDecoder.cells q1)⟩]
def a_Kw (p1 : Val) (p2 : BA) (o0 : PDecoder) : Rs := r_Kw p1 p2 o0 (s_Kw p1 p2 o0).1 (s_Kw p1 p2 o0).2
def H_Kw (p1 : Val) : Prop := Val.Sm 1000000000 p1
theorem Q1av (p1 : Val) (p2 : BA) (o0 : PDecoder) (H : H_Kw p1) : (H_Kd p1) ∧ (Qig p1 p2 o0) ∧ True := by
  have hl := Qn5 (Q3t H p2)
  refine ⟨H, ?_, trivial⟩
  unfold Qig s_Kd
  simp only [Q8u]
  exact ⟨Nat.le_trans hl.1 (Nat.le_of_ble_eq_true rfl), hl.2, trivial⟩
theorem t_Kw (p1 : Val) (p2 : BA) (o0 : PDecoder) (H : H_Kw p1) : Q5 G (c_Kw p1 p2 o0) (a_Kw p1 p2 o0) := by
 unfold a_Kw
 rw [e_Kw]
 have hl0 := Q148 p1 p2 o0 ((Q1av p1 p2 o0 H).2.1) (s_Kd p1 p2 4 o0).1.list 0 (s_Kd p1 p2 4 o0).2.failed [] (by simp) (by simp)
 obtain ⟨z0, zo0, hl0⟩ := hl0
 exact Q6 (fn := Ir.Kw) rfl (h := [⟨1, 0, false, (PDecoder.cells o0)⟩]) (vw := []) VOK.nil [hP 8 (Qw (Val.rows (s_Kd p1 p2 4 o0).1.list) (List.length (s_Kd p1 p2 4 o0).1.list) (Val.Q0 (s_Kd p1 p2 4 o0).1.list)), hS 0 true (PodTerm.Q7 (Q6e p1 p2 o0 (s_Kd p1 p2 4 o0).1.list 0 (s_Kd p1 p2 4 o0).2.failed []).2 5 rfl), hQ (PodTerm.Q0 (Q6e p1 p2 o0 (s_Kd p1 p2 4 o0).1.list 0 (s_Kd p1 p2 4 o0).2.failed []).2).symm] [aN (t_Kd p1 p2 4 o0 (Q1av p1 p2 o0 H).1), aV [(1, PodTerm.rows (Q6e p1 p2 o0 (s_Kd p1 p2 4 o0).1.list 0 (s_Kd p1 p2 4 o0).2.failed []).2)] hl0] (by kernel_rfl)
def s_Km (p1 : Val) (o0 : PDecoder) : SpreadRule × PDecoder := ((SpreadRule.dec p1).1, ft o0 (SpreadRule.dec p1).2)
theorem e_Km (p1 : Val) (o0 : PDecoder) : s_Km p1 o0 = (((SpreadRule.mk (s_Kg p1 Q1p (s_Ko p1 o0).2).1 (s_Kn p1 Qi (s_Kg p1 Q1p (s_Ko p1 o0).2).2).1 (s_Ku p1 Q8 (s_Kn p1 Qi (s_Kg p1 Q1p (s_Ko p1 o0).2).2).2).1 (s_Kc p1 Q9 (s_Ku p1 Q8 (s_Kn p1 Qi (s_Kg p1 Q1p (s_Ko p1 o0).2).2).2).2).1), (s_Kc p1 Q9 (s_Ku p1 Q8 (s_Kn p1 Qi (s_Kg p1 Q1p (s_Ko p1 o0).2).2).2).2).2)) := by
  simp only [s_Ko, s_Kg, s_Kn, s_Kc, s_Ku, s_Km, SpreadRule.dec, Qlt, Bool.and_assoc, Bool.and_left_comm, Bool.and_comm, Bool.and_self_left]
def c_Km (p1 : Val) (o0 : PDecoder) : En := .call 250 [.bx 0 0, .agg (Val.cells p1)] [⟨1, 0, false, (PDecoder.cells o0)⟩]
def r_Km (_p1 : Val) (_o0 : PDecoder) (q0 : SpreadRule) (q1 : PDecoder) : Rs := .ret (.agg (SpreadRule.cells q0)) [⟨1, 0, false, (PDecoder.cells q1)⟩]
def a_Km (p1 : Val) (o0 : PDecoder) : Rs := r_Km p1 o0 (s_Km p1 o0).1 (s_Km p1 o0).2
def H_Km (p1 : Val) : Prop := Val.Sm 1000000000 p1
theorem Qu3 (p1 : Val) (_o0 : PDecoder) (H : H_Km p1) : (H_Kg p1) ∧ (H_Kn p1) ∧ (H_Ku p1) ∧ (H_Kc p1) ∧ True := by
  repeat' with_reducible apply And.intro
  all_goals first | exact True.intro | exact H | exact Qmm (Q3t H _)
theorem t_Km (p1 : Val) (o0 : PDecoder) (H : H_Km p1) : Q5 G (c_Km p1 o0) (a_Km p1 o0) := by
 unfold a_Km
 rw [e_Km]
 exact Q6 (fn := Ir.Km) rfl (h := [⟨1, 0, false, (PDecoder.cells o0)⟩]) (vw := []) VOK.nil [] [aN (t_Ko p1 o0), aN (t_Kg p1 Q1p (s_Ko p1 o0).2 (Qu3 p1 o0 H).1), aN (t_Kn p1 Qi (s_Kg p1 Q1p (s_Ko p1 o0).2).2 (Qu3 p1 o0 H).2.1), aN (t_Ku p1 Q8 (s_Kn p1 Qi (s_Kg p1 Q1p (s_Ko p1 o0).2).2).2 (Qu3 p1 o0 H).2.2.1), aN (t_Kc p1 Q9 (s_Ku p1 Q8 (s_Kn p1 Qi (s_Kg p1 Q1p (s_Ko p1 o0).2).2).2).2 (Qu3 p1 o0 H).2.2.2.1)] (by kernel_rfl)
def Q6f (p1 : Val) (p2 : BA) (o0 : PDecoder) : List Val → Nat → Bool → (List SpreadRule) → Bool × (List SpreadRule)
 | [], _i0, v0_1, v0_2 =>
  (v0_1, v0_2)
 | x0 :: r0, i0, v0_1, v0_2 =>
  Q6f p1 p2 o0 r0 (i0 + 1) (s_Km x0 (PDecoder.mk v0_1)).2.failed (v0_2 ++ [(s_Km x0 (PDecoder.mk v0_1)).1])
def Q11s (p1 : Val) (p2 : BA) (o0 : PDecoder) (i0 : Nat) (_v0_1 : Bool) (v0_2 : List SpreadRule) : List PV :=
  [.un, .un, .un, .fn 250 [.bx 0 0] []] ++ nuns 5 ++ [.ms 1 4 0 (List.length v0_2)] ++ nuns 6 ++ [.sl (Val.rows (s_Kd p1 p2 4 o0).1.list), .int .i64 ((List.length (s_Kd p1 p2 4 o0).1.list) : Int), .int .i64 (i0 : Int)] ++ nuns 11
def Qrz (_p1 : Val) (_p2 : BA) (_o0 : PDecoder) (_i0 : Nat) (v0_1 : Bool) (v0_2 : List SpreadRule) : List Ob :=
  [⟨1, 0, false, [.bool v0_1]⟩, ⟨4, 0, true, (SpreadRule.rows v0_2).flatten⟩]
def Qrr (p1 : Val) (p2 : BA) (o0 : PDecoder) (i0 : Nat) (v0_1 : Bool) (v0_2 : List SpreadRule) : En := .loop 1 Ir.Qnd Ir.Q1nq (Q11s p1 p2 o0 i0 v0_1 v0_2) (Qrz p1 p2 o0 i0 v0_1 v0_2)
def Qxa (_p1 : Val) (_p2 : BA) (_o0 : PDecoder) (q0 : Bool) (q1 : List SpreadRule) (z : Nat → PV) (_zo : Nat → List PV) : St :=
  ⟨zr z 0 9 ++ [.ms 1 4 0 (List.length q1)] ++ zr z 10 20, [(0, ⟨1, 0, false, [.bool q0]⟩), (1, ⟨4, 0, true, (SpreadRule.rows q1).flatten⟩)], 66⟩
theorem Q1a4 (p1 : Val) (p2 : BA) (o0 : PDecoder) (i0 : Nat) (v0_1 : Bool) (v0_2 : List SpreadRule) : VOK (Go.Pv.look (number 0 (Qrz p1 p2 o0 i0 v0_1 v0_2))) [(1, SpreadRule.rows v0_2)] := (VOK.cons (show Seen _ _ from Q3i (ob := ⟨4, 0, true, (SpreadRule.rows v0_2).flatten⟩) (SpreadRule.Q7 v0_2 4 rfl)) VOK.nil)
def Qtj (p1 : Val) (p2 : BA) (o0 : PDecoder) (e : En) (q : Bool × (List SpreadRule)) : Prop := ∃ z zo, Q5 G e (.st (.exit 0) (Qxa p1 p2 o0 q.1 q.2 z zo))
theorem Qx0 (p1 : Val) (p2 : BA) (o0 : PDecoder) {e e' : En} (h : ∀ r, Q5 G e r → Q5 G e' r) : ∀ q, Qtj p1 p2 o0 e q → Qtj p1 p2 o0 e' q
  | _, ⟨z, zo, hz⟩ => ⟨z, zo, h _ hz⟩
def Qih (p1 : Val) (p2 : BA) (o0 : PDecoder) : Prop := (List.length (s_Kd p1 p2 4 o0).1.list ≤ 137438953472) ∧ (∀ x0 ∈ (s_Kd p1 p2 4 o0).1.list, H_Km x0) ∧ True
def Qxk (p1 : Val) (p2 : BA) (o0 : PDecoder) (i0 : Nat) (_v0_1 : Bool) (_v0_2 : List SpreadRule) : List PV :=
  [.un, .un, .un, .fn 250 [.bx 0 0] []] ++ nuns 12 ++ [.sl (Val.rows (s_Kd p1 p2 4 o0).1.list), .int .i64 ((List.length (s_Kd p1 p2 4 o0).1.list) : Int), .int .i64 (i0 : Int), .bool false]
def Qp0 (_p1 : Val) (_p2 : BA) (_o0 : PDecoder) (_i0 : Nat) (_v0_1 : Bool) (_v0_2 : List SpreadRule) : List (Nat × List PV) :=
  []
theorem Q1db (p1 : Val) (p2 : BA) (o0 : PDecoder) (_H : Qih p1 p2 o0) (i0 : Nat) (v0_1 : Bool) (v0_2 : List SpreadRule) (_ho0_0 : List.length v0_2 ≤ i0) (hc0 : (decide ((i0 : Int) < ((List.length (s_Kd p1 p2 4 o0).1.list) : Int))) = false) : Qtj p1 p2 o0 (Qrr p1 p2 o0 i0 v0_1 v0_2) (v0_1, v0_2) := by
 exact ⟨(envF (Qxk p1 p2 o0 i0 v0_1 v0_2)), (zoF (Qp0 p1 p2 o0 i0 v0_1 v0_2)), Qj (Q1a4 p1 p2 o0 i0 v0_1 v0_2) (x := ((.exit 0), Qxa p1 p2 o0 v0_1 v0_2 (envF (Qxk p1 p2 o0 i0 v0_1 v0_2)) (zoF (Qp0 p1 p2 o0 i0 v0_1 v0_2)))) [hB 0 hc0] [] (by kernel_rfl)⟩
theorem Q1bp (p1 : Val) (p2 : BA) (o0 : PDecoder) (H : Qih p1 p2 o0) (x0 : Val) (i0 : Nat) (v0_1 : Bool) (v0_2 : List SpreadRule) (hx0 : (s_Kd p1 p2 4 o0).1.list[i0]? = some x0) (hi0 : i0 < List.length (s_Kd p1 p2 4 o0).1.list) (ho0_0 : List.length v0_2 ≤ i0) (hc0 : (decide ((i0 : Int) < ((List.length (s_Kd p1 p2 4 o0).1.list) : Int))) = true) {r : Rs} (hr : Q5 G (Qrr p1 p2 o0 (i0 + 1) (s_Km x0 (PDecoder.mk v0_1)).2.failed (v0_2 ++ [(s_Km x0 (PDecoder.mk v0_1)).1])) r) : Q5 G (Qrr p1 p2 o0 i0 v0_1 v0_2) r := by
 have hB0 := H.1
 exact Qd (Q1a4 p1 p2 o0 i0 v0_1 v0_2) (y := (Q11s p1 p2 o0 (i0 + 1) (s_Km x0 (PDecoder.mk v0_1)).2.failed (v0_2 ++ [(s_Km x0 (PDecoder.mk v0_1)).1]), Qrz p1 p2 o0 (i0 + 1) (s_Km x0 (PDecoder.mk v0_1)).2.failed (v0_2 ++ [(s_Km x0 (PDecoder.mk v0_1)).1]))) [hB 0 hc0, hP 0 (Q2g 5 (Val.rows (s_Kd p1 p2 4 o0).1.list) i0 _ (Val.Qe hx0) rfl), hV 8 [(642, SpreadRule.rows (v0_2 ++ [(s_Km x0 (PDecoder.mk v0_1)).1]))] (Q3x 1 578 642 4 56 0 0 true (SpreadRule.rows v0_2) (SpreadRule.rows (v0_2 ++ [(s_Km x0 (PDecoder.mk v0_1)).1])) (SpreadRule.cells (s_Km x0 (PDecoder.mk v0_1)).1) (List.length v0_2) (List.length (v0_2 ++ [(s_Km x0 (PDecoder.mk v0_1)).1])) rfl (SpreadRule.Q0 v0_2).symm (SpreadRule.Q0 (v0_2 ++ [(s_Km x0 (PDecoder.mk v0_1)).1])).symm (SpreadRule.Q1q v0_2 (s_Km x0 (PDecoder.mk v0_1)).1) (SpreadRule.Ql v0_2) rfl (by omega)), hS 0 true (SpreadRule.Q7 (v0_2 ++ [(s_Km x0 (PDecoder.mk v0_1)).1]) 4 rfl), hP 1 (Q28 i0 (by omega))] [aN (t_Km x0 (PDecoder.mk v0_1) (H.2.1 x0 (Q2o hx0)))] (by kernel_rfl) hr
theorem Q149 (p1 : Val) (p2 : BA) (o0 : PDecoder) (H : Qih p1 p2 o0) : ∀ (r0 : List Val) (i0 : Nat) (v0_1 : Bool) (v0_2 : List SpreadRule), List.drop i0 (s_Kd p1 p2 4 o0).1.list = r0 → List.length v0_2 ≤ i0 → Qtj p1 p2 o0 (Qrr p1 p2 o0 i0 v0_1 v0_2) (Q6f p1 p2 o0 r0 i0 v0_1 v0_2)
 | [], i0, v0_1, v0_2, hd, ho0_0 => by
  have hc0 : (decide ((i0 : Int) < ((List.length (s_Kd p1 p2 4 o0).1.list) : Int))) = false := by have := Q1o hd; simp; omega
  rw [Q6f]
  exact Q1db p1 p2 o0 H i0 v0_1 v0_2 ho0_0 hc0
 | x0 :: r0, i0, v0_1, v0_2, hd, ho0_0 => by
  obtain ⟨hx0, hi0, hd'⟩ := Q1i hd
  have hc0 : (decide ((i0 : Int) < ((List.length (s_Kd p1 p2 4 o0).1.list) : Int))) = true := by simp; omega
  rw [Q6f]
  exact Qx0 p1 p2 o0 (fun r hr => Q1bp p1 p2 o0 H x0 i0 v0_1 v0_2 hx0 hi0 ho0_0 hc0 hr) _ (Q149 p1 p2 o0 H r0 (i0 + 1) (s_Km x0 (PDecoder.mk v0_1)).2.failed (v0_2 ++ [(s_Km x0 (PDecoder.mk v0_1)).1]) hd' (by first | omega | (simp; omega)))
def s_Kx (p1 : Val) (p2 : BA) (o0 : PDecoder) : List SpreadRule × PDecoder := ((dE SpreadRule.dec p1 p2).1, ft o0 (isM p1 && (dE SpreadRule.dec p1 p2).2))
theorem Q1cd (p1 : Val) (p2 : BA) (o0 : PDecoder) : ∀ (l : List Val) (i : Nat) (b : Bool) (a : List SpreadRule), Q6f p1 p2 o0 l i b a = (b || !(l.all fun x => (SpreadRule.dec x).2), a ++ l.map (fun x => (SpreadRule.dec x).1))
  | [], _, b, a => by rw [Q6f]; simp
  | x :: l, i, b, a => by
    rw [Q6f]
    refine (Q1cd p1 p2 o0 l (i + 1) (b || !(SpreadRule.dec x).2) (a ++ [(SpreadRule.dec x).1])).trans ?_
    simp only [List.append_assoc, List.singleton_append, List.map_cons, List.all_cons, Bool.not_and, Bool.or_assoc]
theorem e_Kx (p1 : Val) (p2 : BA) (o0 : PDecoder) : s_Kx p1 p2 o0 = (((Q6f p1 p2 o0 (s_Kd p1 p2 4 o0).1.list 0 (s_Kd p1 p2 4 o0).2.failed []).2, (PDecoder.mk (Q6f p1 p2 o0 (s_Kd p1 p2 4 o0).1.list 0 (s_Kd p1 p2 4 o0).2.failed []).1))) := by
  rw [Q1cd]
  unfold s_Kd s_Kx
  simp only [Q8u, Q4r]
  refine Prod.ext rfl ?_
  rw [Q8j o0.failed (isM p1) _ _ _ (Qv2 (prt p1 p2)), Q5p]
  rfl
def c_Kx (p1 : Val) (p2 : BA) (o0 : PDecoder) : En := .call 249 [.bx 0 0, .agg (Val.cells p1), .str p2, .fn 250 [.bx 0 0] []] [⟨1, 0, false, (PDecoder.cells o0)⟩]
def r_Kx (_p1 : Val) (_p2 : BA) (_o0 : PDecoder) (q0 : List SpreadRule) (q1 : PDecoder) : Rs := .ret (.sl (SpreadRule.rows q0)) [⟨1, 0, false, (PDecoder.cells q1)⟩]
def a_Kx (p1 : Val) (p2 : BA) (o0 : PDecoder) : Rs := r_Kx p1 p2 o0 (s_Kx p1 p2 o0).1 (s_Kx p1 p2 o0).2
def H_Kx (p1 : Val) : Prop := Val.Sm 1000000000 p1
theorem Q1aw (p1 : Val) (p2 : BA) (o0 : PDecoder) (H : H_Kx p1) : (H_Kd p1) ∧ (Qih p1 p2 o0) ∧ True := by
  have hl := Qn5 (Q3t H p2)
  refine ⟨H, ?_, trivial⟩
  unfold Qih s_Kd
  simp only [Q8u]
  exact ⟨Nat.le_trans hl.1 (Nat.le_of_ble_eq_true rfl), hl.2, trivial⟩
theorem t_Kx (p1 : Val) (p2 : BA) (o0 : PDecoder) (H : H_Kx p1) : Q5 G (c_Kx p1 p2 o0) (a_Kx p1 p2 o0) := by
 unfold a_Kx
 rw [e_Kx]
 have hl0 := Q149 p1 p2 o0 ((Q1aw p1 p2 o0 H).2.1) (s_Kd p1 p2 4 o0).1.list 0 (s_Kd p1 p2 4 o0).2.failed [] (by simp) (by simp)
 obtain ⟨z0, zo0, hl0⟩ := hl0
 exact Q6 (fn := Ir.Kx) rfl (h := [⟨1, 0, false, (PDecoder.cells o0)⟩]) (vw := []) VOK.nil [hP 8 (Qw (Val.rows (s_Kd p1 p2 4 o0).1.list) (List.length (s_Kd p1 p2 4 o0).1.list) (Val.Q0 (s_Kd p1 p2 4 o0).1.list)), hS 0 true (SpreadRule.Q7 (Q6f p1 p2 o0 (s_Kd p1 p2 4 o0).1.list 0 (s_Kd p1 p2 4 o0).2.failed []).2 4 rfl), hQ (SpreadRule.Q0 (Q6f p1 p2 o0 (s_Kd p1 p2 4 o0).1.list 0 (s_Kd p1 p2 4 o0).2.failed []).2).symm] [aN (t_Kd p1 p2 4 o0 (Q1aw p1 p2 o0 H).1), aV [(1, SpreadRule.rows (Q6f p1 p2 o0 (s_Kd p1 p2 4 o0).1.list 0 (s_Kd p1 p2 4 o0).2.failed []).2)] hl0] (by kernel_rfl)
def s_Kr (p1 : Val) (o0 : PDecoder) : Toleration × PDecoder := ((Toleration.dec p1).1, ft o0 (Toleration.dec p1).2)
theorem e_Kr (p1 : Val) (o0 : PDecoder) : s_Kr p1 o0 = (((Toleration.mk (s_Kn p1 Q15 (s_Ko p1 o0).2).1 (s_Kn p1 Q13 (s_Kn p1 Q15 (s_Ko p1 o0).2).2).1 (s_Kc p1 Q25 (s_Kn p1 Q13 (s_Kn p1 Q15 (s_Ko p1 o0).2).2).2).1 (s_Kg p1 Q2a (s_Kc p1 Q25 (s_Kn p1 Q13 (s_Kn p1 Q15 (s_Ko p1 o0).2).2).2).2).1 (s_Kg p1 Q23 (s_Kg p1 Q2a (s_Kc p1 Q25 (s_Kn p1 Q13 (s_Kn p1 Q15 (s_Ko p1 o0).2).2).2).2).2).1), (s_Kg p1 Q23 (s_Kg p1 Q2a (s_Kc p1 Q25 (s_Kn p1 Q13 (s_Kn p1 Q15 (s_Ko p1 o0).2).2).2).2).2).2)) := by
  simp only [s_Ko, s_Kg, s_Kn, s_Kc, s_Kr, Toleration.dec, Qlt, Bool.and_assoc, Bool.and_left_comm, Bool.and_comm, Bool.and_self_left]
def c_Kr (p1 : Val) (o0 : PDecoder) : En := .call 252 [.bx 0 0, .agg (Val.cells p1)] [⟨1, 0, false, (PDecoder.cells o0)⟩]
def r_Kr (_p1 : Val) (_o0 : PDecoder) (q0 : Toleration) (q1 : PDecoder) : Rs := .ret (.agg (Toleration.cells q0)) [⟨1, 0, false, (PDecoder.cells q1)⟩]
def a_Kr (p1 : Val) (o0 : PDecoder) : Rs := r_Kr p1 o0 (s_Kr p1 o0).1 (s_Kr p1 o0).2
def H_Kr (p1 : Val) : Prop := Val.Sm 1000000000 p1
theorem Qlv (p1 : Val) (_o0 : PDecoder) (H : H_Kr p1) : (H_Kn p1) ∧ (H_Kc p1) ∧ (H_Kg p1) ∧ True := by
  repeat' with_reducible apply And.intro
  all_goals first | exact True.intro | exact H | exact Qmm (Q3t H _)
theorem t_Kr (p1 : Val) (o0 : PDecoder) (H : H_Kr p1) : Q5 G (c_Kr p1 o0) (a_Kr p1 o0) := by
 unfold a_Kr
 rw [e_Kr]
 exact Q6 (fn := Ir.Kr) rfl (h := [⟨1, 0, false, (PDecoder.cells o0)⟩]) (vw := []) VOK.nil [] [aN (t_Ko p1 o0), aN (t_Kn p1 Q15 (s_Ko p1 o0).2 (Qlv p1 o0 H).1), aN (t_Kn p1 Q13 (s_Kn p1 Q15 (s_Ko p1 o0).2).2 (Qlv p1 o0 H).1), aN (t_Kc p1 Q25 (s_Kn p1 Q13 (s_Kn p1 Q15 (s_Ko p1 o0).2).2).2 (Qlv p1 o0 H).2.1), aN (t_Kg p1 Q2a (s_Kc p1 Q25 (s_Kn p1 Q13 (s_Kn p1 Q15 (s_Ko p1 o0).2).2).2).2 (Qlv p1 o0 H).2.2.1), aN (t_Kg p1 Q23 (s_Kg p1 Q2a (s_Kc p1 Q25 (s_Kn p1 Q13 (s_Kn p1 Q15 (s_Ko p1 o0).2).2).2).2).2 (Qlv p1 o0 H).2.2.1)] (by kernel_rfl)
def Q6g (p1 : Val) (p2 : BA) (o0 : PDecoder) : List Val → Nat → Bool → (List Toleration) → Bool × (List Toleration)
 | [], _i0, v0_1, v0_2 =>
  (v0_1, v0_2)
 | x0 :: r0, i0, v0_1, v0_2 =>
  Q6g p1 p2 o0 r0 (i0 + 1) (s_Kr x0 (PDecoder.mk v0_1)).2.failed (v0_2 ++ [(s_Kr x0 (PDecoder.mk v0_1)).1])
def Q11t (p1 : Val) (p2 : BA) (o0 : PDecoder) (i0 : Nat) (_v0_1 : Bool) (v0_2 : List Toleration) : List PV :=
  [.un, .un, .un, .fn 252 [.bx 0 0] []] ++ nuns 5 ++ [.ms 1 5 0 (List.length v0_2)] ++ nuns 6 ++ [.sl (Val.rows (s_Kd p1 p2 4 o0).1.list), .int .i64 ((List.length (s_Kd p1 p2 4 o0).1.list) : Int), .int .i64 (i0 : Int)] ++ nuns 11
def Qs0 (_p1 : Val) (_p2 : BA) (_o0 : PDecoder) (_i0 : Nat) (v0_1 : Bool) (v0_2 : List Toleration) : List Ob :=
  [⟨1, 0, false, [.bool v0_1]⟩, ⟨5, 0, true, (Toleration.rows v0_2).flatten⟩]
def Qrs (p1 : Val) (p2 : BA) (o0 : PDecoder) (i0 : Nat) (v0_1 : Bool) (v0_2 : List Toleration) : En := .loop 1 Ir.Qne Ir.Q1nr (Q11t p1 p2 o0 i0 v0_1 v0_2) (Qs0 p1 p2 o0 i0 v0_1 v0_2)
def Qxb (_p1 : Val) (_p2 : BA) (_o0 : PDecoder) (q0 : Bool) (q1 : List Toleration) (z : Nat → PV) (_zo : Nat → List PV) : St :=
  ⟨zr z 0 9 ++ [.ms 1 5 0 (List.length q1)] ++ zr z 10 20, [(0, ⟨1, 0, false, [.bool q0]⟩), (1, ⟨5, 0, true, (Toleration.rows q1).flatten⟩)], 66⟩
theorem Q1a5 (p1 : Val) (p2 : BA) (o0 : PDecoder) (i0 : Nat) (v0_1 : Bool) (v0_2 : List Toleration) : VOK (Go.Pv.look (number 0 (Qs0 p1 p2 o0 i0 v0_1 v0_2))) [(1, Toleration.rows v0_2)] := (VOK.cons (show Seen _ _ from Q3i (ob := ⟨5, 0, true, (Toleration.rows v0_2).flatten⟩) (Toleration.Q7 v0_2 5 rfl)) VOK.nil)
def Qtk (p1 : Val) (p2 : BA) (o0 : PDecoder) (e : En) (q : Bool × (List Toleration)) : Prop := ∃ z zo, Q5 G e (.st (.exit 0) (Qxb p1 p2 o0 q.1 q.2 z zo))
theorem Qx1 (p1 : Val) (p2 : BA) (o0 : PDecoder) {e e' : En} (h : ∀ r, Q5 G e r → Q5 G e' r) : ∀ q, Qtk p1 p2 o0 e q → Qtk p1 p2 o0 e' q
  | _, ⟨z, zo, hz⟩ => ⟨z, zo, h _ hz⟩
def Qii (p1 : Val) (p2 : BA) (o0 : PDecoder) : Prop := (List.length (s_Kd p1 p2 4 o0).1.list ≤ 137438953472) ∧ (∀ x0 ∈ (s_Kd p1 p2 4 o0).1.list, H_Kr x0) ∧ True
def Qxl (p1 : Val) (p2 : BA) (o0 : PDecoder) (i0 : Nat) (_v0_1 : Bool) (_v0_2 : List Toleration) : List PV :=
  [.un, .un, .un, .fn 252 [.bx 0 0] []] ++ nuns 12 ++ [.sl (Val.rows (s_Kd p1 p2 4 o0).1.list), .int .i64 ((List.length (s_Kd p1 p2 4 o0).1.list) : Int), .int .i64 (i0 : Int), .bool false]
def Qp1 (_p1 : Val) (_p2 : BA) (_o0 : PDecoder) (_i0 : Nat) (_v0_1 : Bool) (_v0_2 : List Toleration) : List (Nat × List PV) :=
  []
theorem Q1dc (p1 : Val) (p2 : BA) (o0 : PDecoder) (_H : Qii p1 p2 o0) (i0 : Nat) (v0_1 : Bool) (v0_2 : List Toleration) (_ho0_0 : List.length v0_2 ≤ i0) (hc0 : (decide ((i0 : Int) < ((List.length (s_Kd p1 p2 4 o0).1.list) : Int))) = false) : Qtk p1 p2 o0 (Qrs p1 p2 o0 i0 v0_1 v0_2) (v0_1, v0_2) := by
 exact ⟨(envF (Qxl p1 p2 o0 i0 v0_1 v0_2)), (zoF (Qp1 p1 p2 o0 i0 v0_1 v0_2)), Qj (Q1a5 p1 p2 o0 i0 v0_1 v0_2) (x := ((.exit 0), Qxb p1 p2 o0 v0_1 v0_2 (envF (Qxl p1 p2 o0 i0 v0_1 v0_2)) (zoF (Qp1 p1 p2 o0 i0 v0_1 v0_2)))) [hB 0 hc0] [] (by kernel_rfl)⟩
theorem Q1bq (p1 : Val) (p2 : BA) (o0 : PDecoder) (H : Qii p1 p2 o0) (x0 : Val) (i0 : Nat) (v0_1 : Bool) (v0_2 : List Toleration) (hx0 : (s_Kd p1 p2 4 o0).1.list[i0]? = some x0) (hi0 : i0 < List.length (s_Kd p1 p2 4 o0).1.list) (ho0_0 : List.length v0_2 ≤ i0) (hc0 : (decide ((i0 : Int) < ((List.length (s_Kd p1 p2 4 o0).1.list) : Int))) = true) {r : Rs} (hr : Q5 G (Qrs p1 p2 o0 (i0 + 1) (s_Kr x0 (PDecoder.mk v0_1)).2.failed (v0_2 ++ [(s_Kr x0 (PDecoder.mk v0_1)).1])) r) : Q5 G (Qrs p1 p2 o0 i0 v0_1 v0_2) r := by
 have hB0 := H.1
 exact Qd (Q1a5 p1 p2 o0 i0 v0_1 v0_2) (y := (Q11t p1 p2 o0 (i0 + 1) (s_Kr x0 (PDecoder.mk v0_1)).2.failed (v0_2 ++ [(s_Kr x0 (PDecoder.mk v0_1)).1]), Qs0 p1 p2 o0 (i0 + 1) (s_Kr x0 (PDecoder.mk v0_1)).2.failed (v0_2 ++ [(s_Kr x0 (PDecoder.mk v0_1)).1]))) [hB 0 hc0, hP 0 (Q2g 5 (Val.rows (s_Kd p1 p2 4 o0).1.list) i0 _ (Val.Qe hx0) rfl), hV 8 [(642, Toleration.rows (v0_2 ++ [(s_Kr x0 (PDecoder.mk v0_1)).1]))] (Q3x 1 578 642 5 56 0 0 true (Toleration.rows v0_2) (Toleration.rows (v0_2 ++ [(s_Kr x0 (PDecoder.mk v0_1)).1])) (Toleration.cells (s_Kr x0 (PDecoder.mk v0_1)).1) (List.length v0_2) (List.length (v0_2 ++ [(s_Kr x0 (PDecoder.mk v0_1)).1])) rfl (Toleration.Q0 v0_2).symm (Toleration.Q0 (v0_2 ++ [(s_Kr x0 (PDecoder.mk v0_1)).1])).symm (Toleration.Q1q v0_2 (s_Kr x0 (PDecoder.mk v0_1)).1) (Toleration.Ql v0_2) rfl (by omega)), hS 0 true (Toleration.Q7 (v0_2 ++ [(s_Kr x0 (PDecoder.mk v0_1)).1]) 5 rfl), hP 1 (Q28 i0 (by omega))] [aN (t_Kr x0 (PDecoder.mk v0_1) (H.2.1 x0 (Q2o hx0)))] (by kernel_rfl) hr
theorem Q14a (p1 : Val) (p2 : BA) (o0 : PDecoder) (H : Qii p1 p2 o0) : ∀ (r0 : List Val) (i0 : Nat) (v0_1 : Bool) (v0_2 : List Toleration), List.drop i0 (s_Kd p1 p2 4 o0).1.list = r0 → List.length v0_2 ≤ i0 → Qtk p1 p2 o0 (Qrs p1 p2 o0 i0 v0_1 v0_2) (Q6g p1 p2 o0 r0 i0 v0_1 v0_2)
 | [], i0, v0_1, v0_2, hd, ho0_0 => by
  have hc0 : (decide ((i0 : Int) < ((List.length (s_Kd p1 p2 4 o0).1.list) : Int))) = false := by have := Q1o hd; simp; omega
  rw [Q6g]
  exact Q1dc p1 p2 o0 H i0 v0_1 v0_2 ho0_0 hc0
 | x0 :: r0, i0, v0_1, v0_2, hd, ho0_0 => by
  obtain ⟨hx0, hi0, hd'⟩ := Q1i hd
  have hc0 : (decide ((i0 : Int) < ((List.length (s_Kd p1 p2 4 o0).1.list) : Int))) = true := by simp; omega
  rw [Q6g]
  exact Qx1 p1 p2 o0 (fun r hr => Q1bq p1 p2 o0 H x0 i0 v0_1 v0_2 hx0 hi0 ho0_0 hc0 hr) _ (Q14a p1 p2 o0 H r0 (i0 + 1) (s_Kr x0 (PDecoder.mk v0_1)).2.failed (v0_2 ++ [(s_Kr x0 (PDecoder.mk v0_1)).1]) hd' (by first | omega | (simp; omega)))
def s_Ky (p1 : Val) (p2 : BA) (o0 : PDecoder) : List Toleration × PDecoder := ((dE Toleration.dec p1 p2).1, ft o0 (isM p1 && (dE Toleration.dec p1 p2).2))
theorem Q1ce (p1 : Val) (p2 : BA) (o0 : PDecoder) : ∀ (l : List Val) (i : Nat) (b : Bool) (a : List Toleration), Q6g p1 p2 o0 l i b a = (b || !(l.all fun x => (Toleration.dec x).2), a ++ l.map (fun x => (Toleration.dec x).1))
  | [], _, b, a => by rw [Q6g]; simp
  | x :: l, i, b, a => by
    rw [Q6g]
    refine (Q1ce p1 p2 o0 l (i + 1) (b || !(Toleration.dec x).2) (a ++ [(Toleration.dec x).1])).trans ?_
    simp only [List.append_assoc, List.singleton_append, List.map_cons, List.all_cons, Bool.not_and, Bool.or_assoc]
theorem e_Ky (p1 : Val) (p2 : BA) (o0 : PDecoder) : s_Ky p1 p2 o0 = (((Q6g p1 p2 o0 (s_Kd p1 p2 4 o0).1.list 0 (s_Kd p1 p2 4 o0).2.failed []).2, (PDecoder.mk (Q6g p1 p2 o0 (s_Kd p1 p2 4 o0).1.list 0 (s_Kd p1 p2 4 o0).2.failed []).1))) := by
  rw [Q1ce]
  unfold s_Kd s_Ky
  simp only [Q8u, Q4r]
  refine Prod.ext rfl ?_
  rw [Q8j o0.failed (isM p1) _ _ _ (Qv2 (prt p1 p2)), Q5p]
  rfl
def c_Ky (p1 : Val) (p2 : BA) (o0 : PDecoder) : En := .call 251 [.bx 0 0, .agg (Val.cells p1), .str p2, .fn 252 [.bx 0 0] []] [⟨1, 0, false, (PDecoder.cells o0)⟩]
def r_Ky (_p1 : Val) (_p2 : BA) (_o0 : PDecoder) (q0 : List Toleration) (q1 : PDecoder) : Rs := .ret (.sl (Toleration.rows q0)) [⟨1, 0, false, (PDecoder.cells q1)⟩]
def a_Ky (p1 : Val) (p2 : BA) (o0 : PDecoder) : Rs := r_Ky p1 p2 o0 (s_Ky p1 p2 o0).1 (s_Ky p1 p2 o0).2
def H_Ky (p1 : Val) : Prop := Val.Sm 1000000000 p1
theorem Q1ax (p1 : Val) (p2 : BA) (o0 : PDecoder) (H : H_Ky p1) : (H_Kd p1) ∧ (Qii p1 p2 o0) ∧ True := by
  have hl := Qn5 (Q3t H p2)
  refine ⟨H, ?_, trivial⟩
  unfold Qii s_Kd
  simp only [Q8u]
  exact ⟨Nat.le_trans hl.1 (Nat.le_of_ble_eq_true rfl), hl.2, trivial⟩
theorem t_Ky (p1 : Val) (p2 : BA) (o0 : PDecoder) (H : H_Ky p1) : Q5 G (c_Ky p1 p2 o0) (a_Ky p1 p2 o0) := by
 unfold a_Ky
 rw [e_Ky]
 have hl0 := Q14a p1 p2 o0 ((Q1ax p1 p2 o0 H).2.1) (s_Kd p1 p2 4 o0).1.list 0 (s_Kd p1 p2 4 o0).2.failed [] (by simp) (by simp)
 obtain ⟨z0, zo0, hl0⟩ := hl0
 exact Q6 (fn := Ir.Ky) rfl (h := [⟨1, 0, false, (PDecoder.cells o0)⟩]) (vw := []) VOK.nil [hP 8 (Qw (Val.rows (s_Kd p1 p2 4 o0).1.list) (List.length (s_Kd p1 p2 4 o0).1.list) (Val.Q0 (s_Kd p1 p2 4 o0).1.list)), hS 0 true (Toleration.Q7 (Q6g p1 p2 o0 (s_Kd p1 p2 4 o0).1.list 0 (s_Kd p1 p2 4 o0).2.failed []).2 5 rfl), hQ (Toleration.Q0 (Q6g p1 p2 o0 (s_Kd p1 p2 4 o0).1.list 0 (s_Kd p1 p2 4 o0).2.failed []).2).symm] [aN (t_Kd p1 p2 4 o0 (Q1ax p1 p2 o0 H).1), aV [(1, Toleration.rows (Q6g p1 p2 o0 (s_Kd p1 p2 4 o0).1.list 0 (s_Kd p1 p2 4 o0).2.failed []).2)] hl0] (by kernel_rfl)
def s_Kl (p1 : Val) (o0 : PDecoder) : PodSpec × PDecoder := ((PodSpec.dec p1).1, ft o0 (PodSpec.dec p1).2)
theorem e_Kl (p1 : Val) (o0 : PDecoder) : s_Kl p1 o0 = (((PodSpec.mk (s_Kn p1 Q2p (s_Ko p1 o0).2).1 (s_Kg p1 Q1h (s_Kn p1 Q2p (s_Ko p1 o0).2).2).1 (s_Kg p1 Q1v (s_Kg p1 Q1h (s_Kn p1 Q2p (s_Ko p1 o0).2).2).2).1 (s_Kg p1 Q2r (s_Kg p1 Q1v (s_Kg p1 Q1h (s_Kn p1 Q2p (s_Ko p1 o0).2).2).2).2).1 (s_Kt p1 Q1g (s_Kg p1 Q2r (s_Kg p1 Q1v (s_Kg p1 Q1h (s_Kn p1 Q2p (s_Ko p1 o0).2).2).2).2).2).1 (s_Ku p1 Q18 (s_Kt p1 Q1g (s_Kg p1 Q2r (s_Kg p1 Q1v (s_Kg p1 Q1h (s_Kn p1 Q2p (s_Ko p1 o0).2).2).2).2).2).2).1 (s_Kv p1 Q1y (s_Ku p1 Q18 (s_Kt p1 Q1g (s_Kg p1 Q2r (s_Kg p1 Q1v (s_Kg p1 Q1h (s_Kn p1 Q2p (s_Ko p1 o0).2).2).2).2).2).2).2).1 (s_Kw p1 Q2h (s_Kv p1 Q1y (s_Ku p1 Q18 (s_Kt p1 Q1g (s_Kg p1 Q2r (s_Kg p1 Q1v (s_Kg p1 Q1h (s_Kn p1 Q2p (s_Ko p1 o0).2).2).2).2).2).2).2).2).1 (s_Kx p1 Q36 (s_Kw p1 Q2h (s_Kv p1 Q1y (s_Ku p1 Q18 (s_Kt p1 Q1g (s_Kg p1 Q2r (s_Kg p1 Q1v (s_Kg p1 Q1h (s_Kn p1 Q2p (s_Ko p1 o0).2).2).2).2).2).2).2).2).2).1 (s_Ky p1 Q29 (s_Kx p1 Q36 (s_Kw p1 Q2h (s_Kv p1 Q1y (s_Ku p1 Q18 (s_Kt p1 Q1g (s_Kg p1 Q2r (s_Kg p1 Q1v (s_Kg p1 Q1h (s_Kn p1 Q2p (s_Ko p1 o0).2).2).2).2).2).2).2).2).2).2).1), (s_Ky p1 Q29 (s_Kx p1 Q36 (s_Kw p1 Q2h (s_Kv p1 Q1y (s_Ku p1 Q18 (s_Kt p1 Q1g (s_Kg p1 Q2r (s_Kg p1 Q1v (s_Kg p1 Q1h (s_Kn p1 Q2p (s_Ko p1 o0).2).2).2).2).2).2).2).2).2).2).2)) := by
  simp only [s_Ko, s_Kg, s_Kn, s_Kt, s_Kv, s_Kw, s_Ku, s_Kx, s_Ky, s_Kl, PodSpec.dec, Qlt, Bool.and_assoc, Bool.and_left_comm, Bool.and_comm, Bool.and_self_left]
def c_Kl (p1 : Val) (o0 : PDecoder) : En := .call 218 [.bx 0 0, .agg (Val.cells p1)] [⟨1, 0, false, (PDecoder.cells o0)⟩]
def r_Kl (_p1 : Val) (_o0 : PDecoder) (q0 : PodSpec) (q1 : PDecoder) : Rs := .ret (.agg (PodSpec.cells q0)) [⟨1, 0, false, (PDecoder.cells q1)⟩]
def a_Kl (p1 : Val) (o0 : PDecoder) : Rs := r_Kl p1 o0 (s_Kl p1 o0).1 (s_Kl p1 o0).2
def H_Kl (p1 : Val) : Prop := Val.Sm 1000000000 p1
theorem Q7p (p1 : Val) (_o0 : PDecoder) (H : H_Kl p1) : (H_Kn p1) ∧ (H_Kg p1) ∧ (H_Kt p1) ∧ (H_Ku p1) ∧ (H_Kv p1) ∧ (H_Kw p1) ∧ (H_Kx p1) ∧ (H_Ky p1) ∧ True := by
  repeat' with_reducible apply And.intro
  all_goals first | exact True.intro | exact H | exact Qmm (Q3t H _)
theorem t_Kl (p1 : Val) (o0 : PDecoder) (H : H_Kl p1) : Q5 G (c_Kl p1 o0) (a_Kl p1 o0) := by
 unfold a_Kl
 rw [e_Kl]
 exact Q6 (fn := Ir.Kl) rfl (h := [⟨1, 0, false, (PDecoder.cells o0)⟩]) (vw := []) VOK.nil [] [aN (t_Ko p1 o0), aN (t_Kn p1 Q2p (s_Ko p1 o0).2 (Q7p p1 o0 H).1), aN (t_Kg p1 Q1h (s_Kn p1 Q2p (s_Ko p1 o0).2).2 (Q7p p1 o0 H).2.1), aN (t_Kg p1 Q1v (s_Kg p1 Q1h (s_Kn p1 Q2p (s_Ko p1 o0).2).2).2 (Q7p p1 o0 H).2.1), aN (t_Kg p1 Q2r (s_Kg p1 Q1v (s_Kg p1 Q1h (s_Kn p1 Q2p (s_Ko p1 o0).2).2).2).2 (Q7p p1 o0 H).2.1), aN (t_Kt p1 Q1g (s_Kg p1 Q2r (s_Kg p1 Q1v (s_Kg p1 Q1h (s_Kn p1 Q2p (s_Ko p1 o0).2).2).2).2).2 (Q7p p1 o0 H).2.2.1), aN (t_Ku p1 Q18 (s_Kt p1 Q1g (s_Kg p1 Q2r (s_Kg p1 Q1v (s_Kg p1 Q1h (s_Kn p1 Q2p (s_Ko p1 o0).2).2).2).2).2).2 (Q7p p1 o0 H).2.2.2.1), aN (t_Kv p1 Q1y (s_Ku p1 Q18 (s_Kt p1 Q1g (s_Kg p1 Q2r (s_Kg p1 Q1v (s_Kg p1 Q1h (s_Kn p1 Q2p (s_Ko p1 o0).2).2).2).2).2).2).2 (Q7p p1 o0 H).2.2.2.2.1), aN (t_Kw p1 Q2h (s_Kv p1 Q1y (s_Ku p1 Q18 (s_Kt p1 Q1g (s_Kg p1 Q2r (s_Kg p1 Q1v (s_Kg p1 Q1h (s_Kn p1 Q2p (s_Ko p1 o0).2).2).2).2).2).2).2).2 (Q7p p1 o0 H).2.2.2.2.2.1), aN (t_Kx p1 Q36 (s_Kw p1 Q2h (s_Kv p1 Q1y (s_Ku p1 Q18 (s_Kt p1 Q1g (s_Kg p1 Q2r (s_Kg p1 Q1v (s_Kg p1 Q1h (s_Kn p1 Q2p (s_Ko p1 o0).2).2).2).2).2).2).2).2).2 (Q7p p1 o0 H).2.2.2.2.2.2.1), aN (t_Ky p1 Q29 (s_Kx p1 Q36 (s_Kw p1 Q2h (s_Kv p1 Q1y (s_Ku p1 Q18 (s_Kt p1 Q1g (s_Kg p1 Q2r (s_Kg p1 Q1v (s_Kg p1 Q1h (s_Kn p1 Q2p (s_Ko p1 o0).2).2).2).2).2).2).2).2).2).2 (Q7p p1 o0 H).2.2.2.2.2.2.2.1)] (by kernel_rfl)
def s_Ke (p1 : Val) (o0 : PDecoder) : Label × PDecoder := ((Label.dec p1).1, ft o0 (Label.dec p1).2)
theorem e_Ke (p1 : Val) (o0 : PDecoder) : s_Ke p1 o0 = (((Label.mk (s_Kn p1 Q15 (s_Ko p1 o0).2).1 (s_Kn p1 Q13 (s_Kn p1 Q15 (s_Ko p1 o0).2).2).1), (s_Kn p1 Q13 (s_Kn p1 Q15 (s_Ko p1 o0).2).2).2)) := by
  simp only [s_Ko, s_Kn, s_Ke, Label.dec, Qlt, Bool.and_assoc, Bool.and_left_comm, Bool.and_comm, Bool.and_self_left]
def c_Ke (p1 : Val) (o0 : PDecoder) : En := .call 217 [.bx 0 0, .agg (Val.cells p1)] [⟨1, 0, false, (PDecoder.cells o0)⟩]
def r_Ke (_p1 : Val) (_o0 : PDecoder) (q0 : Label) (q1 : PDecoder) : Rs := .ret (.agg (Label.cells q0)) [⟨1, 0, false, (PDecoder.cells q1)⟩]
def a_Ke (p1 : Val) (o0 : PDecoder) : Rs := r_Ke p1 o0 (s_Ke p1 o0).1 (s_Ke p1 o0).2
def H_Ke (p1 : Val) : Prop := Val.Sm 1000000000 p1
theorem Q1aq (p1 : Val) (_o0 : PDecoder) (H : H_Ke p1) : (H_Kn p1) ∧ True := by
  repeat' with_reducible apply And.intro
  all_goals first | exact True.intro | exact H | exact Qmm (Q3t H _)
theorem t_Ke (p1 : Val) (o0 : PDecoder) (H : H_Ke p1) : Q5 G (c_Ke p1 o0) (a_Ke p1 o0) := by
 unfold a_Ke
 rw [e_Ke]
 exact Q6 (fn := Ir.Ke) rfl (h := [⟨1, 0, false, (PDecoder.cells o0)⟩]) (vw := []) VOK.nil [] [aN (t_Ko p1 o0), aN (t_Kn p1 Q15 (s_Ko p1 o0).2 (Q1aq p1 o0 H).1), aN (t_Kn p1 Q13 (s_Kn p1 Q15 (s_Ko p1 o0).2).2 (Q1aq p1 o0 H).1)] (by kernel_rfl)
def Q6a (p1 : Val) (p2 : BA) (o0 : PDecoder) : List Val → Nat → Bool → (List Label) → Bool × (List Label)
 | [], _i0, v0_1, v0_2 =>
  (v0_1, v0_2)
 | x0 :: r0, i0, v0_1, v0_2 =>
  Q6a p1 p2 o0 r0 (i0 + 1) (s_Ke x0 (PDecoder.mk v0_1)).2.failed (v0_2 ++ [(s_Ke x0 (PDecoder.mk v0_1)).1])
def Q11n (p1 : Val) (p2 : BA) (o0 : PDecoder) (i0 : Nat) (_v0_1 : Bool) (v0_2 : List Label) : List PV :=
  [.un, .un, .un, .fn 217 [.bx 0 0] []] ++ nuns 5 ++ [.ms 1 2 0 (List.length v0_2)] ++ nuns 6 ++ [.sl (Val.rows (s_Kd p1 p2 4 o0).1.list), .int .i64 ((List.length (s_Kd p1 p2 4 o0).1.list) : Int), .int .i64 (i0 : Int)] ++ nuns 11
def Qru (_p1 : Val) (_p2 : BA) (_o0 : PDecoder) (_i0 : Nat) (v0_1 : Bool) (v0_2 : List Label) : List Ob :=
  [⟨1, 0, false, [.bool v0_1]⟩, ⟨2, 0, true, (Label.rows v0_2).flatten⟩]
def Qrm (p1 : Val) (p2 : BA) (o0 : PDecoder) (i0 : Nat) (v0_1 : Bool) (v0_2 : List Label) : En := .loop 1 Ir.Qn8 Ir.Q1nl (Q11n p1 p2 o0 i0 v0_1 v0_2) (Qru p1 p2 o0 i0 v0_1 v0_2)
def Qx5 (_p1 : Val) (_p2 : BA) (_o0 : PDecoder) (q0 : Bool) (q1 : List Label) (z : Nat → PV) (_zo : Nat → List PV) : St :=
  ⟨zr z 0 9 ++ [.ms 1 2 0 (List.length q1)] ++ zr z 10 20, [(0, ⟨1, 0, false, [.bool q0]⟩), (1, ⟨2, 0, true, (Label.rows q1).flatten⟩)], 66⟩
theorem Q19z (p1 : Val) (p2 : BA) (o0 : PDecoder) (i0 : Nat) (v0_1 : Bool) (v0_2 : List Label) : VOK (Go.Pv.look (number 0 (Qru p1 p2 o0 i0 v0_1 v0_2))) [(1, Label.rows v0_2)] := (VOK.cons (show Seen _ _ from Q3i (ob := ⟨2, 0, true, (Label.rows v0_2).flatten⟩) (Label.Q7 v0_2 2 rfl)) VOK.nil)
def Qte (p1 : Val) (p2 : BA) (o0 : PDecoder) (e : En) (q : Bool × (List Label)) : Prop := ∃ z zo, Q5 G e (.st (.exit 0) (Qx5 p1 p2 o0 q.1 q.2 z zo))
theorem Qwv (p1 : Val) (p2 : BA) (o0 : PDecoder) {e e' : En} (h : ∀ r, Q5 G e r → Q5 G e' r) : ∀ q, Qte p1 p2 o0 e q → Qte p1 p2 o0 e' q
  | _, ⟨z, zo, hz⟩ => ⟨z, zo, h _ hz⟩
def Qic (p1 : Val) (p2 : BA) (o0 : PDecoder) : Prop := (List.length (s_Kd p1 p2 4 o0).1.list ≤ 137438953472) ∧ (∀ x0 ∈ (s_Kd p1 p2 4 o0).1.list, H_Ke x0) ∧ True
def Qxf (p1 : Val) (p2 : BA) (o0 : PDecoder) (i0 : Nat) (_v0_1 : Bool) (_v0_2 : List Label) : List PV :=
  [.un, .un, .un, .fn 217 [.bx 0 0] []] ++ nuns 12 ++ [.sl (Val.rows (s_Kd p1 p2 4 o0).1.list), .int .i64 ((List.length (s_Kd p1 p2 4 o0).1.list) : Int), .int .i64 (i0 : Int), .bool false]
def Qov (_p1 : Val) (_p2 : BA) (_o0 : PDecoder) (_i0 : Nat) (_v0_1 : Bool) (_v0_2 : List Label) : List (Nat × List PV) :=
  []
theorem Q1d6 (p1 : Val) (p2 : BA) (o0 : PDecoder) (_H : Qic p1 p2 o0) (i0 : Nat) (v0_1 : Bool) (v0_2 : List Label) (_ho0_0 : List.length v0_2 ≤ i0) (hc0 : (decide ((i0 : Int) < ((List.length (s_Kd p1 p2 4 o0).1.list) : Int))) = false) : Qte p1 p2 o0 (Qrm p1 p2 o0 i0 v0_1 v0_2) (v0_1, v0_2) := by
 exact ⟨(envF (Qxf p1 p2 o0 i0 v0_1 v0_2)), (zoF (Qov p1 p2 o0 i0 v0_1 v0_2)), Qj (Q19z p1 p2 o0 i0 v0_1 v0_2) (x := ((.exit 0), Qx5 p1 p2 o0 v0_1 v0_2 (envF (Qxf p1 p2 o0 i0 v0_1 v0_2)) (zoF (Qov p1 p2 o0 i0 v0_1 v0_2)))) [hB 0 hc0] [] (by kernel_rfl)⟩
theorem Q1bk (p1 : Val) (p2 : BA) (o0 : PDecoder) (H : Qic p1 p2 o0) (x0 : Val) (i0 : Nat) (v0_1 : Bool) (v0_2 : List Label) (hx0 : (s_Kd p1 p2 4 o0).1.list[i0]? = some x0) (hi0 : i0 < List.length (s_Kd p1 p2 4 o0).1.list) (ho0_0 : List.length v0_2 ≤ i0) (hc0 : (decide ((i0 : Int) < ((List.length (s_Kd p1 p2 4 o0).1.list) : Int))) = true) {r : Rs} (hr : Q5 G (Qrm p1 p2 o0 (i0 + 1) (s_Ke x0 (PDecoder.mk v0_1)).2.failed (v0_2 ++ [(s_Ke x0 (PDecoder.mk v0_1)).1])) r) : Q5 G (Qrm p1 p2 o0 i0 v0_1 v0_2) r := by
 have hB0 := H.1
 exact Qd (Q19z p1 p2 o0 i0 v0_1 v0_2) (y := (Q11n p1 p2 o0 (i0 + 1) (s_Ke x0 (PDecoder.mk v0_1)).2.failed (v0_2 ++ [(s_Ke x0 (PDecoder.mk v0_1)).1]), Qru p1 p2 o0 (i0 + 1) (s_Ke x0 (PDecoder.mk v0_1)).2.failed (v0_2 ++ [(s_Ke x0 (PDecoder.mk v0_1)).1]))) [hB 0 hc0, hP 0 (Q2g 5 (Val.rows (s_Kd p1 p2 4 o0).1.list) i0 _ (Val.Qe hx0) rfl), hV 8 [(642, Label.rows (v0_2 ++ [(s_Ke x0 (PDecoder.mk v0_1)).1]))] (Q3x 1 578 642 2 32 0 0 true (Label.rows v0_2) (Label.rows (v0_2 ++ [(s_Ke x0 (PDecoder.mk v0_1)).1])) (Label.cells (s_Ke x0 (PDecoder.mk v0_1)).1) (List.length v0_2) (List.length (v0_2 ++ [(s_Ke x0 (PDecoder.mk v0_1)).1])) rfl (Label.Q0 v0_2).symm (Label.Q0 (v0_2 ++ [(s_Ke x0 (PDecoder.mk v0_1)).1])).symm (Label.Q1q v0_2 (s_Ke x0 (PDecoder.mk v0_1)).1) (Label.Ql v0_2) rfl (by omega)), hS 0 true (Label.Q7 (v0_2 ++ [(s_Ke x0 (PDecoder.mk v0_1)).1]) 2 rfl), hP 1 (Q28 i0 (by omega))] [aN (t_Ke x0 (PDecoder.mk v0_1) (H.2.1 x0 (Q2o hx0)))] (by kernel_rfl) hr
theorem Q144 (p1 : Val) (p2 : BA) (o0 : PDecoder) (H : Qic p1 p2 o0) : ∀ (r0 : List Val) (i0 : Nat) (v0_1 : Bool) (v0_2 : List Label), List.drop i0 (s_Kd p1 p2 4 o0).1.list = r0 → List.length v0_2 ≤ i0 → Qte p1 p2 o0 (Qrm p1 p2 o0 i0 v0_1 v0_2) (Q6a p1 p2 o0 r0 i0 v0_1 v0_2)
 | [], i0, v0_1, v0_2, hd, ho0_0 => by
  have hc0 : (decide ((i0 : Int) < ((List.length (s_Kd p1 p2 4 o0).1.list) : Int))) = false := by have := Q1o hd; simp; omega
  rw [Q6a]
  exact Q1d6 p1 p2 o0 H i0 v0_1 v0_2 ho0_0 hc0
 | x0 :: r0, i0, v0_1, v0_2, hd, ho0_0 => by
  obtain ⟨hx0, hi0, hd'⟩ := Q1i hd
  have hc0 : (decide ((i0 : Int) < ((List.length (s_Kd p1 p2 4 o0).1.list) : Int))) = true := by simp; omega
  rw [Q6a]
  exact Qwv p1 p2 o0 (fun r hr => Q1bk p1 p2 o0 H x0 i0 v0_1 v0_2 hx0 hi0 ho0_0 hc0 hr) _ (Q144 p1 p2 o0 H r0 (i0 + 1) (s_Ke x0 (PDecoder.mk v0_1)).2.failed (v0_2 ++ [(s_Ke x0 (PDecoder.mk v0_1)).1]) hd' (by first | omega | (simp; omega)))
def s_Ks (p1 : Val) (p2 : BA) (o0 : PDecoder) : List Label × PDecoder := ((dE Label.dec p1 p2).1, ft o0 (isM p1 && (dE Label.dec p1 p2).2))
theorem Q1c8 (p1 : Val) (p2 : BA) (o0 : PDecoder) : ∀ (l : List Val) (i : Nat) (b : Bool) (a : List Label), Q6a p1 p2 o0 l i b a = (b || !(l.all fun x => (Label.dec x).2), a ++ l.map (fun x => (Label.dec x).1))
  | [], _, b, a => by rw [Q6a]; simp
  | x :: l, i, b, a => by
    rw [Q6a]
    refine (Q1c8 p1 p2 o0 l (i + 1) (b || !(Label.dec x).2) (a ++ [(Label.dec x).1])).trans ?_
    simp only [List.append_assoc, List.singleton_append, List.map_cons, List.all_cons, Bool.not_and, Bool.or_assoc]
theorem e_Ks (p1 : Val) (p2 : BA) (o0 : PDecoder) : s_Ks p1 p2 o0 = (((Q6a p1 p2 o0 (s_Kd p1 p2 4 o0).1.list 0 (s_Kd p1 p2 4 o0).2.failed []).2, (PDecoder.mk (Q6a p1 p2 o0 (s_Kd p1 p2 4 o0).1.list 0 (s_Kd p1 p2 4 o0).2.failed []).1))) := by
  rw [Q1c8]
  unfold s_Kd s_Ks
  simp only [Q8u, Q4r]
  refine Prod.ext rfl ?_
  rw [Q8j o0.failed (isM p1) _ _ _ (Qv2 (prt p1 p2)), Q5p]
  rfl
def c_Ks (p1 : Val) (p2 : BA) (o0 : PDecoder) : En := .call 216 [.bx 0 0, .agg (Val.cells p1), .str p2, .fn 217 [.bx 0 0] []] [⟨1, 0, false, (PDecoder.cells o0)⟩]
def r_Ks (_p1 : Val) (_p2 : BA) (_o0 : PDecoder) (q0 : List Label) (q1 : PDecoder) : Rs := .ret (.sl (Label.rows q0)) [⟨1, 0, false, (PDecoder.cells q1)⟩]
def a_Ks (p1 : Val) (p2 : BA) (o0 : PDecoder) : Rs := r_Ks p1 p2 o0 (s_Ks p1 p2 o0).1 (s_Ks p1 p2 o0).2
def H_Ks (p1 : Val) : Prop := Val.Sm 1000000000 p1
theorem Q1ar (p1 : Val) (p2 : BA) (o0 : PDecoder) (H : H_Ks p1) : (H_Kd p1) ∧ (Qic p1 p2 o0) ∧ True := by
  have hl := Qn5 (Q3t H p2)
  refine ⟨H, ?_, trivial⟩
  unfold Qic s_Kd
  simp only [Q8u]
  exact ⟨Nat.le_trans hl.1 (Nat.le_of_ble_eq_true rfl), hl.2, trivial⟩
theorem t_Ks (p1 : Val) (p2 : BA) (o0 : PDecoder) (H : H_Ks p1) : Q5 G (c_Ks p1 p2 o0) (a_Ks p1 p2 o0) := by
 unfold a_Ks
 rw [e_Ks]
 have hl0 := Q144 p1 p2 o0 ((Q1ar p1 p2 o0 H).2.1) (s_Kd p1 p2 4 o0).1.list 0 (s_Kd p1 p2 4 o0).2.failed [] (by simp) (by simp)
 obtain ⟨z0, zo0, hl0⟩ := hl0
 exact Q6 (fn := Ir.Ks) rfl (h := [⟨1, 0, false, (PDecoder.cells o0)⟩]) (vw := []) VOK.nil [hP 8 (Qw (Val.rows (s_Kd p1 p2 4 o0).1.list) (List.length (s_Kd p1 p2 4 o0).1.list) (Val.Q0 (s_Kd p1 p2 4 o0).1.list)), hS 0 true (Label.Q7 (Q6a p1 p2 o0 (s_Kd p1 p2 4 o0).1.list 0 (s_Kd p1 p2 4 o0).2.failed []).2 2 rfl), hQ (Label.Q0 (Q6a p1 p2 o0 (s_Kd p1 p2 4 o0).1.list 0 (s_Kd p1 p2 4 o0).2.failed []).2).symm] [aN (t_Kd p1 p2 4 o0 (Q1ar p1 p2 o0 H).1), aV [(1, Label.rows (Q6a p1 p2 o0 (s_Kd p1 p2 4 o0).1.list 0 (s_Kd p1 p2 4 o0).2.failed []).2)] hl0] (by kernel_rfl)
def s_Ka (p0 : Val) : Template × Int := Q11h p0
theorem e_Ka (p0 : Val) : s_Ka p0 = (bif (s_Kl (s_Kp p0 Q32 (s_Ks p0 Q21 (s_Ko p0 (PDecoder.mk false)).2).2).1 (s_Kp p0 Q32 (s_Ks p0 Q21 (s_Ko p0 (PDecoder.mk false)).2).2).2).2.failed then
    ((Template.mk [] (PodSpec.mk eB 0 0 0 [] [] [] [] [] [])), 6)
  else
    ((Template.mk (s_Ks p0 Q21 (s_Ko p0 (PDecoder.mk false)).2).1 (s_Kl (s_Kp p0 Q32 (s_Ks p0 Q21 (s_Ko p0 (PDecoder.mk false)).2).2).1 (s_Kp p0 Q32 (s_Ks p0 Q21 (s_Ko p0 (PDecoder.mk false)).2).2).2).1), 0)) := by
  unfold s_Ka Q11h Template.dec
  simp only [s_Ko, s_Kp, s_Kl, s_Ks, PodSpec.sub1, dT, PodSpec.sub2, Qlt, Q4r, Bool.false_or, Bool.and_assoc, Bool.and_left_comm, Bool.and_comm, Bool.and_self_left]
  rfl
def c_Ka (p0 : Val) : En := .call 183 [.agg (Val.cells p0)] []
def a_Ka (p0 : Val) : Rs := .ret (.tup [.agg (Template.cells (s_Ka p0).1), .int .i64 (s_Ka p0).2]) []
def H_Ka (p0 : Val) : Prop := Val.Sm 1000000000 p0
theorem Qdb (p0 : Val) (H : H_Ka p0) : (H_Ks p0) ∧ (H_Kp p0) ∧ (H_Kl (s_Kp p0 Q32 (s_Ks p0 Q21 (s_Ko p0 (PDecoder.mk false)).2).2).1) ∧ True := by
  repeat' with_reducible apply And.intro
  all_goals first | exact True.intro | exact H | exact Qmm (Q3t H _)
theorem t_Ka (p0 : Val) (H : H_Ka p0) : Q5 G (c_Ka p0) (a_Ka p0) := by
 unfold a_Ka
 rw [e_Ka]
 cases h0 : (s_Kl (s_Kp p0 Q32 (s_Ks p0 Q21 (s_Ko p0 (PDecoder.mk false)).2).2).1 (s_Kp p0 Q32 (s_Ks p0 Q21 (s_Ko p0 (PDecoder.mk false)).2).2).2).2.failed with
 | true =>
  exact Q6 (fn := Ir.Ka) rfl VOK.nil [hP 25 (decR (s_Kl (s_Kp p0 Q32 (s_Ks p0 Q21 (s_Ko p0 (PDecoder.mk false)).2).2).1 (s_Kp p0 Q32 (s_Ks p0 Q21 (s_Ko p0 (PDecoder.mk false)).2).2).2).2.failed true [256] h0)] [aN (t_Ko p0 (PDecoder.mk false)), aN (t_Ks p0 Q21 (s_Ko p0 (PDecoder.mk false)).2 (Qdb p0 H).1), aN (t_Kp p0 Q32 (s_Ks p0 Q21 (s_Ko p0 (PDecoder.mk false)).2).2 (Qdb p0 H).2.1), aN (t_Kl (s_Kp p0 Q32 (s_Ks p0 Q21 (s_Ko p0 (PDecoder.mk false)).2).2).1 (s_Kp p0 Q32 (s_Ks p0 Q21 (s_Ko p0 (PDecoder.mk false)).2).2).2 (Qdb p0 H).2.2.1)] (by kernel_rfl)
 | false =>
  exact Q6 (fn := Ir.Ka) rfl VOK.nil [hP 25 (decR (s_Kl (s_Kp p0 Q32 (s_Ks p0 Q21 (s_Ko p0 (PDecoder.mk false)).2).2).1 (s_Kp p0 Q32 (s_Ks p0 Q21 (s_Ko p0 (PDecoder.mk false)).2).2).2).2.failed false [256] h0)] [aN (t_Ko p0 (PDecoder.mk false)), aN (t_Ks p0 Q21 (s_Ko p0 (PDecoder.mk false)).2 (Qdb p0 H).1), aN (t_Kp p0 Q32 (s_Ks p0 Q21 (s_Ko p0 (PDecoder.mk false)).2).2 (Qdb p0 H).2.1), aN (t_Kl (s_Kp p0 Q32 (s_Ks p0 Q21 (s_Ko p0 (PDecoder.mk false)).2).2).1 (s_Kp p0 Q32 (s_Ks p0 Q21 (s_Ko p0 (PDecoder.mk false)).2).2).2 (Qdb p0 H).2.2.1)] (by kernel_rfl)
end Go.Proofs.YtimjjohlpnkacaaGreat
end

section
/- What the program's decoders compute (printed by a program). -/
namespace Go.Proofs.YtimjjohlpnkacaaGreat
open Go.Pv
structure Decoder where
  wrong : Int
def Decoder.cells (x : Decoder) : List PV :=
  [.int .i64 x.wrong]
def Decoder.rows (l : List Decoder) : List (List PV) := l.map Decoder.cells
def bp (o : Decoder) (n : Nat) : Decoder := ⟨bw o.wrong n⟩
theorem Qmz (o : Decoder) (a b : Nat) : bp (bp o a) b = bp o (a + b) := by unfold bp; rw [Q1is]
theorem Q1fz (o : Decoder) (n : Nat) : (bp o n).wrong = bw o.wrong n := rfl
def Q33 (p1 : Val) (p2 : Int) (o0 : Decoder) : Val × Decoder := (bif p1.kind == p2 then p1 else vZ, bp o0 (cK p2 p1))
theorem Q1zc (p1 : Val) (p2 : Int) (o0 : Decoder) : Q33 p1 p2 o0 = (bif (p1.kind == p2) then
    (p1, o0)
  else
    bif (p1.kind == 0) then
      ((Val.mk 0 0 eB [] []), o0)
    else
      ((Val.mk 0 0 eB [] []), (Decoder.mk (w64 (o0.wrong + 1))))) := by
  obtain ⟨w⟩ := o0
  unfold Q33 bp cK nb
  cases (p1.kind == p2) <;> cases (p1.kind == 0) <;> rfl
def Q1xp (p1 : Val) (p2 : Int) (o0 : Decoder) : En := .call 174 [.bx 0 0, .agg (Val.cells p1), .int .i64 p2] [⟨1, 0, false, (Decoder.cells o0)⟩]
def Q203 (_p1 : Val) (_p2 : Int) (_o0 : Decoder) (q0 : Val) (q1 : Decoder) : Rs := .ret (.agg (Val.cells q0)) [⟨1, 0, false, (Decoder.cells q1)⟩]
def Q1pk (p1 : Val) (p2 : Int) (o0 : Decoder) : Rs := Q203 p1 p2 o0 (Q33 p1 p2 o0).1 (Q33 p1 p2 o0).2
theorem Qn4 (p1 : Val) (p2 : Int) (o0 : Decoder) : Q5 G (Q1xp p1 p2 o0) (Q1pk p1 p2 o0) := by
 unfold Q1pk
 rw [Q1zc]
 cases h0 : (p1.kind == p2) with
 | true =>
  exact Q6 (fn := Ir.K61) rfl (h := [⟨1, 0, false, (Decoder.cells o0)⟩]) (vw := []) VOK.nil [hB 5 h0] [] (by kernel_rfl)
 | false =>
  cases h1 : (p1.kind == 0) with
  | true =>
   exact Q6 (fn := Ir.K61) rfl (h := [⟨1, 0, false, (Decoder.cells o0)⟩]) (vw := []) VOK.nil [hB 5 h0, hP 2 (dec (!(p1.kind == 0)) false (by rw [h1]; rfl))] [] (by kernel_rfl)
  | false =>
   exact Q6 (fn := Ir.K61) rfl (h := [⟨1, 0, false, (Decoder.cells o0)⟩]) (vw := []) VOK.nil [hB 5 h0, hP 2 (dec (!(p1.kind == 0)) true (by rw [h1]; rfl))] [] (by kernel_rfl)
def Q1l (p1 : Val) (p2 : BA) (o0 : Decoder) : Val × Decoder := (prt p1 p2, bp o0 (cM p1))
theorem Q1zd (p1 : Val) (p2 : BA) (o0 : Decoder) : Q1l p1 p2 o0 = (((Qn3 (Q33 p1 5 o0).1 p2).1, (Q33 p1 5 o0).2)) := by
  unfold Q1l
  rw [vprt]
  unfold Q33
  cases h : (p1.kind == 5) with
  | true => rfl
  | false => rw [Qme h]; rfl
def Q1xq (p1 : Val) (p2 : BA) (o0 : Decoder) : En := .call 76 [.bx 0 0, .agg (Val.cells p1), .str p2] [⟨1, 0, false, (Decoder.cells o0)⟩]
def Q204 (_p1 : Val) (_p2 : BA) (_o0 : Decoder) (q0 : Val) (q1 : Decoder) : Rs := .ret (.agg (Val.cells q0)) [⟨1, 0, false, (Decoder.cells q1)⟩]
def Q1pl (p1 : Val) (p2 : BA) (o0 : Decoder) : Rs := Q204 p1 p2 o0 (Q1l p1 p2 o0).1 (Q1l p1 p2 o0).2
def Qwp (p1 : Val) : Prop := Val.Sm 1000000000 p1
theorem Q1ep (p1 : Val) (p2 : BA) (o0 : Decoder) (H : Qwp p1) : (Q1dk (Q33 p1 5 o0).1 p2) ∧ True := by
  refine ⟨Q1ne ?_ _, trivial⟩
  unfold Q33
  cases (p1.kind == 5) with
  | true => exact H
  | false => exact Q1ra
theorem Q102 (p1 : Val) (p2 : BA) (o0 : Decoder) (H : Qwp p1) : Q5 G (Q1xq p1 p2 o0) (Q1pl p1 p2 o0) := by
 unfold Q1pl
 rw [Q1zd]
 exact Q6 (fn := Ir.K62) rfl (h := [⟨1, 0, false, (Decoder.cells o0)⟩]) (vw := []) VOK.nil [] [aN (Qn4 p1 5 o0), aN (Q1fw (Q33 p1 5 o0).1 p2 (Q1ep p1 p2 o0 H).1)] (by kernel_rfl)
def Qc (p1 : Val) (p2 : BA) (o0 : Decoder) : Int × Decoder := ((dN p1 p2).1, bp o0 (pK 2 p1 p2))
theorem Q1zh (p1 : Val) (p2 : BA) (o0 : Decoder) : Qc p1 p2 o0 = (((Q33 (Q1l p1 p2 o0).1 2 (Q1l p1 p2 o0).2).1.n, (Q33 (Q1l p1 p2 o0).1 2 (Q1l p1 p2 o0).2).2)) := by
  unfold Qc Q1l Q33
  simp only [Qmz]
  exact Prod.ext (getN (prt p1 p2)).symm rfl
def Q1xu (p1 : Val) (p2 : BA) (o0 : Decoder) : En := .call 71 [.bx 0 0, .agg (Val.cells p1), .str p2] [⟨1, 0, false, (Decoder.cells o0)⟩]
def Q208 (_p1 : Val) (_p2 : BA) (_o0 : Decoder) (q0 : Int) (q1 : Decoder) : Rs := .ret (.int .i64 q0) [⟨1, 0, false, (Decoder.cells q1)⟩]
def Q1pp (p1 : Val) (p2 : BA) (o0 : Decoder) : Rs := Q208 p1 p2 o0 (Qc p1 p2 o0).1 (Qc p1 p2 o0).2
def Q150 (p1 : Val) : Prop := Val.Sm 1000000000 p1
theorem Q1er (p1 : Val) (_p2 : BA) (_o0 : Decoder) (H : Q150 p1) : (Qwp p1) ∧ True := by
  exact ⟨H, trivial⟩
theorem Qct (p1 : Val) (p2 : BA) (o0 : Decoder) (H : Q150 p1) : Q5 G (Q1xu p1 p2 o0) (Q1pp p1 p2 o0) := by
 unfold Q1pp
 rw [Q1zh]
 exact Q6 (fn := Ir.K66) rfl (h := [⟨1, 0, false, (Decoder.cells o0)⟩]) (vw := []) VOK.nil [] [aN (Q102 p1 p2 o0 (Q1er p1 p2 o0 H).1), aN (Qn4 (Q1l p1 p2 o0).1 2 (Q1l p1 p2 o0).2)] (by kernel_rfl)
def Q3f (p1 : Val) (p2 : BA) (o0 : Decoder) : ByteArray × Decoder := ((dS p1 p2).1, bp o0 (pK 3 p1 p2))
theorem Q1zi (p1 : Val) (p2 : BA) (o0 : Decoder) : Q3f p1 p2 o0 = (((Q33 (Q1l p1 p2 o0).1 3 (Q1l p1 p2 o0).2).1.s, (Q33 (Q1l p1 p2 o0).1 3 (Q1l p1 p2 o0).2).2)) := by
  unfold Q3f Q1l Q33
  simp only [Qmz]
  exact Prod.ext (getS (prt p1 p2)).symm rfl
def Q1xv (p1 : Val) (p2 : BA) (o0 : Decoder) : En := .call 89 [.bx 0 0, .agg (Val.cells p1), .str p2] [⟨1, 0, false, (Decoder.cells o0)⟩]
def Q209 (_p1 : Val) (_p2 : BA) (_o0 : Decoder) (q0 : BA) (q1 : Decoder) : Rs := .ret (.str q0) [⟨1, 0, false, (Decoder.cells q1)⟩]
def Q1pq (p1 : Val) (p2 : BA) (o0 : Decoder) : Rs := Q209 p1 p2 o0 (Q3f p1 p2 o0).1 (Q3f p1 p2 o0).2
def Q1ij (p1 : Val) : Prop := Val.Sm 1000000000 p1
theorem Q1es (p1 : Val) (_p2 : BA) (_o0 : Decoder) (H : Q1ij p1) : (Qwp p1) ∧ True := by
  exact ⟨H, trivial⟩
theorem Q220 (p1 : Val) (p2 : BA) (o0 : Decoder) (H : Q1ij p1) : Q5 G (Q1xv p1 p2 o0) (Q1pq p1 p2 o0) := by
 unfold Q1pq
 rw [Q1zi]
 exact Q6 (fn := Ir.K6d) rfl (h := [⟨1, 0, false, (Decoder.cells o0)⟩]) (vw := []) VOK.nil [] [aN (Q102 p1 p2 o0 (Q1es p1 p2 o0 H).1), aN (Qn4 (Q1l p1 p2 o0).1 3 (Q1l p1 p2 o0).2)] (by kernel_rfl)
def Q3s (p1 : Val) (p2 : BA) (o0 : Decoder) : Bool × Decoder := ((dB p1 p2).1, bp o0 (pK 1 p1 p2))
theorem Q1zk (p1 : Val) (p2 : BA) (o0 : Decoder) : Q3s p1 p2 o0 = (((!((Q33 (Q1l p1 p2 o0).1 1 (Q1l p1 p2 o0).2).1.n == 0)), (Q33 (Q1l p1 p2 o0).1 1 (Q1l p1 p2 o0).2).2)) := by
  unfold Q3s Q1l Q33
  simp only [Qmz]
  exact Prod.ext (getB (prt p1 p2)).symm rfl
def Q1xx (p1 : Val) (p2 : BA) (o0 : Decoder) : En := .call 74 [.bx 0 0, .agg (Val.cells p1), .str p2] [⟨1, 0, false, (Decoder.cells o0)⟩]
def Q20b (_p1 : Val) (_p2 : BA) (_o0 : Decoder) (q0 : Bool) (q1 : Decoder) : Rs := .ret (.bool q0) [⟨1, 0, false, (Decoder.cells q1)⟩]
def Q1ps (p1 : Val) (p2 : BA) (o0 : Decoder) : Rs := Q20b p1 p2 o0 (Q3s p1 p2 o0).1 (Q3s p1 p2 o0).2
def Q1dq (p1 : Val) : Prop := Val.Sm 1000000000 p1
theorem Q1et (p1 : Val) (_p2 : BA) (_o0 : Decoder) (H : Q1dq p1) : (Qwp p1) ∧ True := by
  exact ⟨H, trivial⟩
theorem Q1jz (p1 : Val) (p2 : BA) (o0 : Decoder) (H : Q1dq p1) : Q5 G (Q1xx p1 p2 o0) (Q1ps p1 p2 o0) := by
 unfold Q1ps
 rw [Q1zk]
 exact Q6 (fn := Ir.K6g) rfl (h := [⟨1, 0, false, (Decoder.cells o0)⟩]) (vw := []) VOK.nil [] [aN (Q102 p1 p2 o0 (Q1et p1 p2 o0 H).1), aN (Qn4 (Q1l p1 p2 o0).1 1 (Q1l p1 p2 o0).2)] (by kernel_rfl)
def Q1z (p0 : Object) (p1 : BA) : Decoder := bp ⟨0⟩ (nb (sEq p0.meta_.kind p1) + cM p0.spec + cM p0.status)
theorem Q1zo (p0 : Object) (p1 : BA) : Q1z p0 p1 = (bif (sEq p0.meta_.kind p1) then
    (Q33 p0.status 5 (Q33 p0.spec 5 (Decoder.mk 0)).2).2
  else
    (Q33 p0.status 5 (Q33 p0.spec 5 (Decoder.mk 1)).2).2) := by
  unfold Q1z
  simp only [Q33, Qmz]
  cases sEq p0.meta_.kind p1 with
  | true => exact congrArg (bp ⟨0⟩) (by show 0 + cM p0.spec + cM p0.status = cK 5 p0.spec + cK 5 p0.status; unfold cM; omega)
  | false =>
    refine Eq.trans ?_ (Qmz ⟨0⟩ 1 (cK 5 p0.spec + cK 5 p0.status)).symm
    exact congrArg (bp ⟨0⟩) (by show 1 + cM p0.spec + cM p0.status = 1 + (cK 5 p0.spec + cK 5 p0.status); unfold cM; omega)
def Q1y2 (p0 : Object) (p1 : BA) : En := .call 68 [.agg (Object.cells p0), .str p1] []
def Q20d (_p0 : Object) (_p1 : BA) (q0 : Decoder) : Rs := .ret (.bx 0 0) [⟨1, 0, true, (Decoder.cells q0)⟩]
def Q1px (p0 : Object) (p1 : BA) : Rs := Q20d p0 p1 (Q1z p0 p1)
theorem Q1rq (p0 : Object) (p1 : BA) : Q5 G (Q1y2 p0 p1) (Q1px p0 p1) := by
 unfold Q1px
 rw [Q1zo]
 cases h0 : (sEq p0.meta_.kind p1) with
 | true =>
  exact Q6 (fn := Ir.K77) rfl VOK.nil [hP 9 (dec (!(sEq p0.meta_.kind p1)) false (by rw [h0]; rfl))] [aN (Qn4 p0.spec 5 (Decoder.mk 0)), aN (Qn4 p0.status 5 (Q33 p0.spec 5 (Decoder.mk 0)).2)] (by kernel_rfl)
 | false =>
  exact Q6 (fn := Ir.K77) rfl VOK.nil [hP 9 (dec (!(sEq p0.meta_.kind p1)) true (by rw [h0]; rfl))] [aN (Qn4 p0.spec 5 (Decoder.mk 1)), aN (Qn4 p0.status 5 (Q33 p0.spec 5 (Decoder.mk 1)).2)] (by kernel_rfl)
def Q1jl (p0 : Val) (o1 : Decoder) : ByteArray × Decoder := ((xS p0).1, bp o1 (cK 3 p0))
def Q1jp (p1 : Val) (p2 : BA) (o0 : Decoder) : List ByteArray × Decoder := ((dE xS p1 p2).1, bp o0 (pE (cK 3) p1 p2))
def Q1jk (p0 : Val) (o1 : Decoder) : Requirement × Decoder := ((Requirement.dec p0).1, bp o1 (Requirement.cnt p0))
def Q1jo (p1 : Val) (p2 : BA) (o0 : Decoder) : List Requirement × Decoder := ((dE Requirement.dec p1 p2).1, bp o0 (pE (Requirement.cnt) p1 p2))
def Q1jj (p1 : Val) (o0 : Decoder) : List Requirement × Decoder := ((dE Requirement.dec p1 Q8).1, bp o0 (pE Requirement.cnt p1 Q8))
def Quw (p1 : Val) (o0 : Decoder) : Template × Decoder := ((tD p1 Qz).1, bp o0 (tC p1 Qz))
theorem Q1zj (p1 : Val) (o0 : Decoder) : Quw p1 o0 = (bif ((Q1l p1 Qz o0).1.kind == 0) then
    ((Template.mk [] (PodSpec.mk eB 0 0 0 [] [] [] [] [] [])), (Q1l p1 Qz o0).2)
  else
    bif ((s_Ka (Q1l p1 Qz o0).1).2 == 0) then
      ((s_Ka (Q1l p1 Qz o0).1).1, (Q1l p1 Qz o0).2)
    else
      ((s_Ka (Q1l p1 Qz o0).1).1, (Decoder.mk (w64 ((Q1l p1 Qz o0).2.wrong + 1))))) := by
  unfold Quw Q1l s_Ka tD tC
  cases h : ((prt p1 Qz).kind == 0) with
  | true =>
    have h5 : ((prt p1 Qz).kind == 5) = false := by rw [eq_of_beq h]; rfl
    unfold Q11h
    rw [Template.Q9c h5, h]
    rfl
  | false =>
    unfold Q11h
    cases h2 : (Template.dec (prt p1 Qz)).2 with
    | true => rfl
    | false =>
      refine Prod.ext rfl ?_
      exact (Qmz o0 _ 1).symm
def Q1xw (p1 : Val) (o0 : Decoder) : En := .call 73 [.bx 0 0, .agg (Val.cells p1)] [⟨1, 0, false, (Decoder.cells o0)⟩]
def Q20a (_p1 : Val) (_o0 : Decoder) (q0 : Template) (q1 : Decoder) : Rs := .ret (.agg (Template.cells q0)) [⟨1, 0, false, (Decoder.cells q1)⟩]
def Q1pr (p1 : Val) (o0 : Decoder) : Rs := Q20a p1 o0 (Quw p1 o0).1 (Quw p1 o0).2
def Q1ik (p1 : Val) : Prop := Val.Sm 1000000000 p1
theorem Qcg (p1 : Val) (o0 : Decoder) (H : Q1ik p1) : (Qwp p1) ∧ (H_Ka (Q1l p1 Qz o0).1) ∧ True := by
  repeat' with_reducible apply And.intro
  all_goals first | exact True.intro | exact H | exact Q3t H _
theorem Q221 (p1 : Val) (o0 : Decoder) (H : Q1ik p1) : Q5 G (Q1xw p1 o0) (Q1pr p1 o0) := by
 unfold Q1pr
 rw [Q1zj]
 cases h0 : ((Q1l p1 Qz o0).1.kind == 0) with
 | true =>
  exact Q6 (fn := Ir.K6e) rfl (h := [⟨1, 0, false, (Decoder.cells o0)⟩]) (vw := []) VOK.nil [hB 9 h0] [aN (Q102 p1 Qz o0 (Qcg p1 o0 H).1)] (by kernel_rfl)
 | false =>
  cases h1 : ((s_Ka (Q1l p1 Qz o0).1).2 == 0) with
  | true =>
   exact Q6 (fn := Ir.K6e) rfl (h := [⟨1, 0, false, (Decoder.cells o0)⟩]) (vw := []) VOK.nil [hB 9 h0, hP 9 (dec (!((s_Ka (Q1l p1 Qz o0).1).2 == 0)) false (by rw [h1]; rfl))] [aN (Q102 p1 Qz o0 (Qcg p1 o0 H).1), aN (t_Ka (Q1l p1 Qz o0).1 (Qcg p1 o0 H).2.1)] (by kernel_rfl)
  | false =>
   exact Q6 (fn := Ir.K6e) rfl (h := [⟨1, 0, false, (Decoder.cells o0)⟩]) (vw := []) VOK.nil [hB 9 h0, hP 9 (dec (!((s_Ka (Q1l p1 Qz o0).1).2 == 0)) true (by rw [h1]; rfl))] [aN (Q102 p1 Qz o0 (Qcg p1 o0 H).1), aN (t_Ka (Q1l p1 Qz o0).1 (Qcg p1 o0 H).2.1)] (by kernel_rfl)
def Q1ji (p1 : Val) (o0 : Decoder) : Amount × Decoder := ((Amount.dec p1).1, bp o0 (Amount.cnt p1))
def Q1jm (p1 : Val) (o0 : Decoder) : WorkStatus × Decoder := ((WorkStatus.dec p1).1, bp o0 (WorkStatus.cnt p1))
def Q1jr (p1 : Deployment) (o0 : Decoder) : Deployment × Int :=
 bif (decide (0 < o0.wrong)) then
  ((Deployment.mk (Meta.mk eB eB eB 0 0 0 0 false 0 [] [] [] []) 0 0 0 0 [] (Template.mk [] (PodSpec.mk eB 0 0 0 [] [] [] [] [] [])) false false (Amount.mk false 0) (Amount.mk false 0) 0 (WorkStatus.mk 0 0 0 0 0 0 false)), 6)
 else
  (p1, 0)
def Q1jg (p0 : Val) (o1 : Decoder) : Metric × Decoder := ((Metric.dec p0).1, bp o1 (Metric.cnt p0))
def Q1jn (p1 : Val) (p2 : BA) (o0 : Decoder) : List Metric × Decoder := ((dE Metric.dec p1 p2).1, bp o0 (pE (Metric.cnt) p1 p2))
def Q1jh (p0 : Val) (o1 : Decoder) : Advice × Decoder := ((Advice.dec p0).1, bp o1 (Advice.cnt p0))
def Q1jq (p1 : Val) (p2 : BA) (o0 : Decoder) : List Advice × Decoder := ((dE Advice.dec p1 p2).1, bp o0 (pE (Advice.cnt) p1 p2))
def Q1jt (p1 : Autoscaler) (o0 : Decoder) : Autoscaler × Int :=
 bif (decide (0 < o0.wrong)) then
  ((Autoscaler.mk (Meta.mk eB eB eB 0 0 0 0 false 0 [] [] [] []) eB eB 0 0 [] 0 0 0 (Amount.mk false 0) (Amount.mk false 0) 0 [] 0), 6)
 else
  (p1, 0)
def Q1js (p1 : ReplicaSet) (o0 : Decoder) : ReplicaSet × Int :=
 bif (decide (0 < o0.wrong)) then
  ((ReplicaSet.mk (Meta.mk eB eB eB 0 0 0 0 false 0 [] [] [] []) 0 0 0 [] (Template.mk [] (PodSpec.mk eB 0 0 0 [] [] [] [] [] [])) (WorkStatus.mk 0 0 0 0 0 0 false)), 6)
 else
  (p1, 0)
def Q2v (p1 : Val) (o0 : Decoder) : Job × Decoder := ((JobS.dec p1).1, bp o0 (JobS.cnt p1))
theorem Q1zg (p1 : Val) (o0 : Decoder) : Q2v p1 o0 = (((Job.mk (Meta.mk eB eB eB 0 0 0 0 false 0 [] [] [] []) (Qc p1 Qn o0).1 (Qc p1 Qr (Qc p1 Qn o0).2).1 (Qc p1 Q1m (Qc p1 Qr (Qc p1 Qn o0).2).2).1 (Qc p1 Q1f (Qc p1 Q1m (Qc p1 Qr (Qc p1 Qn o0).2).2).2).1 (Q3s p1 Q1t (Qc p1 Q1f (Qc p1 Q1m (Qc p1 Qr (Qc p1 Qn o0).2).2).2).2).1 (Q3s p1 Qa (Q3s p1 Q1t (Qc p1 Q1f (Qc p1 Q1m (Qc p1 Qr (Qc p1 Qn o0).2).2).2).2).2).1 (Quw p1 (Q3s p1 Qa (Q3s p1 Q1t (Qc p1 Q1f (Qc p1 Q1m (Qc p1 Qr (Qc p1 Qn o0).2).2).2).2).2).2).1 0 0 0 0 0 [] 0), (Quw p1 (Q3s p1 Qa (Q3s p1 Q1t (Qc p1 Q1f (Qc p1 Q1m (Qc p1 Qr (Qc p1 Qn o0).2).2).2).2).2).2).2)) := by
  simp only [Qc, Q3s, Quw, Q2v, Qmz]
  refine Prod.ext rfl (congrArg (bp o0) ?_)
  show JobS.cnt p1 = _
  try unfold JobS.cnt
  try unfold cM
  first | rfl | omega
def Q1xt (p1 : Val) (o0 : Decoder) : En := .call 105 [.bx 0 0, .agg (Val.cells p1)] [⟨1, 0, false, (Decoder.cells o0)⟩]
def Q207 (_p1 : Val) (_o0 : Decoder) (q0 : Job) (q1 : Decoder) : Rs := .ret (.agg (Job.cells q0)) [⟨1, 0, false, (Decoder.cells q1)⟩]
def Q1po (p1 : Val) (o0 : Decoder) : Rs := Q207 p1 o0 (Q2v p1 o0).1 (Q2v p1 o0).2
def Q1dp (p1 : Val) : Prop := Val.Sm 1000000000 p1
theorem Q8l (p1 : Val) (_o0 : Decoder) (H : Q1dp p1) : (Q150 p1) ∧ (Q1dq p1) ∧ (Q1ik p1) ∧ True := by
  repeat' with_reducible apply And.intro
  all_goals first | exact True.intro | exact H | exact Q3t H _
theorem Q1rn (p1 : Val) (o0 : Decoder) (H : Q1dp p1) : Q5 G (Q1xt p1 o0) (Q1po p1 o0) := by
 unfold Q1po
 rw [Q1zg]
 exact Q6 (fn := Ir.K65) rfl (h := [⟨1, 0, false, (Decoder.cells o0)⟩]) (vw := []) VOK.nil [] [aN (Qct p1 Qn o0 (Q8l p1 o0 H).1), aN (Qct p1 Qr (Qc p1 Qn o0).2 (Q8l p1 o0 H).1), aN (Qct p1 Q1m (Qc p1 Qr (Qc p1 Qn o0).2).2 (Q8l p1 o0 H).1), aN (Qct p1 Q1f (Qc p1 Q1m (Qc p1 Qr (Qc p1 Qn o0).2).2).2 (Q8l p1 o0 H).1), aN (Q1jz p1 Q1t (Qc p1 Q1f (Qc p1 Q1m (Qc p1 Qr (Qc p1 Qn o0).2).2).2).2 (Q8l p1 o0 H).2.1), aN (Q1jz p1 Qa (Q3s p1 Q1t (Qc p1 Q1f (Qc p1 Q1m (Qc p1 Qr (Qc p1 Qn o0).2).2).2).2).2 (Q8l p1 o0 H).2.1), aN (Q221 p1 (Q3s p1 Qa (Q3s p1 Q1t (Qc p1 Q1f (Qc p1 Q1m (Qc p1 Qr (Qc p1 Qn o0).2).2).2).2).2).2 (Q8l p1 o0 H).2.2.1)] (by kernel_rfl)
def Q78 (p0 : Val) (o1 : Decoder) : Int × Decoder := ((xN p0).1, bp o1 (cK 2 p0))
theorem Q1zf (p0 : Val) (o1 : Decoder) : Q78 p0 o1 = (((Q33 p0 2 o1).1.n, (Q33 p0 2 o1).2)) := by
  exact Prod.ext (getN p0).symm rfl
def Q1xs (p0 : Val) (o1 : Decoder) : En := .call 198 [.agg (Val.cells p0), .bx 0 0] [⟨1, 0, false, [.bx 1 0]⟩, ⟨1, 0, false, (Decoder.cells o1)⟩]
def Q206 (_p0 : Val) (_o1 : Decoder) (q0 : Int) (q1 : Decoder) : Rs := .ret (.int .i64 q0) [⟨1, 0, false, [.bx 1 0]⟩, ⟨1, 0, false, (Decoder.cells q1)⟩]
def Q1pn (p0 : Val) (o1 : Decoder) : Rs := Q206 p0 o1 (Q78 p0 o1).1 (Q78 p0 o1).2
theorem Q21z (p0 : Val) (o1 : Decoder) : Q5 G (Q1xs p0 o1) (Q1pn p0 o1) := by
 unfold Q1pn
 rw [Q1zf]
 exact Q6 (fn := Ir.K64) rfl (h := [⟨1, 0, false, [.bx 1 0]⟩, ⟨1, 0, false, (Decoder.cells o1)⟩]) (vw := []) VOK.nil [] [aN (Qn4 p0 2 o1)] (by kernel_rfl)
def Q4z (p1 : Val) (p2 : BA) (o0 : Decoder) : List Val → Nat → Int → (List Int) → Int × (List Int)
 | [], _i0, v0_1, v0_2 =>
  (v0_1, v0_2)
 | x0 :: r0, i0, v0_1, v0_2 =>
  Q4z p1 p2 o0 r0 (i0 + 1) (Q78 x0 (Decoder.mk v0_1)).2.wrong (v0_2 ++ [(Q78 x0 (Decoder.mk v0_1)).1])
def Qw8 (p1 : Val) (p2 : BA) (o0 : Decoder) (i0 : Nat) (_v0_1 : Int) (v0_2 : List Int) : List PV :=
  [.un, .un, .un, .fn 198 [] [.bx 1 0]] ++ nuns 5 ++ [.ms 2 1 0 (List.length v0_2)] ++ nuns 8 ++ [.sl (Val.rows (Q33 (Q1l p1 p2 o0).1 4 (Q1l p1 p2 o0).2).1.list), .int .i64 ((List.length (Q33 (Q1l p1 p2 o0).1 4 (Q1l p1 p2 o0).2).1.list) : Int), .int .i64 (i0 : Int)] ++ nuns 11
def Qi9 (_p1 : Val) (_p2 : BA) (_o0 : Decoder) (_i0 : Nat) (v0_1 : Int) (v0_2 : List Int) : List Ob :=
  [⟨1, 0, false, [.int .i64 v0_1]⟩, ⟨1, 0, false, [.bx 0 0]⟩, ⟨1, 0, true, (Q2n v0_2).flatten⟩]
def Qfb (p1 : Val) (p2 : BA) (o0 : Decoder) (i0 : Nat) (v0_1 : Int) (v0_2 : List Int) : En := .loop 2 Ir.Qjr Ir.Q1h7 (Qw8 p1 p2 o0 i0 v0_1 v0_2) (Qi9 p1 p2 o0 i0 v0_1 v0_2)
def Qor (_p1 : Val) (_p2 : BA) (_o0 : Decoder) (q0 : Int) (q1 : List Int) (z : Nat → PV) (_zo : Nat → List PV) : St :=
  ⟨zr z 0 9 ++ [.ms 2 1 0 (List.length q1)] ++ zr z 10 22, [(0, ⟨1, 0, false, [.int .i64 q0]⟩), (1, ⟨1, 0, false, [.bx 0 0]⟩), (2, ⟨1, 0, true, (Q2n q1).flatten⟩)], 67⟩
theorem Q12s (p1 : Val) (p2 : BA) (o0 : Decoder) (i0 : Nat) (v0_1 : Int) (v0_2 : List Int) : VOK (Go.Pv.look (number 0 (Qi9 p1 p2 o0 i0 v0_1 v0_2))) [(2, Q2n v0_2)] := (VOK.cons (show Seen _ _ from Q3i (ob := ⟨1, 0, true, (Q2n v0_2).flatten⟩) (Qaw v0_2 1 rfl)) VOK.nil)
def Qgz (p1 : Val) (p2 : BA) (o0 : Decoder) (e : En) (q : Int × (List Int)) : Prop := ∃ z zo, Q5 G e (.st (.exit 0) (Qor p1 p2 o0 q.1 q.2 z zo))
theorem Qtc (p1 : Val) (p2 : BA) (o0 : Decoder) {e e' : En} (h : ∀ r, Q5 G e r → Q5 G e' r) : ∀ q, Qgz p1 p2 o0 e q → Qgz p1 p2 o0 e' q
  | _, ⟨z, zo, hz⟩ => ⟨z, zo, h _ hz⟩
def Qbs (p1 : Val) (p2 : BA) (o0 : Decoder) : Prop := (List.length (Q33 (Q1l p1 p2 o0).1 4 (Q1l p1 p2 o0).2).1.list ≤ 137438953472) ∧ True
def Qqg (p1 : Val) (p2 : BA) (o0 : Decoder) (i0 : Nat) (_v0_1 : Int) (_v0_2 : List Int) : List PV :=
  [.un, .un, .un, .fn 198 [] [.bx 1 0]] ++ nuns 14 ++ [.sl (Val.rows (Q33 (Q1l p1 p2 o0).1 4 (Q1l p1 p2 o0).2).1.list), .int .i64 ((List.length (Q33 (Q1l p1 p2 o0).1 4 (Q1l p1 p2 o0).2).1.list) : Int), .int .i64 (i0 : Int), .bool false]
def Qlg (_p1 : Val) (_p2 : BA) (_o0 : Decoder) (_i0 : Nat) (_v0_1 : Int) (_v0_2 : List Int) : List (Nat × List PV) :=
  []
theorem Q19p (p1 : Val) (p2 : BA) (o0 : Decoder) (_H : Qbs p1 p2 o0) (i0 : Nat) (v0_1 : Int) (v0_2 : List Int) (_ho0_0 : List.length v0_2 ≤ i0) (hc0 : (decide ((i0 : Int) < ((List.length (Q33 (Q1l p1 p2 o0).1 4 (Q1l p1 p2 o0).2).1.list) : Int))) = false) : Qgz p1 p2 o0 (Qfb p1 p2 o0 i0 v0_1 v0_2) (v0_1, v0_2) := by
 exact ⟨(envF (Qqg p1 p2 o0 i0 v0_1 v0_2)), (zoF (Qlg p1 p2 o0 i0 v0_1 v0_2)), Qj (Q12s p1 p2 o0 i0 v0_1 v0_2) (x := ((.exit 0), Qor p1 p2 o0 v0_1 v0_2 (envF (Qqg p1 p2 o0 i0 v0_1 v0_2)) (zoF (Qlg p1 p2 o0 i0 v0_1 v0_2)))) [hB 0 hc0] [] (by kernel_rfl)⟩
theorem Q17i (p1 : Val) (p2 : BA) (o0 : Decoder) (H : Qbs p1 p2 o0) (x0 : Val) (i0 : Nat) (v0_1 : Int) (v0_2 : List Int) (hx0 : (Q33 (Q1l p1 p2 o0).1 4 (Q1l p1 p2 o0).2).1.list[i0]? = some x0) (hi0 : i0 < List.length (Q33 (Q1l p1 p2 o0).1 4 (Q1l p1 p2 o0).2).1.list) (ho0_0 : List.length v0_2 ≤ i0) (hc0 : (decide ((i0 : Int) < ((List.length (Q33 (Q1l p1 p2 o0).1 4 (Q1l p1 p2 o0).2).1.list) : Int))) = true) {r : Rs} (hr : Q5 G (Qfb p1 p2 o0 (i0 + 1) (Q78 x0 (Decoder.mk v0_1)).2.wrong (v0_2 ++ [(Q78 x0 (Decoder.mk v0_1)).1])) r) : Q5 G (Qfb p1 p2 o0 i0 v0_1 v0_2) r := by
 have hB0 := H.1
 exact Qd (Q12s p1 p2 o0 i0 v0_1 v0_2) (y := (Qw8 p1 p2 o0 (i0 + 1) (Q78 x0 (Decoder.mk v0_1)).2.wrong (v0_2 ++ [(Q78 x0 (Decoder.mk v0_1)).1]), Qi9 p1 p2 o0 (i0 + 1) (Q78 x0 (Decoder.mk v0_1)).2.wrong (v0_2 ++ [(Q78 x0 (Decoder.mk v0_1)).1]))) [hB 0 hc0, hP 0 (Q2g 5 (Val.rows (Q33 (Q1l p1 p2 o0).1 4 (Q1l p1 p2 o0).2).1.list) i0 _ (Val.Qe hx0) rfl), hV 8 [(643, Q2n (v0_2 ++ [(Q78 x0 (Decoder.mk v0_1)).1]))] (Q3x 2 579 643 1 8 0 0 true (Q2n v0_2) (Q2n (v0_2 ++ [(Q78 x0 (Decoder.mk v0_1)).1])) [.int .i64 (Q78 x0 (Decoder.mk v0_1)).1] (List.length v0_2) (List.length (v0_2 ++ [(Q78 x0 (Decoder.mk v0_1)).1])) rfl (Q55 v0_2).symm (Q55 (v0_2 ++ [(Q78 x0 (Decoder.mk v0_1)).1])).symm (Q10o v0_2 (Q78 x0 (Decoder.mk v0_1)).1) (Qlw v0_2) rfl (by omega)), hS 0 true (Qaw (v0_2 ++ [(Q78 x0 (Decoder.mk v0_1)).1]) 1 rfl), hP 1 (Q28 i0 (by omega))] [aN (Q21z x0 (Decoder.mk v0_1))] (by kernel_rfl) hr
theorem Qzc (p1 : Val) (p2 : BA) (o0 : Decoder) (H : Qbs p1 p2 o0) : ∀ (r0 : List Val) (i0 : Nat) (v0_1 : Int) (v0_2 : List Int), List.drop i0 (Q33 (Q1l p1 p2 o0).1 4 (Q1l p1 p2 o0).2).1.list = r0 → List.length v0_2 ≤ i0 → Qgz p1 p2 o0 (Qfb p1 p2 o0 i0 v0_1 v0_2) (Q4z p1 p2 o0 r0 i0 v0_1 v0_2)
 | [], i0, v0_1, v0_2, hd, ho0_0 => by
  have hc0 : (decide ((i0 : Int) < ((List.length (Q33 (Q1l p1 p2 o0).1 4 (Q1l p1 p2 o0).2).1.list) : Int))) = false := by have := Q1o hd; simp; omega
  rw [Q4z]
  exact Q19p p1 p2 o0 H i0 v0_1 v0_2 ho0_0 hc0
 | x0 :: r0, i0, v0_1, v0_2, hd, ho0_0 => by
  obtain ⟨hx0, hi0, hd'⟩ := Q1i hd
  have hc0 : (decide ((i0 : Int) < ((List.length (Q33 (Q1l p1 p2 o0).1 4 (Q1l p1 p2 o0).2).1.list) : Int))) = true := by simp; omega
  rw [Q4z]
  exact Qtc p1 p2 o0 (fun r hr => Q17i p1 p2 o0 H x0 i0 v0_1 v0_2 hx0 hi0 ho0_0 hc0 hr) _ (Qzc p1 p2 o0 H r0 (i0 + 1) (Q78 x0 (Decoder.mk v0_1)).2.wrong (v0_2 ++ [(Q78 x0 (Decoder.mk v0_1)).1]) hd' (by first | omega | (simp; omega)))
def Qzu (p1 : Val) (p2 : BA) (o0 : Decoder) : List Int × Decoder := ((dE xN p1 p2).1, bp o0 (pE (cK 2) p1 p2))
theorem Q14r (p1 : Val) (p2 : BA) (o0 : Decoder) : ∀ (l : List Val) (i : Nat) (b : Int) (a : List Int), Q4z p1 p2 o0 l i b a = (bw b (sumC (cK 2) l), a ++ l.map (fun x => (xN x).1))
  | [], _, b, a => by rw [Q4z]; simp [sumC, bw]
  | x :: l, i, b, a => by
    rw [Q4z]
    refine (Q14r p1 p2 o0 l (i + 1) (bw b ((cK 2) x)) (a ++ [(xN x).1])).trans ?_
    rw [Q1is]
    simp only [List.append_assoc, List.singleton_append, List.map_cons, sumC]
theorem Q1zl (p1 : Val) (p2 : BA) (o0 : Decoder) : Qzu p1 p2 o0 = (((Q4z p1 p2 o0 (Q33 (Q1l p1 p2 o0).1 4 (Q1l p1 p2 o0).2).1.list 0 (Q33 (Q1l p1 p2 o0).1 4 (Q1l p1 p2 o0).2).2.wrong []).2, (Decoder.mk (Q4z p1 p2 o0 (Q33 (Q1l p1 p2 o0).1 4 (Q1l p1 p2 o0).2).1.list 0 (Q33 (Q1l p1 p2 o0).1 4 (Q1l p1 p2 o0).2).2.wrong []).1))) := by
  rw [Q14r]
  unfold Q1l Q33 Qzu
  simp only [Qmz, getL, Q1fz, Q1is]
  rfl
def Q1xy (p1 : Val) (p2 : BA) (o0 : Decoder) : En := .call 197 [.bx 0 0, .agg (Val.cells p1), .str p2, .fn 198 [] [.bx 1 0]] [⟨1, 0, false, (Decoder.cells o0)⟩, ⟨1, 0, false, [.bx 0 0]⟩]
def Q20c (_p1 : Val) (_p2 : BA) (_o0 : Decoder) (q0 : List Int) (q1 : Decoder) : Rs := .ret (.sl (Q2n q0)) [⟨1, 0, false, (Decoder.cells q1)⟩, ⟨1, 0, false, [.bx 0 0]⟩]
def Q1pt (p1 : Val) (p2 : BA) (o0 : Decoder) : Rs := Q20c p1 p2 o0 (Qzu p1 p2 o0).1 (Qzu p1 p2 o0).2
def Q1il (p1 : Val) : Prop := Val.Sm 1000000000 p1
theorem Q13i (p1 : Val) (p2 : BA) (o0 : Decoder) (H : Q1il p1) : (Qwp p1) ∧ (Qbs p1 p2 o0) ∧ True := by
  have hl := Qn5 (Q3t H p2)
  refine ⟨H, ?_, trivial⟩
  unfold Qbs Q1l Q33
  simp only [getL]
  exact ⟨Nat.le_trans hl.1 (Nat.le_of_ble_eq_true rfl), trivial⟩
theorem Q222 (p1 : Val) (p2 : BA) (o0 : Decoder) (H : Q1il p1) : Q5 G (Q1xy p1 p2 o0) (Q1pt p1 p2 o0) := by
 unfold Q1pt
 rw [Q1zl]
 have hl0 := Qzc p1 p2 o0 ((Q13i p1 p2 o0 H).2.1) (Q33 (Q1l p1 p2 o0).1 4 (Q1l p1 p2 o0).2).1.list 0 (Q33 (Q1l p1 p2 o0).1 4 (Q1l p1 p2 o0).2).2.wrong [] (by simp) (by simp)
 obtain ⟨z0, zo0, hl0⟩ := hl0
 exact Q6 (fn := Ir.K6p) rfl (h := [⟨1, 0, false, (Decoder.cells o0)⟩, ⟨1, 0, false, [.bx 0 0]⟩]) (vw := []) VOK.nil [hP 10 (Qw (Val.rows (Q33 (Q1l p1 p2 o0).1 4 (Q1l p1 p2 o0).2).1.list) (List.length (Q33 (Q1l p1 p2 o0).1 4 (Q1l p1 p2 o0).2).1.list) (Val.Q0 (Q33 (Q1l p1 p2 o0).1 4 (Q1l p1 p2 o0).2).1.list)), hS 0 true (Qaw (Q4z p1 p2 o0 (Q33 (Q1l p1 p2 o0).1 4 (Q1l p1 p2 o0).2).1.list 0 (Q33 (Q1l p1 p2 o0).1 4 (Q1l p1 p2 o0).2).2.wrong []).2 1 rfl), hQ (Q55 (Q4z p1 p2 o0 (Q33 (Q1l p1 p2 o0).1 4 (Q1l p1 p2 o0).2).1.list 0 (Q33 (Q1l p1 p2 o0).1 4 (Q1l p1 p2 o0).2).2.wrong []).2).symm] [aN (Q102 p1 p2 o0 (Q13i p1 p2 o0 H).1), aN (Qn4 (Q1l p1 p2 o0).1 4 (Q1l p1 p2 o0).2), aV [(2, Q2n (Q4z p1 p2 o0 (Q33 (Q1l p1 p2 o0).1 4 (Q1l p1 p2 o0).2).1.list 0 (Q33 (Q1l p1 p2 o0).1 4 (Q1l p1 p2 o0).2).2.wrong []).2)] hl0] (by kernel_rfl)
def Qbg (p1 : Val) (p2 : BA) (o0 : Decoder) : List Int × Decoder := ((dE xN p1 p2).1, bp o0 (pE (cK 2) p1 p2))
theorem Q1ze (p1 : Val) (p2 : BA) (o0 : Decoder) : Qbg p1 p2 o0 = (((Qzu p1 p2 o0).1, (Qzu p1 p2 o0).2)) := by
  rfl
def Q1xr (p1 : Val) (p2 : BA) (o0 : Decoder) : En := .call 106 [.bx 0 0, .agg (Val.cells p1), .str p2] [⟨1, 0, false, (Decoder.cells o0)⟩]
def Q205 (_p1 : Val) (_p2 : BA) (_o0 : Decoder) (q0 : List Int) (q1 : Decoder) : Rs := .ret (.sl (Q2n q0)) [⟨1, 0, false, (Decoder.cells q1)⟩]
def Q1pm (p1 : Val) (p2 : BA) (o0 : Decoder) : Rs := Q205 p1 p2 o0 (Qbg p1 p2 o0).1 (Qbg p1 p2 o0).2
def Q1ii (p1 : Val) : Prop := Val.Sm 1000000000 p1
theorem Q1eq (p1 : Val) (_p2 : BA) (_o0 : Decoder) (H : Q1ii p1) : (Q1il p1) ∧ True := by
  repeat' with_reducible apply And.intro
  all_goals first | exact True.intro | exact H
theorem Q21y (p1 : Val) (p2 : BA) (o0 : Decoder) (H : Q1ii p1) : Q5 G (Q1xr p1 p2 o0) (Q1pm p1 p2 o0) := by
 unfold Q1pm
 rw [Q1ze]
 exact Q6 (fn := Ir.K63) rfl (h := [⟨1, 0, false, (Decoder.cells o0)⟩]) (vw := []) VOK.nil [] [aN (Q222 p1 p2 o0 (Q1eq p1 p2 o0 H).1)] (by kernel_rfl)
def Qzv (p1 : Job) (o0 : Decoder) : Job × Int :=
 bif (decide (0 < o0.wrong)) then
  ((Job.mk (Meta.mk eB eB eB 0 0 0 0 false 0 [] [] [] []) 0 0 0 0 false false (Template.mk [] (PodSpec.mk eB 0 0 0 [] [] [] [] [] [])) 0 0 0 0 0 [] 0), 6)
 else
  (p1, 0)
def Q1y4 (p1 : Job) (o0 : Decoder) : En := .call 107 [.bx 0 0, .agg (Job.cells p1)] [⟨1, 0, false, (Decoder.cells o0)⟩]
def Q20e (_p1 : Job) (o0 : Decoder) (q0 : Job) (q1 : Int) : Rs := .ret (.tup [.agg (Job.cells q0), .int .i64 q1]) [⟨1, 0, false, (Decoder.cells o0)⟩]
def Q1pz (p1 : Job) (o0 : Decoder) : Rs := Q20e p1 o0 (Qzv p1 o0).1 (Qzv p1 o0).2
theorem Q223 (p1 : Job) (o0 : Decoder) : Q5 G (Q1y4 p1 o0) (Q1pz p1 o0) := by
 unfold Q1pz Qzv
 cases h0 : (decide (0 < o0.wrong)) with
 | true =>
  exact Q6 (fn := Ir.K7b) rfl (h := [⟨1, 0, false, (Decoder.cells o0)⟩]) (vw := []) VOK.nil [hB 7 h0] [] (by kernel_rfl)
 | false =>
  exact Q6 (fn := Ir.K7b) rfl (h := [⟨1, 0, false, (Decoder.cells o0)⟩]) (vw := []) VOK.nil [hB 7 h0] [] (by kernel_rfl)
end Go.Proofs.YtimjjohlpnkacaaGreat
end

section
/- What the program's decoders compute (printed by a program). -/
namespace Go.Proofs.YtimjjohlpnkacaaGreat
open Go.Pv
def Q1cx (p0 : Object) : Job × Int := resC (Job.cnt p0) (Job.of p0) Job.z
theorem Q1ja (n : Nat) (x : Job) : Qzv x (bp ⟨0⟩ n) = resC n x Job.z := rfl
theorem Q1za (p0 : Object) : Q1cx p0 = (((Qzv (Job.mk p0.meta_ (Q2v p0.spec (Q1z p0 Q1x)).1.completions (Q2v p0.spec (Q1z p0 Q1x)).1.parallelism (Q2v p0.spec (Q1z p0 Q1x)).1.retries (Q2v p0.spec (Q1z p0 Q1x)).1.deadline (Q2v p0.spec (Q1z p0 Q1x)).1.indexed (Q2v p0.spec (Q1z p0 Q1x)).1.suspended (Q2v p0.spec (Q1z p0 Q1x)).1.template (Qc p0.status Q16 (Q2v p0.spec (Q1z p0 Q1x)).2).1 (Qc p0.status Qp (Qc p0.status Q16 (Q2v p0.spec (Q1z p0 Q1x)).2).2).1 (Qc p0.status Q1c (Qc p0.status Qp (Qc p0.status Q16 (Q2v p0.spec (Q1z p0 Q1x)).2).2).2).1 (Qc p0.status Q1d (Qc p0.status Q1c (Qc p0.status Qp (Qc p0.status Q16 (Q2v p0.spec (Q1z p0 Q1x)).2).2).2).2).1 (Qc p0.status Q1b (Qc p0.status Q1d (Qc p0.status Q1c (Qc p0.status Qp (Qc p0.status Q16 (Q2v p0.spec (Q1z p0 Q1x)).2).2).2).2).2).1 (Qbg p0.status Q31 (Qc p0.status Q1b (Qc p0.status Q1d (Qc p0.status Q1c (Qc p0.status Qp (Qc p0.status Q16 (Q2v p0.spec (Q1z p0 Q1x)).2).2).2).2).2).2).1 (Qc p0.status Q2i (Qbg p0.status Q31 (Qc p0.status Q1b (Qc p0.status Q1d (Qc p0.status Q1c (Qc p0.status Qp (Qc p0.status Q16 (Q2v p0.spec (Q1z p0 Q1x)).2).2).2).2).2).2).2).1) (Qc p0.status Q2i (Qbg p0.status Q31 (Qc p0.status Q1b (Qc p0.status Q1d (Qc p0.status Q1c (Qc p0.status Qp (Qc p0.status Q16 (Q2v p0.spec (Q1z p0 Q1x)).2).2).2).2).2).2).2).2).1, (Qzv (Job.mk p0.meta_ (Q2v p0.spec (Q1z p0 Q1x)).1.completions (Q2v p0.spec (Q1z p0 Q1x)).1.parallelism (Q2v p0.spec (Q1z p0 Q1x)).1.retries (Q2v p0.spec (Q1z p0 Q1x)).1.deadline (Q2v p0.spec (Q1z p0 Q1x)).1.indexed (Q2v p0.spec (Q1z p0 Q1x)).1.suspended (Q2v p0.spec (Q1z p0 Q1x)).1.template (Qc p0.status Q16 (Q2v p0.spec (Q1z p0 Q1x)).2).1 (Qc p0.status Qp (Qc p0.status Q16 (Q2v p0.spec (Q1z p0 Q1x)).2).2).1 (Qc p0.status Q1c (Qc p0.status Qp (Qc p0.status Q16 (Q2v p0.spec (Q1z p0 Q1x)).2).2).2).1 (Qc p0.status Q1d (Qc p0.status Q1c (Qc p0.status Qp (Qc p0.status Q16 (Q2v p0.spec (Q1z p0 Q1x)).2).2).2).2).1 (Qc p0.status Q1b (Qc p0.status Q1d (Qc p0.status Q1c (Qc p0.status Qp (Qc p0.status Q16 (Q2v p0.spec (Q1z p0 Q1x)).2).2).2).2).2).1 (Qbg p0.status Q31 (Qc p0.status Q1b (Qc p0.status Q1d (Qc p0.status Q1c (Qc p0.status Qp (Qc p0.status Q16 (Q2v p0.spec (Q1z p0 Q1x)).2).2).2).2).2).2).1 (Qc p0.status Q2i (Qbg p0.status Q31 (Qc p0.status Q1b (Qc p0.status Q1d (Qc p0.status Q1c (Qc p0.status Qp (Qc p0.status Q16 (Q2v p0.spec (Q1z p0 Q1x)).2).2).2).2).2).2).2).1) (Qc p0.status Q2i (Qbg p0.status Q31 (Qc p0.status Q1b (Qc p0.status Q1d (Qc p0.status Q1c (Qc p0.status Qp (Qc p0.status Q16 (Q2v p0.spec (Q1z p0 Q1x)).2).2).2).2).2).2).2).2).2)) := by
  simp only [Qc, Q2v, Qbg, Qzv, Q1z, Qmz]
  refine Eq.trans ?_ (Q1ja _ _).symm
  refine Q1ci ?_ rfl
  unfold Job.cnt JobS.cnt
  omega
def Q1xn (p0 : Object) : En := .call 23 [.agg (Object.cells p0)] []
def Q1pi (p0 : Object) : Rs := .ret (.tup [.agg (Job.cells (Q1cx p0).1), .int .i64 (Q1cx p0).2]) []
def Q1do (p0 : Object) : Prop := Qs2 p0.meta_ ∧ Object.sm p0
theorem Q6n (p0 : Object) (H : Q1do p0) : (Q1dp p0.spec) ∧ (Qs2 p0.meta_) ∧ (Q150 p0.status) ∧ (Q1ii p0.status) ∧ True := by
  repeat' with_reducible apply And.intro
  all_goals first | exact True.intro | exact H.1 | exact H.2 | exact H.2.1 | exact H.2.2 | exact Q3t H.2.1 _ | exact Q3t H.2.2 _
theorem Q21x (p0 : Object) (H : Q1do p0) : Q5 G (Q1xn p0) (Q1pi p0) := by
 unfold Q1pi
 rw [Q1za]
 exact Q6 (fn := Ir.K5r) rfl VOK.nil [] [aN (Q1rq p0 Q1x), aN (Q1rn p0.spec (Q1z p0 Q1x) (Q6n p0 H).1), aN (Q1jy p0.meta_ (Q6n p0 H).2.1), aN (Qct p0.status Q16 (Q2v p0.spec (Q1z p0 Q1x)).2 (Q6n p0 H).2.2.1), aN (Qct p0.status Qp (Qc p0.status Q16 (Q2v p0.spec (Q1z p0 Q1x)).2).2 (Q6n p0 H).2.2.1), aN (Qct p0.status Q1c (Qc p0.status Qp (Qc p0.status Q16 (Q2v p0.spec (Q1z p0 Q1x)).2).2).2 (Q6n p0 H).2.2.1), aN (Qct p0.status Q1d (Qc p0.status Q1c (Qc p0.status Qp (Qc p0.status Q16 (Q2v p0.spec (Q1z p0 Q1x)).2).2).2).2 (Q6n p0 H).2.2.1), aN (Qct p0.status Q1b (Qc p0.status Q1d (Qc p0.status Q1c (Qc p0.status Qp (Qc p0.status Q16 (Q2v p0.spec (Q1z p0 Q1x)).2).2).2).2).2 (Q6n p0 H).2.2.1), aN (Q21y p0.status Q31 (Qc p0.status Q1b (Qc p0.status Q1d (Qc p0.status Q1c (Qc p0.status Qp (Qc p0.status Q16 (Q2v p0.spec (Q1z p0 Q1x)).2).2).2).2).2).2 (Q6n p0 H).2.2.2.1), aN (Qct p0.status Q2i (Qbg p0.status Q31 (Qc p0.status Q1b (Qc p0.status Q1d (Qc p0.status Q1c (Qc p0.status Qp (Qc p0.status Q16 (Q2v p0.spec (Q1z p0 Q1x)).2).2).2).2).2).2).2 (Q6n p0 H).2.2.1), aN (Q223 (Job.mk p0.meta_ (Q2v p0.spec (Q1z p0 Q1x)).1.completions (Q2v p0.spec (Q1z p0 Q1x)).1.parallelism (Q2v p0.spec (Q1z p0 Q1x)).1.retries (Q2v p0.spec (Q1z p0 Q1x)).1.deadline (Q2v p0.spec (Q1z p0 Q1x)).1.indexed (Q2v p0.spec (Q1z p0 Q1x)).1.suspended (Q2v p0.spec (Q1z p0 Q1x)).1.template (Qc p0.status Q16 (Q2v p0.spec (Q1z p0 Q1x)).2).1 (Qc p0.status Qp (Qc p0.status Q16 (Q2v p0.spec (Q1z p0 Q1x)).2).2).1 (Qc p0.status Q1c (Qc p0.status Qp (Qc p0.status Q16 (Q2v p0.spec (Q1z p0 Q1x)).2).2).2).1 (Qc p0.status Q1d (Qc p0.status Q1c (Qc p0.status Qp (Qc p0.status Q16 (Q2v p0.spec (Q1z p0 Q1x)).2).2).2).2).1 (Qc p0.status Q1b (Qc p0.status Q1d (Qc p0.status Q1c (Qc p0.status Qp (Qc p0.status Q16 (Q2v p0.spec (Q1z p0 Q1x)).2).2).2).2).2).1 (Qbg p0.status Q31 (Qc p0.status Q1b (Qc p0.status Q1d (Qc p0.status Q1c (Qc p0.status Qp (Qc p0.status Q16 (Q2v p0.spec (Q1z p0 Q1x)).2).2).2).2).2).2).1 (Qc p0.status Q2i (Qbg p0.status Q31 (Qc p0.status Q1b (Qc p0.status Q1d (Qc p0.status Q1c (Qc p0.status Qp (Qc p0.status Q16 (Q2v p0.spec (Q1z p0 Q1x)).2).2).2).2).2).2).2).1) (Qc p0.status Q2i (Qbg p0.status Q31 (Qc p0.status Q1b (Qc p0.status Q1d (Qc p0.status Q1c (Qc p0.status Qp (Qc p0.status Q16 (Q2v p0.spec (Q1z p0 Q1x)).2).2).2).2).2).2).2).2)] (by kernel_rfl)
def Q20g (p0 : Val) (o1 : Decoder) : WorkItem × Decoder := ((WorkItem.dec p0).1, bp o1 (WorkItem.cnt p0))
def Q20o (p1 : Val) (p2 : BA) (o0 : Decoder) : List WorkItem × Decoder := ((dE WorkItem.dec p1 p2).1, bp o0 (pE (WorkItem.cnt) p1 p2))
def Q20h (p0 : Val) (o1 : Decoder) : Amount × Decoder := ((Amount.dec p0).1, bp o1 (Amount.cnt p0))
def Q20p (p1 : Val) (p2 : BA) (o0 : Decoder) : List Amount × Decoder := ((dE Amount.dec p1 p2).1, bp o0 (pE (Amount.cnt) p1 p2))
def Q20u (p1 : Budget) (o0 : Decoder) : Budget × Int :=
 bif (decide (0 < o0.wrong)) then
  ((Budget.mk (Meta.mk eB eB eB 0 0 0 0 false 0 [] [] [] []) [] [] [] 0 0 0 0 0 []), 6)
 else
  (p1, 0)
def Q20v (p1 : StatefulSet) (o0 : Decoder) : StatefulSet × Int :=
 bif (decide (0 < o0.wrong)) then
  ((StatefulSet.mk (Meta.mk eB eB eB 0 0 0 0 false 0 [] [] [] []) 0 0 0 false [] (Template.mk [] (PodSpec.mk eB 0 0 0 [] [] [] [] [] [])) (WorkStatus.mk 0 0 0 0 0 0 false)), 6)
 else
  (p1, 0)
def Q20w (p1 : DaemonSet) (o0 : Decoder) : DaemonSet × Int :=
 bif (decide (0 < o0.wrong)) then
  ((DaemonSet.mk (Meta.mk eB eB eB 0 0 0 0 false 0 [] [] [] []) 0 (Amount.mk false 0) [] (Template.mk [] (PodSpec.mk eB 0 0 0 [] [] [] [] [] [])) (WorkStatus.mk 0 0 0 0 0 0 false)), 6)
 else
  (p1, 0)
def Q20m (p0 : Val) (o1 : Decoder) : ServicePort × Decoder := ((ServicePort.dec p0).1, bp o1 (ServicePort.cnt p0))
def Q20t (p1 : Val) (p2 : BA) (o0 : Decoder) : List ServicePort × Decoder := ((dE ServicePort.dec p1 p2).1, bp o0 (pE (ServicePort.cnt) p1 p2))
def Q20l (p1 : Val) (o0 : Decoder) : List ServicePort × Decoder := ((dE ServicePort.dec p1 Qci).1, bp o0 (pE ServicePort.cnt p1 Qci))
def Q20x (p1 : Service) (o0 : Decoder) : Service × Int :=
 bif (decide (0 < o0.wrong)) then
  ((Service.mk (Meta.mk eB eB eB 0 0 0 0 false 0 [] [] [] []) [] [] false 0), 6)
 else
  (p1, 0)
def Q20i (p0 : Val) (o1 : Decoder) : Endpoint × Decoder := ((Endpoint.dec p0).1, bp o1 (Endpoint.cnt p0))
def Q20q (p1 : Val) (p2 : BA) (o0 : Decoder) : List Endpoint × Decoder := ((dE Endpoint.dec p1 p2).1, bp o0 (pE (Endpoint.cnt) p1 p2))
def Q20y (p1 : EndpointSet) (o0 : Decoder) : EndpointSet × Int :=
 bif (decide (0 < o0.wrong)) then
  ((EndpointSet.mk (Meta.mk eB eB eB 0 0 0 0 false 0 [] [] [] []) [] []), 6)
 else
  (p1, 0)
def Q20k (p0 : Val) (o1 : Decoder) : Peer × Decoder := ((Peer.dec p0).1, bp o1 (Peer.cnt p0))
def Q20s (p1 : Val) (p2 : BA) (o0 : Decoder) : List Peer × Decoder := ((dE Peer.dec p1 p2).1, bp o0 (pE (Peer.cnt) p1 p2))
def Q20j (p0 : Val) (o1 : Decoder) : PolicyRule × Decoder := ((PolicyRule.dec p0).1, bp o1 (PolicyRule.cnt p0))
def Q20r (p1 : Val) (p2 : BA) (o0 : Decoder) : List PolicyRule × Decoder := ((dE PolicyRule.dec p1 p2).1, bp o0 (pE (PolicyRule.cnt) p1 p2))
def Q20z (p1 : NetworkPolicy) (o0 : Decoder) : NetworkPolicy × Int :=
 bif (decide (0 < o0.wrong)) then
  ((NetworkPolicy.mk (Meta.mk eB eB eB 0 0 0 0 false 0 [] [] [] []) [] false false []), 6)
 else
  (p1, 0)
def Q20n (p1 : Val) (o0 : Decoder) : Resources × Decoder := ((Resources.dec p1).1, bp o0 (Resources.cnt p1))
def Q210 (p1 : Quota) (o0 : Decoder) : Quota × Int :=
 bif (decide (0 < o0.wrong)) then
  ((Quota.mk (Meta.mk eB eB eB 0 0 0 0 false 0 [] [] [] []) (Resources.mk 0 0 0) (Resources.mk 0 0 0) 0 0), 6)
 else
  (p1, 0)
def Q11b (p1 : CronJob) (o0 : Decoder) : CronJob × Int :=
 bif (decide (0 < o0.wrong)) then
  ((CronJob.mk (Meta.mk eB eB eB 0 0 0 0 false 0 [] [] [] []) eB 0 0 0 false (Job.mk (Meta.mk eB eB eB 0 0 0 0 false 0 [] [] [] []) 0 0 0 0 false false (Template.mk [] (PodSpec.mk eB 0 0 0 [] [] [] [] [] [])) 0 0 0 0 0 [] 0) 0), 6)
 else
  (p1, 0)
def Q1y5 (p1 : CronJob) (o0 : Decoder) : En := .call 160 [.bx 0 0, .agg (CronJob.cells p1)] [⟨1, 0, false, (Decoder.cells o0)⟩]
def Q20f (_p1 : CronJob) (o0 : Decoder) (q0 : CronJob) (q1 : Int) : Rs := .ret (.tup [.agg (CronJob.cells q0), .int .i64 q1]) [⟨1, 0, false, (Decoder.cells o0)⟩]
def Q1q0 (p1 : CronJob) (o0 : Decoder) : Rs := Q20f p1 o0 (Q11b p1 o0).1 (Q11b p1 o0).2
theorem Q224 (p1 : CronJob) (o0 : Decoder) : Q5 G (Q1y5 p1 o0) (Q1q0 p1 o0) := by
 unfold Q1q0 Q11b
 cases h0 : (decide (0 < o0.wrong)) with
 | true =>
  exact Q6 (fn := Ir.K7j) rfl (h := [⟨1, 0, false, (Decoder.cells o0)⟩]) (vw := []) VOK.nil [hB 7 h0] [] (by kernel_rfl)
 | false =>
  exact Q6 (fn := Ir.K7j) rfl (h := [⟨1, 0, false, (Decoder.cells o0)⟩]) (vw := []) VOK.nil [hB 7 h0] [] (by kernel_rfl)
def Q1cw (p0 : Object) : CronJob × Int := resC (CronJob.cnt p0) (CronJob.of p0) CronJob.z
theorem Q114 (n : Nat) (x : CronJob) : Q11b x (bp ⟨0⟩ n) = resC n x CronJob.z := rfl
theorem Q1z9 (p0 : Object) : Q1cw p0 = (((Q11b (CronJob.mk p0.meta_ (Q3f p0.spec Qf (Q1z p0 Qq)).1 (Qc p0.spec Qy (Q3f p0.spec Qf (Q1z p0 Qq)).2).1 (Qc p0.spec Qb (Qc p0.spec Qy (Q3f p0.spec Qf (Q1z p0 Qq)).2).2).1 (Qc p0.spec Qs (Qc p0.spec Qb (Qc p0.spec Qy (Q3f p0.spec Qf (Q1z p0 Qq)).2).2).2).1 (Q3s p0.spec Qa (Qc p0.spec Qs (Qc p0.spec Qb (Qc p0.spec Qy (Q3f p0.spec Qf (Q1z p0 Qq)).2).2).2).2).1 (Q2v (Q1l p0.spec Q2x (Q3s p0.spec Qa (Qc p0.spec Qs (Qc p0.spec Qb (Qc p0.spec Qy (Q3f p0.spec Qf (Q1z p0 Qq)).2).2).2).2).2).1 (Q1l p0.spec Q2x (Q3s p0.spec Qa (Qc p0.spec Qs (Qc p0.spec Qb (Qc p0.spec Qy (Q3f p0.spec Qf (Q1z p0 Qq)).2).2).2).2).2).2).1 (Qc p0.status Q35 (Q2v (Q1l p0.spec Q2x (Q3s p0.spec Qa (Qc p0.spec Qs (Qc p0.spec Qb (Qc p0.spec Qy (Q3f p0.spec Qf (Q1z p0 Qq)).2).2).2).2).2).1 (Q1l p0.spec Q2x (Q3s p0.spec Qa (Qc p0.spec Qs (Qc p0.spec Qb (Qc p0.spec Qy (Q3f p0.spec Qf (Q1z p0 Qq)).2).2).2).2).2).2).2).1) (Qc p0.status Q35 (Q2v (Q1l p0.spec Q2x (Q3s p0.spec Qa (Qc p0.spec Qs (Qc p0.spec Qb (Qc p0.spec Qy (Q3f p0.spec Qf (Q1z p0 Qq)).2).2).2).2).2).1 (Q1l p0.spec Q2x (Q3s p0.spec Qa (Qc p0.spec Qs (Qc p0.spec Qb (Qc p0.spec Qy (Q3f p0.spec Qf (Q1z p0 Qq)).2).2).2).2).2).2).2).2).1, (Q11b (CronJob.mk p0.meta_ (Q3f p0.spec Qf (Q1z p0 Qq)).1 (Qc p0.spec Qy (Q3f p0.spec Qf (Q1z p0 Qq)).2).1 (Qc p0.spec Qb (Qc p0.spec Qy (Q3f p0.spec Qf (Q1z p0 Qq)).2).2).1 (Qc p0.spec Qs (Qc p0.spec Qb (Qc p0.spec Qy (Q3f p0.spec Qf (Q1z p0 Qq)).2).2).2).1 (Q3s p0.spec Qa (Qc p0.spec Qs (Qc p0.spec Qb (Qc p0.spec Qy (Q3f p0.spec Qf (Q1z p0 Qq)).2).2).2).2).1 (Q2v (Q1l p0.spec Q2x (Q3s p0.spec Qa (Qc p0.spec Qs (Qc p0.spec Qb (Qc p0.spec Qy (Q3f p0.spec Qf (Q1z p0 Qq)).2).2).2).2).2).1 (Q1l p0.spec Q2x (Q3s p0.spec Qa (Qc p0.spec Qs (Qc p0.spec Qb (Qc p0.spec Qy (Q3f p0.spec Qf (Q1z p0 Qq)).2).2).2).2).2).2).1 (Qc p0.status Q35 (Q2v (Q1l p0.spec Q2x (Q3s p0.spec Qa (Qc p0.spec Qs (Qc p0.spec Qb (Qc p0.spec Qy (Q3f p0.spec Qf (Q1z p0 Qq)).2).2).2).2).2).1 (Q1l p0.spec Q2x (Q3s p0.spec Qa (Qc p0.spec Qs (Qc p0.spec Qb (Qc p0.spec Qy (Q3f p0.spec Qf (Q1z p0 Qq)).2).2).2).2).2).2).2).1) (Qc p0.status Q35 (Q2v (Q1l p0.spec Q2x (Q3s p0.spec Qa (Qc p0.spec Qs (Qc p0.spec Qb (Qc p0.spec Qy (Q3f p0.spec Qf (Q1z p0 Qq)).2).2).2).2).2).1 (Q1l p0.spec Q2x (Q3s p0.spec Qa (Qc p0.spec Qs (Qc p0.spec Qb (Qc p0.spec Qy (Q3f p0.spec Qf (Q1z p0 Qq)).2).2).2).2).2).2).2).2).2)) := by
  simp only [Q1l, Qc, Q3f, Q3s, Q2v, Q11b, Q1z, Qmz]
  refine Eq.trans ?_ (Q114 _ _).symm
  refine Q1ci ?_ rfl
  unfold CronJob.cnt JobS.fC
  omega
def Q1xm (p0 : Object) : En := .call 49 [.agg (Object.cells p0)] []
def Q1ph (p0 : Object) : Rs := .ret (.tup [.agg (CronJob.cells (Q1cw p0).1), .int .i64 (Q1cw p0).2]) []
def Q1dn (p0 : Object) : Prop := Qs2 p0.meta_ ∧ Object.sm p0
theorem Q6m (p0 : Object) (H : Q1dn p0) : (Qs2 p0.meta_) ∧ (Q1ij p0.spec) ∧ (Q150 p0.spec) ∧ (Q1dq p0.spec) ∧ (Qwp p0.spec) ∧ (Q1dp (Q1l p0.spec Q2x (Q3s p0.spec Qa (Qc p0.spec Qs (Qc p0.spec Qb (Qc p0.spec Qy (Q3f p0.spec Qf (Q1z p0 Qq)).2).2).2).2).2).1) ∧ (Q150 p0.status) ∧ True := by
  repeat' with_reducible apply And.intro
  all_goals first | exact True.intro | exact H.1 | exact H.2 | exact H.2.1 | exact H.2.2 | exact Q3t H.2.1 _ | exact Q3t H.2.2 _
theorem Q21w (p0 : Object) (H : Q1dn p0) : Q5 G (Q1xm p0) (Q1ph p0) := by
 unfold Q1ph
 rw [Q1z9]
 exact Q6 (fn := Ir.K5m) rfl VOK.nil [] [aN (Q1rq p0 Qq), aN (Q1jy p0.meta_ (Q6m p0 H).1), aN (Q220 p0.spec Qf (Q1z p0 Qq) (Q6m p0 H).2.1), aN (Qct p0.spec Qy (Q3f p0.spec Qf (Q1z p0 Qq)).2 (Q6m p0 H).2.2.1), aN (Qct p0.spec Qb (Qc p0.spec Qy (Q3f p0.spec Qf (Q1z p0 Qq)).2).2 (Q6m p0 H).2.2.1), aN (Qct p0.spec Qs (Qc p0.spec Qb (Qc p0.spec Qy (Q3f p0.spec Qf (Q1z p0 Qq)).2).2).2 (Q6m p0 H).2.2.1), aN (Q1jz p0.spec Qa (Qc p0.spec Qs (Qc p0.spec Qb (Qc p0.spec Qy (Q3f p0.spec Qf (Q1z p0 Qq)).2).2).2).2 (Q6m p0 H).2.2.2.1), aN (Q102 p0.spec Q2x (Q3s p0.spec Qa (Qc p0.spec Qs (Qc p0.spec Qb (Qc p0.spec Qy (Q3f p0.spec Qf (Q1z p0 Qq)).2).2).2).2).2 (Q6m p0 H).2.2.2.2.1), aN (Q1rn (Q1l p0.spec Q2x (Q3s p0.spec Qa (Qc p0.spec Qs (Qc p0.spec Qb (Qc p0.spec Qy (Q3f p0.spec Qf (Q1z p0 Qq)).2).2).2).2).2).1 (Q1l p0.spec Q2x (Q3s p0.spec Qa (Qc p0.spec Qs (Qc p0.spec Qb (Qc p0.spec Qy (Q3f p0.spec Qf (Q1z p0 Qq)).2).2).2).2).2).2 (Q6m p0 H).2.2.2.2.2.1), aN (Qct p0.status Q35 (Q2v (Q1l p0.spec Q2x (Q3s p0.spec Qa (Qc p0.spec Qs (Qc p0.spec Qb (Qc p0.spec Qy (Q3f p0.spec Qf (Q1z p0 Qq)).2).2).2).2).2).1 (Q1l p0.spec Q2x (Q3s p0.spec Qa (Qc p0.spec Qs (Qc p0.spec Qb (Qc p0.spec Qy (Q3f p0.spec Qf (Q1z p0 Qq)).2).2).2).2).2).2).2 (Q6m p0 H).2.2.2.2.2.2.1), aN (Q224 (CronJob.mk p0.meta_ (Q3f p0.spec Qf (Q1z p0 Qq)).1 (Qc p0.spec Qy (Q3f p0.spec Qf (Q1z p0 Qq)).2).1 (Qc p0.spec Qb (Qc p0.spec Qy (Q3f p0.spec Qf (Q1z p0 Qq)).2).2).1 (Qc p0.spec Qs (Qc p0.spec Qb (Qc p0.spec Qy (Q3f p0.spec Qf (Q1z p0 Qq)).2).2).2).1 (Q3s p0.spec Qa (Qc p0.spec Qs (Qc p0.spec Qb (Qc p0.spec Qy (Q3f p0.spec Qf (Q1z p0 Qq)).2).2).2).2).1 (Q2v (Q1l p0.spec Q2x (Q3s p0.spec Qa (Qc p0.spec Qs (Qc p0.spec Qb (Qc p0.spec Qy (Q3f p0.spec Qf (Q1z p0 Qq)).2).2).2).2).2).1 (Q1l p0.spec Q2x (Q3s p0.spec Qa (Qc p0.spec Qs (Qc p0.spec Qb (Qc p0.spec Qy (Q3f p0.spec Qf (Q1z p0 Qq)).2).2).2).2).2).2).1 (Qc p0.status Q35 (Q2v (Q1l p0.spec Q2x (Q3s p0.spec Qa (Qc p0.spec Qs (Qc p0.spec Qb (Qc p0.spec Qy (Q3f p0.spec Qf (Q1z p0 Qq)).2).2).2).2).2).1 (Q1l p0.spec Q2x (Q3s p0.spec Qa (Qc p0.spec Qs (Qc p0.spec Qb (Qc p0.spec Qy (Q3f p0.spec Qf (Q1z p0 Qq)).2).2).2).2).2).2).2).1) (Qc p0.status Q35 (Q2v (Q1l p0.spec Q2x (Q3s p0.spec Qa (Qc p0.spec Qs (Qc p0.spec Qb (Qc p0.spec Qy (Q3f p0.spec Qf (Q1z p0 Qq)).2).2).2).2).2).1 (Q1l p0.spec Q2x (Q3s p0.spec Qa (Qc p0.spec Qs (Qc p0.spec Qb (Qc p0.spec Qy (Q3f p0.spec Qf (Q1z p0 Qq)).2).2).2).2).2).2).2).2)] (by kernel_rfl)
end Go.Proofs.YtimjjohlpnkacaaGreat
end

