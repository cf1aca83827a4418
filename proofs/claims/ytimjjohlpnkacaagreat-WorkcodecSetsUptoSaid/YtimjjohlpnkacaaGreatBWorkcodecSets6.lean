/- Texts of the claim, merged by a program; what the statement does not reach is left out. -/
import Derived.Test.YtimjjohlpnkacaaGreatBWorkcodecSets5

section
/- What the decoders of templates compute (printed by a program). -/
namespace Go.Proofs.YtimjjohlpnkacaaGreat
open Go.Pv
structure PDecoder where
  failed : Bool
def PDecoder.cells (x : PDecoder) : List PV :=
  [.bool x.failed]
def PDecoder.rows (l : List PDecoder) : List (List PV) := l.map PDecoder.cells
def ft (o : PDecoder) (b : Bool) : PDecoder := ⟨o.failed || !b⟩
theorem Qlv (o : PDecoder) (a b : Bool) : ft (ft o a) b = ft o (a && b) := by
  unfold ft
  simp only [Bool.not_and, Bool.or_assoc]
theorem Q4m (o : PDecoder) (b : Bool) : (ft o b).failed = (o.failed || !b) := rfl
theorem Q5g (o : PDecoder) (b : Bool) : PDecoder.mk (o.failed || !b) = ft o b := rfl
theorem Q91 (p1 : Val) (p2 : BA) : (bif (prt p1 p2).kind == 4 then prt p1 p2 else vZ).list = (dL p1 p2).1 := by
  unfold dL xL
  cases ((prt p1 p2).kind == 4) <;> rfl
theorem Q8p (f m x y q : Bool) (h : x = y) : ((f || !(m && x)) || !q) = (f || !(m && (y && q))) := by subst h; cases f <;> cases m <;> cases x <;> cases q <;> rfl
theorem Quw (x : Val) : ((x.kind == 4) || (x.kind == 0)) = (xL x).2 := by unfold xL; cases (x.kind == 4) <;> rfl
def s_Ko (p1 : Val) (o0 : PDecoder) : Val × PDecoder := (p1, ft o0 (isM p1))
theorem e_Ko (p1 : Val) (o0 : PDecoder) : s_Ko p1 o0 = (bif o0.failed then
    (p1, (PDecoder.mk true))
  else
    bif (p1.kind == 5) then
      (p1, (PDecoder.mk false))
    else
      (p1, (PDecoder.mk (!(p1.kind == 0))))) := by
  obtain ⟨b⟩ := o0
  unfold s_Ko ft isM
  cases b <;> cases (p1.kind == 5) <;> cases (p1.kind == 0) <;> rfl
def c_Ko (p1 : Val) (o0 : PDecoder) : En := .call 215 [.bx 0 0, .agg (Val.cells p1)] [⟨1, 0, false, (PDecoder.cells o0)⟩]
def r_Ko (_p1 : Val) (_o0 : PDecoder) (q0 : Val) (q1 : PDecoder) : Rs := .ret (.agg (Val.cells q0)) [⟨1, 0, false, (PDecoder.cells q1)⟩]
def a_Ko (p1 : Val) (o0 : PDecoder) : Rs := r_Ko p1 o0 (s_Ko p1 o0).1 (s_Ko p1 o0).2
theorem t_Ko (p1 : Val) (o0 : PDecoder) : Q7 G (c_Ko p1 o0) (a_Ko p1 o0) := by
 unfold a_Ko
 rw [e_Ko]
 cases h0 : o0.failed with
 | true =>
  exact Q8 (fn := Ir.Ko) rfl (h := [⟨1, 0, false, (PDecoder.cells o0)⟩]) (vw := []) VOK.nil [hP 6 (decR o0.failed true [0] h0)] [] (by kernel_rfl)
 | false =>
  cases h1 : (p1.kind == 5) with
  | true =>
   exact Q8 (fn := Ir.Ko) rfl (h := [⟨1, 0, false, (PDecoder.cells o0)⟩]) (vw := []) VOK.nil [hP 6 (decR o0.failed false [0] h0), hP 3 (dec (!(p1.kind == 5)) false (by rw [h1]; rfl))] [] (by kernel_rfl)
  | false =>
   exact Q8 (fn := Ir.Ko) rfl (h := [⟨1, 0, false, (PDecoder.cells o0)⟩]) (vw := []) VOK.nil [hP 6 (decR o0.failed false [0] h0), hP 3 (dec (!(p1.kind == 5)) true (by rw [h1]; rfl))] [] (by kernel_rfl)
def s_Kd (p1 : Val) (p2 : BA) (p3 : Int) (o0 : PDecoder) : Val × PDecoder := (bif (prt p1 p2).kind == p3 then prt p1 p2 else vZ, ft o0 (isM p1 && ((prt p1 p2).kind == p3 || (prt p1 p2).kind == 0)))
theorem e_Kd (p1 : Val) (p2 : BA) (p3 : Int) (o0 : PDecoder) : s_Kd p1 p2 p3 o0 = (bif (p1.kind == 5) then
    bif ((Qn8 p1 p2).1.kind == p3) then
      ((Qn8 p1 p2).1, o0)
    else
      bif o0.failed then
        ((Val.mk 0 0 eB [] []), (PDecoder.mk true))
      else
        ((Val.mk 0 0 eB [] []), (PDecoder.mk (!((Qn8 p1 p2).1.kind == 0))))
  else
    bif o0.failed then
      ((Val.mk 0 0 eB [] []), (PDecoder.mk true))
    else
      ((Val.mk 0 0 eB [] []), (PDecoder.mk (!(p1.kind == 0))))) := by
  obtain ⟨b⟩ := o0
  unfold s_Kd ft
  rw [vprt]
  cases h : (p1.kind == 5) with
  | true =>
    rw [Q1at h]
    cases b <;> cases ((prt p1 p2).kind == p3) <;> cases ((prt p1 p2).kind == 0) <;> rfl
  | false =>
    rw [Qlz h, Qmd h]
    cases b <;> cases (p1.kind == 0) <;> cases (vZ.kind == p3) <;> rfl
def c_Kd (p1 : Val) (p2 : BA) (p3 : Int) (o0 : PDecoder) : En := .call 238 [.bx 0 0, .agg (Val.cells p1), .str p2, .int .i64 p3] [⟨1, 0, false, (PDecoder.cells o0)⟩]
def r_Kd (_p1 : Val) (_p2 : BA) (_p3 : Int) (_o0 : PDecoder) (q0 : Val) (q1 : PDecoder) : Rs := .ret (.agg (Val.cells q0)) [⟨1, 0, false, (PDecoder.cells q1)⟩]
def a_Kd (p1 : Val) (p2 : BA) (p3 : Int) (o0 : PDecoder) : Rs := r_Kd p1 p2 p3 o0 (s_Kd p1 p2 p3 o0).1 (s_Kd p1 p2 p3 o0).2
def H_Kd (p1 : Val) : Prop := Val.Sm 1000000000 p1
theorem Q10a (p1 : Val) (p2 : BA) (_p3 : Int) (_o0 : PDecoder) (H : H_Kd p1) : (Q1d9 p1 p2) ∧ True := by
  exact ⟨Q1mt H _, trivial⟩
theorem t_Kd (p1 : Val) (p2 : BA) (p3 : Int) (o0 : PDecoder) (H : H_Kd p1) : Q7 G (c_Kd p1 p2 p3 o0) (a_Kd p1 p2 p3 o0) := by
 unfold a_Kd
 rw [e_Kd]
 cases h0 : (p1.kind == 5) with
 | true =>
  cases h1 : ((Qn8 p1 p2).1.kind == p3) with
  | true =>
   exact Q8 (fn := Ir.Kd) rfl (h := [⟨1, 0, false, (PDecoder.cells o0)⟩]) (vw := []) VOK.nil [hP 4 (dec (!(p1.kind == 5)) false (by rw [h0]; rfl)), hB 12 h1] [aN (Q1fg p1 p2 (Q10a p1 p2 p3 o0 H).1)] (by kernel_rfl)
  | false =>
   cases h2 : o0.failed with
   | true =>
    exact Q8 (fn := Ir.Kd) rfl (h := [⟨1, 0, false, (PDecoder.cells o0)⟩]) (vw := []) VOK.nil [hP 4 (dec (!(p1.kind == 5)) false (by rw [h0]; rfl)), hB 12 h1, hP 4 (decR o0.failed true [0] h2)] [aN (Q1fg p1 p2 (Q10a p1 p2 p3 o0 H).1)] (by kernel_rfl)
   | false =>
    exact Q8 (fn := Ir.Kd) rfl (h := [⟨1, 0, false, (PDecoder.cells o0)⟩]) (vw := []) VOK.nil [hP 4 (dec (!(p1.kind == 5)) false (by rw [h0]; rfl)), hB 12 h1, hP 4 (decR o0.failed false [0] h2)] [aN (Q1fg p1 p2 (Q10a p1 p2 p3 o0 H).1)] (by kernel_rfl)
 | false =>
  cases h1 : o0.failed with
  | true =>
   exact Q8 (fn := Ir.Kd) rfl (h := [⟨1, 0, false, (PDecoder.cells o0)⟩]) (vw := []) VOK.nil [hP 4 (dec (!(p1.kind == 5)) true (by rw [h0]; rfl)), hP 4 (decR o0.failed true [0] h1)] [] (by kernel_rfl)
  | false =>
   exact Q8 (fn := Ir.Kd) rfl (h := [⟨1, 0, false, (PDecoder.cells o0)⟩]) (vw := []) VOK.nil [hP 4 (dec (!(p1.kind == 5)) true (by rw [h0]; rfl)), hP 4 (decR o0.failed false [0] h1)] [] (by kernel_rfl)
def s_Kg (p1 : Val) (p2 : BA) (o0 : PDecoder) : Int × PDecoder := ((dN p1 p2).1, ft o0 (isM p1 && (dN p1 p2).2))
theorem e_Kg (p1 : Val) (p2 : BA) (o0 : PDecoder) : s_Kg p1 p2 o0 = (((s_Kd p1 p2 2 o0).1.n, (s_Kd p1 p2 2 o0).2)) := by
  unfold s_Kg s_Kd dN xN
  cases ((prt p1 p2).kind == 2) <;> rfl
def c_Kg (p1 : Val) (p2 : BA) (o0 : PDecoder) : En := .call 240 [.bx 0 0, .agg (Val.cells p1), .str p2] [⟨1, 0, false, (PDecoder.cells o0)⟩]
def r_Kg (_p1 : Val) (_p2 : BA) (_o0 : PDecoder) (q0 : Int) (q1 : PDecoder) : Rs := .ret (.int .i64 q0) [⟨1, 0, false, (PDecoder.cells q1)⟩]
def a_Kg (p1 : Val) (p2 : BA) (o0 : PDecoder) : Rs := r_Kg p1 p2 o0 (s_Kg p1 p2 o0).1 (s_Kg p1 p2 o0).2
def H_Kg (p1 : Val) : Prop := Val.Sm 1000000000 p1
theorem Q1if (p1 : Val) (_p2 : BA) (_o0 : PDecoder) (H : H_Kg p1) : (H_Kd p1) ∧ True := by
  exact ⟨H, trivial⟩
theorem t_Kg (p1 : Val) (p2 : BA) (o0 : PDecoder) (H : H_Kg p1) : Q7 G (c_Kg p1 p2 o0) (a_Kg p1 p2 o0) := by
 unfold a_Kg
 rw [e_Kg]
 exact Q8 (fn := Ir.Kg) rfl (h := [⟨1, 0, false, (PDecoder.cells o0)⟩]) (vw := []) VOK.nil [] [aN (t_Kd p1 p2 2 o0 (Q1if p1 p2 o0 H).1)] (by kernel_rfl)
def s_Kn (p1 : Val) (p2 : BA) (o0 : PDecoder) : ByteArray × PDecoder := ((dS p1 p2).1, ft o0 (isM p1 && (dS p1 p2).2))
theorem e_Kn (p1 : Val) (p2 : BA) (o0 : PDecoder) : s_Kn p1 p2 o0 = (((s_Kd p1 p2 3 o0).1.s, (s_Kd p1 p2 3 o0).2)) := by
  unfold s_Kn s_Kd dS xS
  cases ((prt p1 p2).kind == 3) <;> rfl
def c_Kn (p1 : Val) (p2 : BA) (o0 : PDecoder) : En := .call 239 [.bx 0 0, .agg (Val.cells p1), .str p2] [⟨1, 0, false, (PDecoder.cells o0)⟩]
def r_Kn (_p1 : Val) (_p2 : BA) (_o0 : PDecoder) (q0 : BA) (q1 : PDecoder) : Rs := .ret (.str q0) [⟨1, 0, false, (PDecoder.cells q1)⟩]
def a_Kn (p1 : Val) (p2 : BA) (o0 : PDecoder) : Rs := r_Kn p1 p2 o0 (s_Kn p1 p2 o0).1 (s_Kn p1 p2 o0).2
def H_Kn (p1 : Val) : Prop := Val.Sm 1000000000 p1
theorem Q1ig (p1 : Val) (_p2 : BA) (_o0 : PDecoder) (H : H_Kn p1) : (H_Kd p1) ∧ True := by
  exact ⟨H, trivial⟩
theorem t_Kn (p1 : Val) (p2 : BA) (o0 : PDecoder) (H : H_Kn p1) : Q7 G (c_Kn p1 p2 o0) (a_Kn p1 p2 o0) := by
 unfold a_Kn
 rw [e_Kn]
 exact Q8 (fn := Ir.Kn) rfl (h := [⟨1, 0, false, (PDecoder.cells o0)⟩]) (vw := []) VOK.nil [] [aN (t_Kd p1 p2 3 o0 (Q1ig p1 p2 o0 H).1)] (by kernel_rfl)
def s_Kc (p1 : Val) (p2 : BA) (o0 : PDecoder) : Bool × PDecoder := ((dB p1 p2).1, ft o0 (isM p1 && (dB p1 p2).2))
theorem e_Kc (p1 : Val) (p2 : BA) (o0 : PDecoder) : s_Kc p1 p2 o0 = (((!((s_Kd p1 p2 1 o0).1.n == 0)), (s_Kd p1 p2 1 o0).2)) := by
  unfold s_Kc s_Kd dB xB
  cases ((prt p1 p2).kind == 1) <;> rfl
def c_Kc (p1 : Val) (p2 : BA) (o0 : PDecoder) : En := .call 280 [.bx 0 0, .agg (Val.cells p1), .str p2] [⟨1, 0, false, (PDecoder.cells o0)⟩]
def r_Kc (_p1 : Val) (_p2 : BA) (_o0 : PDecoder) (q0 : Bool) (q1 : PDecoder) : Rs := .ret (.bool q0) [⟨1, 0, false, (PDecoder.cells q1)⟩]
def a_Kc (p1 : Val) (p2 : BA) (o0 : PDecoder) : Rs := r_Kc p1 p2 o0 (s_Kc p1 p2 o0).1 (s_Kc p1 p2 o0).2
def H_Kc (p1 : Val) : Prop := Val.Sm 1000000000 p1
theorem Q1ie (p1 : Val) (_p2 : BA) (_o0 : PDecoder) (H : H_Kc p1) : (H_Kd p1) ∧ True := by
  exact ⟨H, trivial⟩
theorem t_Kc (p1 : Val) (p2 : BA) (o0 : PDecoder) (H : H_Kc p1) : Q7 G (c_Kc p1 p2 o0) (a_Kc p1 p2 o0) := by
 unfold a_Kc
 rw [e_Kc]
 exact Q8 (fn := Ir.Kc) rfl (h := [⟨1, 0, false, (PDecoder.cells o0)⟩]) (vw := []) VOK.nil [] [aN (t_Kd p1 p2 1 o0 (Q1ie p1 p2 o0 H).1)] (by kernel_rfl)
def s_Kp (p1 : Val) (p2 : BA) (o0 : PDecoder) : Val × PDecoder := (s5 (prt p1 p2), ft o0 (isM p1 && isM (prt p1 p2)))
theorem e_Kp (p1 : Val) (p2 : BA) (o0 : PDecoder) : s_Kp p1 p2 o0 = (((s_Kd p1 p2 5 o0).1, (s_Kd p1 p2 5 o0).2)) := by
  rfl
def c_Kp (p1 : Val) (p2 : BA) (o0 : PDecoder) : En := .call 219 [.bx 0 0, .agg (Val.cells p1), .str p2] [⟨1, 0, false, (PDecoder.cells o0)⟩]
def r_Kp (_p1 : Val) (_p2 : BA) (_o0 : PDecoder) (q0 : Val) (q1 : PDecoder) : Rs := .ret (.agg (Val.cells q0)) [⟨1, 0, false, (PDecoder.cells q1)⟩]
def a_Kp (p1 : Val) (p2 : BA) (o0 : PDecoder) : Rs := r_Kp p1 p2 o0 (s_Kp p1 p2 o0).1 (s_Kp p1 p2 o0).2
def H_Kp (p1 : Val) : Prop := Val.Sm 1000000000 p1
theorem Q1ih (p1 : Val) (_p2 : BA) (_o0 : PDecoder) (H : H_Kp p1) : (H_Kd p1) ∧ True := by
  exact ⟨H, trivial⟩
theorem t_Kp (p1 : Val) (p2 : BA) (o0 : PDecoder) (H : H_Kp p1) : Q7 G (c_Kp p1 p2 o0) (a_Kp p1 p2 o0) := by
 unfold a_Kp
 rw [e_Kp]
 exact Q8 (fn := Ir.Kp) rfl (h := [⟨1, 0, false, (PDecoder.cells o0)⟩]) (vw := []) VOK.nil [] [aN (t_Kd p1 p2 5 o0 (Q1ih p1 p2 o0 H).1)] (by kernel_rfl)
def s_Kk (p1 : Val) (o0 : PDecoder) : Resources × PDecoder := ((Resources.dec p1).1, ft o0 (Resources.dec p1).2)
theorem e_Kk (p1 : Val) (o0 : PDecoder) : s_Kk p1 o0 = (((Resources.mk (s_Kg p1 Q4y o0).1 (s_Kg p1 Q32 (s_Kg p1 Q4y o0).2).1 (s_Kg p1 Q4i (s_Kg p1 Q32 (s_Kg p1 Q4y o0).2).2).1), (s_Kg p1 Q4i (s_Kg p1 Q32 (s_Kg p1 Q4y o0).2).2).2)) := by
  simp only [s_Kg, s_Kk, Resources.dec, Qlv, Bool.and_assoc, Bool.and_left_comm, Bool.and_comm, Bool.and_self_left]
def c_Kk (p1 : Val) (o0 : PDecoder) : En := .call 275 [.bx 0 0, .agg (Val.cells p1)] [⟨1, 0, false, (PDecoder.cells o0)⟩]
def r_Kk (_p1 : Val) (_o0 : PDecoder) (q0 : Resources) (q1 : PDecoder) : Rs := .ret (.agg (Resources.cells q0)) [⟨1, 0, false, (PDecoder.cells q1)⟩]
def a_Kk (p1 : Val) (o0 : PDecoder) : Rs := r_Kk p1 o0 (s_Kk p1 o0).1 (s_Kk p1 o0).2
def H_Kk (p1 : Val) : Prop := Val.Sm 1000000000 p1
theorem Q10d (p1 : Val) (_o0 : PDecoder) (H : H_Kk p1) : (H_Kg p1) ∧ True := by
  repeat' with_reducible apply And.intro
  all_goals first | exact True.intro | exact H | exact Qmp (Q3a H _)
theorem t_Kk (p1 : Val) (o0 : PDecoder) (H : H_Kk p1) : Q7 G (c_Kk p1 o0) (a_Kk p1 o0) := by
 unfold a_Kk
 rw [e_Kk]
 exact Q8 (fn := Ir.Kk) rfl (h := [⟨1, 0, false, (PDecoder.cells o0)⟩]) (vw := []) VOK.nil [] [aN (t_Kg p1 Q4y o0 (Q10d p1 o0 H).1), aN (t_Kg p1 Q32 (s_Kg p1 Q4y o0).2 (Q10d p1 o0 H).1), aN (t_Kg p1 Q4i (s_Kg p1 Q32 (s_Kg p1 Q4y o0).2).2 (Q10d p1 o0 H).1)] (by kernel_rfl)
def s_Ki (p1 : Val) (o0 : PDecoder) : Probe × PDecoder := ((Probe.dec p1).1, ft o0 (Probe.dec p1).2)
theorem e_Ki (p1 : Val) (o0 : PDecoder) : s_Ki p1 o0 = (((Probe.mk (s_Kg p1 Q29 (s_Ko p1 o0).2).1 (s_Kg p1 Q23 (s_Kg p1 Q29 (s_Ko p1 o0).2).2).1 (s_Kg p1 Q1s (s_Kg p1 Q23 (s_Kg p1 Q29 (s_Ko p1 o0).2).2).2).1 (s_Kg p1 Q1y (s_Kg p1 Q1s (s_Kg p1 Q23 (s_Kg p1 Q29 (s_Ko p1 o0).2).2).2).2).1), (s_Kg p1 Q1y (s_Kg p1 Q1s (s_Kg p1 Q23 (s_Kg p1 Q29 (s_Ko p1 o0).2).2).2).2).2)) := by
  simp only [s_Ko, s_Kg, s_Ki, Probe.dec, Qlv, Bool.and_assoc, Bool.and_left_comm, Bool.and_comm, Bool.and_self_left]
def c_Ki (p1 : Val) (o0 : PDecoder) : En := .call 277 [.bx 0 0, .agg (Val.cells p1)] [⟨1, 0, false, (PDecoder.cells o0)⟩]
def r_Ki (_p1 : Val) (_o0 : PDecoder) (q0 : Probe) (q1 : PDecoder) : Rs := .ret (.agg (Probe.cells q0)) [⟨1, 0, false, (PDecoder.cells q1)⟩]
def a_Ki (p1 : Val) (o0 : PDecoder) : Rs := r_Ki p1 o0 (s_Ki p1 o0).1 (s_Ki p1 o0).2
def H_Ki (p1 : Val) : Prop := Val.Sm 1000000000 p1
theorem Qtv (p1 : Val) (_o0 : PDecoder) (H : H_Ki p1) : (H_Kg p1) ∧ True := by
  repeat' with_reducible apply And.intro
  all_goals first | exact True.intro | exact H | exact Qmp (Q3a H _)
theorem t_Ki (p1 : Val) (o0 : PDecoder) (H : H_Ki p1) : Q7 G (c_Ki p1 o0) (a_Ki p1 o0) := by
 unfold a_Ki
 rw [e_Ki]
 exact Q8 (fn := Ir.Ki) rfl (h := [⟨1, 0, false, (PDecoder.cells o0)⟩]) (vw := []) VOK.nil [] [aN (t_Ko p1 o0), aN (t_Kg p1 Q29 (s_Ko p1 o0).2 (Qtv p1 o0 H).1), aN (t_Kg p1 Q23 (s_Kg p1 Q29 (s_Ko p1 o0).2).2 (Qtv p1 o0 H).1), aN (t_Kg p1 Q1s (s_Kg p1 Q23 (s_Kg p1 Q29 (s_Ko p1 o0).2).2).2 (Qtv p1 o0 H).1), aN (t_Kg p1 Q1y (s_Kg p1 Q1s (s_Kg p1 Q23 (s_Kg p1 Q29 (s_Ko p1 o0).2).2).2).2 (Qtv p1 o0 H).1)] (by kernel_rfl)
def Q6g (p1 : Val) (p2 : BA) (o0 : PDecoder) : List Val → Nat → Bool → (List Probe) → Bool × (List Probe)
 | [], _i0, v0_1, v0_2 =>
  (v0_1, v0_2)
 | x0 :: r0, i0, v0_1, v0_2 =>
  Q6g p1 p2 o0 r0 (i0 + 1) (s_Ki x0 (PDecoder.mk v0_1)).2.failed (v0_2 ++ [(s_Ki x0 (PDecoder.mk v0_1)).1])
def Q11m (p1 : Val) (p2 : BA) (o0 : PDecoder) (i0 : Nat) (_v0_1 : Bool) (v0_2 : List Probe) : List PV :=
  [.un, .un, .un, .fn 277 [.bx 0 0] []] ++ nuns 5 ++ [.ms 1 4 0 (List.length v0_2)] ++ nuns 6 ++ [.sl (Val.rows (s_Kd p1 p2 4 o0).1.list), .int .i64 ((List.length (s_Kd p1 p2 4 o0).1.list) : Int), .int .i64 (i0 : Int)] ++ nuns 11
def Qrv (_p1 : Val) (_p2 : BA) (_o0 : PDecoder) (_i0 : Nat) (v0_1 : Bool) (v0_2 : List Probe) : List Ob :=
  [⟨1, 0, false, [.bool v0_1]⟩, ⟨4, 0, true, (Probe.rows v0_2).flatten⟩]
def Qrn (p1 : Val) (p2 : BA) (o0 : PDecoder) (i0 : Nat) (v0_1 : Bool) (v0_2 : List Probe) : En := .loop 1 Ir.Qnh Ir.Q1n9 (Q11m p1 p2 o0 i0 v0_1 v0_2) (Qrv p1 p2 o0 i0 v0_1 v0_2)
def Qx1 (_p1 : Val) (_p2 : BA) (_o0 : PDecoder) (q0 : Bool) (q1 : List Probe) (z : Nat → PV) (_zo : Nat → List PV) : St :=
  ⟨zr z 0 9 ++ [.ms 1 4 0 (List.length q1)] ++ zr z 10 20, [(0, ⟨1, 0, false, [.bool q0]⟩), (1, ⟨4, 0, true, (Probe.rows q1).flatten⟩)], 66⟩
theorem Q19u (p1 : Val) (p2 : BA) (o0 : PDecoder) (i0 : Nat) (v0_1 : Bool) (v0_2 : List Probe) : VOK (Go.Pv.look (number 0 (Qrv p1 p2 o0 i0 v0_1 v0_2))) [(1, Probe.rows v0_2)] := (VOK.cons (show Seen _ _ from Q3k (ob := ⟨4, 0, true, (Probe.rows v0_2).flatten⟩) (Probe.Qb v0_2 4 rfl)) VOK.nil)
def Qte (p1 : Val) (p2 : BA) (o0 : PDecoder) (e : En) (q : Bool × (List Probe)) : Prop := ∃ z zo, Q7 G e (.st (.exit 0) (Qx1 p1 p2 o0 q.1 q.2 z zo))
theorem Qwr (p1 : Val) (p2 : BA) (o0 : PDecoder) {e e' : En} (h : ∀ r, Q7 G e r → Q7 G e' r) : ∀ q, Qte p1 p2 o0 e q → Qte p1 p2 o0 e' q
  | _, ⟨z, zo, hz⟩ => ⟨z, zo, h _ hz⟩
def Qiq (p1 : Val) (p2 : BA) (o0 : PDecoder) : Prop := (List.length (s_Kd p1 p2 4 o0).1.list ≤ 137438953472) ∧ (∀ x0 ∈ (s_Kd p1 p2 4 o0).1.list, H_Ki x0) ∧ True
def Qxc (p1 : Val) (p2 : BA) (o0 : PDecoder) (i0 : Nat) (_v0_1 : Bool) (_v0_2 : List Probe) : List PV :=
  [.un, .un, .un, .fn 277 [.bx 0 0] []] ++ nuns 12 ++ [.sl (Val.rows (s_Kd p1 p2 4 o0).1.list), .int .i64 ((List.length (s_Kd p1 p2 4 o0).1.list) : Int), .int .i64 (i0 : Int), .bool false]
def Qp0 (_p1 : Val) (_p2 : BA) (_o0 : PDecoder) (_i0 : Nat) (_v0_1 : Bool) (_v0_2 : List Probe) : List (Nat × List PV) :=
  []
theorem Q1d4 (p1 : Val) (p2 : BA) (o0 : PDecoder) (_H : Qiq p1 p2 o0) (i0 : Nat) (v0_1 : Bool) (v0_2 : List Probe) (_ho0_0 : List.length v0_2 ≤ i0) (hc0 : (decide ((i0 : Int) < ((List.length (s_Kd p1 p2 4 o0).1.list) : Int))) = false) : Qte p1 p2 o0 (Qrn p1 p2 o0 i0 v0_1 v0_2) (v0_1, v0_2) := by
 exact ⟨(envF (Qxc p1 p2 o0 i0 v0_1 v0_2)), (zoF (Qp0 p1 p2 o0 i0 v0_1 v0_2)), Qm (Q19u p1 p2 o0 i0 v0_1 v0_2) (x := ((.exit 0), Qx1 p1 p2 o0 v0_1 v0_2 (envF (Qxc p1 p2 o0 i0 v0_1 v0_2)) (zoF (Qp0 p1 p2 o0 i0 v0_1 v0_2)))) [hB 0 hc0] [] (by kernel_rfl)⟩
theorem Q1bg (p1 : Val) (p2 : BA) (o0 : PDecoder) (H : Qiq p1 p2 o0) (x0 : Val) (i0 : Nat) (v0_1 : Bool) (v0_2 : List Probe) (hx0 : (s_Kd p1 p2 4 o0).1.list[i0]? = some x0) (hi0 : i0 < List.length (s_Kd p1 p2 4 o0).1.list) (ho0_0 : List.length v0_2 ≤ i0) (hc0 : (decide ((i0 : Int) < ((List.length (s_Kd p1 p2 4 o0).1.list) : Int))) = true) {r : Rs} (hr : Q7 G (Qrn p1 p2 o0 (i0 + 1) (s_Ki x0 (PDecoder.mk v0_1)).2.failed (v0_2 ++ [(s_Ki x0 (PDecoder.mk v0_1)).1])) r) : Q7 G (Qrn p1 p2 o0 i0 v0_1 v0_2) r := by
 have hB0 := H.1
 exact Ql (Q19u p1 p2 o0 i0 v0_1 v0_2) (y := (Q11m p1 p2 o0 (i0 + 1) (s_Ki x0 (PDecoder.mk v0_1)).2.failed (v0_2 ++ [(s_Ki x0 (PDecoder.mk v0_1)).1]), Qrv p1 p2 o0 (i0 + 1) (s_Ki x0 (PDecoder.mk v0_1)).2.failed (v0_2 ++ [(s_Ki x0 (PDecoder.mk v0_1)).1]))) [hB 0 hc0, hP 0 (Q2s 5 (Val.rows (s_Kd p1 p2 4 o0).1.list) i0 _ (Val.Qo hx0) rfl), hV 8 [(642, Probe.rows (v0_2 ++ [(s_Ki x0 (PDecoder.mk v0_1)).1]))] (Q42 1 578 642 4 32 0 0 true (Probe.rows v0_2) (Probe.rows (v0_2 ++ [(s_Ki x0 (PDecoder.mk v0_1)).1])) (Probe.cells (s_Ki x0 (PDecoder.mk v0_1)).1) (List.length v0_2) (List.length (v0_2 ++ [(s_Ki x0 (PDecoder.mk v0_1)).1])) rfl (Probe.Q9 v0_2).symm (Probe.Q9 (v0_2 ++ [(s_Ki x0 (PDecoder.mk v0_1)).1])).symm (Probe.Q1t v0_2 (s_Ki x0 (PDecoder.mk v0_1)).1) (Probe.Qu v0_2) rfl (by omega)), hS 0 true (Probe.Qb (v0_2 ++ [(s_Ki x0 (PDecoder.mk v0_1)).1]) 4 rfl), hP 1 (Q2g i0 (by omega))] [aN (t_Ki x0 (PDecoder.mk v0_1) (H.2.1 x0 (Q2l hx0)))] (by kernel_rfl) hr
theorem Q140 (p1 : Val) (p2 : BA) (o0 : PDecoder) (H : Qiq p1 p2 o0) : ∀ (r0 : List Val) (i0 : Nat) (v0_1 : Bool) (v0_2 : List Probe), List.drop i0 (s_Kd p1 p2 4 o0).1.list = r0 → List.length v0_2 ≤ i0 → Qte p1 p2 o0 (Qrn p1 p2 o0 i0 v0_1 v0_2) (Q6g p1 p2 o0 r0 i0 v0_1 v0_2)
 | [], i0, v0_1, v0_2, hd, ho0_0 => by
  have hc0 : (decide ((i0 : Int) < ((List.length (s_Kd p1 p2 4 o0).1.list) : Int))) = false := by have := Q1m hd; simp; omega
  rw [Q6g]
  exact Q1d4 p1 p2 o0 H i0 v0_1 v0_2 ho0_0 hc0
 | x0 :: r0, i0, v0_1, v0_2, hd, ho0_0 => by
  obtain ⟨hx0, hi0, hd'⟩ := Q1k hd
  have hc0 : (decide ((i0 : Int) < ((List.length (s_Kd p1 p2 4 o0).1.list) : Int))) = true := by simp; omega
  rw [Q6g]
  exact Qwr p1 p2 o0 (fun r hr => Q1bg p1 p2 o0 H x0 i0 v0_1 v0_2 hx0 hi0 ho0_0 hc0 hr) _ (Q140 p1 p2 o0 H r0 (i0 + 1) (s_Ki x0 (PDecoder.mk v0_1)).2.failed (v0_2 ++ [(s_Ki x0 (PDecoder.mk v0_1)).1]) hd' (by first | omega | (simp; omega)))
def s_Kz (p1 : Val) (p2 : BA) (o0 : PDecoder) : List Probe × PDecoder := ((dE Probe.dec p1 p2).1, ft o0 (isM p1 && (dE Probe.dec p1 p2).2))
theorem Q1c7 (p1 : Val) (p2 : BA) (o0 : PDecoder) : ∀ (l : List Val) (i : Nat) (b : Bool) (a : List Probe), Q6g p1 p2 o0 l i b a = (b || !(l.all fun x => (Probe.dec x).2), a ++ l.map (fun x => (Probe.dec x).1))
  | [], _, b, a => by rw [Q6g]; simp
  | x :: l, i, b, a => by
    rw [Q6g]
    refine (Q1c7 p1 p2 o0 l (i + 1) (b || !(Probe.dec x).2) (a ++ [(Probe.dec x).1])).trans ?_
    simp only [List.append_assoc, List.singleton_append, List.map_cons, List.all_cons, Bool.not_and, Bool.or_assoc]
theorem e_Kz (p1 : Val) (p2 : BA) (o0 : PDecoder) : s_Kz p1 p2 o0 = (((Q6g p1 p2 o0 (s_Kd p1 p2 4 o0).1.list 0 (s_Kd p1 p2 4 o0).2.failed []).2, (PDecoder.mk (Q6g p1 p2 o0 (s_Kd p1 p2 4 o0).1.list 0 (s_Kd p1 p2 4 o0).2.failed []).1))) := by
  rw [Q1c7]
  unfold s_Kd s_Kz
  simp only [Q91, Q4m]
  refine Prod.ext rfl ?_
  rw [Q8p o0.failed (isM p1) _ _ _ (Quw (prt p1 p2)), Q5g]
  rfl
def c_Kz (p1 : Val) (p2 : BA) (o0 : PDecoder) : En := .call 276 [.bx 0 0, .agg (Val.cells p1), .str p2, .fn 277 [.bx 0 0] []] [⟨1, 0, false, (PDecoder.cells o0)⟩]
def r_Kz (_p1 : Val) (_p2 : BA) (_o0 : PDecoder) (q0 : List Probe) (q1 : PDecoder) : Rs := .ret (.sl (Probe.rows q0)) [⟨1, 0, false, (PDecoder.cells q1)⟩]
def a_Kz (p1 : Val) (p2 : BA) (o0 : PDecoder) : Rs := r_Kz p1 p2 o0 (s_Kz p1 p2 o0).1 (s_Kz p1 p2 o0).2
def H_Kz (p1 : Val) : Prop := Val.Sm 1000000000 p1
theorem Q1an (p1 : Val) (p2 : BA) (o0 : PDecoder) (H : H_Kz p1) : (H_Kd p1) ∧ (Qiq p1 p2 o0) ∧ True := by
  have hl := Qmx (Q3a H p2)
  refine ⟨H, ?_, trivial⟩
  unfold Qiq s_Kd
  simp only [Q91]
  exact ⟨Nat.le_trans hl.1 (Nat.le_of_ble_eq_true rfl), hl.2, trivial⟩
theorem t_Kz (p1 : Val) (p2 : BA) (o0 : PDecoder) (H : H_Kz p1) : Q7 G (c_Kz p1 p2 o0) (a_Kz p1 p2 o0) := by
 unfold a_Kz
 rw [e_Kz]
 have hl0 := Q140 p1 p2 o0 ((Q1an p1 p2 o0 H).2.1) (s_Kd p1 p2 4 o0).1.list 0 (s_Kd p1 p2 4 o0).2.failed [] (by simp) (by simp)
 obtain ⟨z0, zo0, hl0⟩ := hl0
 exact Q8 (fn := Ir.Kz) rfl (h := [⟨1, 0, false, (PDecoder.cells o0)⟩]) (vw := []) VOK.nil [hP 8 (Q11 (Val.rows (s_Kd p1 p2 4 o0).1.list) (List.length (s_Kd p1 p2 4 o0).1.list) (Val.Q9 (s_Kd p1 p2 4 o0).1.list)), hS 0 true (Probe.Qb (Q6g p1 p2 o0 (s_Kd p1 p2 4 o0).1.list 0 (s_Kd p1 p2 4 o0).2.failed []).2 4 rfl), hQ (Probe.Q9 (Q6g p1 p2 o0 (s_Kd p1 p2 4 o0).1.list 0 (s_Kd p1 p2 4 o0).2.failed []).2).symm] [aN (t_Kd p1 p2 4 o0 (Q1an p1 p2 o0 H).1), aV [(1, Probe.rows (Q6g p1 p2 o0 (s_Kd p1 p2 4 o0).1.list 0 (s_Kd p1 p2 4 o0).2.failed []).2)] hl0] (by kernel_rfl)
def s_Kb (p1 : Val) (o0 : PDecoder) : Container × PDecoder := ((Container.dec p1).1, ft o0 (Container.dec p1).2)
theorem e_Kb (p1 : Val) (o0 : PDecoder) : s_Kb p1 o0 = (((Container.mk (s_Kn p1 Q12 (s_Ko p1 o0).2).1 (s_Kn p1 Qx (s_Kn p1 Q12 (s_Ko p1 o0).2).2).1 (s_Kk (s_Kp p1 Qj (s_Kn p1 Qx (s_Kn p1 Q12 (s_Ko p1 o0).2).2).2).1 (s_Kp p1 Qj (s_Kn p1 Qx (s_Kn p1 Q12 (s_Ko p1 o0).2).2).2).2).1 (s_Kk (s_Kp p1 Q1n (s_Kk (s_Kp p1 Qj (s_Kn p1 Qx (s_Kn p1 Q12 (s_Ko p1 o0).2).2).2).1 (s_Kp p1 Qj (s_Kn p1 Qx (s_Kn p1 Q12 (s_Ko p1 o0).2).2).2).2).2).1 (s_Kp p1 Q1n (s_Kk (s_Kp p1 Qj (s_Kn p1 Qx (s_Kn p1 Q12 (s_Ko p1 o0).2).2).2).1 (s_Kp p1 Qj (s_Kn p1 Qx (s_Kn p1 Q12 (s_Ko p1 o0).2).2).2).2).2).2).1 (s_Kz p1 Q2u (s_Kk (s_Kp p1 Q1n (s_Kk (s_Kp p1 Qj (s_Kn p1 Qx (s_Kn p1 Q12 (s_Ko p1 o0).2).2).2).1 (s_Kp p1 Qj (s_Kn p1 Qx (s_Kn p1 Q12 (s_Ko p1 o0).2).2).2).2).2).1 (s_Kp p1 Q1n (s_Kk (s_Kp p1 Qj (s_Kn p1 Qx (s_Kn p1 Q12 (s_Ko p1 o0).2).2).2).1 (s_Kp p1 Qj (s_Kn p1 Qx (s_Kn p1 Q12 (s_Ko p1 o0).2).2).2).2).2).2).2).1 (s_Kz p1 Q1c (s_Kz p1 Q2u (s_Kk (s_Kp p1 Q1n (s_Kk (s_Kp p1 Qj (s_Kn p1 Qx (s_Kn p1 Q12 (s_Ko p1 o0).2).2).2).1 (s_Kp p1 Qj (s_Kn p1 Qx (s_Kn p1 Q12 (s_Ko p1 o0).2).2).2).2).2).1 (s_Kp p1 Q1n (s_Kk (s_Kp p1 Qj (s_Kn p1 Qx (s_Kn p1 Q12 (s_Ko p1 o0).2).2).2).1 (s_Kp p1 Qj (s_Kn p1 Qx (s_Kn p1 Q12 (s_Ko p1 o0).2).2).2).2).2).2).2).2).1 (s_Kz p1 Q20 (s_Kz p1 Q1c (s_Kz p1 Q2u (s_Kk (s_Kp p1 Q1n (s_Kk (s_Kp p1 Qj (s_Kn p1 Qx (s_Kn p1 Q12 (s_Ko p1 o0).2).2).2).1 (s_Kp p1 Qj (s_Kn p1 Qx (s_Kn p1 Q12 (s_Ko p1 o0).2).2).2).2).2).1 (s_Kp p1 Q1n (s_Kk (s_Kp p1 Qj (s_Kn p1 Qx (s_Kn p1 Q12 (s_Ko p1 o0).2).2).2).1 (s_Kp p1 Qj (s_Kn p1 Qx (s_Kn p1 Q12 (s_Ko p1 o0).2).2).2).2).2).2).2).2).2).1), (s_Kz p1 Q20 (s_Kz p1 Q1c (s_Kz p1 Q2u (s_Kk (s_Kp p1 Q1n (s_Kk (s_Kp p1 Qj (s_Kn p1 Qx (s_Kn p1 Q12 (s_Ko p1 o0).2).2).2).1 (s_Kp p1 Qj (s_Kn p1 Qx (s_Kn p1 Q12 (s_Ko p1 o0).2).2).2).2).2).1 (s_Kp p1 Q1n (s_Kk (s_Kp p1 Qj (s_Kn p1 Qx (s_Kn p1 Q12 (s_Ko p1 o0).2).2).2).1 (s_Kp p1 Qj (s_Kn p1 Qx (s_Kn p1 Q12 (s_Ko p1 o0).2).2).2).2).2).2).2).2).2).2)) := by
  simp only [s_Ko, s_Kn, s_Kp, s_Kk, s_Kz, s_Kb, Container.dec, Resources.sub1, Resources.sub2, Qlv, Bool.and_assoc, Bool.and_left_comm, Bool.and_comm, Bool.and_self_left]
def c_Kb (p1 : Val) (o0 : PDecoder) : En := .call 242 [.bx 0 0, .agg (Val.cells p1)] [⟨1, 0, false, (PDecoder.cells o0)⟩]
def r_Kb (_p1 : Val) (_o0 : PDecoder) (q0 : Container) (q1 : PDecoder) : Rs := .ret (.agg (Container.cells q0)) [⟨1, 0, false, (PDecoder.cells q1)⟩]
def a_Kb (p1 : Val) (o0 : PDecoder) : Rs := r_Kb p1 o0 (s_Kb p1 o0).1 (s_Kb p1 o0).2
def H_Kb (p1 : Val) : Prop := Val.Sm 1000000000 p1
theorem Q8u (p1 : Val) (o0 : PDecoder) (H : H_Kb p1) : (H_Kn p1) ∧ (H_Kp p1) ∧ (H_Kk (s_Kp p1 Qj (s_Kn p1 Qx (s_Kn p1 Q12 (s_Ko p1 o0).2).2).2).1) ∧ (H_Kk (s_Kp p1 Q1n (s_Kk (s_Kp p1 Qj (s_Kn p1 Qx (s_Kn p1 Q12 (s_Ko p1 o0).2).2).2).1 (s_Kp p1 Qj (s_Kn p1 Qx (s_Kn p1 Q12 (s_Ko p1 o0).2).2).2).2).2).1) ∧ (H_Kz p1) ∧ True := by
  repeat' with_reducible apply And.intro
  all_goals first | exact True.intro | exact H | exact Qmp (Q3a H _)
theorem t_Kb (p1 : Val) (o0 : PDecoder) (H : H_Kb p1) : Q7 G (c_Kb p1 o0) (a_Kb p1 o0) := by
 unfold a_Kb
 rw [e_Kb]
 exact Q8 (fn := Ir.Kb) rfl (h := [⟨1, 0, false, (PDecoder.cells o0)⟩]) (vw := []) VOK.nil [] [aN (t_Ko p1 o0), aN (t_Kn p1 Q12 (s_Ko p1 o0).2 (Q8u p1 o0 H).1), aN (t_Kn p1 Qx (s_Kn p1 Q12 (s_Ko p1 o0).2).2 (Q8u p1 o0 H).1), aN (t_Kp p1 Qj (s_Kn p1 Qx (s_Kn p1 Q12 (s_Ko p1 o0).2).2).2 (Q8u p1 o0 H).2.1), aN (t_Kk (s_Kp p1 Qj (s_Kn p1 Qx (s_Kn p1 Q12 (s_Ko p1 o0).2).2).2).1 (s_Kp p1 Qj (s_Kn p1 Qx (s_Kn p1 Q12 (s_Ko p1 o0).2).2).2).2 (Q8u p1 o0 H).2.2.1), aN (t_Kp p1 Q1n (s_Kk (s_Kp p1 Qj (s_Kn p1 Qx (s_Kn p1 Q12 (s_Ko p1 o0).2).2).2).1 (s_Kp p1 Qj (s_Kn p1 Qx (s_Kn p1 Q12 (s_Ko p1 o0).2).2).2).2).2 (Q8u p1 o0 H).2.1), aN (t_Kk (s_Kp p1 Q1n (s_Kk (s_Kp p1 Qj (s_Kn p1 Qx (s_Kn p1 Q12 (s_Ko p1 o0).2).2).2).1 (s_Kp p1 Qj (s_Kn p1 Qx (s_Kn p1 Q12 (s_Ko p1 o0).2).2).2).2).2).1 (s_Kp p1 Q1n (s_Kk (s_Kp p1 Qj (s_Kn p1 Qx (s_Kn p1 Q12 (s_Ko p1 o0).2).2).2).1 (s_Kp p1 Qj (s_Kn p1 Qx (s_Kn p1 Q12 (s_Ko p1 o0).2).2).2).2).2).2 (Q8u p1 o0 H).2.2.2.1), aN (t_Kz p1 Q2u (s_Kk (s_Kp p1 Q1n (s_Kk (s_Kp p1 Qj (s_Kn p1 Qx (s_Kn p1 Q12 (s_Ko p1 o0).2).2).2).1 (s_Kp p1 Qj (s_Kn p1 Qx (s_Kn p1 Q12 (s_Ko p1 o0).2).2).2).2).2).1 (s_Kp p1 Q1n (s_Kk (s_Kp p1 Qj (s_Kn p1 Qx (s_Kn p1 Q12 (s_Ko p1 o0).2).2).2).1 (s_Kp p1 Qj (s_Kn p1 Qx (s_Kn p1 Q12 (s_Ko p1 o0).2).2).2).2).2).2).2 (Q8u p1 o0 H).2.2.2.2.1), aN (t_Kz p1 Q1c (s_Kz p1 Q2u (s_Kk (s_Kp p1 Q1n (s_Kk (s_Kp p1 Qj (s_Kn p1 Qx (s_Kn p1 Q12 (s_Ko p1 o0).2).2).2).1 (s_Kp p1 Qj (s_Kn p1 Qx (s_Kn p1 Q12 (s_Ko p1 o0).2).2).2).2).2).1 (s_Kp p1 Q1n (s_Kk (s_Kp p1 Qj (s_Kn p1 Qx (s_Kn p1 Q12 (s_Ko p1 o0).2).2).2).1 (s_Kp p1 Qj (s_Kn p1 Qx (s_Kn p1 Q12 (s_Ko p1 o0).2).2).2).2).2).2).2).2 (Q8u p1 o0 H).2.2.2.2.1), aN (t_Kz p1 Q20 (s_Kz p1 Q1c (s_Kz p1 Q2u (s_Kk (s_Kp p1 Q1n (s_Kk (s_Kp p1 Qj (s_Kn p1 Qx (s_Kn p1 Q12 (s_Ko p1 o0).2).2).2).1 (s_Kp p1 Qj (s_Kn p1 Qx (s_Kn p1 Q12 (s_Ko p1 o0).2).2).2).2).2).1 (s_Kp p1 Q1n (s_Kk (s_Kp p1 Qj (s_Kn p1 Qx (s_Kn p1 Q12 (s_Ko p1 o0).2).2).2).1 (s_Kp p1 Qj (s_Kn p1 Qx (s_Kn p1 Q12 (s_Ko p1 o0).2).2).2).2).2).2).2).2).2 (Q8u p1 o0 H).2.2.2.2.1)] (by kernel_rfl)
def Q6a (p1 : Val) (p2 : BA) (o0 : PDecoder) : List Val → Nat → Bool → (List Container) → Bool × (List Container)
 | [], _i0, v0_1, v0_2 =>
  (v0_1, v0_2)
 | x0 :: r0, i0, v0_1, v0_2 =>
  Q6a p1 p2 o0 r0 (i0 + 1) (s_Kb x0 (PDecoder.mk v0_1)).2.failed (v0_2 ++ [(s_Kb x0 (PDecoder.mk v0_1)).1])
def Q11g (p1 : Val) (p2 : BA) (o0 : PDecoder) (i0 : Nat) (_v0_1 : Bool) (v0_2 : List Container) : List PV :=
  [.un, .un, .un, .fn 242 [.bx 0 0] []] ++ nuns 5 ++ [.ms 1 11 0 (List.length v0_2)] ++ nuns 6 ++ [.sl (Val.rows (s_Kd p1 p2 4 o0).1.list), .int .i64 ((List.length (s_Kd p1 p2 4 o0).1.list) : Int), .int .i64 (i0 : Int)] ++ nuns 11
def Qrp (_p1 : Val) (_p2 : BA) (_o0 : PDecoder) (_i0 : Nat) (v0_1 : Bool) (v0_2 : List Container) : List Ob :=
  [⟨1, 0, false, [.bool v0_1]⟩, ⟨11, 0, true, (Container.rows v0_2).flatten⟩]
def Qrh (p1 : Val) (p2 : BA) (o0 : PDecoder) (i0 : Nat) (v0_1 : Bool) (v0_2 : List Container) : En := .loop 1 Ir.Qnb Ir.Q1n3 (Q11g p1 p2 o0 i0 v0_1 v0_2) (Qrp p1 p2 o0 i0 v0_1 v0_2)
def Qwv (_p1 : Val) (_p2 : BA) (_o0 : PDecoder) (q0 : Bool) (q1 : List Container) (z : Nat → PV) (_zo : Nat → List PV) : St :=
  ⟨zr z 0 9 ++ [.ms 1 11 0 (List.length q1)] ++ zr z 10 20, [(0, ⟨1, 0, false, [.bool q0]⟩), (1, ⟨11, 0, true, (Container.rows q1).flatten⟩)], 66⟩
theorem Q19o (p1 : Val) (p2 : BA) (o0 : PDecoder) (i0 : Nat) (v0_1 : Bool) (v0_2 : List Container) : VOK (Go.Pv.look (number 0 (Qrp p1 p2 o0 i0 v0_1 v0_2))) [(1, Container.rows v0_2)] := (VOK.cons (show Seen _ _ from Q3k (ob := ⟨11, 0, true, (Container.rows v0_2).flatten⟩) (Container.Qb v0_2 11 rfl)) VOK.nil)
def Qt8 (p1 : Val) (p2 : BA) (o0 : PDecoder) (e : En) (q : Bool × (List Container)) : Prop := ∃ z zo, Q7 G e (.st (.exit 0) (Qwv p1 p2 o0 q.1 q.2 z zo))
theorem Qwl (p1 : Val) (p2 : BA) (o0 : PDecoder) {e e' : En} (h : ∀ r, Q7 G e r → Q7 G e' r) : ∀ q, Qt8 p1 p2 o0 e q → Qt8 p1 p2 o0 e' q
  | _, ⟨z, zo, hz⟩ => ⟨z, zo, h _ hz⟩
def Qik (p1 : Val) (p2 : BA) (o0 : PDecoder) : Prop := (List.length (s_Kd p1 p2 4 o0).1.list ≤ 137438953472) ∧ (∀ x0 ∈ (s_Kd p1 p2 4 o0).1.list, H_Kb x0) ∧ True
def Qx6 (p1 : Val) (p2 : BA) (o0 : PDecoder) (i0 : Nat) (_v0_1 : Bool) (_v0_2 : List Container) : List PV :=
  [.un, .un, .un, .fn 242 [.bx 0 0] []] ++ nuns 12 ++ [.sl (Val.rows (s_Kd p1 p2 4 o0).1.list), .int .i64 ((List.length (s_Kd p1 p2 4 o0).1.list) : Int), .int .i64 (i0 : Int), .bool false]
def Qou (_p1 : Val) (_p2 : BA) (_o0 : PDecoder) (_i0 : Nat) (_v0_1 : Bool) (_v0_2 : List Container) : List (Nat × List PV) :=
  []
theorem Q1cy (p1 : Val) (p2 : BA) (o0 : PDecoder) (_H : Qik p1 p2 o0) (i0 : Nat) (v0_1 : Bool) (v0_2 : List Container) (_ho0_0 : List.length v0_2 ≤ i0) (hc0 : (decide ((i0 : Int) < ((List.length (s_Kd p1 p2 4 o0).1.list) : Int))) = false) : Qt8 p1 p2 o0 (Qrh p1 p2 o0 i0 v0_1 v0_2) (v0_1, v0_2) := by
 exact ⟨(envF (Qx6 p1 p2 o0 i0 v0_1 v0_2)), (zoF (Qou p1 p2 o0 i0 v0_1 v0_2)), Qm (Q19o p1 p2 o0 i0 v0_1 v0_2) (x := ((.exit 0), Qwv p1 p2 o0 v0_1 v0_2 (envF (Qx6 p1 p2 o0 i0 v0_1 v0_2)) (zoF (Qou p1 p2 o0 i0 v0_1 v0_2)))) [hB 0 hc0] [] (by kernel_rfl)⟩
theorem Q1ba (p1 : Val) (p2 : BA) (o0 : PDecoder) (H : Qik p1 p2 o0) (x0 : Val) (i0 : Nat) (v0_1 : Bool) (v0_2 : List Container) (hx0 : (s_Kd p1 p2 4 o0).1.list[i0]? = some x0) (hi0 : i0 < List.length (s_Kd p1 p2 4 o0).1.list) (ho0_0 : List.length v0_2 ≤ i0) (hc0 : (decide ((i0 : Int) < ((List.length (s_Kd p1 p2 4 o0).1.list) : Int))) = true) {r : Rs} (hr : Q7 G (Qrh p1 p2 o0 (i0 + 1) (s_Kb x0 (PDecoder.mk v0_1)).2.failed (v0_2 ++ [(s_Kb x0 (PDecoder.mk v0_1)).1])) r) : Q7 G (Qrh p1 p2 o0 i0 v0_1 v0_2) r := by
 have hB0 := H.1
 exact Ql (Q19o p1 p2 o0 i0 v0_1 v0_2) (y := (Q11g p1 p2 o0 (i0 + 1) (s_Kb x0 (PDecoder.mk v0_1)).2.failed (v0_2 ++ [(s_Kb x0 (PDecoder.mk v0_1)).1]), Qrp p1 p2 o0 (i0 + 1) (s_Kb x0 (PDecoder.mk v0_1)).2.failed (v0_2 ++ [(s_Kb x0 (PDecoder.mk v0_1)).1]))) [hB 0 hc0, hP 0 (Q2s 5 (Val.rows (s_Kd p1 p2 4 o0).1.list) i0 _ (Val.Qo hx0) rfl), hV 8 [(642, Container.rows (v0_2 ++ [(s_Kb x0 (PDecoder.mk v0_1)).1]))] (Q42 1 578 642 11 152 0 0 true (Container.rows v0_2) (Container.rows (v0_2 ++ [(s_Kb x0 (PDecoder.mk v0_1)).1])) (Container.cells (s_Kb x0 (PDecoder.mk v0_1)).1) (List.length v0_2) (List.length (v0_2 ++ [(s_Kb x0 (PDecoder.mk v0_1)).1])) rfl (Container.Q9 v0_2).symm (Container.Q9 (v0_2 ++ [(s_Kb x0 (PDecoder.mk v0_1)).1])).symm (Container.Q1t v0_2 (s_Kb x0 (PDecoder.mk v0_1)).1) (Container.Qu v0_2) rfl (by omega)), hS 0 true (Container.Qb (v0_2 ++ [(s_Kb x0 (PDecoder.mk v0_1)).1]) 11 rfl), hP 1 (Q2g i0 (by omega))] [aN (t_Kb x0 (PDecoder.mk v0_1) (H.2.1 x0 (Q2l hx0)))] (by kernel_rfl) hr
theorem Q13u (p1 : Val) (p2 : BA) (o0 : PDecoder) (H : Qik p1 p2 o0) : ∀ (r0 : List Val) (i0 : Nat) (v0_1 : Bool) (v0_2 : List Container), List.drop i0 (s_Kd p1 p2 4 o0).1.list = r0 → List.length v0_2 ≤ i0 → Qt8 p1 p2 o0 (Qrh p1 p2 o0 i0 v0_1 v0_2) (Q6a p1 p2 o0 r0 i0 v0_1 v0_2)
 | [], i0, v0_1, v0_2, hd, ho0_0 => by
  have hc0 : (decide ((i0 : Int) < ((List.length (s_Kd p1 p2 4 o0).1.list) : Int))) = false := by have := Q1m hd; simp; omega
  rw [Q6a]
  exact Q1cy p1 p2 o0 H i0 v0_1 v0_2 ho0_0 hc0
 | x0 :: r0, i0, v0_1, v0_2, hd, ho0_0 => by
  obtain ⟨hx0, hi0, hd'⟩ := Q1k hd
  have hc0 : (decide ((i0 : Int) < ((List.length (s_Kd p1 p2 4 o0).1.list) : Int))) = true := by simp; omega
  rw [Q6a]
  exact Qwl p1 p2 o0 (fun r hr => Q1ba p1 p2 o0 H x0 i0 v0_1 v0_2 hx0 hi0 ho0_0 hc0 hr) _ (Q13u p1 p2 o0 H r0 (i0 + 1) (s_Kb x0 (PDecoder.mk v0_1)).2.failed (v0_2 ++ [(s_Kb x0 (PDecoder.mk v0_1)).1]) hd' (by first | omega | (simp; omega)))
def s_Kt (p1 : Val) (p2 : BA) (o0 : PDecoder) : List Container × PDecoder := ((dE Container.dec p1 p2).1, ft o0 (isM p1 && (dE Container.dec p1 p2).2))
theorem Q1c1 (p1 : Val) (p2 : BA) (o0 : PDecoder) : ∀ (l : List Val) (i : Nat) (b : Bool) (a : List Container), Q6a p1 p2 o0 l i b a = (b || !(l.all fun x => (Container.dec x).2), a ++ l.map (fun x => (Container.dec x).1))
  | [], _, b, a => by rw [Q6a]; simp
  | x :: l, i, b, a => by
    rw [Q6a]
    refine (Q1c1 p1 p2 o0 l (i + 1) (b || !(Container.dec x).2) (a ++ [(Container.dec x).1])).trans ?_
    simp only [List.append_assoc, List.singleton_append, List.map_cons, List.all_cons, Bool.not_and, Bool.or_assoc]
theorem e_Kt (p1 : Val) (p2 : BA) (o0 : PDecoder) : s_Kt p1 p2 o0 = (((Q6a p1 p2 o0 (s_Kd p1 p2 4 o0).1.list 0 (s_Kd p1 p2 4 o0).2.failed []).2, (PDecoder.mk (Q6a p1 p2 o0 (s_Kd p1 p2 4 o0).1.list 0 (s_Kd p1 p2 4 o0).2.failed []).1))) := by
  rw [Q1c1]
  unfold s_Kd s_Kt
  simp only [Q91, Q4m]
  refine Prod.ext rfl ?_
  rw [Q8p o0.failed (isM p1) _ _ _ (Quw (prt p1 p2)), Q5g]
  rfl
def c_Kt (p1 : Val) (p2 : BA) (o0 : PDecoder) : En := .call 241 [.bx 0 0, .agg (Val.cells p1), .str p2, .fn 242 [.bx 0 0] []] [⟨1, 0, false, (PDecoder.cells o0)⟩]
def r_Kt (_p1 : Val) (_p2 : BA) (_o0 : PDecoder) (q0 : List Container) (q1 : PDecoder) : Rs := .ret (.sl (Container.rows q0)) [⟨1, 0, false, (PDecoder.cells q1)⟩]
def a_Kt (p1 : Val) (p2 : BA) (o0 : PDecoder) : Rs := r_Kt p1 p2 o0 (s_Kt p1 p2 o0).1 (s_Kt p1 p2 o0).2
def H_Kt (p1 : Val) : Prop := Val.Sm 1000000000 p1
theorem Q1ah (p1 : Val) (p2 : BA) (o0 : PDecoder) (H : H_Kt p1) : (H_Kd p1) ∧ (Qik p1 p2 o0) ∧ True := by
  have hl := Qmx (Q3a H p2)
  refine ⟨H, ?_, trivial⟩
  unfold Qik s_Kd
  simp only [Q91]
  exact ⟨Nat.le_trans hl.1 (Nat.le_of_ble_eq_true rfl), hl.2, trivial⟩
theorem t_Kt (p1 : Val) (p2 : BA) (o0 : PDecoder) (H : H_Kt p1) : Q7 G (c_Kt p1 p2 o0) (a_Kt p1 p2 o0) := by
 unfold a_Kt
 rw [e_Kt]
 have hl0 := Q13u p1 p2 o0 ((Q1ah p1 p2 o0 H).2.1) (s_Kd p1 p2 4 o0).1.list 0 (s_Kd p1 p2 4 o0).2.failed [] (by simp) (by simp)
 obtain ⟨z0, zo0, hl0⟩ := hl0
 exact Q8 (fn := Ir.Kt) rfl (h := [⟨1, 0, false, (PDecoder.cells o0)⟩]) (vw := []) VOK.nil [hP 8 (Q11 (Val.rows (s_Kd p1 p2 4 o0).1.list) (List.length (s_Kd p1 p2 4 o0).1.list) (Val.Q9 (s_Kd p1 p2 4 o0).1.list)), hS 0 true (Container.Qb (Q6a p1 p2 o0 (s_Kd p1 p2 4 o0).1.list 0 (s_Kd p1 p2 4 o0).2.failed []).2 11 rfl), hQ (Container.Q9 (Q6a p1 p2 o0 (s_Kd p1 p2 4 o0).1.list 0 (s_Kd p1 p2 4 o0).2.failed []).2).symm] [aN (t_Kd p1 p2 4 o0 (Q1ah p1 p2 o0 H).1), aV [(1, Container.rows (Q6a p1 p2 o0 (s_Kd p1 p2 4 o0).1.list 0 (s_Kd p1 p2 4 o0).2.failed []).2)] hl0] (by kernel_rfl)
def s_Kq (p1 : Val) (o0 : PDecoder) : ByteArray × PDecoder := ((xS p1).1, ft o0 (xS p1).2)
theorem e_Kq (p1 : Val) (o0 : PDecoder) : s_Kq p1 o0 = (bif o0.failed then
    bif (p1.kind == 3) then
      (p1.s, (PDecoder.mk true))
    else
      (eB, (PDecoder.mk true))
  else
    bif (p1.kind == 3) then
      (p1.s, (PDecoder.mk false))
    else
      (eB, (PDecoder.mk (!(p1.kind == 0))))) := by
  obtain ⟨b⟩ := o0
  unfold s_Kq ft xS
  cases b <;> cases (p1.kind == 3) <;> cases (p1.kind == 0) <;> rfl
def c_Kq (p1 : Val) (o0 : PDecoder) : En := .call 279 [.bx 0 0, .agg (Val.cells p1)] [⟨1, 0, false, (PDecoder.cells o0)⟩]
def r_Kq (_p1 : Val) (_o0 : PDecoder) (q0 : BA) (q1 : PDecoder) : Rs := .ret (.str q0) [⟨1, 0, false, (PDecoder.cells q1)⟩]
def a_Kq (p1 : Val) (o0 : PDecoder) : Rs := r_Kq p1 o0 (s_Kq p1 o0).1 (s_Kq p1 o0).2
theorem t_Kq (p1 : Val) (o0 : PDecoder) : Q7 G (c_Kq p1 o0) (a_Kq p1 o0) := by
 unfold a_Kq
 rw [e_Kq]
 cases h0 : o0.failed with
 | true =>
  cases h1 : (p1.kind == 3) with
  | true =>
   exact Q8 (fn := Ir.Kq) rfl (h := [⟨1, 0, false, (PDecoder.cells o0)⟩]) (vw := []) VOK.nil [hP 6 (decR o0.failed true [0] h0), hP 15 (dec (!(p1.kind == 3)) false (by rw [h1]; rfl))] [] (by kernel_rfl)
  | false =>
   exact Q8 (fn := Ir.Kq) rfl (h := [⟨1, 0, false, (PDecoder.cells o0)⟩]) (vw := []) VOK.nil [hP 6 (decR o0.failed true [0] h0), hP 15 (dec (!(p1.kind == 3)) true (by rw [h1]; rfl))] [] (by kernel_rfl)
 | false =>
  cases h1 : (p1.kind == 3) with
  | true =>
   exact Q8 (fn := Ir.Kq) rfl (h := [⟨1, 0, false, (PDecoder.cells o0)⟩]) (vw := []) VOK.nil [hP 6 (decR o0.failed false [0] h0), hP 3 (dec (!(p1.kind == 3)) false (by rw [h1]; rfl)), hP 11 (dec (!(p1.kind == 3)) false (by rw [h1]; rfl))] [] (by kernel_rfl)
  | false =>
   exact Q8 (fn := Ir.Kq) rfl (h := [⟨1, 0, false, (PDecoder.cells o0)⟩]) (vw := []) VOK.nil [hP 6 (decR o0.failed false [0] h0), hP 3 (dec (!(p1.kind == 3)) true (by rw [h1]; rfl)), hP 11 (dec (!(p1.kind == 3)) true (by rw [h1]; rfl))] [] (by kernel_rfl)
def Q4r (p1 : Val) (p2 : BA) (o0 : PDecoder) : List Val → Nat → Bool → (List ByteArray) → Bool × (List ByteArray)
 | [], _i0, v0_1, v0_2 =>
  (v0_1, v0_2)
 | x0 :: r0, i0, v0_1, v0_2 =>
  Q4r p1 p2 o0 r0 (i0 + 1) (s_Kq x0 (PDecoder.mk v0_1)).2.failed (v0_2 ++ [(s_Kq x0 (PDecoder.mk v0_1)).1])
def Qv1 (p1 : Val) (p2 : BA) (o0 : PDecoder) (i0 : Nat) (_v0_1 : Bool) (v0_2 : List ByteArray) : List PV :=
  [.un, .un, .un, .fn 279 [.bx 0 0] []] ++ nuns 5 ++ [.ms 1 1 0 (List.length v0_2)] ++ nuns 6 ++ [.sl (Val.rows (s_Kd p1 p2 4 o0).1.list), .int .i64 ((List.length (s_Kd p1 p2 4 o0).1.list) : Int), .int .i64 (i0 : Int)] ++ nuns 11
def Qhn (_p1 : Val) (_p2 : BA) (_o0 : PDecoder) (_i0 : Nat) (v0_1 : Bool) (v0_2 : List ByteArray) : List Ob :=
  [⟨1, 0, false, [.bool v0_1]⟩, ⟨1, 0, true, (Qn v0_2).flatten⟩]
def Qes (p1 : Val) (p2 : BA) (o0 : PDecoder) (i0 : Nat) (v0_1 : Bool) (v0_2 : List ByteArray) : En := .loop 1 Ir.Qir Ir.Q1fq (Qv1 p1 p2 o0 i0 v0_1 v0_2) (Qhn p1 p2 o0 i0 v0_1 v0_2)
def Qnn (_p1 : Val) (_p2 : BA) (_o0 : PDecoder) (q0 : Bool) (q1 : List ByteArray) (z : Nat → PV) (_zo : Nat → List PV) : St :=
  ⟨zr z 0 9 ++ [.ms 1 1 0 (List.length q1)] ++ zr z 10 20, [(0, ⟨1, 0, false, [.bool q0]⟩), (1, ⟨1, 0, true, (Qn q1).flatten⟩)], 66⟩
theorem Q11r (p1 : Val) (p2 : BA) (o0 : PDecoder) (i0 : Nat) (v0_1 : Bool) (v0_2 : List ByteArray) : VOK (Go.Pv.look (number 0 (Qhn p1 p2 o0 i0 v0_1 v0_2))) [(1, Qn v0_2)] := (VOK.cons (show Seen _ _ from Q3k (ob := ⟨1, 0, true, (Qn v0_2).flatten⟩) (Q41 v0_2 1 rfl)) VOK.nil)
def Qgi (p1 : Val) (p2 : BA) (o0 : PDecoder) (e : En) (q : Bool × (List ByteArray)) : Prop := ∃ z zo, Q7 G e (.st (.exit 0) (Qnn p1 p2 o0 q.1 q.2 z zo))
theorem Qs4 (p1 : Val) (p2 : BA) (o0 : PDecoder) {e e' : En} (h : ∀ r, Q7 G e r → Q7 G e' r) : ∀ q, Qgi p1 p2 o0 e q → Qgi p1 p2 o0 e' q
  | _, ⟨z, zo, hz⟩ => ⟨z, zo, h _ hz⟩
def Qbv (p1 : Val) (p2 : BA) (o0 : PDecoder) : Prop := (List.length (s_Kd p1 p2 4 o0).1.list ≤ 137438953472) ∧ True
def Qp1 (p1 : Val) (p2 : BA) (o0 : PDecoder) (i0 : Nat) (_v0_1 : Bool) (_v0_2 : List ByteArray) : List PV :=
  [.un, .un, .un, .fn 279 [.bx 0 0] []] ++ nuns 12 ++ [.sl (Val.rows (s_Kd p1 p2 4 o0).1.list), .int .i64 ((List.length (s_Kd p1 p2 4 o0).1.list) : Int), .int .i64 (i0 : Int), .bool false]
def Qk7 (_p1 : Val) (_p2 : BA) (_o0 : PDecoder) (_i0 : Nat) (_v0_1 : Bool) (_v0_2 : List ByteArray) : List (Nat × List PV) :=
  []
theorem Q17w (p1 : Val) (p2 : BA) (o0 : PDecoder) (_H : Qbv p1 p2 o0) (i0 : Nat) (v0_1 : Bool) (v0_2 : List ByteArray) (_ho0_0 : List.length v0_2 ≤ i0) (hc0 : (decide ((i0 : Int) < ((List.length (s_Kd p1 p2 4 o0).1.list) : Int))) = false) : Qgi p1 p2 o0 (Qes p1 p2 o0 i0 v0_1 v0_2) (v0_1, v0_2) := by
 exact ⟨(envF (Qp1 p1 p2 o0 i0 v0_1 v0_2)), (zoF (Qk7 p1 p2 o0 i0 v0_1 v0_2)), Qm (Q11r p1 p2 o0 i0 v0_1 v0_2) (x := ((.exit 0), Qnn p1 p2 o0 v0_1 v0_2 (envF (Qp1 p1 p2 o0 i0 v0_1 v0_2)) (zoF (Qk7 p1 p2 o0 i0 v0_1 v0_2)))) [hB 0 hc0] [] (by kernel_rfl)⟩
theorem Q15v (p1 : Val) (p2 : BA) (o0 : PDecoder) (H : Qbv p1 p2 o0) (x0 : Val) (i0 : Nat) (v0_1 : Bool) (v0_2 : List ByteArray) (hx0 : (s_Kd p1 p2 4 o0).1.list[i0]? = some x0) (hi0 : i0 < List.length (s_Kd p1 p2 4 o0).1.list) (ho0_0 : List.length v0_2 ≤ i0) (hc0 : (decide ((i0 : Int) < ((List.length (s_Kd p1 p2 4 o0).1.list) : Int))) = true) {r : Rs} (hr : Q7 G (Qes p1 p2 o0 (i0 + 1) (s_Kq x0 (PDecoder.mk v0_1)).2.failed (v0_2 ++ [(s_Kq x0 (PDecoder.mk v0_1)).1])) r) : Q7 G (Qes p1 p2 o0 i0 v0_1 v0_2) r := by
 have hB0 := H.1
 exact Ql (Q11r p1 p2 o0 i0 v0_1 v0_2) (y := (Qv1 p1 p2 o0 (i0 + 1) (s_Kq x0 (PDecoder.mk v0_1)).2.failed (v0_2 ++ [(s_Kq x0 (PDecoder.mk v0_1)).1]), Qhn p1 p2 o0 (i0 + 1) (s_Kq x0 (PDecoder.mk v0_1)).2.failed (v0_2 ++ [(s_Kq x0 (PDecoder.mk v0_1)).1]))) [hB 0 hc0, hP 0 (Q2s 5 (Val.rows (s_Kd p1 p2 4 o0).1.list) i0 _ (Val.Qo hx0) rfl), hV 8 [(642, Qn (v0_2 ++ [(s_Kq x0 (PDecoder.mk v0_1)).1]))] (Q42 1 578 642 1 16 0 0 true (Qn v0_2) (Qn (v0_2 ++ [(s_Kq x0 (PDecoder.mk v0_1)).1])) [.str (s_Kq x0 (PDecoder.mk v0_1)).1] (List.length v0_2) (List.length (v0_2 ++ [(s_Kq x0 (PDecoder.mk v0_1)).1])) rfl (Q2f v0_2).symm (Q2f (v0_2 ++ [(s_Kq x0 (PDecoder.mk v0_1)).1])).symm (Qmq v0_2 (s_Kq x0 (PDecoder.mk v0_1)).1) (Qbm v0_2) rfl (by omega)), hS 0 true (Q41 (v0_2 ++ [(s_Kq x0 (PDecoder.mk v0_1)).1]) 1 rfl), hP 1 (Q2g i0 (by omega))] [aN (t_Kq x0 (PDecoder.mk v0_1))] (by kernel_rfl) hr
theorem Qxy (p1 : Val) (p2 : BA) (o0 : PDecoder) (H : Qbv p1 p2 o0) : ∀ (r0 : List Val) (i0 : Nat) (v0_1 : Bool) (v0_2 : List ByteArray), List.drop i0 (s_Kd p1 p2 4 o0).1.list = r0 → List.length v0_2 ≤ i0 → Qgi p1 p2 o0 (Qes p1 p2 o0 i0 v0_1 v0_2) (Q4r p1 p2 o0 r0 i0 v0_1 v0_2)
 | [], i0, v0_1, v0_2, hd, ho0_0 => by
  have hc0 : (decide ((i0 : Int) < ((List.length (s_Kd p1 p2 4 o0).1.list) : Int))) = false := by have := Q1m hd; simp; omega
  rw [Q4r]
  exact Q17w p1 p2 o0 H i0 v0_1 v0_2 ho0_0 hc0
 | x0 :: r0, i0, v0_1, v0_2, hd, ho0_0 => by
  obtain ⟨hx0, hi0, hd'⟩ := Q1k hd
  have hc0 : (decide ((i0 : Int) < ((List.length (s_Kd p1 p2 4 o0).1.list) : Int))) = true := by simp; omega
  rw [Q4r]
  exact Qs4 p1 p2 o0 (fun r hr => Q15v p1 p2 o0 H x0 i0 v0_1 v0_2 hx0 hi0 ho0_0 hc0 hr) _ (Qxy p1 p2 o0 H r0 (i0 + 1) (s_Kq x0 (PDecoder.mk v0_1)).2.failed (v0_2 ++ [(s_Kq x0 (PDecoder.mk v0_1)).1]) hd' (by first | omega | (simp; omega)))
def Q111 (p1 : Val) (p2 : BA) (o0 : PDecoder) : List ByteArray × PDecoder := ((dE xS p1 p2).1, ft o0 (isM p1 && (dE xS p1 p2).2))
theorem Q14f (p1 : Val) (p2 : BA) (o0 : PDecoder) : ∀ (l : List Val) (i : Nat) (b : Bool) (a : List ByteArray), Q4r p1 p2 o0 l i b a = (b || !(l.all fun x => (xS x).2), a ++ l.map (fun x => (xS x).1))
  | [], _, b, a => by rw [Q4r]; simp
  | x :: l, i, b, a => by
    rw [Q4r]
    refine (Q14f p1 p2 o0 l (i + 1) (b || !(xS x).2) (a ++ [(xS x).1])).trans ?_
    simp only [List.append_assoc, List.singleton_append, List.map_cons, List.all_cons, Bool.not_and, Bool.or_assoc]
theorem Q1yk (p1 : Val) (p2 : BA) (o0 : PDecoder) : Q111 p1 p2 o0 = (((Q4r p1 p2 o0 (s_Kd p1 p2 4 o0).1.list 0 (s_Kd p1 p2 4 o0).2.failed []).2, (PDecoder.mk (Q4r p1 p2 o0 (s_Kd p1 p2 4 o0).1.list 0 (s_Kd p1 p2 4 o0).2.failed []).1))) := by
  rw [Q14f]
  unfold s_Kd Q111
  simp only [Q91, Q4m]
  refine Prod.ext rfl ?_
  rw [Q8p o0.failed (isM p1) _ _ _ (Quw (prt p1 p2)), Q5g]
  rfl
def Q1w6 (p1 : Val) (p2 : BA) (o0 : PDecoder) : En := .call 278 [.bx 0 0, .agg (Val.cells p1), .str p2, .fn 279 [.bx 0 0] []] [⟨1, 0, false, (PDecoder.cells o0)⟩]
def Q20g (_p1 : Val) (_p2 : BA) (_o0 : PDecoder) (q0 : List ByteArray) (q1 : PDecoder) : Rs := .ret (.sl (Qn q0)) [⟨1, 0, false, (PDecoder.cells q1)⟩]
def Q1ne (p1 : Val) (p2 : BA) (o0 : PDecoder) : Rs := Q20g p1 p2 o0 (Q111 p1 p2 o0).1 (Q111 p1 p2 o0).2
def Q1ha (p1 : Val) : Prop := Val.Sm 1000000000 p1
theorem Q12u (p1 : Val) (p2 : BA) (o0 : PDecoder) (H : Q1ha p1) : (H_Kd p1) ∧ (Qbv p1 p2 o0) ∧ True := by
  have hl := Qmx (Q3a H p2)
  refine ⟨H, ?_, trivial⟩
  unfold Qbv s_Kd
  simp only [Q91]
  exact ⟨Nat.le_trans hl.1 (Nat.le_of_ble_eq_true rfl), trivial⟩
theorem Q212 (p1 : Val) (p2 : BA) (o0 : PDecoder) (H : Q1ha p1) : Q7 G (Q1w6 p1 p2 o0) (Q1ne p1 p2 o0) := by
 unfold Q1ne
 rw [Q1yk]
 have hl0 := Qxy p1 p2 o0 ((Q12u p1 p2 o0 H).2.1) (s_Kd p1 p2 4 o0).1.list 0 (s_Kd p1 p2 4 o0).2.failed [] (by simp) (by simp)
 obtain ⟨z0, zo0, hl0⟩ := hl0
 exact Q8 (fn := Ir.K10) rfl (h := [⟨1, 0, false, (PDecoder.cells o0)⟩]) (vw := []) VOK.nil [hP 8 (Q11 (Val.rows (s_Kd p1 p2 4 o0).1.list) (List.length (s_Kd p1 p2 4 o0).1.list) (Val.Q9 (s_Kd p1 p2 4 o0).1.list)), hS 0 true (Q41 (Q4r p1 p2 o0 (s_Kd p1 p2 4 o0).1.list 0 (s_Kd p1 p2 4 o0).2.failed []).2 1 rfl), hQ (Q2f (Q4r p1 p2 o0 (s_Kd p1 p2 4 o0).1.list 0 (s_Kd p1 p2 4 o0).2.failed []).2).symm] [aN (t_Kd p1 p2 4 o0 (Q12u p1 p2 o0 H).1), aV [(1, Qn (Q4r p1 p2 o0 (s_Kd p1 p2 4 o0).1.list 0 (s_Kd p1 p2 4 o0).2.failed []).2)] hl0] (by kernel_rfl)
def s_Kj (p1 : Val) (o0 : PDecoder) : Requirement × PDecoder := ((Requirement.dec p1).1, ft o0 (Requirement.dec p1).2)
theorem e_Kj (p1 : Val) (o0 : PDecoder) : s_Kj p1 o0 = (((Requirement.mk (s_Kn p1 Qz (s_Ko p1 o0).2).1 (s_Kg p1 Q3w (s_Kn p1 Qz (s_Ko p1 o0).2).2).1 (Q111 p1 Q1g (s_Kg p1 Q3w (s_Kn p1 Qz (s_Ko p1 o0).2).2).2).1), (Q111 p1 Q1g (s_Kg p1 Q3w (s_Kn p1 Qz (s_Ko p1 o0).2).2).2).2)) := by
  simp only [s_Ko, s_Kg, s_Kn, Q111, s_Kj, Requirement.dec, Qlv, Bool.and_assoc, Bool.and_left_comm, Bool.and_comm, Bool.and_self_left]
def c_Kj (p1 : Val) (o0 : PDecoder) : En := .call 244 [.bx 0 0, .agg (Val.cells p1)] [⟨1, 0, false, (PDecoder.cells o0)⟩]
def r_Kj (_p1 : Val) (_o0 : PDecoder) (q0 : Requirement) (q1 : PDecoder) : Rs := .ret (.agg (Requirement.cells q0)) [⟨1, 0, false, (PDecoder.cells q1)⟩]
def a_Kj (p1 : Val) (o0 : PDecoder) : Rs := r_Kj p1 o0 (s_Kj p1 o0).1 (s_Kj p1 o0).2
def H_Kj (p1 : Val) : Prop := Val.Sm 1000000000 p1
theorem Q10c (p1 : Val) (_o0 : PDecoder) (H : H_Kj p1) : (H_Kn p1) ∧ (H_Kg p1) ∧ (Q1ha p1) ∧ True := by
  repeat' with_reducible apply And.intro
  all_goals first | exact True.intro | exact H | exact Qmp (Q3a H _)
theorem t_Kj (p1 : Val) (o0 : PDecoder) (H : H_Kj p1) : Q7 G (c_Kj p1 o0) (a_Kj p1 o0) := by
 unfold a_Kj
 rw [e_Kj]
 exact Q8 (fn := Ir.Kj) rfl (h := [⟨1, 0, false, (PDecoder.cells o0)⟩]) (vw := []) VOK.nil [] [aN (t_Ko p1 o0), aN (t_Kn p1 Qz (s_Ko p1 o0).2 (Q10c p1 o0 H).1), aN (t_Kg p1 Q3w (s_Kn p1 Qz (s_Ko p1 o0).2).2 (Q10c p1 o0 H).2.1), aN (Q212 p1 Q1g (s_Kg p1 Q3w (s_Kn p1 Qz (s_Ko p1 o0).2).2).2 (Q10c p1 o0 H).2.2.1)] (by kernel_rfl)
def Q6b (p1 : Val) (p2 : BA) (o0 : PDecoder) : List Val → Nat → Bool → (List Requirement) → Bool × (List Requirement)
 | [], _i0, v0_1, v0_2 =>
  (v0_1, v0_2)
 | x0 :: r0, i0, v0_1, v0_2 =>
  Q6b p1 p2 o0 r0 (i0 + 1) (s_Kj x0 (PDecoder.mk v0_1)).2.failed (v0_2 ++ [(s_Kj x0 (PDecoder.mk v0_1)).1])
def Q11h (p1 : Val) (p2 : BA) (o0 : PDecoder) (i0 : Nat) (_v0_1 : Bool) (v0_2 : List Requirement) : List PV :=
  [.un, .un, .un, .fn 244 [.bx 0 0] []] ++ nuns 5 ++ [.ms 1 3 0 (List.length v0_2)] ++ nuns 6 ++ [.sl (Val.rows (s_Kd p1 p2 4 o0).1.list), .int .i64 ((List.length (s_Kd p1 p2 4 o0).1.list) : Int), .int .i64 (i0 : Int)] ++ nuns 11
def Qrq (_p1 : Val) (_p2 : BA) (_o0 : PDecoder) (_i0 : Nat) (v0_1 : Bool) (v0_2 : List Requirement) : List Ob :=
  [⟨1, 0, false, [.bool v0_1]⟩, ⟨3, 0, true, (Requirement.rows v0_2).flatten⟩]
def Qri (p1 : Val) (p2 : BA) (o0 : PDecoder) (i0 : Nat) (v0_1 : Bool) (v0_2 : List Requirement) : En := .loop 1 Ir.Qnc Ir.Q1n4 (Q11h p1 p2 o0 i0 v0_1 v0_2) (Qrq p1 p2 o0 i0 v0_1 v0_2)
def Qww (_p1 : Val) (_p2 : BA) (_o0 : PDecoder) (q0 : Bool) (q1 : List Requirement) (z : Nat → PV) (_zo : Nat → List PV) : St :=
  ⟨zr z 0 9 ++ [.ms 1 3 0 (List.length q1)] ++ zr z 10 20, [(0, ⟨1, 0, false, [.bool q0]⟩), (1, ⟨3, 0, true, (Requirement.rows q1).flatten⟩)], 66⟩
theorem Q19p (p1 : Val) (p2 : BA) (o0 : PDecoder) (i0 : Nat) (v0_1 : Bool) (v0_2 : List Requirement) : VOK (Go.Pv.look (number 0 (Qrq p1 p2 o0 i0 v0_1 v0_2))) [(1, Requirement.rows v0_2)] := (VOK.cons (show Seen _ _ from Q3k (ob := ⟨3, 0, true, (Requirement.rows v0_2).flatten⟩) (Requirement.Qb v0_2 3 rfl)) VOK.nil)
def Qt9 (p1 : Val) (p2 : BA) (o0 : PDecoder) (e : En) (q : Bool × (List Requirement)) : Prop := ∃ z zo, Q7 G e (.st (.exit 0) (Qww p1 p2 o0 q.1 q.2 z zo))
theorem Qwm (p1 : Val) (p2 : BA) (o0 : PDecoder) {e e' : En} (h : ∀ r, Q7 G e r → Q7 G e' r) : ∀ q, Qt9 p1 p2 o0 e q → Qt9 p1 p2 o0 e' q
  | _, ⟨z, zo, hz⟩ => ⟨z, zo, h _ hz⟩
def Qil (p1 : Val) (p2 : BA) (o0 : PDecoder) : Prop := (List.length (s_Kd p1 p2 4 o0).1.list ≤ 137438953472) ∧ (∀ x0 ∈ (s_Kd p1 p2 4 o0).1.list, H_Kj x0) ∧ True
def Qx7 (p1 : Val) (p2 : BA) (o0 : PDecoder) (i0 : Nat) (_v0_1 : Bool) (_v0_2 : List Requirement) : List PV :=
  [.un, .un, .un, .fn 244 [.bx 0 0] []] ++ nuns 12 ++ [.sl (Val.rows (s_Kd p1 p2 4 o0).1.list), .int .i64 ((List.length (s_Kd p1 p2 4 o0).1.list) : Int), .int .i64 (i0 : Int), .bool false]
def Qov (_p1 : Val) (_p2 : BA) (_o0 : PDecoder) (_i0 : Nat) (_v0_1 : Bool) (_v0_2 : List Requirement) : List (Nat × List PV) :=
  []
theorem Q1cz (p1 : Val) (p2 : BA) (o0 : PDecoder) (_H : Qil p1 p2 o0) (i0 : Nat) (v0_1 : Bool) (v0_2 : List Requirement) (_ho0_0 : List.length v0_2 ≤ i0) (hc0 : (decide ((i0 : Int) < ((List.length (s_Kd p1 p2 4 o0).1.list) : Int))) = false) : Qt9 p1 p2 o0 (Qri p1 p2 o0 i0 v0_1 v0_2) (v0_1, v0_2) := by
 exact ⟨(envF (Qx7 p1 p2 o0 i0 v0_1 v0_2)), (zoF (Qov p1 p2 o0 i0 v0_1 v0_2)), Qm (Q19p p1 p2 o0 i0 v0_1 v0_2) (x := ((.exit 0), Qww p1 p2 o0 v0_1 v0_2 (envF (Qx7 p1 p2 o0 i0 v0_1 v0_2)) (zoF (Qov p1 p2 o0 i0 v0_1 v0_2)))) [hB 0 hc0] [] (by kernel_rfl)⟩
theorem Q1bb (p1 : Val) (p2 : BA) (o0 : PDecoder) (H : Qil p1 p2 o0) (x0 : Val) (i0 : Nat) (v0_1 : Bool) (v0_2 : List Requirement) (hx0 : (s_Kd p1 p2 4 o0).1.list[i0]? = some x0) (hi0 : i0 < List.length (s_Kd p1 p2 4 o0).1.list) (ho0_0 : List.length v0_2 ≤ i0) (hc0 : (decide ((i0 : Int) < ((List.length (s_Kd p1 p2 4 o0).1.list) : Int))) = true) {r : Rs} (hr : Q7 G (Qri p1 p2 o0 (i0 + 1) (s_Kj x0 (PDecoder.mk v0_1)).2.failed (v0_2 ++ [(s_Kj x0 (PDecoder.mk v0_1)).1])) r) : Q7 G (Qri p1 p2 o0 i0 v0_1 v0_2) r := by
 have hB0 := H.1
 exact Ql (Q19p p1 p2 o0 i0 v0_1 v0_2) (y := (Q11h p1 p2 o0 (i0 + 1) (s_Kj x0 (PDecoder.mk v0_1)).2.failed (v0_2 ++ [(s_Kj x0 (PDecoder.mk v0_1)).1]), Qrq p1 p2 o0 (i0 + 1) (s_Kj x0 (PDecoder.mk v0_1)).2.failed (v0_2 ++ [(s_Kj x0 (PDecoder.mk v0_1)).1]))) [hB 0 hc0, hP 0 (Q2s 5 (Val.rows (s_Kd p1 p2 4 o0).1.list) i0 _ (Val.Qo hx0) rfl), hV 8 [(642, Requirement.rows (v0_2 ++ [(s_Kj x0 (PDecoder.mk v0_1)).1]))] (Q42 1 578 642 3 48 0 0 true (Requirement.rows v0_2) (Requirement.rows (v0_2 ++ [(s_Kj x0 (PDecoder.mk v0_1)).1])) (Requirement.cells (s_Kj x0 (PDecoder.mk v0_1)).1) (List.length v0_2) (List.length (v0_2 ++ [(s_Kj x0 (PDecoder.mk v0_1)).1])) rfl (Requirement.Q9 v0_2).symm (Requirement.Q9 (v0_2 ++ [(s_Kj x0 (PDecoder.mk v0_1)).1])).symm (Requirement.Q1t v0_2 (s_Kj x0 (PDecoder.mk v0_1)).1) (Requirement.Qu v0_2) rfl (by omega)), hS 0 true (Requirement.Qb (v0_2 ++ [(s_Kj x0 (PDecoder.mk v0_1)).1]) 3 rfl), hP 1 (Q2g i0 (by omega))] [aN (t_Kj x0 (PDecoder.mk v0_1) (H.2.1 x0 (Q2l hx0)))] (by kernel_rfl) hr
theorem Q13v (p1 : Val) (p2 : BA) (o0 : PDecoder) (H : Qil p1 p2 o0) : ∀ (r0 : List Val) (i0 : Nat) (v0_1 : Bool) (v0_2 : List Requirement), List.drop i0 (s_Kd p1 p2 4 o0).1.list = r0 → List.length v0_2 ≤ i0 → Qt9 p1 p2 o0 (Qri p1 p2 o0 i0 v0_1 v0_2) (Q6b p1 p2 o0 r0 i0 v0_1 v0_2)
 | [], i0, v0_1, v0_2, hd, ho0_0 => by
  have hc0 : (decide ((i0 : Int) < ((List.length (s_Kd p1 p2 4 o0).1.list) : Int))) = false := by have := Q1m hd; simp; omega
  rw [Q6b]
  exact Q1cz p1 p2 o0 H i0 v0_1 v0_2 ho0_0 hc0
 | x0 :: r0, i0, v0_1, v0_2, hd, ho0_0 => by
  obtain ⟨hx0, hi0, hd'⟩ := Q1k hd
  have hc0 : (decide ((i0 : Int) < ((List.length (s_Kd p1 p2 4 o0).1.list) : Int))) = true := by simp; omega
  rw [Q6b]
  exact Qwm p1 p2 o0 (fun r hr => Q1bb p1 p2 o0 H x0 i0 v0_1 v0_2 hx0 hi0 ho0_0 hc0 hr) _ (Q13v p1 p2 o0 H r0 (i0 + 1) (s_Kj x0 (PDecoder.mk v0_1)).2.failed (v0_2 ++ [(s_Kj x0 (PDecoder.mk v0_1)).1]) hd' (by first | omega | (simp; omega)))
def s_Ku (p1 : Val) (p2 : BA) (o0 : PDecoder) : List Requirement × PDecoder := ((dE Requirement.dec p1 p2).1, ft o0 (isM p1 && (dE Requirement.dec p1 p2).2))
theorem Q1c2 (p1 : Val) (p2 : BA) (o0 : PDecoder) : ∀ (l : List Val) (i : Nat) (b : Bool) (a : List Requirement), Q6b p1 p2 o0 l i b a = (b || !(l.all fun x => (Requirement.dec x).2), a ++ l.map (fun x => (Requirement.dec x).1))
  | [], _, b, a => by rw [Q6b]; simp
  | x :: l, i, b, a => by
    rw [Q6b]
    refine (Q1c2 p1 p2 o0 l (i + 1) (b || !(Requirement.dec x).2) (a ++ [(Requirement.dec x).1])).trans ?_
    simp only [List.append_assoc, List.singleton_append, List.map_cons, List.all_cons, Bool.not_and, Bool.or_assoc]
theorem e_Ku (p1 : Val) (p2 : BA) (o0 : PDecoder) : s_Ku p1 p2 o0 = (((Q6b p1 p2 o0 (s_Kd p1 p2 4 o0).1.list 0 (s_Kd p1 p2 4 o0).2.failed []).2, (PDecoder.mk (Q6b p1 p2 o0 (s_Kd p1 p2 4 o0).1.list 0 (s_Kd p1 p2 4 o0).2.failed []).1))) := by
  rw [Q1c2]
  unfold s_Kd s_Ku
  simp only [Q91, Q4m]
  refine Prod.ext rfl ?_
  rw [Q8p o0.failed (isM p1) _ _ _ (Quw (prt p1 p2)), Q5g]
  rfl
def c_Ku (p1 : Val) (p2 : BA) (o0 : PDecoder) : En := .call 243 [.bx 0 0, .agg (Val.cells p1), .str p2, .fn 244 [.bx 0 0] []] [⟨1, 0, false, (PDecoder.cells o0)⟩]
def r_Ku (_p1 : Val) (_p2 : BA) (_o0 : PDecoder) (q0 : List Requirement) (q1 : PDecoder) : Rs := .ret (.sl (Requirement.rows q0)) [⟨1, 0, false, (PDecoder.cells q1)⟩]
def a_Ku (p1 : Val) (p2 : BA) (o0 : PDecoder) : Rs := r_Ku p1 p2 o0 (s_Ku p1 p2 o0).1 (s_Ku p1 p2 o0).2
def H_Ku (p1 : Val) : Prop := Val.Sm 1000000000 p1
theorem Q1ai (p1 : Val) (p2 : BA) (o0 : PDecoder) (H : H_Ku p1) : (H_Kd p1) ∧ (Qil p1 p2 o0) ∧ True := by
  have hl := Qmx (Q3a H p2)
  refine ⟨H, ?_, trivial⟩
  unfold Qil s_Kd
  simp only [Q91]
  exact ⟨Nat.le_trans hl.1 (Nat.le_of_ble_eq_true rfl), hl.2, trivial⟩
theorem t_Ku (p1 : Val) (p2 : BA) (o0 : PDecoder) (H : H_Ku p1) : Q7 G (c_Ku p1 p2 o0) (a_Ku p1 p2 o0) := by
 unfold a_Ku
 rw [e_Ku]
 have hl0 := Q13v p1 p2 o0 ((Q1ai p1 p2 o0 H).2.1) (s_Kd p1 p2 4 o0).1.list 0 (s_Kd p1 p2 4 o0).2.failed [] (by simp) (by simp)
 obtain ⟨z0, zo0, hl0⟩ := hl0
 exact Q8 (fn := Ir.Ku) rfl (h := [⟨1, 0, false, (PDecoder.cells o0)⟩]) (vw := []) VOK.nil [hP 8 (Q11 (Val.rows (s_Kd p1 p2 4 o0).1.list) (List.length (s_Kd p1 p2 4 o0).1.list) (Val.Q9 (s_Kd p1 p2 4 o0).1.list)), hS 0 true (Requirement.Qb (Q6b p1 p2 o0 (s_Kd p1 p2 4 o0).1.list 0 (s_Kd p1 p2 4 o0).2.failed []).2 3 rfl), hQ (Requirement.Q9 (Q6b p1 p2 o0 (s_Kd p1 p2 4 o0).1.list 0 (s_Kd p1 p2 4 o0).2.failed []).2).symm] [aN (t_Kd p1 p2 4 o0 (Q1ai p1 p2 o0 H).1), aV [(1, Requirement.rows (Q6b p1 p2 o0 (s_Kd p1 p2 4 o0).1.list 0 (s_Kd p1 p2 4 o0).2.failed []).2)] hl0] (by kernel_rfl)
def s_Kf (p1 : Val) (o0 : PDecoder) : NodeTerm × PDecoder := ((NodeTerm.dec p1).1, ft o0 (NodeTerm.dec p1).2)
theorem e_Kf (p1 : Val) (o0 : PDecoder) : s_Kf p1 o0 = (((NodeTerm.mk (s_Kc p1 Qa (s_Ko p1 o0).2).1 (s_Ku p1 Q5 (s_Kc p1 Qa (s_Ko p1 o0).2).2).1 (s_Kg p1 Q10 (s_Ku p1 Q5 (s_Kc p1 Qa (s_Ko p1 o0).2).2).2).1), (s_Kg p1 Q10 (s_Ku p1 Q5 (s_Kc p1 Qa (s_Ko p1 o0).2).2).2).2)) := by
  simp only [s_Ko, s_Kg, s_Kc, s_Ku, s_Kf, NodeTerm.dec, Qlv, Bool.and_assoc, Bool.and_left_comm, Bool.and_self_left]
def c_Kf (p1 : Val) (o0 : PDecoder) : En := .call 246 [.bx 0 0, .agg (Val.cells p1)] [⟨1, 0, false, (PDecoder.cells o0)⟩]
def r_Kf (_p1 : Val) (_o0 : PDecoder) (q0 : NodeTerm) (q1 : PDecoder) : Rs := .ret (.agg (NodeTerm.cells q0)) [⟨1, 0, false, (PDecoder.cells q1)⟩]
def a_Kf (p1 : Val) (o0 : PDecoder) : Rs := r_Kf p1 o0 (s_Kf p1 o0).1 (s_Kf p1 o0).2
def H_Kf (p1 : Val) : Prop := Val.Sm 1000000000 p1
theorem Q10b (p1 : Val) (_o0 : PDecoder) (H : H_Kf p1) : (H_Kc p1) ∧ (H_Ku p1) ∧ (H_Kg p1) ∧ True := by
  repeat' with_reducible apply And.intro
  all_goals first | exact True.intro | exact H | exact Qmp (Q3a H _)
theorem t_Kf (p1 : Val) (o0 : PDecoder) (H : H_Kf p1) : Q7 G (c_Kf p1 o0) (a_Kf p1 o0) := by
 unfold a_Kf
 rw [e_Kf]
 exact Q8 (fn := Ir.Kf) rfl (h := [⟨1, 0, false, (PDecoder.cells o0)⟩]) (vw := []) VOK.nil [] [aN (t_Ko p1 o0), aN (t_Kc p1 Qa (s_Ko p1 o0).2 (Q10b p1 o0 H).1), aN (t_Ku p1 Q5 (s_Kc p1 Qa (s_Ko p1 o0).2).2 (Q10b p1 o0 H).2.1), aN (t_Kg p1 Q10 (s_Ku p1 Q5 (s_Kc p1 Qa (s_Ko p1 o0).2).2).2 (Q10b p1 o0 H).2.2.1)] (by kernel_rfl)
def Q6c (p1 : Val) (p2 : BA) (o0 : PDecoder) : List Val → Nat → Bool → (List NodeTerm) → Bool × (List NodeTerm)
 | [], _i0, v0_1, v0_2 =>
  (v0_1, v0_2)
 | x0 :: r0, i0, v0_1, v0_2 =>
  Q6c p1 p2 o0 r0 (i0 + 1) (s_Kf x0 (PDecoder.mk v0_1)).2.failed (v0_2 ++ [(s_Kf x0 (PDecoder.mk v0_1)).1])
def Q11i (p1 : Val) (p2 : BA) (o0 : PDecoder) (i0 : Nat) (_v0_1 : Bool) (v0_2 : List NodeTerm) : List PV :=
  [.un, .un, .un, .fn 246 [.bx 0 0] []] ++ nuns 5 ++ [.ms 1 3 0 (List.length v0_2)] ++ nuns 6 ++ [.sl (Val.rows (s_Kd p1 p2 4 o0).1.list), .int .i64 ((List.length (s_Kd p1 p2 4 o0).1.list) : Int), .int .i64 (i0 : Int)] ++ nuns 11
def Qrr (_p1 : Val) (_p2 : BA) (_o0 : PDecoder) (_i0 : Nat) (v0_1 : Bool) (v0_2 : List NodeTerm) : List Ob :=
  [⟨1, 0, false, [.bool v0_1]⟩, ⟨3, 0, true, (NodeTerm.rows v0_2).flatten⟩]
def Qrj (p1 : Val) (p2 : BA) (o0 : PDecoder) (i0 : Nat) (v0_1 : Bool) (v0_2 : List NodeTerm) : En := .loop 1 Ir.Qnd Ir.Q1n5 (Q11i p1 p2 o0 i0 v0_1 v0_2) (Qrr p1 p2 o0 i0 v0_1 v0_2)
def Qwx (_p1 : Val) (_p2 : BA) (_o0 : PDecoder) (q0 : Bool) (q1 : List NodeTerm) (z : Nat → PV) (_zo : Nat → List PV) : St :=
  ⟨zr z 0 9 ++ [.ms 1 3 0 (List.length q1)] ++ zr z 10 20, [(0, ⟨1, 0, false, [.bool q0]⟩), (1, ⟨3, 0, true, (NodeTerm.rows q1).flatten⟩)], 66⟩
theorem Q19q (p1 : Val) (p2 : BA) (o0 : PDecoder) (i0 : Nat) (v0_1 : Bool) (v0_2 : List NodeTerm) : VOK (Go.Pv.look (number 0 (Qrr p1 p2 o0 i0 v0_1 v0_2))) [(1, NodeTerm.rows v0_2)] := (VOK.cons (show Seen _ _ from Q3k (ob := ⟨3, 0, true, (NodeTerm.rows v0_2).flatten⟩) (NodeTerm.Qb v0_2 3 rfl)) VOK.nil)
def Qta (p1 : Val) (p2 : BA) (o0 : PDecoder) (e : En) (q : Bool × (List NodeTerm)) : Prop := ∃ z zo, Q7 G e (.st (.exit 0) (Qwx p1 p2 o0 q.1 q.2 z zo))
theorem Qwn (p1 : Val) (p2 : BA) (o0 : PDecoder) {e e' : En} (h : ∀ r, Q7 G e r → Q7 G e' r) : ∀ q, Qta p1 p2 o0 e q → Qta p1 p2 o0 e' q
  | _, ⟨z, zo, hz⟩ => ⟨z, zo, h _ hz⟩
def Qim (p1 : Val) (p2 : BA) (o0 : PDecoder) : Prop := (List.length (s_Kd p1 p2 4 o0).1.list ≤ 137438953472) ∧ (∀ x0 ∈ (s_Kd p1 p2 4 o0).1.list, H_Kf x0) ∧ True
def Qx8 (p1 : Val) (p2 : BA) (o0 : PDecoder) (i0 : Nat) (_v0_1 : Bool) (_v0_2 : List NodeTerm) : List PV :=
  [.un, .un, .un, .fn 246 [.bx 0 0] []] ++ nuns 12 ++ [.sl (Val.rows (s_Kd p1 p2 4 o0).1.list), .int .i64 ((List.length (s_Kd p1 p2 4 o0).1.list) : Int), .int .i64 (i0 : Int), .bool false]
def Qow (_p1 : Val) (_p2 : BA) (_o0 : PDecoder) (_i0 : Nat) (_v0_1 : Bool) (_v0_2 : List NodeTerm) : List (Nat × List PV) :=
  []
theorem Q1d0 (p1 : Val) (p2 : BA) (o0 : PDecoder) (_H : Qim p1 p2 o0) (i0 : Nat) (v0_1 : Bool) (v0_2 : List NodeTerm) (_ho0_0 : List.length v0_2 ≤ i0) (hc0 : (decide ((i0 : Int) < ((List.length (s_Kd p1 p2 4 o0).1.list) : Int))) = false) : Qta p1 p2 o0 (Qrj p1 p2 o0 i0 v0_1 v0_2) (v0_1, v0_2) := by
 exact ⟨(envF (Qx8 p1 p2 o0 i0 v0_1 v0_2)), (zoF (Qow p1 p2 o0 i0 v0_1 v0_2)), Qm (Q19q p1 p2 o0 i0 v0_1 v0_2) (x := ((.exit 0), Qwx p1 p2 o0 v0_1 v0_2 (envF (Qx8 p1 p2 o0 i0 v0_1 v0_2)) (zoF (Qow p1 p2 o0 i0 v0_1 v0_2)))) [hB 0 hc0] [] (by kernel_rfl)⟩
theorem Q1bc (p1 : Val) (p2 : BA) (o0 : PDecoder) (H : Qim p1 p2 o0) (x0 : Val) (i0 : Nat) (v0_1 : Bool) (v0_2 : List NodeTerm) (hx0 : (s_Kd p1 p2 4 o0).1.list[i0]? = some x0) (hi0 : i0 < List.length (s_Kd p1 p2 4 o0).1.list) (ho0_0 : List.length v0_2 ≤ i0) (hc0 : (decide ((i0 : Int) < ((List.length (s_Kd p1 p2 4 o0).1.list) : Int))) = true) {r : Rs} (hr : Q7 G (Qrj p1 p2 o0 (i0 + 1) (s_Kf x0 (PDecoder.mk v0_1)).2.failed (v0_2 ++ [(s_Kf x0 (PDecoder.mk v0_1)).1])) r) : Q7 G (Qrj p1 p2 o0 i0 v0_1 v0_2) r := by
 have hB0 := H.1
 exact Ql (Q19q p1 p2 o0 i0 v0_1 v0_2) (y := (Q11i p1 p2 o0 (i0 + 1) (s_Kf x0 (PDecoder.mk v0_1)).2.failed (v0_2 ++ [(s_Kf x0 (PDecoder.mk v0_1)).1]), Qrr p1 p2 o0 (i0 + 1) (s_Kf x0 (PDecoder.mk v0_1)).2.failed (v0_2 ++ [(s_Kf x0 (PDecoder.mk v0_1)).1]))) [hB 0 hc0, hP 0 (Q2s 5 (Val.rows (s_Kd p1 p2 4 o0).1.list) i0 _ (Val.Qo hx0) rfl), hV 8 [(642, NodeTerm.rows (v0_2 ++ [(s_Kf x0 (PDecoder.mk v0_1)).1]))] (Q42 1 578 642 3 40 0 0 true (NodeTerm.rows v0_2) (NodeTerm.rows (v0_2 ++ [(s_Kf x0 (PDecoder.mk v0_1)).1])) (NodeTerm.cells (s_Kf x0 (PDecoder.mk v0_1)).1) (List.length v0_2) (List.length (v0_2 ++ [(s_Kf x0 (PDecoder.mk v0_1)).1])) rfl (NodeTerm.Q9 v0_2).symm (NodeTerm.Q9 (v0_2 ++ [(s_Kf x0 (PDecoder.mk v0_1)).1])).symm (NodeTerm.Q1t v0_2 (s_Kf x0 (PDecoder.mk v0_1)).1) (NodeTerm.Qu v0_2) rfl (by omega)), hS 0 true (NodeTerm.Qb (v0_2 ++ [(s_Kf x0 (PDecoder.mk v0_1)).1]) 3 rfl), hP 1 (Q2g i0 (by omega))] [aN (t_Kf x0 (PDecoder.mk v0_1) (H.2.1 x0 (Q2l hx0)))] (by kernel_rfl) hr
theorem Q13w (p1 : Val) (p2 : BA) (o0 : PDecoder) (H : Qim p1 p2 o0) : ∀ (r0 : List Val) (i0 : Nat) (v0_1 : Bool) (v0_2 : List NodeTerm), List.drop i0 (s_Kd p1 p2 4 o0).1.list = r0 → List.length v0_2 ≤ i0 → Qta p1 p2 o0 (Qrj p1 p2 o0 i0 v0_1 v0_2) (Q6c p1 p2 o0 r0 i0 v0_1 v0_2)
 | [], i0, v0_1, v0_2, hd, ho0_0 => by
  have hc0 : (decide ((i0 : Int) < ((List.length (s_Kd p1 p2 4 o0).1.list) : Int))) = false := by have := Q1m hd; simp; omega
  rw [Q6c]
  exact Q1d0 p1 p2 o0 H i0 v0_1 v0_2 ho0_0 hc0
 | x0 :: r0, i0, v0_1, v0_2, hd, ho0_0 => by
  obtain ⟨hx0, hi0, hd'⟩ := Q1k hd
  have hc0 : (decide ((i0 : Int) < ((List.length (s_Kd p1 p2 4 o0).1.list) : Int))) = true := by simp; omega
  rw [Q6c]
  exact Qwn p1 p2 o0 (fun r hr => Q1bc p1 p2 o0 H x0 i0 v0_1 v0_2 hx0 hi0 ho0_0 hc0 hr) _ (Q13w p1 p2 o0 H r0 (i0 + 1) (s_Kf x0 (PDecoder.mk v0_1)).2.failed (v0_2 ++ [(s_Kf x0 (PDecoder.mk v0_1)).1]) hd' (by first | omega | (simp; omega)))
def s_Kv (p1 : Val) (p2 : BA) (o0 : PDecoder) : List NodeTerm × PDecoder := ((dE NodeTerm.dec p1 p2).1, ft o0 (isM p1 && (dE NodeTerm.dec p1 p2).2))
theorem Q1c3 (p1 : Val) (p2 : BA) (o0 : PDecoder) : ∀ (l : List Val) (i : Nat) (b : Bool) (a : List NodeTerm), Q6c p1 p2 o0 l i b a = (b || !(l.all fun x => (NodeTerm.dec x).2), a ++ l.map (fun x => (NodeTerm.dec x).1))
  | [], _, b, a => by rw [Q6c]; simp
  | x :: l, i, b, a => by
    rw [Q6c]
    refine (Q1c3 p1 p2 o0 l (i + 1) (b || !(NodeTerm.dec x).2) (a ++ [(NodeTerm.dec x).1])).trans ?_
    simp only [List.append_assoc, List.singleton_append, List.map_cons, List.all_cons, Bool.not_and, Bool.or_assoc]
theorem e_Kv (p1 : Val) (p2 : BA) (o0 : PDecoder) : s_Kv p1 p2 o0 = (((Q6c p1 p2 o0 (s_Kd p1 p2 4 o0).1.list 0 (s_Kd p1 p2 4 o0).2.failed []).2, (PDecoder.mk (Q6c p1 p2 o0 (s_Kd p1 p2 4 o0).1.list 0 (s_Kd p1 p2 4 o0).2.failed []).1))) := by
  rw [Q1c3]
  unfold s_Kd s_Kv
  simp only [Q91, Q4m]
  refine Prod.ext rfl ?_
  rw [Q8p o0.failed (isM p1) _ _ _ (Quw (prt p1 p2)), Q5g]
  rfl
def c_Kv (p1 : Val) (p2 : BA) (o0 : PDecoder) : En := .call 245 [.bx 0 0, .agg (Val.cells p1), .str p2, .fn 246 [.bx 0 0] []] [⟨1, 0, false, (PDecoder.cells o0)⟩]
def r_Kv (_p1 : Val) (_p2 : BA) (_o0 : PDecoder) (q0 : List NodeTerm) (q1 : PDecoder) : Rs := .ret (.sl (NodeTerm.rows q0)) [⟨1, 0, false, (PDecoder.cells q1)⟩]
def a_Kv (p1 : Val) (p2 : BA) (o0 : PDecoder) : Rs := r_Kv p1 p2 o0 (s_Kv p1 p2 o0).1 (s_Kv p1 p2 o0).2
def H_Kv (p1 : Val) : Prop := Val.Sm 1000000000 p1
theorem Q1aj (p1 : Val) (p2 : BA) (o0 : PDecoder) (H : H_Kv p1) : (H_Kd p1) ∧ (Qim p1 p2 o0) ∧ True := by
  have hl := Qmx (Q3a H p2)
  refine ⟨H, ?_, trivial⟩
  unfold Qim s_Kd
  simp only [Q91]
  exact ⟨Nat.le_trans hl.1 (Nat.le_of_ble_eq_true rfl), hl.2, trivial⟩
theorem t_Kv (p1 : Val) (p2 : BA) (o0 : PDecoder) (H : H_Kv p1) : Q7 G (c_Kv p1 p2 o0) (a_Kv p1 p2 o0) := by
 unfold a_Kv
 rw [e_Kv]
 have hl0 := Q13w p1 p2 o0 ((Q1aj p1 p2 o0 H).2.1) (s_Kd p1 p2 4 o0).1.list 0 (s_Kd p1 p2 4 o0).2.failed [] (by simp) (by simp)
 obtain ⟨z0, zo0, hl0⟩ := hl0
 exact Q8 (fn := Ir.Kv) rfl (h := [⟨1, 0, false, (PDecoder.cells o0)⟩]) (vw := []) VOK.nil [hP 8 (Q11 (Val.rows (s_Kd p1 p2 4 o0).1.list) (List.length (s_Kd p1 p2 4 o0).1.list) (Val.Q9 (s_Kd p1 p2 4 o0).1.list)), hS 0 true (NodeTerm.Qb (Q6c p1 p2 o0 (s_Kd p1 p2 4 o0).1.list 0 (s_Kd p1 p2 4 o0).2.failed []).2 3 rfl), hQ (NodeTerm.Q9 (Q6c p1 p2 o0 (s_Kd p1 p2 4 o0).1.list 0 (s_Kd p1 p2 4 o0).2.failed []).2).symm] [aN (t_Kd p1 p2 4 o0 (Q1aj p1 p2 o0 H).1), aV [(1, NodeTerm.rows (Q6c p1 p2 o0 (s_Kd p1 p2 4 o0).1.list 0 (s_Kd p1 p2 4 o0).2.failed []).2)] hl0] (by kernel_rfl)
def s_Kh (p1 : Val) (o0 : PDecoder) : PodTerm × PDecoder := ((PodTerm.dec p1).1, ft o0 (PodTerm.dec p1).2)
theorem e_Kh (p1 : Val) (o0 : PDecoder) : s_Kh p1 o0 = (((PodTerm.mk (s_Kc p1 Qa (s_Ko p1 o0).2).1 (s_Kc p1 Q2q (s_Kc p1 Qa (s_Ko p1 o0).2).2).1 (s_Ku p1 Q5 (s_Kc p1 Q2q (s_Kc p1 Qa (s_Ko p1 o0).2).2).2).1 (s_Kn p1 Qk (s_Ku p1 Q5 (s_Kc p1 Q2q (s_Kc p1 Qa (s_Ko p1 o0).2).2).2).2).1 (s_Kg p1 Q10 (s_Kn p1 Qk (s_Ku p1 Q5 (s_Kc p1 Q2q (s_Kc p1 Qa (s_Ko p1 o0).2).2).2).2).2).1), (s_Kg p1 Q10 (s_Kn p1 Qk (s_Ku p1 Q5 (s_Kc p1 Q2q (s_Kc p1 Qa (s_Ko p1 o0).2).2).2).2).2).2)) := by
  simp only [s_Ko, s_Kg, s_Kn, s_Kc, s_Ku, s_Kh, PodTerm.dec, Qlv, Bool.and_assoc, Bool.and_left_comm, Bool.and_comm, Bool.and_self_left]
def c_Kh (p1 : Val) (o0 : PDecoder) : En := .call 248 [.bx 0 0, .agg (Val.cells p1)] [⟨1, 0, false, (PDecoder.cells o0)⟩]
def r_Kh (_p1 : Val) (_o0 : PDecoder) (q0 : PodTerm) (q1 : PDecoder) : Rs := .ret (.agg (PodTerm.cells q0)) [⟨1, 0, false, (PDecoder.cells q1)⟩]
def a_Kh (p1 : Val) (o0 : PDecoder) : Rs := r_Kh p1 o0 (s_Kh p1 o0).1 (s_Kh p1 o0).2
def H_Kh (p1 : Val) : Prop := Val.Sm 1000000000 p1
theorem Qlw (p1 : Val) (_o0 : PDecoder) (H : H_Kh p1) : (H_Kc p1) ∧ (H_Ku p1) ∧ (H_Kn p1) ∧ (H_Kg p1) ∧ True := by
  repeat' with_reducible apply And.intro
  all_goals first | exact True.intro | exact H | exact Qmp (Q3a H _)
theorem t_Kh (p1 : Val) (o0 : PDecoder) (H : H_Kh p1) : Q7 G (c_Kh p1 o0) (a_Kh p1 o0) := by
 unfold a_Kh
 rw [e_Kh]
 exact Q8 (fn := Ir.Kh) rfl (h := [⟨1, 0, false, (PDecoder.cells o0)⟩]) (vw := []) VOK.nil [] [aN (t_Ko p1 o0), aN (t_Kc p1 Qa (s_Ko p1 o0).2 (Qlw p1 o0 H).1), aN (t_Kc p1 Q2q (s_Kc p1 Qa (s_Ko p1 o0).2).2 (Qlw p1 o0 H).1), aN (t_Ku p1 Q5 (s_Kc p1 Q2q (s_Kc p1 Qa (s_Ko p1 o0).2).2).2 (Qlw p1 o0 H).2.1), aN (t_Kn p1 Qk (s_Ku p1 Q5 (s_Kc p1 Q2q (s_Kc p1 Qa (s_Ko p1 o0).2).2).2).2 (Qlw p1 o0 H).2.2.1), aN (t_Kg p1 Q10 (s_Kn p1 Qk (s_Ku p1 Q5 (s_Kc p1 Q2q (s_Kc p1 Qa (s_Ko p1 o0).2).2).2).2).2 (Qlw p1 o0 H).2.2.2.1)] (by kernel_rfl)
def Q6d (p1 : Val) (p2 : BA) (o0 : PDecoder) : List Val → Nat → Bool → (List PodTerm) → Bool × (List PodTerm)
 | [], _i0, v0_1, v0_2 =>
  (v0_1, v0_2)
 | x0 :: r0, i0, v0_1, v0_2 =>
  Q6d p1 p2 o0 r0 (i0 + 1) (s_Kh x0 (PDecoder.mk v0_1)).2.failed (v0_2 ++ [(s_Kh x0 (PDecoder.mk v0_1)).1])
def Q11j (p1 : Val) (p2 : BA) (o0 : PDecoder) (i0 : Nat) (_v0_1 : Bool) (v0_2 : List PodTerm) : List PV :=
  [.un, .un, .un, .fn 248 [.bx 0 0] []] ++ nuns 5 ++ [.ms 1 5 0 (List.length v0_2)] ++ nuns 6 ++ [.sl (Val.rows (s_Kd p1 p2 4 o0).1.list), .int .i64 ((List.length (s_Kd p1 p2 4 o0).1.list) : Int), .int .i64 (i0 : Int)] ++ nuns 11
def Qrs (_p1 : Val) (_p2 : BA) (_o0 : PDecoder) (_i0 : Nat) (v0_1 : Bool) (v0_2 : List PodTerm) : List Ob :=
  [⟨1, 0, false, [.bool v0_1]⟩, ⟨5, 0, true, (PodTerm.rows v0_2).flatten⟩]
def Qrk (p1 : Val) (p2 : BA) (o0 : PDecoder) (i0 : Nat) (v0_1 : Bool) (v0_2 : List PodTerm) : En := .loop 1 Ir.Qne Ir.Q1n6 (Q11j p1 p2 o0 i0 v0_1 v0_2) (Qrs p1 p2 o0 i0 v0_1 v0_2)
def Qwy (_p1 : Val) (_p2 : BA) (_o0 : PDecoder) (q0 : Bool) (q1 : List PodTerm) (z : Nat → PV) (_zo : Nat → List PV) : St :=
  ⟨zr z 0 9 ++ [.ms 1 5 0 (List.length q1)] ++ zr z 10 20, [(0, ⟨1, 0, false, [.bool q0]⟩), (1, ⟨5, 0, true, (PodTerm.rows q1).flatten⟩)], 66⟩
theorem Q19r (p1 : Val) (p2 : BA) (o0 : PDecoder) (i0 : Nat) (v0_1 : Bool) (v0_2 : List PodTerm) : VOK (Go.Pv.look (number 0 (Qrs p1 p2 o0 i0 v0_1 v0_2))) [(1, PodTerm.rows v0_2)] := (VOK.cons (show Seen _ _ from Q3k (ob := ⟨5, 0, true, (PodTerm.rows v0_2).flatten⟩) (PodTerm.Qb v0_2 5 rfl)) VOK.nil)
def Qtb (p1 : Val) (p2 : BA) (o0 : PDecoder) (e : En) (q : Bool × (List PodTerm)) : Prop := ∃ z zo, Q7 G e (.st (.exit 0) (Qwy p1 p2 o0 q.1 q.2 z zo))
theorem Qwo (p1 : Val) (p2 : BA) (o0 : PDecoder) {e e' : En} (h : ∀ r, Q7 G e r → Q7 G e' r) : ∀ q, Qtb p1 p2 o0 e q → Qtb p1 p2 o0 e' q
  | _, ⟨z, zo, hz⟩ => ⟨z, zo, h _ hz⟩
def Qin (p1 : Val) (p2 : BA) (o0 : PDecoder) : Prop := (List.length (s_Kd p1 p2 4 o0).1.list ≤ 137438953472) ∧ (∀ x0 ∈ (s_Kd p1 p2 4 o0).1.list, H_Kh x0) ∧ True
def Qx9 (p1 : Val) (p2 : BA) (o0 : PDecoder) (i0 : Nat) (_v0_1 : Bool) (_v0_2 : List PodTerm) : List PV :=
  [.un, .un, .un, .fn 248 [.bx 0 0] []] ++ nuns 12 ++ [.sl (Val.rows (s_Kd p1 p2 4 o0).1.list), .int .i64 ((List.length (s_Kd p1 p2 4 o0).1.list) : Int), .int .i64 (i0 : Int), .bool false]
def Qox (_p1 : Val) (_p2 : BA) (_o0 : PDecoder) (_i0 : Nat) (_v0_1 : Bool) (_v0_2 : List PodTerm) : List (Nat × List PV) :=
  []
theorem Q1d1 (p1 : Val) (p2 : BA) (o0 : PDecoder) (_H : Qin p1 p2 o0) (i0 : Nat) (v0_1 : Bool) (v0_2 : List PodTerm) (_ho0_0 : List.length v0_2 ≤ i0) (hc0 : (decide ((i0 : Int) < ((List.length (s_Kd p1 p2 4 o0).1.list) : Int))) = false) : Qtb p1 p2 o0 (Qrk p1 p2 o0 i0 v0_1 v0_2) (v0_1, v0_2) := by
 exact ⟨(envF (Qx9 p1 p2 o0 i0 v0_1 v0_2)), (zoF (Qox p1 p2 o0 i0 v0_1 v0_2)), Qm (Q19r p1 p2 o0 i0 v0_1 v0_2) (x := ((.exit 0), Qwy p1 p2 o0 v0_1 v0_2 (envF (Qx9 p1 p2 o0 i0 v0_1 v0_2)) (zoF (Qox p1 p2 o0 i0 v0_1 v0_2)))) [hB 0 hc0] [] (by kernel_rfl)⟩
theorem Q1bd (p1 : Val) (p2 : BA) (o0 : PDecoder) (H : Qin p1 p2 o0) (x0 : Val) (i0 : Nat) (v0_1 : Bool) (v0_2 : List PodTerm) (hx0 : (s_Kd p1 p2 4 o0).1.list[i0]? = some x0) (hi0 : i0 < List.length (s_Kd p1 p2 4 o0).1.list) (ho0_0 : List.length v0_2 ≤ i0) (hc0 : (decide ((i0 : Int) < ((List.length (s_Kd p1 p2 4 o0).1.list) : Int))) = true) {r : Rs} (hr : Q7 G (Qrk p1 p2 o0 (i0 + 1) (s_Kh x0 (PDecoder.mk v0_1)).2.failed (v0_2 ++ [(s_Kh x0 (PDecoder.mk v0_1)).1])) r) : Q7 G (Qrk p1 p2 o0 i0 v0_1 v0_2) r := by
 have hB0 := H.1
 exact Ql (Q19r p1 p2 o0 i0 v0_1 v0_2) (y := (Q11j p1 p2 o0 (i0 + 1) (s_Kh x0 (PDecoder.mk v0_1)).2.failed (v0_2 ++ [(s_Kh x0 (PDecoder.mk v0_1)).1]), Qrs p1 p2 o0 (i0 + 1) (s_Kh x0 (PDecoder.mk v0_1)).2.failed (v0_2 ++ [(s_Kh x0 (PDecoder.mk v0_1)).1]))) [hB 0 hc0, hP 0 (Q2s 5 (Val.rows (s_Kd p1 p2 4 o0).1.list) i0 _ (Val.Qo hx0) rfl), hV 8 [(642, PodTerm.rows (v0_2 ++ [(s_Kh x0 (PDecoder.mk v0_1)).1]))] (Q42 1 578 642 5 56 0 0 true (PodTerm.rows v0_2) (PodTerm.rows (v0_2 ++ [(s_Kh x0 (PDecoder.mk v0_1)).1])) (PodTerm.cells (s_Kh x0 (PDecoder.mk v0_1)).1) (List.length v0_2) (List.length (v0_2 ++ [(s_Kh x0 (PDecoder.mk v0_1)).1])) rfl (PodTerm.Q9 v0_2).symm (PodTerm.Q9 (v0_2 ++ [(s_Kh x0 (PDecoder.mk v0_1)).1])).symm (PodTerm.Q1t v0_2 (s_Kh x0 (PDecoder.mk v0_1)).1) (PodTerm.Qu v0_2) rfl (by omega)), hS 0 true (PodTerm.Qb (v0_2 ++ [(s_Kh x0 (PDecoder.mk v0_1)).1]) 5 rfl), hP 1 (Q2g i0 (by omega))] [aN (t_Kh x0 (PDecoder.mk v0_1) (H.2.1 x0 (Q2l hx0)))] (by kernel_rfl) hr
theorem Q13x (p1 : Val) (p2 : BA) (o0 : PDecoder) (H : Qin p1 p2 o0) : ∀ (r0 : List Val) (i0 : Nat) (v0_1 : Bool) (v0_2 : List PodTerm), List.drop i0 (s_Kd p1 p2 4 o0).1.list = r0 → List.length v0_2 ≤ i0 → Qtb p1 p2 o0 (Qrk p1 p2 o0 i0 v0_1 v0_2) (Q6d p1 p2 o0 r0 i0 v0_1 v0_2)
 | [], i0, v0_1, v0_2, hd, ho0_0 => by
  have hc0 : (decide ((i0 : Int) < ((List.length (s_Kd p1 p2 4 o0).1.list) : Int))) = false := by have := Q1m hd; simp; omega
  rw [Q6d]
  exact Q1d1 p1 p2 o0 H i0 v0_1 v0_2 ho0_0 hc0
 | x0 :: r0, i0, v0_1, v0_2, hd, ho0_0 => by
  obtain ⟨hx0, hi0, hd'⟩ := Q1k hd
  have hc0 : (decide ((i0 : Int) < ((List.length (s_Kd p1 p2 4 o0).1.list) : Int))) = true := by simp; omega
  rw [Q6d]
  exact Qwo p1 p2 o0 (fun r hr => Q1bd p1 p2 o0 H x0 i0 v0_1 v0_2 hx0 hi0 ho0_0 hc0 hr) _ (Q13x p1 p2 o0 H r0 (i0 + 1) (s_Kh x0 (PDecoder.mk v0_1)).2.failed (v0_2 ++ [(s_Kh x0 (PDecoder.mk v0_1)).1]) hd' (by first | omega | (simp; omega)))
def s_Kw (p1 : Val) (p2 : BA) (o0 : PDecoder) : List PodTerm × PDecoder := ((dE PodTerm.dec p1 p2).1, ft o0 (isM p1 && (dE PodTerm.dec p1 p2).2))
theorem Q1c4 (p1 : Val) (p2 : BA) (o0 : PDecoder) : ∀ (l : List Val) (i : Nat) (b : Bool) (a : List PodTerm), Q6d p1 p2 o0 l i b a = (b || !(l.all fun x => (PodTerm.dec x).2), a ++ l.map (fun x => (PodTerm.dec x).1))
  | [], _, b, a => by rw [Q6d]; simp
  | x :: l, i, b, a => by
    rw [Q6d]
    refine (Q1c4 p1 p2 o0 l (i + 1) (b || !(PodTerm.dec x).2) (a ++ [(PodTerm.dec x).1])).trans ?_
    simp only [List.append_assoc, List.singleton_append, List.map_cons, List.all_cons, Bool.not_and, Bool.or_assoc]
theorem e_Kw (p1 : Val) (p2 : BA) (o0 : PDecoder) : s_Kw p1 p2 o0 = (((Q6d p1 p2 o0 (s_Kd p1 p2 4 o0).1.list 0 (s_Kd p1 p2 4 o0).2.failed []).2, (PDecoder.mk (Q6d p1 p2 o0 (s_Kd p1 p2 4 o0).1.list 0 (s_Kd p1 p2 4 o0).2.failed []).1))) := by
  rw [Q1c4]
  unfold s_Kd s_Kw
  simp only [Q91, Q4m]
  refine Prod.ext rfl ?_
  rw [Q8p o0.failed (isM p1) _ _ _ (Quw (prt p1 p2)), Q5g]
  rfl
def c_Kw (p1 : Val) (p2 : BA) (o0 : PDecoder) : En := .call 247 [.bx 0 0, .agg (Val.cells p1), .str p2, .fn 248 [.bx 0 0] []] [⟨1, 0, false, (PDecoder.cells o0)⟩]
def r_Kw (_p1 : Val) (_p2 : BA) (_o0 : PDecoder) (q0 : List PodTerm) (q1 : PDecoder) : Rs := .ret (.sl (PodTerm.rows q0)) [⟨1, 0, false, (PDecoder.cells q1)⟩]
def a_Kw (p1 : Val) (p2 : BA) (o0 : PDecoder) : Rs := r_Kw p1 p2 o0 (s_Kw p1 p2 o0).1 (s_Kw p1 p2 o0).2
def H_Kw (p1 : Val) : Prop := Val.Sm 1000000000 p1
theorem Q1ak (p1 : Val) (p2 : BA) (o0 : PDecoder) (H : H_Kw p1) : (H_Kd p1) ∧ (Qin p1 p2 o0) ∧ True := by
  have hl := Qmx (Q3a H p2)
  refine ⟨H, ?_, trivial⟩
  unfold Qin s_Kd
  simp only [Q91]
  exact ⟨Nat.le_trans hl.1 (Nat.le_of_ble_eq_true rfl), hl.2, trivial⟩
theorem t_Kw (p1 : Val) (p2 : BA) (o0 : PDecoder) (H : H_Kw p1) : Q7 G (c_Kw p1 p2 o0) (a_Kw p1 p2 o0) := by
 unfold a_Kw
 rw [e_Kw]
 have hl0 := Q13x p1 p2 o0 ((Q1ak p1 p2 o0 H).2.1) (s_Kd p1 p2 4 o0).1.list 0 (s_Kd p1 p2 4 o0).2.failed [] (by simp) (by simp)
 obtain ⟨z0, zo0, hl0⟩ := hl0
 exact Q8 (fn := Ir.Kw) rfl (h := [⟨1, 0, false, (PDecoder.cells o0)⟩]) (vw := []) VOK.nil [hP 8 (Q11 (Val.rows (s_Kd p1 p2 4 o0).1.list) (List.length (s_Kd p1 p2 4 o0).1.list) (Val.Q9 (s_Kd p1 p2 4 o0).1.list)), hS 0 true (PodTerm.Qb (Q6d p1 p2 o0 (s_Kd p1 p2 4 o0).1.list 0 (s_Kd p1 p2 4 o0).2.failed []).2 5 rfl), hQ (PodTerm.Q9 (Q6d p1 p2 o0 (s_Kd p1 p2 4 o0).1.list 0 (s_Kd p1 p2 4 o0).2.failed []).2).symm] [aN (t_Kd p1 p2 4 o0 (Q1ak p1 p2 o0 H).1), aV [(1, PodTerm.rows (Q6d p1 p2 o0 (s_Kd p1 p2 4 o0).1.list 0 (s_Kd p1 p2 4 o0).2.failed []).2)] hl0] (by kernel_rfl)
def s_Km (p1 : Val) (o0 : PDecoder) : SpreadRule × PDecoder := ((SpreadRule.dec p1).1, ft o0 (SpreadRule.dec p1).2)
theorem e_Km (p1 : Val) (o0 : PDecoder) : s_Km p1 o0 = (((SpreadRule.mk (s_Kg p1 Q1l (s_Ko p1 o0).2).1 (s_Kn p1 Qk (s_Kg p1 Q1l (s_Ko p1 o0).2).2).1 (s_Ku p1 Q5 (s_Kn p1 Qk (s_Kg p1 Q1l (s_Ko p1 o0).2).2).2).1 (s_Kc p1 Qa (s_Ku p1 Q5 (s_Kn p1 Qk (s_Kg p1 Q1l (s_Ko p1 o0).2).2).2).2).1), (s_Kc p1 Qa (s_Ku p1 Q5 (s_Kn p1 Qk (s_Kg p1 Q1l (s_Ko p1 o0).2).2).2).2).2)) := by
  simp only [s_Ko, s_Kg, s_Kn, s_Kc, s_Ku, s_Km, SpreadRule.dec, Qlv, Bool.and_assoc, Bool.and_left_comm, Bool.and_comm, Bool.and_self_left]
def c_Km (p1 : Val) (o0 : PDecoder) : En := .call 250 [.bx 0 0, .agg (Val.cells p1)] [⟨1, 0, false, (PDecoder.cells o0)⟩]
def r_Km (_p1 : Val) (_o0 : PDecoder) (q0 : SpreadRule) (q1 : PDecoder) : Rs := .ret (.agg (SpreadRule.cells q0)) [⟨1, 0, false, (PDecoder.cells q1)⟩]
def a_Km (p1 : Val) (o0 : PDecoder) : Rs := r_Km p1 o0 (s_Km p1 o0).1 (s_Km p1 o0).2
def H_Km (p1 : Val) : Prop := Val.Sm 1000000000 p1
theorem Qtw (p1 : Val) (_o0 : PDecoder) (H : H_Km p1) : (H_Kg p1) ∧ (H_Kn p1) ∧ (H_Ku p1) ∧ (H_Kc p1) ∧ True := by
  repeat' with_reducible apply And.intro
  all_goals first | exact True.intro | exact H | exact Qmp (Q3a H _)
theorem t_Km (p1 : Val) (o0 : PDecoder) (H : H_Km p1) : Q7 G (c_Km p1 o0) (a_Km p1 o0) := by
 unfold a_Km
 rw [e_Km]
 exact Q8 (fn := Ir.Km) rfl (h := [⟨1, 0, false, (PDecoder.cells o0)⟩]) (vw := []) VOK.nil [] [aN (t_Ko p1 o0), aN (t_Kg p1 Q1l (s_Ko p1 o0).2 (Qtw p1 o0 H).1), aN (t_Kn p1 Qk (s_Kg p1 Q1l (s_Ko p1 o0).2).2 (Qtw p1 o0 H).2.1), aN (t_Ku p1 Q5 (s_Kn p1 Qk (s_Kg p1 Q1l (s_Ko p1 o0).2).2).2 (Qtw p1 o0 H).2.2.1), aN (t_Kc p1 Qa (s_Ku p1 Q5 (s_Kn p1 Qk (s_Kg p1 Q1l (s_Ko p1 o0).2).2).2).2 (Qtw p1 o0 H).2.2.2.1)] (by kernel_rfl)
def Q6e (p1 : Val) (p2 : BA) (o0 : PDecoder) : List Val → Nat → Bool → (List SpreadRule) → Bool × (List SpreadRule)
 | [], _i0, v0_1, v0_2 =>
  (v0_1, v0_2)
 | x0 :: r0, i0, v0_1, v0_2 =>
  Q6e p1 p2 o0 r0 (i0 + 1) (s_Km x0 (PDecoder.mk v0_1)).2.failed (v0_2 ++ [(s_Km x0 (PDecoder.mk v0_1)).1])
def Q11k (p1 : Val) (p2 : BA) (o0 : PDecoder) (i0 : Nat) (_v0_1 : Bool) (v0_2 : List SpreadRule) : List PV :=
  [.un, .un, .un, .fn 250 [.bx 0 0] []] ++ nuns 5 ++ [.ms 1 4 0 (List.length v0_2)] ++ nuns 6 ++ [.sl (Val.rows (s_Kd p1 p2 4 o0).1.list), .int .i64 ((List.length (s_Kd p1 p2 4 o0).1.list) : Int), .int .i64 (i0 : Int)] ++ nuns 11
def Qrt (_p1 : Val) (_p2 : BA) (_o0 : PDecoder) (_i0 : Nat) (v0_1 : Bool) (v0_2 : List SpreadRule) : List Ob :=
  [⟨1, 0, false, [.bool v0_1]⟩, ⟨4, 0, true, (SpreadRule.rows v0_2).flatten⟩]
def Qrl (p1 : Val) (p2 : BA) (o0 : PDecoder) (i0 : Nat) (v0_1 : Bool) (v0_2 : List SpreadRule) : En := .loop 1 Ir.Qnf Ir.Q1n7 (Q11k p1 p2 o0 i0 v0_1 v0_2) (Qrt p1 p2 o0 i0 v0_1 v0_2)
def Qwz (_p1 : Val) (_p2 : BA) (_o0 : PDecoder) (q0 : Bool) (q1 : List SpreadRule) (z : Nat → PV) (_zo : Nat → List PV) : St :=
  ⟨zr z 0 9 ++ [.ms 1 4 0 (List.length q1)] ++ zr z 10 20, [(0, ⟨1, 0, false, [.bool q0]⟩), (1, ⟨4, 0, true, (SpreadRule.rows q1).flatten⟩)], 66⟩
theorem Q19s (p1 : Val) (p2 : BA) (o0 : PDecoder) (i0 : Nat) (v0_1 : Bool) (v0_2 : List SpreadRule) : VOK (Go.Pv.look (number 0 (Qrt p1 p2 o0 i0 v0_1 v0_2))) [(1, SpreadRule.rows v0_2)] := (VOK.cons (show Seen _ _ from Q3k (ob := ⟨4, 0, true, (SpreadRule.rows v0_2).flatten⟩) (SpreadRule.Qb v0_2 4 rfl)) VOK.nil)
def Qtc (p1 : Val) (p2 : BA) (o0 : PDecoder) (e : En) (q : Bool × (List SpreadRule)) : Prop := ∃ z zo, Q7 G e (.st (.exit 0) (Qwz p1 p2 o0 q.1 q.2 z zo))
theorem Qwp (p1 : Val) (p2 : BA) (o0 : PDecoder) {e e' : En} (h : ∀ r, Q7 G e r → Q7 G e' r) : ∀ q, Qtc p1 p2 o0 e q → Qtc p1 p2 o0 e' q
  | _, ⟨z, zo, hz⟩ => ⟨z, zo, h _ hz⟩
def Qio (p1 : Val) (p2 : BA) (o0 : PDecoder) : Prop := (List.length (s_Kd p1 p2 4 o0).1.list ≤ 137438953472) ∧ (∀ x0 ∈ (s_Kd p1 p2 4 o0).1.list, H_Km x0) ∧ True
def Qxa (p1 : Val) (p2 : BA) (o0 : PDecoder) (i0 : Nat) (_v0_1 : Bool) (_v0_2 : List SpreadRule) : List PV :=
  [.un, .un, .un, .fn 250 [.bx 0 0] []] ++ nuns 12 ++ [.sl (Val.rows (s_Kd p1 p2 4 o0).1.list), .int .i64 ((List.length (s_Kd p1 p2 4 o0).1.list) : Int), .int .i64 (i0 : Int), .bool false]
def Qoy (_p1 : Val) (_p2 : BA) (_o0 : PDecoder) (_i0 : Nat) (_v0_1 : Bool) (_v0_2 : List SpreadRule) : List (Nat × List PV) :=
  []
theorem Q1d2 (p1 : Val) (p2 : BA) (o0 : PDecoder) (_H : Qio p1 p2 o0) (i0 : Nat) (v0_1 : Bool) (v0_2 : List SpreadRule) (_ho0_0 : List.length v0_2 ≤ i0) (hc0 : (decide ((i0 : Int) < ((List.length (s_Kd p1 p2 4 o0).1.list) : Int))) = false) : Qtc p1 p2 o0 (Qrl p1 p2 o0 i0 v0_1 v0_2) (v0_1, v0_2) := by
 exact ⟨(envF (Qxa p1 p2 o0 i0 v0_1 v0_2)), (zoF (Qoy p1 p2 o0 i0 v0_1 v0_2)), Qm (Q19s p1 p2 o0 i0 v0_1 v0_2) (x := ((.exit 0), Qwz p1 p2 o0 v0_1 v0_2 (envF (Qxa p1 p2 o0 i0 v0_1 v0_2)) (zoF (Qoy p1 p2 o0 i0 v0_1 v0_2)))) [hB 0 hc0] [] (by kernel_rfl)⟩
theorem Q1be (p1 : Val) (p2 : BA) (o0 : PDecoder) (H : Qio p1 p2 o0) (x0 : Val) (i0 : Nat) (v0_1 : Bool) (v0_2 : List SpreadRule) (hx0 : (s_Kd p1 p2 4 o0).1.list[i0]? = some x0) (hi0 : i0 < List.length (s_Kd p1 p2 4 o0).1.list) (ho0_0 : List.length v0_2 ≤ i0) (hc0 : (decide ((i0 : Int) < ((List.length (s_Kd p1 p2 4 o0).1.list) : Int))) = true) {r : Rs} (hr : Q7 G (Qrl p1 p2 o0 (i0 + 1) (s_Km x0 (PDecoder.mk v0_1)).2.failed (v0_2 ++ [(s_Km x0 (PDecoder.mk v0_1)).1])) r) : Q7 G (Qrl p1 p2 o0 i0 v0_1 v0_2) r := by
 have hB0 := H.1
 exact Ql (Q19s p1 p2 o0 i0 v0_1 v0_2) (y := (Q11k p1 p2 o0 (i0 + 1) (s_Km x0 (PDecoder.mk v0_1)).2.failed (v0_2 ++ [(s_Km x0 (PDecoder.mk v0_1)).1]), Qrt p1 p2 o0 (i0 + 1) (s_Km x0 (PDecoder.mk v0_1)).2.failed (v0_2 ++ [(s_Km x0 (PDecoder.mk v0_1)).1]))) [hB 0 hc0, hP 0 (Q2s 5 (Val.rows (s_Kd p1 p2 4 o0).1.list) i0 _ (Val.Qo hx0) rfl), hV 8 [(642, SpreadRule.rows (v0_2 ++ [(s_Km x0 (PDecoder.mk v0_1)).1]))] (Q42 1 578 642 4 56 0 0 true (SpreadRule.rows v0_2) (SpreadRule.rows (v0_2 ++ [(s_Km x0 (PDecoder.mk v0_1)).1])) (SpreadRule.cells (s_Km x0 (PDecoder.mk v0_1)).1) (List.length v0_2) (List.length (v0_2 ++ [(s_Km x0 (PDecoder.mk v0_1)).1])) rfl (SpreadRule.Q9 v0_2).symm (SpreadRule.Q9 (v0_2 ++ [(s_Km x0 (PDecoder.mk v0_1)).1])).symm (SpreadRule.Q1t v0_2 (s_Km x0 (PDecoder.mk v0_1)).1) (SpreadRule.Qu v0_2) rfl (by omega)), hS 0 true (SpreadRule.Qb (v0_2 ++ [(s_Km x0 (PDecoder.mk v0_1)).1]) 4 rfl), hP 1 (Q2g i0 (by omega))] [aN (t_Km x0 (PDecoder.mk v0_1) (H.2.1 x0 (Q2l hx0)))] (by kernel_rfl) hr
theorem Q13y (p1 : Val) (p2 : BA) (o0 : PDecoder) (H : Qio p1 p2 o0) : ∀ (r0 : List Val) (i0 : Nat) (v0_1 : Bool) (v0_2 : List SpreadRule), List.drop i0 (s_Kd p1 p2 4 o0).1.list = r0 → List.length v0_2 ≤ i0 → Qtc p1 p2 o0 (Qrl p1 p2 o0 i0 v0_1 v0_2) (Q6e p1 p2 o0 r0 i0 v0_1 v0_2)
 | [], i0, v0_1, v0_2, hd, ho0_0 => by
  have hc0 : (decide ((i0 : Int) < ((List.length (s_Kd p1 p2 4 o0).1.list) : Int))) = false := by have := Q1m hd; simp; omega
  rw [Q6e]
  exact Q1d2 p1 p2 o0 H i0 v0_1 v0_2 ho0_0 hc0
 | x0 :: r0, i0, v0_1, v0_2, hd, ho0_0 => by
  obtain ⟨hx0, hi0, hd'⟩ := Q1k hd
  have hc0 : (decide ((i0 : Int) < ((List.length (s_Kd p1 p2 4 o0).1.list) : Int))) = true := by simp; omega
  rw [Q6e]
  exact Qwp p1 p2 o0 (fun r hr => Q1be p1 p2 o0 H x0 i0 v0_1 v0_2 hx0 hi0 ho0_0 hc0 hr) _ (Q13y p1 p2 o0 H r0 (i0 + 1) (s_Km x0 (PDecoder.mk v0_1)).2.failed (v0_2 ++ [(s_Km x0 (PDecoder.mk v0_1)).1]) hd' (by first | omega | (simp; omega)))
def s_Kx (p1 : Val) (p2 : BA) (o0 : PDecoder) : List SpreadRule × PDecoder := ((dE SpreadRule.dec p1 p2).1, ft o0 (isM p1 && (dE SpreadRule.dec p1 p2).2))
theorem Q1c5 (p1 : Val) (p2 : BA) (o0 : PDecoder) : ∀ (l : List Val) (i : Nat) (b : Bool) (a : List SpreadRule), Q6e p1 p2 o0 l i b a = (b || !(l.all fun x => (SpreadRule.dec x).2), a ++ l.map (fun x => (SpreadRule.dec x).1))
  | [], _, b, a => by rw [Q6e]; simp
  | x :: l, i, b, a => by
    rw [Q6e]
    refine (Q1c5 p1 p2 o0 l (i + 1) (b || !(SpreadRule.dec x).2) (a ++ [(SpreadRule.dec x).1])).trans ?_
    simp only [List.append_assoc, List.singleton_append, List.map_cons, List.all_cons, Bool.not_and, Bool.or_assoc]
theorem e_Kx (p1 : Val) (p2 : BA) (o0 : PDecoder) : s_Kx p1 p2 o0 = (((Q6e p1 p2 o0 (s_Kd p1 p2 4 o0).1.list 0 (s_Kd p1 p2 4 o0).2.failed []).2, (PDecoder.mk (Q6e p1 p2 o0 (s_Kd p1 p2 4 o0).1.list 0 (s_Kd p1 p2 4 o0).2.failed []).1))) := by
  rw [Q1c5]
  unfold s_Kd s_Kx
  simp only [Q91, Q4m]
  refine Prod.ext rfl ?_
  rw [Q8p o0.failed (isM p1) _ _ _ (Quw (prt p1 p2)), Q5g]
  rfl
def c_Kx (p1 : Val) (p2 : BA) (o0 : PDecoder) : En := .call 249 [.bx 0 0, .agg (Val.cells p1), .str p2, .fn 250 [.bx 0 0] []] [⟨1, 0, false, (PDecoder.cells o0)⟩]
def r_Kx (_p1 : Val) (_p2 : BA) (_o0 : PDecoder) (q0 : List SpreadRule) (q1 : PDecoder) : Rs := .ret (.sl (SpreadRule.rows q0)) [⟨1, 0, false, (PDecoder.cells q1)⟩]
def a_Kx (p1 : Val) (p2 : BA) (o0 : PDecoder) : Rs := r_Kx p1 p2 o0 (s_Kx p1 p2 o0).1 (s_Kx p1 p2 o0).2
def H_Kx (p1 : Val) : Prop := Val.Sm 1000000000 p1
theorem Q1al (p1 : Val) (p2 : BA) (o0 : PDecoder) (H : H_Kx p1) : (H_Kd p1) ∧ (Qio p1 p2 o0) ∧ True := by
  have hl := Qmx (Q3a H p2)
  refine ⟨H, ?_, trivial⟩
  unfold Qio s_Kd
  simp only [Q91]
  exact ⟨Nat.le_trans hl.1 (Nat.le_of_ble_eq_true rfl), hl.2, trivial⟩
theorem t_Kx (p1 : Val) (p2 : BA) (o0 : PDecoder) (H : H_Kx p1) : Q7 G (c_Kx p1 p2 o0) (a_Kx p1 p2 o0) := by
 unfold a_Kx
 rw [e_Kx]
 have hl0 := Q13y p1 p2 o0 ((Q1al p1 p2 o0 H).2.1) (s_Kd p1 p2 4 o0).1.list 0 (s_Kd p1 p2 4 o0).2.failed [] (by simp) (by simp)
 obtain ⟨z0, zo0, hl0⟩ := hl0
 exact Q8 (fn := Ir.Kx) rfl (h := [⟨1, 0, false, (PDecoder.cells o0)⟩]) (vw := []) VOK.nil [hP 8 (Q11 (Val.rows (s_Kd p1 p2 4 o0).1.list) (List.length (s_Kd p1 p2 4 o0).1.list) (Val.Q9 (s_Kd p1 p2 4 o0).1.list)), hS 0 true (SpreadRule.Qb (Q6e p1 p2 o0 (s_Kd p1 p2 4 o0).1.list 0 (s_Kd p1 p2 4 o0).2.failed []).2 4 rfl), hQ (SpreadRule.Q9 (Q6e p1 p2 o0 (s_Kd p1 p2 4 o0).1.list 0 (s_Kd p1 p2 4 o0).2.failed []).2).symm] [aN (t_Kd p1 p2 4 o0 (Q1al p1 p2 o0 H).1), aV [(1, SpreadRule.rows (Q6e p1 p2 o0 (s_Kd p1 p2 4 o0).1.list 0 (s_Kd p1 p2 4 o0).2.failed []).2)] hl0] (by kernel_rfl)
def s_Kr (p1 : Val) (o0 : PDecoder) : Toleration × PDecoder := ((Toleration.dec p1).1, ft o0 (Toleration.dec p1).2)
theorem e_Kr (p1 : Val) (o0 : PDecoder) : s_Kr p1 o0 = (((Toleration.mk (s_Kn p1 Qz (s_Ko p1 o0).2).1 (s_Kn p1 Q13 (s_Kn p1 Qz (s_Ko p1 o0).2).2).1 (s_Kc p1 Q22 (s_Kn p1 Q13 (s_Kn p1 Qz (s_Ko p1 o0).2).2).2).1 (s_Kg p1 Q27 (s_Kc p1 Q22 (s_Kn p1 Q13 (s_Kn p1 Qz (s_Ko p1 o0).2).2).2).2).1 (s_Kg p1 Q1z (s_Kg p1 Q27 (s_Kc p1 Q22 (s_Kn p1 Q13 (s_Kn p1 Qz (s_Ko p1 o0).2).2).2).2).2).1), (s_Kg p1 Q1z (s_Kg p1 Q27 (s_Kc p1 Q22 (s_Kn p1 Q13 (s_Kn p1 Qz (s_Ko p1 o0).2).2).2).2).2).2)) := by
  simp only [s_Ko, s_Kg, s_Kn, s_Kc, s_Kr, Toleration.dec, Qlv, Bool.and_assoc, Bool.and_left_comm, Bool.and_comm, Bool.and_self_left]
def c_Kr (p1 : Val) (o0 : PDecoder) : En := .call 252 [.bx 0 0, .agg (Val.cells p1)] [⟨1, 0, false, (PDecoder.cells o0)⟩]
def r_Kr (_p1 : Val) (_o0 : PDecoder) (q0 : Toleration) (q1 : PDecoder) : Rs := .ret (.agg (Toleration.cells q0)) [⟨1, 0, false, (PDecoder.cells q1)⟩]
def a_Kr (p1 : Val) (o0 : PDecoder) : Rs := r_Kr p1 o0 (s_Kr p1 o0).1 (s_Kr p1 o0).2
def H_Kr (p1 : Val) : Prop := Val.Sm 1000000000 p1
theorem Qlx (p1 : Val) (_o0 : PDecoder) (H : H_Kr p1) : (H_Kn p1) ∧ (H_Kc p1) ∧ (H_Kg p1) ∧ True := by
  repeat' with_reducible apply And.intro
  all_goals first | exact True.intro | exact H | exact Qmp (Q3a H _)
theorem t_Kr (p1 : Val) (o0 : PDecoder) (H : H_Kr p1) : Q7 G (c_Kr p1 o0) (a_Kr p1 o0) := by
 unfold a_Kr
 rw [e_Kr]
 exact Q8 (fn := Ir.Kr) rfl (h := [⟨1, 0, false, (PDecoder.cells o0)⟩]) (vw := []) VOK.nil [] [aN (t_Ko p1 o0), aN (t_Kn p1 Qz (s_Ko p1 o0).2 (Qlx p1 o0 H).1), aN (t_Kn p1 Q13 (s_Kn p1 Qz (s_Ko p1 o0).2).2 (Qlx p1 o0 H).1), aN (t_Kc p1 Q22 (s_Kn p1 Q13 (s_Kn p1 Qz (s_Ko p1 o0).2).2).2 (Qlx p1 o0 H).2.1), aN (t_Kg p1 Q27 (s_Kc p1 Q22 (s_Kn p1 Q13 (s_Kn p1 Qz (s_Ko p1 o0).2).2).2).2 (Qlx p1 o0 H).2.2.1), aN (t_Kg p1 Q1z (s_Kg p1 Q27 (s_Kc p1 Q22 (s_Kn p1 Q13 (s_Kn p1 Qz (s_Ko p1 o0).2).2).2).2).2 (Qlx p1 o0 H).2.2.1)] (by kernel_rfl)
def Q6f (p1 : Val) (p2 : BA) (o0 : PDecoder) : List Val → Nat → Bool → (List Toleration) → Bool × (List Toleration)
 | [], _i0, v0_1, v0_2 =>
  (v0_1, v0_2)
 | x0 :: r0, i0, v0_1, v0_2 =>
  Q6f p1 p2 o0 r0 (i0 + 1) (s_Kr x0 (PDecoder.mk v0_1)).2.failed (v0_2 ++ [(s_Kr x0 (PDecoder.mk v0_1)).1])
def Q11l (p1 : Val) (p2 : BA) (o0 : PDecoder) (i0 : Nat) (_v0_1 : Bool) (v0_2 : List Toleration) : List PV :=
  [.un, .un, .un, .fn 252 [.bx 0 0] []] ++ nuns 5 ++ [.ms 1 5 0 (List.length v0_2)] ++ nuns 6 ++ [.sl (Val.rows (s_Kd p1 p2 4 o0).1.list), .int .i64 ((List.length (s_Kd p1 p2 4 o0).1.list) : Int), .int .i64 (i0 : Int)] ++ nuns 11
def Qru (_p1 : Val) (_p2 : BA) (_o0 : PDecoder) (_i0 : Nat) (v0_1 : Bool) (v0_2 : List Toleration) : List Ob :=
  [⟨1, 0, false, [.bool v0_1]⟩, ⟨5, 0, true, (Toleration.rows v0_2).flatten⟩]
def Qrm (p1 : Val) (p2 : BA) (o0 : PDecoder) (i0 : Nat) (v0_1 : Bool) (v0_2 : List Toleration) : En := .loop 1 Ir.Qng Ir.Q1n8 (Q11l p1 p2 o0 i0 v0_1 v0_2) (Qru p1 p2 o0 i0 v0_1 v0_2)
def Qx0 (_p1 : Val) (_p2 : BA) (_o0 : PDecoder) (q0 : Bool) (q1 : List Toleration) (z : Nat → PV) (_zo : Nat → List PV) : St :=
  ⟨zr z 0 9 ++ [.ms 1 5 0 (List.length q1)] ++ zr z 10 20, [(0, ⟨1, 0, false, [.bool q0]⟩), (1, ⟨5, 0, true, (Toleration.rows q1).flatten⟩)], 66⟩
theorem Q19t (p1 : Val) (p2 : BA) (o0 : PDecoder) (i0 : Nat) (v0_1 : Bool) (v0_2 : List Toleration) : VOK (Go.Pv.look (number 0 (Qru p1 p2 o0 i0 v0_1 v0_2))) [(1, Toleration.rows v0_2)] := (VOK.cons (show Seen _ _ from Q3k (ob := ⟨5, 0, true, (Toleration.rows v0_2).flatten⟩) (Toleration.Qb v0_2 5 rfl)) VOK.nil)
def Qtd (p1 : Val) (p2 : BA) (o0 : PDecoder) (e : En) (q : Bool × (List Toleration)) : Prop := ∃ z zo, Q7 G e (.st (.exit 0) (Qx0 p1 p2 o0 q.1 q.2 z zo))
theorem Qwq (p1 : Val) (p2 : BA) (o0 : PDecoder) {e e' : En} (h : ∀ r, Q7 G e r → Q7 G e' r) : ∀ q, Qtd p1 p2 o0 e q → Qtd p1 p2 o0 e' q
  | _, ⟨z, zo, hz⟩ => ⟨z, zo, h _ hz⟩
def Qip (p1 : Val) (p2 : BA) (o0 : PDecoder) : Prop := (List.length (s_Kd p1 p2 4 o0).1.list ≤ 137438953472) ∧ (∀ x0 ∈ (s_Kd p1 p2 4 o0).1.list, H_Kr x0) ∧ True
def Qxb (p1 : Val) (p2 : BA) (o0 : PDecoder) (i0 : Nat) (_v0_1 : Bool) (_v0_2 : List Toleration) : List PV :=
  [.un, .un, .un, .fn 252 [.bx 0 0] []] ++ nuns 12 ++ [.sl (Val.rows (s_Kd p1 p2 4 o0).1.list), .int .i64 ((List.length (s_Kd p1 p2 4 o0).1.list) : Int), .int .i64 (i0 : Int), .bool false]
def Qoz (_p1 : Val) (_p2 : BA) (_o0 : PDecoder) (_i0 : Nat) (_v0_1 : Bool) (_v0_2 : List Toleration) : List (Nat × List PV) :=
  []
theorem Q1d3 (p1 : Val) (p2 : BA) (o0 : PDecoder) (_H : Qip p1 p2 o0) (i0 : Nat) (v0_1 : Bool) (v0_2 : List Toleration) (_ho0_0 : List.length v0_2 ≤ i0) (hc0 : (decide ((i0 : Int) < ((List.length (s_Kd p1 p2 4 o0).1.list) : Int))) = false) : Qtd p1 p2 o0 (Qrm p1 p2 o0 i0 v0_1 v0_2) (v0_1, v0_2) := by
 exact ⟨(envF (Qxb p1 p2 o0 i0 v0_1 v0_2)), (zoF (Qoz p1 p2 o0 i0 v0_1 v0_2)), Qm (Q19t p1 p2 o0 i0 v0_1 v0_2) (x := ((.exit 0), Qx0 p1 p2 o0 v0_1 v0_2 (envF (Qxb p1 p2 o0 i0 v0_1 v0_2)) (zoF (Qoz p1 p2 o0 i0 v0_1 v0_2)))) [hB 0 hc0] [] (by kernel_rfl)⟩
theorem Q1bf (p1 : Val) (p2 : BA) (o0 : PDecoder) (H : Qip p1 p2 o0) (x0 : Val) (i0 : Nat) (v0_1 : Bool) (v0_2 : List Toleration) (hx0 : (s_Kd p1 p2 4 o0).1.list[i0]? = some x0) (hi0 : i0 < List.length (s_Kd p1 p2 4 o0).1.list) (ho0_0 : List.length v0_2 ≤ i0) (hc0 : (decide ((i0 : Int) < ((List.length (s_Kd p1 p2 4 o0).1.list) : Int))) = true) {r : Rs} (hr : Q7 G (Qrm p1 p2 o0 (i0 + 1) (s_Kr x0 (PDecoder.mk v0_1)).2.failed (v0_2 ++ [(s_Kr x0 (PDecoder.mk v0_1)).1])) r) : Q7 G (Qrm p1 p2 o0 i0 v0_1 v0_2) r := by
 have hB0 := H.1
 exact Ql (Q19t p1 p2 o0 i0 v0_1 v0_2) (y := (Q11l p1 p2 o0 (i0 + 1) (s_Kr x0 (PDecoder.mk v0_1)).2.failed (v0_2 ++ [(s_Kr x0 (PDecoder.mk v0_1)).1]), Qru p1 p2 o0 (i0 + 1) (s_Kr x0 (PDecoder.mk v0_1)).2.failed (v0_2 ++ [(s_Kr x0 (PDecoder.mk v0_1)).1]))) [hB 0 hc0, hP 0 (Q2s 5 (Val.rows (s_Kd p1 p2 4 o0).1.list) i0 _ (Val.Qo hx0) rfl), hV 8 [(642, Toleration.rows (v0_2 ++ [(s_Kr x0 (PDecoder.mk v0_1)).1]))] (Q42 1 578 642 5 56 0 0 true (Toleration.rows v0_2) (Toleration.rows (v0_2 ++ [(s_Kr x0 (PDecoder.mk v0_1)).1])) (Toleration.cells (s_Kr x0 (PDecoder.mk v0_1)).1) (List.length v0_2) (List.length (v0_2 ++ [(s_Kr x0 (PDecoder.mk v0_1)).1])) rfl (Toleration.Q9 v0_2).symm (Toleration.Q9 (v0_2 ++ [(s_Kr x0 (PDecoder.mk v0_1)).1])).symm (Toleration.Q1t v0_2 (s_Kr x0 (PDecoder.mk v0_1)).1) (Toleration.Qu v0_2) rfl (by omega)), hS 0 true (Toleration.Qb (v0_2 ++ [(s_Kr x0 (PDecoder.mk v0_1)).1]) 5 rfl), hP 1 (Q2g i0 (by omega))] [aN (t_Kr x0 (PDecoder.mk v0_1) (H.2.1 x0 (Q2l hx0)))] (by kernel_rfl) hr
theorem Q13z (p1 : Val) (p2 : BA) (o0 : PDecoder) (H : Qip p1 p2 o0) : ∀ (r0 : List Val) (i0 : Nat) (v0_1 : Bool) (v0_2 : List Toleration), List.drop i0 (s_Kd p1 p2 4 o0).1.list = r0 → List.length v0_2 ≤ i0 → Qtd p1 p2 o0 (Qrm p1 p2 o0 i0 v0_1 v0_2) (Q6f p1 p2 o0 r0 i0 v0_1 v0_2)
 | [], i0, v0_1, v0_2, hd, ho0_0 => by
  have hc0 : (decide ((i0 : Int) < ((List.length (s_Kd p1 p2 4 o0).1.list) : Int))) = false := by have := Q1m hd; simp; omega
  rw [Q6f]
  exact Q1d3 p1 p2 o0 H i0 v0_1 v0_2 ho0_0 hc0
 | x0 :: r0, i0, v0_1, v0_2, hd, ho0_0 => by
  obtain ⟨hx0, hi0, hd'⟩ := Q1k hd
  have hc0 : (decide ((i0 : Int) < ((List.length (s_Kd p1 p2 4 o0).1.list) : Int))) = true := by simp; omega
  rw [Q6f]
  exact Qwq p1 p2 o0 (fun r hr => Q1bf p1 p2 o0 H x0 i0 v0_1 v0_2 hx0 hi0 ho0_0 hc0 hr) _ (Q13z p1 p2 o0 H r0 (i0 + 1) (s_Kr x0 (PDecoder.mk v0_1)).2.failed (v0_2 ++ [(s_Kr x0 (PDecoder.mk v0_1)).1]) hd' (by first | omega | (simp; omega)))
def s_Ky (p1 : Val) (p2 : BA) (o0 : PDecoder) : List Toleration × PDecoder := ((dE Toleration.dec p1 p2).1, ft o0 (isM p1 && (dE Toleration.dec p1 p2).2))
theorem Q1c6 (p1 : Val) (p2 : BA) (o0 : PDecoder) : ∀ (l : List Val) (i : Nat) (b : Bool) (a : List Toleration), Q6f p1 p2 o0 l i b a = (b || !(l.all fun x => (Toleration.dec x).2), a ++ l.map (fun x => (Toleration.dec x).1))
  | [], _, b, a => by rw [Q6f]; simp
  | x :: l, i, b, a => by
    rw [Q6f]
    refine (Q1c6 p1 p2 o0 l (i + 1) (b || !(Toleration.dec x).2) (a ++ [(Toleration.dec x).1])).trans ?_
    simp only [List.append_assoc, List.singleton_append, List.map_cons, List.all_cons, Bool.not_and, Bool.or_assoc]
theorem e_Ky (p1 : Val) (p2 : BA) (o0 : PDecoder) : s_Ky p1 p2 o0 = (((Q6f p1 p2 o0 (s_Kd p1 p2 4 o0).1.list 0 (s_Kd p1 p2 4 o0).2.failed []).2, (PDecoder.mk (Q6f p1 p2 o0 (s_Kd p1 p2 4 o0).1.list 0 (s_Kd p1 p2 4 o0).2.failed []).1))) := by
  rw [Q1c6]
  unfold s_Kd s_Ky
  simp only [Q91, Q4m]
  refine Prod.ext rfl ?_
  rw [Q8p o0.failed (isM p1) _ _ _ (Quw (prt p1 p2)), Q5g]
  rfl
def c_Ky (p1 : Val) (p2 : BA) (o0 : PDecoder) : En := .call 251 [.bx 0 0, .agg (Val.cells p1), .str p2, .fn 252 [.bx 0 0] []] [⟨1, 0, false, (PDecoder.cells o0)⟩]
def r_Ky (_p1 : Val) (_p2 : BA) (_o0 : PDecoder) (q0 : List Toleration) (q1 : PDecoder) : Rs := .ret (.sl (Toleration.rows q0)) [⟨1, 0, false, (PDecoder.cells q1)⟩]
def a_Ky (p1 : Val) (p2 : BA) (o0 : PDecoder) : Rs := r_Ky p1 p2 o0 (s_Ky p1 p2 o0).1 (s_Ky p1 p2 o0).2
def H_Ky (p1 : Val) : Prop := Val.Sm 1000000000 p1
theorem Q1am (p1 : Val) (p2 : BA) (o0 : PDecoder) (H : H_Ky p1) : (H_Kd p1) ∧ (Qip p1 p2 o0) ∧ True := by
  have hl := Qmx (Q3a H p2)
  refine ⟨H, ?_, trivial⟩
  unfold Qip s_Kd
  simp only [Q91]
  exact ⟨Nat.le_trans hl.1 (Nat.le_of_ble_eq_true rfl), hl.2, trivial⟩
theorem t_Ky (p1 : Val) (p2 : BA) (o0 : PDecoder) (H : H_Ky p1) : Q7 G (c_Ky p1 p2 o0) (a_Ky p1 p2 o0) := by
 unfold a_Ky
 rw [e_Ky]
 have hl0 := Q13z p1 p2 o0 ((Q1am p1 p2 o0 H).2.1) (s_Kd p1 p2 4 o0).1.list 0 (s_Kd p1 p2 4 o0).2.failed [] (by simp) (by simp)
 obtain ⟨z0, zo0, hl0⟩ := hl0
 exact Q8 (fn := Ir.Ky) rfl (h := [⟨1, 0, false, (PDecoder.cells o0)⟩]) (vw := []) VOK.nil [hP 8 (Q11 (Val.rows (s_Kd p1 p2 4 o0).1.list) (List.length (s_Kd p1 p2 4 o0).1.list) (Val.Q9 (s_Kd p1 p2 4 o0).1.list)), hS 0 true (Toleration.Qb (Q6f p1 p2 o0 (s_Kd p1 p2 4 o0).1.list 0 (s_Kd p1 p2 4 o0).2.failed []).2 5 rfl), hQ (Toleration.Q9 (Q6f p1 p2 o0 (s_Kd p1 p2 4 o0).1.list 0 (s_Kd p1 p2 4 o0).2.failed []).2).symm] [aN (t_Kd p1 p2 4 o0 (Q1am p1 p2 o0 H).1), aV [(1, Toleration.rows (Q6f p1 p2 o0 (s_Kd p1 p2 4 o0).1.list 0 (s_Kd p1 p2 4 o0).2.failed []).2)] hl0] (by kernel_rfl)
def s_Kl (p1 : Val) (o0 : PDecoder) : PodSpec × PDecoder := ((PodSpec.dec p1).1, ft o0 (PodSpec.dec p1).2)
theorem e_Kl (p1 : Val) (o0 : PDecoder) : s_Kl p1 o0 = (((PodSpec.mk (s_Kn p1 Q2r (s_Ko p1 o0).2).1 (s_Kg p1 Q1f (s_Kn p1 Q2r (s_Ko p1 o0).2).2).1 (s_Kg p1 Q1r (s_Kg p1 Q1f (s_Kn p1 Q2r (s_Ko p1 o0).2).2).2).1 (s_Kg p1 Q2o (s_Kg p1 Q1r (s_Kg p1 Q1f (s_Kn p1 Q2r (s_Ko p1 o0).2).2).2).2).1 (s_Kt p1 Q1d (s_Kg p1 Q2o (s_Kg p1 Q1r (s_Kg p1 Q1f (s_Kn p1 Q2r (s_Ko p1 o0).2).2).2).2).2).1 (s_Ku p1 Q19 (s_Kt p1 Q1d (s_Kg p1 Q2o (s_Kg p1 Q1r (s_Kg p1 Q1f (s_Kn p1 Q2r (s_Ko p1 o0).2).2).2).2).2).2).1 (s_Kv p1 Q1v (s_Ku p1 Q19 (s_Kt p1 Q1d (s_Kg p1 Q2o (s_Kg p1 Q1r (s_Kg p1 Q1f (s_Kn p1 Q2r (s_Ko p1 o0).2).2).2).2).2).2).2).1 (s_Kw p1 Q2d (s_Kv p1 Q1v (s_Ku p1 Q19 (s_Kt p1 Q1d (s_Kg p1 Q2o (s_Kg p1 Q1r (s_Kg p1 Q1f (s_Kn p1 Q2r (s_Ko p1 o0).2).2).2).2).2).2).2).2).1 (s_Kx p1 Q33 (s_Kw p1 Q2d (s_Kv p1 Q1v (s_Ku p1 Q19 (s_Kt p1 Q1d (s_Kg p1 Q2o (s_Kg p1 Q1r (s_Kg p1 Q1f (s_Kn p1 Q2r (s_Ko p1 o0).2).2).2).2).2).2).2).2).2).1 (s_Ky p1 Q26 (s_Kx p1 Q33 (s_Kw p1 Q2d (s_Kv p1 Q1v (s_Ku p1 Q19 (s_Kt p1 Q1d (s_Kg p1 Q2o (s_Kg p1 Q1r (s_Kg p1 Q1f (s_Kn p1 Q2r (s_Ko p1 o0).2).2).2).2).2).2).2).2).2).2).1), (s_Ky p1 Q26 (s_Kx p1 Q33 (s_Kw p1 Q2d (s_Kv p1 Q1v (s_Ku p1 Q19 (s_Kt p1 Q1d (s_Kg p1 Q2o (s_Kg p1 Q1r (s_Kg p1 Q1f (s_Kn p1 Q2r (s_Ko p1 o0).2).2).2).2).2).2).2).2).2).2).2)) := by
  simp only [s_Ko, s_Kg, s_Kn, s_Kt, s_Kv, s_Kw, s_Ku, s_Kx, s_Ky, s_Kl, PodSpec.dec, Qlv, Bool.and_assoc, Bool.and_left_comm, Bool.and_comm, Bool.and_self_left]
def c_Kl (p1 : Val) (o0 : PDecoder) : En := .call 218 [.bx 0 0, .agg (Val.cells p1)] [⟨1, 0, false, (PDecoder.cells o0)⟩]
def r_Kl (_p1 : Val) (_o0 : PDecoder) (q0 : PodSpec) (q1 : PDecoder) : Rs := .ret (.agg (PodSpec.cells q0)) [⟨1, 0, false, (PDecoder.cells q1)⟩]
def a_Kl (p1 : Val) (o0 : PDecoder) : Rs := r_Kl p1 o0 (s_Kl p1 o0).1 (s_Kl p1 o0).2
def H_Kl (p1 : Val) : Prop := Val.Sm 1000000000 p1
theorem Q7n (p1 : Val) (_o0 : PDecoder) (H : H_Kl p1) : (H_Kn p1) ∧ (H_Kg p1) ∧ (H_Kt p1) ∧ (H_Ku p1) ∧ (H_Kv p1) ∧ (H_Kw p1) ∧ (H_Kx p1) ∧ (H_Ky p1) ∧ True := by
  repeat' with_reducible apply And.intro
  all_goals first | exact True.intro | exact H | exact Qmp (Q3a H _)
theorem t_Kl (p1 : Val) (o0 : PDecoder) (H : H_Kl p1) : Q7 G (c_Kl p1 o0) (a_Kl p1 o0) := by
 unfold a_Kl
 rw [e_Kl]
 exact Q8 (fn := Ir.Kl) rfl (h := [⟨1, 0, false, (PDecoder.cells o0)⟩]) (vw := []) VOK.nil [] [aN (t_Ko p1 o0), aN (t_Kn p1 Q2r (s_Ko p1 o0).2 (Q7n p1 o0 H).1), aN (t_Kg p1 Q1f (s_Kn p1 Q2r (s_Ko p1 o0).2).2 (Q7n p1 o0 H).2.1), aN (t_Kg p1 Q1r (s_Kg p1 Q1f (s_Kn p1 Q2r (s_Ko p1 o0).2).2).2 (Q7n p1 o0 H).2.1), aN (t_Kg p1 Q2o (s_Kg p1 Q1r (s_Kg p1 Q1f (s_Kn p1 Q2r (s_Ko p1 o0).2).2).2).2 (Q7n p1 o0 H).2.1), aN (t_Kt p1 Q1d (s_Kg p1 Q2o (s_Kg p1 Q1r (s_Kg p1 Q1f (s_Kn p1 Q2r (s_Ko p1 o0).2).2).2).2).2 (Q7n p1 o0 H).2.2.1), aN (t_Ku p1 Q19 (s_Kt p1 Q1d (s_Kg p1 Q2o (s_Kg p1 Q1r (s_Kg p1 Q1f (s_Kn p1 Q2r (s_Ko p1 o0).2).2).2).2).2).2 (Q7n p1 o0 H).2.2.2.1), aN (t_Kv p1 Q1v (s_Ku p1 Q19 (s_Kt p1 Q1d (s_Kg p1 Q2o (s_Kg p1 Q1r (s_Kg p1 Q1f (s_Kn p1 Q2r (s_Ko p1 o0).2).2).2).2).2).2).2 (Q7n p1 o0 H).2.2.2.2.1), aN (t_Kw p1 Q2d (s_Kv p1 Q1v (s_Ku p1 Q19 (s_Kt p1 Q1d (s_Kg p1 Q2o (s_Kg p1 Q1r (s_Kg p1 Q1f (s_Kn p1 Q2r (s_Ko p1 o0).2).2).2).2).2).2).2).2 (Q7n p1 o0 H).2.2.2.2.2.1), aN (t_Kx p1 Q33 (s_Kw p1 Q2d (s_Kv p1 Q1v (s_Ku p1 Q19 (s_Kt p1 Q1d (s_Kg p1 Q2o (s_Kg p1 Q1r (s_Kg p1 Q1f (s_Kn p1 Q2r (s_Ko p1 o0).2).2).2).2).2).2).2).2).2 (Q7n p1 o0 H).2.2.2.2.2.2.1), aN (t_Ky p1 Q26 (s_Kx p1 Q33 (s_Kw p1 Q2d (s_Kv p1 Q1v (s_Ku p1 Q19 (s_Kt p1 Q1d (s_Kg p1 Q2o (s_Kg p1 Q1r (s_Kg p1 Q1f (s_Kn p1 Q2r (s_Ko p1 o0).2).2).2).2).2).2).2).2).2).2 (Q7n p1 o0 H).2.2.2.2.2.2.2.1)] (by kernel_rfl)
def s_Ke (p1 : Val) (o0 : PDecoder) : Label × PDecoder := ((Label.dec p1).1, ft o0 (Label.dec p1).2)
theorem e_Ke (p1 : Val) (o0 : PDecoder) : s_Ke p1 o0 = (((Label.mk (s_Kn p1 Qz (s_Ko p1 o0).2).1 (s_Kn p1 Q13 (s_Kn p1 Qz (s_Ko p1 o0).2).2).1), (s_Kn p1 Q13 (s_Kn p1 Qz (s_Ko p1 o0).2).2).2)) := by
  simp only [s_Ko, s_Kn, s_Ke, Label.dec, Qlv, Bool.and_assoc, Bool.and_left_comm, Bool.and_comm, Bool.and_self_left]
def c_Ke (p1 : Val) (o0 : PDecoder) : En := .call 217 [.bx 0 0, .agg (Val.cells p1)] [⟨1, 0, false, (PDecoder.cells o0)⟩]
def r_Ke (_p1 : Val) (_o0 : PDecoder) (q0 : Label) (q1 : PDecoder) : Rs := .ret (.agg (Label.cells q0)) [⟨1, 0, false, (PDecoder.cells q1)⟩]
def a_Ke (p1 : Val) (o0 : PDecoder) : Rs := r_Ke p1 o0 (s_Ke p1 o0).1 (s_Ke p1 o0).2
def H_Ke (p1 : Val) : Prop := Val.Sm 1000000000 p1
theorem Q1af (p1 : Val) (_o0 : PDecoder) (H : H_Ke p1) : (H_Kn p1) ∧ True := by
  repeat' with_reducible apply And.intro
  all_goals first | exact True.intro | exact H | exact Qmp (Q3a H _)
theorem t_Ke (p1 : Val) (o0 : PDecoder) (H : H_Ke p1) : Q7 G (c_Ke p1 o0) (a_Ke p1 o0) := by
 unfold a_Ke
 rw [e_Ke]
 exact Q8 (fn := Ir.Ke) rfl (h := [⟨1, 0, false, (PDecoder.cells o0)⟩]) (vw := []) VOK.nil [] [aN (t_Ko p1 o0), aN (t_Kn p1 Qz (s_Ko p1 o0).2 (Q1af p1 o0 H).1), aN (t_Kn p1 Q13 (s_Kn p1 Qz (s_Ko p1 o0).2).2 (Q1af p1 o0 H).1)] (by kernel_rfl)
def Q69 (p1 : Val) (p2 : BA) (o0 : PDecoder) : List Val → Nat → Bool → (List Label) → Bool × (List Label)
 | [], _i0, v0_1, v0_2 =>
  (v0_1, v0_2)
 | x0 :: r0, i0, v0_1, v0_2 =>
  Q69 p1 p2 o0 r0 (i0 + 1) (s_Ke x0 (PDecoder.mk v0_1)).2.failed (v0_2 ++ [(s_Ke x0 (PDecoder.mk v0_1)).1])
def Q11f (p1 : Val) (p2 : BA) (o0 : PDecoder) (i0 : Nat) (_v0_1 : Bool) (v0_2 : List Label) : List PV :=
  [.un, .un, .un, .fn 217 [.bx 0 0] []] ++ nuns 5 ++ [.ms 1 2 0 (List.length v0_2)] ++ nuns 6 ++ [.sl (Val.rows (s_Kd p1 p2 4 o0).1.list), .int .i64 ((List.length (s_Kd p1 p2 4 o0).1.list) : Int), .int .i64 (i0 : Int)] ++ nuns 11
def Qro (_p1 : Val) (_p2 : BA) (_o0 : PDecoder) (_i0 : Nat) (v0_1 : Bool) (v0_2 : List Label) : List Ob :=
  [⟨1, 0, false, [.bool v0_1]⟩, ⟨2, 0, true, (Label.rows v0_2).flatten⟩]
def Qrg (p1 : Val) (p2 : BA) (o0 : PDecoder) (i0 : Nat) (v0_1 : Bool) (v0_2 : List Label) : En := .loop 1 Ir.Qna Ir.Q1n2 (Q11f p1 p2 o0 i0 v0_1 v0_2) (Qro p1 p2 o0 i0 v0_1 v0_2)
def Qwu (_p1 : Val) (_p2 : BA) (_o0 : PDecoder) (q0 : Bool) (q1 : List Label) (z : Nat → PV) (_zo : Nat → List PV) : St :=
  ⟨zr z 0 9 ++ [.ms 1 2 0 (List.length q1)] ++ zr z 10 20, [(0, ⟨1, 0, false, [.bool q0]⟩), (1, ⟨2, 0, true, (Label.rows q1).flatten⟩)], 66⟩
theorem Q19n (p1 : Val) (p2 : BA) (o0 : PDecoder) (i0 : Nat) (v0_1 : Bool) (v0_2 : List Label) : VOK (Go.Pv.look (number 0 (Qro p1 p2 o0 i0 v0_1 v0_2))) [(1, Label.rows v0_2)] := (VOK.cons (show Seen _ _ from Q3k (ob := ⟨2, 0, true, (Label.rows v0_2).flatten⟩) (Label.Qb v0_2 2 rfl)) VOK.nil)
def Qt7 (p1 : Val) (p2 : BA) (o0 : PDecoder) (e : En) (q : Bool × (List Label)) : Prop := ∃ z zo, Q7 G e (.st (.exit 0) (Qwu p1 p2 o0 q.1 q.2 z zo))
theorem Qwk (p1 : Val) (p2 : BA) (o0 : PDecoder) {e e' : En} (h : ∀ r, Q7 G e r → Q7 G e' r) : ∀ q, Qt7 p1 p2 o0 e q → Qt7 p1 p2 o0 e' q
  | _, ⟨z, zo, hz⟩ => ⟨z, zo, h _ hz⟩
def Qij (p1 : Val) (p2 : BA) (o0 : PDecoder) : Prop := (List.length (s_Kd p1 p2 4 o0).1.list ≤ 137438953472) ∧ (∀ x0 ∈ (s_Kd p1 p2 4 o0).1.list, H_Ke x0) ∧ True
def Qx5 (p1 : Val) (p2 : BA) (o0 : PDecoder) (i0 : Nat) (_v0_1 : Bool) (_v0_2 : List Label) : List PV :=
  [.un, .un, .un, .fn 217 [.bx 0 0] []] ++ nuns 12 ++ [.sl (Val.rows (s_Kd p1 p2 4 o0).1.list), .int .i64 ((List.length (s_Kd p1 p2 4 o0).1.list) : Int), .int .i64 (i0 : Int), .bool false]
def Qot (_p1 : Val) (_p2 : BA) (_o0 : PDecoder) (_i0 : Nat) (_v0_1 : Bool) (_v0_2 : List Label) : List (Nat × List PV) :=
  []
theorem Q1cx (p1 : Val) (p2 : BA) (o0 : PDecoder) (_H : Qij p1 p2 o0) (i0 : Nat) (v0_1 : Bool) (v0_2 : List Label) (_ho0_0 : List.length v0_2 ≤ i0) (hc0 : (decide ((i0 : Int) < ((List.length (s_Kd p1 p2 4 o0).1.list) : Int))) = false) : Qt7 p1 p2 o0 (Qrg p1 p2 o0 i0 v0_1 v0_2) (v0_1, v0_2) := by
 exact ⟨(envF (Qx5 p1 p2 o0 i0 v0_1 v0_2)), (zoF (Qot p1 p2 o0 i0 v0_1 v0_2)), Qm (Q19n p1 p2 o0 i0 v0_1 v0_2) (x := ((.exit 0), Qwu p1 p2 o0 v0_1 v0_2 (envF (Qx5 p1 p2 o0 i0 v0_1 v0_2)) (zoF (Qot p1 p2 o0 i0 v0_1 v0_2)))) [hB 0 hc0] [] (by kernel_rfl)⟩
theorem Q1b9 (p1 : Val) (p2 : BA) (o0 : PDecoder) (H : Qij p1 p2 o0) (x0 : Val) (i0 : Nat) (v0_1 : Bool) (v0_2 : List Label) (hx0 : (s_Kd p1 p2 4 o0).1.list[i0]? = some x0) (hi0 : i0 < List.length (s_Kd p1 p2 4 o0).1.list) (ho0_0 : List.length v0_2 ≤ i0) (hc0 : (decide ((i0 : Int) < ((List.length (s_Kd p1 p2 4 o0).1.list) : Int))) = true) {r : Rs} (hr : Q7 G (Qrg p1 p2 o0 (i0 + 1) (s_Ke x0 (PDecoder.mk v0_1)).2.failed (v0_2 ++ [(s_Ke x0 (PDecoder.mk v0_1)).1])) r) : Q7 G (Qrg p1 p2 o0 i0 v0_1 v0_2) r := by
 have hB0 := H.1
 exact Ql (Q19n p1 p2 o0 i0 v0_1 v0_2) (y := (Q11f p1 p2 o0 (i0 + 1) (s_Ke x0 (PDecoder.mk v0_1)).2.failed (v0_2 ++ [(s_Ke x0 (PDecoder.mk v0_1)).1]), Qro p1 p2 o0 (i0 + 1) (s_Ke x0 (PDecoder.mk v0_1)).2.failed (v0_2 ++ [(s_Ke x0 (PDecoder.mk v0_1)).1]))) [hB 0 hc0, hP 0 (Q2s 5 (Val.rows (s_Kd p1 p2 4 o0).1.list) i0 _ (Val.Qo hx0) rfl), hV 8 [(642, Label.rows (v0_2 ++ [(s_Ke x0 (PDecoder.mk v0_1)).1]))] (Q42 1 578 642 2 32 0 0 true (Label.rows v0_2) (Label.rows (v0_2 ++ [(s_Ke x0 (PDecoder.mk v0_1)).1])) (Label.cells (s_Ke x0 (PDecoder.mk v0_1)).1) (List.length v0_2) (List.length (v0_2 ++ [(s_Ke x0 (PDecoder.mk v0_1)).1])) rfl (Label.Q9 v0_2).symm (Label.Q9 (v0_2 ++ [(s_Ke x0 (PDecoder.mk v0_1)).1])).symm (Label.Q1t v0_2 (s_Ke x0 (PDecoder.mk v0_1)).1) (Label.Qu v0_2) rfl (by omega)), hS 0 true (Label.Qb (v0_2 ++ [(s_Ke x0 (PDecoder.mk v0_1)).1]) 2 rfl), hP 1 (Q2g i0 (by omega))] [aN (t_Ke x0 (PDecoder.mk v0_1) (H.2.1 x0 (Q2l hx0)))] (by kernel_rfl) hr
theorem Q13t (p1 : Val) (p2 : BA) (o0 : PDecoder) (H : Qij p1 p2 o0) : ∀ (r0 : List Val) (i0 : Nat) (v0_1 : Bool) (v0_2 : List Label), List.drop i0 (s_Kd p1 p2 4 o0).1.list = r0 → List.length v0_2 ≤ i0 → Qt7 p1 p2 o0 (Qrg p1 p2 o0 i0 v0_1 v0_2) (Q69 p1 p2 o0 r0 i0 v0_1 v0_2)
 | [], i0, v0_1, v0_2, hd, ho0_0 => by
  have hc0 : (decide ((i0 : Int) < ((List.length (s_Kd p1 p2 4 o0).1.list) : Int))) = false := by have := Q1m hd; simp; omega
  rw [Q69]
  exact Q1cx p1 p2 o0 H i0 v0_1 v0_2 ho0_0 hc0
 | x0 :: r0, i0, v0_1, v0_2, hd, ho0_0 => by
  obtain ⟨hx0, hi0, hd'⟩ := Q1k hd
  have hc0 : (decide ((i0 : Int) < ((List.length (s_Kd p1 p2 4 o0).1.list) : Int))) = true := by simp; omega
  rw [Q69]
  exact Qwk p1 p2 o0 (fun r hr => Q1b9 p1 p2 o0 H x0 i0 v0_1 v0_2 hx0 hi0 ho0_0 hc0 hr) _ (Q13t p1 p2 o0 H r0 (i0 + 1) (s_Ke x0 (PDecoder.mk v0_1)).2.failed (v0_2 ++ [(s_Ke x0 (PDecoder.mk v0_1)).1]) hd' (by first | omega | (simp; omega)))
def s_Ks (p1 : Val) (p2 : BA) (o0 : PDecoder) : List Label × PDecoder := ((dE Label.dec p1 p2).1, ft o0 (isM p1 && (dE Label.dec p1 p2).2))
theorem Q1c0 (p1 : Val) (p2 : BA) (o0 : PDecoder) : ∀ (l : List Val) (i : Nat) (b : Bool) (a : List Label), Q69 p1 p2 o0 l i b a = (b || !(l.all fun x => (Label.dec x).2), a ++ l.map (fun x => (Label.dec x).1))
  | [], _, b, a => by rw [Q69]; simp
  | x :: l, i, b, a => by
    rw [Q69]
    refine (Q1c0 p1 p2 o0 l (i + 1) (b || !(Label.dec x).2) (a ++ [(Label.dec x).1])).trans ?_
    simp only [List.append_assoc, List.singleton_append, List.map_cons, List.all_cons, Bool.not_and, Bool.or_assoc]
theorem e_Ks (p1 : Val) (p2 : BA) (o0 : PDecoder) : s_Ks p1 p2 o0 = (((Q69 p1 p2 o0 (s_Kd p1 p2 4 o0).1.list 0 (s_Kd p1 p2 4 o0).2.failed []).2, (PDecoder.mk (Q69 p1 p2 o0 (s_Kd p1 p2 4 o0).1.list 0 (s_Kd p1 p2 4 o0).2.failed []).1))) := by
  rw [Q1c0]
  unfold s_Kd s_Ks
  simp only [Q91, Q4m]
  refine Prod.ext rfl ?_
  rw [Q8p o0.failed (isM p1) _ _ _ (Quw (prt p1 p2)), Q5g]
  rfl
def c_Ks (p1 : Val) (p2 : BA) (o0 : PDecoder) : En := .call 216 [.bx 0 0, .agg (Val.cells p1), .str p2, .fn 217 [.bx 0 0] []] [⟨1, 0, false, (PDecoder.cells o0)⟩]
def r_Ks (_p1 : Val) (_p2 : BA) (_o0 : PDecoder) (q0 : List Label) (q1 : PDecoder) : Rs := .ret (.sl (Label.rows q0)) [⟨1, 0, false, (PDecoder.cells q1)⟩]
def a_Ks (p1 : Val) (p2 : BA) (o0 : PDecoder) : Rs := r_Ks p1 p2 o0 (s_Ks p1 p2 o0).1 (s_Ks p1 p2 o0).2
def H_Ks (p1 : Val) : Prop := Val.Sm 1000000000 p1
theorem Q1ag (p1 : Val) (p2 : BA) (o0 : PDecoder) (H : H_Ks p1) : (H_Kd p1) ∧ (Qij p1 p2 o0) ∧ True := by
  have hl := Qmx (Q3a H p2)
  refine ⟨H, ?_, trivial⟩
  unfold Qij s_Kd
  simp only [Q91]
  exact ⟨Nat.le_trans hl.1 (Nat.le_of_ble_eq_true rfl), hl.2, trivial⟩
theorem t_Ks (p1 : Val) (p2 : BA) (o0 : PDecoder) (H : H_Ks p1) : Q7 G (c_Ks p1 p2 o0) (a_Ks p1 p2 o0) := by
 unfold a_Ks
 rw [e_Ks]
 have hl0 := Q13t p1 p2 o0 ((Q1ag p1 p2 o0 H).2.1) (s_Kd p1 p2 4 o0).1.list 0 (s_Kd p1 p2 4 o0).2.failed [] (by simp) (by simp)
 obtain ⟨z0, zo0, hl0⟩ := hl0
 exact Q8 (fn := Ir.Ks) rfl (h := [⟨1, 0, false, (PDecoder.cells o0)⟩]) (vw := []) VOK.nil [hP 8 (Q11 (Val.rows (s_Kd p1 p2 4 o0).1.list) (List.length (s_Kd p1 p2 4 o0).1.list) (Val.Q9 (s_Kd p1 p2 4 o0).1.list)), hS 0 true (Label.Qb (Q69 p1 p2 o0 (s_Kd p1 p2 4 o0).1.list 0 (s_Kd p1 p2 4 o0).2.failed []).2 2 rfl), hQ (Label.Q9 (Q69 p1 p2 o0 (s_Kd p1 p2 4 o0).1.list 0 (s_Kd p1 p2 4 o0).2.failed []).2).symm] [aN (t_Kd p1 p2 4 o0 (Q1ag p1 p2 o0 H).1), aV [(1, Label.rows (Q69 p1 p2 o0 (s_Kd p1 p2 4 o0).1.list 0 (s_Kd p1 p2 4 o0).2.failed []).2)] hl0] (by kernel_rfl)
def s_Ka (p0 : Val) : Template × Int := Qzr p0
theorem e_Ka (p0 : Val) : s_Ka p0 = (bif (s_Kl (s_Kp p0 Q2w (s_Ks p0 Q1x (s_Ko p0 (PDecoder.mk false)).2).2).1 (s_Kp p0 Q2w (s_Ks p0 Q1x (s_Ko p0 (PDecoder.mk false)).2).2).2).2.failed then
    ((Template.mk [] (PodSpec.mk eB 0 0 0 [] [] [] [] [] [])), 6)
  else
    ((Template.mk (s_Ks p0 Q1x (s_Ko p0 (PDecoder.mk false)).2).1 (s_Kl (s_Kp p0 Q2w (s_Ks p0 Q1x (s_Ko p0 (PDecoder.mk false)).2).2).1 (s_Kp p0 Q2w (s_Ks p0 Q1x (s_Ko p0 (PDecoder.mk false)).2).2).2).1), 0)) := by
  unfold s_Ka Qzr Template.dec
  simp only [s_Ko, s_Kp, s_Kl, s_Ks, PodSpec.sub1, dT, PodSpec.sub2, Qlv, Q4m, Bool.false_or, Bool.and_assoc, Bool.and_left_comm, Bool.and_comm, Bool.and_self_left]
  rfl
def c_Ka (p0 : Val) : En := .call 183 [.agg (Val.cells p0)] []
def a_Ka (p0 : Val) : Rs := .ret (.tup [.agg (Template.cells (s_Ka p0).1), .int .i64 (s_Ka p0).2]) []
def H_Ka (p0 : Val) : Prop := Val.Sm 1000000000 p0
theorem Qdm (p0 : Val) (H : H_Ka p0) : (H_Ks p0) ∧ (H_Kp p0) ∧ (H_Kl (s_Kp p0 Q2w (s_Ks p0 Q1x (s_Ko p0 (PDecoder.mk false)).2).2).1) ∧ True := by
  repeat' with_reducible apply And.intro
  all_goals first | exact True.intro | exact H | exact Qmp (Q3a H _)
theorem t_Ka (p0 : Val) (H : H_Ka p0) : Q7 G (c_Ka p0) (a_Ka p0) := by
 unfold a_Ka
 rw [e_Ka]
 cases h0 : (s_Kl (s_Kp p0 Q2w (s_Ks p0 Q1x (s_Ko p0 (PDecoder.mk false)).2).2).1 (s_Kp p0 Q2w (s_Ks p0 Q1x (s_Ko p0 (PDecoder.mk false)).2).2).2).2.failed with
 | true =>
  exact Q8 (fn := Ir.Ka) rfl VOK.nil [hP 25 (decR (s_Kl (s_Kp p0 Q2w (s_Ks p0 Q1x (s_Ko p0 (PDecoder.mk false)).2).2).1 (s_Kp p0 Q2w (s_Ks p0 Q1x (s_Ko p0 (PDecoder.mk false)).2).2).2).2.failed true [256] h0)] [aN (t_Ko p0 (PDecoder.mk false)), aN (t_Ks p0 Q1x (s_Ko p0 (PDecoder.mk false)).2 (Qdm p0 H).1), aN (t_Kp p0 Q2w (s_Ks p0 Q1x (s_Ko p0 (PDecoder.mk false)).2).2 (Qdm p0 H).2.1), aN (t_Kl (s_Kp p0 Q2w (s_Ks p0 Q1x (s_Ko p0 (PDecoder.mk false)).2).2).1 (s_Kp p0 Q2w (s_Ks p0 Q1x (s_Ko p0 (PDecoder.mk false)).2).2).2 (Qdm p0 H).2.2.1)] (by kernel_rfl)
 | false =>
  exact Q8 (fn := Ir.Ka) rfl VOK.nil [hP 25 (decR (s_Kl (s_Kp p0 Q2w (s_Ks p0 Q1x (s_Ko p0 (PDecoder.mk false)).2).2).1 (s_Kp p0 Q2w (s_Ks p0 Q1x (s_Ko p0 (PDecoder.mk false)).2).2).2).2.failed false [256] h0)] [aN (t_Ko p0 (PDecoder.mk false)), aN (t_Ks p0 Q1x (s_Ko p0 (PDecoder.mk false)).2 (Qdm p0 H).1), aN (t_Kp p0 Q2w (s_Ks p0 Q1x (s_Ko p0 (PDecoder.mk false)).2).2 (Qdm p0 H).2.1), aN (t_Kl (s_Kp p0 Q2w (s_Ks p0 Q1x (s_Ko p0 (PDecoder.mk false)).2).2).1 (s_Kp p0 Q2w (s_Ks p0 Q1x (s_Ko p0 (PDecoder.mk false)).2).2).2 (Qdm p0 H).2.2.1)] (by kernel_rfl)
end Go.Proofs.YtimjjohlpnkacaaGreat
end

section
/- What the program's decoders compute (printed by a program). -/
namespace Go.Proofs.YtimjjohlpnkacaaGreat
open Go.Pv
structure Decoder where
  wrong : Int
def Decoder.cells (x : Decoder) : List PV :=
  [.int .i64 x.wrong]
def Decoder.rows (l : List Decoder) : List (List PV) := l.map Decoder.cells
def bp (o : Decoder) (n : Nat) : Decoder := ⟨bw o.wrong n⟩
theorem Qcd (o : Decoder) (a b : Nat) : bp (bp o a) b = bp o (a + b) := by unfold bp; rw [Q1a2]
theorem Q14p (o : Decoder) (n : Nat) : (bp o n).wrong = bw o.wrong n := rfl
def Q21 (p1 : Val) (p2 : Int) (o0 : Decoder) : Val × Decoder := (bif p1.kind == p2 then p1 else vZ, bp o0 (cK p2 p1))
theorem Q1zr (p1 : Val) (p2 : Int) (o0 : Decoder) : Q21 p1 p2 o0 = (bif (p1.kind == p2) then
    (p1, o0)
  else
    bif (p1.kind == 0) then
      ((Val.mk 0 0 eB [] []), o0)
    else
      ((Val.mk 0 0 eB [] []), (Decoder.mk (w64 (o0.wrong + 1))))) := by
  obtain ⟨w⟩ := o0
  unfold Q21 bp cK nb
  cases (p1.kind == p2) <;> cases (p1.kind == 0) <;> rfl
def Q1xt (p1 : Val) (p2 : Int) (o0 : Decoder) : En := .call 174 [.bx 0 0, .agg (Val.cells p1), .int .i64 p2] [⟨1, 0, false, (Decoder.cells o0)⟩]
def Q20l (_p1 : Val) (_p2 : Int) (_o0 : Decoder) (q0 : Val) (q1 : Decoder) : Rs := .ret (.agg (Val.cells q0)) [⟨1, 0, false, (Decoder.cells q1)⟩]
def Q1p3 (p1 : Val) (p2 : Int) (o0 : Decoder) : Rs := Q20l p1 p2 o0 (Q21 p1 p2 o0).1 (Q21 p1 p2 o0).2
theorem Qer (p1 : Val) (p2 : Int) (o0 : Decoder) : Q7 G (Q1xt p1 p2 o0) (Q1p3 p1 p2 o0) := by
 unfold Q1p3
 rw [Q1zr]
 cases h0 : (p1.kind == p2) with
 | true =>
  exact Q8 (fn := Ir.K61) rfl (h := [⟨1, 0, false, (Decoder.cells o0)⟩]) (vw := []) VOK.nil [hB 5 h0] [] (by kernel_rfl)
 | false =>
  cases h1 : (p1.kind == 0) with
  | true =>
   exact Q8 (fn := Ir.K61) rfl (h := [⟨1, 0, false, (Decoder.cells o0)⟩]) (vw := []) VOK.nil [hB 5 h0, hP 2 (dec (!(p1.kind == 0)) false (by rw [h1]; rfl))] [] (by kernel_rfl)
  | false =>
   exact Q8 (fn := Ir.K61) rfl (h := [⟨1, 0, false, (Decoder.cells o0)⟩]) (vw := []) VOK.nil [hB 5 h0, hP 2 (dec (!(p1.kind == 0)) true (by rw [h1]; rfl))] [] (by kernel_rfl)
def Qt (p1 : Val) (p2 : BA) (o0 : Decoder) : Val × Decoder := (prt p1 p2, bp o0 (cM p1))
theorem Q1zs (p1 : Val) (p2 : BA) (o0 : Decoder) : Qt p1 p2 o0 = (((Qn8 (Q21 p1 5 o0).1 p2).1, (Q21 p1 5 o0).2)) := by
  unfold Qt
  rw [vprt]
  unfold Q21
  cases h : (p1.kind == 5) with
  | true => rfl
  | false => rw [Qmd h]; rfl
def Q1xu (p1 : Val) (p2 : BA) (o0 : Decoder) : En := .call 76 [.bx 0 0, .agg (Val.cells p1), .str p2] [⟨1, 0, false, (Decoder.cells o0)⟩]
def Q20m (_p1 : Val) (_p2 : BA) (_o0 : Decoder) (q0 : Val) (q1 : Decoder) : Rs := .ret (.agg (Val.cells q0)) [⟨1, 0, false, (Decoder.cells q1)⟩]
def Q1p4 (p1 : Val) (p2 : BA) (o0 : Decoder) : Rs := Q20m p1 p2 o0 (Qt p1 p2 o0).1 (Qt p1 p2 o0).2
def Qrx (p1 : Val) : Prop := Val.Sm 1000000000 p1
theorem Q1ec (p1 : Val) (p2 : BA) (o0 : Decoder) (H : Qrx p1) : (Q1d9 (Q21 p1 5 o0).1 p2) ∧ True := by
  refine ⟨Q1mt ?_ _, trivial⟩
  unfold Q21
  cases (p1.kind == 5) with
  | true => exact H
  | false => exact Q1r4
theorem Qut (p1 : Val) (p2 : BA) (o0 : Decoder) (H : Qrx p1) : Q7 G (Q1xu p1 p2 o0) (Q1p4 p1 p2 o0) := by
 unfold Q1p4
 rw [Q1zs]
 exact Q8 (fn := Ir.K62) rfl (h := [⟨1, 0, false, (Decoder.cells o0)⟩]) (vw := []) VOK.nil [] [aN (Qer p1 5 o0), aN (Q1fg (Q21 p1 5 o0).1 p2 (Q1ec p1 p2 o0 H).1)] (by kernel_rfl)
def Qh (p1 : Val) (p2 : BA) (o0 : Decoder) : Int × Decoder := ((dN p1 p2).1, bp o0 (pK 2 p1 p2))
theorem Q1zt (p1 : Val) (p2 : BA) (o0 : Decoder) : Qh p1 p2 o0 = (((Q21 (Qt p1 p2 o0).1 2 (Qt p1 p2 o0).2).1.n, (Q21 (Qt p1 p2 o0).1 2 (Qt p1 p2 o0).2).2)) := by
  unfold Qh Qt Q21
  simp only [Qcd]
  exact Prod.ext (getN (prt p1 p2)).symm rfl
def Q1xv (p1 : Val) (p2 : BA) (o0 : Decoder) : En := .call 71 [.bx 0 0, .agg (Val.cells p1), .str p2] [⟨1, 0, false, (Decoder.cells o0)⟩]
def Q20n (_p1 : Val) (_p2 : BA) (_o0 : Decoder) (q0 : Int) (q1 : Decoder) : Rs := .ret (.int .i64 q0) [⟨1, 0, false, (Decoder.cells q1)⟩]
def Q1p5 (p1 : Val) (p2 : BA) (o0 : Decoder) : Rs := Q20n p1 p2 o0 (Qh p1 p2 o0).1 (Qh p1 p2 o0).2
def Qwg (p1 : Val) : Prop := Val.Sm 1000000000 p1
theorem Q1ed (p1 : Val) (_p2 : BA) (_o0 : Decoder) (H : Qwg p1) : (Qrx p1) ∧ True := by
  exact ⟨H, trivial⟩
theorem Qbo (p1 : Val) (p2 : BA) (o0 : Decoder) (H : Qwg p1) : Q7 G (Q1xv p1 p2 o0) (Q1p5 p1 p2 o0) := by
 unfold Q1p5
 rw [Q1zt]
 exact Q8 (fn := Ir.K66) rfl (h := [⟨1, 0, false, (Decoder.cells o0)⟩]) (vw := []) VOK.nil [] [aN (Qut p1 p2 o0 (Q1ed p1 p2 o0 H).1), aN (Qer (Qt p1 p2 o0).1 2 (Qt p1 p2 o0).2)] (by kernel_rfl)
def Qd2 (p1 : Val) (p2 : BA) (o0 : Decoder) : ByteArray × Decoder := ((dS p1 p2).1, bp o0 (pK 3 p1 p2))
theorem Q1zx (p1 : Val) (p2 : BA) (o0 : Decoder) : Qd2 p1 p2 o0 = (((Q21 (Qt p1 p2 o0).1 3 (Qt p1 p2 o0).2).1.s, (Q21 (Qt p1 p2 o0).1 3 (Qt p1 p2 o0).2).2)) := by
  unfold Qd2 Qt Q21
  simp only [Qcd]
  exact Prod.ext (getS (prt p1 p2)).symm rfl
def Q1xz (p1 : Val) (p2 : BA) (o0 : Decoder) : En := .call 89 [.bx 0 0, .agg (Val.cells p1), .str p2] [⟨1, 0, false, (Decoder.cells o0)⟩]
def Q20r (_p1 : Val) (_p2 : BA) (_o0 : Decoder) (q0 : BA) (q1 : Decoder) : Rs := .ret (.str q0) [⟨1, 0, false, (Decoder.cells q1)⟩]
def Q1p9 (p1 : Val) (p2 : BA) (o0 : Decoder) : Rs := Q20r p1 p2 o0 (Qd2 p1 p2 o0).1 (Qd2 p1 p2 o0).2
def Q1i1 (p1 : Val) : Prop := Val.Sm 1000000000 p1
theorem Q1ef (p1 : Val) (_p2 : BA) (_o0 : Decoder) (H : Q1i1 p1) : (Qrx p1) ∧ True := by
  exact ⟨H, trivial⟩
theorem Q21w (p1 : Val) (p2 : BA) (o0 : Decoder) (H : Q1i1 p1) : Q7 G (Q1xz p1 p2 o0) (Q1p9 p1 p2 o0) := by
 unfold Q1p9
 rw [Q1zx]
 exact Q8 (fn := Ir.K6d) rfl (h := [⟨1, 0, false, (Decoder.cells o0)⟩]) (vw := []) VOK.nil [] [aN (Qut p1 p2 o0 (Q1ef p1 p2 o0 H).1), aN (Qer (Qt p1 p2 o0).1 3 (Qt p1 p2 o0).2)] (by kernel_rfl)
def Q4f (p1 : Val) (p2 : BA) (o0 : Decoder) : Bool × Decoder := ((dB p1 p2).1, bp o0 (pK 1 p1 p2))
theorem Q200 (p1 : Val) (p2 : BA) (o0 : Decoder) : Q4f p1 p2 o0 = (((!((Q21 (Qt p1 p2 o0).1 1 (Qt p1 p2 o0).2).1.n == 0)), (Q21 (Qt p1 p2 o0).1 1 (Qt p1 p2 o0).2).2)) := by
  unfold Q4f Qt Q21
  simp only [Qcd]
  exact Prod.ext (getB (prt p1 p2)).symm rfl
def Q1y2 (p1 : Val) (p2 : BA) (o0 : Decoder) : En := .call 74 [.bx 0 0, .agg (Val.cells p1), .str p2] [⟨1, 0, false, (Decoder.cells o0)⟩]
def Q20u (_p1 : Val) (_p2 : BA) (_o0 : Decoder) (q0 : Bool) (q1 : Decoder) : Rs := .ret (.bool q0) [⟨1, 0, false, (Decoder.cells q1)⟩]
def Q1pc (p1 : Val) (p2 : BA) (o0 : Decoder) : Rs := Q20u p1 p2 o0 (Q4f p1 p2 o0).1 (Q4f p1 p2 o0).2
def Q19i (p1 : Val) : Prop := Val.Sm 1000000000 p1
theorem Q1eg (p1 : Val) (_p2 : BA) (_o0 : Decoder) (H : Q19i p1) : (Qrx p1) ∧ True := by
  exact ⟨H, trivial⟩
theorem Q1jc (p1 : Val) (p2 : BA) (o0 : Decoder) (H : Q19i p1) : Q7 G (Q1y2 p1 p2 o0) (Q1pc p1 p2 o0) := by
 unfold Q1pc
 rw [Q200]
 exact Q8 (fn := Ir.K6g) rfl (h := [⟨1, 0, false, (Decoder.cells o0)⟩]) (vw := []) VOK.nil [] [aN (Qut p1 p2 o0 (Q1eg p1 p2 o0 H).1), aN (Qer (Qt p1 p2 o0).1 1 (Qt p1 p2 o0).2)] (by kernel_rfl)
def Q1q (p0 : Object) (p1 : BA) : Decoder := bp ⟨0⟩ (nb (sEq p0.meta_.kind p1) + cM p0.spec + cM p0.status)
theorem Q208 (p0 : Object) (p1 : BA) : Q1q p0 p1 = (bif (sEq p0.meta_.kind p1) then
    (Q21 p0.status 5 (Q21 p0.spec 5 (Decoder.mk 0)).2).2
  else
    (Q21 p0.status 5 (Q21 p0.spec 5 (Decoder.mk 1)).2).2) := by
  unfold Q1q
  simp only [Q21, Qcd]
  cases sEq p0.meta_.kind p1 with
  | true => exact congrArg (bp ⟨0⟩) (by show 0 + cM p0.spec + cM p0.status = cK 5 p0.spec + cK 5 p0.status; unfold cM; omega)
  | false =>
    refine Eq.trans ?_ (Qcd ⟨0⟩ 1 (cK 5 p0.spec + cK 5 p0.status)).symm
    exact congrArg (bp ⟨0⟩) (by show 1 + cM p0.spec + cM p0.status = 1 + (cK 5 p0.spec + cK 5 p0.status); unfold cM; omega)
def Q1yb (p0 : Object) (p1 : BA) : En := .call 68 [.agg (Object.cells p0), .str p1] []
def Q20x (_p0 : Object) (_p1 : BA) (q0 : Decoder) : Rs := .ret (.bx 0 0) [⟨1, 0, true, (Decoder.cells q0)⟩]
def Q1pl (p0 : Object) (p1 : BA) : Rs := Q20x p0 p1 (Q1q p0 p1)
theorem Q1jf (p0 : Object) (p1 : BA) : Q7 G (Q1yb p0 p1) (Q1pl p0 p1) := by
 unfold Q1pl
 rw [Q208]
 cases h0 : (sEq p0.meta_.kind p1) with
 | true =>
  exact Q8 (fn := Ir.K77) rfl VOK.nil [hP 9 (dec (!(sEq p0.meta_.kind p1)) false (by rw [h0]; rfl))] [aN (Qer p0.spec 5 (Decoder.mk 0)), aN (Qer p0.status 5 (Q21 p0.spec 5 (Decoder.mk 0)).2)] (by kernel_rfl)
 | false =>
  exact Q8 (fn := Ir.K77) rfl VOK.nil [hP 9 (dec (!(sEq p0.meta_.kind p1)) true (by rw [h0]; rfl))] [aN (Qer p0.spec 5 (Decoder.mk 1)), aN (Qer p0.status 5 (Q21 p0.spec 5 (Decoder.mk 1)).2)] (by kernel_rfl)
def Q64 (p0 : Val) (o1 : Decoder) : ByteArray × Decoder := ((xS p0).1, bp o1 (cK 3 p0))
theorem Q1zw (p0 : Val) (o1 : Decoder) : Q64 p0 o1 = (((Q21 p0 3 o1).1.s, (Q21 p0 3 o1).2)) := by
  exact Prod.ext (getS p0).symm rfl
def Q1xy (p0 : Val) (o1 : Decoder) : En := .call 182 [.agg (Val.cells p0), .bx 0 0] [⟨1, 0, false, [.bx 1 0]⟩, ⟨1, 0, false, (Decoder.cells o1)⟩]
def Q20q (_p0 : Val) (_o1 : Decoder) (q0 : BA) (q1 : Decoder) : Rs := .ret (.str q0) [⟨1, 0, false, [.bx 1 0]⟩, ⟨1, 0, false, (Decoder.cells q1)⟩]
def Q1p8 (p0 : Val) (o1 : Decoder) : Rs := Q20q p0 o1 (Q64 p0 o1).1 (Q64 p0 o1).2
theorem Q21v (p0 : Val) (o1 : Decoder) : Q7 G (Q1xy p0 o1) (Q1p8 p0 o1) := by
 unfold Q1p8
 rw [Q1zw]
 exact Q8 (fn := Ir.K6c) rfl (h := [⟨1, 0, false, [.bx 1 0]⟩, ⟨1, 0, false, (Decoder.cells o1)⟩]) (vw := []) VOK.nil [] [aN (Qer p0 3 o1)] (by kernel_rfl)
def Q4t (p1 : Val) (p2 : BA) (o0 : Decoder) : List Val → Nat → Int → (List ByteArray) → Int × (List ByteArray)
 | [], _i0, v0_1, v0_2 =>
  (v0_1, v0_2)
 | x0 :: r0, i0, v0_1, v0_2 =>
  Q4t p1 p2 o0 r0 (i0 + 1) (Q64 x0 (Decoder.mk v0_1)).2.wrong (v0_2 ++ [(Q64 x0 (Decoder.mk v0_1)).1])
def Qw1 (p1 : Val) (p2 : BA) (o0 : Decoder) (i0 : Nat) (_v0_1 : Int) (v0_2 : List ByteArray) : List PV :=
  [.un, .un, .un, .fn 182 [] [.bx 1 0]] ++ nuns 5 ++ [.ms 2 1 0 (List.length v0_2)] ++ nuns 8 ++ [.sl (Val.rows (Q21 (Qt p1 p2 o0).1 4 (Qt p1 p2 o0).2).1.list), .int .i64 ((List.length (Q21 (Qt p1 p2 o0).1 4 (Qt p1 p2 o0).2).1.list) : Int), .int .i64 (i0 : Int)] ++ nuns 11
def Qie (_p1 : Val) (_p2 : BA) (_o0 : Decoder) (_i0 : Nat) (v0_1 : Int) (v0_2 : List ByteArray) : List Ob :=
  [⟨1, 0, false, [.int .i64 v0_1]⟩, ⟨1, 0, false, [.bx 0 0]⟩, ⟨1, 0, true, (Qn v0_2).flatten⟩]
def Qfn (p1 : Val) (p2 : BA) (o0 : Decoder) (i0 : Nat) (v0_1 : Int) (v0_2 : List ByteArray) : En := .loop 2 Ir.Qju Ir.Q1gt (Qw1 p1 p2 o0 i0 v0_1 v0_2) (Qie p1 p2 o0 i0 v0_1 v0_2)
def Qoo (_p1 : Val) (_p2 : BA) (_o0 : Decoder) (q0 : Int) (q1 : List ByteArray) (z : Nat → PV) (_zo : Nat → List PV) : St :=
  ⟨zr z 0 9 ++ [.ms 2 1 0 (List.length q1)] ++ zr z 10 22, [(0, ⟨1, 0, false, [.int .i64 q0]⟩), (1, ⟨1, 0, false, [.bx 0 0]⟩), (2, ⟨1, 0, true, (Qn q1).flatten⟩)], 67⟩
theorem Q12g (p1 : Val) (p2 : BA) (o0 : Decoder) (i0 : Nat) (v0_1 : Int) (v0_2 : List ByteArray) : VOK (Go.Pv.look (number 0 (Qie p1 p2 o0 i0 v0_1 v0_2))) [(2, Qn v0_2)] := (VOK.cons (show Seen _ _ from Q3k (ob := ⟨1, 0, true, (Qn v0_2).flatten⟩) (Q41 v0_2 1 rfl)) VOK.nil)
def Qh6 (p1 : Val) (p2 : BA) (o0 : Decoder) (e : En) (q : Int × (List ByteArray)) : Prop := ∃ z zo, Q7 G e (.st (.exit 0) (Qoo p1 p2 o0 q.1 q.2 z zo))
theorem Qt4 (p1 : Val) (p2 : BA) (o0 : Decoder) {e e' : En} (h : ∀ r, Q7 G e r → Q7 G e' r) : ∀ q, Qh6 p1 p2 o0 e q → Qh6 p1 p2 o0 e' q
  | _, ⟨z, zo, hz⟩ => ⟨z, zo, h _ hz⟩
def Qc1 (p1 : Val) (p2 : BA) (o0 : Decoder) : Prop := (List.length (Q21 (Qt p1 p2 o0).1 4 (Qt p1 p2 o0).2).1.list ≤ 137438953472) ∧ True
def Qqa (p1 : Val) (p2 : BA) (o0 : Decoder) (i0 : Nat) (_v0_1 : Int) (_v0_2 : List ByteArray) : List PV :=
  [.un, .un, .un, .fn 182 [] [.bx 1 0]] ++ nuns 14 ++ [.sl (Val.rows (Q21 (Qt p1 p2 o0).1 4 (Qt p1 p2 o0).2).1.list), .int .i64 ((List.length (Q21 (Qt p1 p2 o0).1 4 (Qt p1 p2 o0).2).1.list) : Int), .int .i64 (i0 : Int), .bool false]
def Qlg (_p1 : Val) (_p2 : BA) (_o0 : Decoder) (_i0 : Nat) (_v0_1 : Int) (_v0_2 : List ByteArray) : List (Nat × List PV) :=
  []
theorem Q195 (p1 : Val) (p2 : BA) (o0 : Decoder) (_H : Qc1 p1 p2 o0) (i0 : Nat) (v0_1 : Int) (v0_2 : List ByteArray) (_ho0_0 : List.length v0_2 ≤ i0) (hc0 : (decide ((i0 : Int) < ((List.length (Q21 (Qt p1 p2 o0).1 4 (Qt p1 p2 o0).2).1.list) : Int))) = false) : Qh6 p1 p2 o0 (Qfn p1 p2 o0 i0 v0_1 v0_2) (v0_1, v0_2) := by
 exact ⟨(envF (Qqa p1 p2 o0 i0 v0_1 v0_2)), (zoF (Qlg p1 p2 o0 i0 v0_1 v0_2)), Qm (Q12g p1 p2 o0 i0 v0_1 v0_2) (x := ((.exit 0), Qoo p1 p2 o0 v0_1 v0_2 (envF (Qqa p1 p2 o0 i0 v0_1 v0_2)) (zoF (Qlg p1 p2 o0 i0 v0_1 v0_2)))) [hB 0 hc0] [] (by kernel_rfl)⟩
theorem Q170 (p1 : Val) (p2 : BA) (o0 : Decoder) (H : Qc1 p1 p2 o0) (x0 : Val) (i0 : Nat) (v0_1 : Int) (v0_2 : List ByteArray) (hx0 : (Q21 (Qt p1 p2 o0).1 4 (Qt p1 p2 o0).2).1.list[i0]? = some x0) (hi0 : i0 < List.length (Q21 (Qt p1 p2 o0).1 4 (Qt p1 p2 o0).2).1.list) (ho0_0 : List.length v0_2 ≤ i0) (hc0 : (decide ((i0 : Int) < ((List.length (Q21 (Qt p1 p2 o0).1 4 (Qt p1 p2 o0).2).1.list) : Int))) = true) {r : Rs} (hr : Q7 G (Qfn p1 p2 o0 (i0 + 1) (Q64 x0 (Decoder.mk v0_1)).2.wrong (v0_2 ++ [(Q64 x0 (Decoder.mk v0_1)).1])) r) : Q7 G (Qfn p1 p2 o0 i0 v0_1 v0_2) r := by
 have hB0 := H.1
 exact Ql (Q12g p1 p2 o0 i0 v0_1 v0_2) (y := (Qw1 p1 p2 o0 (i0 + 1) (Q64 x0 (Decoder.mk v0_1)).2.wrong (v0_2 ++ [(Q64 x0 (Decoder.mk v0_1)).1]), Qie p1 p2 o0 (i0 + 1) (Q64 x0 (Decoder.mk v0_1)).2.wrong (v0_2 ++ [(Q64 x0 (Decoder.mk v0_1)).1]))) [hB 0 hc0, hP 0 (Q2s 5 (Val.rows (Q21 (Qt p1 p2 o0).1 4 (Qt p1 p2 o0).2).1.list) i0 _ (Val.Qo hx0) rfl), hV 8 [(643, Qn (v0_2 ++ [(Q64 x0 (Decoder.mk v0_1)).1]))] (Q42 2 579 643 1 16 0 0 true (Qn v0_2) (Qn (v0_2 ++ [(Q64 x0 (Decoder.mk v0_1)).1])) [.str (Q64 x0 (Decoder.mk v0_1)).1] (List.length v0_2) (List.length (v0_2 ++ [(Q64 x0 (Decoder.mk v0_1)).1])) rfl (Q2f v0_2).symm (Q2f (v0_2 ++ [(Q64 x0 (Decoder.mk v0_1)).1])).symm (Qmq v0_2 (Q64 x0 (Decoder.mk v0_1)).1) (Qbm v0_2) rfl (by omega)), hS 0 true (Q41 (v0_2 ++ [(Q64 x0 (Decoder.mk v0_1)).1]) 1 rfl), hP 1 (Q2g i0 (by omega))] [aN (Q21v x0 (Decoder.mk v0_1))] (by kernel_rfl) hr
theorem Qyy (p1 : Val) (p2 : BA) (o0 : Decoder) (H : Qc1 p1 p2 o0) : ∀ (r0 : List Val) (i0 : Nat) (v0_1 : Int) (v0_2 : List ByteArray), List.drop i0 (Q21 (Qt p1 p2 o0).1 4 (Qt p1 p2 o0).2).1.list = r0 → List.length v0_2 ≤ i0 → Qh6 p1 p2 o0 (Qfn p1 p2 o0 i0 v0_1 v0_2) (Q4t p1 p2 o0 r0 i0 v0_1 v0_2)
 | [], i0, v0_1, v0_2, hd, ho0_0 => by
  have hc0 : (decide ((i0 : Int) < ((List.length (Q21 (Qt p1 p2 o0).1 4 (Qt p1 p2 o0).2).1.list) : Int))) = false := by have := Q1m hd; simp; omega
  rw [Q4t]
  exact Q195 p1 p2 o0 H i0 v0_1 v0_2 ho0_0 hc0
 | x0 :: r0, i0, v0_1, v0_2, hd, ho0_0 => by
  obtain ⟨hx0, hi0, hd'⟩ := Q1k hd
  have hc0 : (decide ((i0 : Int) < ((List.length (Q21 (Qt p1 p2 o0).1 4 (Qt p1 p2 o0).2).1.list) : Int))) = true := by simp; omega
  rw [Q4t]
  exact Qt4 p1 p2 o0 (fun r hr => Q170 p1 p2 o0 H x0 i0 v0_1 v0_2 hx0 hi0 ho0_0 hc0 hr) _ (Qyy p1 p2 o0 H r0 (i0 + 1) (Q64 x0 (Decoder.mk v0_1)).2.wrong (v0_2 ++ [(Q64 x0 (Decoder.mk v0_1)).1]) hd' (by first | omega | (simp; omega)))
def Q9r (p1 : Val) (p2 : BA) (o0 : Decoder) : List ByteArray × Decoder := ((dE xS p1 p2).1, bp o0 (pE (cK 3) p1 p2))
theorem Q14h (p1 : Val) (p2 : BA) (o0 : Decoder) : ∀ (l : List Val) (i : Nat) (b : Int) (a : List ByteArray), Q4t p1 p2 o0 l i b a = (bw b (sumC (cK 3) l), a ++ l.map (fun x => (xS x).1))
  | [], _, b, a => by rw [Q4t]; simp [sumC, bw]
  | x :: l, i, b, a => by
    rw [Q4t]
    refine (Q14h p1 p2 o0 l (i + 1) (bw b ((cK 3) x)) (a ++ [(xS x).1])).trans ?_
    rw [Q1a2]
    simp only [List.append_assoc, List.singleton_append, List.map_cons, sumC]
theorem Q202 (p1 : Val) (p2 : BA) (o0 : Decoder) : Q9r p1 p2 o0 = (((Q4t p1 p2 o0 (Q21 (Qt p1 p2 o0).1 4 (Qt p1 p2 o0).2).1.list 0 (Q21 (Qt p1 p2 o0).1 4 (Qt p1 p2 o0).2).2.wrong []).2, (Decoder.mk (Q4t p1 p2 o0 (Q21 (Qt p1 p2 o0).1 4 (Qt p1 p2 o0).2).1.list 0 (Q21 (Qt p1 p2 o0).1 4 (Qt p1 p2 o0).2).2.wrong []).1))) := by
  rw [Q14h]
  unfold Qt Q21 Q9r
  simp only [Qcd, getL, Q14p, Q1a2]
  rfl
def Q1y4 (p1 : Val) (p2 : BA) (o0 : Decoder) : En := .call 181 [.bx 0 0, .agg (Val.cells p1), .str p2, .fn 182 [] [.bx 1 0]] [⟨1, 0, false, (Decoder.cells o0)⟩, ⟨1, 0, false, [.bx 0 0]⟩]
def Q20w (_p1 : Val) (_p2 : BA) (_o0 : Decoder) (q0 : List ByteArray) (q1 : Decoder) : Rs := .ret (.sl (Qn q0)) [⟨1, 0, false, (Decoder.cells q1)⟩, ⟨1, 0, false, [.bx 0 0]⟩]
def Q1pe (p1 : Val) (p2 : BA) (o0 : Decoder) : Rs := Q20w p1 p2 o0 (Q9r p1 p2 o0).1 (Q9r p1 p2 o0).2
def Q1i3 (p1 : Val) : Prop := Val.Sm 1000000000 p1
theorem Q138 (p1 : Val) (p2 : BA) (o0 : Decoder) (H : Q1i3 p1) : (Qrx p1) ∧ (Qc1 p1 p2 o0) ∧ True := by
  have hl := Qmx (Q3a H p2)
  refine ⟨H, ?_, trivial⟩
  unfold Qc1 Qt Q21
  simp only [getL]
  exact ⟨Nat.le_trans hl.1 (Nat.le_of_ble_eq_true rfl), trivial⟩
theorem Q21y (p1 : Val) (p2 : BA) (o0 : Decoder) (H : Q1i3 p1) : Q7 G (Q1y4 p1 p2 o0) (Q1pe p1 p2 o0) := by
 unfold Q1pe
 rw [Q202]
 have hl0 := Qyy p1 p2 o0 ((Q138 p1 p2 o0 H).2.1) (Q21 (Qt p1 p2 o0).1 4 (Qt p1 p2 o0).2).1.list 0 (Q21 (Qt p1 p2 o0).1 4 (Qt p1 p2 o0).2).2.wrong [] (by simp) (by simp)
 obtain ⟨z0, zo0, hl0⟩ := hl0
 exact Q8 (fn := Ir.K6o) rfl (h := [⟨1, 0, false, (Decoder.cells o0)⟩, ⟨1, 0, false, [.bx 0 0]⟩]) (vw := []) VOK.nil [hP 10 (Q11 (Val.rows (Q21 (Qt p1 p2 o0).1 4 (Qt p1 p2 o0).2).1.list) (List.length (Q21 (Qt p1 p2 o0).1 4 (Qt p1 p2 o0).2).1.list) (Val.Q9 (Q21 (Qt p1 p2 o0).1 4 (Qt p1 p2 o0).2).1.list)), hS 0 true (Q41 (Q4t p1 p2 o0 (Q21 (Qt p1 p2 o0).1 4 (Qt p1 p2 o0).2).1.list 0 (Q21 (Qt p1 p2 o0).1 4 (Qt p1 p2 o0).2).2.wrong []).2 1 rfl), hQ (Q2f (Q4t p1 p2 o0 (Q21 (Qt p1 p2 o0).1 4 (Qt p1 p2 o0).2).1.list 0 (Q21 (Qt p1 p2 o0).1 4 (Qt p1 p2 o0).2).2.wrong []).2).symm] [aN (Qut p1 p2 o0 (Q138 p1 p2 o0 H).1), aN (Qer (Qt p1 p2 o0).1 4 (Qt p1 p2 o0).2), aV [(2, Qn (Q4t p1 p2 o0 (Q21 (Qt p1 p2 o0).1 4 (Qt p1 p2 o0).2).1.list 0 (Q21 (Qt p1 p2 o0).1 4 (Qt p1 p2 o0).2).2.wrong []).2)] hl0] (by kernel_rfl)
def Q63 (p0 : Val) (o1 : Decoder) : Requirement × Decoder := ((Requirement.dec p0).1, bp o1 (Requirement.cnt p0))
theorem Q1zv (p0 : Val) (o1 : Decoder) : Q63 p0 o1 = (((Requirement.mk (Qd2 p0 Qz (Q21 p0 5 (Q9r p0 Q1g o1).2).2).1 (Qh p0 Q3w (Qd2 p0 Qz (Q21 p0 5 (Q9r p0 Q1g o1).2).2).2).1 (Q9r p0 Q1g o1).1), (Qh p0 Q3w (Qd2 p0 Qz (Q21 p0 5 (Q9r p0 Q1g o1).2).2).2).2)) := by
  simp only [Q21, Qh, Qd2, Q9r, Q63, Qcd]
  refine Prod.ext rfl (congrArg (bp o1) ?_)
  show Requirement.cnt p0 = _
  try unfold Requirement.cnt
  try unfold cM
  first | rfl | omega
def Q1xx (p0 : Val) (o1 : Decoder) : En := .call 180 [.agg (Val.cells p0), .bx 0 0] [⟨1, 0, false, [.bx 1 0]⟩, ⟨1, 0, false, (Decoder.cells o1)⟩]
def Q20p (_p0 : Val) (_o1 : Decoder) (q0 : Requirement) (q1 : Decoder) : Rs := .ret (.agg (Requirement.cells q0)) [⟨1, 0, false, [.bx 1 0]⟩, ⟨1, 0, false, (Decoder.cells q1)⟩]
def Q1p7 (p0 : Val) (o1 : Decoder) : Rs := Q20p p0 o1 (Q63 p0 o1).1 (Q63 p0 o1).2
def Q1i0 (p0 : Val) : Prop := Val.Sm 1000000000 p0
theorem Qts (p0 : Val) (_o1 : Decoder) (H : Q1i0 p0) : (Q1i3 p0) ∧ (Q1i1 p0) ∧ (Qwg p0) ∧ True := by
  repeat' with_reducible apply And.intro
  all_goals first | exact True.intro | exact H | exact Q3a H _
theorem Q21u (p0 : Val) (o1 : Decoder) (H : Q1i0 p0) : Q7 G (Q1xx p0 o1) (Q1p7 p0 o1) := by
 unfold Q1p7
 rw [Q1zv]
 exact Q8 (fn := Ir.K6b) rfl (h := [⟨1, 0, false, [.bx 1 0]⟩, ⟨1, 0, false, (Decoder.cells o1)⟩]) (vw := []) VOK.nil [] [aN (Q21y p0 Q1g o1 (Qts p0 o1 H).1), aN (Qer p0 5 (Q9r p0 Q1g o1).2), aN (Q21w p0 Qz (Q21 p0 5 (Q9r p0 Q1g o1).2).2 (Qts p0 o1 H).2.1), aN (Qbo p0 Q3w (Qd2 p0 Qz (Q21 p0 5 (Q9r p0 Q1g o1).2).2).2 (Qts p0 o1 H).2.2.1)] (by kernel_rfl)
def Q4s (p1 : Val) (p2 : BA) (o0 : Decoder) : List Val → Nat → Int → (List Requirement) → Int × (List Requirement)
 | [], _i0, v0_1, v0_2 =>
  (v0_1, v0_2)
 | x0 :: r0, i0, v0_1, v0_2 =>
  Q4s p1 p2 o0 r0 (i0 + 1) (Q63 x0 (Decoder.mk v0_1)).2.wrong (v0_2 ++ [(Q63 x0 (Decoder.mk v0_1)).1])
def Qw0 (p1 : Val) (p2 : BA) (o0 : Decoder) (i0 : Nat) (_v0_1 : Int) (v0_2 : List Requirement) : List PV :=
  [.un, .un, .un, .fn 180 [] [.bx 1 0]] ++ nuns 5 ++ [.ms 2 3 0 (List.length v0_2)] ++ nuns 8 ++ [.sl (Val.rows (Q21 (Qt p1 p2 o0).1 4 (Qt p1 p2 o0).2).1.list), .int .i64 ((List.length (Q21 (Qt p1 p2 o0).1 4 (Qt p1 p2 o0).2).1.list) : Int), .int .i64 (i0 : Int)] ++ nuns 11
def Qid (_p1 : Val) (_p2 : BA) (_o0 : Decoder) (_i0 : Nat) (v0_1 : Int) (v0_2 : List Requirement) : List Ob :=
  [⟨1, 0, false, [.int .i64 v0_1]⟩, ⟨1, 0, false, [.bx 0 0]⟩, ⟨3, 0, true, (Requirement.rows v0_2).flatten⟩]
def Qfm (p1 : Val) (p2 : BA) (o0 : Decoder) (i0 : Nat) (v0_1 : Int) (v0_2 : List Requirement) : En := .loop 2 Ir.Qjt Ir.Q1gs (Qw0 p1 p2 o0 i0 v0_1 v0_2) (Qid p1 p2 o0 i0 v0_1 v0_2)
def Qon (_p1 : Val) (_p2 : BA) (_o0 : Decoder) (q0 : Int) (q1 : List Requirement) (z : Nat → PV) (_zo : Nat → List PV) : St :=
  ⟨zr z 0 9 ++ [.ms 2 3 0 (List.length q1)] ++ zr z 10 22, [(0, ⟨1, 0, false, [.int .i64 q0]⟩), (1, ⟨1, 0, false, [.bx 0 0]⟩), (2, ⟨3, 0, true, (Requirement.rows q1).flatten⟩)], 67⟩
theorem Q12f (p1 : Val) (p2 : BA) (o0 : Decoder) (i0 : Nat) (v0_1 : Int) (v0_2 : List Requirement) : VOK (Go.Pv.look (number 0 (Qid p1 p2 o0 i0 v0_1 v0_2))) [(2, Requirement.rows v0_2)] := (VOK.cons (show Seen _ _ from Q3k (ob := ⟨3, 0, true, (Requirement.rows v0_2).flatten⟩) (Requirement.Qb v0_2 3 rfl)) VOK.nil)
def Qh5 (p1 : Val) (p2 : BA) (o0 : Decoder) (e : En) (q : Int × (List Requirement)) : Prop := ∃ z zo, Q7 G e (.st (.exit 0) (Qon p1 p2 o0 q.1 q.2 z zo))
theorem Qt3 (p1 : Val) (p2 : BA) (o0 : Decoder) {e e' : En} (h : ∀ r, Q7 G e r → Q7 G e' r) : ∀ q, Qh5 p1 p2 o0 e q → Qh5 p1 p2 o0 e' q
  | _, ⟨z, zo, hz⟩ => ⟨z, zo, h _ hz⟩
def Qc0 (p1 : Val) (p2 : BA) (o0 : Decoder) : Prop := (List.length (Q21 (Qt p1 p2 o0).1 4 (Qt p1 p2 o0).2).1.list ≤ 137438953472) ∧ (∀ x0 ∈ (Q21 (Qt p1 p2 o0).1 4 (Qt p1 p2 o0).2).1.list, Q1i0 x0) ∧ True
def Qq9 (p1 : Val) (p2 : BA) (o0 : Decoder) (i0 : Nat) (_v0_1 : Int) (_v0_2 : List Requirement) : List PV :=
  [.un, .un, .un, .fn 180 [] [.bx 1 0]] ++ nuns 14 ++ [.sl (Val.rows (Q21 (Qt p1 p2 o0).1 4 (Qt p1 p2 o0).2).1.list), .int .i64 ((List.length (Q21 (Qt p1 p2 o0).1 4 (Qt p1 p2 o0).2).1.list) : Int), .int .i64 (i0 : Int), .bool false]
def Qlf (_p1 : Val) (_p2 : BA) (_o0 : Decoder) (_i0 : Nat) (_v0_1 : Int) (_v0_2 : List Requirement) : List (Nat × List PV) :=
  []
theorem Q194 (p1 : Val) (p2 : BA) (o0 : Decoder) (_H : Qc0 p1 p2 o0) (i0 : Nat) (v0_1 : Int) (v0_2 : List Requirement) (_ho0_0 : List.length v0_2 ≤ i0) (hc0 : (decide ((i0 : Int) < ((List.length (Q21 (Qt p1 p2 o0).1 4 (Qt p1 p2 o0).2).1.list) : Int))) = false) : Qh5 p1 p2 o0 (Qfm p1 p2 o0 i0 v0_1 v0_2) (v0_1, v0_2) := by
 exact ⟨(envF (Qq9 p1 p2 o0 i0 v0_1 v0_2)), (zoF (Qlf p1 p2 o0 i0 v0_1 v0_2)), Qm (Q12f p1 p2 o0 i0 v0_1 v0_2) (x := ((.exit 0), Qon p1 p2 o0 v0_1 v0_2 (envF (Qq9 p1 p2 o0 i0 v0_1 v0_2)) (zoF (Qlf p1 p2 o0 i0 v0_1 v0_2)))) [hB 0 hc0] [] (by kernel_rfl)⟩
theorem Q16z (p1 : Val) (p2 : BA) (o0 : Decoder) (H : Qc0 p1 p2 o0) (x0 : Val) (i0 : Nat) (v0_1 : Int) (v0_2 : List Requirement) (hx0 : (Q21 (Qt p1 p2 o0).1 4 (Qt p1 p2 o0).2).1.list[i0]? = some x0) (hi0 : i0 < List.length (Q21 (Qt p1 p2 o0).1 4 (Qt p1 p2 o0).2).1.list) (ho0_0 : List.length v0_2 ≤ i0) (hc0 : (decide ((i0 : Int) < ((List.length (Q21 (Qt p1 p2 o0).1 4 (Qt p1 p2 o0).2).1.list) : Int))) = true) {r : Rs} (hr : Q7 G (Qfm p1 p2 o0 (i0 + 1) (Q63 x0 (Decoder.mk v0_1)).2.wrong (v0_2 ++ [(Q63 x0 (Decoder.mk v0_1)).1])) r) : Q7 G (Qfm p1 p2 o0 i0 v0_1 v0_2) r := by
 have hB0 := H.1
 exact Ql (Q12f p1 p2 o0 i0 v0_1 v0_2) (y := (Qw0 p1 p2 o0 (i0 + 1) (Q63 x0 (Decoder.mk v0_1)).2.wrong (v0_2 ++ [(Q63 x0 (Decoder.mk v0_1)).1]), Qid p1 p2 o0 (i0 + 1) (Q63 x0 (Decoder.mk v0_1)).2.wrong (v0_2 ++ [(Q63 x0 (Decoder.mk v0_1)).1]))) [hB 0 hc0, hP 0 (Q2s 5 (Val.rows (Q21 (Qt p1 p2 o0).1 4 (Qt p1 p2 o0).2).1.list) i0 _ (Val.Qo hx0) rfl), hV 8 [(643, Requirement.rows (v0_2 ++ [(Q63 x0 (Decoder.mk v0_1)).1]))] (Q42 2 579 643 3 48 0 0 true (Requirement.rows v0_2) (Requirement.rows (v0_2 ++ [(Q63 x0 (Decoder.mk v0_1)).1])) (Requirement.cells (Q63 x0 (Decoder.mk v0_1)).1) (List.length v0_2) (List.length (v0_2 ++ [(Q63 x0 (Decoder.mk v0_1)).1])) rfl (Requirement.Q9 v0_2).symm (Requirement.Q9 (v0_2 ++ [(Q63 x0 (Decoder.mk v0_1)).1])).symm (Requirement.Q1t v0_2 (Q63 x0 (Decoder.mk v0_1)).1) (Requirement.Qu v0_2) rfl (by omega)), hS 0 true (Requirement.Qb (v0_2 ++ [(Q63 x0 (Decoder.mk v0_1)).1]) 3 rfl), hP 1 (Q2g i0 (by omega))] [aN (Q21u x0 (Decoder.mk v0_1) (H.2.1 x0 (Q2l hx0)))] (by kernel_rfl) hr
theorem Qyx (p1 : Val) (p2 : BA) (o0 : Decoder) (H : Qc0 p1 p2 o0) : ∀ (r0 : List Val) (i0 : Nat) (v0_1 : Int) (v0_2 : List Requirement), List.drop i0 (Q21 (Qt p1 p2 o0).1 4 (Qt p1 p2 o0).2).1.list = r0 → List.length v0_2 ≤ i0 → Qh5 p1 p2 o0 (Qfm p1 p2 o0 i0 v0_1 v0_2) (Q4s p1 p2 o0 r0 i0 v0_1 v0_2)
 | [], i0, v0_1, v0_2, hd, ho0_0 => by
  have hc0 : (decide ((i0 : Int) < ((List.length (Q21 (Qt p1 p2 o0).1 4 (Qt p1 p2 o0).2).1.list) : Int))) = false := by have := Q1m hd; simp; omega
  rw [Q4s]
  exact Q194 p1 p2 o0 H i0 v0_1 v0_2 ho0_0 hc0
 | x0 :: r0, i0, v0_1, v0_2, hd, ho0_0 => by
  obtain ⟨hx0, hi0, hd'⟩ := Q1k hd
  have hc0 : (decide ((i0 : Int) < ((List.length (Q21 (Qt p1 p2 o0).1 4 (Qt p1 p2 o0).2).1.list) : Int))) = true := by simp; omega
  rw [Q4s]
  exact Qt3 p1 p2 o0 (fun r hr => Q16z p1 p2 o0 H x0 i0 v0_1 v0_2 hx0 hi0 ho0_0 hc0 hr) _ (Qyx p1 p2 o0 H r0 (i0 + 1) (Q63 x0 (Decoder.mk v0_1)).2.wrong (v0_2 ++ [(Q63 x0 (Decoder.mk v0_1)).1]) hd' (by first | omega | (simp; omega)))
def Qmn (p1 : Val) (p2 : BA) (o0 : Decoder) : List Requirement × Decoder := ((dE Requirement.dec p1 p2).1, bp o0 (pE (Requirement.cnt) p1 p2))
theorem Q14g (p1 : Val) (p2 : BA) (o0 : Decoder) : ∀ (l : List Val) (i : Nat) (b : Int) (a : List Requirement), Q4s p1 p2 o0 l i b a = (bw b (sumC (Requirement.cnt) l), a ++ l.map (fun x => (Requirement.dec x).1))
  | [], _, b, a => by rw [Q4s]; simp [sumC, bw]
  | x :: l, i, b, a => by
    rw [Q4s]
    refine (Q14g p1 p2 o0 l (i + 1) (bw b ((Requirement.cnt) x)) (a ++ [(Requirement.dec x).1])).trans ?_
    rw [Q1a2]
    simp only [List.append_assoc, List.singleton_append, List.map_cons, sumC]
theorem Q201 (p1 : Val) (p2 : BA) (o0 : Decoder) : Qmn p1 p2 o0 = (((Q4s p1 p2 o0 (Q21 (Qt p1 p2 o0).1 4 (Qt p1 p2 o0).2).1.list 0 (Q21 (Qt p1 p2 o0).1 4 (Qt p1 p2 o0).2).2.wrong []).2, (Decoder.mk (Q4s p1 p2 o0 (Q21 (Qt p1 p2 o0).1 4 (Qt p1 p2 o0).2).1.list 0 (Q21 (Qt p1 p2 o0).1 4 (Qt p1 p2 o0).2).2.wrong []).1))) := by
  rw [Q14g]
  unfold Qt Q21 Qmn
  simp only [Qcd, getL, Q14p, Q1a2]
  rfl
def Q1y3 (p1 : Val) (p2 : BA) (o0 : Decoder) : En := .call 179 [.bx 0 0, .agg (Val.cells p1), .str p2, .fn 180 [] [.bx 1 0]] [⟨1, 0, false, (Decoder.cells o0)⟩, ⟨1, 0, false, [.bx 0 0]⟩]
def Q20v (_p1 : Val) (_p2 : BA) (_o0 : Decoder) (q0 : List Requirement) (q1 : Decoder) : Rs := .ret (.sl (Requirement.rows q0)) [⟨1, 0, false, (Decoder.cells q1)⟩, ⟨1, 0, false, [.bx 0 0]⟩]
def Q1pd (p1 : Val) (p2 : BA) (o0 : Decoder) : Rs := Q20v p1 p2 o0 (Qmn p1 p2 o0).1 (Qmn p1 p2 o0).2
def Q1i2 (p1 : Val) : Prop := Val.Sm 1000000000 p1
theorem Q137 (p1 : Val) (p2 : BA) (o0 : Decoder) (H : Q1i2 p1) : (Qrx p1) ∧ (Qc0 p1 p2 o0) ∧ True := by
  have hl := Qmx (Q3a H p2)
  refine ⟨H, ?_, trivial⟩
  unfold Qc0 Qt Q21
  simp only [getL]
  exact ⟨Nat.le_trans hl.1 (Nat.le_of_ble_eq_true rfl), hl.2, trivial⟩
theorem Q21x (p1 : Val) (p2 : BA) (o0 : Decoder) (H : Q1i2 p1) : Q7 G (Q1y3 p1 p2 o0) (Q1pd p1 p2 o0) := by
 unfold Q1pd
 rw [Q201]
 have hl0 := Qyx p1 p2 o0 ((Q137 p1 p2 o0 H).2.1) (Q21 (Qt p1 p2 o0).1 4 (Qt p1 p2 o0).2).1.list 0 (Q21 (Qt p1 p2 o0).1 4 (Qt p1 p2 o0).2).2.wrong [] (by simp) (by simp)
 obtain ⟨z0, zo0, hl0⟩ := hl0
 exact Q8 (fn := Ir.K6n) rfl (h := [⟨1, 0, false, (Decoder.cells o0)⟩, ⟨1, 0, false, [.bx 0 0]⟩]) (vw := []) VOK.nil [hP 10 (Q11 (Val.rows (Q21 (Qt p1 p2 o0).1 4 (Qt p1 p2 o0).2).1.list) (List.length (Q21 (Qt p1 p2 o0).1 4 (Qt p1 p2 o0).2).1.list) (Val.Q9 (Q21 (Qt p1 p2 o0).1 4 (Qt p1 p2 o0).2).1.list)), hS 0 true (Requirement.Qb (Q4s p1 p2 o0 (Q21 (Qt p1 p2 o0).1 4 (Qt p1 p2 o0).2).1.list 0 (Q21 (Qt p1 p2 o0).1 4 (Qt p1 p2 o0).2).2.wrong []).2 3 rfl), hQ (Requirement.Q9 (Q4s p1 p2 o0 (Q21 (Qt p1 p2 o0).1 4 (Qt p1 p2 o0).2).1.list 0 (Q21 (Qt p1 p2 o0).1 4 (Qt p1 p2 o0).2).2.wrong []).2).symm] [aN (Qut p1 p2 o0 (Q137 p1 p2 o0 H).1), aN (Qer (Qt p1 p2 o0).1 4 (Qt p1 p2 o0).2), aV [(2, Requirement.rows (Q4s p1 p2 o0 (Q21 (Qt p1 p2 o0).1 4 (Qt p1 p2 o0).2).1.list 0 (Q21 (Qt p1 p2 o0).1 4 (Qt p1 p2 o0).2).2.wrong []).2)] hl0] (by kernel_rfl)
def Q3c (p1 : Val) (o0 : Decoder) : List Requirement × Decoder := ((dE Requirement.dec p1 Q5).1, bp o0 (pE Requirement.cnt p1 Q5))
theorem Q1zu (p1 : Val) (o0 : Decoder) : Q3c p1 o0 = (((Qmn p1 Q5 o0).1, (Qmn p1 Q5 o0).2)) := by
  rfl
def Q1xw (p1 : Val) (o0 : Decoder) : En := .call 72 [.bx 0 0, .agg (Val.cells p1)] [⟨1, 0, false, (Decoder.cells o0)⟩]
def Q20o (_p1 : Val) (_o0 : Decoder) (q0 : List Requirement) (q1 : Decoder) : Rs := .ret (.sl (Requirement.rows q0)) [⟨1, 0, false, (Decoder.cells q1)⟩]
def Q1p6 (p1 : Val) (o0 : Decoder) : Rs := Q20o p1 o0 (Q3c p1 o0).1 (Q3c p1 o0).2
def Q19f (p1 : Val) : Prop := Val.Sm 1000000000 p1
theorem Q1ee (p1 : Val) (_o0 : Decoder) (H : Q19f p1) : (Q1i2 p1) ∧ True := by
  repeat' with_reducible apply And.intro
  all_goals first | exact True.intro | exact H
theorem Q1j9 (p1 : Val) (o0 : Decoder) (H : Q19f p1) : Q7 G (Q1xw p1 o0) (Q1p6 p1 o0) := by
 unfold Q1p6
 rw [Q1zu]
 exact Q8 (fn := Ir.K6a) rfl (h := [⟨1, 0, false, (Decoder.cells o0)⟩]) (vw := []) VOK.nil [] [aN (Q21x p1 Q5 o0 (Q1ee p1 o0 H).1)] (by kernel_rfl)
def Q3z (p1 : Val) (o0 : Decoder) : Template × Decoder := ((tD p1 Qg).1, bp o0 (tC p1 Qg))
theorem Q1zy (p1 : Val) (o0 : Decoder) : Q3z p1 o0 = (bif ((Qt p1 Qg o0).1.kind == 0) then
    ((Template.mk [] (PodSpec.mk eB 0 0 0 [] [] [] [] [] [])), (Qt p1 Qg o0).2)
  else
    bif ((s_Ka (Qt p1 Qg o0).1).2 == 0) then
      ((s_Ka (Qt p1 Qg o0).1).1, (Qt p1 Qg o0).2)
    else
      ((s_Ka (Qt p1 Qg o0).1).1, (Decoder.mk (w64 ((Qt p1 Qg o0).2.wrong + 1))))) := by
  unfold Q3z Qt s_Ka tD tC
  cases h : ((prt p1 Qg).kind == 0) with
  | true =>
    have h5 : ((prt p1 Qg).kind == 5) = false := by rw [eq_of_beq h]; rfl
    unfold Qzr
    rw [Template.Q9i h5, h]
    rfl
  | false =>
    unfold Qzr
    cases h2 : (Template.dec (prt p1 Qg)).2 with
    | true => rfl
    | false =>
      refine Prod.ext rfl ?_
      exact (Qcd o0 _ 1).symm
def Q1y0 (p1 : Val) (o0 : Decoder) : En := .call 73 [.bx 0 0, .agg (Val.cells p1)] [⟨1, 0, false, (Decoder.cells o0)⟩]
def Q20s (_p1 : Val) (_o0 : Decoder) (q0 : Template) (q1 : Decoder) : Rs := .ret (.agg (Template.cells q0)) [⟨1, 0, false, (Decoder.cells q1)⟩]
def Q1pa (p1 : Val) (o0 : Decoder) : Rs := Q20s p1 o0 (Q3z p1 o0).1 (Q3z p1 o0).2
def Q19g (p1 : Val) : Prop := Val.Sm 1000000000 p1
theorem Qct (p1 : Val) (o0 : Decoder) (H : Q19g p1) : (Qrx p1) ∧ (H_Ka (Qt p1 Qg o0).1) ∧ True := by
  repeat' with_reducible apply And.intro
  all_goals first | exact True.intro | exact H | exact Q3a H _
theorem Q1ja (p1 : Val) (o0 : Decoder) (H : Q19g p1) : Q7 G (Q1y0 p1 o0) (Q1pa p1 o0) := by
 unfold Q1pa
 rw [Q1zy]
 cases h0 : ((Qt p1 Qg o0).1.kind == 0) with
 | true =>
  exact Q8 (fn := Ir.K6e) rfl (h := [⟨1, 0, false, (Decoder.cells o0)⟩]) (vw := []) VOK.nil [hB 9 h0] [aN (Qut p1 Qg o0 (Qct p1 o0 H).1)] (by kernel_rfl)
 | false =>
  cases h1 : ((s_Ka (Qt p1 Qg o0).1).2 == 0) with
  | true =>
   exact Q8 (fn := Ir.K6e) rfl (h := [⟨1, 0, false, (Decoder.cells o0)⟩]) (vw := []) VOK.nil [hB 9 h0, hP 9 (dec (!((s_Ka (Qt p1 Qg o0).1).2 == 0)) false (by rw [h1]; rfl))] [aN (Qut p1 Qg o0 (Qct p1 o0 H).1), aN (t_Ka (Qt p1 Qg o0).1 (Qct p1 o0 H).2.1)] (by kernel_rfl)
  | false =>
   exact Q8 (fn := Ir.K6e) rfl (h := [⟨1, 0, false, (Decoder.cells o0)⟩]) (vw := []) VOK.nil [hB 9 h0, hP 9 (dec (!((s_Ka (Qt p1 Qg o0).1).2 == 0)) true (by rw [h1]; rfl))] [aN (Qut p1 Qg o0 (Qct p1 o0 H).1), aN (t_Ka (Qt p1 Qg o0).1 (Qct p1 o0 H).2.1)] (by kernel_rfl)
def Q62 (p1 : Val) (o0 : Decoder) : Amount × Decoder := ((Amount.dec p1).1, bp o0 (Amount.cnt p1))
theorem Q1zq (p1 : Val) (o0 : Decoder) : Q62 p1 o0 = (((Amount.mk (Q4f p1 Q2n o0).1 (Qh p1 kw_n (Q4f p1 Q2n o0).2).1), (Qh p1 kw_n (Q4f p1 Q2n o0).2).2)) := by
  simp only [Qh, Q4f, Q62, Qcd]
  refine Prod.ext rfl (congrArg (bp o0) ?_)
  show Amount.cnt p1 = _
  try unfold Amount.cnt
  try unfold cM
  first | rfl | omega
def Q1xs (p1 : Val) (o0 : Decoder) : En := .call 75 [.bx 0 0, .agg (Val.cells p1)] [⟨1, 0, false, (Decoder.cells o0)⟩]
def Q20k (_p1 : Val) (_o0 : Decoder) (q0 : Amount) (q1 : Decoder) : Rs := .ret (.agg (Amount.cells q0)) [⟨1, 0, false, (Decoder.cells q1)⟩]
def Q1p2 (p1 : Val) (o0 : Decoder) : Rs := Q20k p1 o0 (Q62 p1 o0).1 (Q62 p1 o0).2
def Q1hz (p1 : Val) : Prop := Val.Sm 1000000000 p1
theorem Q136 (p1 : Val) (_o0 : Decoder) (H : Q1hz p1) : (Q19i p1) ∧ (Qwg p1) ∧ True := by
  repeat' with_reducible apply And.intro
  all_goals first | exact True.intro | exact H | exact Q3a H _
theorem Q21t (p1 : Val) (o0 : Decoder) (H : Q1hz p1) : Q7 G (Q1xs p1 o0) (Q1p2 p1 o0) := by
 unfold Q1p2
 rw [Q1zq]
 exact Q8 (fn := Ir.K60) rfl (h := [⟨1, 0, false, (Decoder.cells o0)⟩]) (vw := []) VOK.nil [] [aN (Q1jc p1 Q2n o0 (Q136 p1 o0 H).1), aN (Qbo p1 kw_n (Q4f p1 Q2n o0).2 (Q136 p1 o0 H).2.1)] (by kernel_rfl)
def Q6h (p1 : Val) (o0 : Decoder) : WorkStatus × Decoder := ((WorkStatus.dec p1).1, bp o0 (WorkStatus.cnt p1))
theorem Q1zz (p1 : Val) (o0 : Decoder) : Q6h p1 o0 = (((WorkStatus.mk (Qh p1 Q1j o0).1 (Qh p1 Q6 (Qh p1 Q1j o0).2).1 (Qh p1 Q25 (Qh p1 Q6 (Qh p1 Q1j o0).2).2).1 (Qh p1 Q1c (Qh p1 Q25 (Qh p1 Q6 (Qh p1 Q1j o0).2).2).2).1 (Qh p1 Q1u (Qh p1 Q1c (Qh p1 Q25 (Qh p1 Q6 (Qh p1 Q1j o0).2).2).2).2).1 (Qh p1 Q2e (Qh p1 Q1u (Qh p1 Q1c (Qh p1 Q25 (Qh p1 Q6 (Qh p1 Q1j o0).2).2).2).2).2).1 (Q4f p1 Q31 (Qh p1 Q2e (Qh p1 Q1u (Qh p1 Q1c (Qh p1 Q25 (Qh p1 Q6 (Qh p1 Q1j o0).2).2).2).2).2).2).1), (Q4f p1 Q31 (Qh p1 Q2e (Qh p1 Q1u (Qh p1 Q1c (Qh p1 Q25 (Qh p1 Q6 (Qh p1 Q1j o0).2).2).2).2).2).2).2)) := by
  simp only [Qh, Q4f, Q6h, Qcd]
  refine Prod.ext rfl (congrArg (bp o0) ?_)
  show WorkStatus.cnt p1 = _
  try unfold WorkStatus.cnt
  try unfold cM
  first | rfl | omega
def Q1y1 (p1 : Val) (o0 : Decoder) : En := .call 77 [.bx 0 0, .agg (Val.cells p1)] [⟨1, 0, false, (Decoder.cells o0)⟩]
def Q20t (_p1 : Val) (_o0 : Decoder) (q0 : WorkStatus) (q1 : Decoder) : Rs := .ret (.agg (WorkStatus.cells q0)) [⟨1, 0, false, (Decoder.cells q1)⟩]
def Q1pb (p1 : Val) (o0 : Decoder) : Rs := Q20t p1 o0 (Q6h p1 o0).1 (Q6h p1 o0).2
def Q19h (p1 : Val) : Prop := Val.Sm 1000000000 p1
theorem Q8t (p1 : Val) (_o0 : Decoder) (H : Q19h p1) : (Qwg p1) ∧ (Q19i p1) ∧ True := by
  repeat' with_reducible apply And.intro
  all_goals first | exact True.intro | exact H | exact Q3a H _
theorem Q1jb (p1 : Val) (o0 : Decoder) (H : Q19h p1) : Q7 G (Q1y1 p1 o0) (Q1pb p1 o0) := by
 unfold Q1pb
 rw [Q1zz]
 exact Q8 (fn := Ir.K6f) rfl (h := [⟨1, 0, false, (Decoder.cells o0)⟩]) (vw := []) VOK.nil [] [aN (Qbo p1 Q1j o0 (Q8t p1 o0 H).1), aN (Qbo p1 Q6 (Qh p1 Q1j o0).2 (Q8t p1 o0 H).1), aN (Qbo p1 Q25 (Qh p1 Q6 (Qh p1 Q1j o0).2).2 (Q8t p1 o0 H).1), aN (Qbo p1 Q1c (Qh p1 Q25 (Qh p1 Q6 (Qh p1 Q1j o0).2).2).2 (Q8t p1 o0 H).1), aN (Qbo p1 Q1u (Qh p1 Q1c (Qh p1 Q25 (Qh p1 Q6 (Qh p1 Q1j o0).2).2).2).2 (Q8t p1 o0 H).1), aN (Qbo p1 Q2e (Qh p1 Q1u (Qh p1 Q1c (Qh p1 Q25 (Qh p1 Q6 (Qh p1 Q1j o0).2).2).2).2).2 (Q8t p1 o0 H).1), aN (Q1jc p1 Q31 (Qh p1 Q2e (Qh p1 Q1u (Qh p1 Q1c (Qh p1 Q25 (Qh p1 Q6 (Qh p1 Q1j o0).2).2).2).2).2).2 (Q8t p1 o0 H).2.1)] (by kernel_rfl)
def Q1iz (p1 : Deployment) (o0 : Decoder) : Deployment × Int :=
 bif (decide (0 < o0.wrong)) then
  ((Deployment.mk (Meta.mk eB eB eB 0 0 0 0 false 0 [] [] [] []) 0 0 0 0 [] (Template.mk [] (PodSpec.mk eB 0 0 0 [] [] [] [] [] [])) false false (Amount.mk false 0) (Amount.mk false 0) 0 (WorkStatus.mk 0 0 0 0 0 0 false)), 6)
 else
  (p1, 0)
def Q1iv (p0 : Val) (o1 : Decoder) : Metric × Decoder := ((Metric.dec p0).1, bp o1 (Metric.cnt p0))
def Q1ix (p1 : Val) (p2 : BA) (o0 : Decoder) : List Metric × Decoder := ((dE Metric.dec p1 p2).1, bp o0 (pE (Metric.cnt) p1 p2))
def Q1iw (p0 : Val) (o1 : Decoder) : Advice × Decoder := ((Advice.dec p0).1, bp o1 (Advice.cnt p0))
def Q1iy (p1 : Val) (p2 : BA) (o0 : Decoder) : List Advice × Decoder := ((dE Advice.dec p1 p2).1, bp o0 (pE (Advice.cnt) p1 p2))
def Q1j0 (p1 : Autoscaler) (o0 : Decoder) : Autoscaler × Int :=
 bif (decide (0 < o0.wrong)) then
  ((Autoscaler.mk (Meta.mk eB eB eB 0 0 0 0 false 0 [] [] [] []) eB eB 0 0 [] 0 0 0 (Amount.mk false 0) (Amount.mk false 0) 0 [] 0), 6)
 else
  (p1, 0)
def Qup (p1 : ReplicaSet) (o0 : Decoder) : ReplicaSet × Int :=
 bif (decide (0 < o0.wrong)) then
  ((ReplicaSet.mk (Meta.mk eB eB eB 0 0 0 0 false 0 [] [] [] []) 0 0 0 [] (Template.mk [] (PodSpec.mk eB 0 0 0 [] [] [] [] [] [])) (WorkStatus.mk 0 0 0 0 0 0 false)), 6)
 else
  (p1, 0)
def Q1yd (p1 : ReplicaSet) (o0 : Decoder) : En := .call 104 [.bx 0 0, .agg (ReplicaSet.cells p1)] [⟨1, 0, false, (Decoder.cells o0)⟩]
def Q20y (_p1 : ReplicaSet) (o0 : Decoder) (q0 : ReplicaSet) (q1 : Int) : Rs := .ret (.tup [.agg (ReplicaSet.cells q0), .int .i64 q1]) [⟨1, 0, false, (Decoder.cells o0)⟩]
def Q1pn (p1 : ReplicaSet) (o0 : Decoder) : Rs := Q20y p1 o0 (Qup p1 o0).1 (Qup p1 o0).2
theorem Q222 (p1 : ReplicaSet) (o0 : Decoder) : Q7 G (Q1yd p1 o0) (Q1pn p1 o0) := by
 unfold Q1pn Qup
 cases h0 : (decide (0 < o0.wrong)) with
 | true =>
  exact Q8 (fn := Ir.K7a) rfl (h := [⟨1, 0, false, (Decoder.cells o0)⟩]) (vw := []) VOK.nil [hB 7 h0] [] (by kernel_rfl)
 | false =>
  exact Q8 (fn := Ir.K7a) rfl (h := [⟨1, 0, false, (Decoder.cells o0)⟩]) (vw := []) VOK.nil [hB 7 h0] [] (by kernel_rfl)
def Q1cn (p0 : Object) : ReplicaSet × Int := resC (ReplicaSet.cnt p0) (ReplicaSet.of p0) ReplicaSet.z
theorem Qn6 (n : Nat) (x : ReplicaSet) : Qup x (bp ⟨0⟩ n) = resC n x ReplicaSet.z := rfl
theorem Q1zn (p0 : Object) : Q1cn p0 = (((Qup (ReplicaSet.mk p0.meta_ (Qh p0.spec Q6 (Q1q p0 Qf)).1 (Qh p0.spec Q0 (Qh p0.spec Q6 (Q1q p0 Qf)).2).1 (Qh p0.spec Q16 (Qh p0.spec Q0 (Qh p0.spec Q6 (Q1q p0 Qf)).2).2).1 (Q3c p0.spec (Qh p0.spec Q16 (Qh p0.spec Q0 (Qh p0.spec Q6 (Q1q p0 Qf)).2).2).2).1 (Q3z p0.spec (Q3c p0.spec (Qh p0.spec Q16 (Qh p0.spec Q0 (Qh p0.spec Q6 (Q1q p0 Qf)).2).2).2).2).1 (Q6h p0.status (Q3z p0.spec (Q3c p0.spec (Qh p0.spec Q16 (Qh p0.spec Q0 (Qh p0.spec Q6 (Q1q p0 Qf)).2).2).2).2).2).1) (Q6h p0.status (Q3z p0.spec (Q3c p0.spec (Qh p0.spec Q16 (Qh p0.spec Q0 (Qh p0.spec Q6 (Q1q p0 Qf)).2).2).2).2).2).2).1, (Qup (ReplicaSet.mk p0.meta_ (Qh p0.spec Q6 (Q1q p0 Qf)).1 (Qh p0.spec Q0 (Qh p0.spec Q6 (Q1q p0 Qf)).2).1 (Qh p0.spec Q16 (Qh p0.spec Q0 (Qh p0.spec Q6 (Q1q p0 Qf)).2).2).1 (Q3c p0.spec (Qh p0.spec Q16 (Qh p0.spec Q0 (Qh p0.spec Q6 (Q1q p0 Qf)).2).2).2).1 (Q3z p0.spec (Q3c p0.spec (Qh p0.spec Q16 (Qh p0.spec Q0 (Qh p0.spec Q6 (Q1q p0 Qf)).2).2).2).2).1 (Q6h p0.status (Q3z p0.spec (Q3c p0.spec (Qh p0.spec Q16 (Qh p0.spec Q0 (Qh p0.spec Q6 (Q1q p0 Qf)).2).2).2).2).2).1) (Q6h p0.status (Q3z p0.spec (Q3c p0.spec (Qh p0.spec Q16 (Qh p0.spec Q0 (Qh p0.spec Q6 (Q1q p0 Qf)).2).2).2).2).2).2).2)) := by
  simp only [Qh, Q3c, Q3z, Q6h, Qup, Q1q, Qcd]
  refine Eq.trans ?_ (Qn6 _ _).symm
  refine Q10x ?_ rfl
  unfold ReplicaSet.cnt
  omega
def Q1xp (p0 : Object) : En := .call 21 [.agg (Object.cells p0)] []
def Q1oz (p0 : Object) : Rs := .ret (.tup [.agg (ReplicaSet.cells (Q1cn p0).1), .int .i64 (Q1cn p0).2]) []
def Q1de (p0 : Object) : Prop := Qeg p0.meta_ ∧ Object.sm p0
theorem Q8s (p0 : Object) (H : Q1de p0) : (Qeg p0.meta_) ∧ (Qwg p0.spec) ∧ (Q19f p0.spec) ∧ (Q19g p0.spec) ∧ (Q19h p0.status) ∧ True := by
  repeat' with_reducible apply And.intro
  all_goals first | exact True.intro | exact H.1 | exact H.2 | exact H.2.1 | exact H.2.2 | exact Q3a H.2.1 _ | exact Q3a H.2.2 _
theorem Q1fl (p0 : Object) (H : Q1de p0) : Q7 G (Q1xp p0) (Q1oz p0) := by
 unfold Q1oz
 rw [Q1zn]
 exact Q8 (fn := Ir.K5w) rfl VOK.nil [] [aN (Q1jf p0 Qf), aN (Q1fn p0.meta_ (Q8s p0 H).1), aN (Qbo p0.spec Q6 (Q1q p0 Qf) (Q8s p0 H).2.1), aN (Qbo p0.spec Q0 (Qh p0.spec Q6 (Q1q p0 Qf)).2 (Q8s p0 H).2.1), aN (Qbo p0.spec Q16 (Qh p0.spec Q0 (Qh p0.spec Q6 (Q1q p0 Qf)).2).2 (Q8s p0 H).2.1), aN (Q1j9 p0.spec (Qh p0.spec Q16 (Qh p0.spec Q0 (Qh p0.spec Q6 (Q1q p0 Qf)).2).2).2 (Q8s p0 H).2.2.1), aN (Q1ja p0.spec (Q3c p0.spec (Qh p0.spec Q16 (Qh p0.spec Q0 (Qh p0.spec Q6 (Q1q p0 Qf)).2).2).2).2 (Q8s p0 H).2.2.2.1), aN (Q1jb p0.status (Q3z p0.spec (Q3c p0.spec (Qh p0.spec Q16 (Qh p0.spec Q0 (Qh p0.spec Q6 (Q1q p0 Qf)).2).2).2).2).2 (Q8s p0 H).2.2.2.2.1), aN (Q222 (ReplicaSet.mk p0.meta_ (Qh p0.spec Q6 (Q1q p0 Qf)).1 (Qh p0.spec Q0 (Qh p0.spec Q6 (Q1q p0 Qf)).2).1 (Qh p0.spec Q16 (Qh p0.spec Q0 (Qh p0.spec Q6 (Q1q p0 Qf)).2).2).1 (Q3c p0.spec (Qh p0.spec Q16 (Qh p0.spec Q0 (Qh p0.spec Q6 (Q1q p0 Qf)).2).2).2).1 (Q3z p0.spec (Q3c p0.spec (Qh p0.spec Q16 (Qh p0.spec Q0 (Qh p0.spec Q6 (Q1q p0 Qf)).2).2).2).2).1 (Q6h p0.status (Q3z p0.spec (Q3c p0.spec (Qh p0.spec Q16 (Qh p0.spec Q0 (Qh p0.spec Q6 (Q1q p0 Qf)).2).2).2).2).2).1) (Q6h p0.status (Q3z p0.spec (Q3c p0.spec (Qh p0.spec Q16 (Qh p0.spec Q0 (Qh p0.spec Q6 (Q1q p0 Qf)).2).2).2).2).2).2)] (by kernel_rfl)
def Q1qy (p1 : Val) (o0 : Decoder) : Job × Decoder := ((JobS.dec p1).1, bp o0 (JobS.cnt p1))
def Q1qx (p0 : Val) (o1 : Decoder) : Int × Decoder := ((xN p0).1, bp o1 (cK 2 p0))
def Q1r1 (p1 : Val) (p2 : BA) (o0 : Decoder) : List Int × Decoder := ((dE xN p1 p2).1, bp o0 (pE (cK 2) p1 p2))
def Q1qw (p1 : Val) (p2 : BA) (o0 : Decoder) : List Int × Decoder := ((dE xN p1 p2).1, bp o0 (pE (cK 2) p1 p2))
def Q1r2 (p1 : Job) (o0 : Decoder) : Job × Int :=
 bif (decide (0 < o0.wrong)) then
  ((Job.mk (Meta.mk eB eB eB 0 0 0 0 false 0 [] [] [] []) 0 0 0 0 false false (Template.mk [] (PodSpec.mk eB 0 0 0 [] [] [] [] [] [])) 0 0 0 0 0 [] 0), 6)
 else
  (p1, 0)
end Go.Proofs.YtimjjohlpnkacaaGreat
end

section
/- What the program's decoders compute (printed by a program). -/
namespace Go.Proofs.YtimjjohlpnkacaaGreat
open Go.Pv
def Q1qt (p0 : Val) (o1 : Decoder) : WorkItem × Decoder := ((WorkItem.dec p0).1, bp o1 (WorkItem.cnt p0))
def Q1qz (p1 : Val) (p2 : BA) (o0 : Decoder) : List WorkItem × Decoder := ((dE WorkItem.dec p1 p2).1, bp o0 (pE (WorkItem.cnt) p1 p2))
def Q1qu (p0 : Val) (o1 : Decoder) : Amount × Decoder := ((Amount.dec p0).1, bp o1 (Amount.cnt p0))
def Q1r0 (p1 : Val) (p2 : BA) (o0 : Decoder) : List Amount × Decoder := ((dE Amount.dec p1 p2).1, bp o0 (pE (Amount.cnt) p1 p2))
def Q1r3 (p1 : Budget) (o0 : Decoder) : Budget × Int :=
 bif (decide (0 < o0.wrong)) then
  ((Budget.mk (Meta.mk eB eB eB 0 0 0 0 false 0 [] [] [] []) [] [] [] 0 0 0 0 0 []), 6)
 else
  (p1, 0)
def Qzj (p1 : StatefulSet) (o0 : Decoder) : StatefulSet × Int :=
 bif (decide (0 < o0.wrong)) then
  ((StatefulSet.mk (Meta.mk eB eB eB 0 0 0 0 false 0 [] [] [] []) 0 0 0 false [] (Template.mk [] (PodSpec.mk eB 0 0 0 [] [] [] [] [] [])) (WorkStatus.mk 0 0 0 0 0 0 false)), 6)
 else
  (p1, 0)
def Q1ye (p1 : StatefulSet) (o0 : Decoder) : En := .call 127 [.bx 0 0, .agg (StatefulSet.cells p1)] [⟨1, 0, false, (Decoder.cells o0)⟩]
def Q20z (_p1 : StatefulSet) (o0 : Decoder) (q0 : StatefulSet) (q1 : Int) : Rs := .ret (.tup [.agg (StatefulSet.cells q0), .int .i64 q1]) [⟨1, 0, false, (Decoder.cells o0)⟩]
def Q1po (p1 : StatefulSet) (o0 : Decoder) : Rs := Q20z p1 o0 (Qzj p1 o0).1 (Qzj p1 o0).2
theorem Q223 (p1 : StatefulSet) (o0 : Decoder) : Q7 G (Q1ye p1 o0) (Q1po p1 o0) := by
 unfold Q1po Qzj
 cases h0 : (decide (0 < o0.wrong)) with
 | true =>
  exact Q8 (fn := Ir.K7d) rfl (h := [⟨1, 0, false, (Decoder.cells o0)⟩]) (vw := []) VOK.nil [hB 7 h0] [] (by kernel_rfl)
 | false =>
  exact Q8 (fn := Ir.K7d) rfl (h := [⟨1, 0, false, (Decoder.cells o0)⟩]) (vw := []) VOK.nil [hB 7 h0] [] (by kernel_rfl)
def Q1co (p0 : Object) : StatefulSet × Int := resC (StatefulSet.cnt p0) (StatefulSet.of p0) StatefulSet.z
theorem Qmg (n : Nat) (x : StatefulSet) : Qzj x (bp ⟨0⟩ n) = resC n x StatefulSet.z := rfl
theorem Q1zo (p0 : Object) : Q1co p0 = (((Qzj (StatefulSet.mk p0.meta_ (Qh p0.spec Q6 (Q1q p0 Qc)).1 (Qh p0.spec Qs (Qh p0.spec Q6 (Q1q p0 Qc)).2).1 (Qh p0.spec Q0 (Qh p0.spec Qs (Qh p0.spec Q6 (Q1q p0 Qc)).2).2).1 (Q4f p0.spec Q15 (Qh p0.spec Q0 (Qh p0.spec Qs (Qh p0.spec Q6 (Q1q p0 Qc)).2).2).2).1 (Q3c p0.spec (Q4f p0.spec Q15 (Qh p0.spec Q0 (Qh p0.spec Qs (Qh p0.spec Q6 (Q1q p0 Qc)).2).2).2).2).1 (Q3z p0.spec (Q3c p0.spec (Q4f p0.spec Q15 (Qh p0.spec Q0 (Qh p0.spec Qs (Qh p0.spec Q6 (Q1q p0 Qc)).2).2).2).2).2).1 (Q6h p0.status (Q3z p0.spec (Q3c p0.spec (Q4f p0.spec Q15 (Qh p0.spec Q0 (Qh p0.spec Qs (Qh p0.spec Q6 (Q1q p0 Qc)).2).2).2).2).2).2).1) (Q6h p0.status (Q3z p0.spec (Q3c p0.spec (Q4f p0.spec Q15 (Qh p0.spec Q0 (Qh p0.spec Qs (Qh p0.spec Q6 (Q1q p0 Qc)).2).2).2).2).2).2).2).1, (Qzj (StatefulSet.mk p0.meta_ (Qh p0.spec Q6 (Q1q p0 Qc)).1 (Qh p0.spec Qs (Qh p0.spec Q6 (Q1q p0 Qc)).2).1 (Qh p0.spec Q0 (Qh p0.spec Qs (Qh p0.spec Q6 (Q1q p0 Qc)).2).2).1 (Q4f p0.spec Q15 (Qh p0.spec Q0 (Qh p0.spec Qs (Qh p0.spec Q6 (Q1q p0 Qc)).2).2).2).1 (Q3c p0.spec (Q4f p0.spec Q15 (Qh p0.spec Q0 (Qh p0.spec Qs (Qh p0.spec Q6 (Q1q p0 Qc)).2).2).2).2).1 (Q3z p0.spec (Q3c p0.spec (Q4f p0.spec Q15 (Qh p0.spec Q0 (Qh p0.spec Qs (Qh p0.spec Q6 (Q1q p0 Qc)).2).2).2).2).2).1 (Q6h p0.status (Q3z p0.spec (Q3c p0.spec (Q4f p0.spec Q15 (Qh p0.spec Q0 (Qh p0.spec Qs (Qh p0.spec Q6 (Q1q p0 Qc)).2).2).2).2).2).2).1) (Q6h p0.status (Q3z p0.spec (Q3c p0.spec (Q4f p0.spec Q15 (Qh p0.spec Q0 (Qh p0.spec Qs (Qh p0.spec Q6 (Q1q p0 Qc)).2).2).2).2).2).2).2).2)) := by
  simp only [Qh, Q4f, Q3c, Q3z, Q6h, Qzj, Q1q, Qcd]
  refine Eq.trans ?_ (Qmg _ _).symm
  refine Q10x ?_ rfl
  unfold StatefulSet.cnt
  omega
def Q1xq (p0 : Object) : En := .call 29 [.agg (Object.cells p0)] []
def Q1p0 (p0 : Object) : Rs := .ret (.tup [.agg (StatefulSet.cells (Q1co p0).1), .int .i64 (Q1co p0).2]) []
def Q1df (p0 : Object) : Prop := Qeg p0.meta_ ∧ Object.sm p0
theorem Q77 (p0 : Object) (H : Q1df p0) : (Qeg p0.meta_) ∧ (Qwg p0.spec) ∧ (Q19i p0.spec) ∧ (Q19f p0.spec) ∧ (Q19g p0.spec) ∧ (Q19h p0.status) ∧ True := by
  repeat' with_reducible apply And.intro
  all_goals first | exact True.intro | exact H.1 | exact H.2 | exact H.2.1 | exact H.2.2 | exact Q3a H.2.1 _ | exact Q3a H.2.2 _
theorem Q1fm (p0 : Object) (H : Q1df p0) : Q7 G (Q1xq p0) (Q1p0 p0) := by
 unfold Q1p0
 rw [Q1zo]
 exact Q8 (fn := Ir.K5y) rfl VOK.nil [] [aN (Q1jf p0 Qc), aN (Q1fn p0.meta_ (Q77 p0 H).1), aN (Qbo p0.spec Q6 (Q1q p0 Qc) (Q77 p0 H).2.1), aN (Qbo p0.spec Qs (Qh p0.spec Q6 (Q1q p0 Qc)).2 (Q77 p0 H).2.1), aN (Qbo p0.spec Q0 (Qh p0.spec Qs (Qh p0.spec Q6 (Q1q p0 Qc)).2).2 (Q77 p0 H).2.1), aN (Q1jc p0.spec Q15 (Qh p0.spec Q0 (Qh p0.spec Qs (Qh p0.spec Q6 (Q1q p0 Qc)).2).2).2 (Q77 p0 H).2.2.1), aN (Q1j9 p0.spec (Q4f p0.spec Q15 (Qh p0.spec Q0 (Qh p0.spec Qs (Qh p0.spec Q6 (Q1q p0 Qc)).2).2).2).2 (Q77 p0 H).2.2.2.1), aN (Q1ja p0.spec (Q3c p0.spec (Q4f p0.spec Q15 (Qh p0.spec Q0 (Qh p0.spec Qs (Qh p0.spec Q6 (Q1q p0 Qc)).2).2).2).2).2 (Q77 p0 H).2.2.2.2.1), aN (Q1jb p0.status (Q3z p0.spec (Q3c p0.spec (Q4f p0.spec Q15 (Qh p0.spec Q0 (Qh p0.spec Qs (Qh p0.spec Q6 (Q1q p0 Qc)).2).2).2).2).2).2 (Q77 p0 H).2.2.2.2.2.1), aN (Q223 (StatefulSet.mk p0.meta_ (Qh p0.spec Q6 (Q1q p0 Qc)).1 (Qh p0.spec Qs (Qh p0.spec Q6 (Q1q p0 Qc)).2).1 (Qh p0.spec Q0 (Qh p0.spec Qs (Qh p0.spec Q6 (Q1q p0 Qc)).2).2).1 (Q4f p0.spec Q15 (Qh p0.spec Q0 (Qh p0.spec Qs (Qh p0.spec Q6 (Q1q p0 Qc)).2).2).2).1 (Q3c p0.spec (Q4f p0.spec Q15 (Qh p0.spec Q0 (Qh p0.spec Qs (Qh p0.spec Q6 (Q1q p0 Qc)).2).2).2).2).1 (Q3z p0.spec (Q3c p0.spec (Q4f p0.spec Q15 (Qh p0.spec Q0 (Qh p0.spec Qs (Qh p0.spec Q6 (Q1q p0 Qc)).2).2).2).2).2).1 (Q6h p0.status (Q3z p0.spec (Q3c p0.spec (Q4f p0.spec Q15 (Qh p0.spec Q0 (Qh p0.spec Qs (Qh p0.spec Q6 (Q1q p0 Qc)).2).2).2).2).2).2).1) (Q6h p0.status (Q3z p0.spec (Q3c p0.spec (Q4f p0.spec Q15 (Qh p0.spec Q0 (Qh p0.spec Qs (Qh p0.spec Q6 (Q1q p0 Qc)).2).2).2).2).2).2).2)] (by kernel_rfl)
def Q113 (p1 : DaemonSet) (o0 : Decoder) : DaemonSet × Int :=
 bif (decide (0 < o0.wrong)) then
  ((DaemonSet.mk (Meta.mk eB eB eB 0 0 0 0 false 0 [] [] [] []) 0 (Amount.mk false 0) [] (Template.mk [] (PodSpec.mk eB 0 0 0 [] [] [] [] [] [])) (WorkStatus.mk 0 0 0 0 0 0 false)), 6)
 else
  (p1, 0)
def Q1yf (p1 : DaemonSet) (o0 : Decoder) : En := .call 129 [.bx 0 0, .agg (DaemonSet.cells p1)] [⟨1, 0, false, (Decoder.cells o0)⟩]
def Q210 (_p1 : DaemonSet) (o0 : Decoder) (q0 : DaemonSet) (q1 : Int) : Rs := .ret (.tup [.agg (DaemonSet.cells q0), .int .i64 q1]) [⟨1, 0, false, (Decoder.cells o0)⟩]
def Q1pp (p1 : DaemonSet) (o0 : Decoder) : Rs := Q210 p1 o0 (Q113 p1 o0).1 (Q113 p1 o0).2
theorem Q224 (p1 : DaemonSet) (o0 : Decoder) : Q7 G (Q1yf p1 o0) (Q1pp p1 o0) := by
 unfold Q1pp Q113
 cases h0 : (decide (0 < o0.wrong)) with
 | true =>
  exact Q8 (fn := Ir.K7e) rfl (h := [⟨1, 0, false, (Decoder.cells o0)⟩]) (vw := []) VOK.nil [hB 7 h0] [] (by kernel_rfl)
 | false =>
  exact Q8 (fn := Ir.K7e) rfl (h := [⟨1, 0, false, (Decoder.cells o0)⟩]) (vw := []) VOK.nil [hB 7 h0] [] (by kernel_rfl)
def Q1cm (p0 : Object) : DaemonSet × Int := resC (DaemonSet.cnt p0) (DaemonSet.of p0) DaemonSet.z
theorem Quj (n : Nat) (x : DaemonSet) : Q113 x (bp ⟨0⟩ n) = resC n x DaemonSet.z := rfl
theorem Q1zm (p0 : Object) : Q1cm p0 = (((Q113 (DaemonSet.mk p0.meta_ (Qh p0.spec Q0 (Q1q p0 Qd)).1 (Q62 (Qt p0.spec Qe (Qh p0.spec Q0 (Q1q p0 Qd)).2).1 (Qt p0.spec Qe (Qh p0.spec Q0 (Q1q p0 Qd)).2).2).1 (Q3c p0.spec (Q62 (Qt p0.spec Qe (Qh p0.spec Q0 (Q1q p0 Qd)).2).1 (Qt p0.spec Qe (Qh p0.spec Q0 (Q1q p0 Qd)).2).2).2).1 (Q3z p0.spec (Q3c p0.spec (Q62 (Qt p0.spec Qe (Qh p0.spec Q0 (Q1q p0 Qd)).2).1 (Qt p0.spec Qe (Qh p0.spec Q0 (Q1q p0 Qd)).2).2).2).2).1 (Q6h p0.status (Q3z p0.spec (Q3c p0.spec (Q62 (Qt p0.spec Qe (Qh p0.spec Q0 (Q1q p0 Qd)).2).1 (Qt p0.spec Qe (Qh p0.spec Q0 (Q1q p0 Qd)).2).2).2).2).2).1) (Q6h p0.status (Q3z p0.spec (Q3c p0.spec (Q62 (Qt p0.spec Qe (Qh p0.spec Q0 (Q1q p0 Qd)).2).1 (Qt p0.spec Qe (Qh p0.spec Q0 (Q1q p0 Qd)).2).2).2).2).2).2).1, (Q113 (DaemonSet.mk p0.meta_ (Qh p0.spec Q0 (Q1q p0 Qd)).1 (Q62 (Qt p0.spec Qe (Qh p0.spec Q0 (Q1q p0 Qd)).2).1 (Qt p0.spec Qe (Qh p0.spec Q0 (Q1q p0 Qd)).2).2).1 (Q3c p0.spec (Q62 (Qt p0.spec Qe (Qh p0.spec Q0 (Q1q p0 Qd)).2).1 (Qt p0.spec Qe (Qh p0.spec Q0 (Q1q p0 Qd)).2).2).2).1 (Q3z p0.spec (Q3c p0.spec (Q62 (Qt p0.spec Qe (Qh p0.spec Q0 (Q1q p0 Qd)).2).1 (Qt p0.spec Qe (Qh p0.spec Q0 (Q1q p0 Qd)).2).2).2).2).1 (Q6h p0.status (Q3z p0.spec (Q3c p0.spec (Q62 (Qt p0.spec Qe (Qh p0.spec Q0 (Q1q p0 Qd)).2).1 (Qt p0.spec Qe (Qh p0.spec Q0 (Q1q p0 Qd)).2).2).2).2).2).1) (Q6h p0.status (Q3z p0.spec (Q3c p0.spec (Q62 (Qt p0.spec Qe (Qh p0.spec Q0 (Q1q p0 Qd)).2).1 (Qt p0.spec Qe (Qh p0.spec Q0 (Q1q p0 Qd)).2).2).2).2).2).2).2)) := by
  simp only [Qt, Qh, Q3c, Q3z, Q62, Q6h, Q113, Q1q, Qcd]
  refine Eq.trans ?_ (Quj _ _).symm
  refine Q10x ?_ rfl
  unfold DaemonSet.cnt
  omega
def Q1xo (p0 : Object) : En := .call 31 [.agg (Object.cells p0)] []
def Q1oy (p0 : Object) : Rs := .ret (.tup [.agg (DaemonSet.cells (Q1cm p0).1), .int .i64 (Q1cm p0).2]) []
def Q1dd (p0 : Object) : Prop := Qeg p0.meta_ ∧ Object.sm p0
theorem Q8r (p0 : Object) (H : Q1dd p0) : (Qeg p0.meta_) ∧ (Qwg p0.spec) ∧ (Qrx p0.spec) ∧ (Q1hz (Qt p0.spec Qe (Qh p0.spec Q0 (Q1q p0 Qd)).2).1) ∧ (Q19f p0.spec) ∧ (Q19g p0.spec) ∧ (Q19h p0.status) ∧ True := by
  repeat' with_reducible apply And.intro
  all_goals first | exact True.intro | exact H.1 | exact H.2 | exact H.2.1 | exact H.2.2 | exact Q3a H.2.1 _ | exact Q3a H.2.2 _
theorem Q1fk (p0 : Object) (H : Q1dd p0) : Q7 G (Q1xo p0) (Q1oy p0) := by
 unfold Q1oy
 rw [Q1zm]
 exact Q8 (fn := Ir.K5n) rfl VOK.nil [] [aN (Q1jf p0 Qd), aN (Q1fn p0.meta_ (Q8r p0 H).1), aN (Qbo p0.spec Q0 (Q1q p0 Qd) (Q8r p0 H).2.1), aN (Qut p0.spec Qe (Qh p0.spec Q0 (Q1q p0 Qd)).2 (Q8r p0 H).2.2.1), aN (Q21t (Qt p0.spec Qe (Qh p0.spec Q0 (Q1q p0 Qd)).2).1 (Qt p0.spec Qe (Qh p0.spec Q0 (Q1q p0 Qd)).2).2 (Q8r p0 H).2.2.2.1), aN (Q1j9 p0.spec (Q62 (Qt p0.spec Qe (Qh p0.spec Q0 (Q1q p0 Qd)).2).1 (Qt p0.spec Qe (Qh p0.spec Q0 (Q1q p0 Qd)).2).2).2 (Q8r p0 H).2.2.2.2.1), aN (Q1ja p0.spec (Q3c p0.spec (Q62 (Qt p0.spec Qe (Qh p0.spec Q0 (Q1q p0 Qd)).2).1 (Qt p0.spec Qe (Qh p0.spec Q0 (Q1q p0 Qd)).2).2).2).2 (Q8r p0 H).2.2.2.2.2.1), aN (Q1jb p0.status (Q3z p0.spec (Q3c p0.spec (Q62 (Qt p0.spec Qe (Qh p0.spec Q0 (Q1q p0 Qd)).2).1 (Qt p0.spec Qe (Qh p0.spec Q0 (Q1q p0 Qd)).2).2).2).2).2 (Q8r p0 H).2.2.2.2.2.2.1), aN (Q224 (DaemonSet.mk p0.meta_ (Qh p0.spec Q0 (Q1q p0 Qd)).1 (Q62 (Qt p0.spec Qe (Qh p0.spec Q0 (Q1q p0 Qd)).2).1 (Qt p0.spec Qe (Qh p0.spec Q0 (Q1q p0 Qd)).2).2).1 (Q3c p0.spec (Q62 (Qt p0.spec Qe (Qh p0.spec Q0 (Q1q p0 Qd)).2).1 (Qt p0.spec Qe (Qh p0.spec Q0 (Q1q p0 Qd)).2).2).2).1 (Q3z p0.spec (Q3c p0.spec (Q62 (Qt p0.spec Qe (Qh p0.spec Q0 (Q1q p0 Qd)).2).1 (Qt p0.spec Qe (Qh p0.spec Q0 (Q1q p0 Qd)).2).2).2).2).1 (Q6h p0.status (Q3z p0.spec (Q3c p0.spec (Q62 (Qt p0.spec Qe (Qh p0.spec Q0 (Q1q p0 Qd)).2).1 (Qt p0.spec Qe (Qh p0.spec Q0 (Q1q p0 Qd)).2).2).2).2).2).1) (Q6h p0.status (Q3z p0.spec (Q3c p0.spec (Q62 (Qt p0.spec Qe (Qh p0.spec Q0 (Q1q p0 Qd)).2).1 (Qt p0.spec Qe (Qh p0.spec Q0 (Q1q p0 Qd)).2).2).2).2).2).2)] (by kernel_rfl)
end Go.Proofs.YtimjjohlpnkacaaGreat
end

