/- Texts of the claim, merged by a program; what the statement does not reach is left out. -/
import Derived.Test.YtimjjohlpnkacaaGreatBWorkcodecReads4

section
/- What the decoders of templates compute (printed by a program). -/
namespace Go.Proofs.YtimjjohlpnkacaaGreat
open Go.Pv
structure au where
  bG : Bool
def au.cells (x : au) : List PV :=
  [.bool x.bG]
def au.rows (l : List au) : List (List PV) := l.map au.cells
def ft (o : au) (b : Bool) : au := ⟨o.bG || !b⟩
theorem Qnx (o : au) (a b : Bool) : ft (ft o a) b = ft o (a && b) := by
  unfold ft
  simp only [Bool.not_and, Bool.or_assoc]
theorem Q5l (o : au) (b : Bool) : (ft o b).bG = (o.bG || !b) := rfl
theorem Q6n (o : au) (b : Bool) : au.mk (o.bG || !b) = ft o b := rfl
theorem Qab (p1 : Val) (p2 : BA) : (bif (prt p1 p2).kind == 4 then prt p1 p2 else vZ).list = (dL p1 p2).1 := by
  unfold dL xL
  cases ((prt p1 p2).kind == 4) <;> rfl
theorem Q9t (f m x y q : Bool) (h : x = y) : ((f || !(m && x)) || !q) = (f || !(m && (y && q))) := by subst h; cases f <;> cases m <;> cases x <;> cases q <;> rfl
theorem Qyk (x : Val) : ((x.kind == 4) || (x.kind == 0)) = (xL x).2 := by unfold xL; cases (x.kind == 4) <;> rfl
def s_Ko (p1 : Val) (o0 : au) : Val × au := (p1, ft o0 (isM p1))
theorem e_Ko (p1 : Val) (o0 : au) : s_Ko p1 o0 = (bif o0.bG then
    (p1, (au.mk true))
  else
    bif (p1.kind == 5) then
      (p1, (au.mk false))
    else
      (p1, (au.mk (!(p1.kind == 0))))) := by
  obtain ⟨b⟩ := o0
  unfold s_Ko ft isM
  cases b <;> cases (p1.kind == 5) <;> cases (p1.kind == 0) <;> rfl
def c_Ko (p1 : Val) (o0 : au) : En := .call 215 [.bx 0 0, .agg (Val.cells p1)] [⟨1, 0, false, (au.cells o0)⟩]
def r_Ko (_p1 : Val) (_o0 : au) (q0 : Val) (q1 : au) : Rs := .ret (.agg (Val.cells q0)) [⟨1, 0, false, (au.cells q1)⟩]
def a_Ko (p1 : Val) (o0 : au) : Rs := r_Ko p1 o0 (s_Ko p1 o0).1 (s_Ko p1 o0).2
theorem t_Ko (p1 : Val) (o0 : au) : Q5 G (c_Ko p1 o0) (a_Ko p1 o0) := by
 unfold a_Ko
 rw [e_Ko]
 cases h0 : o0.bG with
 | true =>
  exact Q6 (fn := Ir.Ko) (by kernel_rfl) (h := [⟨1, 0, false, (au.cells o0)⟩]) (vw := []) VOK.nil [hP 6 (decR o0.bG true [0] h0)] [] (by kernel_rfl)
 | false =>
  cases h1 : (p1.kind == 5) with
  | true =>
   exact Q6 (fn := Ir.Ko) (by kernel_rfl) (h := [⟨1, 0, false, (au.cells o0)⟩]) (vw := []) VOK.nil [hP 6 (decR o0.bG false [0] h0), hP 3 (dec (!(p1.kind == 5)) false (by rw [h1]; rfl))] [] (by kernel_rfl)
  | false =>
   exact Q6 (fn := Ir.Ko) (by kernel_rfl) (h := [⟨1, 0, false, (au.cells o0)⟩]) (vw := []) VOK.nil [hP 6 (decR o0.bG false [0] h0), hP 3 (dec (!(p1.kind == 5)) true (by rw [h1]; rfl))] [] (by kernel_rfl)
def s_Kd (p1 : Val) (p2 : BA) (p3 : Int) (o0 : au) : Val × au := (bif (prt p1 p2).kind == p3 then prt p1 p2 else vZ, ft o0 (isM p1 && ((prt p1 p2).kind == p3 || (prt p1 p2).kind == 0)))
theorem e_Kd (p1 : Val) (p2 : BA) (p3 : Int) (o0 : au) : s_Kd p1 p2 p3 o0 = (bif (p1.kind == 5) then
    bif ((Qpi p1 p2).1.kind == p3) then
      ((Qpi p1 p2).1, o0)
    else
      bif o0.bG then
        ((Val.mk 0 0 eB [] []), (au.mk true))
      else
        ((Val.mk 0 0 eB [] []), (au.mk (!((Qpi p1 p2).1.kind == 0))))
  else
    bif o0.bG then
      ((Val.mk 0 0 eB [] []), (au.mk true))
    else
      ((Val.mk 0 0 eB [] []), (au.mk (!(p1.kind == 0))))) := by
  obtain ⟨b⟩ := o0
  unfold s_Kd ft
  rw [vprt]
  cases h : (p1.kind == 5) with
  | true =>
    rw [Q13q h]
    cases b <;> cases ((prt p1 p2).kind == p3) <;> cases ((prt p1 p2).kind == 0) <;> rfl
  | false =>
    rw [Qo1 h, Qf9 h]
    cases b <;> cases (p1.kind == 0) <;> cases (vZ.kind == p3) <;> rfl
def c_Kd (p1 : Val) (p2 : BA) (p3 : Int) (o0 : au) : En := .call 238 [.bx 0 0, .agg (Val.cells p1), .str p2, iN p3] [⟨1, 0, false, (au.cells o0)⟩]
def r_Kd (_p1 : Val) (_p2 : BA) (_p3 : Int) (_o0 : au) (q0 : Val) (q1 : au) : Rs := .ret (.agg (Val.cells q0)) [⟨1, 0, false, (au.cells q1)⟩]
def a_Kd (p1 : Val) (p2 : BA) (p3 : Int) (o0 : au) : Rs := r_Kd p1 p2 p3 o0 (s_Kd p1 p2 p3 o0).1 (s_Kd p1 p2 p3 o0).2
def H_Kd (p1 : Val) : Prop := Val.Sm 1000000000 p1
theorem Q13l (p1 : Val) (p2 : BA) (_p3 : Int) (_o0 : au) (H : H_Kd p1) : (Q1jz p1 p2) ∧ True := by
  exact ⟨Q1ur H _, trivial⟩
theorem t_Kd (p1 : Val) (p2 : BA) (p3 : Int) (o0 : au) (H : H_Kd p1) : Q5 G (c_Kd p1 p2 p3 o0) (a_Kd p1 p2 p3 o0) := by
 unfold a_Kd
 rw [e_Kd]
 cases h0 : (p1.kind == 5) with
 | true =>
  cases h1 : ((Qpi p1 p2).1.kind == p3) with
  | true =>
   exact Q6 (fn := Ir.Kd) (by kernel_rfl) (h := [⟨1, 0, false, (au.cells o0)⟩]) (vw := []) VOK.nil [hP 4 (dec (!(p1.kind == 5)) false (by rw [h0]; rfl)), hB 12 h1] [aN (Q1me p1 p2 (Q13l p1 p2 p3 o0 H).1)] (by kernel_rfl)
  | false =>
   cases h2 : o0.bG with
   | true =>
    exact Q6 (fn := Ir.Kd) (by kernel_rfl) (h := [⟨1, 0, false, (au.cells o0)⟩]) (vw := []) VOK.nil [hP 4 (dec (!(p1.kind == 5)) false (by rw [h0]; rfl)), hB 12 h1, hP 4 (decR o0.bG true [0] h2)] [aN (Q1me p1 p2 (Q13l p1 p2 p3 o0 H).1)] (by kernel_rfl)
   | false =>
    exact Q6 (fn := Ir.Kd) (by kernel_rfl) (h := [⟨1, 0, false, (au.cells o0)⟩]) (vw := []) VOK.nil [hP 4 (dec (!(p1.kind == 5)) false (by rw [h0]; rfl)), hB 12 h1, hP 4 (decR o0.bG false [0] h2)] [aN (Q1me p1 p2 (Q13l p1 p2 p3 o0 H).1)] (by kernel_rfl)
 | false =>
  cases h1 : o0.bG with
  | true =>
   exact Q6 (fn := Ir.Kd) (by kernel_rfl) (h := [⟨1, 0, false, (au.cells o0)⟩]) (vw := []) VOK.nil [hP 4 (dec (!(p1.kind == 5)) true (by rw [h0]; rfl)), hP 4 (decR o0.bG true [0] h1)] [] (by kernel_rfl)
  | false =>
   exact Q6 (fn := Ir.Kd) (by kernel_rfl) (h := [⟨1, 0, false, (au.cells o0)⟩]) (vw := []) VOK.nil [hP 4 (dec (!(p1.kind == 5)) true (by rw [h0]; rfl)), hP 4 (decR o0.bG false [0] h1)] [] (by kernel_rfl)
def s_Kg (p1 : Val) (p2 : BA) (o0 : au) : Int × au := ((dN p1 p2).1, ft o0 (isM p1 && (dN p1 p2).2))
theorem e_Kg (p1 : Val) (p2 : BA) (o0 : au) : s_Kg p1 p2 o0 = (((s_Kd p1 p2 2 o0).1.n, (s_Kd p1 p2 2 o0).2)) := by
  unfold s_Kg s_Kd dN xN
  cases ((prt p1 p2).kind == 2) <;> rfl
def c_Kg (p1 : Val) (p2 : BA) (o0 : au) : En := .call 240 [.bx 0 0, .agg (Val.cells p1), .str p2] [⟨1, 0, false, (au.cells o0)⟩]
def r_Kg (_p1 : Val) (_p2 : BA) (_o0 : au) (q0 : Int) (q1 : au) : Rs := .ret (iN q0) [⟨1, 0, false, (au.cells q1)⟩]
def a_Kg (p1 : Val) (p2 : BA) (o0 : au) : Rs := r_Kg p1 p2 o0 (s_Kg p1 p2 o0).1 (s_Kg p1 p2 o0).2
def H_Kg (p1 : Val) : Prop := Val.Sm 1000000000 p1
theorem Q1px (p1 : Val) (_p2 : BA) (_o0 : au) (H : H_Kg p1) : (H_Kd p1) ∧ True := by
  exact ⟨H, trivial⟩
theorem t_Kg (p1 : Val) (p2 : BA) (o0 : au) (H : H_Kg p1) : Q5 G (c_Kg p1 p2 o0) (a_Kg p1 p2 o0) := by
 unfold a_Kg
 rw [e_Kg]
 exact Q6 (fn := Ir.Kg) (by kernel_rfl) (h := [⟨1, 0, false, (au.cells o0)⟩]) (vw := []) VOK.nil [] [aN (t_Kd p1 p2 2 o0 (Q1px p1 p2 o0 H).1)] (by kernel_rfl)
def s_Kn (p1 : Val) (p2 : BA) (o0 : au) : ByteArray × au := ((dS p1 p2).1, ft o0 (isM p1 && (dS p1 p2).2))
theorem e_Kn (p1 : Val) (p2 : BA) (o0 : au) : s_Kn p1 p2 o0 = (((s_Kd p1 p2 3 o0).1.s, (s_Kd p1 p2 3 o0).2)) := by
  unfold s_Kn s_Kd dS xS
  cases ((prt p1 p2).kind == 3) <;> rfl
def c_Kn (p1 : Val) (p2 : BA) (o0 : au) : En := .call 239 [.bx 0 0, .agg (Val.cells p1), .str p2] [⟨1, 0, false, (au.cells o0)⟩]
def r_Kn (_p1 : Val) (_p2 : BA) (_o0 : au) (q0 : BA) (q1 : au) : Rs := .ret (.str q0) [⟨1, 0, false, (au.cells q1)⟩]
def a_Kn (p1 : Val) (p2 : BA) (o0 : au) : Rs := r_Kn p1 p2 o0 (s_Kn p1 p2 o0).1 (s_Kn p1 p2 o0).2
def H_Kn (p1 : Val) : Prop := Val.Sm 1000000000 p1
theorem Q1py (p1 : Val) (_p2 : BA) (_o0 : au) (H : H_Kn p1) : (H_Kd p1) ∧ True := by
  exact ⟨H, trivial⟩
theorem t_Kn (p1 : Val) (p2 : BA) (o0 : au) (H : H_Kn p1) : Q5 G (c_Kn p1 p2 o0) (a_Kn p1 p2 o0) := by
 unfold a_Kn
 rw [e_Kn]
 exact Q6 (fn := Ir.Kn) (by kernel_rfl) (h := [⟨1, 0, false, (au.cells o0)⟩]) (vw := []) VOK.nil [] [aN (t_Kd p1 p2 3 o0 (Q1py p1 p2 o0 H).1)] (by kernel_rfl)
def s_Kc (p1 : Val) (p2 : BA) (o0 : au) : Bool × au := ((dB p1 p2).1, ft o0 (isM p1 && (dB p1 p2).2))
theorem e_Kc (p1 : Val) (p2 : BA) (o0 : au) : s_Kc p1 p2 o0 = (((!((s_Kd p1 p2 1 o0).1.n == 0)), (s_Kd p1 p2 1 o0).2)) := by
  unfold s_Kc s_Kd dB xB
  cases ((prt p1 p2).kind == 1) <;> rfl
def c_Kc (p1 : Val) (p2 : BA) (o0 : au) : En := .call 280 [.bx 0 0, .agg (Val.cells p1), .str p2] [⟨1, 0, false, (au.cells o0)⟩]
def r_Kc (_p1 : Val) (_p2 : BA) (_o0 : au) (q0 : Bool) (q1 : au) : Rs := .ret (.bool q0) [⟨1, 0, false, (au.cells q1)⟩]
def a_Kc (p1 : Val) (p2 : BA) (o0 : au) : Rs := r_Kc p1 p2 o0 (s_Kc p1 p2 o0).1 (s_Kc p1 p2 o0).2
def H_Kc (p1 : Val) : Prop := Val.Sm 1000000000 p1
theorem Q1pw (p1 : Val) (_p2 : BA) (_o0 : au) (H : H_Kc p1) : (H_Kd p1) ∧ True := by
  exact ⟨H, trivial⟩
theorem t_Kc (p1 : Val) (p2 : BA) (o0 : au) (H : H_Kc p1) : Q5 G (c_Kc p1 p2 o0) (a_Kc p1 p2 o0) := by
 unfold a_Kc
 rw [e_Kc]
 exact Q6 (fn := Ir.Kc) (by kernel_rfl) (h := [⟨1, 0, false, (au.cells o0)⟩]) (vw := []) VOK.nil [] [aN (t_Kd p1 p2 1 o0 (Q1pw p1 p2 o0 H).1)] (by kernel_rfl)
def s_Kp (p1 : Val) (p2 : BA) (o0 : au) : Val × au := (s5 (prt p1 p2), ft o0 (isM p1 && isM (prt p1 p2)))
theorem e_Kp (p1 : Val) (p2 : BA) (o0 : au) : s_Kp p1 p2 o0 = (((s_Kd p1 p2 5 o0).1, (s_Kd p1 p2 5 o0).2)) := by
  rfl
def c_Kp (p1 : Val) (p2 : BA) (o0 : au) : En := .call 219 [.bx 0 0, .agg (Val.cells p1), .str p2] [⟨1, 0, false, (au.cells o0)⟩]
def r_Kp (_p1 : Val) (_p2 : BA) (_o0 : au) (q0 : Val) (q1 : au) : Rs := .ret (.agg (Val.cells q0)) [⟨1, 0, false, (au.cells q1)⟩]
def a_Kp (p1 : Val) (p2 : BA) (o0 : au) : Rs := r_Kp p1 p2 o0 (s_Kp p1 p2 o0).1 (s_Kp p1 p2 o0).2
def H_Kp (p1 : Val) : Prop := Val.Sm 1000000000 p1
theorem Q1pz (p1 : Val) (_p2 : BA) (_o0 : au) (H : H_Kp p1) : (H_Kd p1) ∧ True := by
  exact ⟨H, trivial⟩
theorem t_Kp (p1 : Val) (p2 : BA) (o0 : au) (H : H_Kp p1) : Q5 G (c_Kp p1 p2 o0) (a_Kp p1 p2 o0) := by
 unfold a_Kp
 rw [e_Kp]
 exact Q6 (fn := Ir.Kp) (by kernel_rfl) (h := [⟨1, 0, false, (au.cells o0)⟩]) (vw := []) VOK.nil [] [aN (t_Kd p1 p2 5 o0 (Q1pz p1 p2 o0 H).1)] (by kernel_rfl)
def s_Kk (p1 : Val) (o0 : au) : aW × au := ((aW.dec p1).1, ft o0 (aW.dec p1).2)
theorem e_Kk (p1 : Val) (o0 : au) : s_Kk p1 o0 = (((aW.mk (s_Kg p1 Q3k o0).1 (s_Kg p1 Q2p (s_Kg p1 Q3k o0).2).1 (s_Kg p1 Q42 (s_Kg p1 Q2p (s_Kg p1 Q3k o0).2).2).1), (s_Kg p1 Q42 (s_Kg p1 Q2p (s_Kg p1 Q3k o0).2).2).2)) := by
  simp only [s_Kg, s_Kk, aW.dec, Qnx, Bool.and_assoc, Bool.and_left_comm, Bool.and_comm, Bool.and_self_left]
def c_Kk (p1 : Val) (o0 : au) : En := .call 275 [.bx 0 0, .agg (Val.cells p1)] [⟨1, 0, false, (au.cells o0)⟩]
def r_Kk (_p1 : Val) (_o0 : au) (q0 : aW) (q1 : au) : Rs := .ret (.agg (aW.cells q0)) [⟨1, 0, false, (au.cells q1)⟩]
def a_Kk (p1 : Val) (o0 : au) : Rs := r_Kk p1 o0 (s_Kk p1 o0).1 (s_Kk p1 o0).2
def H_Kk (p1 : Val) : Prop := Val.Sm 1000000000 p1
theorem Q13o (p1 : Val) (_o0 : au) (H : H_Kk p1) : (H_Kg p1) ∧ True := by
  repeat' with_reducible apply And.intro
  all_goals first | exact True.intro | exact H | exact Qp5 (Qp H _)
theorem t_Kk (p1 : Val) (o0 : au) (H : H_Kk p1) : Q5 G (c_Kk p1 o0) (a_Kk p1 o0) := by
 unfold a_Kk
 rw [e_Kk]
 exact Q6 (fn := Ir.Kk) (by kernel_rfl) (h := [⟨1, 0, false, (au.cells o0)⟩]) (vw := []) VOK.nil [] [aN (t_Kg p1 Q3k o0 (Q13o p1 o0 H).1), aN (t_Kg p1 Q2p (s_Kg p1 Q3k o0).2 (Q13o p1 o0 H).1), aN (t_Kg p1 Q42 (s_Kg p1 Q2p (s_Kg p1 Q3k o0).2).2 (Q13o p1 o0 H).1)] (by kernel_rfl)
def s_Ki (p1 : Val) (o0 : au) : bA × au := ((bA.dec p1).1, ft o0 (bA.dec p1).2)
theorem e_Ki (p1 : Val) (o0 : au) : s_Ki p1 o0 = (((bA.mk (s_Kg p1 Q35 (s_Ko p1 o0).2).1 (s_Kg p1 Q38 (s_Kg p1 Q35 (s_Ko p1 o0).2).2).1 (s_Kg p1 Q39 (s_Kg p1 Q38 (s_Kg p1 Q35 (s_Ko p1 o0).2).2).2).1 (s_Kg p1 Q30 (s_Kg p1 Q39 (s_Kg p1 Q38 (s_Kg p1 Q35 (s_Ko p1 o0).2).2).2).2).1), (s_Kg p1 Q30 (s_Kg p1 Q39 (s_Kg p1 Q38 (s_Kg p1 Q35 (s_Ko p1 o0).2).2).2).2).2)) := by
  simp only [s_Ko, s_Kg, s_Ki, bA.dec, Qnx, Bool.and_assoc, Bool.and_left_comm, Bool.and_comm, Bool.and_self_left]
def c_Ki (p1 : Val) (o0 : au) : En := .call 277 [.bx 0 0, .agg (Val.cells p1)] [⟨1, 0, false, (au.cells o0)⟩]
def r_Ki (_p1 : Val) (_o0 : au) (q0 : bA) (q1 : au) : Rs := .ret (.agg (bA.cells q0)) [⟨1, 0, false, (au.cells q1)⟩]
def a_Ki (p1 : Val) (o0 : au) : Rs := r_Ki p1 o0 (s_Ki p1 o0).1 (s_Ki p1 o0).2
def H_Ki (p1 : Val) : Prop := Val.Sm 1000000000 p1
theorem Qxq (p1 : Val) (_o0 : au) (H : H_Ki p1) : (H_Kg p1) ∧ True := by
  repeat' with_reducible apply And.intro
  all_goals first | exact True.intro | exact H | exact Qp5 (Qp H _)
theorem t_Ki (p1 : Val) (o0 : au) (H : H_Ki p1) : Q5 G (c_Ki p1 o0) (a_Ki p1 o0) := by
 unfold a_Ki
 rw [e_Ki]
 exact Q6 (fn := Ir.Ki) (by kernel_rfl) (h := [⟨1, 0, false, (au.cells o0)⟩]) (vw := []) VOK.nil [] [aN (t_Ko p1 o0), aN (t_Kg p1 Q35 (s_Ko p1 o0).2 (Qxq p1 o0 H).1), aN (t_Kg p1 Q38 (s_Kg p1 Q35 (s_Ko p1 o0).2).2 (Qxq p1 o0 H).1), aN (t_Kg p1 Q39 (s_Kg p1 Q38 (s_Kg p1 Q35 (s_Ko p1 o0).2).2).2 (Qxq p1 o0 H).1), aN (t_Kg p1 Q30 (s_Kg p1 Q39 (s_Kg p1 Q38 (s_Kg p1 Q35 (s_Ko p1 o0).2).2).2).2 (Qxq p1 o0 H).1)] (by kernel_rfl)
def Q7k (p1 : Val) (p2 : BA) (o0 : au) : List Val → Nat → Bool → (List bA) → Bool × (List bA)
 | [], _i0, ah, ay =>
  (ah, ay)
 | x0 :: r0, i0, ah, ay =>
  Q7k p1 p2 o0 r0 (i0 + 1) (s_Ki x0 (au.mk ah)).2.bG (ay ++ [(s_Ki x0 (au.mk ah)).1])
def Q1jg (p1 : Val) (p2 : BA) (o0 : au) (i0 : Nat) (_ah : Bool) (ay : List bA) : List PV :=
  [.un, .un, .un, .fn 277 [.bx 0 0] []] ++ nuns 5 ++ [.ms 1 4 0 (List.length ay)] ++ nuns 6 ++ [.sl (Val.rows (s_Kd p1 p2 4 o0).1.list), iN ((List.length (s_Kd p1 p2 4 o0).1.list) : Int), iN (i0 : Int)] ++ nuns 11
def Q14w (_p1 : Val) (_p2 : BA) (_o0 : au) (_i0 : Nat) (ah : Bool) (ay : List bA) : List Ob :=
  [⟨1, 0, false, [.bool ah]⟩, ⟨4, 0, true, (bA.rows ay).flatten⟩]
def Qvi (p1 : Val) (p2 : BA) (o0 : au) (i0 : Nat) (ah : Bool) (ay : List bA) : En := .loop 1 Ir.Qqy Ir.Q1v7 (Q1jg p1 p2 o0 i0 ah ay) (Q14w p1 p2 o0 i0 ah ay)
def Q10i (_p1 : Val) (_p2 : BA) (_o0 : au) (q0 : Bool) (q1 : List bA) (z : Nat → PV) (_zo : Nat → List PV) : St :=
  ⟨zr z 0 9 ++ [.ms 1 4 0 (List.length q1)] ++ zr z 10 20, [(0, ⟨1, 0, false, [.bool q0]⟩), (1, ⟨4, 0, true, (bA.rows q1).flatten⟩)], 66⟩
theorem Q1ge (p1 : Val) (p2 : BA) (o0 : au) (i0 : Nat) (ah : Bool) (ay : List bA) : VOK (Go.Pv.look (number 0 (Q14w p1 p2 o0 i0 ah ay))) [(1, bA.rows ay)] := (VOK.cons (show Seen _ _ from Q3r (ob := ⟨4, 0, true, (bA.rows ay).flatten⟩) (bA.Q8 ay 4 rfl)) VOK.nil)
def Qx3 (p1 : Val) (p2 : BA) (o0 : au) (e : En) (q : Bool × (List bA)) : Prop := ∃ z zo, Q5 G e (.st (.exit 0) (Q10i p1 p2 o0 q.1 q.2 z zo))
theorem Q10a (p1 : Val) (p2 : BA) (o0 : au) {e e' : En} (h : ∀ r, Q5 G e r → Q5 G e' r) : ∀ q, Qx3 p1 p2 o0 e q → Qx3 p1 p2 o0 e' q
  | _, ⟨z, zo, hz⟩ => ⟨z, zo, h _ hz⟩
def Qk2 (p1 : Val) (p2 : BA) (o0 : au) : Prop := (List.length (s_Kd p1 p2 4 o0).1.list ≤ 137438953472) ∧ (∀ x0 ∈ (s_Kd p1 p2 4 o0).1.list, H_Ki x0) ∧ True
def Q10s (p1 : Val) (p2 : BA) (o0 : au) (i0 : Nat) (_ah : Bool) (_ay : List bA) : List PV :=
  [.un, .un, .un, .fn 277 [.bx 0 0] []] ++ nuns 12 ++ [.sl (Val.rows (s_Kd p1 p2 4 o0).1.list), iN ((List.length (s_Kd p1 p2 4 o0).1.list) : Int), iN (i0 : Int), .bool false]
def Qst (_p1 : Val) (_p2 : BA) (_o0 : au) (_i0 : Nat) (_ah : Bool) (_ay : List bA) : List (Nat × List PV) :=
  []
theorem Q1j5 (p1 : Val) (p2 : BA) (o0 : au) (_H : Qk2 p1 p2 o0) (i0 : Nat) (ah : Bool) (ay : List bA) (_aR : List.length ay ≤ i0) (bF : (decide ((i0 : Int) < ((List.length (s_Kd p1 p2 4 o0).1.list) : Int))) = false) : Qx3 p1 p2 o0 (Qvi p1 p2 o0 i0 ah ay) (ah, ay) := by
 exact ⟨(envF (Q10s p1 p2 o0 i0 ah ay)), (zoF (Qst p1 p2 o0 i0 ah ay)), Qg (Q1ge p1 p2 o0 i0 ah ay) (x := ((.exit 0), Q10i p1 p2 o0 ah ay (envF (Q10s p1 p2 o0 i0 ah ay)) (zoF (Qst p1 p2 o0 i0 ah ay)))) [hB 0 bF] [] (by kernel_rfl)⟩
theorem Q1hp (p1 : Val) (p2 : BA) (o0 : au) (H : Qk2 p1 p2 o0) (x0 : Val) (i0 : Nat) (ah : Bool) (ay : List bA) (bH : (s_Kd p1 p2 4 o0).1.list[i0]? = some x0) (bT : i0 < List.length (s_Kd p1 p2 4 o0).1.list) (aR : List.length ay ≤ i0) (bF : (decide ((i0 : Int) < ((List.length (s_Kd p1 p2 4 o0).1.list) : Int))) = true) {r : Rs} (hr : Q5 G (Qvi p1 p2 o0 (i0 + 1) (s_Ki x0 (au.mk ah)).2.bG (ay ++ [(s_Ki x0 (au.mk ah)).1])) r) : Q5 G (Qvi p1 p2 o0 i0 ah ay) r := by
 have hB0 := H.1
 exact Qc (Q1ge p1 p2 o0 i0 ah ay) [hB 0 bF, hP 0 (Q1f 5 _ i0 _ (Val.Qb bH) rfl), hA 8 1 578 642 4 32 0 0 true bA.Q7 bA.Q1l ay (s_Ki x0 (au.mk ah)).1 (bA.Qt ay) rfl rfl (by omega), hS 0 true (bA.Q8 (ay ++ [(s_Ki x0 (au.mk ah)).1]) 4 rfl), hP 1 (Q26 i0 (by omega))] [aN (t_Ki x0 (au.mk ah) (H.2.1 x0 (Q15 bH)))] hr (by kernel_rfl)
theorem Q182 (p1 : Val) (p2 : BA) (o0 : au) (H : Qk2 p1 p2 o0) : ∀ (r0 : List Val) (i0 : Nat) (ah : Bool) (ay : List bA), List.drop i0 (s_Kd p1 p2 4 o0).1.list = r0 → List.length ay ≤ i0 → Qx3 p1 p2 o0 (Qvi p1 p2 o0 i0 ah ay) (Q7k p1 p2 o0 r0 i0 ah ay)
 | [], i0, ah, ay, hd, aR => by
  have bF : (decide ((i0 : Int) < ((List.length (s_Kd p1 p2 4 o0).1.list) : Int))) = false := by have := Q1n hd; simp; omega
  rw [Q7k]
  exact Q1j5 p1 p2 o0 H i0 ah ay aR bF
 | x0 :: r0, i0, ah, ay, hd, aR => by
  obtain ⟨bH, bT, hd'⟩ := Q1o hd
  have bF : (decide ((i0 : Int) < ((List.length (s_Kd p1 p2 4 o0).1.list) : Int))) = true := by simp; omega
  rw [Q7k]
  exact Q10a p1 p2 o0 (fun r hr => Q1hp p1 p2 o0 H x0 i0 ah ay bH bT aR bF hr) _ (Q182 p1 p2 o0 H r0 _ _ _ hd' (by first | omega | (simp; omega)))
def s_Kz (p1 : Val) (p2 : BA) (o0 : au) : List bA × au := ((dE bA.dec p1 p2).1, ft o0 (isM p1 && (dE bA.dec p1 p2).2))
theorem Q1i1 (p1 : Val) (p2 : BA) (o0 : au) : ∀ (l : List Val) (i : Nat) (b : Bool) (a : List bA), Q7k p1 p2 o0 l i b a = (b || !(l.all fun x => (bA.dec x).2), a ++ l.map (fun x => (bA.dec x).1))
  | [], _, b, a => by rw [Q7k]; simp
  | x :: l, i, b, a => by
    rw [Q7k]
    refine (Q1i1 p1 p2 o0 l (i + 1) (b || !(bA.dec x).2) (a ++ [(bA.dec x).1])).trans ?_
    simp only [List.append_assoc, List.singleton_append, List.map_cons, List.all_cons, Bool.not_and, Bool.or_assoc]
theorem e_Kz (p1 : Val) (p2 : BA) (o0 : au) : s_Kz p1 p2 o0 = (((Q7k p1 p2 o0 (s_Kd p1 p2 4 o0).1.list 0 (s_Kd p1 p2 4 o0).2.bG []).2, (au.mk (Q7k p1 p2 o0 (s_Kd p1 p2 4 o0).1.list 0 (s_Kd p1 p2 4 o0).2.bG []).1))) := by
  rw [Q1i1]
  unfold s_Kd s_Kz
  simp only [Qab, Q5l]
  refine Prod.ext rfl ?_
  rw [Q9t o0.bG (isM p1) _ _ _ (Qyk (prt p1 p2)), Q6n]
  rfl
def c_Kz (p1 : Val) (p2 : BA) (o0 : au) : En := .call 276 [.bx 0 0, .agg (Val.cells p1), .str p2, .fn 277 [.bx 0 0] []] [⟨1, 0, false, (au.cells o0)⟩]
def r_Kz (_p1 : Val) (_p2 : BA) (_o0 : au) (q0 : List bA) (q1 : au) : Rs := .ret (.sl (bA.rows q0)) [⟨1, 0, false, (au.cells q1)⟩]
def a_Kz (p1 : Val) (p2 : BA) (o0 : au) : Rs := r_Kz p1 p2 o0 (s_Kz p1 p2 o0).1 (s_Kz p1 p2 o0).2
def H_Kz (p1 : Val) : Prop := Val.Sm 1000000000 p1
theorem Q1h5 (p1 : Val) (p2 : BA) (o0 : au) (H : H_Kz p1) : (H_Kd p1) ∧ (Qk2 p1 p2 o0) ∧ True := by
  have hl := Q69 (Qp H p2)
  refine ⟨H, ?_, trivial⟩
  unfold Qk2 s_Kd
  simp only [Qab]
  exact ⟨Nat.le_trans hl.1 (Nat.le_of_ble_eq_true rfl), hl.2, trivial⟩
theorem t_Kz (p1 : Val) (p2 : BA) (o0 : au) (H : H_Kz p1) : Q5 G (c_Kz p1 p2 o0) (a_Kz p1 p2 o0) := by
 unfold a_Kz
 rw [e_Kz]
 have hl0 := Q182 p1 p2 o0 ((Q1h5 p1 p2 o0 H).2.1) (s_Kd p1 p2 4 o0).1.list 0 (s_Kd p1 p2 4 o0).2.bG [] (by simp) (by simp)
 obtain ⟨z0, eG, hl0⟩ := hl0
 exact Q6 (fn := Ir.Kz) (by kernel_rfl) (h := [⟨1, 0, false, (au.cells o0)⟩]) (vw := []) VOK.nil [hP 8 (Qq _ _ (Val.Q7 (s_Kd p1 p2 4 o0).1.list)), hS 0 true (bA.Q8 (Q7k p1 p2 o0 (s_Kd p1 p2 4 o0).1.list 0 (s_Kd p1 p2 4 o0).2.bG []).2 4 rfl), hQ (bA.Q7 (Q7k p1 p2 o0 (s_Kd p1 p2 4 o0).1.list 0 (s_Kd p1 p2 4 o0).2.bG []).2).symm] [aN (t_Kd p1 p2 4 o0 (Q1h5 p1 p2 o0 H).1), aV [(1, bA.rows (Q7k p1 p2 o0 (s_Kd p1 p2 4 o0).1.list 0 (s_Kd p1 p2 4 o0).2.bG []).2)] hl0] (by kernel_rfl)
def s_Kb (p1 : Val) (o0 : au) : aK × au := ((aK.dec p1).1, ft o0 (aK.dec p1).2)
theorem e_Kb (p1 : Val) (o0 : au) : s_Kb p1 o0 = (((aK.mk (s_Kn p1 Qi (s_Ko p1 o0).2).1 (s_Kn p1 Qr (s_Kn p1 Qi (s_Ko p1 o0).2).2).1 (s_Kk (s_Kp p1 Qe (s_Kn p1 Qr (s_Kn p1 Qi (s_Ko p1 o0).2).2).2).1 (s_Kp p1 Qe (s_Kn p1 Qr (s_Kn p1 Qi (s_Ko p1 o0).2).2).2).2).1 (s_Kk (s_Kp p1 Q18 (s_Kk (s_Kp p1 Qe (s_Kn p1 Qr (s_Kn p1 Qi (s_Ko p1 o0).2).2).2).1 (s_Kp p1 Qe (s_Kn p1 Qr (s_Kn p1 Qi (s_Ko p1 o0).2).2).2).2).2).1 (s_Kp p1 Q18 (s_Kk (s_Kp p1 Qe (s_Kn p1 Qr (s_Kn p1 Qi (s_Ko p1 o0).2).2).2).1 (s_Kp p1 Qe (s_Kn p1 Qr (s_Kn p1 Qi (s_Ko p1 o0).2).2).2).2).2).2).1 (s_Kz p1 Q2a (s_Kk (s_Kp p1 Q18 (s_Kk (s_Kp p1 Qe (s_Kn p1 Qr (s_Kn p1 Qi (s_Ko p1 o0).2).2).2).1 (s_Kp p1 Qe (s_Kn p1 Qr (s_Kn p1 Qi (s_Ko p1 o0).2).2).2).2).2).1 (s_Kp p1 Q18 (s_Kk (s_Kp p1 Qe (s_Kn p1 Qr (s_Kn p1 Qi (s_Ko p1 o0).2).2).2).1 (s_Kp p1 Qe (s_Kn p1 Qr (s_Kn p1 Qi (s_Ko p1 o0).2).2).2).2).2).2).2).1 (s_Kz p1 Qh (s_Kz p1 Q2a (s_Kk (s_Kp p1 Q18 (s_Kk (s_Kp p1 Qe (s_Kn p1 Qr (s_Kn p1 Qi (s_Ko p1 o0).2).2).2).1 (s_Kp p1 Qe (s_Kn p1 Qr (s_Kn p1 Qi (s_Ko p1 o0).2).2).2).2).2).1 (s_Kp p1 Q18 (s_Kk (s_Kp p1 Qe (s_Kn p1 Qr (s_Kn p1 Qi (s_Ko p1 o0).2).2).2).1 (s_Kp p1 Qe (s_Kn p1 Qr (s_Kn p1 Qi (s_Ko p1 o0).2).2).2).2).2).2).2).2).1 (s_Kz p1 Q1j (s_Kz p1 Qh (s_Kz p1 Q2a (s_Kk (s_Kp p1 Q18 (s_Kk (s_Kp p1 Qe (s_Kn p1 Qr (s_Kn p1 Qi (s_Ko p1 o0).2).2).2).1 (s_Kp p1 Qe (s_Kn p1 Qr (s_Kn p1 Qi (s_Ko p1 o0).2).2).2).2).2).1 (s_Kp p1 Q18 (s_Kk (s_Kp p1 Qe (s_Kn p1 Qr (s_Kn p1 Qi (s_Ko p1 o0).2).2).2).1 (s_Kp p1 Qe (s_Kn p1 Qr (s_Kn p1 Qi (s_Ko p1 o0).2).2).2).2).2).2).2).2).2).1), (s_Kz p1 Q1j (s_Kz p1 Qh (s_Kz p1 Q2a (s_Kk (s_Kp p1 Q18 (s_Kk (s_Kp p1 Qe (s_Kn p1 Qr (s_Kn p1 Qi (s_Ko p1 o0).2).2).2).1 (s_Kp p1 Qe (s_Kn p1 Qr (s_Kn p1 Qi (s_Ko p1 o0).2).2).2).2).2).1 (s_Kp p1 Q18 (s_Kk (s_Kp p1 Qe (s_Kn p1 Qr (s_Kn p1 Qi (s_Ko p1 o0).2).2).2).1 (s_Kp p1 Qe (s_Kn p1 Qr (s_Kn p1 Qi (s_Ko p1 o0).2).2).2).2).2).2).2).2).2).2)) := by
  simp only [s_Ko, s_Kn, s_Kp, s_Kk, s_Kz, s_Kb, aK.dec, aW.sub1, aW.sub2, Qnx, Bool.and_assoc, Bool.and_left_comm, Bool.and_comm, Bool.and_self_left]
def c_Kb (p1 : Val) (o0 : au) : En := .call 242 [.bx 0 0, .agg (Val.cells p1)] [⟨1, 0, false, (au.cells o0)⟩]
def r_Kb (_p1 : Val) (_o0 : au) (q0 : aK) (q1 : au) : Rs := .ret (.agg (aK.cells q0)) [⟨1, 0, false, (au.cells q1)⟩]
def a_Kb (p1 : Val) (o0 : au) : Rs := r_Kb p1 o0 (s_Kb p1 o0).1 (s_Kb p1 o0).2
def H_Kb (p1 : Val) : Prop := Val.Sm 1000000000 p1
theorem Q9z (p1 : Val) (o0 : au) (H : H_Kb p1) : (H_Kn p1) ∧ (H_Kp p1) ∧ (H_Kk (s_Kp p1 Qe (s_Kn p1 Qr (s_Kn p1 Qi (s_Ko p1 o0).2).2).2).1) ∧ (H_Kk (s_Kp p1 Q18 (s_Kk (s_Kp p1 Qe (s_Kn p1 Qr (s_Kn p1 Qi (s_Ko p1 o0).2).2).2).1 (s_Kp p1 Qe (s_Kn p1 Qr (s_Kn p1 Qi (s_Ko p1 o0).2).2).2).2).2).1) ∧ (H_Kz p1) ∧ True := by
  repeat' with_reducible apply And.intro
  all_goals first | exact True.intro | exact H | exact Qp5 (Qp H _)
theorem t_Kb (p1 : Val) (o0 : au) (H : H_Kb p1) : Q5 G (c_Kb p1 o0) (a_Kb p1 o0) := by
 unfold a_Kb
 rw [e_Kb]
 exact Q6 (fn := Ir.Kb) (by kernel_rfl) (h := [⟨1, 0, false, (au.cells o0)⟩]) (vw := []) VOK.nil [] [aN (t_Ko p1 o0), aN (t_Kn p1 Qi (s_Ko p1 o0).2 (Q9z p1 o0 H).1), aN (t_Kn p1 Qr (s_Kn p1 Qi (s_Ko p1 o0).2).2 (Q9z p1 o0 H).1), aN (t_Kp p1 Qe (s_Kn p1 Qr (s_Kn p1 Qi (s_Ko p1 o0).2).2).2 (Q9z p1 o0 H).2.1), aN (t_Kk (s_Kp p1 Qe (s_Kn p1 Qr (s_Kn p1 Qi (s_Ko p1 o0).2).2).2).1 (s_Kp p1 Qe (s_Kn p1 Qr (s_Kn p1 Qi (s_Ko p1 o0).2).2).2).2 (Q9z p1 o0 H).2.2.1), aN (t_Kp p1 Q18 (s_Kk (s_Kp p1 Qe (s_Kn p1 Qr (s_Kn p1 Qi (s_Ko p1 o0).2).2).2).1 (s_Kp p1 Qe (s_Kn p1 Qr (s_Kn p1 Qi (s_Ko p1 o0).2).2).2).2).2 (Q9z p1 o0 H).2.1), aN (t_Kk (s_Kp p1 Q18 (s_Kk (s_Kp p1 Qe (s_Kn p1 Qr (s_Kn p1 Qi (s_Ko p1 o0).2).2).2).1 (s_Kp p1 Qe (s_Kn p1 Qr (s_Kn p1 Qi (s_Ko p1 o0).2).2).2).2).2).1 (s_Kp p1 Q18 (s_Kk (s_Kp p1 Qe (s_Kn p1 Qr (s_Kn p1 Qi (s_Ko p1 o0).2).2).2).1 (s_Kp p1 Qe (s_Kn p1 Qr (s_Kn p1 Qi (s_Ko p1 o0).2).2).2).2).2).2 (Q9z p1 o0 H).2.2.2.1), aN (t_Kz p1 Q2a (s_Kk (s_Kp p1 Q18 (s_Kk (s_Kp p1 Qe (s_Kn p1 Qr (s_Kn p1 Qi (s_Ko p1 o0).2).2).2).1 (s_Kp p1 Qe (s_Kn p1 Qr (s_Kn p1 Qi (s_Ko p1 o0).2).2).2).2).2).1 (s_Kp p1 Q18 (s_Kk (s_Kp p1 Qe (s_Kn p1 Qr (s_Kn p1 Qi (s_Ko p1 o0).2).2).2).1 (s_Kp p1 Qe (s_Kn p1 Qr (s_Kn p1 Qi (s_Ko p1 o0).2).2).2).2).2).2).2 (Q9z p1 o0 H).2.2.2.2.1), aN (t_Kz p1 Qh (s_Kz p1 Q2a (s_Kk (s_Kp p1 Q18 (s_Kk (s_Kp p1 Qe (s_Kn p1 Qr (s_Kn p1 Qi (s_Ko p1 o0).2).2).2).1 (s_Kp p1 Qe (s_Kn p1 Qr (s_Kn p1 Qi (s_Ko p1 o0).2).2).2).2).2).1 (s_Kp p1 Q18 (s_Kk (s_Kp p1 Qe (s_Kn p1 Qr (s_Kn p1 Qi (s_Ko p1 o0).2).2).2).1 (s_Kp p1 Qe (s_Kn p1 Qr (s_Kn p1 Qi (s_Ko p1 o0).2).2).2).2).2).2).2).2 (Q9z p1 o0 H).2.2.2.2.1), aN (t_Kz p1 Q1j (s_Kz p1 Qh (s_Kz p1 Q2a (s_Kk (s_Kp p1 Q18 (s_Kk (s_Kp p1 Qe (s_Kn p1 Qr (s_Kn p1 Qi (s_Ko p1 o0).2).2).2).1 (s_Kp p1 Qe (s_Kn p1 Qr (s_Kn p1 Qi (s_Ko p1 o0).2).2).2).2).2).1 (s_Kp p1 Q18 (s_Kk (s_Kp p1 Qe (s_Kn p1 Qr (s_Kn p1 Qi (s_Ko p1 o0).2).2).2).1 (s_Kp p1 Qe (s_Kn p1 Qr (s_Kn p1 Qi (s_Ko p1 o0).2).2).2).2).2).2).2).2).2 (Q9z p1 o0 H).2.2.2.2.1)] (by kernel_rfl)
def Q7e (p1 : Val) (p2 : BA) (o0 : au) : List Val → Nat → Bool → (List aK) → Bool × (List aK)
 | [], _i0, ah, ay =>
  (ah, ay)
 | x0 :: r0, i0, ah, ay =>
  Q7e p1 p2 o0 r0 (i0 + 1) (s_Kb x0 (au.mk ah)).2.bG (ay ++ [(s_Kb x0 (au.mk ah)).1])
def Q1ja (p1 : Val) (p2 : BA) (o0 : au) (i0 : Nat) (_ah : Bool) (ay : List aK) : List PV :=
  [.un, .un, .un, .fn 242 [.bx 0 0] []] ++ nuns 5 ++ [.ms 1 11 0 (List.length ay)] ++ nuns 6 ++ [.sl (Val.rows (s_Kd p1 p2 4 o0).1.list), iN ((List.length (s_Kd p1 p2 4 o0).1.list) : Int), iN (i0 : Int)] ++ nuns 11
def Q14q (_p1 : Val) (_p2 : BA) (_o0 : au) (_i0 : Nat) (ah : Bool) (ay : List aK) : List Ob :=
  [⟨1, 0, false, [.bool ah]⟩, ⟨11, 0, true, (aK.rows ay).flatten⟩]
def Qvc (p1 : Val) (p2 : BA) (o0 : au) (i0 : Nat) (ah : Bool) (ay : List aK) : En := .loop 1 Ir.Qqs Ir.Q1v1 (Q1ja p1 p2 o0 i0 ah ay) (Q14q p1 p2 o0 i0 ah ay)
def Q10c (_p1 : Val) (_p2 : BA) (_o0 : au) (q0 : Bool) (q1 : List aK) (z : Nat → PV) (_zo : Nat → List PV) : St :=
  ⟨zr z 0 9 ++ [.ms 1 11 0 (List.length q1)] ++ zr z 10 20, [(0, ⟨1, 0, false, [.bool q0]⟩), (1, ⟨11, 0, true, (aK.rows q1).flatten⟩)], 66⟩
theorem Q1g8 (p1 : Val) (p2 : BA) (o0 : au) (i0 : Nat) (ah : Bool) (ay : List aK) : VOK (Go.Pv.look (number 0 (Q14q p1 p2 o0 i0 ah ay))) [(1, aK.rows ay)] := (VOK.cons (show Seen _ _ from Q3r (ob := ⟨11, 0, true, (aK.rows ay).flatten⟩) (aK.Q8 ay 11 rfl)) VOK.nil)
def Qwx (p1 : Val) (p2 : BA) (o0 : au) (e : En) (q : Bool × (List aK)) : Prop := ∃ z zo, Q5 G e (.st (.exit 0) (Q10c p1 p2 o0 q.1 q.2 z zo))
theorem Q104 (p1 : Val) (p2 : BA) (o0 : au) {e e' : En} (h : ∀ r, Q5 G e r → Q5 G e' r) : ∀ q, Qwx p1 p2 o0 e q → Qwx p1 p2 o0 e' q
  | _, ⟨z, zo, hz⟩ => ⟨z, zo, h _ hz⟩
def Qjw (p1 : Val) (p2 : BA) (o0 : au) : Prop := (List.length (s_Kd p1 p2 4 o0).1.list ≤ 137438953472) ∧ (∀ x0 ∈ (s_Kd p1 p2 4 o0).1.list, H_Kb x0) ∧ True
def Q10m (p1 : Val) (p2 : BA) (o0 : au) (i0 : Nat) (_ah : Bool) (_ay : List aK) : List PV :=
  [.un, .un, .un, .fn 242 [.bx 0 0] []] ++ nuns 12 ++ [.sl (Val.rows (s_Kd p1 p2 4 o0).1.list), iN ((List.length (s_Kd p1 p2 4 o0).1.list) : Int), iN (i0 : Int), .bool false]
def Qsn (_p1 : Val) (_p2 : BA) (_o0 : au) (_i0 : Nat) (_ah : Bool) (_ay : List aK) : List (Nat × List PV) :=
  []
theorem Q1iz (p1 : Val) (p2 : BA) (o0 : au) (_H : Qjw p1 p2 o0) (i0 : Nat) (ah : Bool) (ay : List aK) (_aR : List.length ay ≤ i0) (bF : (decide ((i0 : Int) < ((List.length (s_Kd p1 p2 4 o0).1.list) : Int))) = false) : Qwx p1 p2 o0 (Qvc p1 p2 o0 i0 ah ay) (ah, ay) := by
 exact ⟨(envF (Q10m p1 p2 o0 i0 ah ay)), (zoF (Qsn p1 p2 o0 i0 ah ay)), Qg (Q1g8 p1 p2 o0 i0 ah ay) (x := ((.exit 0), Q10c p1 p2 o0 ah ay (envF (Q10m p1 p2 o0 i0 ah ay)) (zoF (Qsn p1 p2 o0 i0 ah ay)))) [hB 0 bF] [] (by kernel_rfl)⟩
theorem Q1hj (p1 : Val) (p2 : BA) (o0 : au) (H : Qjw p1 p2 o0) (x0 : Val) (i0 : Nat) (ah : Bool) (ay : List aK) (bH : (s_Kd p1 p2 4 o0).1.list[i0]? = some x0) (bT : i0 < List.length (s_Kd p1 p2 4 o0).1.list) (aR : List.length ay ≤ i0) (bF : (decide ((i0 : Int) < ((List.length (s_Kd p1 p2 4 o0).1.list) : Int))) = true) {r : Rs} (hr : Q5 G (Qvc p1 p2 o0 (i0 + 1) (s_Kb x0 (au.mk ah)).2.bG (ay ++ [(s_Kb x0 (au.mk ah)).1])) r) : Q5 G (Qvc p1 p2 o0 i0 ah ay) r := by
 have hB0 := H.1
 exact Qc (Q1g8 p1 p2 o0 i0 ah ay) [hB 0 bF, hP 0 (Q1f 5 _ i0 _ (Val.Qb bH) rfl), hA 8 1 578 642 11 152 0 0 true aK.Q7 aK.Q1l ay (s_Kb x0 (au.mk ah)).1 (aK.Qt ay) rfl rfl (by omega), hS 0 true (aK.Q8 (ay ++ [(s_Kb x0 (au.mk ah)).1]) 11 rfl), hP 1 (Q26 i0 (by omega))] [aN (t_Kb x0 (au.mk ah) (H.2.1 x0 (Q15 bH)))] hr (by kernel_rfl)
theorem Q17w (p1 : Val) (p2 : BA) (o0 : au) (H : Qjw p1 p2 o0) : ∀ (r0 : List Val) (i0 : Nat) (ah : Bool) (ay : List aK), List.drop i0 (s_Kd p1 p2 4 o0).1.list = r0 → List.length ay ≤ i0 → Qwx p1 p2 o0 (Qvc p1 p2 o0 i0 ah ay) (Q7e p1 p2 o0 r0 i0 ah ay)
 | [], i0, ah, ay, hd, aR => by
  have bF : (decide ((i0 : Int) < ((List.length (s_Kd p1 p2 4 o0).1.list) : Int))) = false := by have := Q1n hd; simp; omega
  rw [Q7e]
  exact Q1iz p1 p2 o0 H i0 ah ay aR bF
 | x0 :: r0, i0, ah, ay, hd, aR => by
  obtain ⟨bH, bT, hd'⟩ := Q1o hd
  have bF : (decide ((i0 : Int) < ((List.length (s_Kd p1 p2 4 o0).1.list) : Int))) = true := by simp; omega
  rw [Q7e]
  exact Q104 p1 p2 o0 (fun r hr => Q1hj p1 p2 o0 H x0 i0 ah ay bH bT aR bF hr) _ (Q17w p1 p2 o0 H r0 _ _ _ hd' (by first | omega | (simp; omega)))
def s_Kt (p1 : Val) (p2 : BA) (o0 : au) : List aK × au := ((dE aK.dec p1 p2).1, ft o0 (isM p1 && (dE aK.dec p1 p2).2))
theorem Q1hv (p1 : Val) (p2 : BA) (o0 : au) : ∀ (l : List Val) (i : Nat) (b : Bool) (a : List aK), Q7e p1 p2 o0 l i b a = (b || !(l.all fun x => (aK.dec x).2), a ++ l.map (fun x => (aK.dec x).1))
  | [], _, b, a => by rw [Q7e]; simp
  | x :: l, i, b, a => by
    rw [Q7e]
    refine (Q1hv p1 p2 o0 l (i + 1) (b || !(aK.dec x).2) (a ++ [(aK.dec x).1])).trans ?_
    simp only [List.append_assoc, List.singleton_append, List.map_cons, List.all_cons, Bool.not_and, Bool.or_assoc]
theorem e_Kt (p1 : Val) (p2 : BA) (o0 : au) : s_Kt p1 p2 o0 = (((Q7e p1 p2 o0 (s_Kd p1 p2 4 o0).1.list 0 (s_Kd p1 p2 4 o0).2.bG []).2, (au.mk (Q7e p1 p2 o0 (s_Kd p1 p2 4 o0).1.list 0 (s_Kd p1 p2 4 o0).2.bG []).1))) := by
  rw [Q1hv]
  unfold s_Kd s_Kt
  simp only [Qab, Q5l]
  refine Prod.ext rfl ?_
  rw [Q9t o0.bG (isM p1) _ _ _ (Qyk (prt p1 p2)), Q6n]
  rfl
def c_Kt (p1 : Val) (p2 : BA) (o0 : au) : En := .call 241 [.bx 0 0, .agg (Val.cells p1), .str p2, .fn 242 [.bx 0 0] []] [⟨1, 0, false, (au.cells o0)⟩]
def r_Kt (_p1 : Val) (_p2 : BA) (_o0 : au) (q0 : List aK) (q1 : au) : Rs := .ret (.sl (aK.rows q0)) [⟨1, 0, false, (au.cells q1)⟩]
def a_Kt (p1 : Val) (p2 : BA) (o0 : au) : Rs := r_Kt p1 p2 o0 (s_Kt p1 p2 o0).1 (s_Kt p1 p2 o0).2
def H_Kt (p1 : Val) : Prop := Val.Sm 1000000000 p1
theorem Q1gz (p1 : Val) (p2 : BA) (o0 : au) (H : H_Kt p1) : (H_Kd p1) ∧ (Qjw p1 p2 o0) ∧ True := by
  have hl := Q69 (Qp H p2)
  refine ⟨H, ?_, trivial⟩
  unfold Qjw s_Kd
  simp only [Qab]
  exact ⟨Nat.le_trans hl.1 (Nat.le_of_ble_eq_true rfl), hl.2, trivial⟩
theorem t_Kt (p1 : Val) (p2 : BA) (o0 : au) (H : H_Kt p1) : Q5 G (c_Kt p1 p2 o0) (a_Kt p1 p2 o0) := by
 unfold a_Kt
 rw [e_Kt]
 have hl0 := Q17w p1 p2 o0 ((Q1gz p1 p2 o0 H).2.1) (s_Kd p1 p2 4 o0).1.list 0 (s_Kd p1 p2 4 o0).2.bG [] (by simp) (by simp)
 obtain ⟨z0, eG, hl0⟩ := hl0
 exact Q6 (fn := Ir.Kt) (by kernel_rfl) (h := [⟨1, 0, false, (au.cells o0)⟩]) (vw := []) VOK.nil [hP 8 (Qq _ _ (Val.Q7 (s_Kd p1 p2 4 o0).1.list)), hS 0 true (aK.Q8 (Q7e p1 p2 o0 (s_Kd p1 p2 4 o0).1.list 0 (s_Kd p1 p2 4 o0).2.bG []).2 11 rfl), hQ (aK.Q7 (Q7e p1 p2 o0 (s_Kd p1 p2 4 o0).1.list 0 (s_Kd p1 p2 4 o0).2.bG []).2).symm] [aN (t_Kd p1 p2 4 o0 (Q1gz p1 p2 o0 H).1), aV [(1, aK.rows (Q7e p1 p2 o0 (s_Kd p1 p2 4 o0).1.list 0 (s_Kd p1 p2 4 o0).2.bG []).2)] hl0] (by kernel_rfl)
def s_Kq (p1 : Val) (o0 : au) : ByteArray × au := ((xS p1).1, ft o0 (xS p1).2)
theorem e_Kq (p1 : Val) (o0 : au) : s_Kq p1 o0 = (bif o0.bG then
    bif (p1.kind == 3) then
      (p1.s, (au.mk true))
    else
      (eB, (au.mk true))
  else
    bif (p1.kind == 3) then
      (p1.s, (au.mk false))
    else
      (eB, (au.mk (!(p1.kind == 0))))) := by
  obtain ⟨b⟩ := o0
  unfold s_Kq ft xS
  cases b <;> cases (p1.kind == 3) <;> cases (p1.kind == 0) <;> rfl
def c_Kq (p1 : Val) (o0 : au) : En := .call 279 [.bx 0 0, .agg (Val.cells p1)] [⟨1, 0, false, (au.cells o0)⟩]
def r_Kq (_p1 : Val) (_o0 : au) (q0 : BA) (q1 : au) : Rs := .ret (.str q0) [⟨1, 0, false, (au.cells q1)⟩]
def a_Kq (p1 : Val) (o0 : au) : Rs := r_Kq p1 o0 (s_Kq p1 o0).1 (s_Kq p1 o0).2
theorem t_Kq (p1 : Val) (o0 : au) : Q5 G (c_Kq p1 o0) (a_Kq p1 o0) := by
 unfold a_Kq
 rw [e_Kq]
 cases h0 : o0.bG with
 | true =>
  cases h1 : (p1.kind == 3) with
  | true =>
   exact Q6 (fn := Ir.Kq) (by kernel_rfl) (h := [⟨1, 0, false, (au.cells o0)⟩]) (vw := []) VOK.nil [hP 6 (decR o0.bG true [0] h0), hP 15 (dec (!(p1.kind == 3)) false (by rw [h1]; rfl))] [] (by kernel_rfl)
  | false =>
   exact Q6 (fn := Ir.Kq) (by kernel_rfl) (h := [⟨1, 0, false, (au.cells o0)⟩]) (vw := []) VOK.nil [hP 6 (decR o0.bG true [0] h0), hP 15 (dec (!(p1.kind == 3)) true (by rw [h1]; rfl))] [] (by kernel_rfl)
 | false =>
  cases h1 : (p1.kind == 3) with
  | true =>
   exact Q6 (fn := Ir.Kq) (by kernel_rfl) (h := [⟨1, 0, false, (au.cells o0)⟩]) (vw := []) VOK.nil [hP 6 (decR o0.bG false [0] h0), hP 3 (dec (!(p1.kind == 3)) false (by rw [h1]; rfl)), hP 11 (dec (!(p1.kind == 3)) false (by rw [h1]; rfl))] [] (by kernel_rfl)
  | false =>
   exact Q6 (fn := Ir.Kq) (by kernel_rfl) (h := [⟨1, 0, false, (au.cells o0)⟩]) (vw := []) VOK.nil [hP 6 (decR o0.bG false [0] h0), hP 3 (dec (!(p1.kind == 3)) true (by rw [h1]; rfl)), hP 11 (dec (!(p1.kind == 3)) true (by rw [h1]; rfl))] [] (by kernel_rfl)
def Q5q (p1 : Val) (p2 : BA) (o0 : au) : List Val → Nat → Bool → (List ByteArray) → Bool × (List ByteArray)
 | [], _i0, ah, ay =>
  (ah, ay)
 | x0 :: r0, i0, ah, ay =>
  Q5q p1 p2 o0 r0 (i0 + 1) (s_Kq x0 (au.mk ah)).2.bG (ay ++ [(s_Kq x0 (au.mk ah)).1])
def Q1e1 (p1 : Val) (p2 : BA) (o0 : au) (i0 : Nat) (_ah : Bool) (ay : List ByteArray) : List PV :=
  [.un, .un, .un, .fn 279 [.bx 0 0] []] ++ nuns 5 ++ [.ms 1 1 0 (List.length ay)] ++ nuns 6 ++ [.sl (Val.rows (s_Kd p1 p2 4 o0).1.list), iN ((List.length (s_Kd p1 p2 4 o0).1.list) : Int), iN (i0 : Int)] ++ nuns 11
def Qym (_p1 : Val) (_p2 : BA) (_o0 : au) (_i0 : Nat) (ah : Bool) (ay : List ByteArray) : List Ob :=
  [⟨1, 0, false, [.bool ah]⟩, ⟨1, 0, true, (Qz ay).flatten⟩]
def Qg8 (p1 : Val) (p2 : BA) (o0 : au) (i0 : Nat) (ah : Bool) (ay : List ByteArray) : En := .loop 1 Ir.Qk3 Ir.Q1mg (Q1e1 p1 p2 o0 i0 ah ay) (Qym p1 p2 o0 i0 ah ay)
def Qr0 (_p1 : Val) (_p2 : BA) (_o0 : au) (q0 : Bool) (q1 : List ByteArray) (z : Nat → PV) (_zo : Nat → List PV) : St :=
  ⟨zr z 0 9 ++ [.ms 1 1 0 (List.length q1)] ++ zr z 10 20, [(0, ⟨1, 0, false, [.bool q0]⟩), (1, ⟨1, 0, true, (Qz q1).flatten⟩)], 66⟩
theorem Q152 (p1 : Val) (p2 : BA) (o0 : au) (i0 : Nat) (ah : Bool) (ay : List ByteArray) : VOK (Go.Pv.look (number 0 (Qym p1 p2 o0 i0 ah ay))) [(1, Qz ay)] := (VOK.cons (show Seen _ _ from Q3r (ob := ⟨1, 0, true, (Qz ay).flatten⟩) (Q32 ay 1 rfl)) VOK.nil)
def Qhz (p1 : Val) (p2 : BA) (o0 : au) (e : En) (q : Bool × (List ByteArray)) : Prop := ∃ z zo, Q5 G e (.st (.exit 0) (Qr0 p1 p2 o0 q.1 q.2 z zo))
theorem Qvn (p1 : Val) (p2 : BA) (o0 : au) {e e' : En} (h : ∀ r, Q5 G e r → Q5 G e' r) : ∀ q, Qhz p1 p2 o0 e q → Qhz p1 p2 o0 e' q
  | _, ⟨z, zo, hz⟩ => ⟨z, zo, h _ hz⟩
def Qd2 (p1 : Val) (p2 : BA) (o0 : au) : Prop := (List.length (s_Kd p1 p2 4 o0).1.list ≤ 137438953472) ∧ True
def Qsu (p1 : Val) (p2 : BA) (o0 : au) (i0 : Nat) (_ah : Bool) (_ay : List ByteArray) : List PV :=
  [.un, .un, .un, .fn 279 [.bx 0 0] []] ++ nuns 12 ++ [.sl (Val.rows (s_Kd p1 p2 4 o0).1.list), iN ((List.length (s_Kd p1 p2 4 o0).1.list) : Int), iN (i0 : Int), .bool false]
def Qls (_p1 : Val) (_p2 : BA) (_o0 : au) (_i0 : Nat) (_ah : Bool) (_ay : List ByteArray) : List (Nat × List PV) :=
  []
theorem Q1ca (p1 : Val) (p2 : BA) (o0 : au) (_H : Qd2 p1 p2 o0) (i0 : Nat) (ah : Bool) (ay : List ByteArray) (_aR : List.length ay ≤ i0) (bF : (decide ((i0 : Int) < ((List.length (s_Kd p1 p2 4 o0).1.list) : Int))) = false) : Qhz p1 p2 o0 (Qg8 p1 p2 o0 i0 ah ay) (ah, ay) := by
 exact ⟨(envF (Qsu p1 p2 o0 i0 ah ay)), (zoF (Qls p1 p2 o0 i0 ah ay)), Qg (Q152 p1 p2 o0 i0 ah ay) (x := ((.exit 0), Qr0 p1 p2 o0 ah ay (envF (Qsu p1 p2 o0 i0 ah ay)) (zoF (Qls p1 p2 o0 i0 ah ay)))) [hB 0 bF] [] (by kernel_rfl)⟩
theorem Q19n (p1 : Val) (p2 : BA) (o0 : au) (H : Qd2 p1 p2 o0) (x0 : Val) (i0 : Nat) (ah : Bool) (ay : List ByteArray) (bH : (s_Kd p1 p2 4 o0).1.list[i0]? = some x0) (bT : i0 < List.length (s_Kd p1 p2 4 o0).1.list) (aR : List.length ay ≤ i0) (bF : (decide ((i0 : Int) < ((List.length (s_Kd p1 p2 4 o0).1.list) : Int))) = true) {r : Rs} (hr : Q5 G (Qg8 p1 p2 o0 (i0 + 1) (s_Kq x0 (au.mk ah)).2.bG (ay ++ [(s_Kq x0 (au.mk ah)).1])) r) : Q5 G (Qg8 p1 p2 o0 i0 ah ay) r := by
 have hB0 := H.1
 exact Qc (Q152 p1 p2 o0 i0 ah ay) [hB 0 bF, hP 0 (Q1f 5 _ i0 _ (Val.Qb bH) rfl), hA 8 1 578 642 1 16 0 0 true Q2d Q53 ay (s_Kq x0 (au.mk ah)).1 (Q45 ay) rfl rfl (by omega), hS 0 true (Q32 (ay ++ [(s_Kq x0 (au.mk ah)).1]) 1 rfl), hP 1 (Q26 i0 (by omega))] [aN (t_Kq x0 (au.mk ah))] hr (by kernel_rfl)
theorem Q11d (p1 : Val) (p2 : BA) (o0 : au) (H : Qd2 p1 p2 o0) : ∀ (r0 : List Val) (i0 : Nat) (ah : Bool) (ay : List ByteArray), List.drop i0 (s_Kd p1 p2 4 o0).1.list = r0 → List.length ay ≤ i0 → Qhz p1 p2 o0 (Qg8 p1 p2 o0 i0 ah ay) (Q5q p1 p2 o0 r0 i0 ah ay)
 | [], i0, ah, ay, hd, aR => by
  have bF : (decide ((i0 : Int) < ((List.length (s_Kd p1 p2 4 o0).1.list) : Int))) = false := by have := Q1n hd; simp; omega
  rw [Q5q]
  exact Q1ca p1 p2 o0 H i0 ah ay aR bF
 | x0 :: r0, i0, ah, ay, hd, aR => by
  obtain ⟨bH, bT, hd'⟩ := Q1o hd
  have bF : (decide ((i0 : Int) < ((List.length (s_Kd p1 p2 4 o0).1.list) : Int))) = true := by simp; omega
  rw [Q5q]
  exact Qvn p1 p2 o0 (fun r hr => Q19n p1 p2 o0 H x0 i0 ah ay bH bT aR bF hr) _ (Q11d p1 p2 o0 H r0 _ _ _ hd' (by first | omega | (simp; omega)))
def Q141 (p1 : Val) (p2 : BA) (o0 : au) : List ByteArray × au := ((dE xS p1 p2).1, ft o0 (isM p1 && (dE xS p1 p2).2))
theorem Q18j (p1 : Val) (p2 : BA) (o0 : au) : ∀ (l : List Val) (i : Nat) (b : Bool) (a : List ByteArray), Q5q p1 p2 o0 l i b a = (b || !(l.all fun x => (xS x).2), a ++ l.map (fun x => (xS x).1))
  | [], _, b, a => by rw [Q5q]; simp
  | x :: l, i, b, a => by
    rw [Q5q]
    refine (Q18j p1 p2 o0 l (i + 1) (b || !(xS x).2) (a ++ [(xS x).1])).trans ?_
    simp only [List.append_assoc, List.singleton_append, List.map_cons, List.all_cons, Bool.not_and, Bool.or_assoc]
theorem Q29z (p1 : Val) (p2 : BA) (o0 : au) : Q141 p1 p2 o0 = (((Q5q p1 p2 o0 (s_Kd p1 p2 4 o0).1.list 0 (s_Kd p1 p2 4 o0).2.bG []).2, (au.mk (Q5q p1 p2 o0 (s_Kd p1 p2 4 o0).1.list 0 (s_Kd p1 p2 4 o0).2.bG []).1))) := by
  rw [Q18j]
  unfold s_Kd Q141
  simp only [Qab, Q5l]
  refine Prod.ext rfl ?_
  rw [Q9t o0.bG (isM p1) _ _ _ (Qyk (prt p1 p2)), Q6n]
  rfl
def Q26c (p1 : Val) (p2 : BA) (o0 : au) : En := .call 278 [.bx 0 0, .agg (Val.cells p1), .str p2, .fn 279 [.bx 0 0] []] [⟨1, 0, false, (au.cells o0)⟩]
def Q2d5 (_p1 : Val) (_p2 : BA) (_o0 : au) (q0 : List ByteArray) (q1 : au) : Rs := .ret (.sl (Qz q0)) [⟨1, 0, false, (au.cells q1)⟩]
def Q1vb (p1 : Val) (p2 : BA) (o0 : au) : Rs := Q2d5 p1 p2 o0 (Q141 p1 p2 o0).1 (Q141 p1 p2 o0).2
def Q1od (p1 : Val) : Prop := Val.Sm 1000000000 p1
theorem Q16b (p1 : Val) (p2 : BA) (o0 : au) (H : Q1od p1) : (H_Kd p1) ∧ (Qd2 p1 p2 o0) ∧ True := by
  have hl := Q69 (Qp H p2)
  refine ⟨H, ?_, trivial⟩
  unfold Qd2 s_Kd
  simp only [Qab]
  exact ⟨Nat.le_trans hl.1 (Nat.le_of_ble_eq_true rfl), trivial⟩
theorem Q2eo (p1 : Val) (p2 : BA) (o0 : au) (H : Q1od p1) : Q5 G (Q26c p1 p2 o0) (Q1vb p1 p2 o0) := by
 unfold Q1vb
 rw [Q29z]
 have hl0 := Q11d p1 p2 o0 ((Q16b p1 p2 o0 H).2.1) (s_Kd p1 p2 4 o0).1.list 0 (s_Kd p1 p2 4 o0).2.bG [] (by simp) (by simp)
 obtain ⟨z0, eG, hl0⟩ := hl0
 exact Q6 (fn := Ir.K10) (by kernel_rfl) (h := [⟨1, 0, false, (au.cells o0)⟩]) (vw := []) VOK.nil [hP 8 (Qq _ _ (Val.Q7 (s_Kd p1 p2 4 o0).1.list)), hS 0 true (Q32 (Q5q p1 p2 o0 (s_Kd p1 p2 4 o0).1.list 0 (s_Kd p1 p2 4 o0).2.bG []).2 1 rfl), hQ (Q2d (Q5q p1 p2 o0 (s_Kd p1 p2 4 o0).1.list 0 (s_Kd p1 p2 4 o0).2.bG []).2).symm] [aN (t_Kd p1 p2 4 o0 (Q16b p1 p2 o0 H).1), aV [(1, Qz (Q5q p1 p2 o0 (s_Kd p1 p2 4 o0).1.list 0 (s_Kd p1 p2 4 o0).2.bG []).2)] hl0] (by kernel_rfl)
def s_Kj (p1 : Val) (o0 : au) : aj × au := ((aj.dec p1).1, ft o0 (aj.dec p1).2)
theorem e_Kj (p1 : Val) (o0 : au) : s_Kj p1 o0 = (((aj.mk (s_Kn p1 Q1c (s_Ko p1 o0).2).1 (s_Kg p1 Q4t (s_Kn p1 Q1c (s_Ko p1 o0).2).2).1 (Q141 p1 Q29 (s_Kg p1 Q4t (s_Kn p1 Q1c (s_Ko p1 o0).2).2).2).1), (Q141 p1 Q29 (s_Kg p1 Q4t (s_Kn p1 Q1c (s_Ko p1 o0).2).2).2).2)) := by
  simp only [s_Ko, s_Kg, s_Kn, Q141, s_Kj, aj.dec, Qnx, Bool.and_assoc, Bool.and_left_comm, Bool.and_comm, Bool.and_self_left]
def c_Kj (p1 : Val) (o0 : au) : En := .call 244 [.bx 0 0, .agg (Val.cells p1)] [⟨1, 0, false, (au.cells o0)⟩]
def r_Kj (_p1 : Val) (_o0 : au) (q0 : aj) (q1 : au) : Rs := .ret (.agg (aj.cells q0)) [⟨1, 0, false, (au.cells q1)⟩]
def a_Kj (p1 : Val) (o0 : au) : Rs := r_Kj p1 o0 (s_Kj p1 o0).1 (s_Kj p1 o0).2
def H_Kj (p1 : Val) : Prop := Val.Sm 1000000000 p1
theorem Q13n (p1 : Val) (_o0 : au) (H : H_Kj p1) : (H_Kn p1) ∧ (H_Kg p1) ∧ (Q1od p1) ∧ True := by
  repeat' with_reducible apply And.intro
  all_goals first | exact True.intro | exact H | exact Qp5 (Qp H _)
theorem t_Kj (p1 : Val) (o0 : au) (H : H_Kj p1) : Q5 G (c_Kj p1 o0) (a_Kj p1 o0) := by
 unfold a_Kj
 rw [e_Kj]
 exact Q6 (fn := Ir.Kj) (by kernel_rfl) (h := [⟨1, 0, false, (au.cells o0)⟩]) (vw := []) VOK.nil [] [aN (t_Ko p1 o0), aN (t_Kn p1 Q1c (s_Ko p1 o0).2 (Q13n p1 o0 H).1), aN (t_Kg p1 Q4t (s_Kn p1 Q1c (s_Ko p1 o0).2).2 (Q13n p1 o0 H).2.1), aN (Q2eo p1 Q29 (s_Kg p1 Q4t (s_Kn p1 Q1c (s_Ko p1 o0).2).2).2 (Q13n p1 o0 H).2.2.1)] (by kernel_rfl)
def Q7f (p1 : Val) (p2 : BA) (o0 : au) : List Val → Nat → Bool → (List aj) → Bool × (List aj)
 | [], _i0, ah, ay =>
  (ah, ay)
 | x0 :: r0, i0, ah, ay =>
  Q7f p1 p2 o0 r0 (i0 + 1) (s_Kj x0 (au.mk ah)).2.bG (ay ++ [(s_Kj x0 (au.mk ah)).1])
def Q1jb (p1 : Val) (p2 : BA) (o0 : au) (i0 : Nat) (_ah : Bool) (ay : List aj) : List PV :=
  [.un, .un, .un, .fn 244 [.bx 0 0] []] ++ nuns 5 ++ [.ms 1 3 0 (List.length ay)] ++ nuns 6 ++ [.sl (Val.rows (s_Kd p1 p2 4 o0).1.list), iN ((List.length (s_Kd p1 p2 4 o0).1.list) : Int), iN (i0 : Int)] ++ nuns 11
def Q14r (_p1 : Val) (_p2 : BA) (_o0 : au) (_i0 : Nat) (ah : Bool) (ay : List aj) : List Ob :=
  [⟨1, 0, false, [.bool ah]⟩, ⟨3, 0, true, (aj.rows ay).flatten⟩]
def Qvd (p1 : Val) (p2 : BA) (o0 : au) (i0 : Nat) (ah : Bool) (ay : List aj) : En := .loop 1 Ir.Qqt Ir.Q1v2 (Q1jb p1 p2 o0 i0 ah ay) (Q14r p1 p2 o0 i0 ah ay)
def Q10d (_p1 : Val) (_p2 : BA) (_o0 : au) (q0 : Bool) (q1 : List aj) (z : Nat → PV) (_zo : Nat → List PV) : St :=
  ⟨zr z 0 9 ++ [.ms 1 3 0 (List.length q1)] ++ zr z 10 20, [(0, ⟨1, 0, false, [.bool q0]⟩), (1, ⟨3, 0, true, (aj.rows q1).flatten⟩)], 66⟩
theorem Q1g9 (p1 : Val) (p2 : BA) (o0 : au) (i0 : Nat) (ah : Bool) (ay : List aj) : VOK (Go.Pv.look (number 0 (Q14r p1 p2 o0 i0 ah ay))) [(1, aj.rows ay)] := (VOK.cons (show Seen _ _ from Q3r (ob := ⟨3, 0, true, (aj.rows ay).flatten⟩) (aj.Q8 ay 3 rfl)) VOK.nil)
def Qwy (p1 : Val) (p2 : BA) (o0 : au) (e : En) (q : Bool × (List aj)) : Prop := ∃ z zo, Q5 G e (.st (.exit 0) (Q10d p1 p2 o0 q.1 q.2 z zo))
theorem Q105 (p1 : Val) (p2 : BA) (o0 : au) {e e' : En} (h : ∀ r, Q5 G e r → Q5 G e' r) : ∀ q, Qwy p1 p2 o0 e q → Qwy p1 p2 o0 e' q
  | _, ⟨z, zo, hz⟩ => ⟨z, zo, h _ hz⟩
def Qjx (p1 : Val) (p2 : BA) (o0 : au) : Prop := (List.length (s_Kd p1 p2 4 o0).1.list ≤ 137438953472) ∧ (∀ x0 ∈ (s_Kd p1 p2 4 o0).1.list, H_Kj x0) ∧ True
def Q10n (p1 : Val) (p2 : BA) (o0 : au) (i0 : Nat) (_ah : Bool) (_ay : List aj) : List PV :=
  [.un, .un, .un, .fn 244 [.bx 0 0] []] ++ nuns 12 ++ [.sl (Val.rows (s_Kd p1 p2 4 o0).1.list), iN ((List.length (s_Kd p1 p2 4 o0).1.list) : Int), iN (i0 : Int), .bool false]
def Qso (_p1 : Val) (_p2 : BA) (_o0 : au) (_i0 : Nat) (_ah : Bool) (_ay : List aj) : List (Nat × List PV) :=
  []
theorem Q1j0 (p1 : Val) (p2 : BA) (o0 : au) (_H : Qjx p1 p2 o0) (i0 : Nat) (ah : Bool) (ay : List aj) (_aR : List.length ay ≤ i0) (bF : (decide ((i0 : Int) < ((List.length (s_Kd p1 p2 4 o0).1.list) : Int))) = false) : Qwy p1 p2 o0 (Qvd p1 p2 o0 i0 ah ay) (ah, ay) := by
 exact ⟨(envF (Q10n p1 p2 o0 i0 ah ay)), (zoF (Qso p1 p2 o0 i0 ah ay)), Qg (Q1g9 p1 p2 o0 i0 ah ay) (x := ((.exit 0), Q10d p1 p2 o0 ah ay (envF (Q10n p1 p2 o0 i0 ah ay)) (zoF (Qso p1 p2 o0 i0 ah ay)))) [hB 0 bF] [] (by kernel_rfl)⟩
theorem Q1hk (p1 : Val) (p2 : BA) (o0 : au) (H : Qjx p1 p2 o0) (x0 : Val) (i0 : Nat) (ah : Bool) (ay : List aj) (bH : (s_Kd p1 p2 4 o0).1.list[i0]? = some x0) (bT : i0 < List.length (s_Kd p1 p2 4 o0).1.list) (aR : List.length ay ≤ i0) (bF : (decide ((i0 : Int) < ((List.length (s_Kd p1 p2 4 o0).1.list) : Int))) = true) {r : Rs} (hr : Q5 G (Qvd p1 p2 o0 (i0 + 1) (s_Kj x0 (au.mk ah)).2.bG (ay ++ [(s_Kj x0 (au.mk ah)).1])) r) : Q5 G (Qvd p1 p2 o0 i0 ah ay) r := by
 have hB0 := H.1
 exact Qc (Q1g9 p1 p2 o0 i0 ah ay) [hB 0 bF, hP 0 (Q1f 5 _ i0 _ (Val.Qb bH) rfl), hA 8 1 578 642 3 48 0 0 true aj.Q7 aj.Q1l ay (s_Kj x0 (au.mk ah)).1 (aj.Qt ay) rfl rfl (by omega), hS 0 true (aj.Q8 (ay ++ [(s_Kj x0 (au.mk ah)).1]) 3 rfl), hP 1 (Q26 i0 (by omega))] [aN (t_Kj x0 (au.mk ah) (H.2.1 x0 (Q15 bH)))] hr (by kernel_rfl)
theorem Q17x (p1 : Val) (p2 : BA) (o0 : au) (H : Qjx p1 p2 o0) : ∀ (r0 : List Val) (i0 : Nat) (ah : Bool) (ay : List aj), List.drop i0 (s_Kd p1 p2 4 o0).1.list = r0 → List.length ay ≤ i0 → Qwy p1 p2 o0 (Qvd p1 p2 o0 i0 ah ay) (Q7f p1 p2 o0 r0 i0 ah ay)
 | [], i0, ah, ay, hd, aR => by
  have bF : (decide ((i0 : Int) < ((List.length (s_Kd p1 p2 4 o0).1.list) : Int))) = false := by have := Q1n hd; simp; omega
  rw [Q7f]
  exact Q1j0 p1 p2 o0 H i0 ah ay aR bF
 | x0 :: r0, i0, ah, ay, hd, aR => by
  obtain ⟨bH, bT, hd'⟩ := Q1o hd
  have bF : (decide ((i0 : Int) < ((List.length (s_Kd p1 p2 4 o0).1.list) : Int))) = true := by simp; omega
  rw [Q7f]
  exact Q105 p1 p2 o0 (fun r hr => Q1hk p1 p2 o0 H x0 i0 ah ay bH bT aR bF hr) _ (Q17x p1 p2 o0 H r0 _ _ _ hd' (by first | omega | (simp; omega)))
def s_Ku (p1 : Val) (p2 : BA) (o0 : au) : List aj × au := ((dE aj.dec p1 p2).1, ft o0 (isM p1 && (dE aj.dec p1 p2).2))
theorem Q1hw (p1 : Val) (p2 : BA) (o0 : au) : ∀ (l : List Val) (i : Nat) (b : Bool) (a : List aj), Q7f p1 p2 o0 l i b a = (b || !(l.all fun x => (aj.dec x).2), a ++ l.map (fun x => (aj.dec x).1))
  | [], _, b, a => by rw [Q7f]; simp
  | x :: l, i, b, a => by
    rw [Q7f]
    refine (Q1hw p1 p2 o0 l (i + 1) (b || !(aj.dec x).2) (a ++ [(aj.dec x).1])).trans ?_
    simp only [List.append_assoc, List.singleton_append, List.map_cons, List.all_cons, Bool.not_and, Bool.or_assoc]
theorem e_Ku (p1 : Val) (p2 : BA) (o0 : au) : s_Ku p1 p2 o0 = (((Q7f p1 p2 o0 (s_Kd p1 p2 4 o0).1.list 0 (s_Kd p1 p2 4 o0).2.bG []).2, (au.mk (Q7f p1 p2 o0 (s_Kd p1 p2 4 o0).1.list 0 (s_Kd p1 p2 4 o0).2.bG []).1))) := by
  rw [Q1hw]
  unfold s_Kd s_Ku
  simp only [Qab, Q5l]
  refine Prod.ext rfl ?_
  rw [Q9t o0.bG (isM p1) _ _ _ (Qyk (prt p1 p2)), Q6n]
  rfl
def c_Ku (p1 : Val) (p2 : BA) (o0 : au) : En := .call 243 [.bx 0 0, .agg (Val.cells p1), .str p2, .fn 244 [.bx 0 0] []] [⟨1, 0, false, (au.cells o0)⟩]
def r_Ku (_p1 : Val) (_p2 : BA) (_o0 : au) (q0 : List aj) (q1 : au) : Rs := .ret (.sl (aj.rows q0)) [⟨1, 0, false, (au.cells q1)⟩]
def a_Ku (p1 : Val) (p2 : BA) (o0 : au) : Rs := r_Ku p1 p2 o0 (s_Ku p1 p2 o0).1 (s_Ku p1 p2 o0).2
def H_Ku (p1 : Val) : Prop := Val.Sm 1000000000 p1
theorem Q1h0 (p1 : Val) (p2 : BA) (o0 : au) (H : H_Ku p1) : (H_Kd p1) ∧ (Qjx p1 p2 o0) ∧ True := by
  have hl := Q69 (Qp H p2)
  refine ⟨H, ?_, trivial⟩
  unfold Qjx s_Kd
  simp only [Qab]
  exact ⟨Nat.le_trans hl.1 (Nat.le_of_ble_eq_true rfl), hl.2, trivial⟩
theorem t_Ku (p1 : Val) (p2 : BA) (o0 : au) (H : H_Ku p1) : Q5 G (c_Ku p1 p2 o0) (a_Ku p1 p2 o0) := by
 unfold a_Ku
 rw [e_Ku]
 have hl0 := Q17x p1 p2 o0 ((Q1h0 p1 p2 o0 H).2.1) (s_Kd p1 p2 4 o0).1.list 0 (s_Kd p1 p2 4 o0).2.bG [] (by simp) (by simp)
 obtain ⟨z0, eG, hl0⟩ := hl0
 exact Q6 (fn := Ir.Ku) (by kernel_rfl) (h := [⟨1, 0, false, (au.cells o0)⟩]) (vw := []) VOK.nil [hP 8 (Qq _ _ (Val.Q7 (s_Kd p1 p2 4 o0).1.list)), hS 0 true (aj.Q8 (Q7f p1 p2 o0 (s_Kd p1 p2 4 o0).1.list 0 (s_Kd p1 p2 4 o0).2.bG []).2 3 rfl), hQ (aj.Q7 (Q7f p1 p2 o0 (s_Kd p1 p2 4 o0).1.list 0 (s_Kd p1 p2 4 o0).2.bG []).2).symm] [aN (t_Kd p1 p2 4 o0 (Q1h0 p1 p2 o0 H).1), aV [(1, aj.rows (Q7f p1 p2 o0 (s_Kd p1 p2 4 o0).1.list 0 (s_Kd p1 p2 4 o0).2.bG []).2)] hl0] (by kernel_rfl)
def s_Kf (p1 : Val) (o0 : au) : aP × au := ((aP.dec p1).1, ft o0 (aP.dec p1).2)
theorem e_Kf (p1 : Val) (o0 : au) : s_Kf p1 o0 = (((aP.mk (s_Kc p1 Qa (s_Ko p1 o0).2).1 (s_Ku p1 Q0 (s_Kc p1 Qa (s_Ko p1 o0).2).2).1 (s_Kg p1 Q1d (s_Ku p1 Q0 (s_Kc p1 Qa (s_Ko p1 o0).2).2).2).1), (s_Kg p1 Q1d (s_Ku p1 Q0 (s_Kc p1 Qa (s_Ko p1 o0).2).2).2).2)) := by
  simp only [s_Ko, s_Kg, s_Kc, s_Ku, s_Kf, aP.dec, Qnx, Bool.and_assoc, Bool.and_left_comm, Bool.and_self_left]
def c_Kf (p1 : Val) (o0 : au) : En := .call 246 [.bx 0 0, .agg (Val.cells p1)] [⟨1, 0, false, (au.cells o0)⟩]
def r_Kf (_p1 : Val) (_o0 : au) (q0 : aP) (q1 : au) : Rs := .ret (.agg (aP.cells q0)) [⟨1, 0, false, (au.cells q1)⟩]
def a_Kf (p1 : Val) (o0 : au) : Rs := r_Kf p1 o0 (s_Kf p1 o0).1 (s_Kf p1 o0).2
def H_Kf (p1 : Val) : Prop := Val.Sm 1000000000 p1
theorem Q13m (p1 : Val) (_o0 : au) (H : H_Kf p1) : (H_Kc p1) ∧ (H_Ku p1) ∧ (H_Kg p1) ∧ True := by
  repeat' with_reducible apply And.intro
  all_goals first | exact True.intro | exact H | exact Qp5 (Qp H _)
theorem t_Kf (p1 : Val) (o0 : au) (H : H_Kf p1) : Q5 G (c_Kf p1 o0) (a_Kf p1 o0) := by
 unfold a_Kf
 rw [e_Kf]
 exact Q6 (fn := Ir.Kf) (by kernel_rfl) (h := [⟨1, 0, false, (au.cells o0)⟩]) (vw := []) VOK.nil [] [aN (t_Ko p1 o0), aN (t_Kc p1 Qa (s_Ko p1 o0).2 (Q13m p1 o0 H).1), aN (t_Ku p1 Q0 (s_Kc p1 Qa (s_Ko p1 o0).2).2 (Q13m p1 o0 H).2.1), aN (t_Kg p1 Q1d (s_Ku p1 Q0 (s_Kc p1 Qa (s_Ko p1 o0).2).2).2 (Q13m p1 o0 H).2.2.1)] (by kernel_rfl)
def Q7g (p1 : Val) (p2 : BA) (o0 : au) : List Val → Nat → Bool → (List aP) → Bool × (List aP)
 | [], _i0, ah, ay =>
  (ah, ay)
 | x0 :: r0, i0, ah, ay =>
  Q7g p1 p2 o0 r0 (i0 + 1) (s_Kf x0 (au.mk ah)).2.bG (ay ++ [(s_Kf x0 (au.mk ah)).1])
def Q1jc (p1 : Val) (p2 : BA) (o0 : au) (i0 : Nat) (_ah : Bool) (ay : List aP) : List PV :=
  [.un, .un, .un, .fn 246 [.bx 0 0] []] ++ nuns 5 ++ [.ms 1 3 0 (List.length ay)] ++ nuns 6 ++ [.sl (Val.rows (s_Kd p1 p2 4 o0).1.list), iN ((List.length (s_Kd p1 p2 4 o0).1.list) : Int), iN (i0 : Int)] ++ nuns 11
def Q14s (_p1 : Val) (_p2 : BA) (_o0 : au) (_i0 : Nat) (ah : Bool) (ay : List aP) : List Ob :=
  [⟨1, 0, false, [.bool ah]⟩, ⟨3, 0, true, (aP.rows ay).flatten⟩]
def Qve (p1 : Val) (p2 : BA) (o0 : au) (i0 : Nat) (ah : Bool) (ay : List aP) : En := .loop 1 Ir.Qqu Ir.Q1v3 (Q1jc p1 p2 o0 i0 ah ay) (Q14s p1 p2 o0 i0 ah ay)
def Q10e (_p1 : Val) (_p2 : BA) (_o0 : au) (q0 : Bool) (q1 : List aP) (z : Nat → PV) (_zo : Nat → List PV) : St :=
  ⟨zr z 0 9 ++ [.ms 1 3 0 (List.length q1)] ++ zr z 10 20, [(0, ⟨1, 0, false, [.bool q0]⟩), (1, ⟨3, 0, true, (aP.rows q1).flatten⟩)], 66⟩
theorem Q1ga (p1 : Val) (p2 : BA) (o0 : au) (i0 : Nat) (ah : Bool) (ay : List aP) : VOK (Go.Pv.look (number 0 (Q14s p1 p2 o0 i0 ah ay))) [(1, aP.rows ay)] := (VOK.cons (show Seen _ _ from Q3r (ob := ⟨3, 0, true, (aP.rows ay).flatten⟩) (aP.Q8 ay 3 rfl)) VOK.nil)
def Qwz (p1 : Val) (p2 : BA) (o0 : au) (e : En) (q : Bool × (List aP)) : Prop := ∃ z zo, Q5 G e (.st (.exit 0) (Q10e p1 p2 o0 q.1 q.2 z zo))
theorem Q106 (p1 : Val) (p2 : BA) (o0 : au) {e e' : En} (h : ∀ r, Q5 G e r → Q5 G e' r) : ∀ q, Qwz p1 p2 o0 e q → Qwz p1 p2 o0 e' q
  | _, ⟨z, zo, hz⟩ => ⟨z, zo, h _ hz⟩
def Qjy (p1 : Val) (p2 : BA) (o0 : au) : Prop := (List.length (s_Kd p1 p2 4 o0).1.list ≤ 137438953472) ∧ (∀ x0 ∈ (s_Kd p1 p2 4 o0).1.list, H_Kf x0) ∧ True
def Q10o (p1 : Val) (p2 : BA) (o0 : au) (i0 : Nat) (_ah : Bool) (_ay : List aP) : List PV :=
  [.un, .un, .un, .fn 246 [.bx 0 0] []] ++ nuns 12 ++ [.sl (Val.rows (s_Kd p1 p2 4 o0).1.list), iN ((List.length (s_Kd p1 p2 4 o0).1.list) : Int), iN (i0 : Int), .bool false]
def Qsp (_p1 : Val) (_p2 : BA) (_o0 : au) (_i0 : Nat) (_ah : Bool) (_ay : List aP) : List (Nat × List PV) :=
  []
theorem Q1j1 (p1 : Val) (p2 : BA) (o0 : au) (_H : Qjy p1 p2 o0) (i0 : Nat) (ah : Bool) (ay : List aP) (_aR : List.length ay ≤ i0) (bF : (decide ((i0 : Int) < ((List.length (s_Kd p1 p2 4 o0).1.list) : Int))) = false) : Qwz p1 p2 o0 (Qve p1 p2 o0 i0 ah ay) (ah, ay) := by
 exact ⟨(envF (Q10o p1 p2 o0 i0 ah ay)), (zoF (Qsp p1 p2 o0 i0 ah ay)), Qg (Q1ga p1 p2 o0 i0 ah ay) (x := ((.exit 0), Q10e p1 p2 o0 ah ay (envF (Q10o p1 p2 o0 i0 ah ay)) (zoF (Qsp p1 p2 o0 i0 ah ay)))) [hB 0 bF] [] (by kernel_rfl)⟩
theorem Q1hl (p1 : Val) (p2 : BA) (o0 : au) (H : Qjy p1 p2 o0) (x0 : Val) (i0 : Nat) (ah : Bool) (ay : List aP) (bH : (s_Kd p1 p2 4 o0).1.list[i0]? = some x0) (bT : i0 < List.length (s_Kd p1 p2 4 o0).1.list) (aR : List.length ay ≤ i0) (bF : (decide ((i0 : Int) < ((List.length (s_Kd p1 p2 4 o0).1.list) : Int))) = true) {r : Rs} (hr : Q5 G (Qve p1 p2 o0 (i0 + 1) (s_Kf x0 (au.mk ah)).2.bG (ay ++ [(s_Kf x0 (au.mk ah)).1])) r) : Q5 G (Qve p1 p2 o0 i0 ah ay) r := by
 have hB0 := H.1
 exact Qc (Q1ga p1 p2 o0 i0 ah ay) [hB 0 bF, hP 0 (Q1f 5 _ i0 _ (Val.Qb bH) rfl), hA 8 1 578 642 3 40 0 0 true aP.Q7 aP.Q1l ay (s_Kf x0 (au.mk ah)).1 (aP.Qt ay) rfl rfl (by omega), hS 0 true (aP.Q8 (ay ++ [(s_Kf x0 (au.mk ah)).1]) 3 rfl), hP 1 (Q26 i0 (by omega))] [aN (t_Kf x0 (au.mk ah) (H.2.1 x0 (Q15 bH)))] hr (by kernel_rfl)
theorem Q17y (p1 : Val) (p2 : BA) (o0 : au) (H : Qjy p1 p2 o0) : ∀ (r0 : List Val) (i0 : Nat) (ah : Bool) (ay : List aP), List.drop i0 (s_Kd p1 p2 4 o0).1.list = r0 → List.length ay ≤ i0 → Qwz p1 p2 o0 (Qve p1 p2 o0 i0 ah ay) (Q7g p1 p2 o0 r0 i0 ah ay)
 | [], i0, ah, ay, hd, aR => by
  have bF : (decide ((i0 : Int) < ((List.length (s_Kd p1 p2 4 o0).1.list) : Int))) = false := by have := Q1n hd; simp; omega
  rw [Q7g]
  exact Q1j1 p1 p2 o0 H i0 ah ay aR bF
 | x0 :: r0, i0, ah, ay, hd, aR => by
  obtain ⟨bH, bT, hd'⟩ := Q1o hd
  have bF : (decide ((i0 : Int) < ((List.length (s_Kd p1 p2 4 o0).1.list) : Int))) = true := by simp; omega
  rw [Q7g]
  exact Q106 p1 p2 o0 (fun r hr => Q1hl p1 p2 o0 H x0 i0 ah ay bH bT aR bF hr) _ (Q17y p1 p2 o0 H r0 _ _ _ hd' (by first | omega | (simp; omega)))
def s_Kv (p1 : Val) (p2 : BA) (o0 : au) : List aP × au := ((dE aP.dec p1 p2).1, ft o0 (isM p1 && (dE aP.dec p1 p2).2))
theorem Q1hx (p1 : Val) (p2 : BA) (o0 : au) : ∀ (l : List Val) (i : Nat) (b : Bool) (a : List aP), Q7g p1 p2 o0 l i b a = (b || !(l.all fun x => (aP.dec x).2), a ++ l.map (fun x => (aP.dec x).1))
  | [], _, b, a => by rw [Q7g]; simp
  | x :: l, i, b, a => by
    rw [Q7g]
    refine (Q1hx p1 p2 o0 l (i + 1) (b || !(aP.dec x).2) (a ++ [(aP.dec x).1])).trans ?_
    simp only [List.append_assoc, List.singleton_append, List.map_cons, List.all_cons, Bool.not_and, Bool.or_assoc]
theorem e_Kv (p1 : Val) (p2 : BA) (o0 : au) : s_Kv p1 p2 o0 = (((Q7g p1 p2 o0 (s_Kd p1 p2 4 o0).1.list 0 (s_Kd p1 p2 4 o0).2.bG []).2, (au.mk (Q7g p1 p2 o0 (s_Kd p1 p2 4 o0).1.list 0 (s_Kd p1 p2 4 o0).2.bG []).1))) := by
  rw [Q1hx]
  unfold s_Kd s_Kv
  simp only [Qab, Q5l]
  refine Prod.ext rfl ?_
  rw [Q9t o0.bG (isM p1) _ _ _ (Qyk (prt p1 p2)), Q6n]
  rfl
def c_Kv (p1 : Val) (p2 : BA) (o0 : au) : En := .call 245 [.bx 0 0, .agg (Val.cells p1), .str p2, .fn 246 [.bx 0 0] []] [⟨1, 0, false, (au.cells o0)⟩]
def r_Kv (_p1 : Val) (_p2 : BA) (_o0 : au) (q0 : List aP) (q1 : au) : Rs := .ret (.sl (aP.rows q0)) [⟨1, 0, false, (au.cells q1)⟩]
def a_Kv (p1 : Val) (p2 : BA) (o0 : au) : Rs := r_Kv p1 p2 o0 (s_Kv p1 p2 o0).1 (s_Kv p1 p2 o0).2
def H_Kv (p1 : Val) : Prop := Val.Sm 1000000000 p1
theorem Q1h1 (p1 : Val) (p2 : BA) (o0 : au) (H : H_Kv p1) : (H_Kd p1) ∧ (Qjy p1 p2 o0) ∧ True := by
  have hl := Q69 (Qp H p2)
  refine ⟨H, ?_, trivial⟩
  unfold Qjy s_Kd
  simp only [Qab]
  exact ⟨Nat.le_trans hl.1 (Nat.le_of_ble_eq_true rfl), hl.2, trivial⟩
theorem t_Kv (p1 : Val) (p2 : BA) (o0 : au) (H : H_Kv p1) : Q5 G (c_Kv p1 p2 o0) (a_Kv p1 p2 o0) := by
 unfold a_Kv
 rw [e_Kv]
 have hl0 := Q17y p1 p2 o0 ((Q1h1 p1 p2 o0 H).2.1) (s_Kd p1 p2 4 o0).1.list 0 (s_Kd p1 p2 4 o0).2.bG [] (by simp) (by simp)
 obtain ⟨z0, eG, hl0⟩ := hl0
 exact Q6 (fn := Ir.Kv) (by kernel_rfl) (h := [⟨1, 0, false, (au.cells o0)⟩]) (vw := []) VOK.nil [hP 8 (Qq _ _ (Val.Q7 (s_Kd p1 p2 4 o0).1.list)), hS 0 true (aP.Q8 (Q7g p1 p2 o0 (s_Kd p1 p2 4 o0).1.list 0 (s_Kd p1 p2 4 o0).2.bG []).2 3 rfl), hQ (aP.Q7 (Q7g p1 p2 o0 (s_Kd p1 p2 4 o0).1.list 0 (s_Kd p1 p2 4 o0).2.bG []).2).symm] [aN (t_Kd p1 p2 4 o0 (Q1h1 p1 p2 o0 H).1), aV [(1, aP.rows (Q7g p1 p2 o0 (s_Kd p1 p2 4 o0).1.list 0 (s_Kd p1 p2 4 o0).2.bG []).2)] hl0] (by kernel_rfl)
def s_Kh (p1 : Val) (o0 : au) : aS × au := ((aS.dec p1).1, ft o0 (aS.dec p1).2)
theorem e_Kh (p1 : Val) (o0 : au) : s_Kh p1 o0 = (((aS.mk (s_Kc p1 Qa (s_Ko p1 o0).2).1 (s_Kc p1 Q2t (s_Kc p1 Qa (s_Ko p1 o0).2).2).1 (s_Ku p1 Q0 (s_Kc p1 Q2t (s_Kc p1 Qa (s_Ko p1 o0).2).2).2).1 (s_Kn p1 Qm (s_Ku p1 Q0 (s_Kc p1 Q2t (s_Kc p1 Qa (s_Ko p1 o0).2).2).2).2).1 (s_Kg p1 Q1d (s_Kn p1 Qm (s_Ku p1 Q0 (s_Kc p1 Q2t (s_Kc p1 Qa (s_Ko p1 o0).2).2).2).2).2).1), (s_Kg p1 Q1d (s_Kn p1 Qm (s_Ku p1 Q0 (s_Kc p1 Q2t (s_Kc p1 Qa (s_Ko p1 o0).2).2).2).2).2).2)) := by
  simp only [s_Ko, s_Kg, s_Kn, s_Kc, s_Ku, s_Kh, aS.dec, Qnx, Bool.and_assoc, Bool.and_left_comm, Bool.and_comm, Bool.and_self_left]
def c_Kh (p1 : Val) (o0 : au) : En := .call 248 [.bx 0 0, .agg (Val.cells p1)] [⟨1, 0, false, (au.cells o0)⟩]
def r_Kh (_p1 : Val) (_o0 : au) (q0 : aS) (q1 : au) : Rs := .ret (.agg (aS.cells q0)) [⟨1, 0, false, (au.cells q1)⟩]
def a_Kh (p1 : Val) (o0 : au) : Rs := r_Kh p1 o0 (s_Kh p1 o0).1 (s_Kh p1 o0).2
def H_Kh (p1 : Val) : Prop := Val.Sm 1000000000 p1
theorem Qny (p1 : Val) (_o0 : au) (H : H_Kh p1) : (H_Kc p1) ∧ (H_Ku p1) ∧ (H_Kn p1) ∧ (H_Kg p1) ∧ True := by
  repeat' with_reducible apply And.intro
  all_goals first | exact True.intro | exact H | exact Qp5 (Qp H _)
theorem t_Kh (p1 : Val) (o0 : au) (H : H_Kh p1) : Q5 G (c_Kh p1 o0) (a_Kh p1 o0) := by
 unfold a_Kh
 rw [e_Kh]
 exact Q6 (fn := Ir.Kh) (by kernel_rfl) (h := [⟨1, 0, false, (au.cells o0)⟩]) (vw := []) VOK.nil [] [aN (t_Ko p1 o0), aN (t_Kc p1 Qa (s_Ko p1 o0).2 (Qny p1 o0 H).1), aN (t_Kc p1 Q2t (s_Kc p1 Qa (s_Ko p1 o0).2).2 (Qny p1 o0 H).1), aN (t_Ku p1 Q0 (s_Kc p1 Q2t (s_Kc p1 Qa (s_Ko p1 o0).2).2).2 (Qny p1 o0 H).2.1), aN (t_Kn p1 Qm (s_Ku p1 Q0 (s_Kc p1 Q2t (s_Kc p1 Qa (s_Ko p1 o0).2).2).2).2 (Qny p1 o0 H).2.2.1), aN (t_Kg p1 Q1d (s_Kn p1 Qm (s_Ku p1 Q0 (s_Kc p1 Q2t (s_Kc p1 Qa (s_Ko p1 o0).2).2).2).2).2 (Qny p1 o0 H).2.2.2.1)] (by kernel_rfl)
def Q7h (p1 : Val) (p2 : BA) (o0 : au) : List Val → Nat → Bool → (List aS) → Bool × (List aS)
 | [], _i0, ah, ay =>
  (ah, ay)
 | x0 :: r0, i0, ah, ay =>
  Q7h p1 p2 o0 r0 (i0 + 1) (s_Kh x0 (au.mk ah)).2.bG (ay ++ [(s_Kh x0 (au.mk ah)).1])
def Q1jd (p1 : Val) (p2 : BA) (o0 : au) (i0 : Nat) (_ah : Bool) (ay : List aS) : List PV :=
  [.un, .un, .un, .fn 248 [.bx 0 0] []] ++ nuns 5 ++ [.ms 1 5 0 (List.length ay)] ++ nuns 6 ++ [.sl (Val.rows (s_Kd p1 p2 4 o0).1.list), iN ((List.length (s_Kd p1 p2 4 o0).1.list) : Int), iN (i0 : Int)] ++ nuns 11
def Q14t (_p1 : Val) (_p2 : BA) (_o0 : au) (_i0 : Nat) (ah : Bool) (ay : List aS) : List Ob :=
  [⟨1, 0, false, [.bool ah]⟩, ⟨5, 0, true, (aS.rows ay).flatten⟩]
def Qvf (p1 : Val) (p2 : BA) (o0 : au) (i0 : Nat) (ah : Bool) (ay : List aS) : En := .loop 1 Ir.Qqv Ir.Q1v4 (Q1jd p1 p2 o0 i0 ah ay) (Q14t p1 p2 o0 i0 ah ay)
def Q10f (_p1 : Val) (_p2 : BA) (_o0 : au) (q0 : Bool) (q1 : List aS) (z : Nat → PV) (_zo : Nat → List PV) : St :=
  ⟨zr z 0 9 ++ [.ms 1 5 0 (List.length q1)] ++ zr z 10 20, [(0, ⟨1, 0, false, [.bool q0]⟩), (1, ⟨5, 0, true, (aS.rows q1).flatten⟩)], 66⟩
theorem Q1gb (p1 : Val) (p2 : BA) (o0 : au) (i0 : Nat) (ah : Bool) (ay : List aS) : VOK (Go.Pv.look (number 0 (Q14t p1 p2 o0 i0 ah ay))) [(1, aS.rows ay)] := (VOK.cons (show Seen _ _ from Q3r (ob := ⟨5, 0, true, (aS.rows ay).flatten⟩) (aS.Q8 ay 5 rfl)) VOK.nil)
def Qx0 (p1 : Val) (p2 : BA) (o0 : au) (e : En) (q : Bool × (List aS)) : Prop := ∃ z zo, Q5 G e (.st (.exit 0) (Q10f p1 p2 o0 q.1 q.2 z zo))
theorem Q107 (p1 : Val) (p2 : BA) (o0 : au) {e e' : En} (h : ∀ r, Q5 G e r → Q5 G e' r) : ∀ q, Qx0 p1 p2 o0 e q → Qx0 p1 p2 o0 e' q
  | _, ⟨z, zo, hz⟩ => ⟨z, zo, h _ hz⟩
def Qjz (p1 : Val) (p2 : BA) (o0 : au) : Prop := (List.length (s_Kd p1 p2 4 o0).1.list ≤ 137438953472) ∧ (∀ x0 ∈ (s_Kd p1 p2 4 o0).1.list, H_Kh x0) ∧ True
def Q10p (p1 : Val) (p2 : BA) (o0 : au) (i0 : Nat) (_ah : Bool) (_ay : List aS) : List PV :=
  [.un, .un, .un, .fn 248 [.bx 0 0] []] ++ nuns 12 ++ [.sl (Val.rows (s_Kd p1 p2 4 o0).1.list), iN ((List.length (s_Kd p1 p2 4 o0).1.list) : Int), iN (i0 : Int), .bool false]
def Qsq (_p1 : Val) (_p2 : BA) (_o0 : au) (_i0 : Nat) (_ah : Bool) (_ay : List aS) : List (Nat × List PV) :=
  []
theorem Q1j2 (p1 : Val) (p2 : BA) (o0 : au) (_H : Qjz p1 p2 o0) (i0 : Nat) (ah : Bool) (ay : List aS) (_aR : List.length ay ≤ i0) (bF : (decide ((i0 : Int) < ((List.length (s_Kd p1 p2 4 o0).1.list) : Int))) = false) : Qx0 p1 p2 o0 (Qvf p1 p2 o0 i0 ah ay) (ah, ay) := by
 exact ⟨(envF (Q10p p1 p2 o0 i0 ah ay)), (zoF (Qsq p1 p2 o0 i0 ah ay)), Qg (Q1gb p1 p2 o0 i0 ah ay) (x := ((.exit 0), Q10f p1 p2 o0 ah ay (envF (Q10p p1 p2 o0 i0 ah ay)) (zoF (Qsq p1 p2 o0 i0 ah ay)))) [hB 0 bF] [] (by kernel_rfl)⟩
theorem Q1hm (p1 : Val) (p2 : BA) (o0 : au) (H : Qjz p1 p2 o0) (x0 : Val) (i0 : Nat) (ah : Bool) (ay : List aS) (bH : (s_Kd p1 p2 4 o0).1.list[i0]? = some x0) (bT : i0 < List.length (s_Kd p1 p2 4 o0).1.list) (aR : List.length ay ≤ i0) (bF : (decide ((i0 : Int) < ((List.length (s_Kd p1 p2 4 o0).1.list) : Int))) = true) {r : Rs} (hr : Q5 G (Qvf p1 p2 o0 (i0 + 1) (s_Kh x0 (au.mk ah)).2.bG (ay ++ [(s_Kh x0 (au.mk ah)).1])) r) : Q5 G (Qvf p1 p2 o0 i0 ah ay) r := by
 have hB0 := H.1
 exact Qc (Q1gb p1 p2 o0 i0 ah ay) [hB 0 bF, hP 0 (Q1f 5 _ i0 _ (Val.Qb bH) rfl), hA 8 1 578 642 5 56 0 0 true aS.Q7 aS.Q1l ay (s_Kh x0 (au.mk ah)).1 (aS.Qt ay) rfl rfl (by omega), hS 0 true (aS.Q8 (ay ++ [(s_Kh x0 (au.mk ah)).1]) 5 rfl), hP 1 (Q26 i0 (by omega))] [aN (t_Kh x0 (au.mk ah) (H.2.1 x0 (Q15 bH)))] hr (by kernel_rfl)
theorem Q17z (p1 : Val) (p2 : BA) (o0 : au) (H : Qjz p1 p2 o0) : ∀ (r0 : List Val) (i0 : Nat) (ah : Bool) (ay : List aS), List.drop i0 (s_Kd p1 p2 4 o0).1.list = r0 → List.length ay ≤ i0 → Qx0 p1 p2 o0 (Qvf p1 p2 o0 i0 ah ay) (Q7h p1 p2 o0 r0 i0 ah ay)
 | [], i0, ah, ay, hd, aR => by
  have bF : (decide ((i0 : Int) < ((List.length (s_Kd p1 p2 4 o0).1.list) : Int))) = false := by have := Q1n hd; simp; omega
  rw [Q7h]
  exact Q1j2 p1 p2 o0 H i0 ah ay aR bF
 | x0 :: r0, i0, ah, ay, hd, aR => by
  obtain ⟨bH, bT, hd'⟩ := Q1o hd
  have bF : (decide ((i0 : Int) < ((List.length (s_Kd p1 p2 4 o0).1.list) : Int))) = true := by simp; omega
  rw [Q7h]
  exact Q107 p1 p2 o0 (fun r hr => Q1hm p1 p2 o0 H x0 i0 ah ay bH bT aR bF hr) _ (Q17z p1 p2 o0 H r0 _ _ _ hd' (by first | omega | (simp; omega)))
def s_Kw (p1 : Val) (p2 : BA) (o0 : au) : List aS × au := ((dE aS.dec p1 p2).1, ft o0 (isM p1 && (dE aS.dec p1 p2).2))
theorem Q1hy (p1 : Val) (p2 : BA) (o0 : au) : ∀ (l : List Val) (i : Nat) (b : Bool) (a : List aS), Q7h p1 p2 o0 l i b a = (b || !(l.all fun x => (aS.dec x).2), a ++ l.map (fun x => (aS.dec x).1))
  | [], _, b, a => by rw [Q7h]; simp
  | x :: l, i, b, a => by
    rw [Q7h]
    refine (Q1hy p1 p2 o0 l (i + 1) (b || !(aS.dec x).2) (a ++ [(aS.dec x).1])).trans ?_
    simp only [List.append_assoc, List.singleton_append, List.map_cons, List.all_cons, Bool.not_and, Bool.or_assoc]
theorem e_Kw (p1 : Val) (p2 : BA) (o0 : au) : s_Kw p1 p2 o0 = (((Q7h p1 p2 o0 (s_Kd p1 p2 4 o0).1.list 0 (s_Kd p1 p2 4 o0).2.bG []).2, (au.mk (Q7h p1 p2 o0 (s_Kd p1 p2 4 o0).1.list 0 (s_Kd p1 p2 4 o0).2.bG []).1))) := by
  rw [Q1hy]
  unfold s_Kd s_Kw
  simp only [Qab, Q5l]
  refine Prod.ext rfl ?_
  rw [Q9t o0.bG (isM p1) _ _ _ (Qyk (prt p1 p2)), Q6n]
  rfl
def c_Kw (p1 : Val) (p2 : BA) (o0 : au) : En := .call 247 [.bx 0 0, .agg (Val.cells p1), .str p2, .fn 248 [.bx 0 0] []] [⟨1, 0, false, (au.cells o0)⟩]
def r_Kw (_p1 : Val) (_p2 : BA) (_o0 : au) (q0 : List aS) (q1 : au) : Rs := .ret (.sl (aS.rows q0)) [⟨1, 0, false, (au.cells q1)⟩]
def a_Kw (p1 : Val) (p2 : BA) (o0 : au) : Rs := r_Kw p1 p2 o0 (s_Kw p1 p2 o0).1 (s_Kw p1 p2 o0).2
def H_Kw (p1 : Val) : Prop := Val.Sm 1000000000 p1
theorem Q1h2 (p1 : Val) (p2 : BA) (o0 : au) (H : H_Kw p1) : (H_Kd p1) ∧ (Qjz p1 p2 o0) ∧ True := by
  have hl := Q69 (Qp H p2)
  refine ⟨H, ?_, trivial⟩
  unfold Qjz s_Kd
  simp only [Qab]
  exact ⟨Nat.le_trans hl.1 (Nat.le_of_ble_eq_true rfl), hl.2, trivial⟩
theorem t_Kw (p1 : Val) (p2 : BA) (o0 : au) (H : H_Kw p1) : Q5 G (c_Kw p1 p2 o0) (a_Kw p1 p2 o0) := by
 unfold a_Kw
 rw [e_Kw]
 have hl0 := Q17z p1 p2 o0 ((Q1h2 p1 p2 o0 H).2.1) (s_Kd p1 p2 4 o0).1.list 0 (s_Kd p1 p2 4 o0).2.bG [] (by simp) (by simp)
 obtain ⟨z0, eG, hl0⟩ := hl0
 exact Q6 (fn := Ir.Kw) (by kernel_rfl) (h := [⟨1, 0, false, (au.cells o0)⟩]) (vw := []) VOK.nil [hP 8 (Qq _ _ (Val.Q7 (s_Kd p1 p2 4 o0).1.list)), hS 0 true (aS.Q8 (Q7h p1 p2 o0 (s_Kd p1 p2 4 o0).1.list 0 (s_Kd p1 p2 4 o0).2.bG []).2 5 rfl), hQ (aS.Q7 (Q7h p1 p2 o0 (s_Kd p1 p2 4 o0).1.list 0 (s_Kd p1 p2 4 o0).2.bG []).2).symm] [aN (t_Kd p1 p2 4 o0 (Q1h2 p1 p2 o0 H).1), aV [(1, aS.rows (Q7h p1 p2 o0 (s_Kd p1 p2 4 o0).1.list 0 (s_Kd p1 p2 4 o0).2.bG []).2)] hl0] (by kernel_rfl)
def s_Km (p1 : Val) (o0 : au) : aF × au := ((aF.dec p1).1, ft o0 (aF.dec p1).2)
theorem e_Km (p1 : Val) (o0 : au) : s_Km p1 o0 = (((aF.mk (s_Kg p1 Q1t (s_Ko p1 o0).2).1 (s_Kn p1 Qm (s_Kg p1 Q1t (s_Ko p1 o0).2).2).1 (s_Ku p1 Q0 (s_Kn p1 Qm (s_Kg p1 Q1t (s_Ko p1 o0).2).2).2).1 (s_Kc p1 Qa (s_Ku p1 Q0 (s_Kn p1 Qm (s_Kg p1 Q1t (s_Ko p1 o0).2).2).2).2).1), (s_Kc p1 Qa (s_Ku p1 Q0 (s_Kn p1 Qm (s_Kg p1 Q1t (s_Ko p1 o0).2).2).2).2).2)) := by
  simp only [s_Ko, s_Kg, s_Kn, s_Kc, s_Ku, s_Km, aF.dec, Qnx, Bool.and_assoc, Bool.and_left_comm, Bool.and_comm, Bool.and_self_left]
def c_Km (p1 : Val) (o0 : au) : En := .call 250 [.bx 0 0, .agg (Val.cells p1)] [⟨1, 0, false, (au.cells o0)⟩]
def r_Km (_p1 : Val) (_o0 : au) (q0 : aF) (q1 : au) : Rs := .ret (.agg (aF.cells q0)) [⟨1, 0, false, (au.cells q1)⟩]
def a_Km (p1 : Val) (o0 : au) : Rs := r_Km p1 o0 (s_Km p1 o0).1 (s_Km p1 o0).2
def H_Km (p1 : Val) : Prop := Val.Sm 1000000000 p1
theorem Qxr (p1 : Val) (_o0 : au) (H : H_Km p1) : (H_Kg p1) ∧ (H_Kn p1) ∧ (H_Ku p1) ∧ (H_Kc p1) ∧ True := by
  repeat' with_reducible apply And.intro
  all_goals first | exact True.intro | exact H | exact Qp5 (Qp H _)
theorem t_Km (p1 : Val) (o0 : au) (H : H_Km p1) : Q5 G (c_Km p1 o0) (a_Km p1 o0) := by
 unfold a_Km
 rw [e_Km]
 exact Q6 (fn := Ir.Km) (by kernel_rfl) (h := [⟨1, 0, false, (au.cells o0)⟩]) (vw := []) VOK.nil [] [aN (t_Ko p1 o0), aN (t_Kg p1 Q1t (s_Ko p1 o0).2 (Qxr p1 o0 H).1), aN (t_Kn p1 Qm (s_Kg p1 Q1t (s_Ko p1 o0).2).2 (Qxr p1 o0 H).2.1), aN (t_Ku p1 Q0 (s_Kn p1 Qm (s_Kg p1 Q1t (s_Ko p1 o0).2).2).2 (Qxr p1 o0 H).2.2.1), aN (t_Kc p1 Qa (s_Ku p1 Q0 (s_Kn p1 Qm (s_Kg p1 Q1t (s_Ko p1 o0).2).2).2).2 (Qxr p1 o0 H).2.2.2.1)] (by kernel_rfl)
def Q7i (p1 : Val) (p2 : BA) (o0 : au) : List Val → Nat → Bool → (List aF) → Bool × (List aF)
 | [], _i0, ah, ay =>
  (ah, ay)
 | x0 :: r0, i0, ah, ay =>
  Q7i p1 p2 o0 r0 (i0 + 1) (s_Km x0 (au.mk ah)).2.bG (ay ++ [(s_Km x0 (au.mk ah)).1])
def Q1je (p1 : Val) (p2 : BA) (o0 : au) (i0 : Nat) (_ah : Bool) (ay : List aF) : List PV :=
  [.un, .un, .un, .fn 250 [.bx 0 0] []] ++ nuns 5 ++ [.ms 1 4 0 (List.length ay)] ++ nuns 6 ++ [.sl (Val.rows (s_Kd p1 p2 4 o0).1.list), iN ((List.length (s_Kd p1 p2 4 o0).1.list) : Int), iN (i0 : Int)] ++ nuns 11
def Q14u (_p1 : Val) (_p2 : BA) (_o0 : au) (_i0 : Nat) (ah : Bool) (ay : List aF) : List Ob :=
  [⟨1, 0, false, [.bool ah]⟩, ⟨4, 0, true, (aF.rows ay).flatten⟩]
def Qvg (p1 : Val) (p2 : BA) (o0 : au) (i0 : Nat) (ah : Bool) (ay : List aF) : En := .loop 1 Ir.Qqw Ir.Q1v5 (Q1je p1 p2 o0 i0 ah ay) (Q14u p1 p2 o0 i0 ah ay)
def Q10g (_p1 : Val) (_p2 : BA) (_o0 : au) (q0 : Bool) (q1 : List aF) (z : Nat → PV) (_zo : Nat → List PV) : St :=
  ⟨zr z 0 9 ++ [.ms 1 4 0 (List.length q1)] ++ zr z 10 20, [(0, ⟨1, 0, false, [.bool q0]⟩), (1, ⟨4, 0, true, (aF.rows q1).flatten⟩)], 66⟩
theorem Q1gc (p1 : Val) (p2 : BA) (o0 : au) (i0 : Nat) (ah : Bool) (ay : List aF) : VOK (Go.Pv.look (number 0 (Q14u p1 p2 o0 i0 ah ay))) [(1, aF.rows ay)] := (VOK.cons (show Seen _ _ from Q3r (ob := ⟨4, 0, true, (aF.rows ay).flatten⟩) (aF.Q8 ay 4 rfl)) VOK.nil)
def Qx1 (p1 : Val) (p2 : BA) (o0 : au) (e : En) (q : Bool × (List aF)) : Prop := ∃ z zo, Q5 G e (.st (.exit 0) (Q10g p1 p2 o0 q.1 q.2 z zo))
theorem Q108 (p1 : Val) (p2 : BA) (o0 : au) {e e' : En} (h : ∀ r, Q5 G e r → Q5 G e' r) : ∀ q, Qx1 p1 p2 o0 e q → Qx1 p1 p2 o0 e' q
  | _, ⟨z, zo, hz⟩ => ⟨z, zo, h _ hz⟩
def Qk0 (p1 : Val) (p2 : BA) (o0 : au) : Prop := (List.length (s_Kd p1 p2 4 o0).1.list ≤ 137438953472) ∧ (∀ x0 ∈ (s_Kd p1 p2 4 o0).1.list, H_Km x0) ∧ True
def Q10q (p1 : Val) (p2 : BA) (o0 : au) (i0 : Nat) (_ah : Bool) (_ay : List aF) : List PV :=
  [.un, .un, .un, .fn 250 [.bx 0 0] []] ++ nuns 12 ++ [.sl (Val.rows (s_Kd p1 p2 4 o0).1.list), iN ((List.length (s_Kd p1 p2 4 o0).1.list) : Int), iN (i0 : Int), .bool false]
def Qsr (_p1 : Val) (_p2 : BA) (_o0 : au) (_i0 : Nat) (_ah : Bool) (_ay : List aF) : List (Nat × List PV) :=
  []
theorem Q1j3 (p1 : Val) (p2 : BA) (o0 : au) (_H : Qk0 p1 p2 o0) (i0 : Nat) (ah : Bool) (ay : List aF) (_aR : List.length ay ≤ i0) (bF : (decide ((i0 : Int) < ((List.length (s_Kd p1 p2 4 o0).1.list) : Int))) = false) : Qx1 p1 p2 o0 (Qvg p1 p2 o0 i0 ah ay) (ah, ay) := by
 exact ⟨(envF (Q10q p1 p2 o0 i0 ah ay)), (zoF (Qsr p1 p2 o0 i0 ah ay)), Qg (Q1gc p1 p2 o0 i0 ah ay) (x := ((.exit 0), Q10g p1 p2 o0 ah ay (envF (Q10q p1 p2 o0 i0 ah ay)) (zoF (Qsr p1 p2 o0 i0 ah ay)))) [hB 0 bF] [] (by kernel_rfl)⟩
theorem Q1hn (p1 : Val) (p2 : BA) (o0 : au) (H : Qk0 p1 p2 o0) (x0 : Val) (i0 : Nat) (ah : Bool) (ay : List aF) (bH : (s_Kd p1 p2 4 o0).1.list[i0]? = some x0) (bT : i0 < List.length (s_Kd p1 p2 4 o0).1.list) (aR : List.length ay ≤ i0) (bF : (decide ((i0 : Int) < ((List.length (s_Kd p1 p2 4 o0).1.list) : Int))) = true) {r : Rs} (hr : Q5 G (Qvg p1 p2 o0 (i0 + 1) (s_Km x0 (au.mk ah)).2.bG (ay ++ [(s_Km x0 (au.mk ah)).1])) r) : Q5 G (Qvg p1 p2 o0 i0 ah ay) r := by
 have hB0 := H.1
 exact Qc (Q1gc p1 p2 o0 i0 ah ay) [hB 0 bF, hP 0 (Q1f 5 _ i0 _ (Val.Qb bH) rfl), hA 8 1 578 642 4 56 0 0 true aF.Q7 aF.Q1l ay (s_Km x0 (au.mk ah)).1 (aF.Qt ay) rfl rfl (by omega), hS 0 true (aF.Q8 (ay ++ [(s_Km x0 (au.mk ah)).1]) 4 rfl), hP 1 (Q26 i0 (by omega))] [aN (t_Km x0 (au.mk ah) (H.2.1 x0 (Q15 bH)))] hr (by kernel_rfl)
theorem Q180 (p1 : Val) (p2 : BA) (o0 : au) (H : Qk0 p1 p2 o0) : ∀ (r0 : List Val) (i0 : Nat) (ah : Bool) (ay : List aF), List.drop i0 (s_Kd p1 p2 4 o0).1.list = r0 → List.length ay ≤ i0 → Qx1 p1 p2 o0 (Qvg p1 p2 o0 i0 ah ay) (Q7i p1 p2 o0 r0 i0 ah ay)
 | [], i0, ah, ay, hd, aR => by
  have bF : (decide ((i0 : Int) < ((List.length (s_Kd p1 p2 4 o0).1.list) : Int))) = false := by have := Q1n hd; simp; omega
  rw [Q7i]
  exact Q1j3 p1 p2 o0 H i0 ah ay aR bF
 | x0 :: r0, i0, ah, ay, hd, aR => by
  obtain ⟨bH, bT, hd'⟩ := Q1o hd
  have bF : (decide ((i0 : Int) < ((List.length (s_Kd p1 p2 4 o0).1.list) : Int))) = true := by simp; omega
  rw [Q7i]
  exact Q108 p1 p2 o0 (fun r hr => Q1hn p1 p2 o0 H x0 i0 ah ay bH bT aR bF hr) _ (Q180 p1 p2 o0 H r0 _ _ _ hd' (by first | omega | (simp; omega)))
def s_Kx (p1 : Val) (p2 : BA) (o0 : au) : List aF × au := ((dE aF.dec p1 p2).1, ft o0 (isM p1 && (dE aF.dec p1 p2).2))
theorem Q1hz (p1 : Val) (p2 : BA) (o0 : au) : ∀ (l : List Val) (i : Nat) (b : Bool) (a : List aF), Q7i p1 p2 o0 l i b a = (b || !(l.all fun x => (aF.dec x).2), a ++ l.map (fun x => (aF.dec x).1))
  | [], _, b, a => by rw [Q7i]; simp
  | x :: l, i, b, a => by
    rw [Q7i]
    refine (Q1hz p1 p2 o0 l (i + 1) (b || !(aF.dec x).2) (a ++ [(aF.dec x).1])).trans ?_
    simp only [List.append_assoc, List.singleton_append, List.map_cons, List.all_cons, Bool.not_and, Bool.or_assoc]
theorem e_Kx (p1 : Val) (p2 : BA) (o0 : au) : s_Kx p1 p2 o0 = (((Q7i p1 p2 o0 (s_Kd p1 p2 4 o0).1.list 0 (s_Kd p1 p2 4 o0).2.bG []).2, (au.mk (Q7i p1 p2 o0 (s_Kd p1 p2 4 o0).1.list 0 (s_Kd p1 p2 4 o0).2.bG []).1))) := by
  rw [Q1hz]
  unfold s_Kd s_Kx
  simp only [Qab, Q5l]
  refine Prod.ext rfl ?_
  rw [Q9t o0.bG (isM p1) _ _ _ (Qyk (prt p1 p2)), Q6n]
  rfl
def c_Kx (p1 : Val) (p2 : BA) (o0 : au) : En := .call 249 [.bx 0 0, .agg (Val.cells p1), .str p2, .fn 250 [.bx 0 0] []] [⟨1, 0, false, (au.cells o0)⟩]
def r_Kx (_p1 : Val) (_p2 : BA) (_o0 : au) (q0 : List aF) (q1 : au) : Rs := .ret (.sl (aF.rows q0)) [⟨1, 0, false, (au.cells q1)⟩]
def a_Kx (p1 : Val) (p2 : BA) (o0 : au) : Rs := r_Kx p1 p2 o0 (s_Kx p1 p2 o0).1 (s_Kx p1 p2 o0).2
def H_Kx (p1 : Val) : Prop := Val.Sm 1000000000 p1
theorem Q1h3 (p1 : Val) (p2 : BA) (o0 : au) (H : H_Kx p1) : (H_Kd p1) ∧ (Qk0 p1 p2 o0) ∧ True := by
  have hl := Q69 (Qp H p2)
  refine ⟨H, ?_, trivial⟩
  unfold Qk0 s_Kd
  simp only [Qab]
  exact ⟨Nat.le_trans hl.1 (Nat.le_of_ble_eq_true rfl), hl.2, trivial⟩
theorem t_Kx (p1 : Val) (p2 : BA) (o0 : au) (H : H_Kx p1) : Q5 G (c_Kx p1 p2 o0) (a_Kx p1 p2 o0) := by
 unfold a_Kx
 rw [e_Kx]
 have hl0 := Q180 p1 p2 o0 ((Q1h3 p1 p2 o0 H).2.1) (s_Kd p1 p2 4 o0).1.list 0 (s_Kd p1 p2 4 o0).2.bG [] (by simp) (by simp)
 obtain ⟨z0, eG, hl0⟩ := hl0
 exact Q6 (fn := Ir.Kx) (by kernel_rfl) (h := [⟨1, 0, false, (au.cells o0)⟩]) (vw := []) VOK.nil [hP 8 (Qq _ _ (Val.Q7 (s_Kd p1 p2 4 o0).1.list)), hS 0 true (aF.Q8 (Q7i p1 p2 o0 (s_Kd p1 p2 4 o0).1.list 0 (s_Kd p1 p2 4 o0).2.bG []).2 4 rfl), hQ (aF.Q7 (Q7i p1 p2 o0 (s_Kd p1 p2 4 o0).1.list 0 (s_Kd p1 p2 4 o0).2.bG []).2).symm] [aN (t_Kd p1 p2 4 o0 (Q1h3 p1 p2 o0 H).1), aV [(1, aF.rows (Q7i p1 p2 o0 (s_Kd p1 p2 4 o0).1.list 0 (s_Kd p1 p2 4 o0).2.bG []).2)] hl0] (by kernel_rfl)
def s_Kr (p1 : Val) (o0 : au) : aI × au := ((aI.dec p1).1, ft o0 (aI.dec p1).2)
theorem e_Kr (p1 : Val) (o0 : au) : s_Kr p1 o0 = (((aI.mk (s_Kn p1 Q1c (s_Ko p1 o0).2).1 (s_Kn p1 Q1s (s_Kn p1 Q1c (s_Ko p1 o0).2).2).1 (s_Kc p1 Q2f (s_Kn p1 Q1s (s_Kn p1 Q1c (s_Ko p1 o0).2).2).2).1 (s_Kg p1 Q2e (s_Kc p1 Q2f (s_Kn p1 Q1s (s_Kn p1 Q1c (s_Ko p1 o0).2).2).2).2).1 (s_Kg p1 Q2i (s_Kg p1 Q2e (s_Kc p1 Q2f (s_Kn p1 Q1s (s_Kn p1 Q1c (s_Ko p1 o0).2).2).2).2).2).1), (s_Kg p1 Q2i (s_Kg p1 Q2e (s_Kc p1 Q2f (s_Kn p1 Q1s (s_Kn p1 Q1c (s_Ko p1 o0).2).2).2).2).2).2)) := by
  simp only [s_Ko, s_Kg, s_Kn, s_Kc, s_Kr, aI.dec, Qnx, Bool.and_assoc, Bool.and_left_comm, Bool.and_comm, Bool.and_self_left]
def c_Kr (p1 : Val) (o0 : au) : En := .call 252 [.bx 0 0, .agg (Val.cells p1)] [⟨1, 0, false, (au.cells o0)⟩]
def r_Kr (_p1 : Val) (_o0 : au) (q0 : aI) (q1 : au) : Rs := .ret (.agg (aI.cells q0)) [⟨1, 0, false, (au.cells q1)⟩]
def a_Kr (p1 : Val) (o0 : au) : Rs := r_Kr p1 o0 (s_Kr p1 o0).1 (s_Kr p1 o0).2
def H_Kr (p1 : Val) : Prop := Val.Sm 1000000000 p1
theorem Qnz (p1 : Val) (_o0 : au) (H : H_Kr p1) : (H_Kn p1) ∧ (H_Kc p1) ∧ (H_Kg p1) ∧ True := by
  repeat' with_reducible apply And.intro
  all_goals first | exact True.intro | exact H | exact Qp5 (Qp H _)
theorem t_Kr (p1 : Val) (o0 : au) (H : H_Kr p1) : Q5 G (c_Kr p1 o0) (a_Kr p1 o0) := by
 unfold a_Kr
 rw [e_Kr]
 exact Q6 (fn := Ir.Kr) (by kernel_rfl) (h := [⟨1, 0, false, (au.cells o0)⟩]) (vw := []) VOK.nil [] [aN (t_Ko p1 o0), aN (t_Kn p1 Q1c (s_Ko p1 o0).2 (Qnz p1 o0 H).1), aN (t_Kn p1 Q1s (s_Kn p1 Q1c (s_Ko p1 o0).2).2 (Qnz p1 o0 H).1), aN (t_Kc p1 Q2f (s_Kn p1 Q1s (s_Kn p1 Q1c (s_Ko p1 o0).2).2).2 (Qnz p1 o0 H).2.1), aN (t_Kg p1 Q2e (s_Kc p1 Q2f (s_Kn p1 Q1s (s_Kn p1 Q1c (s_Ko p1 o0).2).2).2).2 (Qnz p1 o0 H).2.2.1), aN (t_Kg p1 Q2i (s_Kg p1 Q2e (s_Kc p1 Q2f (s_Kn p1 Q1s (s_Kn p1 Q1c (s_Ko p1 o0).2).2).2).2).2 (Qnz p1 o0 H).2.2.1)] (by kernel_rfl)
def Q7j (p1 : Val) (p2 : BA) (o0 : au) : List Val → Nat → Bool → (List aI) → Bool × (List aI)
 | [], _i0, ah, ay =>
  (ah, ay)
 | x0 :: r0, i0, ah, ay =>
  Q7j p1 p2 o0 r0 (i0 + 1) (s_Kr x0 (au.mk ah)).2.bG (ay ++ [(s_Kr x0 (au.mk ah)).1])
def Q1jf (p1 : Val) (p2 : BA) (o0 : au) (i0 : Nat) (_ah : Bool) (ay : List aI) : List PV :=
  [.un, .un, .un, .fn 252 [.bx 0 0] []] ++ nuns 5 ++ [.ms 1 5 0 (List.length ay)] ++ nuns 6 ++ [.sl (Val.rows (s_Kd p1 p2 4 o0).1.list), iN ((List.length (s_Kd p1 p2 4 o0).1.list) : Int), iN (i0 : Int)] ++ nuns 11
def Q14v (_p1 : Val) (_p2 : BA) (_o0 : au) (_i0 : Nat) (ah : Bool) (ay : List aI) : List Ob :=
  [⟨1, 0, false, [.bool ah]⟩, ⟨5, 0, true, (aI.rows ay).flatten⟩]
def Qvh (p1 : Val) (p2 : BA) (o0 : au) (i0 : Nat) (ah : Bool) (ay : List aI) : En := .loop 1 Ir.Qqx Ir.Q1v6 (Q1jf p1 p2 o0 i0 ah ay) (Q14v p1 p2 o0 i0 ah ay)
def Q10h (_p1 : Val) (_p2 : BA) (_o0 : au) (q0 : Bool) (q1 : List aI) (z : Nat → PV) (_zo : Nat → List PV) : St :=
  ⟨zr z 0 9 ++ [.ms 1 5 0 (List.length q1)] ++ zr z 10 20, [(0, ⟨1, 0, false, [.bool q0]⟩), (1, ⟨5, 0, true, (aI.rows q1).flatten⟩)], 66⟩
theorem Q1gd (p1 : Val) (p2 : BA) (o0 : au) (i0 : Nat) (ah : Bool) (ay : List aI) : VOK (Go.Pv.look (number 0 (Q14v p1 p2 o0 i0 ah ay))) [(1, aI.rows ay)] := (VOK.cons (show Seen _ _ from Q3r (ob := ⟨5, 0, true, (aI.rows ay).flatten⟩) (aI.Q8 ay 5 rfl)) VOK.nil)
def Qx2 (p1 : Val) (p2 : BA) (o0 : au) (e : En) (q : Bool × (List aI)) : Prop := ∃ z zo, Q5 G e (.st (.exit 0) (Q10h p1 p2 o0 q.1 q.2 z zo))
theorem Q109 (p1 : Val) (p2 : BA) (o0 : au) {e e' : En} (h : ∀ r, Q5 G e r → Q5 G e' r) : ∀ q, Qx2 p1 p2 o0 e q → Qx2 p1 p2 o0 e' q
  | _, ⟨z, zo, hz⟩ => ⟨z, zo, h _ hz⟩
def Qk1 (p1 : Val) (p2 : BA) (o0 : au) : Prop := (List.length (s_Kd p1 p2 4 o0).1.list ≤ 137438953472) ∧ (∀ x0 ∈ (s_Kd p1 p2 4 o0).1.list, H_Kr x0) ∧ True
def Q10r (p1 : Val) (p2 : BA) (o0 : au) (i0 : Nat) (_ah : Bool) (_ay : List aI) : List PV :=
  [.un, .un, .un, .fn 252 [.bx 0 0] []] ++ nuns 12 ++ [.sl (Val.rows (s_Kd p1 p2 4 o0).1.list), iN ((List.length (s_Kd p1 p2 4 o0).1.list) : Int), iN (i0 : Int), .bool false]
def Qss (_p1 : Val) (_p2 : BA) (_o0 : au) (_i0 : Nat) (_ah : Bool) (_ay : List aI) : List (Nat × List PV) :=
  []
theorem Q1j4 (p1 : Val) (p2 : BA) (o0 : au) (_H : Qk1 p1 p2 o0) (i0 : Nat) (ah : Bool) (ay : List aI) (_aR : List.length ay ≤ i0) (bF : (decide ((i0 : Int) < ((List.length (s_Kd p1 p2 4 o0).1.list) : Int))) = false) : Qx2 p1 p2 o0 (Qvh p1 p2 o0 i0 ah ay) (ah, ay) := by
 exact ⟨(envF (Q10r p1 p2 o0 i0 ah ay)), (zoF (Qss p1 p2 o0 i0 ah ay)), Qg (Q1gd p1 p2 o0 i0 ah ay) (x := ((.exit 0), Q10h p1 p2 o0 ah ay (envF (Q10r p1 p2 o0 i0 ah ay)) (zoF (Qss p1 p2 o0 i0 ah ay)))) [hB 0 bF] [] (by kernel_rfl)⟩
theorem Q1ho (p1 : Val) (p2 : BA) (o0 : au) (H : Qk1 p1 p2 o0) (x0 : Val) (i0 : Nat) (ah : Bool) (ay : List aI) (bH : (s_Kd p1 p2 4 o0).1.list[i0]? = some x0) (bT : i0 < List.length (s_Kd p1 p2 4 o0).1.list) (aR : List.length ay ≤ i0) (bF : (decide ((i0 : Int) < ((List.length (s_Kd p1 p2 4 o0).1.list) : Int))) = true) {r : Rs} (hr : Q5 G (Qvh p1 p2 o0 (i0 + 1) (s_Kr x0 (au.mk ah)).2.bG (ay ++ [(s_Kr x0 (au.mk ah)).1])) r) : Q5 G (Qvh p1 p2 o0 i0 ah ay) r := by
 have hB0 := H.1
 exact Qc (Q1gd p1 p2 o0 i0 ah ay) [hB 0 bF, hP 0 (Q1f 5 _ i0 _ (Val.Qb bH) rfl), hA 8 1 578 642 5 56 0 0 true aI.Q7 aI.Q1l ay (s_Kr x0 (au.mk ah)).1 (aI.Qt ay) rfl rfl (by omega), hS 0 true (aI.Q8 (ay ++ [(s_Kr x0 (au.mk ah)).1]) 5 rfl), hP 1 (Q26 i0 (by omega))] [aN (t_Kr x0 (au.mk ah) (H.2.1 x0 (Q15 bH)))] hr (by kernel_rfl)
theorem Q181 (p1 : Val) (p2 : BA) (o0 : au) (H : Qk1 p1 p2 o0) : ∀ (r0 : List Val) (i0 : Nat) (ah : Bool) (ay : List aI), List.drop i0 (s_Kd p1 p2 4 o0).1.list = r0 → List.length ay ≤ i0 → Qx2 p1 p2 o0 (Qvh p1 p2 o0 i0 ah ay) (Q7j p1 p2 o0 r0 i0 ah ay)
 | [], i0, ah, ay, hd, aR => by
  have bF : (decide ((i0 : Int) < ((List.length (s_Kd p1 p2 4 o0).1.list) : Int))) = false := by have := Q1n hd; simp; omega
  rw [Q7j]
  exact Q1j4 p1 p2 o0 H i0 ah ay aR bF
 | x0 :: r0, i0, ah, ay, hd, aR => by
  obtain ⟨bH, bT, hd'⟩ := Q1o hd
  have bF : (decide ((i0 : Int) < ((List.length (s_Kd p1 p2 4 o0).1.list) : Int))) = true := by simp; omega
  rw [Q7j]
  exact Q109 p1 p2 o0 (fun r hr => Q1ho p1 p2 o0 H x0 i0 ah ay bH bT aR bF hr) _ (Q181 p1 p2 o0 H r0 _ _ _ hd' (by first | omega | (simp; omega)))
def s_Ky (p1 : Val) (p2 : BA) (o0 : au) : List aI × au := ((dE aI.dec p1 p2).1, ft o0 (isM p1 && (dE aI.dec p1 p2).2))
theorem Q1i0 (p1 : Val) (p2 : BA) (o0 : au) : ∀ (l : List Val) (i : Nat) (b : Bool) (a : List aI), Q7j p1 p2 o0 l i b a = (b || !(l.all fun x => (aI.dec x).2), a ++ l.map (fun x => (aI.dec x).1))
  | [], _, b, a => by rw [Q7j]; simp
  | x :: l, i, b, a => by
    rw [Q7j]
    refine (Q1i0 p1 p2 o0 l (i + 1) (b || !(aI.dec x).2) (a ++ [(aI.dec x).1])).trans ?_
    simp only [List.append_assoc, List.singleton_append, List.map_cons, List.all_cons, Bool.not_and, Bool.or_assoc]
theorem e_Ky (p1 : Val) (p2 : BA) (o0 : au) : s_Ky p1 p2 o0 = (((Q7j p1 p2 o0 (s_Kd p1 p2 4 o0).1.list 0 (s_Kd p1 p2 4 o0).2.bG []).2, (au.mk (Q7j p1 p2 o0 (s_Kd p1 p2 4 o0).1.list 0 (s_Kd p1 p2 4 o0).2.bG []).1))) := by
  rw [Q1i0]
  unfold s_Kd s_Ky
  simp only [Qab, Q5l]
  refine Prod.ext rfl ?_
  rw [Q9t o0.bG (isM p1) _ _ _ (Qyk (prt p1 p2)), Q6n]
  rfl
def c_Ky (p1 : Val) (p2 : BA) (o0 : au) : En := .call 251 [.bx 0 0, .agg (Val.cells p1), .str p2, .fn 252 [.bx 0 0] []] [⟨1, 0, false, (au.cells o0)⟩]
def r_Ky (_p1 : Val) (_p2 : BA) (_o0 : au) (q0 : List aI) (q1 : au) : Rs := .ret (.sl (aI.rows q0)) [⟨1, 0, false, (au.cells q1)⟩]
def a_Ky (p1 : Val) (p2 : BA) (o0 : au) : Rs := r_Ky p1 p2 o0 (s_Ky p1 p2 o0).1 (s_Ky p1 p2 o0).2
def H_Ky (p1 : Val) : Prop := Val.Sm 1000000000 p1
theorem Q1h4 (p1 : Val) (p2 : BA) (o0 : au) (H : H_Ky p1) : (H_Kd p1) ∧ (Qk1 p1 p2 o0) ∧ True := by
  have hl := Q69 (Qp H p2)
  refine ⟨H, ?_, trivial⟩
  unfold Qk1 s_Kd
  simp only [Qab]
  exact ⟨Nat.le_trans hl.1 (Nat.le_of_ble_eq_true rfl), hl.2, trivial⟩
theorem t_Ky (p1 : Val) (p2 : BA) (o0 : au) (H : H_Ky p1) : Q5 G (c_Ky p1 p2 o0) (a_Ky p1 p2 o0) := by
 unfold a_Ky
 rw [e_Ky]
 have hl0 := Q181 p1 p2 o0 ((Q1h4 p1 p2 o0 H).2.1) (s_Kd p1 p2 4 o0).1.list 0 (s_Kd p1 p2 4 o0).2.bG [] (by simp) (by simp)
 obtain ⟨z0, eG, hl0⟩ := hl0
 exact Q6 (fn := Ir.Ky) (by kernel_rfl) (h := [⟨1, 0, false, (au.cells o0)⟩]) (vw := []) VOK.nil [hP 8 (Qq _ _ (Val.Q7 (s_Kd p1 p2 4 o0).1.list)), hS 0 true (aI.Q8 (Q7j p1 p2 o0 (s_Kd p1 p2 4 o0).1.list 0 (s_Kd p1 p2 4 o0).2.bG []).2 5 rfl), hQ (aI.Q7 (Q7j p1 p2 o0 (s_Kd p1 p2 4 o0).1.list 0 (s_Kd p1 p2 4 o0).2.bG []).2).symm] [aN (t_Kd p1 p2 4 o0 (Q1h4 p1 p2 o0 H).1), aV [(1, aI.rows (Q7j p1 p2 o0 (s_Kd p1 p2 4 o0).1.list 0 (s_Kd p1 p2 4 o0).2.bG []).2)] hl0] (by kernel_rfl)
def s_Kl (p1 : Val) (o0 : au) : bC × au := ((bC.dec p1).1, ft o0 (bC.dec p1).2)
theorem e_Kl (p1 : Val) (o0 : au) : s_Kl p1 o0 = (((bC.mk (s_Kn p1 Q1b (s_Ko p1 o0).2).1 (s_Kg p1 Q1p (s_Kn p1 Q1b (s_Ko p1 o0).2).2).1 (s_Kg p1 Q1z (s_Kg p1 Q1p (s_Kn p1 Q1b (s_Ko p1 o0).2).2).2).1 (s_Kg p1 Q2s (s_Kg p1 Q1z (s_Kg p1 Q1p (s_Kn p1 Q1b (s_Ko p1 o0).2).2).2).2).1 (s_Kt p1 Qo (s_Kg p1 Q2s (s_Kg p1 Q1z (s_Kg p1 Q1p (s_Kn p1 Q1b (s_Ko p1 o0).2).2).2).2).2).1 (s_Ku p1 Q13 (s_Kt p1 Qo (s_Kg p1 Q2s (s_Kg p1 Q1z (s_Kg p1 Q1p (s_Kn p1 Q1b (s_Ko p1 o0).2).2).2).2).2).2).1 (s_Kv p1 Qs (s_Ku p1 Q13 (s_Kt p1 Qo (s_Kg p1 Q2s (s_Kg p1 Q1z (s_Kg p1 Q1p (s_Kn p1 Q1b (s_Ko p1 o0).2).2).2).2).2).2).2).1 (s_Kw p1 Qy (s_Kv p1 Qs (s_Ku p1 Q13 (s_Kt p1 Qo (s_Kg p1 Q2s (s_Kg p1 Q1z (s_Kg p1 Q1p (s_Kn p1 Q1b (s_Ko p1 o0).2).2).2).2).2).2).2).2).1 (s_Kx p1 Q1q (s_Kw p1 Qy (s_Kv p1 Qs (s_Ku p1 Q13 (s_Kt p1 Qo (s_Kg p1 Q2s (s_Kg p1 Q1z (s_Kg p1 Q1p (s_Kn p1 Q1b (s_Ko p1 o0).2).2).2).2).2).2).2).2).2).1 (s_Ky p1 Ql (s_Kx p1 Q1q (s_Kw p1 Qy (s_Kv p1 Qs (s_Ku p1 Q13 (s_Kt p1 Qo (s_Kg p1 Q2s (s_Kg p1 Q1z (s_Kg p1 Q1p (s_Kn p1 Q1b (s_Ko p1 o0).2).2).2).2).2).2).2).2).2).2).1), (s_Ky p1 Ql (s_Kx p1 Q1q (s_Kw p1 Qy (s_Kv p1 Qs (s_Ku p1 Q13 (s_Kt p1 Qo (s_Kg p1 Q2s (s_Kg p1 Q1z (s_Kg p1 Q1p (s_Kn p1 Q1b (s_Ko p1 o0).2).2).2).2).2).2).2).2).2).2).2)) := by
  simp only [s_Ko, s_Kg, s_Kn, s_Kt, s_Kv, s_Kw, s_Ku, s_Kx, s_Ky, s_Kl, bC.dec, Qnx, Bool.and_assoc, Bool.and_left_comm, Bool.and_comm, Bool.and_self_left]
def c_Kl (p1 : Val) (o0 : au) : En := .call 218 [.bx 0 0, .agg (Val.cells p1)] [⟨1, 0, false, (au.cells o0)⟩]
def r_Kl (_p1 : Val) (_o0 : au) (q0 : bC) (q1 : au) : Rs := .ret (.agg (bC.cells q0)) [⟨1, 0, false, (au.cells q1)⟩]
def a_Kl (p1 : Val) (o0 : au) : Rs := r_Kl p1 o0 (s_Kl p1 o0).1 (s_Kl p1 o0).2
def H_Kl (p1 : Val) : Prop := Val.Sm 1000000000 p1
theorem Q8y (p1 : Val) (_o0 : au) (H : H_Kl p1) : (H_Kn p1) ∧ (H_Kg p1) ∧ (H_Kt p1) ∧ (H_Ku p1) ∧ (H_Kv p1) ∧ (H_Kw p1) ∧ (H_Kx p1) ∧ (H_Ky p1) ∧ True := by
  repeat' with_reducible apply And.intro
  all_goals first | exact True.intro | exact H | exact Qp5 (Qp H _)
theorem t_Kl (p1 : Val) (o0 : au) (H : H_Kl p1) : Q5 G (c_Kl p1 o0) (a_Kl p1 o0) := by
 unfold a_Kl
 rw [e_Kl]
 exact Q6 (fn := Ir.Kl) (by kernel_rfl) (h := [⟨1, 0, false, (au.cells o0)⟩]) (vw := []) VOK.nil [] [aN (t_Ko p1 o0), aN (t_Kn p1 Q1b (s_Ko p1 o0).2 (Q8y p1 o0 H).1), aN (t_Kg p1 Q1p (s_Kn p1 Q1b (s_Ko p1 o0).2).2 (Q8y p1 o0 H).2.1), aN (t_Kg p1 Q1z (s_Kg p1 Q1p (s_Kn p1 Q1b (s_Ko p1 o0).2).2).2 (Q8y p1 o0 H).2.1), aN (t_Kg p1 Q2s (s_Kg p1 Q1z (s_Kg p1 Q1p (s_Kn p1 Q1b (s_Ko p1 o0).2).2).2).2 (Q8y p1 o0 H).2.1), aN (t_Kt p1 Qo (s_Kg p1 Q2s (s_Kg p1 Q1z (s_Kg p1 Q1p (s_Kn p1 Q1b (s_Ko p1 o0).2).2).2).2).2 (Q8y p1 o0 H).2.2.1), aN (t_Ku p1 Q13 (s_Kt p1 Qo (s_Kg p1 Q2s (s_Kg p1 Q1z (s_Kg p1 Q1p (s_Kn p1 Q1b (s_Ko p1 o0).2).2).2).2).2).2 (Q8y p1 o0 H).2.2.2.1), aN (t_Kv p1 Qs (s_Ku p1 Q13 (s_Kt p1 Qo (s_Kg p1 Q2s (s_Kg p1 Q1z (s_Kg p1 Q1p (s_Kn p1 Q1b (s_Ko p1 o0).2).2).2).2).2).2).2 (Q8y p1 o0 H).2.2.2.2.1), aN (t_Kw p1 Qy (s_Kv p1 Qs (s_Ku p1 Q13 (s_Kt p1 Qo (s_Kg p1 Q2s (s_Kg p1 Q1z (s_Kg p1 Q1p (s_Kn p1 Q1b (s_Ko p1 o0).2).2).2).2).2).2).2).2 (Q8y p1 o0 H).2.2.2.2.2.1), aN (t_Kx p1 Q1q (s_Kw p1 Qy (s_Kv p1 Qs (s_Ku p1 Q13 (s_Kt p1 Qo (s_Kg p1 Q2s (s_Kg p1 Q1z (s_Kg p1 Q1p (s_Kn p1 Q1b (s_Ko p1 o0).2).2).2).2).2).2).2).2).2 (Q8y p1 o0 H).2.2.2.2.2.2.1), aN (t_Ky p1 Ql (s_Kx p1 Q1q (s_Kw p1 Qy (s_Kv p1 Qs (s_Ku p1 Q13 (s_Kt p1 Qo (s_Kg p1 Q2s (s_Kg p1 Q1z (s_Kg p1 Q1p (s_Kn p1 Q1b (s_Ko p1 o0).2).2).2).2).2).2).2).2).2).2 (Q8y p1 o0 H).2.2.2.2.2.2.2.1)] (by kernel_rfl)
def s_Ke (p1 : Val) (o0 : au) : bf × au := ((bf.dec p1).1, ft o0 (bf.dec p1).2)
theorem e_Ke (p1 : Val) (o0 : au) : s_Ke p1 o0 = (((bf.mk (s_Kn p1 Q1c (s_Ko p1 o0).2).1 (s_Kn p1 Q1s (s_Kn p1 Q1c (s_Ko p1 o0).2).2).1), (s_Kn p1 Q1s (s_Kn p1 Q1c (s_Ko p1 o0).2).2).2)) := by
  simp only [s_Ko, s_Kn, s_Ke, bf.dec, Qnx, Bool.and_assoc, Bool.and_left_comm, Bool.and_self_left]
def c_Ke (p1 : Val) (o0 : au) : En := .call 217 [.bx 0 0, .agg (Val.cells p1)] [⟨1, 0, false, (au.cells o0)⟩]
def r_Ke (_p1 : Val) (_o0 : au) (q0 : bf) (q1 : au) : Rs := .ret (.agg (bf.cells q0)) [⟨1, 0, false, (au.cells q1)⟩]
def a_Ke (p1 : Val) (o0 : au) : Rs := r_Ke p1 o0 (s_Ke p1 o0).1 (s_Ke p1 o0).2
def H_Ke (p1 : Val) : Prop := Val.Sm 1000000000 p1
theorem Q1gx (p1 : Val) (_o0 : au) (H : H_Ke p1) : (H_Kn p1) ∧ True := by
  repeat' with_reducible apply And.intro
  all_goals first | exact True.intro | exact H | exact Qp5 (Qp H _)
theorem t_Ke (p1 : Val) (o0 : au) (H : H_Ke p1) : Q5 G (c_Ke p1 o0) (a_Ke p1 o0) := by
 unfold a_Ke
 rw [e_Ke]
 exact Q6 (fn := Ir.Ke) (by kernel_rfl) (h := [⟨1, 0, false, (au.cells o0)⟩]) (vw := []) VOK.nil [] [aN (t_Ko p1 o0), aN (t_Kn p1 Q1c (s_Ko p1 o0).2 (Q1gx p1 o0 H).1), aN (t_Kn p1 Q1s (s_Kn p1 Q1c (s_Ko p1 o0).2).2 (Q1gx p1 o0 H).1)] (by kernel_rfl)
def Q7d (p1 : Val) (p2 : BA) (o0 : au) : List Val → Nat → Bool → (List bf) → Bool × (List bf)
 | [], _i0, ah, ay =>
  (ah, ay)
 | x0 :: r0, i0, ah, ay =>
  Q7d p1 p2 o0 r0 (i0 + 1) (s_Ke x0 (au.mk ah)).2.bG (ay ++ [(s_Ke x0 (au.mk ah)).1])
def Q1j9 (p1 : Val) (p2 : BA) (o0 : au) (i0 : Nat) (_ah : Bool) (ay : List bf) : List PV :=
  [.un, .un, .un, .fn 217 [.bx 0 0] []] ++ nuns 5 ++ [.ms 1 2 0 (List.length ay)] ++ nuns 6 ++ [.sl (Val.rows (s_Kd p1 p2 4 o0).1.list), iN ((List.length (s_Kd p1 p2 4 o0).1.list) : Int), iN (i0 : Int)] ++ nuns 11
def Q14p (_p1 : Val) (_p2 : BA) (_o0 : au) (_i0 : Nat) (ah : Bool) (ay : List bf) : List Ob :=
  [⟨1, 0, false, [.bool ah]⟩, ⟨2, 0, true, (bf.rows ay).flatten⟩]
def Qvb (p1 : Val) (p2 : BA) (o0 : au) (i0 : Nat) (ah : Bool) (ay : List bf) : En := .loop 1 Ir.Qqr Ir.Q1v0 (Q1j9 p1 p2 o0 i0 ah ay) (Q14p p1 p2 o0 i0 ah ay)
def Q10b (_p1 : Val) (_p2 : BA) (_o0 : au) (q0 : Bool) (q1 : List bf) (z : Nat → PV) (_zo : Nat → List PV) : St :=
  ⟨zr z 0 9 ++ [.ms 1 2 0 (List.length q1)] ++ zr z 10 20, [(0, ⟨1, 0, false, [.bool q0]⟩), (1, ⟨2, 0, true, (bf.rows q1).flatten⟩)], 66⟩
theorem Q1g7 (p1 : Val) (p2 : BA) (o0 : au) (i0 : Nat) (ah : Bool) (ay : List bf) : VOK (Go.Pv.look (number 0 (Q14p p1 p2 o0 i0 ah ay))) [(1, bf.rows ay)] := (VOK.cons (show Seen _ _ from Q3r (ob := ⟨2, 0, true, (bf.rows ay).flatten⟩) (bf.Q8 ay 2 rfl)) VOK.nil)
def Qww (p1 : Val) (p2 : BA) (o0 : au) (e : En) (q : Bool × (List bf)) : Prop := ∃ z zo, Q5 G e (.st (.exit 0) (Q10b p1 p2 o0 q.1 q.2 z zo))
theorem Q103 (p1 : Val) (p2 : BA) (o0 : au) {e e' : En} (h : ∀ r, Q5 G e r → Q5 G e' r) : ∀ q, Qww p1 p2 o0 e q → Qww p1 p2 o0 e' q
  | _, ⟨z, zo, hz⟩ => ⟨z, zo, h _ hz⟩
def Qjv (p1 : Val) (p2 : BA) (o0 : au) : Prop := (List.length (s_Kd p1 p2 4 o0).1.list ≤ 137438953472) ∧ (∀ x0 ∈ (s_Kd p1 p2 4 o0).1.list, H_Ke x0) ∧ True
def Q10l (p1 : Val) (p2 : BA) (o0 : au) (i0 : Nat) (_ah : Bool) (_ay : List bf) : List PV :=
  [.un, .un, .un, .fn 217 [.bx 0 0] []] ++ nuns 12 ++ [.sl (Val.rows (s_Kd p1 p2 4 o0).1.list), iN ((List.length (s_Kd p1 p2 4 o0).1.list) : Int), iN (i0 : Int), .bool false]
def Qsm (_p1 : Val) (_p2 : BA) (_o0 : au) (_i0 : Nat) (_ah : Bool) (_ay : List bf) : List (Nat × List PV) :=
  []
theorem Q1iy (p1 : Val) (p2 : BA) (o0 : au) (_H : Qjv p1 p2 o0) (i0 : Nat) (ah : Bool) (ay : List bf) (_aR : List.length ay ≤ i0) (bF : (decide ((i0 : Int) < ((List.length (s_Kd p1 p2 4 o0).1.list) : Int))) = false) : Qww p1 p2 o0 (Qvb p1 p2 o0 i0 ah ay) (ah, ay) := by
 exact ⟨(envF (Q10l p1 p2 o0 i0 ah ay)), (zoF (Qsm p1 p2 o0 i0 ah ay)), Qg (Q1g7 p1 p2 o0 i0 ah ay) (x := ((.exit 0), Q10b p1 p2 o0 ah ay (envF (Q10l p1 p2 o0 i0 ah ay)) (zoF (Qsm p1 p2 o0 i0 ah ay)))) [hB 0 bF] [] (by kernel_rfl)⟩
theorem Q1hi (p1 : Val) (p2 : BA) (o0 : au) (H : Qjv p1 p2 o0) (x0 : Val) (i0 : Nat) (ah : Bool) (ay : List bf) (bH : (s_Kd p1 p2 4 o0).1.list[i0]? = some x0) (bT : i0 < List.length (s_Kd p1 p2 4 o0).1.list) (aR : List.length ay ≤ i0) (bF : (decide ((i0 : Int) < ((List.length (s_Kd p1 p2 4 o0).1.list) : Int))) = true) {r : Rs} (hr : Q5 G (Qvb p1 p2 o0 (i0 + 1) (s_Ke x0 (au.mk ah)).2.bG (ay ++ [(s_Ke x0 (au.mk ah)).1])) r) : Q5 G (Qvb p1 p2 o0 i0 ah ay) r := by
 have hB0 := H.1
 exact Qc (Q1g7 p1 p2 o0 i0 ah ay) [hB 0 bF, hP 0 (Q1f 5 _ i0 _ (Val.Qb bH) rfl), hA 8 1 578 642 2 32 0 0 true bf.Q7 bf.Q1l ay (s_Ke x0 (au.mk ah)).1 (bf.Qt ay) rfl rfl (by omega), hS 0 true (bf.Q8 (ay ++ [(s_Ke x0 (au.mk ah)).1]) 2 rfl), hP 1 (Q26 i0 (by omega))] [aN (t_Ke x0 (au.mk ah) (H.2.1 x0 (Q15 bH)))] hr (by kernel_rfl)
theorem Q17v (p1 : Val) (p2 : BA) (o0 : au) (H : Qjv p1 p2 o0) : ∀ (r0 : List Val) (i0 : Nat) (ah : Bool) (ay : List bf), List.drop i0 (s_Kd p1 p2 4 o0).1.list = r0 → List.length ay ≤ i0 → Qww p1 p2 o0 (Qvb p1 p2 o0 i0 ah ay) (Q7d p1 p2 o0 r0 i0 ah ay)
 | [], i0, ah, ay, hd, aR => by
  have bF : (decide ((i0 : Int) < ((List.length (s_Kd p1 p2 4 o0).1.list) : Int))) = false := by have := Q1n hd; simp; omega
  rw [Q7d]
  exact Q1iy p1 p2 o0 H i0 ah ay aR bF
 | x0 :: r0, i0, ah, ay, hd, aR => by
  obtain ⟨bH, bT, hd'⟩ := Q1o hd
  have bF : (decide ((i0 : Int) < ((List.length (s_Kd p1 p2 4 o0).1.list) : Int))) = true := by simp; omega
  rw [Q7d]
  exact Q103 p1 p2 o0 (fun r hr => Q1hi p1 p2 o0 H x0 i0 ah ay bH bT aR bF hr) _ (Q17v p1 p2 o0 H r0 _ _ _ hd' (by first | omega | (simp; omega)))
def s_Ks (p1 : Val) (p2 : BA) (o0 : au) : List bf × au := ((dE bf.dec p1 p2).1, ft o0 (isM p1 && (dE bf.dec p1 p2).2))
theorem Q1hu (p1 : Val) (p2 : BA) (o0 : au) : ∀ (l : List Val) (i : Nat) (b : Bool) (a : List bf), Q7d p1 p2 o0 l i b a = (b || !(l.all fun x => (bf.dec x).2), a ++ l.map (fun x => (bf.dec x).1))
  | [], _, b, a => by rw [Q7d]; simp
  | x :: l, i, b, a => by
    rw [Q7d]
    refine (Q1hu p1 p2 o0 l (i + 1) (b || !(bf.dec x).2) (a ++ [(bf.dec x).1])).trans ?_
    simp only [List.append_assoc, List.singleton_append, List.map_cons, List.all_cons, Bool.not_and, Bool.or_assoc]
theorem e_Ks (p1 : Val) (p2 : BA) (o0 : au) : s_Ks p1 p2 o0 = (((Q7d p1 p2 o0 (s_Kd p1 p2 4 o0).1.list 0 (s_Kd p1 p2 4 o0).2.bG []).2, (au.mk (Q7d p1 p2 o0 (s_Kd p1 p2 4 o0).1.list 0 (s_Kd p1 p2 4 o0).2.bG []).1))) := by
  rw [Q1hu]
  unfold s_Kd s_Ks
  simp only [Qab, Q5l]
  refine Prod.ext rfl ?_
  rw [Q9t o0.bG (isM p1) _ _ _ (Qyk (prt p1 p2)), Q6n]
  rfl
def c_Ks (p1 : Val) (p2 : BA) (o0 : au) : En := .call 216 [.bx 0 0, .agg (Val.cells p1), .str p2, .fn 217 [.bx 0 0] []] [⟨1, 0, false, (au.cells o0)⟩]
def r_Ks (_p1 : Val) (_p2 : BA) (_o0 : au) (q0 : List bf) (q1 : au) : Rs := .ret (.sl (bf.rows q0)) [⟨1, 0, false, (au.cells q1)⟩]
def a_Ks (p1 : Val) (p2 : BA) (o0 : au) : Rs := r_Ks p1 p2 o0 (s_Ks p1 p2 o0).1 (s_Ks p1 p2 o0).2
def H_Ks (p1 : Val) : Prop := Val.Sm 1000000000 p1
theorem Q1gy (p1 : Val) (p2 : BA) (o0 : au) (H : H_Ks p1) : (H_Kd p1) ∧ (Qjv p1 p2 o0) ∧ True := by
  have hl := Q69 (Qp H p2)
  refine ⟨H, ?_, trivial⟩
  unfold Qjv s_Kd
  simp only [Qab]
  exact ⟨Nat.le_trans hl.1 (Nat.le_of_ble_eq_true rfl), hl.2, trivial⟩
theorem t_Ks (p1 : Val) (p2 : BA) (o0 : au) (H : H_Ks p1) : Q5 G (c_Ks p1 p2 o0) (a_Ks p1 p2 o0) := by
 unfold a_Ks
 rw [e_Ks]
 have hl0 := Q17v p1 p2 o0 ((Q1gy p1 p2 o0 H).2.1) (s_Kd p1 p2 4 o0).1.list 0 (s_Kd p1 p2 4 o0).2.bG [] (by simp) (by simp)
 obtain ⟨z0, eG, hl0⟩ := hl0
 exact Q6 (fn := Ir.Ks) (by kernel_rfl) (h := [⟨1, 0, false, (au.cells o0)⟩]) (vw := []) VOK.nil [hP 8 (Qq _ _ (Val.Q7 (s_Kd p1 p2 4 o0).1.list)), hS 0 true (bf.Q8 (Q7d p1 p2 o0 (s_Kd p1 p2 4 o0).1.list 0 (s_Kd p1 p2 4 o0).2.bG []).2 2 rfl), hQ (bf.Q7 (Q7d p1 p2 o0 (s_Kd p1 p2 4 o0).1.list 0 (s_Kd p1 p2 4 o0).2.bG []).2).symm] [aN (t_Kd p1 p2 4 o0 (Q1gy p1 p2 o0 H).1), aV [(1, bf.rows (Q7d p1 p2 o0 (s_Kd p1 p2 4 o0).1.list 0 (s_Kd p1 p2 4 o0).2.bG []).2)] hl0] (by kernel_rfl)
def s_Ka (p0 : Val) : bn × Int := Qpl p0
theorem e_Ka (p0 : Val) : s_Ka p0 = (bif (s_Kl (s_Kp p0 Q31 (s_Ks p0 Qj (s_Ko p0 (au.mk false)).2).2).1 (s_Kp p0 Q31 (s_Ks p0 Qj (s_Ko p0 (au.mk false)).2).2).2).2.bG then
    ((bn.mk [] (bC.mk eB 0 0 0 [] [] [] [] [] [])), 6)
  else
    ((bn.mk (s_Ks p0 Qj (s_Ko p0 (au.mk false)).2).1 (s_Kl (s_Kp p0 Q31 (s_Ks p0 Qj (s_Ko p0 (au.mk false)).2).2).1 (s_Kp p0 Q31 (s_Ks p0 Qj (s_Ko p0 (au.mk false)).2).2).2).1), 0)) := by
  unfold s_Ka Qpl bn.dec
  simp only [s_Ko, s_Kp, s_Kl, s_Ks, bC.sub1, dT, bC.sub2, Qnx, Q5l, Bool.false_or, Bool.and_assoc, Bool.and_left_comm, Bool.and_comm, Bool.and_self_left]
  rfl
def c_Ka (p0 : Val) : En := .call 183 [.agg (Val.cells p0)] []
def a_Ka (p0 : Val) : Rs := .ret (.tup [.agg (bn.cells (s_Ka p0).1), iN (s_Ka p0).2]) []
def H_Ka (p0 : Val) : Prop := Val.Sm 1000000000 p0
theorem Qf3 (p0 : Val) (H : H_Ka p0) : (H_Ks p0) ∧ (H_Kp p0) ∧ (H_Kl (s_Kp p0 Q31 (s_Ks p0 Qj (s_Ko p0 (au.mk false)).2).2).1) ∧ True := by
  repeat' with_reducible apply And.intro
  all_goals first | exact True.intro | exact H | exact Qp5 (Qp H _)
theorem t_Ka (p0 : Val) (H : H_Ka p0) : Q5 G (c_Ka p0) (a_Ka p0) := by
 unfold a_Ka
 rw [e_Ka]
 cases h0 : (s_Kl (s_Kp p0 Q31 (s_Ks p0 Qj (s_Ko p0 (au.mk false)).2).2).1 (s_Kp p0 Q31 (s_Ks p0 Qj (s_Ko p0 (au.mk false)).2).2).2).2.bG with
 | true =>
  exact Q6 (fn := Ir.Ka) (by kernel_rfl) VOK.nil [hP 25 (decR (s_Kl (s_Kp p0 Q31 (s_Ks p0 Qj (s_Ko p0 (au.mk false)).2).2).1 (s_Kp p0 Q31 (s_Ks p0 Qj (s_Ko p0 (au.mk false)).2).2).2).2.bG true [256] h0)] [aN (t_Ko p0 (au.mk false)), aN (t_Ks p0 Qj (s_Ko p0 (au.mk false)).2 (Qf3 p0 H).1), aN (t_Kp p0 Q31 (s_Ks p0 Qj (s_Ko p0 (au.mk false)).2).2 (Qf3 p0 H).2.1), aN (t_Kl (s_Kp p0 Q31 (s_Ks p0 Qj (s_Ko p0 (au.mk false)).2).2).1 (s_Kp p0 Q31 (s_Ks p0 Qj (s_Ko p0 (au.mk false)).2).2).2 (Qf3 p0 H).2.2.1)] (by kernel_rfl)
 | false =>
  exact Q6 (fn := Ir.Ka) (by kernel_rfl) VOK.nil [hP 25 (decR (s_Kl (s_Kp p0 Q31 (s_Ks p0 Qj (s_Ko p0 (au.mk false)).2).2).1 (s_Kp p0 Q31 (s_Ks p0 Qj (s_Ko p0 (au.mk false)).2).2).2).2.bG false [256] h0)] [aN (t_Ko p0 (au.mk false)), aN (t_Ks p0 Qj (s_Ko p0 (au.mk false)).2 (Qf3 p0 H).1), aN (t_Kp p0 Q31 (s_Ks p0 Qj (s_Ko p0 (au.mk false)).2).2 (Qf3 p0 H).2.1), aN (t_Kl (s_Kp p0 Q31 (s_Ks p0 Qj (s_Ko p0 (au.mk false)).2).2).1 (s_Kp p0 Q31 (s_Ks p0 Qj (s_Ko p0 (au.mk false)).2).2).2 (Qf3 p0 H).2.2.1)] (by kernel_rfl)
end Go.Proofs.YtimjjohlpnkacaaGreat
end

