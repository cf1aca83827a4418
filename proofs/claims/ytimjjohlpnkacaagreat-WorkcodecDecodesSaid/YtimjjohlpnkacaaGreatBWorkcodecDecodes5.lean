/- Texts of the claim, merged by a program; what the statement does not reach is left out. -/
import Derived.Test.YtimjjohlpnkacaaGreatBWorkcodecDecodes4

section
/- What the decoders of templates compute (printed by a program). -/
namespace Go.Proofs.YtimjjohlpnkacaaGreat
open Go.Pv
structure aj where
  bD : Bool
def aj.cells (x : aj) : List PV :=
  [.bool x.bD]
def aj.rows (l : List aj) : List (List PV) := l.map aj.cells
def ft (o : aj) (b : Bool) : aj := ⟨o.bD || !b⟩
theorem Qof (o : aj) (a b : Bool) : ft (ft o a) b = ft o (a && b) := by
  unfold ft
  simp only [Bool.not_and, Bool.or_assoc]
theorem Q6c (o : aj) (b : Bool) : (ft o b).bD = (o.bD || !b) := rfl
theorem Q7g (o : aj) (b : Bool) : aj.mk (o.bD || !b) = ft o b := rfl
theorem Qam (p1 : Val) (p2 : BA) : (bif (prt p1 p2).kind == 4 then prt p1 p2 else vZ).list = (dL p1 p2).1 := by
  unfold dL xL
  cases ((prt p1 p2).kind == 4) <;> rfl
theorem Qa8 (f m x y q : Bool) (h : x = y) : ((f || !(m && x)) || !q) = (f || !(m && (y && q))) := by subst h; cases f <;> cases m <;> cases x <;> cases q <;> rfl
theorem Qz7 (x : Val) : ((x.kind == 4) || (x.kind == 0)) = (xL x).2 := by unfold xL; cases (x.kind == 4) <;> rfl
def s_Ko (p1 : Val) (o0 : aj) : Val × aj := (p1, ft o0 (isM p1))
theorem e_Ko (p1 : Val) (o0 : aj) : s_Ko p1 o0 = (bif o0.bD then
    (p1, (aj.mk true))
  else
    bif (p1.kind == 5) then
      (p1, (aj.mk false))
    else
      (p1, (aj.mk (!(p1.kind == 0))))) := by
  obtain ⟨b⟩ := o0
  unfold s_Ko ft isM
  cases b <;> cases (p1.kind == 5) <;> cases (p1.kind == 0) <;> rfl
def c_Ko (p1 : Val) (o0 : aj) : En := .call 215 [.bx 0 0, .agg (Val.cells p1)] [⟨1, 0, false, (aj.cells o0)⟩]
def r_Ko (_p1 : Val) (_o0 : aj) (q0 : Val) (q1 : aj) : Rs := .ret (.agg (Val.cells q0)) [⟨1, 0, false, (aj.cells q1)⟩]
def a_Ko (p1 : Val) (o0 : aj) : Rs := r_Ko p1 o0 (s_Ko p1 o0).1 (s_Ko p1 o0).2
theorem t_Ko (p1 : Val) (o0 : aj) : Q0 G (c_Ko p1 o0) (a_Ko p1 o0) := by
 unfold a_Ko
 rw [e_Ko]
 cases h0 : o0.bD with
 | true =>
  exact Q7 (fn := Ir.Ko) (by kernel_rfl) (h := [⟨1, 0, false, (aj.cells o0)⟩]) (vw := []) VOK.nil [hP 6 (decR o0.bD true [0] h0)] [] (by kernel_rfl)
 | false =>
  cases h1 : (p1.kind == 5) with
  | true =>
   exact Q7 (fn := Ir.Ko) (by kernel_rfl) (h := [⟨1, 0, false, (aj.cells o0)⟩]) (vw := []) VOK.nil [hP 6 (decR o0.bD false [0] h0), hP 3 (dec (!(p1.kind == 5)) false (by rw [h1]; rfl))] [] (by kernel_rfl)
  | false =>
   exact Q7 (fn := Ir.Ko) (by kernel_rfl) (h := [⟨1, 0, false, (aj.cells o0)⟩]) (vw := []) VOK.nil [hP 6 (decR o0.bD false [0] h0), hP 3 (dec (!(p1.kind == 5)) true (by rw [h1]; rfl))] [] (by kernel_rfl)
def s_Kd (p1 : Val) (p2 : BA) (p3 : Int) (o0 : aj) : Val × aj := (bif (prt p1 p2).kind == p3 then prt p1 p2 else vZ, ft o0 (isM p1 && ((prt p1 p2).kind == p3 || (prt p1 p2).kind == 0)))
theorem e_Kd (p1 : Val) (p2 : BA) (p3 : Int) (o0 : aj) : s_Kd p1 p2 p3 o0 = (bif (p1.kind == 5) then
    bif ((Qpw p1 p2).1.kind == p3) then
      ((Qpw p1 p2).1, o0)
    else
      bif o0.bD then
        ((Val.mk 0 0 eB [] []), (aj.mk true))
      else
        ((Val.mk 0 0 eB [] []), (aj.mk (!((Qpw p1 p2).1.kind == 0))))
  else
    bif o0.bD then
      ((Val.mk 0 0 eB [] []), (aj.mk true))
    else
      ((Val.mk 0 0 eB [] []), (aj.mk (!(p1.kind == 0))))) := by
  obtain ⟨b⟩ := o0
  unfold s_Kd ft
  rw [vprt]
  cases h : (p1.kind == 5) with
  | true =>
    rw [Q14q h]
    cases b <;> cases ((prt p1 p2).kind == p3) <;> cases ((prt p1 p2).kind == 0) <;> rfl
  | false =>
    rw [Qoj h, Qg1 h]
    cases b <;> cases (p1.kind == 0) <;> cases (vZ.kind == p3) <;> rfl
def c_Kd (p1 : Val) (p2 : BA) (p3 : Int) (o0 : aj) : En := .call 238 [.bx 0 0, .agg (Val.cells p1), .str p2, iN p3] [⟨1, 0, false, (aj.cells o0)⟩]
def r_Kd (_p1 : Val) (_p2 : BA) (_p3 : Int) (_o0 : aj) (q0 : Val) (q1 : aj) : Rs := .ret (.agg (Val.cells q0)) [⟨1, 0, false, (aj.cells q1)⟩]
def a_Kd (p1 : Val) (p2 : BA) (p3 : Int) (o0 : aj) : Rs := r_Kd p1 p2 p3 o0 (s_Kd p1 p2 p3 o0).1 (s_Kd p1 p2 p3 o0).2
def H_Kd (p1 : Val) : Prop := Val.Sm 1000000000 p1
theorem Q14l (p1 : Val) (p2 : BA) (_p3 : Int) (_o0 : aj) (H : H_Kd p1) : (Q1kq p1 p2) ∧ True := by
  exact ⟨Q1ve H _, trivial⟩
theorem t_Kd (p1 : Val) (p2 : BA) (p3 : Int) (o0 : aj) (H : H_Kd p1) : Q0 G (c_Kd p1 p2 p3 o0) (a_Kd p1 p2 p3 o0) := by
 unfold a_Kd
 rw [e_Kd]
 cases h0 : (p1.kind == 5) with
 | true =>
  cases h1 : ((Qpw p1 p2).1.kind == p3) with
  | true =>
   exact Q7 (fn := Ir.Kd) (by kernel_rfl) (h := [⟨1, 0, false, (aj.cells o0)⟩]) (vw := []) VOK.nil [hP 4 (dec (!(p1.kind == 5)) false (by rw [h0]; rfl)), hB 12 h1] [aN (Q1n5 p1 p2 (Q14l p1 p2 p3 o0 H).1)] (by kernel_rfl)
  | false =>
   cases h2 : o0.bD with
   | true =>
    exact Q7 (fn := Ir.Kd) (by kernel_rfl) (h := [⟨1, 0, false, (aj.cells o0)⟩]) (vw := []) VOK.nil [hP 4 (dec (!(p1.kind == 5)) false (by rw [h0]; rfl)), hB 12 h1, hP 4 (decR o0.bD true [0] h2)] [aN (Q1n5 p1 p2 (Q14l p1 p2 p3 o0 H).1)] (by kernel_rfl)
   | false =>
    exact Q7 (fn := Ir.Kd) (by kernel_rfl) (h := [⟨1, 0, false, (aj.cells o0)⟩]) (vw := []) VOK.nil [hP 4 (dec (!(p1.kind == 5)) false (by rw [h0]; rfl)), hB 12 h1, hP 4 (decR o0.bD false [0] h2)] [aN (Q1n5 p1 p2 (Q14l p1 p2 p3 o0 H).1)] (by kernel_rfl)
 | false =>
  cases h1 : o0.bD with
  | true =>
   exact Q7 (fn := Ir.Kd) (by kernel_rfl) (h := [⟨1, 0, false, (aj.cells o0)⟩]) (vw := []) VOK.nil [hP 4 (dec (!(p1.kind == 5)) true (by rw [h0]; rfl)), hP 4 (decR o0.bD true [0] h1)] [] (by kernel_rfl)
  | false =>
   exact Q7 (fn := Ir.Kd) (by kernel_rfl) (h := [⟨1, 0, false, (aj.cells o0)⟩]) (vw := []) VOK.nil [hP 4 (dec (!(p1.kind == 5)) true (by rw [h0]; rfl)), hP 4 (decR o0.bD false [0] h1)] [] (by kernel_rfl)
def s_Kg (p1 : Val) (p2 : BA) (o0 : aj) : Int × aj := ((dN p1 p2).1, ft o0 (isM p1 && (dN p1 p2).2))
theorem e_Kg (p1 : Val) (p2 : BA) (o0 : aj) : s_Kg p1 p2 o0 = (((s_Kd p1 p2 2 o0).1.n, (s_Kd p1 p2 2 o0).2)) := by
  unfold s_Kg s_Kd dN xN
  cases ((prt p1 p2).kind == 2) <;> rfl
def c_Kg (p1 : Val) (p2 : BA) (o0 : aj) : En := .call 240 [.bx 0 0, .agg (Val.cells p1), .str p2] [⟨1, 0, false, (aj.cells o0)⟩]
def r_Kg (_p1 : Val) (_p2 : BA) (_o0 : aj) (q0 : Int) (q1 : aj) : Rs := .ret (iN q0) [⟨1, 0, false, (aj.cells q1)⟩]
def a_Kg (p1 : Val) (p2 : BA) (o0 : aj) : Rs := r_Kg p1 p2 o0 (s_Kg p1 p2 o0).1 (s_Kg p1 p2 o0).2
def H_Kg (p1 : Val) : Prop := Val.Sm 1000000000 p1
theorem Q1qr (p1 : Val) (_p2 : BA) (_o0 : aj) (H : H_Kg p1) : (H_Kd p1) ∧ True := by
  exact ⟨H, trivial⟩
theorem t_Kg (p1 : Val) (p2 : BA) (o0 : aj) (H : H_Kg p1) : Q0 G (c_Kg p1 p2 o0) (a_Kg p1 p2 o0) := by
 unfold a_Kg
 rw [e_Kg]
 exact Q7 (fn := Ir.Kg) (by kernel_rfl) (h := [⟨1, 0, false, (aj.cells o0)⟩]) (vw := []) VOK.nil [] [aN (t_Kd p1 p2 2 o0 (Q1qr p1 p2 o0 H).1)] (by kernel_rfl)
def s_Kn (p1 : Val) (p2 : BA) (o0 : aj) : ByteArray × aj := ((dS p1 p2).1, ft o0 (isM p1 && (dS p1 p2).2))
theorem e_Kn (p1 : Val) (p2 : BA) (o0 : aj) : s_Kn p1 p2 o0 = (((s_Kd p1 p2 3 o0).1.s, (s_Kd p1 p2 3 o0).2)) := by
  unfold s_Kn s_Kd dS xS
  cases ((prt p1 p2).kind == 3) <;> rfl
def c_Kn (p1 : Val) (p2 : BA) (o0 : aj) : En := .call 239 [.bx 0 0, .agg (Val.cells p1), .str p2] [⟨1, 0, false, (aj.cells o0)⟩]
def r_Kn (_p1 : Val) (_p2 : BA) (_o0 : aj) (q0 : BA) (q1 : aj) : Rs := .ret (.str q0) [⟨1, 0, false, (aj.cells q1)⟩]
def a_Kn (p1 : Val) (p2 : BA) (o0 : aj) : Rs := r_Kn p1 p2 o0 (s_Kn p1 p2 o0).1 (s_Kn p1 p2 o0).2
def H_Kn (p1 : Val) : Prop := Val.Sm 1000000000 p1
theorem Q1qs (p1 : Val) (_p2 : BA) (_o0 : aj) (H : H_Kn p1) : (H_Kd p1) ∧ True := by
  exact ⟨H, trivial⟩
theorem t_Kn (p1 : Val) (p2 : BA) (o0 : aj) (H : H_Kn p1) : Q0 G (c_Kn p1 p2 o0) (a_Kn p1 p2 o0) := by
 unfold a_Kn
 rw [e_Kn]
 exact Q7 (fn := Ir.Kn) (by kernel_rfl) (h := [⟨1, 0, false, (aj.cells o0)⟩]) (vw := []) VOK.nil [] [aN (t_Kd p1 p2 3 o0 (Q1qs p1 p2 o0 H).1)] (by kernel_rfl)
def s_Kc (p1 : Val) (p2 : BA) (o0 : aj) : Bool × aj := ((dB p1 p2).1, ft o0 (isM p1 && (dB p1 p2).2))
theorem e_Kc (p1 : Val) (p2 : BA) (o0 : aj) : s_Kc p1 p2 o0 = (((!((s_Kd p1 p2 1 o0).1.n == 0)), (s_Kd p1 p2 1 o0).2)) := by
  unfold s_Kc s_Kd dB xB
  cases ((prt p1 p2).kind == 1) <;> rfl
def c_Kc (p1 : Val) (p2 : BA) (o0 : aj) : En := .call 280 [.bx 0 0, .agg (Val.cells p1), .str p2] [⟨1, 0, false, (aj.cells o0)⟩]
def r_Kc (_p1 : Val) (_p2 : BA) (_o0 : aj) (q0 : Bool) (q1 : aj) : Rs := .ret (.bool q0) [⟨1, 0, false, (aj.cells q1)⟩]
def a_Kc (p1 : Val) (p2 : BA) (o0 : aj) : Rs := r_Kc p1 p2 o0 (s_Kc p1 p2 o0).1 (s_Kc p1 p2 o0).2
def H_Kc (p1 : Val) : Prop := Val.Sm 1000000000 p1
theorem Q1qq (p1 : Val) (_p2 : BA) (_o0 : aj) (H : H_Kc p1) : (H_Kd p1) ∧ True := by
  exact ⟨H, trivial⟩
theorem t_Kc (p1 : Val) (p2 : BA) (o0 : aj) (H : H_Kc p1) : Q0 G (c_Kc p1 p2 o0) (a_Kc p1 p2 o0) := by
 unfold a_Kc
 rw [e_Kc]
 exact Q7 (fn := Ir.Kc) (by kernel_rfl) (h := [⟨1, 0, false, (aj.cells o0)⟩]) (vw := []) VOK.nil [] [aN (t_Kd p1 p2 1 o0 (Q1qq p1 p2 o0 H).1)] (by kernel_rfl)
def s_Kp (p1 : Val) (p2 : BA) (o0 : aj) : Val × aj := (s5 (prt p1 p2), ft o0 (isM p1 && isM (prt p1 p2)))
theorem e_Kp (p1 : Val) (p2 : BA) (o0 : aj) : s_Kp p1 p2 o0 = (((s_Kd p1 p2 5 o0).1, (s_Kd p1 p2 5 o0).2)) := by
  rfl
def c_Kp (p1 : Val) (p2 : BA) (o0 : aj) : En := .call 219 [.bx 0 0, .agg (Val.cells p1), .str p2] [⟨1, 0, false, (aj.cells o0)⟩]
def r_Kp (_p1 : Val) (_p2 : BA) (_o0 : aj) (q0 : Val) (q1 : aj) : Rs := .ret (.agg (Val.cells q0)) [⟨1, 0, false, (aj.cells q1)⟩]
def a_Kp (p1 : Val) (p2 : BA) (o0 : aj) : Rs := r_Kp p1 p2 o0 (s_Kp p1 p2 o0).1 (s_Kp p1 p2 o0).2
def H_Kp (p1 : Val) : Prop := Val.Sm 1000000000 p1
theorem Q1qt (p1 : Val) (_p2 : BA) (_o0 : aj) (H : H_Kp p1) : (H_Kd p1) ∧ True := by
  exact ⟨H, trivial⟩
theorem t_Kp (p1 : Val) (p2 : BA) (o0 : aj) (H : H_Kp p1) : Q0 G (c_Kp p1 p2 o0) (a_Kp p1 p2 o0) := by
 unfold a_Kp
 rw [e_Kp]
 exact Q7 (fn := Ir.Kp) (by kernel_rfl) (h := [⟨1, 0, false, (aj.cells o0)⟩]) (vw := []) VOK.nil [] [aN (t_Kd p1 p2 5 o0 (Q1qt p1 p2 o0 H).1)] (by kernel_rfl)
def s_Kk (p1 : Val) (o0 : aj) : bq × aj := ((bq.dec p1).1, ft o0 (bq.dec p1).2)
theorem e_Kk (p1 : Val) (o0 : aj) : s_Kk p1 o0 = (((bq.mk (s_Kg p1 Q5o o0).1 (s_Kg p1 Q4f (s_Kg p1 Q5o o0).2).1 (s_Kg p1 Q5p (s_Kg p1 Q4f (s_Kg p1 Q5o o0).2).2).1), (s_Kg p1 Q5p (s_Kg p1 Q4f (s_Kg p1 Q5o o0).2).2).2)) := by
  simp only [s_Kg, s_Kk, bq.dec, Qof, Bool.and_assoc, Bool.and_left_comm, Bool.and_comm, Bool.and_self_left]
def c_Kk (p1 : Val) (o0 : aj) : En := .call 275 [.bx 0 0, .agg (Val.cells p1)] [⟨1, 0, false, (aj.cells o0)⟩]
def r_Kk (_p1 : Val) (_o0 : aj) (q0 : bq) (q1 : aj) : Rs := .ret (.agg (bq.cells q0)) [⟨1, 0, false, (aj.cells q1)⟩]
def a_Kk (p1 : Val) (o0 : aj) : Rs := r_Kk p1 o0 (s_Kk p1 o0).1 (s_Kk p1 o0).2
def H_Kk (p1 : Val) : Prop := Val.Sm 1000000000 p1
theorem Q14o (p1 : Val) (_o0 : aj) (H : H_Kk p1) : (H_Kg p1) ∧ True := by
  repeat' with_reducible apply And.intro
  all_goals first | exact True.intro | exact H | exact Qpf (Qg H _)
theorem t_Kk (p1 : Val) (o0 : aj) (H : H_Kk p1) : Q0 G (c_Kk p1 o0) (a_Kk p1 o0) := by
 unfold a_Kk
 rw [e_Kk]
 exact Q7 (fn := Ir.Kk) (by kernel_rfl) (h := [⟨1, 0, false, (aj.cells o0)⟩]) (vw := []) VOK.nil [] [aN (t_Kg p1 Q5o o0 (Q14o p1 o0 H).1), aN (t_Kg p1 Q4f (s_Kg p1 Q5o o0).2 (Q14o p1 o0 H).1), aN (t_Kg p1 Q5p (s_Kg p1 Q4f (s_Kg p1 Q5o o0).2).2 (Q14o p1 o0 H).1)] (by kernel_rfl)
def s_Ki (p1 : Val) (o0 : aj) : bg × aj := ((bg.dec p1).1, ft o0 (bg.dec p1).2)
theorem e_Ki (p1 : Val) (o0 : aj) : s_Ki p1 o0 = (((bg.mk (s_Kg p1 Q3a (s_Ko p1 o0).2).1 (s_Kg p1 Q1z (s_Kg p1 Q3a (s_Ko p1 o0).2).2).1 (s_Kg p1 Q3g (s_Kg p1 Q1z (s_Kg p1 Q3a (s_Ko p1 o0).2).2).2).1 (s_Kg p1 Q35 (s_Kg p1 Q3g (s_Kg p1 Q1z (s_Kg p1 Q3a (s_Ko p1 o0).2).2).2).2).1), (s_Kg p1 Q35 (s_Kg p1 Q3g (s_Kg p1 Q1z (s_Kg p1 Q3a (s_Ko p1 o0).2).2).2).2).2)) := by
  simp only [s_Ko, s_Kg, s_Ki, bg.dec, Qof, Bool.and_assoc, Bool.and_left_comm, Bool.and_comm, Bool.and_self_left]
def c_Ki (p1 : Val) (o0 : aj) : En := .call 277 [.bx 0 0, .agg (Val.cells p1)] [⟨1, 0, false, (aj.cells o0)⟩]
def r_Ki (_p1 : Val) (_o0 : aj) (q0 : bg) (q1 : aj) : Rs := .ret (.agg (bg.cells q0)) [⟨1, 0, false, (aj.cells q1)⟩]
def a_Ki (p1 : Val) (o0 : aj) : Rs := r_Ki p1 o0 (s_Ki p1 o0).1 (s_Ki p1 o0).2
def H_Ki (p1 : Val) : Prop := Val.Sm 1000000000 p1
theorem Qyg (p1 : Val) (_o0 : aj) (H : H_Ki p1) : (H_Kg p1) ∧ True := by
  repeat' with_reducible apply And.intro
  all_goals first | exact True.intro | exact H | exact Qpf (Qg H _)
theorem t_Ki (p1 : Val) (o0 : aj) (H : H_Ki p1) : Q0 G (c_Ki p1 o0) (a_Ki p1 o0) := by
 unfold a_Ki
 rw [e_Ki]
 exact Q7 (fn := Ir.Ki) (by kernel_rfl) (h := [⟨1, 0, false, (aj.cells o0)⟩]) (vw := []) VOK.nil [] [aN (t_Ko p1 o0), aN (t_Kg p1 Q3a (s_Ko p1 o0).2 (Qyg p1 o0 H).1), aN (t_Kg p1 Q1z (s_Kg p1 Q3a (s_Ko p1 o0).2).2 (Qyg p1 o0 H).1), aN (t_Kg p1 Q3g (s_Kg p1 Q1z (s_Kg p1 Q3a (s_Ko p1 o0).2).2).2 (Qyg p1 o0 H).1), aN (t_Kg p1 Q35 (s_Kg p1 Q3g (s_Kg p1 Q1z (s_Kg p1 Q3a (s_Ko p1 o0).2).2).2).2 (Qyg p1 o0 H).1)] (by kernel_rfl)
def Q86 (p1 : Val) (p2 : BA) (o0 : aj) : List Val → Nat → Bool → (List bg) → Bool × (List bg)
 | [], _i0, ah, ay =>
  (ah, ay)
 | x0 :: r0, i0, ah, ay =>
  Q86 p1 p2 o0 r0 (i0 + 1) (s_Ki x0 (aj.mk ah)).2.bD (ay ++ [(s_Ki x0 (aj.mk ah)).1])
def Q1k7 (p1 : Val) (p2 : BA) (o0 : aj) (i0 : Nat) (_ah : Bool) (ay : List bg) : List PV :=
  [.un, .un, .un, .fn 277 [.bx 0 0] []] ++ nuns 5 ++ [.ms 1 4 0 (List.length ay)] ++ nuns 6 ++ [.sl (Val.rows (s_Kd p1 p2 4 o0).1.list), iN ((List.length (s_Kd p1 p2 4 o0).1.list) : Int), iN (i0 : Int)] ++ nuns 11
def Q15s (_p1 : Val) (_p2 : BA) (_o0 : aj) (_i0 : Nat) (ah : Bool) (ay : List bg) : List Ob :=
  [⟨1, 0, false, [.bool ah]⟩, ⟨4, 0, true, (bg.rows ay).flatten⟩]
def Qwc (p1 : Val) (p2 : BA) (o0 : aj) (i0 : Nat) (ah : Bool) (ay : List bg) : En := .loop 1 Ir.Qrp Ir.Q1vv (Q1k7 p1 p2 o0 i0 ah ay) (Q15s p1 p2 o0 i0 ah ay)
def Q114 (_p1 : Val) (_p2 : BA) (_o0 : aj) (q0 : Bool) (q1 : List bg) (z : Nat → PV) (_zo : Nat → List PV) : St :=
  ⟨zr z 0 9 ++ [.ms 1 4 0 (List.length q1)] ++ zr z 10 20, [(0, ⟨1, 0, false, [.bool q0]⟩), (1, ⟨4, 0, true, (bg.rows q1).flatten⟩)], 66⟩
theorem Q1gz (p1 : Val) (p2 : BA) (o0 : aj) (i0 : Nat) (ah : Bool) (ay : List bg) : VOK (Go.Pv.look (number 0 (Q15s p1 p2 o0 i0 ah ay))) [(1, bg.rows ay)] := (VOK.cons (show Seen _ _ from Q4a (ob := ⟨4, 0, true, (bg.rows ay).flatten⟩) (bg.Q8 ay 4 rfl)) VOK.nil)
def Qxx (p1 : Val) (p2 : BA) (o0 : aj) (e : En) (q : Bool × (List bg)) : Prop := ∃ z zo, Q0 G e (.st (.exit 0) (Q114 p1 p2 o0 q.1 q.2 z zo))
theorem Q10w (p1 : Val) (p2 : BA) (o0 : aj) {e e' : En} (h : ∀ r, Q0 G e r → Q0 G e' r) : ∀ q, Qxx p1 p2 o0 e q → Qxx p1 p2 o0 e' q
  | _, ⟨z, zo, hz⟩ => ⟨z, zo, h _ hz⟩
def Qkl (p1 : Val) (p2 : BA) (o0 : aj) : Prop := (List.length (s_Kd p1 p2 4 o0).1.list ≤ 137438953472) ∧ (∀ x0 ∈ (s_Kd p1 p2 4 o0).1.list, H_Ki x0) ∧ True
def Q11e (p1 : Val) (p2 : BA) (o0 : aj) (i0 : Nat) (_ah : Bool) (_ay : List bg) : List PV :=
  [.un, .un, .un, .fn 277 [.bx 0 0] []] ++ nuns 12 ++ [.sl (Val.rows (s_Kd p1 p2 4 o0).1.list), iN ((List.length (s_Kd p1 p2 4 o0).1.list) : Int), iN (i0 : Int), .bool false]
def Qtl (_p1 : Val) (_p2 : BA) (_o0 : aj) (_i0 : Nat) (_ah : Bool) (_ay : List bg) : List (Nat × List PV) :=
  []
theorem Q1jv (p1 : Val) (p2 : BA) (o0 : aj) (_H : Qkl p1 p2 o0) (i0 : Nat) (ah : Bool) (ay : List bg) (_aP : List.length ay ≤ i0) (bC : (decide ((i0 : Int) < ((List.length (s_Kd p1 p2 4 o0).1.list) : Int))) = false) : Qxx p1 p2 o0 (Qwc p1 p2 o0 i0 ah ay) (ah, ay) := by
 exact ⟨(envF (Q11e p1 p2 o0 i0 ah ay)), (zoF (Qtl p1 p2 o0 i0 ah ay)), Qh (Q1gz p1 p2 o0 i0 ah ay) (x := ((.exit 0), Q114 p1 p2 o0 ah ay (envF (Q11e p1 p2 o0 i0 ah ay)) (zoF (Qtl p1 p2 o0 i0 ah ay)))) [hB 0 bC] [] (by kernel_rfl)⟩
theorem Q1ib (p1 : Val) (p2 : BA) (o0 : aj) (H : Qkl p1 p2 o0) (x0 : Val) (i0 : Nat) (ah : Bool) (ay : List bg) (bF : (s_Kd p1 p2 4 o0).1.list[i0]? = some x0) (bR : i0 < List.length (s_Kd p1 p2 4 o0).1.list) (aP : List.length ay ≤ i0) (bC : (decide ((i0 : Int) < ((List.length (s_Kd p1 p2 4 o0).1.list) : Int))) = true) {r : Rs} (hr : Q0 G (Qwc p1 p2 o0 (i0 + 1) (s_Ki x0 (aj.mk ah)).2.bD (ay ++ [(s_Ki x0 (aj.mk ah)).1])) r) : Q0 G (Qwc p1 p2 o0 i0 ah ay) r := by
 have hB0 := H.1
 exact Qc (Q1gz p1 p2 o0 i0 ah ay) [hB 0 bC, hP 0 (Q1l 5 _ i0 _ (Val.Qb bF) rfl), hA 8 1 578 642 4 32 0 0 true bg.Q5 bg.Q1n ay (s_Ki x0 (aj.mk ah)).1 (bg.Qw ay) rfl rfl (by omega), hS 0 true (bg.Q8 (ay ++ [(s_Ki x0 (aj.mk ah)).1]) 4 rfl), hP 1 (Q26 i0 (by omega))] [aN (t_Ki x0 (aj.mk ah) (H.2.1 x0 (Q1i bF)))] hr (by kernel_rfl)
theorem Q18x (p1 : Val) (p2 : BA) (o0 : aj) (H : Qkl p1 p2 o0) : ∀ (r0 : List Val) (i0 : Nat) (ah : Bool) (ay : List bg), List.drop i0 (s_Kd p1 p2 4 o0).1.list = r0 → List.length ay ≤ i0 → Qxx p1 p2 o0 (Qwc p1 p2 o0 i0 ah ay) (Q86 p1 p2 o0 r0 i0 ah ay)
 | [], i0, ah, ay, hd, aP => by
  have bC : (decide ((i0 : Int) < ((List.length (s_Kd p1 p2 4 o0).1.list) : Int))) = false := by have := Q1o hd; simp; omega
  rw [Q86]
  exact Q1jv p1 p2 o0 H i0 ah ay aP bC
 | x0 :: r0, i0, ah, ay, hd, aP => by
  obtain ⟨bF, bR, hd'⟩ := Q1p hd
  have bC : (decide ((i0 : Int) < ((List.length (s_Kd p1 p2 4 o0).1.list) : Int))) = true := by simp; omega
  rw [Q86]
  exact Q10w p1 p2 o0 (fun r hr => Q1ib p1 p2 o0 H x0 i0 ah ay bF bR aP bC hr) _ (Q18x p1 p2 o0 H r0 _ _ _ hd' (by first | omega | (simp; omega)))
def s_Kz (p1 : Val) (p2 : BA) (o0 : aj) : List bg × aj := ((dE bg.dec p1 p2).1, ft o0 (isM p1 && (dE bg.dec p1 p2).2))
theorem Q1in (p1 : Val) (p2 : BA) (o0 : aj) : ∀ (l : List Val) (i : Nat) (b : Bool) (a : List bg), Q86 p1 p2 o0 l i b a = (b || !(l.all fun x => (bg.dec x).2), a ++ l.map (fun x => (bg.dec x).1))
  | [], _, b, a => by rw [Q86]; simp
  | x :: l, i, b, a => by
    rw [Q86]
    refine (Q1in p1 p2 o0 l (i + 1) (b || !(bg.dec x).2) (a ++ [(bg.dec x).1])).trans ?_
    simp only [List.append_assoc, List.singleton_append, List.map_cons, List.all_cons, Bool.not_and, Bool.or_assoc]
theorem e_Kz (p1 : Val) (p2 : BA) (o0 : aj) : s_Kz p1 p2 o0 = (((Q86 p1 p2 o0 (s_Kd p1 p2 4 o0).1.list 0 (s_Kd p1 p2 4 o0).2.bD []).2, (aj.mk (Q86 p1 p2 o0 (s_Kd p1 p2 4 o0).1.list 0 (s_Kd p1 p2 4 o0).2.bD []).1))) := by
  rw [Q1in]
  unfold s_Kd s_Kz
  simp only [Qam, Q6c]
  refine Prod.ext rfl ?_
  rw [Qa8 o0.bD (isM p1) _ _ _ (Qz7 (prt p1 p2)), Q7g]
  rfl
def c_Kz (p1 : Val) (p2 : BA) (o0 : aj) : En := .call 276 [.bx 0 0, .agg (Val.cells p1), .str p2, .fn 277 [.bx 0 0] []] [⟨1, 0, false, (aj.cells o0)⟩]
def r_Kz (_p1 : Val) (_p2 : BA) (_o0 : aj) (q0 : List bg) (q1 : aj) : Rs := .ret (.sl (bg.rows q0)) [⟨1, 0, false, (aj.cells q1)⟩]
def a_Kz (p1 : Val) (p2 : BA) (o0 : aj) : Rs := r_Kz p1 p2 o0 (s_Kz p1 p2 o0).1 (s_Kz p1 p2 o0).2
def H_Kz (p1 : Val) : Prop := Val.Sm 1000000000 p1
theorem Q1hq (p1 : Val) (p2 : BA) (o0 : aj) (H : H_Kz p1) : (H_Kd p1) ∧ (Qkl p1 p2 o0) ∧ True := by
  have hl := Q71 (Qg H p2)
  refine ⟨H, ?_, trivial⟩
  unfold Qkl s_Kd
  simp only [Qam]
  exact ⟨Nat.le_trans hl.1 (Nat.le_of_ble_eq_true rfl), hl.2, trivial⟩
theorem t_Kz (p1 : Val) (p2 : BA) (o0 : aj) (H : H_Kz p1) : Q0 G (c_Kz p1 p2 o0) (a_Kz p1 p2 o0) := by
 unfold a_Kz
 rw [e_Kz]
 have hl0 := Q18x p1 p2 o0 ((Q1hq p1 p2 o0 H).2.1) (s_Kd p1 p2 4 o0).1.list 0 (s_Kd p1 p2 4 o0).2.bD [] (by simp) (by simp)
 obtain ⟨z0, fA, hl0⟩ := hl0
 exact Q7 (fn := Ir.Kz) (by kernel_rfl) (h := [⟨1, 0, false, (aj.cells o0)⟩]) (vw := []) VOK.nil [hP 8 (Qs _ _ (Val.Q5 (s_Kd p1 p2 4 o0).1.list)), hS 0 true (bg.Q8 (Q86 p1 p2 o0 (s_Kd p1 p2 4 o0).1.list 0 (s_Kd p1 p2 4 o0).2.bD []).2 4 rfl), hQ (bg.Q5 (Q86 p1 p2 o0 (s_Kd p1 p2 4 o0).1.list 0 (s_Kd p1 p2 4 o0).2.bD []).2).symm] [aN (t_Kd p1 p2 4 o0 (Q1hq p1 p2 o0 H).1), aV [(1, bg.rows (Q86 p1 p2 o0 (s_Kd p1 p2 4 o0).1.list 0 (s_Kd p1 p2 4 o0).2.bD []).2)] hl0] (by kernel_rfl)
def s_Kb (p1 : Val) (o0 : aj) : aH × aj := ((aH.dec p1).1, ft o0 (aH.dec p1).2)
theorem e_Kb (p1 : Val) (o0 : aj) : s_Kb p1 o0 = (((aH.mk (s_Kn p1 Ql (s_Ko p1 o0).2).1 (s_Kn p1 Qt (s_Kn p1 Ql (s_Ko p1 o0).2).2).1 (s_Kk (s_Kp p1 Qe (s_Kn p1 Qt (s_Kn p1 Ql (s_Ko p1 o0).2).2).2).1 (s_Kp p1 Qe (s_Kn p1 Qt (s_Kn p1 Ql (s_Ko p1 o0).2).2).2).2).1 (s_Kk (s_Kp p1 Q1f (s_Kk (s_Kp p1 Qe (s_Kn p1 Qt (s_Kn p1 Ql (s_Ko p1 o0).2).2).2).1 (s_Kp p1 Qe (s_Kn p1 Qt (s_Kn p1 Ql (s_Ko p1 o0).2).2).2).2).2).1 (s_Kp p1 Q1f (s_Kk (s_Kp p1 Qe (s_Kn p1 Qt (s_Kn p1 Ql (s_Ko p1 o0).2).2).2).1 (s_Kp p1 Qe (s_Kn p1 Qt (s_Kn p1 Ql (s_Ko p1 o0).2).2).2).2).2).2).1 (s_Kz p1 Q2b (s_Kk (s_Kp p1 Q1f (s_Kk (s_Kp p1 Qe (s_Kn p1 Qt (s_Kn p1 Ql (s_Ko p1 o0).2).2).2).1 (s_Kp p1 Qe (s_Kn p1 Qt (s_Kn p1 Ql (s_Ko p1 o0).2).2).2).2).2).1 (s_Kp p1 Q1f (s_Kk (s_Kp p1 Qe (s_Kn p1 Qt (s_Kn p1 Ql (s_Ko p1 o0).2).2).2).1 (s_Kp p1 Qe (s_Kn p1 Qt (s_Kn p1 Ql (s_Ko p1 o0).2).2).2).2).2).2).2).1 (s_Kz p1 Q14 (s_Kz p1 Q2b (s_Kk (s_Kp p1 Q1f (s_Kk (s_Kp p1 Qe (s_Kn p1 Qt (s_Kn p1 Ql (s_Ko p1 o0).2).2).2).1 (s_Kp p1 Qe (s_Kn p1 Qt (s_Kn p1 Ql (s_Ko p1 o0).2).2).2).2).2).1 (s_Kp p1 Q1f (s_Kk (s_Kp p1 Qe (s_Kn p1 Qt (s_Kn p1 Ql (s_Ko p1 o0).2).2).2).1 (s_Kp p1 Qe (s_Kn p1 Qt (s_Kn p1 Ql (s_Ko p1 o0).2).2).2).2).2).2).2).2).1 (s_Kz p1 Q1m (s_Kz p1 Q14 (s_Kz p1 Q2b (s_Kk (s_Kp p1 Q1f (s_Kk (s_Kp p1 Qe (s_Kn p1 Qt (s_Kn p1 Ql (s_Ko p1 o0).2).2).2).1 (s_Kp p1 Qe (s_Kn p1 Qt (s_Kn p1 Ql (s_Ko p1 o0).2).2).2).2).2).1 (s_Kp p1 Q1f (s_Kk (s_Kp p1 Qe (s_Kn p1 Qt (s_Kn p1 Ql (s_Ko p1 o0).2).2).2).1 (s_Kp p1 Qe (s_Kn p1 Qt (s_Kn p1 Ql (s_Ko p1 o0).2).2).2).2).2).2).2).2).2).1), (s_Kz p1 Q1m (s_Kz p1 Q14 (s_Kz p1 Q2b (s_Kk (s_Kp p1 Q1f (s_Kk (s_Kp p1 Qe (s_Kn p1 Qt (s_Kn p1 Ql (s_Ko p1 o0).2).2).2).1 (s_Kp p1 Qe (s_Kn p1 Qt (s_Kn p1 Ql (s_Ko p1 o0).2).2).2).2).2).1 (s_Kp p1 Q1f (s_Kk (s_Kp p1 Qe (s_Kn p1 Qt (s_Kn p1 Ql (s_Ko p1 o0).2).2).2).1 (s_Kp p1 Qe (s_Kn p1 Qt (s_Kn p1 Ql (s_Ko p1 o0).2).2).2).2).2).2).2).2).2).2)) := by
  simp only [s_Ko, s_Kn, s_Kp, s_Kk, s_Kz, s_Kb, aH.dec, bq.sub1, bq.sub2, Qof, Bool.and_assoc, Bool.and_left_comm, Bool.and_comm, Bool.and_self_left]
def c_Kb (p1 : Val) (o0 : aj) : En := .call 242 [.bx 0 0, .agg (Val.cells p1)] [⟨1, 0, false, (aj.cells o0)⟩]
def r_Kb (_p1 : Val) (_o0 : aj) (q0 : aH) (q1 : aj) : Rs := .ret (.agg (aH.cells q0)) [⟨1, 0, false, (aj.cells q1)⟩]
def a_Kb (p1 : Val) (o0 : aj) : Rs := r_Kb p1 o0 (s_Kb p1 o0).1 (s_Kb p1 o0).2
def H_Kb (p1 : Val) : Prop := Val.Sm 1000000000 p1
theorem Qad (p1 : Val) (o0 : aj) (H : H_Kb p1) : (H_Kn p1) ∧ (H_Kp p1) ∧ (H_Kk (s_Kp p1 Qe (s_Kn p1 Qt (s_Kn p1 Ql (s_Ko p1 o0).2).2).2).1) ∧ (H_Kk (s_Kp p1 Q1f (s_Kk (s_Kp p1 Qe (s_Kn p1 Qt (s_Kn p1 Ql (s_Ko p1 o0).2).2).2).1 (s_Kp p1 Qe (s_Kn p1 Qt (s_Kn p1 Ql (s_Ko p1 o0).2).2).2).2).2).1) ∧ (H_Kz p1) ∧ True := by
  repeat' with_reducible apply And.intro
  all_goals first | exact True.intro | exact H | exact Qpf (Qg H _)
theorem t_Kb (p1 : Val) (o0 : aj) (H : H_Kb p1) : Q0 G (c_Kb p1 o0) (a_Kb p1 o0) := by
 unfold a_Kb
 rw [e_Kb]
 exact Q7 (fn := Ir.Kb) (by kernel_rfl) (h := [⟨1, 0, false, (aj.cells o0)⟩]) (vw := []) VOK.nil [] [aN (t_Ko p1 o0), aN (t_Kn p1 Ql (s_Ko p1 o0).2 (Qad p1 o0 H).1), aN (t_Kn p1 Qt (s_Kn p1 Ql (s_Ko p1 o0).2).2 (Qad p1 o0 H).1), aN (t_Kp p1 Qe (s_Kn p1 Qt (s_Kn p1 Ql (s_Ko p1 o0).2).2).2 (Qad p1 o0 H).2.1), aN (t_Kk (s_Kp p1 Qe (s_Kn p1 Qt (s_Kn p1 Ql (s_Ko p1 o0).2).2).2).1 (s_Kp p1 Qe (s_Kn p1 Qt (s_Kn p1 Ql (s_Ko p1 o0).2).2).2).2 (Qad p1 o0 H).2.2.1), aN (t_Kp p1 Q1f (s_Kk (s_Kp p1 Qe (s_Kn p1 Qt (s_Kn p1 Ql (s_Ko p1 o0).2).2).2).1 (s_Kp p1 Qe (s_Kn p1 Qt (s_Kn p1 Ql (s_Ko p1 o0).2).2).2).2).2 (Qad p1 o0 H).2.1), aN (t_Kk (s_Kp p1 Q1f (s_Kk (s_Kp p1 Qe (s_Kn p1 Qt (s_Kn p1 Ql (s_Ko p1 o0).2).2).2).1 (s_Kp p1 Qe (s_Kn p1 Qt (s_Kn p1 Ql (s_Ko p1 o0).2).2).2).2).2).1 (s_Kp p1 Q1f (s_Kk (s_Kp p1 Qe (s_Kn p1 Qt (s_Kn p1 Ql (s_Ko p1 o0).2).2).2).1 (s_Kp p1 Qe (s_Kn p1 Qt (s_Kn p1 Ql (s_Ko p1 o0).2).2).2).2).2).2 (Qad p1 o0 H).2.2.2.1), aN (t_Kz p1 Q2b (s_Kk (s_Kp p1 Q1f (s_Kk (s_Kp p1 Qe (s_Kn p1 Qt (s_Kn p1 Ql (s_Ko p1 o0).2).2).2).1 (s_Kp p1 Qe (s_Kn p1 Qt (s_Kn p1 Ql (s_Ko p1 o0).2).2).2).2).2).1 (s_Kp p1 Q1f (s_Kk (s_Kp p1 Qe (s_Kn p1 Qt (s_Kn p1 Ql (s_Ko p1 o0).2).2).2).1 (s_Kp p1 Qe (s_Kn p1 Qt (s_Kn p1 Ql (s_Ko p1 o0).2).2).2).2).2).2).2 (Qad p1 o0 H).2.2.2.2.1), aN (t_Kz p1 Q14 (s_Kz p1 Q2b (s_Kk (s_Kp p1 Q1f (s_Kk (s_Kp p1 Qe (s_Kn p1 Qt (s_Kn p1 Ql (s_Ko p1 o0).2).2).2).1 (s_Kp p1 Qe (s_Kn p1 Qt (s_Kn p1 Ql (s_Ko p1 o0).2).2).2).2).2).1 (s_Kp p1 Q1f (s_Kk (s_Kp p1 Qe (s_Kn p1 Qt (s_Kn p1 Ql (s_Ko p1 o0).2).2).2).1 (s_Kp p1 Qe (s_Kn p1 Qt (s_Kn p1 Ql (s_Ko p1 o0).2).2).2).2).2).2).2).2 (Qad p1 o0 H).2.2.2.2.1), aN (t_Kz p1 Q1m (s_Kz p1 Q14 (s_Kz p1 Q2b (s_Kk (s_Kp p1 Q1f (s_Kk (s_Kp p1 Qe (s_Kn p1 Qt (s_Kn p1 Ql (s_Ko p1 o0).2).2).2).1 (s_Kp p1 Qe (s_Kn p1 Qt (s_Kn p1 Ql (s_Ko p1 o0).2).2).2).2).2).1 (s_Kp p1 Q1f (s_Kk (s_Kp p1 Qe (s_Kn p1 Qt (s_Kn p1 Ql (s_Ko p1 o0).2).2).2).1 (s_Kp p1 Qe (s_Kn p1 Qt (s_Kn p1 Ql (s_Ko p1 o0).2).2).2).2).2).2).2).2).2 (Qad p1 o0 H).2.2.2.2.1)] (by kernel_rfl)
def Q80 (p1 : Val) (p2 : BA) (o0 : aj) : List Val → Nat → Bool → (List aH) → Bool × (List aH)
 | [], _i0, ah, ay =>
  (ah, ay)
 | x0 :: r0, i0, ah, ay =>
  Q80 p1 p2 o0 r0 (i0 + 1) (s_Kb x0 (aj.mk ah)).2.bD (ay ++ [(s_Kb x0 (aj.mk ah)).1])
def Q1k1 (p1 : Val) (p2 : BA) (o0 : aj) (i0 : Nat) (_ah : Bool) (ay : List aH) : List PV :=
  [.un, .un, .un, .fn 242 [.bx 0 0] []] ++ nuns 5 ++ [.ms 1 11 0 (List.length ay)] ++ nuns 6 ++ [.sl (Val.rows (s_Kd p1 p2 4 o0).1.list), iN ((List.length (s_Kd p1 p2 4 o0).1.list) : Int), iN (i0 : Int)] ++ nuns 11
def Q15m (_p1 : Val) (_p2 : BA) (_o0 : aj) (_i0 : Nat) (ah : Bool) (ay : List aH) : List Ob :=
  [⟨1, 0, false, [.bool ah]⟩, ⟨11, 0, true, (aH.rows ay).flatten⟩]
def Qw6 (p1 : Val) (p2 : BA) (o0 : aj) (i0 : Nat) (ah : Bool) (ay : List aH) : En := .loop 1 Ir.Qrj Ir.Q1vp (Q1k1 p1 p2 o0 i0 ah ay) (Q15m p1 p2 o0 i0 ah ay)
def Q10y (_p1 : Val) (_p2 : BA) (_o0 : aj) (q0 : Bool) (q1 : List aH) (z : Nat → PV) (_zo : Nat → List PV) : St :=
  ⟨zr z 0 9 ++ [.ms 1 11 0 (List.length q1)] ++ zr z 10 20, [(0, ⟨1, 0, false, [.bool q0]⟩), (1, ⟨11, 0, true, (aH.rows q1).flatten⟩)], 66⟩
theorem Q1gt (p1 : Val) (p2 : BA) (o0 : aj) (i0 : Nat) (ah : Bool) (ay : List aH) : VOK (Go.Pv.look (number 0 (Q15m p1 p2 o0 i0 ah ay))) [(1, aH.rows ay)] := (VOK.cons (show Seen _ _ from Q4a (ob := ⟨11, 0, true, (aH.rows ay).flatten⟩) (aH.Q8 ay 11 rfl)) VOK.nil)
def Qxr (p1 : Val) (p2 : BA) (o0 : aj) (e : En) (q : Bool × (List aH)) : Prop := ∃ z zo, Q0 G e (.st (.exit 0) (Q10y p1 p2 o0 q.1 q.2 z zo))
theorem Q10q (p1 : Val) (p2 : BA) (o0 : aj) {e e' : En} (h : ∀ r, Q0 G e r → Q0 G e' r) : ∀ q, Qxr p1 p2 o0 e q → Qxr p1 p2 o0 e' q
  | _, ⟨z, zo, hz⟩ => ⟨z, zo, h _ hz⟩
def Qkf (p1 : Val) (p2 : BA) (o0 : aj) : Prop := (List.length (s_Kd p1 p2 4 o0).1.list ≤ 137438953472) ∧ (∀ x0 ∈ (s_Kd p1 p2 4 o0).1.list, H_Kb x0) ∧ True
def Q118 (p1 : Val) (p2 : BA) (o0 : aj) (i0 : Nat) (_ah : Bool) (_ay : List aH) : List PV :=
  [.un, .un, .un, .fn 242 [.bx 0 0] []] ++ nuns 12 ++ [.sl (Val.rows (s_Kd p1 p2 4 o0).1.list), iN ((List.length (s_Kd p1 p2 4 o0).1.list) : Int), iN (i0 : Int), .bool false]
def Qtf (_p1 : Val) (_p2 : BA) (_o0 : aj) (_i0 : Nat) (_ah : Bool) (_ay : List aH) : List (Nat × List PV) :=
  []
theorem Q1jp (p1 : Val) (p2 : BA) (o0 : aj) (_H : Qkf p1 p2 o0) (i0 : Nat) (ah : Bool) (ay : List aH) (_aP : List.length ay ≤ i0) (bC : (decide ((i0 : Int) < ((List.length (s_Kd p1 p2 4 o0).1.list) : Int))) = false) : Qxr p1 p2 o0 (Qw6 p1 p2 o0 i0 ah ay) (ah, ay) := by
 exact ⟨(envF (Q118 p1 p2 o0 i0 ah ay)), (zoF (Qtf p1 p2 o0 i0 ah ay)), Qh (Q1gt p1 p2 o0 i0 ah ay) (x := ((.exit 0), Q10y p1 p2 o0 ah ay (envF (Q118 p1 p2 o0 i0 ah ay)) (zoF (Qtf p1 p2 o0 i0 ah ay)))) [hB 0 bC] [] (by kernel_rfl)⟩
theorem Q1i5 (p1 : Val) (p2 : BA) (o0 : aj) (H : Qkf p1 p2 o0) (x0 : Val) (i0 : Nat) (ah : Bool) (ay : List aH) (bF : (s_Kd p1 p2 4 o0).1.list[i0]? = some x0) (bR : i0 < List.length (s_Kd p1 p2 4 o0).1.list) (aP : List.length ay ≤ i0) (bC : (decide ((i0 : Int) < ((List.length (s_Kd p1 p2 4 o0).1.list) : Int))) = true) {r : Rs} (hr : Q0 G (Qw6 p1 p2 o0 (i0 + 1) (s_Kb x0 (aj.mk ah)).2.bD (ay ++ [(s_Kb x0 (aj.mk ah)).1])) r) : Q0 G (Qw6 p1 p2 o0 i0 ah ay) r := by
 have hB0 := H.1
 exact Qc (Q1gt p1 p2 o0 i0 ah ay) [hB 0 bC, hP 0 (Q1l 5 _ i0 _ (Val.Qb bF) rfl), hA 8 1 578 642 11 152 0 0 true aH.Q5 aH.Q1n ay (s_Kb x0 (aj.mk ah)).1 (aH.Qw ay) rfl rfl (by omega), hS 0 true (aH.Q8 (ay ++ [(s_Kb x0 (aj.mk ah)).1]) 11 rfl), hP 1 (Q26 i0 (by omega))] [aN (t_Kb x0 (aj.mk ah) (H.2.1 x0 (Q1i bF)))] hr (by kernel_rfl)
theorem Q18r (p1 : Val) (p2 : BA) (o0 : aj) (H : Qkf p1 p2 o0) : ∀ (r0 : List Val) (i0 : Nat) (ah : Bool) (ay : List aH), List.drop i0 (s_Kd p1 p2 4 o0).1.list = r0 → List.length ay ≤ i0 → Qxr p1 p2 o0 (Qw6 p1 p2 o0 i0 ah ay) (Q80 p1 p2 o0 r0 i0 ah ay)
 | [], i0, ah, ay, hd, aP => by
  have bC : (decide ((i0 : Int) < ((List.length (s_Kd p1 p2 4 o0).1.list) : Int))) = false := by have := Q1o hd; simp; omega
  rw [Q80]
  exact Q1jp p1 p2 o0 H i0 ah ay aP bC
 | x0 :: r0, i0, ah, ay, hd, aP => by
  obtain ⟨bF, bR, hd'⟩ := Q1p hd
  have bC : (decide ((i0 : Int) < ((List.length (s_Kd p1 p2 4 o0).1.list) : Int))) = true := by simp; omega
  rw [Q80]
  exact Q10q p1 p2 o0 (fun r hr => Q1i5 p1 p2 o0 H x0 i0 ah ay bF bR aP bC hr) _ (Q18r p1 p2 o0 H r0 _ _ _ hd' (by first | omega | (simp; omega)))
def s_Kt (p1 : Val) (p2 : BA) (o0 : aj) : List aH × aj := ((dE aH.dec p1 p2).1, ft o0 (isM p1 && (dE aH.dec p1 p2).2))
theorem Q1ih (p1 : Val) (p2 : BA) (o0 : aj) : ∀ (l : List Val) (i : Nat) (b : Bool) (a : List aH), Q80 p1 p2 o0 l i b a = (b || !(l.all fun x => (aH.dec x).2), a ++ l.map (fun x => (aH.dec x).1))
  | [], _, b, a => by rw [Q80]; simp
  | x :: l, i, b, a => by
    rw [Q80]
    refine (Q1ih p1 p2 o0 l (i + 1) (b || !(aH.dec x).2) (a ++ [(aH.dec x).1])).trans ?_
    simp only [List.append_assoc, List.singleton_append, List.map_cons, List.all_cons, Bool.not_and, Bool.or_assoc]
theorem e_Kt (p1 : Val) (p2 : BA) (o0 : aj) : s_Kt p1 p2 o0 = (((Q80 p1 p2 o0 (s_Kd p1 p2 4 o0).1.list 0 (s_Kd p1 p2 4 o0).2.bD []).2, (aj.mk (Q80 p1 p2 o0 (s_Kd p1 p2 4 o0).1.list 0 (s_Kd p1 p2 4 o0).2.bD []).1))) := by
  rw [Q1ih]
  unfold s_Kd s_Kt
  simp only [Qam, Q6c]
  refine Prod.ext rfl ?_
  rw [Qa8 o0.bD (isM p1) _ _ _ (Qz7 (prt p1 p2)), Q7g]
  rfl
def c_Kt (p1 : Val) (p2 : BA) (o0 : aj) : En := .call 241 [.bx 0 0, .agg (Val.cells p1), .str p2, .fn 242 [.bx 0 0] []] [⟨1, 0, false, (aj.cells o0)⟩]
def r_Kt (_p1 : Val) (_p2 : BA) (_o0 : aj) (q0 : List aH) (q1 : aj) : Rs := .ret (.sl (aH.rows q0)) [⟨1, 0, false, (aj.cells q1)⟩]
def a_Kt (p1 : Val) (p2 : BA) (o0 : aj) : Rs := r_Kt p1 p2 o0 (s_Kt p1 p2 o0).1 (s_Kt p1 p2 o0).2
def H_Kt (p1 : Val) : Prop := Val.Sm 1000000000 p1
theorem Q1hk (p1 : Val) (p2 : BA) (o0 : aj) (H : H_Kt p1) : (H_Kd p1) ∧ (Qkf p1 p2 o0) ∧ True := by
  have hl := Q71 (Qg H p2)
  refine ⟨H, ?_, trivial⟩
  unfold Qkf s_Kd
  simp only [Qam]
  exact ⟨Nat.le_trans hl.1 (Nat.le_of_ble_eq_true rfl), hl.2, trivial⟩
theorem t_Kt (p1 : Val) (p2 : BA) (o0 : aj) (H : H_Kt p1) : Q0 G (c_Kt p1 p2 o0) (a_Kt p1 p2 o0) := by
 unfold a_Kt
 rw [e_Kt]
 have hl0 := Q18r p1 p2 o0 ((Q1hk p1 p2 o0 H).2.1) (s_Kd p1 p2 4 o0).1.list 0 (s_Kd p1 p2 4 o0).2.bD [] (by simp) (by simp)
 obtain ⟨z0, fA, hl0⟩ := hl0
 exact Q7 (fn := Ir.Kt) (by kernel_rfl) (h := [⟨1, 0, false, (aj.cells o0)⟩]) (vw := []) VOK.nil [hP 8 (Qs _ _ (Val.Q5 (s_Kd p1 p2 4 o0).1.list)), hS 0 true (aH.Q8 (Q80 p1 p2 o0 (s_Kd p1 p2 4 o0).1.list 0 (s_Kd p1 p2 4 o0).2.bD []).2 11 rfl), hQ (aH.Q5 (Q80 p1 p2 o0 (s_Kd p1 p2 4 o0).1.list 0 (s_Kd p1 p2 4 o0).2.bD []).2).symm] [aN (t_Kd p1 p2 4 o0 (Q1hk p1 p2 o0 H).1), aV [(1, aH.rows (Q80 p1 p2 o0 (s_Kd p1 p2 4 o0).1.list 0 (s_Kd p1 p2 4 o0).2.bD []).2)] hl0] (by kernel_rfl)
def s_Kq (p1 : Val) (o0 : aj) : ByteArray × aj := ((xS p1).1, ft o0 (xS p1).2)
theorem e_Kq (p1 : Val) (o0 : aj) : s_Kq p1 o0 = (bif o0.bD then
    bif (p1.kind == 3) then
      (p1.s, (aj.mk true))
    else
      (eB, (aj.mk true))
  else
    bif (p1.kind == 3) then
      (p1.s, (aj.mk false))
    else
      (eB, (aj.mk (!(p1.kind == 0))))) := by
  obtain ⟨b⟩ := o0
  unfold s_Kq ft xS
  cases b <;> cases (p1.kind == 3) <;> cases (p1.kind == 0) <;> rfl
def c_Kq (p1 : Val) (o0 : aj) : En := .call 279 [.bx 0 0, .agg (Val.cells p1)] [⟨1, 0, false, (aj.cells o0)⟩]
def r_Kq (_p1 : Val) (_o0 : aj) (q0 : BA) (q1 : aj) : Rs := .ret (.str q0) [⟨1, 0, false, (aj.cells q1)⟩]
def a_Kq (p1 : Val) (o0 : aj) : Rs := r_Kq p1 o0 (s_Kq p1 o0).1 (s_Kq p1 o0).2
theorem t_Kq (p1 : Val) (o0 : aj) : Q0 G (c_Kq p1 o0) (a_Kq p1 o0) := by
 unfold a_Kq
 rw [e_Kq]
 cases h0 : o0.bD with
 | true =>
  cases h1 : (p1.kind == 3) with
  | true =>
   exact Q7 (fn := Ir.Kq) (by kernel_rfl) (h := [⟨1, 0, false, (aj.cells o0)⟩]) (vw := []) VOK.nil [hP 6 (decR o0.bD true [0] h0), hP 15 (dec (!(p1.kind == 3)) false (by rw [h1]; rfl))] [] (by kernel_rfl)
  | false =>
   exact Q7 (fn := Ir.Kq) (by kernel_rfl) (h := [⟨1, 0, false, (aj.cells o0)⟩]) (vw := []) VOK.nil [hP 6 (decR o0.bD true [0] h0), hP 15 (dec (!(p1.kind == 3)) true (by rw [h1]; rfl))] [] (by kernel_rfl)
 | false =>
  cases h1 : (p1.kind == 3) with
  | true =>
   exact Q7 (fn := Ir.Kq) (by kernel_rfl) (h := [⟨1, 0, false, (aj.cells o0)⟩]) (vw := []) VOK.nil [hP 6 (decR o0.bD false [0] h0), hP 3 (dec (!(p1.kind == 3)) false (by rw [h1]; rfl)), hP 11 (dec (!(p1.kind == 3)) false (by rw [h1]; rfl))] [] (by kernel_rfl)
  | false =>
   exact Q7 (fn := Ir.Kq) (by kernel_rfl) (h := [⟨1, 0, false, (aj.cells o0)⟩]) (vw := []) VOK.nil [hP 6 (decR o0.bD false [0] h0), hP 3 (dec (!(p1.kind == 3)) true (by rw [h1]; rfl)), hP 11 (dec (!(p1.kind == 3)) true (by rw [h1]; rfl))] [] (by kernel_rfl)
def Q6j (p1 : Val) (p2 : BA) (o0 : aj) : List Val → Nat → Bool → (List ByteArray) → Bool × (List ByteArray)
 | [], _i0, ah, ay =>
  (ah, ay)
 | x0 :: r0, i0, ah, ay =>
  Q6j p1 p2 o0 r0 (i0 + 1) (s_Kq x0 (aj.mk ah)).2.bD (ay ++ [(s_Kq x0 (aj.mk ah)).1])
def Q1es (p1 : Val) (p2 : BA) (o0 : aj) (i0 : Nat) (_ah : Bool) (ay : List ByteArray) : List PV :=
  [.un, .un, .un, .fn 279 [.bx 0 0] []] ++ nuns 5 ++ [.ms 1 1 0 (List.length ay)] ++ nuns 6 ++ [.sl (Val.rows (s_Kd p1 p2 4 o0).1.list), iN ((List.length (s_Kd p1 p2 4 o0).1.list) : Int), iN (i0 : Int)] ++ nuns 11
def Qz9 (_p1 : Val) (_p2 : BA) (_o0 : aj) (_i0 : Nat) (ah : Bool) (ay : List ByteArray) : List Ob :=
  [⟨1, 0, false, [.bool ah]⟩, ⟨1, 0, true, (Q15 ay).flatten⟩]
def Qgy (p1 : Val) (p2 : BA) (o0 : aj) (i0 : Nat) (ah : Bool) (ay : List ByteArray) : En := .loop 1 Ir.Qkm Ir.Q1n7 (Q1es p1 p2 o0 i0 ah ay) (Qz9 p1 p2 o0 i0 ah ay)
def Qrr (_p1 : Val) (_p2 : BA) (_o0 : aj) (q0 : Bool) (q1 : List ByteArray) (z : Nat → PV) (_zo : Nat → List PV) : St :=
  ⟨zr z 0 9 ++ [.ms 1 1 0 (List.length q1)] ++ zr z 10 20, [(0, ⟨1, 0, false, [.bool q0]⟩), (1, ⟨1, 0, true, (Q15 q1).flatten⟩)], 66⟩
theorem Q15y (p1 : Val) (p2 : BA) (o0 : aj) (i0 : Nat) (ah : Bool) (ay : List ByteArray) : VOK (Go.Pv.look (number 0 (Qz9 p1 p2 o0 i0 ah ay))) [(1, Q15 ay)] := (VOK.cons (show Seen _ _ from Q4a (ob := ⟨1, 0, true, (Q15 ay).flatten⟩) (Q39 ay 1 rfl)) VOK.nil)
def Qiq (p1 : Val) (p2 : BA) (o0 : aj) (e : En) (q : Bool × (List ByteArray)) : Prop := ∃ z zo, Q0 G e (.st (.exit 0) (Qrr p1 p2 o0 q.1 q.2 z zo))
theorem Qwh (p1 : Val) (p2 : BA) (o0 : aj) {e e' : En} (h : ∀ r, Q0 G e r → Q0 G e' r) : ∀ q, Qiq p1 p2 o0 e q → Qiq p1 p2 o0 e' q
  | _, ⟨z, zo, hz⟩ => ⟨z, zo, h _ hz⟩
def Qdr (p1 : Val) (p2 : BA) (o0 : aj) : Prop := (List.length (s_Kd p1 p2 4 o0).1.list ≤ 137438953472) ∧ True
def Qtm (p1 : Val) (p2 : BA) (o0 : aj) (i0 : Nat) (_ah : Bool) (_ay : List ByteArray) : List PV :=
  [.un, .un, .un, .fn 279 [.bx 0 0] []] ++ nuns 12 ++ [.sl (Val.rows (s_Kd p1 p2 4 o0).1.list), iN ((List.length (s_Kd p1 p2 4 o0).1.list) : Int), iN (i0 : Int), .bool false]
def Qmb (_p1 : Val) (_p2 : BA) (_o0 : aj) (_i0 : Nat) (_ah : Bool) (_ay : List ByteArray) : List (Nat × List PV) :=
  []
theorem Q1d1 (p1 : Val) (p2 : BA) (o0 : aj) (_H : Qdr p1 p2 o0) (i0 : Nat) (ah : Bool) (ay : List ByteArray) (_aP : List.length ay ≤ i0) (bC : (decide ((i0 : Int) < ((List.length (s_Kd p1 p2 4 o0).1.list) : Int))) = false) : Qiq p1 p2 o0 (Qgy p1 p2 o0 i0 ah ay) (ah, ay) := by
 exact ⟨(envF (Qtm p1 p2 o0 i0 ah ay)), (zoF (Qmb p1 p2 o0 i0 ah ay)), Qh (Q15y p1 p2 o0 i0 ah ay) (x := ((.exit 0), Qrr p1 p2 o0 ah ay (envF (Qtm p1 p2 o0 i0 ah ay)) (zoF (Qmb p1 p2 o0 i0 ah ay)))) [hB 0 bC] [] (by kernel_rfl)⟩
theorem Q1af (p1 : Val) (p2 : BA) (o0 : aj) (H : Qdr p1 p2 o0) (x0 : Val) (i0 : Nat) (ah : Bool) (ay : List ByteArray) (bF : (s_Kd p1 p2 4 o0).1.list[i0]? = some x0) (bR : i0 < List.length (s_Kd p1 p2 4 o0).1.list) (aP : List.length ay ≤ i0) (bC : (decide ((i0 : Int) < ((List.length (s_Kd p1 p2 4 o0).1.list) : Int))) = true) {r : Rs} (hr : Q0 G (Qgy p1 p2 o0 (i0 + 1) (s_Kq x0 (aj.mk ah)).2.bD (ay ++ [(s_Kq x0 (aj.mk ah)).1])) r) : Q0 G (Qgy p1 p2 o0 i0 ah ay) r := by
 have hB0 := H.1
 exact Qc (Q15y p1 p2 o0 i0 ah ay) [hB 0 bC, hP 0 (Q1l 5 _ i0 _ (Val.Qb bF) rfl), hA 8 1 578 642 1 16 0 0 true Q2d Q5t ay (s_Kq x0 (aj.mk ah)).1 (Q4o ay) rfl rfl (by omega), hS 0 true (Q39 (ay ++ [(s_Kq x0 (aj.mk ah)).1]) 1 rfl), hP 1 (Q26 i0 (by omega))] [aN (t_Kq x0 (aj.mk ah))] hr (by kernel_rfl)
theorem Q121 (p1 : Val) (p2 : BA) (o0 : aj) (H : Qdr p1 p2 o0) : ∀ (r0 : List Val) (i0 : Nat) (ah : Bool) (ay : List ByteArray), List.drop i0 (s_Kd p1 p2 4 o0).1.list = r0 → List.length ay ≤ i0 → Qiq p1 p2 o0 (Qgy p1 p2 o0 i0 ah ay) (Q6j p1 p2 o0 r0 i0 ah ay)
 | [], i0, ah, ay, hd, aP => by
  have bC : (decide ((i0 : Int) < ((List.length (s_Kd p1 p2 4 o0).1.list) : Int))) = false := by have := Q1o hd; simp; omega
  rw [Q6j]
  exact Q1d1 p1 p2 o0 H i0 ah ay aP bC
 | x0 :: r0, i0, ah, ay, hd, aP => by
  obtain ⟨bF, bR, hd'⟩ := Q1p hd
  have bC : (decide ((i0 : Int) < ((List.length (s_Kd p1 p2 4 o0).1.list) : Int))) = true := by simp; omega
  rw [Q6j]
  exact Qwh p1 p2 o0 (fun r hr => Q1af p1 p2 o0 H x0 i0 ah ay bF bR aP bC hr) _ (Q121 p1 p2 o0 H r0 _ _ _ hd' (by first | omega | (simp; omega)))
def Q154 (p1 : Val) (p2 : BA) (o0 : aj) : List ByteArray × aj := ((dE xS p1 p2).1, ft o0 (isM p1 && (dE xS p1 p2).2))
theorem Q19f (p1 : Val) (p2 : BA) (o0 : aj) : ∀ (l : List Val) (i : Nat) (b : Bool) (a : List ByteArray), Q6j p1 p2 o0 l i b a = (b || !(l.all fun x => (xS x).2), a ++ l.map (fun x => (xS x).1))
  | [], _, b, a => by rw [Q6j]; simp
  | x :: l, i, b, a => by
    rw [Q6j]
    refine (Q19f p1 p2 o0 l (i + 1) (b || !(xS x).2) (a ++ [(xS x).1])).trans ?_
    simp only [List.append_assoc, List.singleton_append, List.map_cons, List.all_cons, Bool.not_and, Bool.or_assoc]
theorem Q2a7 (p1 : Val) (p2 : BA) (o0 : aj) : Q154 p1 p2 o0 = (((Q6j p1 p2 o0 (s_Kd p1 p2 4 o0).1.list 0 (s_Kd p1 p2 4 o0).2.bD []).2, (aj.mk (Q6j p1 p2 o0 (s_Kd p1 p2 4 o0).1.list 0 (s_Kd p1 p2 4 o0).2.bD []).1))) := by
  rw [Q19f]
  unfold s_Kd Q154
  simp only [Qam, Q6c]
  refine Prod.ext rfl ?_
  rw [Qa8 o0.bD (isM p1) _ _ _ (Qz7 (prt p1 p2)), Q7g]
  rfl
def Q26u (p1 : Val) (p2 : BA) (o0 : aj) : En := .call 278 [.bx 0 0, .agg (Val.cells p1), .str p2, .fn 279 [.bx 0 0] []] [⟨1, 0, false, (aj.cells o0)⟩]
def Q2d6 (_p1 : Val) (_p2 : BA) (_o0 : aj) (q0 : List ByteArray) (q1 : aj) : Rs := .ret (.sl (Q15 q0)) [⟨1, 0, false, (aj.cells q1)⟩]
def Q1vz (p1 : Val) (p2 : BA) (o0 : aj) : Rs := Q2d6 p1 p2 o0 (Q154 p1 p2 o0).1 (Q154 p1 p2 o0).2
def Q1p6 (p1 : Val) : Prop := Val.Sm 1000000000 p1
theorem Q177 (p1 : Val) (p2 : BA) (o0 : aj) (H : Q1p6 p1) : (H_Kd p1) ∧ (Qdr p1 p2 o0) ∧ True := by
  have hl := Q71 (Qg H p2)
  refine ⟨H, ?_, trivial⟩
  unfold Qdr s_Kd
  simp only [Qam]
  exact ⟨Nat.le_trans hl.1 (Nat.le_of_ble_eq_true rfl), trivial⟩
theorem Q2f2 (p1 : Val) (p2 : BA) (o0 : aj) (H : Q1p6 p1) : Q0 G (Q26u p1 p2 o0) (Q1vz p1 p2 o0) := by
 unfold Q1vz
 rw [Q2a7]
 have hl0 := Q121 p1 p2 o0 ((Q177 p1 p2 o0 H).2.1) (s_Kd p1 p2 4 o0).1.list 0 (s_Kd p1 p2 4 o0).2.bD [] (by simp) (by simp)
 obtain ⟨z0, fA, hl0⟩ := hl0
 exact Q7 (fn := Ir.K10) (by kernel_rfl) (h := [⟨1, 0, false, (aj.cells o0)⟩]) (vw := []) VOK.nil [hP 8 (Qs _ _ (Val.Q5 (s_Kd p1 p2 4 o0).1.list)), hS 0 true (Q39 (Q6j p1 p2 o0 (s_Kd p1 p2 4 o0).1.list 0 (s_Kd p1 p2 4 o0).2.bD []).2 1 rfl), hQ (Q2d (Q6j p1 p2 o0 (s_Kd p1 p2 4 o0).1.list 0 (s_Kd p1 p2 4 o0).2.bD []).2).symm] [aN (t_Kd p1 p2 4 o0 (Q177 p1 p2 o0 H).1), aV [(1, Q15 (Q6j p1 p2 o0 (s_Kd p1 p2 4 o0).1.list 0 (s_Kd p1 p2 4 o0).2.bD []).2)] hl0] (by kernel_rfl)
def s_Kj (p1 : Val) (o0 : aj) : au × aj := ((au.dec p1).1, ft o0 (au.dec p1).2)
theorem e_Kj (p1 : Val) (o0 : aj) : s_Kj p1 o0 = (((au.mk (s_Kn p1 Q12 (s_Ko p1 o0).2).1 (s_Kg p1 Q5i (s_Kn p1 Q12 (s_Ko p1 o0).2).2).1 (Q154 p1 Q28 (s_Kg p1 Q5i (s_Kn p1 Q12 (s_Ko p1 o0).2).2).2).1), (Q154 p1 Q28 (s_Kg p1 Q5i (s_Kn p1 Q12 (s_Ko p1 o0).2).2).2).2)) := by
  simp only [s_Ko, s_Kg, s_Kn, Q154, s_Kj, au.dec, Qof, Bool.and_assoc, Bool.and_left_comm, Bool.and_comm, Bool.and_self_left]
def c_Kj (p1 : Val) (o0 : aj) : En := .call 244 [.bx 0 0, .agg (Val.cells p1)] [⟨1, 0, false, (aj.cells o0)⟩]
def r_Kj (_p1 : Val) (_o0 : aj) (q0 : au) (q1 : aj) : Rs := .ret (.agg (au.cells q0)) [⟨1, 0, false, (aj.cells q1)⟩]
def a_Kj (p1 : Val) (o0 : aj) : Rs := r_Kj p1 o0 (s_Kj p1 o0).1 (s_Kj p1 o0).2
def H_Kj (p1 : Val) : Prop := Val.Sm 1000000000 p1
theorem Q14n (p1 : Val) (_o0 : aj) (H : H_Kj p1) : (H_Kn p1) ∧ (H_Kg p1) ∧ (Q1p6 p1) ∧ True := by
  repeat' with_reducible apply And.intro
  all_goals first | exact True.intro | exact H | exact Qpf (Qg H _)
theorem t_Kj (p1 : Val) (o0 : aj) (H : H_Kj p1) : Q0 G (c_Kj p1 o0) (a_Kj p1 o0) := by
 unfold a_Kj
 rw [e_Kj]
 exact Q7 (fn := Ir.Kj) (by kernel_rfl) (h := [⟨1, 0, false, (aj.cells o0)⟩]) (vw := []) VOK.nil [] [aN (t_Ko p1 o0), aN (t_Kn p1 Q12 (s_Ko p1 o0).2 (Q14n p1 o0 H).1), aN (t_Kg p1 Q5i (s_Kn p1 Q12 (s_Ko p1 o0).2).2 (Q14n p1 o0 H).2.1), aN (Q2f2 p1 Q28 (s_Kg p1 Q5i (s_Kn p1 Q12 (s_Ko p1 o0).2).2).2 (Q14n p1 o0 H).2.2.1)] (by kernel_rfl)
def Q81 (p1 : Val) (p2 : BA) (o0 : aj) : List Val → Nat → Bool → (List au) → Bool × (List au)
 | [], _i0, ah, ay =>
  (ah, ay)
 | x0 :: r0, i0, ah, ay =>
  Q81 p1 p2 o0 r0 (i0 + 1) (s_Kj x0 (aj.mk ah)).2.bD (ay ++ [(s_Kj x0 (aj.mk ah)).1])
def Q1k2 (p1 : Val) (p2 : BA) (o0 : aj) (i0 : Nat) (_ah : Bool) (ay : List au) : List PV :=
  [.un, .un, .un, .fn 244 [.bx 0 0] []] ++ nuns 5 ++ [.ms 1 3 0 (List.length ay)] ++ nuns 6 ++ [.sl (Val.rows (s_Kd p1 p2 4 o0).1.list), iN ((List.length (s_Kd p1 p2 4 o0).1.list) : Int), iN (i0 : Int)] ++ nuns 11
def Q15n (_p1 : Val) (_p2 : BA) (_o0 : aj) (_i0 : Nat) (ah : Bool) (ay : List au) : List Ob :=
  [⟨1, 0, false, [.bool ah]⟩, ⟨3, 0, true, (au.rows ay).flatten⟩]
def Qw7 (p1 : Val) (p2 : BA) (o0 : aj) (i0 : Nat) (ah : Bool) (ay : List au) : En := .loop 1 Ir.Qrk Ir.Q1vq (Q1k2 p1 p2 o0 i0 ah ay) (Q15n p1 p2 o0 i0 ah ay)
def Q10z (_p1 : Val) (_p2 : BA) (_o0 : aj) (q0 : Bool) (q1 : List au) (z : Nat → PV) (_zo : Nat → List PV) : St :=
  ⟨zr z 0 9 ++ [.ms 1 3 0 (List.length q1)] ++ zr z 10 20, [(0, ⟨1, 0, false, [.bool q0]⟩), (1, ⟨3, 0, true, (au.rows q1).flatten⟩)], 66⟩
theorem Q1gu (p1 : Val) (p2 : BA) (o0 : aj) (i0 : Nat) (ah : Bool) (ay : List au) : VOK (Go.Pv.look (number 0 (Q15n p1 p2 o0 i0 ah ay))) [(1, au.rows ay)] := (VOK.cons (show Seen _ _ from Q4a (ob := ⟨3, 0, true, (au.rows ay).flatten⟩) (au.Q8 ay 3 rfl)) VOK.nil)
def Qxs (p1 : Val) (p2 : BA) (o0 : aj) (e : En) (q : Bool × (List au)) : Prop := ∃ z zo, Q0 G e (.st (.exit 0) (Q10z p1 p2 o0 q.1 q.2 z zo))
theorem Q10r (p1 : Val) (p2 : BA) (o0 : aj) {e e' : En} (h : ∀ r, Q0 G e r → Q0 G e' r) : ∀ q, Qxs p1 p2 o0 e q → Qxs p1 p2 o0 e' q
  | _, ⟨z, zo, hz⟩ => ⟨z, zo, h _ hz⟩
def Qkg (p1 : Val) (p2 : BA) (o0 : aj) : Prop := (List.length (s_Kd p1 p2 4 o0).1.list ≤ 137438953472) ∧ (∀ x0 ∈ (s_Kd p1 p2 4 o0).1.list, H_Kj x0) ∧ True
def Q119 (p1 : Val) (p2 : BA) (o0 : aj) (i0 : Nat) (_ah : Bool) (_ay : List au) : List PV :=
  [.un, .un, .un, .fn 244 [.bx 0 0] []] ++ nuns 12 ++ [.sl (Val.rows (s_Kd p1 p2 4 o0).1.list), iN ((List.length (s_Kd p1 p2 4 o0).1.list) : Int), iN (i0 : Int), .bool false]
def Qtg (_p1 : Val) (_p2 : BA) (_o0 : aj) (_i0 : Nat) (_ah : Bool) (_ay : List au) : List (Nat × List PV) :=
  []
theorem Q1jq (p1 : Val) (p2 : BA) (o0 : aj) (_H : Qkg p1 p2 o0) (i0 : Nat) (ah : Bool) (ay : List au) (_aP : List.length ay ≤ i0) (bC : (decide ((i0 : Int) < ((List.length (s_Kd p1 p2 4 o0).1.list) : Int))) = false) : Qxs p1 p2 o0 (Qw7 p1 p2 o0 i0 ah ay) (ah, ay) := by
 exact ⟨(envF (Q119 p1 p2 o0 i0 ah ay)), (zoF (Qtg p1 p2 o0 i0 ah ay)), Qh (Q1gu p1 p2 o0 i0 ah ay) (x := ((.exit 0), Q10z p1 p2 o0 ah ay (envF (Q119 p1 p2 o0 i0 ah ay)) (zoF (Qtg p1 p2 o0 i0 ah ay)))) [hB 0 bC] [] (by kernel_rfl)⟩
theorem Q1i6 (p1 : Val) (p2 : BA) (o0 : aj) (H : Qkg p1 p2 o0) (x0 : Val) (i0 : Nat) (ah : Bool) (ay : List au) (bF : (s_Kd p1 p2 4 o0).1.list[i0]? = some x0) (bR : i0 < List.length (s_Kd p1 p2 4 o0).1.list) (aP : List.length ay ≤ i0) (bC : (decide ((i0 : Int) < ((List.length (s_Kd p1 p2 4 o0).1.list) : Int))) = true) {r : Rs} (hr : Q0 G (Qw7 p1 p2 o0 (i0 + 1) (s_Kj x0 (aj.mk ah)).2.bD (ay ++ [(s_Kj x0 (aj.mk ah)).1])) r) : Q0 G (Qw7 p1 p2 o0 i0 ah ay) r := by
 have hB0 := H.1
 exact Qc (Q1gu p1 p2 o0 i0 ah ay) [hB 0 bC, hP 0 (Q1l 5 _ i0 _ (Val.Qb bF) rfl), hA 8 1 578 642 3 48 0 0 true au.Q5 au.Q1n ay (s_Kj x0 (aj.mk ah)).1 (au.Qw ay) rfl rfl (by omega), hS 0 true (au.Q8 (ay ++ [(s_Kj x0 (aj.mk ah)).1]) 3 rfl), hP 1 (Q26 i0 (by omega))] [aN (t_Kj x0 (aj.mk ah) (H.2.1 x0 (Q1i bF)))] hr (by kernel_rfl)
theorem Q18s (p1 : Val) (p2 : BA) (o0 : aj) (H : Qkg p1 p2 o0) : ∀ (r0 : List Val) (i0 : Nat) (ah : Bool) (ay : List au), List.drop i0 (s_Kd p1 p2 4 o0).1.list = r0 → List.length ay ≤ i0 → Qxs p1 p2 o0 (Qw7 p1 p2 o0 i0 ah ay) (Q81 p1 p2 o0 r0 i0 ah ay)
 | [], i0, ah, ay, hd, aP => by
  have bC : (decide ((i0 : Int) < ((List.length (s_Kd p1 p2 4 o0).1.list) : Int))) = false := by have := Q1o hd; simp; omega
  rw [Q81]
  exact Q1jq p1 p2 o0 H i0 ah ay aP bC
 | x0 :: r0, i0, ah, ay, hd, aP => by
  obtain ⟨bF, bR, hd'⟩ := Q1p hd
  have bC : (decide ((i0 : Int) < ((List.length (s_Kd p1 p2 4 o0).1.list) : Int))) = true := by simp; omega
  rw [Q81]
  exact Q10r p1 p2 o0 (fun r hr => Q1i6 p1 p2 o0 H x0 i0 ah ay bF bR aP bC hr) _ (Q18s p1 p2 o0 H r0 _ _ _ hd' (by first | omega | (simp; omega)))
def s_Ku (p1 : Val) (p2 : BA) (o0 : aj) : List au × aj := ((dE au.dec p1 p2).1, ft o0 (isM p1 && (dE au.dec p1 p2).2))
theorem Q1ii (p1 : Val) (p2 : BA) (o0 : aj) : ∀ (l : List Val) (i : Nat) (b : Bool) (a : List au), Q81 p1 p2 o0 l i b a = (b || !(l.all fun x => (au.dec x).2), a ++ l.map (fun x => (au.dec x).1))
  | [], _, b, a => by rw [Q81]; simp
  | x :: l, i, b, a => by
    rw [Q81]
    refine (Q1ii p1 p2 o0 l (i + 1) (b || !(au.dec x).2) (a ++ [(au.dec x).1])).trans ?_
    simp only [List.append_assoc, List.singleton_append, List.map_cons, List.all_cons, Bool.not_and, Bool.or_assoc]
theorem e_Ku (p1 : Val) (p2 : BA) (o0 : aj) : s_Ku p1 p2 o0 = (((Q81 p1 p2 o0 (s_Kd p1 p2 4 o0).1.list 0 (s_Kd p1 p2 4 o0).2.bD []).2, (aj.mk (Q81 p1 p2 o0 (s_Kd p1 p2 4 o0).1.list 0 (s_Kd p1 p2 4 o0).2.bD []).1))) := by
  rw [Q1ii]
  unfold s_Kd s_Ku
  simp only [Qam, Q6c]
  refine Prod.ext rfl ?_
  rw [Qa8 o0.bD (isM p1) _ _ _ (Qz7 (prt p1 p2)), Q7g]
  rfl
def c_Ku (p1 : Val) (p2 : BA) (o0 : aj) : En := .call 243 [.bx 0 0, .agg (Val.cells p1), .str p2, .fn 244 [.bx 0 0] []] [⟨1, 0, false, (aj.cells o0)⟩]
def r_Ku (_p1 : Val) (_p2 : BA) (_o0 : aj) (q0 : List au) (q1 : aj) : Rs := .ret (.sl (au.rows q0)) [⟨1, 0, false, (aj.cells q1)⟩]
def a_Ku (p1 : Val) (p2 : BA) (o0 : aj) : Rs := r_Ku p1 p2 o0 (s_Ku p1 p2 o0).1 (s_Ku p1 p2 o0).2
def H_Ku (p1 : Val) : Prop := Val.Sm 1000000000 p1
theorem Q1hl (p1 : Val) (p2 : BA) (o0 : aj) (H : H_Ku p1) : (H_Kd p1) ∧ (Qkg p1 p2 o0) ∧ True := by
  have hl := Q71 (Qg H p2)
  refine ⟨H, ?_, trivial⟩
  unfold Qkg s_Kd
  simp only [Qam]
  exact ⟨Nat.le_trans hl.1 (Nat.le_of_ble_eq_true rfl), hl.2, trivial⟩
theorem t_Ku (p1 : Val) (p2 : BA) (o0 : aj) (H : H_Ku p1) : Q0 G (c_Ku p1 p2 o0) (a_Ku p1 p2 o0) := by
 unfold a_Ku
 rw [e_Ku]
 have hl0 := Q18s p1 p2 o0 ((Q1hl p1 p2 o0 H).2.1) (s_Kd p1 p2 4 o0).1.list 0 (s_Kd p1 p2 4 o0).2.bD [] (by simp) (by simp)
 obtain ⟨z0, fA, hl0⟩ := hl0
 exact Q7 (fn := Ir.Ku) (by kernel_rfl) (h := [⟨1, 0, false, (aj.cells o0)⟩]) (vw := []) VOK.nil [hP 8 (Qs _ _ (Val.Q5 (s_Kd p1 p2 4 o0).1.list)), hS 0 true (au.Q8 (Q81 p1 p2 o0 (s_Kd p1 p2 4 o0).1.list 0 (s_Kd p1 p2 4 o0).2.bD []).2 3 rfl), hQ (au.Q5 (Q81 p1 p2 o0 (s_Kd p1 p2 4 o0).1.list 0 (s_Kd p1 p2 4 o0).2.bD []).2).symm] [aN (t_Kd p1 p2 4 o0 (Q1hl p1 p2 o0 H).1), aV [(1, au.rows (Q81 p1 p2 o0 (s_Kd p1 p2 4 o0).1.list 0 (s_Kd p1 p2 4 o0).2.bD []).2)] hl0] (by kernel_rfl)
def s_Kf (p1 : Val) (o0 : aj) : aK × aj := ((aK.dec p1).1, ft o0 (aK.dec p1).2)
theorem e_Kf (p1 : Val) (o0 : aj) : s_Kf p1 o0 = (((aK.mk (s_Kc p1 Qa (s_Ko p1 o0).2).1 (s_Ku p1 Q6 (s_Kc p1 Qa (s_Ko p1 o0).2).2).1 (s_Kg p1 Q1j (s_Ku p1 Q6 (s_Kc p1 Qa (s_Ko p1 o0).2).2).2).1), (s_Kg p1 Q1j (s_Ku p1 Q6 (s_Kc p1 Qa (s_Ko p1 o0).2).2).2).2)) := by
  simp only [s_Ko, s_Kg, s_Kc, s_Ku, s_Kf, aK.dec, Qof, Bool.and_assoc, Bool.and_left_comm, Bool.and_self_left]
def c_Kf (p1 : Val) (o0 : aj) : En := .call 246 [.bx 0 0, .agg (Val.cells p1)] [⟨1, 0, false, (aj.cells o0)⟩]
def r_Kf (_p1 : Val) (_o0 : aj) (q0 : aK) (q1 : aj) : Rs := .ret (.agg (aK.cells q0)) [⟨1, 0, false, (aj.cells q1)⟩]
def a_Kf (p1 : Val) (o0 : aj) : Rs := r_Kf p1 o0 (s_Kf p1 o0).1 (s_Kf p1 o0).2
def H_Kf (p1 : Val) : Prop := Val.Sm 1000000000 p1
theorem Q14m (p1 : Val) (_o0 : aj) (H : H_Kf p1) : (H_Kc p1) ∧ (H_Ku p1) ∧ (H_Kg p1) ∧ True := by
  repeat' with_reducible apply And.intro
  all_goals first | exact True.intro | exact H | exact Qpf (Qg H _)
theorem t_Kf (p1 : Val) (o0 : aj) (H : H_Kf p1) : Q0 G (c_Kf p1 o0) (a_Kf p1 o0) := by
 unfold a_Kf
 rw [e_Kf]
 exact Q7 (fn := Ir.Kf) (by kernel_rfl) (h := [⟨1, 0, false, (aj.cells o0)⟩]) (vw := []) VOK.nil [] [aN (t_Ko p1 o0), aN (t_Kc p1 Qa (s_Ko p1 o0).2 (Q14m p1 o0 H).1), aN (t_Ku p1 Q6 (s_Kc p1 Qa (s_Ko p1 o0).2).2 (Q14m p1 o0 H).2.1), aN (t_Kg p1 Q1j (s_Ku p1 Q6 (s_Kc p1 Qa (s_Ko p1 o0).2).2).2 (Q14m p1 o0 H).2.2.1)] (by kernel_rfl)
def Q82 (p1 : Val) (p2 : BA) (o0 : aj) : List Val → Nat → Bool → (List aK) → Bool × (List aK)
 | [], _i0, ah, ay =>
  (ah, ay)
 | x0 :: r0, i0, ah, ay =>
  Q82 p1 p2 o0 r0 (i0 + 1) (s_Kf x0 (aj.mk ah)).2.bD (ay ++ [(s_Kf x0 (aj.mk ah)).1])
def Q1k3 (p1 : Val) (p2 : BA) (o0 : aj) (i0 : Nat) (_ah : Bool) (ay : List aK) : List PV :=
  [.un, .un, .un, .fn 246 [.bx 0 0] []] ++ nuns 5 ++ [.ms 1 3 0 (List.length ay)] ++ nuns 6 ++ [.sl (Val.rows (s_Kd p1 p2 4 o0).1.list), iN ((List.length (s_Kd p1 p2 4 o0).1.list) : Int), iN (i0 : Int)] ++ nuns 11
def Q15o (_p1 : Val) (_p2 : BA) (_o0 : aj) (_i0 : Nat) (ah : Bool) (ay : List aK) : List Ob :=
  [⟨1, 0, false, [.bool ah]⟩, ⟨3, 0, true, (aK.rows ay).flatten⟩]
def Qw8 (p1 : Val) (p2 : BA) (o0 : aj) (i0 : Nat) (ah : Bool) (ay : List aK) : En := .loop 1 Ir.Qrl Ir.Q1vr (Q1k3 p1 p2 o0 i0 ah ay) (Q15o p1 p2 o0 i0 ah ay)
def Q110 (_p1 : Val) (_p2 : BA) (_o0 : aj) (q0 : Bool) (q1 : List aK) (z : Nat → PV) (_zo : Nat → List PV) : St :=
  ⟨zr z 0 9 ++ [.ms 1 3 0 (List.length q1)] ++ zr z 10 20, [(0, ⟨1, 0, false, [.bool q0]⟩), (1, ⟨3, 0, true, (aK.rows q1).flatten⟩)], 66⟩
theorem Q1gv (p1 : Val) (p2 : BA) (o0 : aj) (i0 : Nat) (ah : Bool) (ay : List aK) : VOK (Go.Pv.look (number 0 (Q15o p1 p2 o0 i0 ah ay))) [(1, aK.rows ay)] := (VOK.cons (show Seen _ _ from Q4a (ob := ⟨3, 0, true, (aK.rows ay).flatten⟩) (aK.Q8 ay 3 rfl)) VOK.nil)
def Qxt (p1 : Val) (p2 : BA) (o0 : aj) (e : En) (q : Bool × (List aK)) : Prop := ∃ z zo, Q0 G e (.st (.exit 0) (Q110 p1 p2 o0 q.1 q.2 z zo))
theorem Q10s (p1 : Val) (p2 : BA) (o0 : aj) {e e' : En} (h : ∀ r, Q0 G e r → Q0 G e' r) : ∀ q, Qxt p1 p2 o0 e q → Qxt p1 p2 o0 e' q
  | _, ⟨z, zo, hz⟩ => ⟨z, zo, h _ hz⟩
def Qkh (p1 : Val) (p2 : BA) (o0 : aj) : Prop := (List.length (s_Kd p1 p2 4 o0).1.list ≤ 137438953472) ∧ (∀ x0 ∈ (s_Kd p1 p2 4 o0).1.list, H_Kf x0) ∧ True
def Q11a (p1 : Val) (p2 : BA) (o0 : aj) (i0 : Nat) (_ah : Bool) (_ay : List aK) : List PV :=
  [.un, .un, .un, .fn 246 [.bx 0 0] []] ++ nuns 12 ++ [.sl (Val.rows (s_Kd p1 p2 4 o0).1.list), iN ((List.length (s_Kd p1 p2 4 o0).1.list) : Int), iN (i0 : Int), .bool false]
def Qth (_p1 : Val) (_p2 : BA) (_o0 : aj) (_i0 : Nat) (_ah : Bool) (_ay : List aK) : List (Nat × List PV) :=
  []
theorem Q1jr (p1 : Val) (p2 : BA) (o0 : aj) (_H : Qkh p1 p2 o0) (i0 : Nat) (ah : Bool) (ay : List aK) (_aP : List.length ay ≤ i0) (bC : (decide ((i0 : Int) < ((List.length (s_Kd p1 p2 4 o0).1.list) : Int))) = false) : Qxt p1 p2 o0 (Qw8 p1 p2 o0 i0 ah ay) (ah, ay) := by
 exact ⟨(envF (Q11a p1 p2 o0 i0 ah ay)), (zoF (Qth p1 p2 o0 i0 ah ay)), Qh (Q1gv p1 p2 o0 i0 ah ay) (x := ((.exit 0), Q110 p1 p2 o0 ah ay (envF (Q11a p1 p2 o0 i0 ah ay)) (zoF (Qth p1 p2 o0 i0 ah ay)))) [hB 0 bC] [] (by kernel_rfl)⟩
theorem Q1i7 (p1 : Val) (p2 : BA) (o0 : aj) (H : Qkh p1 p2 o0) (x0 : Val) (i0 : Nat) (ah : Bool) (ay : List aK) (bF : (s_Kd p1 p2 4 o0).1.list[i0]? = some x0) (bR : i0 < List.length (s_Kd p1 p2 4 o0).1.list) (aP : List.length ay ≤ i0) (bC : (decide ((i0 : Int) < ((List.length (s_Kd p1 p2 4 o0).1.list) : Int))) = true) {r : Rs} (hr : Q0 G (Qw8 p1 p2 o0 (i0 + 1) (s_Kf x0 (aj.mk ah)).2.bD (ay ++ [(s_Kf x0 (aj.mk ah)).1])) r) : Q0 G (Qw8 p1 p2 o0 i0 ah ay) r := by
 have hB0 := H.1
 exact Qc (Q1gv p1 p2 o0 i0 ah ay) [hB 0 bC, hP 0 (Q1l 5 _ i0 _ (Val.Qb bF) rfl), hA 8 1 578 642 3 40 0 0 true aK.Q5 aK.Q1n ay (s_Kf x0 (aj.mk ah)).1 (aK.Qw ay) rfl rfl (by omega), hS 0 true (aK.Q8 (ay ++ [(s_Kf x0 (aj.mk ah)).1]) 3 rfl), hP 1 (Q26 i0 (by omega))] [aN (t_Kf x0 (aj.mk ah) (H.2.1 x0 (Q1i bF)))] hr (by kernel_rfl)
theorem Q18t (p1 : Val) (p2 : BA) (o0 : aj) (H : Qkh p1 p2 o0) : ∀ (r0 : List Val) (i0 : Nat) (ah : Bool) (ay : List aK), List.drop i0 (s_Kd p1 p2 4 o0).1.list = r0 → List.length ay ≤ i0 → Qxt p1 p2 o0 (Qw8 p1 p2 o0 i0 ah ay) (Q82 p1 p2 o0 r0 i0 ah ay)
 | [], i0, ah, ay, hd, aP => by
  have bC : (decide ((i0 : Int) < ((List.length (s_Kd p1 p2 4 o0).1.list) : Int))) = false := by have := Q1o hd; simp; omega
  rw [Q82]
  exact Q1jr p1 p2 o0 H i0 ah ay aP bC
 | x0 :: r0, i0, ah, ay, hd, aP => by
  obtain ⟨bF, bR, hd'⟩ := Q1p hd
  have bC : (decide ((i0 : Int) < ((List.length (s_Kd p1 p2 4 o0).1.list) : Int))) = true := by simp; omega
  rw [Q82]
  exact Q10s p1 p2 o0 (fun r hr => Q1i7 p1 p2 o0 H x0 i0 ah ay bF bR aP bC hr) _ (Q18t p1 p2 o0 H r0 _ _ _ hd' (by first | omega | (simp; omega)))
def s_Kv (p1 : Val) (p2 : BA) (o0 : aj) : List aK × aj := ((dE aK.dec p1 p2).1, ft o0 (isM p1 && (dE aK.dec p1 p2).2))
theorem Q1ij (p1 : Val) (p2 : BA) (o0 : aj) : ∀ (l : List Val) (i : Nat) (b : Bool) (a : List aK), Q82 p1 p2 o0 l i b a = (b || !(l.all fun x => (aK.dec x).2), a ++ l.map (fun x => (aK.dec x).1))
  | [], _, b, a => by rw [Q82]; simp
  | x :: l, i, b, a => by
    rw [Q82]
    refine (Q1ij p1 p2 o0 l (i + 1) (b || !(aK.dec x).2) (a ++ [(aK.dec x).1])).trans ?_
    simp only [List.append_assoc, List.singleton_append, List.map_cons, List.all_cons, Bool.not_and, Bool.or_assoc]
theorem e_Kv (p1 : Val) (p2 : BA) (o0 : aj) : s_Kv p1 p2 o0 = (((Q82 p1 p2 o0 (s_Kd p1 p2 4 o0).1.list 0 (s_Kd p1 p2 4 o0).2.bD []).2, (aj.mk (Q82 p1 p2 o0 (s_Kd p1 p2 4 o0).1.list 0 (s_Kd p1 p2 4 o0).2.bD []).1))) := by
  rw [Q1ij]
  unfold s_Kd s_Kv
  simp only [Qam, Q6c]
  refine Prod.ext rfl ?_
  rw [Qa8 o0.bD (isM p1) _ _ _ (Qz7 (prt p1 p2)), Q7g]
  rfl
def c_Kv (p1 : Val) (p2 : BA) (o0 : aj) : En := .call 245 [.bx 0 0, .agg (Val.cells p1), .str p2, .fn 246 [.bx 0 0] []] [⟨1, 0, false, (aj.cells o0)⟩]
def r_Kv (_p1 : Val) (_p2 : BA) (_o0 : aj) (q0 : List aK) (q1 : aj) : Rs := .ret (.sl (aK.rows q0)) [⟨1, 0, false, (aj.cells q1)⟩]
def a_Kv (p1 : Val) (p2 : BA) (o0 : aj) : Rs := r_Kv p1 p2 o0 (s_Kv p1 p2 o0).1 (s_Kv p1 p2 o0).2
def H_Kv (p1 : Val) : Prop := Val.Sm 1000000000 p1
theorem Q1hm (p1 : Val) (p2 : BA) (o0 : aj) (H : H_Kv p1) : (H_Kd p1) ∧ (Qkh p1 p2 o0) ∧ True := by
  have hl := Q71 (Qg H p2)
  refine ⟨H, ?_, trivial⟩
  unfold Qkh s_Kd
  simp only [Qam]
  exact ⟨Nat.le_trans hl.1 (Nat.le_of_ble_eq_true rfl), hl.2, trivial⟩
theorem t_Kv (p1 : Val) (p2 : BA) (o0 : aj) (H : H_Kv p1) : Q0 G (c_Kv p1 p2 o0) (a_Kv p1 p2 o0) := by
 unfold a_Kv
 rw [e_Kv]
 have hl0 := Q18t p1 p2 o0 ((Q1hm p1 p2 o0 H).2.1) (s_Kd p1 p2 4 o0).1.list 0 (s_Kd p1 p2 4 o0).2.bD [] (by simp) (by simp)
 obtain ⟨z0, fA, hl0⟩ := hl0
 exact Q7 (fn := Ir.Kv) (by kernel_rfl) (h := [⟨1, 0, false, (aj.cells o0)⟩]) (vw := []) VOK.nil [hP 8 (Qs _ _ (Val.Q5 (s_Kd p1 p2 4 o0).1.list)), hS 0 true (aK.Q8 (Q82 p1 p2 o0 (s_Kd p1 p2 4 o0).1.list 0 (s_Kd p1 p2 4 o0).2.bD []).2 3 rfl), hQ (aK.Q5 (Q82 p1 p2 o0 (s_Kd p1 p2 4 o0).1.list 0 (s_Kd p1 p2 4 o0).2.bD []).2).symm] [aN (t_Kd p1 p2 4 o0 (Q1hm p1 p2 o0 H).1), aV [(1, aK.rows (Q82 p1 p2 o0 (s_Kd p1 p2 4 o0).1.list 0 (s_Kd p1 p2 4 o0).2.bD []).2)] hl0] (by kernel_rfl)
def s_Kh (p1 : Val) (o0 : aj) : aQ × aj := ((aQ.dec p1).1, ft o0 (aQ.dec p1).2)
theorem e_Kh (p1 : Val) (o0 : aj) : s_Kh p1 o0 = (((aQ.mk (s_Kc p1 Qa (s_Ko p1 o0).2).1 (s_Kc p1 Q2x (s_Kc p1 Qa (s_Ko p1 o0).2).2).1 (s_Ku p1 Q6 (s_Kc p1 Q2x (s_Kc p1 Qa (s_Ko p1 o0).2).2).2).1 (s_Kn p1 Qo (s_Ku p1 Q6 (s_Kc p1 Q2x (s_Kc p1 Qa (s_Ko p1 o0).2).2).2).2).1 (s_Kg p1 Q1j (s_Kn p1 Qo (s_Ku p1 Q6 (s_Kc p1 Q2x (s_Kc p1 Qa (s_Ko p1 o0).2).2).2).2).2).1), (s_Kg p1 Q1j (s_Kn p1 Qo (s_Ku p1 Q6 (s_Kc p1 Q2x (s_Kc p1 Qa (s_Ko p1 o0).2).2).2).2).2).2)) := by
  simp only [s_Ko, s_Kg, s_Kn, s_Kc, s_Ku, s_Kh, aQ.dec, Qof, Bool.and_assoc, Bool.and_left_comm, Bool.and_comm, Bool.and_self_left]
def c_Kh (p1 : Val) (o0 : aj) : En := .call 248 [.bx 0 0, .agg (Val.cells p1)] [⟨1, 0, false, (aj.cells o0)⟩]
def r_Kh (_p1 : Val) (_o0 : aj) (q0 : aQ) (q1 : aj) : Rs := .ret (.agg (aQ.cells q0)) [⟨1, 0, false, (aj.cells q1)⟩]
def a_Kh (p1 : Val) (o0 : aj) : Rs := r_Kh p1 o0 (s_Kh p1 o0).1 (s_Kh p1 o0).2
def H_Kh (p1 : Val) : Prop := Val.Sm 1000000000 p1
theorem Qog (p1 : Val) (_o0 : aj) (H : H_Kh p1) : (H_Kc p1) ∧ (H_Ku p1) ∧ (H_Kn p1) ∧ (H_Kg p1) ∧ True := by
  repeat' with_reducible apply And.intro
  all_goals first | exact True.intro | exact H | exact Qpf (Qg H _)
theorem t_Kh (p1 : Val) (o0 : aj) (H : H_Kh p1) : Q0 G (c_Kh p1 o0) (a_Kh p1 o0) := by
 unfold a_Kh
 rw [e_Kh]
 exact Q7 (fn := Ir.Kh) (by kernel_rfl) (h := [⟨1, 0, false, (aj.cells o0)⟩]) (vw := []) VOK.nil [] [aN (t_Ko p1 o0), aN (t_Kc p1 Qa (s_Ko p1 o0).2 (Qog p1 o0 H).1), aN (t_Kc p1 Q2x (s_Kc p1 Qa (s_Ko p1 o0).2).2 (Qog p1 o0 H).1), aN (t_Ku p1 Q6 (s_Kc p1 Q2x (s_Kc p1 Qa (s_Ko p1 o0).2).2).2 (Qog p1 o0 H).2.1), aN (t_Kn p1 Qo (s_Ku p1 Q6 (s_Kc p1 Q2x (s_Kc p1 Qa (s_Ko p1 o0).2).2).2).2 (Qog p1 o0 H).2.2.1), aN (t_Kg p1 Q1j (s_Kn p1 Qo (s_Ku p1 Q6 (s_Kc p1 Q2x (s_Kc p1 Qa (s_Ko p1 o0).2).2).2).2).2 (Qog p1 o0 H).2.2.2.1)] (by kernel_rfl)
def Q83 (p1 : Val) (p2 : BA) (o0 : aj) : List Val → Nat → Bool → (List aQ) → Bool × (List aQ)
 | [], _i0, ah, ay =>
  (ah, ay)
 | x0 :: r0, i0, ah, ay =>
  Q83 p1 p2 o0 r0 (i0 + 1) (s_Kh x0 (aj.mk ah)).2.bD (ay ++ [(s_Kh x0 (aj.mk ah)).1])
def Q1k4 (p1 : Val) (p2 : BA) (o0 : aj) (i0 : Nat) (_ah : Bool) (ay : List aQ) : List PV :=
  [.un, .un, .un, .fn 248 [.bx 0 0] []] ++ nuns 5 ++ [.ms 1 5 0 (List.length ay)] ++ nuns 6 ++ [.sl (Val.rows (s_Kd p1 p2 4 o0).1.list), iN ((List.length (s_Kd p1 p2 4 o0).1.list) : Int), iN (i0 : Int)] ++ nuns 11
def Q15p (_p1 : Val) (_p2 : BA) (_o0 : aj) (_i0 : Nat) (ah : Bool) (ay : List aQ) : List Ob :=
  [⟨1, 0, false, [.bool ah]⟩, ⟨5, 0, true, (aQ.rows ay).flatten⟩]
def Qw9 (p1 : Val) (p2 : BA) (o0 : aj) (i0 : Nat) (ah : Bool) (ay : List aQ) : En := .loop 1 Ir.Qrm Ir.Q1vs (Q1k4 p1 p2 o0 i0 ah ay) (Q15p p1 p2 o0 i0 ah ay)
def Q111 (_p1 : Val) (_p2 : BA) (_o0 : aj) (q0 : Bool) (q1 : List aQ) (z : Nat → PV) (_zo : Nat → List PV) : St :=
  ⟨zr z 0 9 ++ [.ms 1 5 0 (List.length q1)] ++ zr z 10 20, [(0, ⟨1, 0, false, [.bool q0]⟩), (1, ⟨5, 0, true, (aQ.rows q1).flatten⟩)], 66⟩
theorem Q1gw (p1 : Val) (p2 : BA) (o0 : aj) (i0 : Nat) (ah : Bool) (ay : List aQ) : VOK (Go.Pv.look (number 0 (Q15p p1 p2 o0 i0 ah ay))) [(1, aQ.rows ay)] := (VOK.cons (show Seen _ _ from Q4a (ob := ⟨5, 0, true, (aQ.rows ay).flatten⟩) (aQ.Q8 ay 5 rfl)) VOK.nil)
def Qxu (p1 : Val) (p2 : BA) (o0 : aj) (e : En) (q : Bool × (List aQ)) : Prop := ∃ z zo, Q0 G e (.st (.exit 0) (Q111 p1 p2 o0 q.1 q.2 z zo))
theorem Q10t (p1 : Val) (p2 : BA) (o0 : aj) {e e' : En} (h : ∀ r, Q0 G e r → Q0 G e' r) : ∀ q, Qxu p1 p2 o0 e q → Qxu p1 p2 o0 e' q
  | _, ⟨z, zo, hz⟩ => ⟨z, zo, h _ hz⟩
def Qki (p1 : Val) (p2 : BA) (o0 : aj) : Prop := (List.length (s_Kd p1 p2 4 o0).1.list ≤ 137438953472) ∧ (∀ x0 ∈ (s_Kd p1 p2 4 o0).1.list, H_Kh x0) ∧ True
def Q11b (p1 : Val) (p2 : BA) (o0 : aj) (i0 : Nat) (_ah : Bool) (_ay : List aQ) : List PV :=
  [.un, .un, .un, .fn 248 [.bx 0 0] []] ++ nuns 12 ++ [.sl (Val.rows (s_Kd p1 p2 4 o0).1.list), iN ((List.length (s_Kd p1 p2 4 o0).1.list) : Int), iN (i0 : Int), .bool false]
def Qti (_p1 : Val) (_p2 : BA) (_o0 : aj) (_i0 : Nat) (_ah : Bool) (_ay : List aQ) : List (Nat × List PV) :=
  []
theorem Q1js (p1 : Val) (p2 : BA) (o0 : aj) (_H : Qki p1 p2 o0) (i0 : Nat) (ah : Bool) (ay : List aQ) (_aP : List.length ay ≤ i0) (bC : (decide ((i0 : Int) < ((List.length (s_Kd p1 p2 4 o0).1.list) : Int))) = false) : Qxu p1 p2 o0 (Qw9 p1 p2 o0 i0 ah ay) (ah, ay) := by
 exact ⟨(envF (Q11b p1 p2 o0 i0 ah ay)), (zoF (Qti p1 p2 o0 i0 ah ay)), Qh (Q1gw p1 p2 o0 i0 ah ay) (x := ((.exit 0), Q111 p1 p2 o0 ah ay (envF (Q11b p1 p2 o0 i0 ah ay)) (zoF (Qti p1 p2 o0 i0 ah ay)))) [hB 0 bC] [] (by kernel_rfl)⟩
theorem Q1i8 (p1 : Val) (p2 : BA) (o0 : aj) (H : Qki p1 p2 o0) (x0 : Val) (i0 : Nat) (ah : Bool) (ay : List aQ) (bF : (s_Kd p1 p2 4 o0).1.list[i0]? = some x0) (bR : i0 < List.length (s_Kd p1 p2 4 o0).1.list) (aP : List.length ay ≤ i0) (bC : (decide ((i0 : Int) < ((List.length (s_Kd p1 p2 4 o0).1.list) : Int))) = true) {r : Rs} (hr : Q0 G (Qw9 p1 p2 o0 (i0 + 1) (s_Kh x0 (aj.mk ah)).2.bD (ay ++ [(s_Kh x0 (aj.mk ah)).1])) r) : Q0 G (Qw9 p1 p2 o0 i0 ah ay) r := by
 have hB0 := H.1
 exact Qc (Q1gw p1 p2 o0 i0 ah ay) [hB 0 bC, hP 0 (Q1l 5 _ i0 _ (Val.Qb bF) rfl), hA 8 1 578 642 5 56 0 0 true aQ.Q5 aQ.Q1n ay (s_Kh x0 (aj.mk ah)).1 (aQ.Qw ay) rfl rfl (by omega), hS 0 true (aQ.Q8 (ay ++ [(s_Kh x0 (aj.mk ah)).1]) 5 rfl), hP 1 (Q26 i0 (by omega))] [aN (t_Kh x0 (aj.mk ah) (H.2.1 x0 (Q1i bF)))] hr (by kernel_rfl)
theorem Q18u (p1 : Val) (p2 : BA) (o0 : aj) (H : Qki p1 p2 o0) : ∀ (r0 : List Val) (i0 : Nat) (ah : Bool) (ay : List aQ), List.drop i0 (s_Kd p1 p2 4 o0).1.list = r0 → List.length ay ≤ i0 → Qxu p1 p2 o0 (Qw9 p1 p2 o0 i0 ah ay) (Q83 p1 p2 o0 r0 i0 ah ay)
 | [], i0, ah, ay, hd, aP => by
  have bC : (decide ((i0 : Int) < ((List.length (s_Kd p1 p2 4 o0).1.list) : Int))) = false := by have := Q1o hd; simp; omega
  rw [Q83]
  exact Q1js p1 p2 o0 H i0 ah ay aP bC
 | x0 :: r0, i0, ah, ay, hd, aP => by
  obtain ⟨bF, bR, hd'⟩ := Q1p hd
  have bC : (decide ((i0 : Int) < ((List.length (s_Kd p1 p2 4 o0).1.list) : Int))) = true := by simp; omega
  rw [Q83]
  exact Q10t p1 p2 o0 (fun r hr => Q1i8 p1 p2 o0 H x0 i0 ah ay bF bR aP bC hr) _ (Q18u p1 p2 o0 H r0 _ _ _ hd' (by first | omega | (simp; omega)))
def s_Kw (p1 : Val) (p2 : BA) (o0 : aj) : List aQ × aj := ((dE aQ.dec p1 p2).1, ft o0 (isM p1 && (dE aQ.dec p1 p2).2))
theorem Q1ik (p1 : Val) (p2 : BA) (o0 : aj) : ∀ (l : List Val) (i : Nat) (b : Bool) (a : List aQ), Q83 p1 p2 o0 l i b a = (b || !(l.all fun x => (aQ.dec x).2), a ++ l.map (fun x => (aQ.dec x).1))
  | [], _, b, a => by rw [Q83]; simp
  | x :: l, i, b, a => by
    rw [Q83]
    refine (Q1ik p1 p2 o0 l (i + 1) (b || !(aQ.dec x).2) (a ++ [(aQ.dec x).1])).trans ?_
    simp only [List.append_assoc, List.singleton_append, List.map_cons, List.all_cons, Bool.not_and, Bool.or_assoc]
theorem e_Kw (p1 : Val) (p2 : BA) (o0 : aj) : s_Kw p1 p2 o0 = (((Q83 p1 p2 o0 (s_Kd p1 p2 4 o0).1.list 0 (s_Kd p1 p2 4 o0).2.bD []).2, (aj.mk (Q83 p1 p2 o0 (s_Kd p1 p2 4 o0).1.list 0 (s_Kd p1 p2 4 o0).2.bD []).1))) := by
  rw [Q1ik]
  unfold s_Kd s_Kw
  simp only [Qam, Q6c]
  refine Prod.ext rfl ?_
  rw [Qa8 o0.bD (isM p1) _ _ _ (Qz7 (prt p1 p2)), Q7g]
  rfl
def c_Kw (p1 : Val) (p2 : BA) (o0 : aj) : En := .call 247 [.bx 0 0, .agg (Val.cells p1), .str p2, .fn 248 [.bx 0 0] []] [⟨1, 0, false, (aj.cells o0)⟩]
def r_Kw (_p1 : Val) (_p2 : BA) (_o0 : aj) (q0 : List aQ) (q1 : aj) : Rs := .ret (.sl (aQ.rows q0)) [⟨1, 0, false, (aj.cells q1)⟩]
def a_Kw (p1 : Val) (p2 : BA) (o0 : aj) : Rs := r_Kw p1 p2 o0 (s_Kw p1 p2 o0).1 (s_Kw p1 p2 o0).2
def H_Kw (p1 : Val) : Prop := Val.Sm 1000000000 p1
theorem Q1hn (p1 : Val) (p2 : BA) (o0 : aj) (H : H_Kw p1) : (H_Kd p1) ∧ (Qki p1 p2 o0) ∧ True := by
  have hl := Q71 (Qg H p2)
  refine ⟨H, ?_, trivial⟩
  unfold Qki s_Kd
  simp only [Qam]
  exact ⟨Nat.le_trans hl.1 (Nat.le_of_ble_eq_true rfl), hl.2, trivial⟩
theorem t_Kw (p1 : Val) (p2 : BA) (o0 : aj) (H : H_Kw p1) : Q0 G (c_Kw p1 p2 o0) (a_Kw p1 p2 o0) := by
 unfold a_Kw
 rw [e_Kw]
 have hl0 := Q18u p1 p2 o0 ((Q1hn p1 p2 o0 H).2.1) (s_Kd p1 p2 4 o0).1.list 0 (s_Kd p1 p2 4 o0).2.bD [] (by simp) (by simp)
 obtain ⟨z0, fA, hl0⟩ := hl0
 exact Q7 (fn := Ir.Kw) (by kernel_rfl) (h := [⟨1, 0, false, (aj.cells o0)⟩]) (vw := []) VOK.nil [hP 8 (Qs _ _ (Val.Q5 (s_Kd p1 p2 4 o0).1.list)), hS 0 true (aQ.Q8 (Q83 p1 p2 o0 (s_Kd p1 p2 4 o0).1.list 0 (s_Kd p1 p2 4 o0).2.bD []).2 5 rfl), hQ (aQ.Q5 (Q83 p1 p2 o0 (s_Kd p1 p2 4 o0).1.list 0 (s_Kd p1 p2 4 o0).2.bD []).2).symm] [aN (t_Kd p1 p2 4 o0 (Q1hn p1 p2 o0 H).1), aV [(1, aQ.rows (Q83 p1 p2 o0 (s_Kd p1 p2 4 o0).1.list 0 (s_Kd p1 p2 4 o0).2.bD []).2)] hl0] (by kernel_rfl)
def s_Km (p1 : Val) (o0 : aj) : aD × aj := ((aD.dec p1).1, ft o0 (aD.dec p1).2)
theorem e_Km (p1 : Val) (o0 : aj) : s_Km p1 o0 = (((aD.mk (s_Kg p1 Q1v (s_Ko p1 o0).2).1 (s_Kn p1 Qo (s_Kg p1 Q1v (s_Ko p1 o0).2).2).1 (s_Ku p1 Q6 (s_Kn p1 Qo (s_Kg p1 Q1v (s_Ko p1 o0).2).2).2).1 (s_Kc p1 Qa (s_Ku p1 Q6 (s_Kn p1 Qo (s_Kg p1 Q1v (s_Ko p1 o0).2).2).2).2).1), (s_Kc p1 Qa (s_Ku p1 Q6 (s_Kn p1 Qo (s_Kg p1 Q1v (s_Ko p1 o0).2).2).2).2).2)) := by
  simp only [s_Ko, s_Kg, s_Kn, s_Kc, s_Ku, s_Km, aD.dec, Qof, Bool.and_assoc, Bool.and_left_comm, Bool.and_comm, Bool.and_self_left]
def c_Km (p1 : Val) (o0 : aj) : En := .call 250 [.bx 0 0, .agg (Val.cells p1)] [⟨1, 0, false, (aj.cells o0)⟩]
def r_Km (_p1 : Val) (_o0 : aj) (q0 : aD) (q1 : aj) : Rs := .ret (.agg (aD.cells q0)) [⟨1, 0, false, (aj.cells q1)⟩]
def a_Km (p1 : Val) (o0 : aj) : Rs := r_Km p1 o0 (s_Km p1 o0).1 (s_Km p1 o0).2
def H_Km (p1 : Val) : Prop := Val.Sm 1000000000 p1
theorem Qyh (p1 : Val) (_o0 : aj) (H : H_Km p1) : (H_Kg p1) ∧ (H_Kn p1) ∧ (H_Ku p1) ∧ (H_Kc p1) ∧ True := by
  repeat' with_reducible apply And.intro
  all_goals first | exact True.intro | exact H | exact Qpf (Qg H _)
theorem t_Km (p1 : Val) (o0 : aj) (H : H_Km p1) : Q0 G (c_Km p1 o0) (a_Km p1 o0) := by
 unfold a_Km
 rw [e_Km]
 exact Q7 (fn := Ir.Km) (by kernel_rfl) (h := [⟨1, 0, false, (aj.cells o0)⟩]) (vw := []) VOK.nil [] [aN (t_Ko p1 o0), aN (t_Kg p1 Q1v (s_Ko p1 o0).2 (Qyh p1 o0 H).1), aN (t_Kn p1 Qo (s_Kg p1 Q1v (s_Ko p1 o0).2).2 (Qyh p1 o0 H).2.1), aN (t_Ku p1 Q6 (s_Kn p1 Qo (s_Kg p1 Q1v (s_Ko p1 o0).2).2).2 (Qyh p1 o0 H).2.2.1), aN (t_Kc p1 Qa (s_Ku p1 Q6 (s_Kn p1 Qo (s_Kg p1 Q1v (s_Ko p1 o0).2).2).2).2 (Qyh p1 o0 H).2.2.2.1)] (by kernel_rfl)
def Q84 (p1 : Val) (p2 : BA) (o0 : aj) : List Val → Nat → Bool → (List aD) → Bool × (List aD)
 | [], _i0, ah, ay =>
  (ah, ay)
 | x0 :: r0, i0, ah, ay =>
  Q84 p1 p2 o0 r0 (i0 + 1) (s_Km x0 (aj.mk ah)).2.bD (ay ++ [(s_Km x0 (aj.mk ah)).1])
def Q1k5 (p1 : Val) (p2 : BA) (o0 : aj) (i0 : Nat) (_ah : Bool) (ay : List aD) : List PV :=
  [.un, .un, .un, .fn 250 [.bx 0 0] []] ++ nuns 5 ++ [.ms 1 4 0 (List.length ay)] ++ nuns 6 ++ [.sl (Val.rows (s_Kd p1 p2 4 o0).1.list), iN ((List.length (s_Kd p1 p2 4 o0).1.list) : Int), iN (i0 : Int)] ++ nuns 11
def Q15q (_p1 : Val) (_p2 : BA) (_o0 : aj) (_i0 : Nat) (ah : Bool) (ay : List aD) : List Ob :=
  [⟨1, 0, false, [.bool ah]⟩, ⟨4, 0, true, (aD.rows ay).flatten⟩]
def Qwa (p1 : Val) (p2 : BA) (o0 : aj) (i0 : Nat) (ah : Bool) (ay : List aD) : En := .loop 1 Ir.Qrn Ir.Q1vt (Q1k5 p1 p2 o0 i0 ah ay) (Q15q p1 p2 o0 i0 ah ay)
def Q112 (_p1 : Val) (_p2 : BA) (_o0 : aj) (q0 : Bool) (q1 : List aD) (z : Nat → PV) (_zo : Nat → List PV) : St :=
  ⟨zr z 0 9 ++ [.ms 1 4 0 (List.length q1)] ++ zr z 10 20, [(0, ⟨1, 0, false, [.bool q0]⟩), (1, ⟨4, 0, true, (aD.rows q1).flatten⟩)], 66⟩
theorem Q1gx (p1 : Val) (p2 : BA) (o0 : aj) (i0 : Nat) (ah : Bool) (ay : List aD) : VOK (Go.Pv.look (number 0 (Q15q p1 p2 o0 i0 ah ay))) [(1, aD.rows ay)] := (VOK.cons (show Seen _ _ from Q4a (ob := ⟨4, 0, true, (aD.rows ay).flatten⟩) (aD.Q8 ay 4 rfl)) VOK.nil)
def Qxv (p1 : Val) (p2 : BA) (o0 : aj) (e : En) (q : Bool × (List aD)) : Prop := ∃ z zo, Q0 G e (.st (.exit 0) (Q112 p1 p2 o0 q.1 q.2 z zo))
theorem Q10u (p1 : Val) (p2 : BA) (o0 : aj) {e e' : En} (h : ∀ r, Q0 G e r → Q0 G e' r) : ∀ q, Qxv p1 p2 o0 e q → Qxv p1 p2 o0 e' q
  | _, ⟨z, zo, hz⟩ => ⟨z, zo, h _ hz⟩
def Qkj (p1 : Val) (p2 : BA) (o0 : aj) : Prop := (List.length (s_Kd p1 p2 4 o0).1.list ≤ 137438953472) ∧ (∀ x0 ∈ (s_Kd p1 p2 4 o0).1.list, H_Km x0) ∧ True
def Q11c (p1 : Val) (p2 : BA) (o0 : aj) (i0 : Nat) (_ah : Bool) (_ay : List aD) : List PV :=
  [.un, .un, .un, .fn 250 [.bx 0 0] []] ++ nuns 12 ++ [.sl (Val.rows (s_Kd p1 p2 4 o0).1.list), iN ((List.length (s_Kd p1 p2 4 o0).1.list) : Int), iN (i0 : Int), .bool false]
def Qtj (_p1 : Val) (_p2 : BA) (_o0 : aj) (_i0 : Nat) (_ah : Bool) (_ay : List aD) : List (Nat × List PV) :=
  []
theorem Q1jt (p1 : Val) (p2 : BA) (o0 : aj) (_H : Qkj p1 p2 o0) (i0 : Nat) (ah : Bool) (ay : List aD) (_aP : List.length ay ≤ i0) (bC : (decide ((i0 : Int) < ((List.length (s_Kd p1 p2 4 o0).1.list) : Int))) = false) : Qxv p1 p2 o0 (Qwa p1 p2 o0 i0 ah ay) (ah, ay) := by
 exact ⟨(envF (Q11c p1 p2 o0 i0 ah ay)), (zoF (Qtj p1 p2 o0 i0 ah ay)), Qh (Q1gx p1 p2 o0 i0 ah ay) (x := ((.exit 0), Q112 p1 p2 o0 ah ay (envF (Q11c p1 p2 o0 i0 ah ay)) (zoF (Qtj p1 p2 o0 i0 ah ay)))) [hB 0 bC] [] (by kernel_rfl)⟩
theorem Q1i9 (p1 : Val) (p2 : BA) (o0 : aj) (H : Qkj p1 p2 o0) (x0 : Val) (i0 : Nat) (ah : Bool) (ay : List aD) (bF : (s_Kd p1 p2 4 o0).1.list[i0]? = some x0) (bR : i0 < List.length (s_Kd p1 p2 4 o0).1.list) (aP : List.length ay ≤ i0) (bC : (decide ((i0 : Int) < ((List.length (s_Kd p1 p2 4 o0).1.list) : Int))) = true) {r : Rs} (hr : Q0 G (Qwa p1 p2 o0 (i0 + 1) (s_Km x0 (aj.mk ah)).2.bD (ay ++ [(s_Km x0 (aj.mk ah)).1])) r) : Q0 G (Qwa p1 p2 o0 i0 ah ay) r := by
 have hB0 := H.1
 exact Qc (Q1gx p1 p2 o0 i0 ah ay) [hB 0 bC, hP 0 (Q1l 5 _ i0 _ (Val.Qb bF) rfl), hA 8 1 578 642 4 56 0 0 true aD.Q5 aD.Q1n ay (s_Km x0 (aj.mk ah)).1 (aD.Qw ay) rfl rfl (by omega), hS 0 true (aD.Q8 (ay ++ [(s_Km x0 (aj.mk ah)).1]) 4 rfl), hP 1 (Q26 i0 (by omega))] [aN (t_Km x0 (aj.mk ah) (H.2.1 x0 (Q1i bF)))] hr (by kernel_rfl)
theorem Q18v (p1 : Val) (p2 : BA) (o0 : aj) (H : Qkj p1 p2 o0) : ∀ (r0 : List Val) (i0 : Nat) (ah : Bool) (ay : List aD), List.drop i0 (s_Kd p1 p2 4 o0).1.list = r0 → List.length ay ≤ i0 → Qxv p1 p2 o0 (Qwa p1 p2 o0 i0 ah ay) (Q84 p1 p2 o0 r0 i0 ah ay)
 | [], i0, ah, ay, hd, aP => by
  have bC : (decide ((i0 : Int) < ((List.length (s_Kd p1 p2 4 o0).1.list) : Int))) = false := by have := Q1o hd; simp; omega
  rw [Q84]
  exact Q1jt p1 p2 o0 H i0 ah ay aP bC
 | x0 :: r0, i0, ah, ay, hd, aP => by
  obtain ⟨bF, bR, hd'⟩ := Q1p hd
  have bC : (decide ((i0 : Int) < ((List.length (s_Kd p1 p2 4 o0).1.list) : Int))) = true := by simp; omega
  rw [Q84]
  exact Q10u p1 p2 o0 (fun r hr => Q1i9 p1 p2 o0 H x0 i0 ah ay bF bR aP bC hr) _ (Q18v p1 p2 o0 H r0 _ _ _ hd' (by first | omega | (simp; omega)))
def s_Kx (p1 : Val) (p2 : BA) (o0 : aj) : List aD × aj := ((dE aD.dec p1 p2).1, ft o0 (isM p1 && (dE aD.dec p1 p2).2))
theorem Q1il (p1 : Val) (p2 : BA) (o0 : aj) : ∀ (l : List Val) (i : Nat) (b : Bool) (a : List aD), Q84 p1 p2 o0 l i b a = (b || !(l.all fun x => (aD.dec x).2), a ++ l.map (fun x => (aD.dec x).1))
  | [], _, b, a => by rw [Q84]; simp
  | x :: l, i, b, a => by
    rw [Q84]
    refine (Q1il p1 p2 o0 l (i + 1) (b || !(aD.dec x).2) (a ++ [(aD.dec x).1])).trans ?_
    simp only [List.append_assoc, List.singleton_append, List.map_cons, List.all_cons, Bool.not_and, Bool.or_assoc]
theorem e_Kx (p1 : Val) (p2 : BA) (o0 : aj) : s_Kx p1 p2 o0 = (((Q84 p1 p2 o0 (s_Kd p1 p2 4 o0).1.list 0 (s_Kd p1 p2 4 o0).2.bD []).2, (aj.mk (Q84 p1 p2 o0 (s_Kd p1 p2 4 o0).1.list 0 (s_Kd p1 p2 4 o0).2.bD []).1))) := by
  rw [Q1il]
  unfold s_Kd s_Kx
  simp only [Qam, Q6c]
  refine Prod.ext rfl ?_
  rw [Qa8 o0.bD (isM p1) _ _ _ (Qz7 (prt p1 p2)), Q7g]
  rfl
def c_Kx (p1 : Val) (p2 : BA) (o0 : aj) : En := .call 249 [.bx 0 0, .agg (Val.cells p1), .str p2, .fn 250 [.bx 0 0] []] [⟨1, 0, false, (aj.cells o0)⟩]
def r_Kx (_p1 : Val) (_p2 : BA) (_o0 : aj) (q0 : List aD) (q1 : aj) : Rs := .ret (.sl (aD.rows q0)) [⟨1, 0, false, (aj.cells q1)⟩]
def a_Kx (p1 : Val) (p2 : BA) (o0 : aj) : Rs := r_Kx p1 p2 o0 (s_Kx p1 p2 o0).1 (s_Kx p1 p2 o0).2
def H_Kx (p1 : Val) : Prop := Val.Sm 1000000000 p1
theorem Q1ho (p1 : Val) (p2 : BA) (o0 : aj) (H : H_Kx p1) : (H_Kd p1) ∧ (Qkj p1 p2 o0) ∧ True := by
  have hl := Q71 (Qg H p2)
  refine ⟨H, ?_, trivial⟩
  unfold Qkj s_Kd
  simp only [Qam]
  exact ⟨Nat.le_trans hl.1 (Nat.le_of_ble_eq_true rfl), hl.2, trivial⟩
theorem t_Kx (p1 : Val) (p2 : BA) (o0 : aj) (H : H_Kx p1) : Q0 G (c_Kx p1 p2 o0) (a_Kx p1 p2 o0) := by
 unfold a_Kx
 rw [e_Kx]
 have hl0 := Q18v p1 p2 o0 ((Q1ho p1 p2 o0 H).2.1) (s_Kd p1 p2 4 o0).1.list 0 (s_Kd p1 p2 4 o0).2.bD [] (by simp) (by simp)
 obtain ⟨z0, fA, hl0⟩ := hl0
 exact Q7 (fn := Ir.Kx) (by kernel_rfl) (h := [⟨1, 0, false, (aj.cells o0)⟩]) (vw := []) VOK.nil [hP 8 (Qs _ _ (Val.Q5 (s_Kd p1 p2 4 o0).1.list)), hS 0 true (aD.Q8 (Q84 p1 p2 o0 (s_Kd p1 p2 4 o0).1.list 0 (s_Kd p1 p2 4 o0).2.bD []).2 4 rfl), hQ (aD.Q5 (Q84 p1 p2 o0 (s_Kd p1 p2 4 o0).1.list 0 (s_Kd p1 p2 4 o0).2.bD []).2).symm] [aN (t_Kd p1 p2 4 o0 (Q1ho p1 p2 o0 H).1), aV [(1, aD.rows (Q84 p1 p2 o0 (s_Kd p1 p2 4 o0).1.list 0 (s_Kd p1 p2 4 o0).2.bD []).2)] hl0] (by kernel_rfl)
def s_Kr (p1 : Val) (o0 : aj) : aG × aj := ((aG.dec p1).1, ft o0 (aG.dec p1).2)
theorem e_Kr (p1 : Val) (o0 : aj) : s_Kr p1 o0 = (((aG.mk (s_Kn p1 Q12 (s_Ko p1 o0).2).1 (s_Kn p1 Q1t (s_Kn p1 Q12 (s_Ko p1 o0).2).2).1 (s_Kc p1 Q2f (s_Kn p1 Q1t (s_Kn p1 Q12 (s_Ko p1 o0).2).2).2).1 (s_Kg p1 Q2e (s_Kc p1 Q2f (s_Kn p1 Q1t (s_Kn p1 Q12 (s_Ko p1 o0).2).2).2).2).1 (s_Kg p1 Q2l (s_Kg p1 Q2e (s_Kc p1 Q2f (s_Kn p1 Q1t (s_Kn p1 Q12 (s_Ko p1 o0).2).2).2).2).2).1), (s_Kg p1 Q2l (s_Kg p1 Q2e (s_Kc p1 Q2f (s_Kn p1 Q1t (s_Kn p1 Q12 (s_Ko p1 o0).2).2).2).2).2).2)) := by
  simp only [s_Ko, s_Kg, s_Kn, s_Kc, s_Kr, aG.dec, Qof, Bool.and_assoc, Bool.and_left_comm, Bool.and_comm, Bool.and_self_left]
def c_Kr (p1 : Val) (o0 : aj) : En := .call 252 [.bx 0 0, .agg (Val.cells p1)] [⟨1, 0, false, (aj.cells o0)⟩]
def r_Kr (_p1 : Val) (_o0 : aj) (q0 : aG) (q1 : aj) : Rs := .ret (.agg (aG.cells q0)) [⟨1, 0, false, (aj.cells q1)⟩]
def a_Kr (p1 : Val) (o0 : aj) : Rs := r_Kr p1 o0 (s_Kr p1 o0).1 (s_Kr p1 o0).2
def H_Kr (p1 : Val) : Prop := Val.Sm 1000000000 p1
theorem Qoh (p1 : Val) (_o0 : aj) (H : H_Kr p1) : (H_Kn p1) ∧ (H_Kc p1) ∧ (H_Kg p1) ∧ True := by
  repeat' with_reducible apply And.intro
  all_goals first | exact True.intro | exact H | exact Qpf (Qg H _)
theorem t_Kr (p1 : Val) (o0 : aj) (H : H_Kr p1) : Q0 G (c_Kr p1 o0) (a_Kr p1 o0) := by
 unfold a_Kr
 rw [e_Kr]
 exact Q7 (fn := Ir.Kr) (by kernel_rfl) (h := [⟨1, 0, false, (aj.cells o0)⟩]) (vw := []) VOK.nil [] [aN (t_Ko p1 o0), aN (t_Kn p1 Q12 (s_Ko p1 o0).2 (Qoh p1 o0 H).1), aN (t_Kn p1 Q1t (s_Kn p1 Q12 (s_Ko p1 o0).2).2 (Qoh p1 o0 H).1), aN (t_Kc p1 Q2f (s_Kn p1 Q1t (s_Kn p1 Q12 (s_Ko p1 o0).2).2).2 (Qoh p1 o0 H).2.1), aN (t_Kg p1 Q2e (s_Kc p1 Q2f (s_Kn p1 Q1t (s_Kn p1 Q12 (s_Ko p1 o0).2).2).2).2 (Qoh p1 o0 H).2.2.1), aN (t_Kg p1 Q2l (s_Kg p1 Q2e (s_Kc p1 Q2f (s_Kn p1 Q1t (s_Kn p1 Q12 (s_Ko p1 o0).2).2).2).2).2 (Qoh p1 o0 H).2.2.1)] (by kernel_rfl)
def Q85 (p1 : Val) (p2 : BA) (o0 : aj) : List Val → Nat → Bool → (List aG) → Bool × (List aG)
 | [], _i0, ah, ay =>
  (ah, ay)
 | x0 :: r0, i0, ah, ay =>
  Q85 p1 p2 o0 r0 (i0 + 1) (s_Kr x0 (aj.mk ah)).2.bD (ay ++ [(s_Kr x0 (aj.mk ah)).1])
def Q1k6 (p1 : Val) (p2 : BA) (o0 : aj) (i0 : Nat) (_ah : Bool) (ay : List aG) : List PV :=
  [.un, .un, .un, .fn 252 [.bx 0 0] []] ++ nuns 5 ++ [.ms 1 5 0 (List.length ay)] ++ nuns 6 ++ [.sl (Val.rows (s_Kd p1 p2 4 o0).1.list), iN ((List.length (s_Kd p1 p2 4 o0).1.list) : Int), iN (i0 : Int)] ++ nuns 11
def Q15r (_p1 : Val) (_p2 : BA) (_o0 : aj) (_i0 : Nat) (ah : Bool) (ay : List aG) : List Ob :=
  [⟨1, 0, false, [.bool ah]⟩, ⟨5, 0, true, (aG.rows ay).flatten⟩]
def Qwb (p1 : Val) (p2 : BA) (o0 : aj) (i0 : Nat) (ah : Bool) (ay : List aG) : En := .loop 1 Ir.Qro Ir.Q1vu (Q1k6 p1 p2 o0 i0 ah ay) (Q15r p1 p2 o0 i0 ah ay)
def Q113 (_p1 : Val) (_p2 : BA) (_o0 : aj) (q0 : Bool) (q1 : List aG) (z : Nat → PV) (_zo : Nat → List PV) : St :=
  ⟨zr z 0 9 ++ [.ms 1 5 0 (List.length q1)] ++ zr z 10 20, [(0, ⟨1, 0, false, [.bool q0]⟩), (1, ⟨5, 0, true, (aG.rows q1).flatten⟩)], 66⟩
theorem Q1gy (p1 : Val) (p2 : BA) (o0 : aj) (i0 : Nat) (ah : Bool) (ay : List aG) : VOK (Go.Pv.look (number 0 (Q15r p1 p2 o0 i0 ah ay))) [(1, aG.rows ay)] := (VOK.cons (show Seen _ _ from Q4a (ob := ⟨5, 0, true, (aG.rows ay).flatten⟩) (aG.Q8 ay 5 rfl)) VOK.nil)
def Qxw (p1 : Val) (p2 : BA) (o0 : aj) (e : En) (q : Bool × (List aG)) : Prop := ∃ z zo, Q0 G e (.st (.exit 0) (Q113 p1 p2 o0 q.1 q.2 z zo))
theorem Q10v (p1 : Val) (p2 : BA) (o0 : aj) {e e' : En} (h : ∀ r, Q0 G e r → Q0 G e' r) : ∀ q, Qxw p1 p2 o0 e q → Qxw p1 p2 o0 e' q
  | _, ⟨z, zo, hz⟩ => ⟨z, zo, h _ hz⟩
def Qkk (p1 : Val) (p2 : BA) (o0 : aj) : Prop := (List.length (s_Kd p1 p2 4 o0).1.list ≤ 137438953472) ∧ (∀ x0 ∈ (s_Kd p1 p2 4 o0).1.list, H_Kr x0) ∧ True
def Q11d (p1 : Val) (p2 : BA) (o0 : aj) (i0 : Nat) (_ah : Bool) (_ay : List aG) : List PV :=
  [.un, .un, .un, .fn 252 [.bx 0 0] []] ++ nuns 12 ++ [.sl (Val.rows (s_Kd p1 p2 4 o0).1.list), iN ((List.length (s_Kd p1 p2 4 o0).1.list) : Int), iN (i0 : Int), .bool false]
def Qtk (_p1 : Val) (_p2 : BA) (_o0 : aj) (_i0 : Nat) (_ah : Bool) (_ay : List aG) : List (Nat × List PV) :=
  []
theorem Q1ju (p1 : Val) (p2 : BA) (o0 : aj) (_H : Qkk p1 p2 o0) (i0 : Nat) (ah : Bool) (ay : List aG) (_aP : List.length ay ≤ i0) (bC : (decide ((i0 : Int) < ((List.length (s_Kd p1 p2 4 o0).1.list) : Int))) = false) : Qxw p1 p2 o0 (Qwb p1 p2 o0 i0 ah ay) (ah, ay) := by
 exact ⟨(envF (Q11d p1 p2 o0 i0 ah ay)), (zoF (Qtk p1 p2 o0 i0 ah ay)), Qh (Q1gy p1 p2 o0 i0 ah ay) (x := ((.exit 0), Q113 p1 p2 o0 ah ay (envF (Q11d p1 p2 o0 i0 ah ay)) (zoF (Qtk p1 p2 o0 i0 ah ay)))) [hB 0 bC] [] (by kernel_rfl)⟩
theorem Q1ia (p1 : Val) (p2 : BA) (o0 : aj) (H : Qkk p1 p2 o0) (x0 : Val) (i0 : Nat) (ah : Bool) (ay : List aG) (bF : (s_Kd p1 p2 4 o0).1.list[i0]? = some x0) (bR : i0 < List.length (s_Kd p1 p2 4 o0).1.list) (aP : List.length ay ≤ i0) (bC : (decide ((i0 : Int) < ((List.length (s_Kd p1 p2 4 o0).1.list) : Int))) = true) {r : Rs} (hr : Q0 G (Qwb p1 p2 o0 (i0 + 1) (s_Kr x0 (aj.mk ah)).2.bD (ay ++ [(s_Kr x0 (aj.mk ah)).1])) r) : Q0 G (Qwb p1 p2 o0 i0 ah ay) r := by
 have hB0 := H.1
 exact Qc (Q1gy p1 p2 o0 i0 ah ay) [hB 0 bC, hP 0 (Q1l 5 _ i0 _ (Val.Qb bF) rfl), hA 8 1 578 642 5 56 0 0 true aG.Q5 aG.Q1n ay (s_Kr x0 (aj.mk ah)).1 (aG.Qw ay) rfl rfl (by omega), hS 0 true (aG.Q8 (ay ++ [(s_Kr x0 (aj.mk ah)).1]) 5 rfl), hP 1 (Q26 i0 (by omega))] [aN (t_Kr x0 (aj.mk ah) (H.2.1 x0 (Q1i bF)))] hr (by kernel_rfl)
theorem Q18w (p1 : Val) (p2 : BA) (o0 : aj) (H : Qkk p1 p2 o0) : ∀ (r0 : List Val) (i0 : Nat) (ah : Bool) (ay : List aG), List.drop i0 (s_Kd p1 p2 4 o0).1.list = r0 → List.length ay ≤ i0 → Qxw p1 p2 o0 (Qwb p1 p2 o0 i0 ah ay) (Q85 p1 p2 o0 r0 i0 ah ay)
 | [], i0, ah, ay, hd, aP => by
  have bC : (decide ((i0 : Int) < ((List.length (s_Kd p1 p2 4 o0).1.list) : Int))) = false := by have := Q1o hd; simp; omega
  rw [Q85]
  exact Q1ju p1 p2 o0 H i0 ah ay aP bC
 | x0 :: r0, i0, ah, ay, hd, aP => by
  obtain ⟨bF, bR, hd'⟩ := Q1p hd
  have bC : (decide ((i0 : Int) < ((List.length (s_Kd p1 p2 4 o0).1.list) : Int))) = true := by simp; omega
  rw [Q85]
  exact Q10v p1 p2 o0 (fun r hr => Q1ia p1 p2 o0 H x0 i0 ah ay bF bR aP bC hr) _ (Q18w p1 p2 o0 H r0 _ _ _ hd' (by first | omega | (simp; omega)))
def s_Ky (p1 : Val) (p2 : BA) (o0 : aj) : List aG × aj := ((dE aG.dec p1 p2).1, ft o0 (isM p1 && (dE aG.dec p1 p2).2))
theorem Q1im (p1 : Val) (p2 : BA) (o0 : aj) : ∀ (l : List Val) (i : Nat) (b : Bool) (a : List aG), Q85 p1 p2 o0 l i b a = (b || !(l.all fun x => (aG.dec x).2), a ++ l.map (fun x => (aG.dec x).1))
  | [], _, b, a => by rw [Q85]; simp
  | x :: l, i, b, a => by
    rw [Q85]
    refine (Q1im p1 p2 o0 l (i + 1) (b || !(aG.dec x).2) (a ++ [(aG.dec x).1])).trans ?_
    simp only [List.append_assoc, List.singleton_append, List.map_cons, List.all_cons, Bool.not_and, Bool.or_assoc]
theorem e_Ky (p1 : Val) (p2 : BA) (o0 : aj) : s_Ky p1 p2 o0 = (((Q85 p1 p2 o0 (s_Kd p1 p2 4 o0).1.list 0 (s_Kd p1 p2 4 o0).2.bD []).2, (aj.mk (Q85 p1 p2 o0 (s_Kd p1 p2 4 o0).1.list 0 (s_Kd p1 p2 4 o0).2.bD []).1))) := by
  rw [Q1im]
  unfold s_Kd s_Ky
  simp only [Qam, Q6c]
  refine Prod.ext rfl ?_
  rw [Qa8 o0.bD (isM p1) _ _ _ (Qz7 (prt p1 p2)), Q7g]
  rfl
def c_Ky (p1 : Val) (p2 : BA) (o0 : aj) : En := .call 251 [.bx 0 0, .agg (Val.cells p1), .str p2, .fn 252 [.bx 0 0] []] [⟨1, 0, false, (aj.cells o0)⟩]
def r_Ky (_p1 : Val) (_p2 : BA) (_o0 : aj) (q0 : List aG) (q1 : aj) : Rs := .ret (.sl (aG.rows q0)) [⟨1, 0, false, (aj.cells q1)⟩]
def a_Ky (p1 : Val) (p2 : BA) (o0 : aj) : Rs := r_Ky p1 p2 o0 (s_Ky p1 p2 o0).1 (s_Ky p1 p2 o0).2
def H_Ky (p1 : Val) : Prop := Val.Sm 1000000000 p1
theorem Q1hp (p1 : Val) (p2 : BA) (o0 : aj) (H : H_Ky p1) : (H_Kd p1) ∧ (Qkk p1 p2 o0) ∧ True := by
  have hl := Q71 (Qg H p2)
  refine ⟨H, ?_, trivial⟩
  unfold Qkk s_Kd
  simp only [Qam]
  exact ⟨Nat.le_trans hl.1 (Nat.le_of_ble_eq_true rfl), hl.2, trivial⟩
theorem t_Ky (p1 : Val) (p2 : BA) (o0 : aj) (H : H_Ky p1) : Q0 G (c_Ky p1 p2 o0) (a_Ky p1 p2 o0) := by
 unfold a_Ky
 rw [e_Ky]
 have hl0 := Q18w p1 p2 o0 ((Q1hp p1 p2 o0 H).2.1) (s_Kd p1 p2 4 o0).1.list 0 (s_Kd p1 p2 4 o0).2.bD [] (by simp) (by simp)
 obtain ⟨z0, fA, hl0⟩ := hl0
 exact Q7 (fn := Ir.Ky) (by kernel_rfl) (h := [⟨1, 0, false, (aj.cells o0)⟩]) (vw := []) VOK.nil [hP 8 (Qs _ _ (Val.Q5 (s_Kd p1 p2 4 o0).1.list)), hS 0 true (aG.Q8 (Q85 p1 p2 o0 (s_Kd p1 p2 4 o0).1.list 0 (s_Kd p1 p2 4 o0).2.bD []).2 5 rfl), hQ (aG.Q5 (Q85 p1 p2 o0 (s_Kd p1 p2 4 o0).1.list 0 (s_Kd p1 p2 4 o0).2.bD []).2).symm] [aN (t_Kd p1 p2 4 o0 (Q1hp p1 p2 o0 H).1), aV [(1, aG.rows (Q85 p1 p2 o0 (s_Kd p1 p2 4 o0).1.list 0 (s_Kd p1 p2 4 o0).2.bD []).2)] hl0] (by kernel_rfl)
def s_Kl (p1 : Val) (o0 : aj) : bn × aj := ((bn.dec p1).1, ft o0 (bn.dec p1).2)
theorem e_Kl (p1 : Val) (o0 : aj) : s_Kl p1 o0 = (((bn.mk (s_Kn p1 Q2w (s_Ko p1 o0).2).1 (s_Kg p1 Q1q (s_Kn p1 Q2w (s_Ko p1 o0).2).2).1 (s_Kg p1 Q21 (s_Kg p1 Q1q (s_Kn p1 Q2w (s_Ko p1 o0).2).2).2).1 (s_Kg p1 Q2v (s_Kg p1 Q21 (s_Kg p1 Q1q (s_Kn p1 Q2w (s_Ko p1 o0).2).2).2).2).1 (s_Kt p1 Qq (s_Kg p1 Q2v (s_Kg p1 Q21 (s_Kg p1 Q1q (s_Kn p1 Q2w (s_Ko p1 o0).2).2).2).2).2).1 (s_Ku p1 Q18 (s_Kt p1 Qq (s_Kg p1 Q2v (s_Kg p1 Q21 (s_Kg p1 Q1q (s_Kn p1 Q2w (s_Ko p1 o0).2).2).2).2).2).2).1 (s_Kv p1 Qv (s_Ku p1 Q18 (s_Kt p1 Qq (s_Kg p1 Q2v (s_Kg p1 Q21 (s_Kg p1 Q1q (s_Kn p1 Q2w (s_Ko p1 o0).2).2).2).2).2).2).2).1 (s_Kw p1 Q13 (s_Kv p1 Qv (s_Ku p1 Q18 (s_Kt p1 Qq (s_Kg p1 Q2v (s_Kg p1 Q21 (s_Kg p1 Q1q (s_Kn p1 Q2w (s_Ko p1 o0).2).2).2).2).2).2).2).2).1 (s_Kx p1 Q1r (s_Kw p1 Q13 (s_Kv p1 Qv (s_Ku p1 Q18 (s_Kt p1 Qq (s_Kg p1 Q2v (s_Kg p1 Q21 (s_Kg p1 Q1q (s_Kn p1 Q2w (s_Ko p1 o0).2).2).2).2).2).2).2).2).2).1 (s_Ky p1 Qm (s_Kx p1 Q1r (s_Kw p1 Q13 (s_Kv p1 Qv (s_Ku p1 Q18 (s_Kt p1 Qq (s_Kg p1 Q2v (s_Kg p1 Q21 (s_Kg p1 Q1q (s_Kn p1 Q2w (s_Ko p1 o0).2).2).2).2).2).2).2).2).2).2).1), (s_Ky p1 Qm (s_Kx p1 Q1r (s_Kw p1 Q13 (s_Kv p1 Qv (s_Ku p1 Q18 (s_Kt p1 Qq (s_Kg p1 Q2v (s_Kg p1 Q21 (s_Kg p1 Q1q (s_Kn p1 Q2w (s_Ko p1 o0).2).2).2).2).2).2).2).2).2).2).2)) := by
  simp only [s_Ko, s_Kg, s_Kn, s_Kt, s_Kv, s_Kw, s_Ku, s_Kx, s_Ky, s_Kl, bn.dec, Qof, Bool.and_assoc, Bool.and_left_comm, Bool.and_comm, Bool.and_self_left]
def c_Kl (p1 : Val) (o0 : aj) : En := .call 218 [.bx 0 0, .agg (Val.cells p1)] [⟨1, 0, false, (aj.cells o0)⟩]
def r_Kl (_p1 : Val) (_o0 : aj) (q0 : bn) (q1 : aj) : Rs := .ret (.agg (bn.cells q0)) [⟨1, 0, false, (aj.cells q1)⟩]
def a_Kl (p1 : Val) (o0 : aj) : Rs := r_Kl p1 o0 (s_Kl p1 o0).1 (s_Kl p1 o0).2
def H_Kl (p1 : Val) : Prop := Val.Sm 1000000000 p1
theorem Q9h (p1 : Val) (_o0 : aj) (H : H_Kl p1) : (H_Kn p1) ∧ (H_Kg p1) ∧ (H_Kt p1) ∧ (H_Ku p1) ∧ (H_Kv p1) ∧ (H_Kw p1) ∧ (H_Kx p1) ∧ (H_Ky p1) ∧ True := by
  repeat' with_reducible apply And.intro
  all_goals first | exact True.intro | exact H | exact Qpf (Qg H _)
theorem t_Kl (p1 : Val) (o0 : aj) (H : H_Kl p1) : Q0 G (c_Kl p1 o0) (a_Kl p1 o0) := by
 unfold a_Kl
 rw [e_Kl]
 exact Q7 (fn := Ir.Kl) (by kernel_rfl) (h := [⟨1, 0, false, (aj.cells o0)⟩]) (vw := []) VOK.nil [] [aN (t_Ko p1 o0), aN (t_Kn p1 Q2w (s_Ko p1 o0).2 (Q9h p1 o0 H).1), aN (t_Kg p1 Q1q (s_Kn p1 Q2w (s_Ko p1 o0).2).2 (Q9h p1 o0 H).2.1), aN (t_Kg p1 Q21 (s_Kg p1 Q1q (s_Kn p1 Q2w (s_Ko p1 o0).2).2).2 (Q9h p1 o0 H).2.1), aN (t_Kg p1 Q2v (s_Kg p1 Q21 (s_Kg p1 Q1q (s_Kn p1 Q2w (s_Ko p1 o0).2).2).2).2 (Q9h p1 o0 H).2.1), aN (t_Kt p1 Qq (s_Kg p1 Q2v (s_Kg p1 Q21 (s_Kg p1 Q1q (s_Kn p1 Q2w (s_Ko p1 o0).2).2).2).2).2 (Q9h p1 o0 H).2.2.1), aN (t_Ku p1 Q18 (s_Kt p1 Qq (s_Kg p1 Q2v (s_Kg p1 Q21 (s_Kg p1 Q1q (s_Kn p1 Q2w (s_Ko p1 o0).2).2).2).2).2).2 (Q9h p1 o0 H).2.2.2.1), aN (t_Kv p1 Qv (s_Ku p1 Q18 (s_Kt p1 Qq (s_Kg p1 Q2v (s_Kg p1 Q21 (s_Kg p1 Q1q (s_Kn p1 Q2w (s_Ko p1 o0).2).2).2).2).2).2).2 (Q9h p1 o0 H).2.2.2.2.1), aN (t_Kw p1 Q13 (s_Kv p1 Qv (s_Ku p1 Q18 (s_Kt p1 Qq (s_Kg p1 Q2v (s_Kg p1 Q21 (s_Kg p1 Q1q (s_Kn p1 Q2w (s_Ko p1 o0).2).2).2).2).2).2).2).2 (Q9h p1 o0 H).2.2.2.2.2.1), aN (t_Kx p1 Q1r (s_Kw p1 Q13 (s_Kv p1 Qv (s_Ku p1 Q18 (s_Kt p1 Qq (s_Kg p1 Q2v (s_Kg p1 Q21 (s_Kg p1 Q1q (s_Kn p1 Q2w (s_Ko p1 o0).2).2).2).2).2).2).2).2).2 (Q9h p1 o0 H).2.2.2.2.2.2.1), aN (t_Ky p1 Qm (s_Kx p1 Q1r (s_Kw p1 Q13 (s_Kv p1 Qv (s_Ku p1 Q18 (s_Kt p1 Qq (s_Kg p1 Q2v (s_Kg p1 Q21 (s_Kg p1 Q1q (s_Kn p1 Q2w (s_Ko p1 o0).2).2).2).2).2).2).2).2).2).2 (Q9h p1 o0 H).2.2.2.2.2.2.2.1)] (by kernel_rfl)
def s_Ke (p1 : Val) (o0 : aj) : aU × aj := ((aU.dec p1).1, ft o0 (aU.dec p1).2)
theorem e_Ke (p1 : Val) (o0 : aj) : s_Ke p1 o0 = (((aU.mk (s_Kn p1 Q12 (s_Ko p1 o0).2).1 (s_Kn p1 Q1t (s_Kn p1 Q12 (s_Ko p1 o0).2).2).1), (s_Kn p1 Q1t (s_Kn p1 Q12 (s_Ko p1 o0).2).2).2)) := by
  simp only [s_Ko, s_Kn, s_Ke, aU.dec, Qof, Bool.and_assoc, Bool.and_left_comm, Bool.and_self_left]
def c_Ke (p1 : Val) (o0 : aj) : En := .call 217 [.bx 0 0, .agg (Val.cells p1)] [⟨1, 0, false, (aj.cells o0)⟩]
def r_Ke (_p1 : Val) (_o0 : aj) (q0 : aU) (q1 : aj) : Rs := .ret (.agg (aU.cells q0)) [⟨1, 0, false, (aj.cells q1)⟩]
def a_Ke (p1 : Val) (o0 : aj) : Rs := r_Ke p1 o0 (s_Ke p1 o0).1 (s_Ke p1 o0).2
def H_Ke (p1 : Val) : Prop := Val.Sm 1000000000 p1
theorem Q1hi (p1 : Val) (_o0 : aj) (H : H_Ke p1) : (H_Kn p1) ∧ True := by
  repeat' with_reducible apply And.intro
  all_goals first | exact True.intro | exact H | exact Qpf (Qg H _)
theorem t_Ke (p1 : Val) (o0 : aj) (H : H_Ke p1) : Q0 G (c_Ke p1 o0) (a_Ke p1 o0) := by
 unfold a_Ke
 rw [e_Ke]
 exact Q7 (fn := Ir.Ke) (by kernel_rfl) (h := [⟨1, 0, false, (aj.cells o0)⟩]) (vw := []) VOK.nil [] [aN (t_Ko p1 o0), aN (t_Kn p1 Q12 (s_Ko p1 o0).2 (Q1hi p1 o0 H).1), aN (t_Kn p1 Q1t (s_Kn p1 Q12 (s_Ko p1 o0).2).2 (Q1hi p1 o0 H).1)] (by kernel_rfl)
def Q7z (p1 : Val) (p2 : BA) (o0 : aj) : List Val → Nat → Bool → (List aU) → Bool × (List aU)
 | [], _i0, ah, ay =>
  (ah, ay)
 | x0 :: r0, i0, ah, ay =>
  Q7z p1 p2 o0 r0 (i0 + 1) (s_Ke x0 (aj.mk ah)).2.bD (ay ++ [(s_Ke x0 (aj.mk ah)).1])
def Q1k0 (p1 : Val) (p2 : BA) (o0 : aj) (i0 : Nat) (_ah : Bool) (ay : List aU) : List PV :=
  [.un, .un, .un, .fn 217 [.bx 0 0] []] ++ nuns 5 ++ [.ms 1 2 0 (List.length ay)] ++ nuns 6 ++ [.sl (Val.rows (s_Kd p1 p2 4 o0).1.list), iN ((List.length (s_Kd p1 p2 4 o0).1.list) : Int), iN (i0 : Int)] ++ nuns 11
def Q15l (_p1 : Val) (_p2 : BA) (_o0 : aj) (_i0 : Nat) (ah : Bool) (ay : List aU) : List Ob :=
  [⟨1, 0, false, [.bool ah]⟩, ⟨2, 0, true, (aU.rows ay).flatten⟩]
def Qw5 (p1 : Val) (p2 : BA) (o0 : aj) (i0 : Nat) (ah : Bool) (ay : List aU) : En := .loop 1 Ir.Qri Ir.Q1vo (Q1k0 p1 p2 o0 i0 ah ay) (Q15l p1 p2 o0 i0 ah ay)
def Q10x (_p1 : Val) (_p2 : BA) (_o0 : aj) (q0 : Bool) (q1 : List aU) (z : Nat → PV) (_zo : Nat → List PV) : St :=
  ⟨zr z 0 9 ++ [.ms 1 2 0 (List.length q1)] ++ zr z 10 20, [(0, ⟨1, 0, false, [.bool q0]⟩), (1, ⟨2, 0, true, (aU.rows q1).flatten⟩)], 66⟩
theorem Q1gs (p1 : Val) (p2 : BA) (o0 : aj) (i0 : Nat) (ah : Bool) (ay : List aU) : VOK (Go.Pv.look (number 0 (Q15l p1 p2 o0 i0 ah ay))) [(1, aU.rows ay)] := (VOK.cons (show Seen _ _ from Q4a (ob := ⟨2, 0, true, (aU.rows ay).flatten⟩) (aU.Q8 ay 2 rfl)) VOK.nil)
def Qxq (p1 : Val) (p2 : BA) (o0 : aj) (e : En) (q : Bool × (List aU)) : Prop := ∃ z zo, Q0 G e (.st (.exit 0) (Q10x p1 p2 o0 q.1 q.2 z zo))
theorem Q10p (p1 : Val) (p2 : BA) (o0 : aj) {e e' : En} (h : ∀ r, Q0 G e r → Q0 G e' r) : ∀ q, Qxq p1 p2 o0 e q → Qxq p1 p2 o0 e' q
  | _, ⟨z, zo, hz⟩ => ⟨z, zo, h _ hz⟩
def Qke (p1 : Val) (p2 : BA) (o0 : aj) : Prop := (List.length (s_Kd p1 p2 4 o0).1.list ≤ 137438953472) ∧ (∀ x0 ∈ (s_Kd p1 p2 4 o0).1.list, H_Ke x0) ∧ True
def Q117 (p1 : Val) (p2 : BA) (o0 : aj) (i0 : Nat) (_ah : Bool) (_ay : List aU) : List PV :=
  [.un, .un, .un, .fn 217 [.bx 0 0] []] ++ nuns 12 ++ [.sl (Val.rows (s_Kd p1 p2 4 o0).1.list), iN ((List.length (s_Kd p1 p2 4 o0).1.list) : Int), iN (i0 : Int), .bool false]
def Qte (_p1 : Val) (_p2 : BA) (_o0 : aj) (_i0 : Nat) (_ah : Bool) (_ay : List aU) : List (Nat × List PV) :=
  []
theorem Q1jo (p1 : Val) (p2 : BA) (o0 : aj) (_H : Qke p1 p2 o0) (i0 : Nat) (ah : Bool) (ay : List aU) (_aP : List.length ay ≤ i0) (bC : (decide ((i0 : Int) < ((List.length (s_Kd p1 p2 4 o0).1.list) : Int))) = false) : Qxq p1 p2 o0 (Qw5 p1 p2 o0 i0 ah ay) (ah, ay) := by
 exact ⟨(envF (Q117 p1 p2 o0 i0 ah ay)), (zoF (Qte p1 p2 o0 i0 ah ay)), Qh (Q1gs p1 p2 o0 i0 ah ay) (x := ((.exit 0), Q10x p1 p2 o0 ah ay (envF (Q117 p1 p2 o0 i0 ah ay)) (zoF (Qte p1 p2 o0 i0 ah ay)))) [hB 0 bC] [] (by kernel_rfl)⟩
theorem Q1i4 (p1 : Val) (p2 : BA) (o0 : aj) (H : Qke p1 p2 o0) (x0 : Val) (i0 : Nat) (ah : Bool) (ay : List aU) (bF : (s_Kd p1 p2 4 o0).1.list[i0]? = some x0) (bR : i0 < List.length (s_Kd p1 p2 4 o0).1.list) (aP : List.length ay ≤ i0) (bC : (decide ((i0 : Int) < ((List.length (s_Kd p1 p2 4 o0).1.list) : Int))) = true) {r : Rs} (hr : Q0 G (Qw5 p1 p2 o0 (i0 + 1) (s_Ke x0 (aj.mk ah)).2.bD (ay ++ [(s_Ke x0 (aj.mk ah)).1])) r) : Q0 G (Qw5 p1 p2 o0 i0 ah ay) r := by
 have hB0 := H.1
 exact Qc (Q1gs p1 p2 o0 i0 ah ay) [hB 0 bC, hP 0 (Q1l 5 _ i0 _ (Val.Qb bF) rfl), hA 8 1 578 642 2 32 0 0 true aU.Q5 aU.Q1n ay (s_Ke x0 (aj.mk ah)).1 (aU.Qw ay) rfl rfl (by omega), hS 0 true (aU.Q8 (ay ++ [(s_Ke x0 (aj.mk ah)).1]) 2 rfl), hP 1 (Q26 i0 (by omega))] [aN (t_Ke x0 (aj.mk ah) (H.2.1 x0 (Q1i bF)))] hr (by kernel_rfl)
theorem Q18q (p1 : Val) (p2 : BA) (o0 : aj) (H : Qke p1 p2 o0) : ∀ (r0 : List Val) (i0 : Nat) (ah : Bool) (ay : List aU), List.drop i0 (s_Kd p1 p2 4 o0).1.list = r0 → List.length ay ≤ i0 → Qxq p1 p2 o0 (Qw5 p1 p2 o0 i0 ah ay) (Q7z p1 p2 o0 r0 i0 ah ay)
 | [], i0, ah, ay, hd, aP => by
  have bC : (decide ((i0 : Int) < ((List.length (s_Kd p1 p2 4 o0).1.list) : Int))) = false := by have := Q1o hd; simp; omega
  rw [Q7z]
  exact Q1jo p1 p2 o0 H i0 ah ay aP bC
 | x0 :: r0, i0, ah, ay, hd, aP => by
  obtain ⟨bF, bR, hd'⟩ := Q1p hd
  have bC : (decide ((i0 : Int) < ((List.length (s_Kd p1 p2 4 o0).1.list) : Int))) = true := by simp; omega
  rw [Q7z]
  exact Q10p p1 p2 o0 (fun r hr => Q1i4 p1 p2 o0 H x0 i0 ah ay bF bR aP bC hr) _ (Q18q p1 p2 o0 H r0 _ _ _ hd' (by first | omega | (simp; omega)))
def s_Ks (p1 : Val) (p2 : BA) (o0 : aj) : List aU × aj := ((dE aU.dec p1 p2).1, ft o0 (isM p1 && (dE aU.dec p1 p2).2))
theorem Q1ig (p1 : Val) (p2 : BA) (o0 : aj) : ∀ (l : List Val) (i : Nat) (b : Bool) (a : List aU), Q7z p1 p2 o0 l i b a = (b || !(l.all fun x => (aU.dec x).2), a ++ l.map (fun x => (aU.dec x).1))
  | [], _, b, a => by rw [Q7z]; simp
  | x :: l, i, b, a => by
    rw [Q7z]
    refine (Q1ig p1 p2 o0 l (i + 1) (b || !(aU.dec x).2) (a ++ [(aU.dec x).1])).trans ?_
    simp only [List.append_assoc, List.singleton_append, List.map_cons, List.all_cons, Bool.not_and, Bool.or_assoc]
theorem e_Ks (p1 : Val) (p2 : BA) (o0 : aj) : s_Ks p1 p2 o0 = (((Q7z p1 p2 o0 (s_Kd p1 p2 4 o0).1.list 0 (s_Kd p1 p2 4 o0).2.bD []).2, (aj.mk (Q7z p1 p2 o0 (s_Kd p1 p2 4 o0).1.list 0 (s_Kd p1 p2 4 o0).2.bD []).1))) := by
  rw [Q1ig]
  unfold s_Kd s_Ks
  simp only [Qam, Q6c]
  refine Prod.ext rfl ?_
  rw [Qa8 o0.bD (isM p1) _ _ _ (Qz7 (prt p1 p2)), Q7g]
  rfl
def c_Ks (p1 : Val) (p2 : BA) (o0 : aj) : En := .call 216 [.bx 0 0, .agg (Val.cells p1), .str p2, .fn 217 [.bx 0 0] []] [⟨1, 0, false, (aj.cells o0)⟩]
def r_Ks (_p1 : Val) (_p2 : BA) (_o0 : aj) (q0 : List aU) (q1 : aj) : Rs := .ret (.sl (aU.rows q0)) [⟨1, 0, false, (aj.cells q1)⟩]
def a_Ks (p1 : Val) (p2 : BA) (o0 : aj) : Rs := r_Ks p1 p2 o0 (s_Ks p1 p2 o0).1 (s_Ks p1 p2 o0).2
def H_Ks (p1 : Val) : Prop := Val.Sm 1000000000 p1
theorem Q1hj (p1 : Val) (p2 : BA) (o0 : aj) (H : H_Ks p1) : (H_Kd p1) ∧ (Qke p1 p2 o0) ∧ True := by
  have hl := Q71 (Qg H p2)
  refine ⟨H, ?_, trivial⟩
  unfold Qke s_Kd
  simp only [Qam]
  exact ⟨Nat.le_trans hl.1 (Nat.le_of_ble_eq_true rfl), hl.2, trivial⟩
theorem t_Ks (p1 : Val) (p2 : BA) (o0 : aj) (H : H_Ks p1) : Q0 G (c_Ks p1 p2 o0) (a_Ks p1 p2 o0) := by
 unfold a_Ks
 rw [e_Ks]
 have hl0 := Q18q p1 p2 o0 ((Q1hj p1 p2 o0 H).2.1) (s_Kd p1 p2 4 o0).1.list 0 (s_Kd p1 p2 4 o0).2.bD [] (by simp) (by simp)
 obtain ⟨z0, fA, hl0⟩ := hl0
 exact Q7 (fn := Ir.Ks) (by kernel_rfl) (h := [⟨1, 0, false, (aj.cells o0)⟩]) (vw := []) VOK.nil [hP 8 (Qs _ _ (Val.Q5 (s_Kd p1 p2 4 o0).1.list)), hS 0 true (aU.Q8 (Q7z p1 p2 o0 (s_Kd p1 p2 4 o0).1.list 0 (s_Kd p1 p2 4 o0).2.bD []).2 2 rfl), hQ (aU.Q5 (Q7z p1 p2 o0 (s_Kd p1 p2 4 o0).1.list 0 (s_Kd p1 p2 4 o0).2.bD []).2).symm] [aN (t_Kd p1 p2 4 o0 (Q1hj p1 p2 o0 H).1), aV [(1, aU.rows (Q7z p1 p2 o0 (s_Kd p1 p2 4 o0).1.list 0 (s_Kd p1 p2 4 o0).2.bD []).2)] hl0] (by kernel_rfl)
def s_Ka (p0 : Val) : aY × Int := Qq0 p0
theorem e_Ka (p0 : Val) : s_Ka p0 = (bif (s_Kl (s_Kp p0 Q38 (s_Ks p0 Qk (s_Ko p0 (aj.mk false)).2).2).1 (s_Kp p0 Q38 (s_Ks p0 Qk (s_Ko p0 (aj.mk false)).2).2).2).2.bD then
    ((aY.mk [] (bn.mk eB 0 0 0 [] [] [] [] [] [])), 6)
  else
    ((aY.mk (s_Ks p0 Qk (s_Ko p0 (aj.mk false)).2).1 (s_Kl (s_Kp p0 Q38 (s_Ks p0 Qk (s_Ko p0 (aj.mk false)).2).2).1 (s_Kp p0 Q38 (s_Ks p0 Qk (s_Ko p0 (aj.mk false)).2).2).2).1), 0)) := by
  unfold s_Ka Qq0 aY.dec
  simp only [s_Ko, s_Kp, s_Kl, s_Ks, bn.sub1, dT, bn.sub2, Qof, Q6c, Bool.false_or, Bool.and_assoc, Bool.and_left_comm, Bool.and_comm, Bool.and_self_left]
  rfl
def c_Ka (p0 : Val) : En := .call 183 [.agg (Val.cells p0)] []
def a_Ka (p0 : Val) : Rs := .ret (.tup [.agg (aY.cells (s_Ka p0).1), iN (s_Ka p0).2]) []
def H_Ka (p0 : Val) : Prop := Val.Sm 1000000000 p0
theorem Qfv (p0 : Val) (H : H_Ka p0) : (H_Ks p0) ∧ (H_Kp p0) ∧ (H_Kl (s_Kp p0 Q38 (s_Ks p0 Qk (s_Ko p0 (aj.mk false)).2).2).1) ∧ True := by
  repeat' with_reducible apply And.intro
  all_goals first | exact True.intro | exact H | exact Qpf (Qg H _)
theorem t_Ka (p0 : Val) (H : H_Ka p0) : Q0 G (c_Ka p0) (a_Ka p0) := by
 unfold a_Ka
 rw [e_Ka]
 cases h0 : (s_Kl (s_Kp p0 Q38 (s_Ks p0 Qk (s_Ko p0 (aj.mk false)).2).2).1 (s_Kp p0 Q38 (s_Ks p0 Qk (s_Ko p0 (aj.mk false)).2).2).2).2.bD with
 | true =>
  exact Q7 (fn := Ir.Ka) (by kernel_rfl) VOK.nil [hP 25 (decR (s_Kl (s_Kp p0 Q38 (s_Ks p0 Qk (s_Ko p0 (aj.mk false)).2).2).1 (s_Kp p0 Q38 (s_Ks p0 Qk (s_Ko p0 (aj.mk false)).2).2).2).2.bD true [256] h0)] [aN (t_Ko p0 (aj.mk false)), aN (t_Ks p0 Qk (s_Ko p0 (aj.mk false)).2 (Qfv p0 H).1), aN (t_Kp p0 Q38 (s_Ks p0 Qk (s_Ko p0 (aj.mk false)).2).2 (Qfv p0 H).2.1), aN (t_Kl (s_Kp p0 Q38 (s_Ks p0 Qk (s_Ko p0 (aj.mk false)).2).2).1 (s_Kp p0 Q38 (s_Ks p0 Qk (s_Ko p0 (aj.mk false)).2).2).2 (Qfv p0 H).2.2.1)] (by kernel_rfl)
 | false =>
  exact Q7 (fn := Ir.Ka) (by kernel_rfl) VOK.nil [hP 25 (decR (s_Kl (s_Kp p0 Q38 (s_Ks p0 Qk (s_Ko p0 (aj.mk false)).2).2).1 (s_Kp p0 Q38 (s_Ks p0 Qk (s_Ko p0 (aj.mk false)).2).2).2).2.bD false [256] h0)] [aN (t_Ko p0 (aj.mk false)), aN (t_Ks p0 Qk (s_Ko p0 (aj.mk false)).2 (Qfv p0 H).1), aN (t_Kp p0 Q38 (s_Ks p0 Qk (s_Ko p0 (aj.mk false)).2).2 (Qfv p0 H).2.1), aN (t_Kl (s_Kp p0 Q38 (s_Ks p0 Qk (s_Ko p0 (aj.mk false)).2).2).1 (s_Kp p0 Q38 (s_Ks p0 Qk (s_Ko p0 (aj.mk false)).2).2).2 (Qfv p0 H).2.2.1)] (by kernel_rfl)
end Go.Proofs.YtimjjohlpnkacaaGreat
end

