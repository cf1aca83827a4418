/- Texts of the claim, merged by a program; what the statement does not reach is left out. -/
import Derived.Test.YtiflaadeikaghaaGreatBPodcodecDecodes4

section
/- What the program's decoders compute (printed by a program). -/
namespace Go.Proofs.YtiflaadeikaghaaGreat
open Go.Pv
structure Decoder where
  failed : Bool
def Decoder.cells (x : Decoder) : List PV :=
  [.bool x.failed]
def Decoder.rows (l : List Decoder) : List (List PV) := l.map Decoder.cells
theorem Decoder.Q9 (l : List Decoder) : (Decoder.rows l).length = l.length := by simp [Decoder.rows]
theorem Decoder.Qe {l : List Decoder} {i : Nat} {x : Decoder} (h : l[i]? = some x) : (Decoder.rows l)[i]? = some (Decoder.cells x) := Go.Pv.Qe h
theorem Decoder.Q1n (l : List Decoder) (x : Decoder) : Decoder.rows (l ++ [x]) = Decoder.rows l ++ [Decoder.cells x] := by simp [Decoder.rows]
theorem Decoder.Q16 (l : List Decoder) : ∀ r ∈ Decoder.rows l, r.length = 1 := Q3h (f := Decoder.cells) (fun _ => rfl) l
theorem Decoder.Qp (l : List Decoder) (sz : Nat) (h : sz = 1) : ViewOK sz (Decoder.rows l).flatten (Decoder.rows l) := by subst h; exact ⟨rfl, Decoder.Q16 l, Q2z (f := Decoder.cells) (fun _ => rfl) l⟩
def ft (o : Decoder) (b : Bool) : Decoder := ⟨o.failed || !b⟩
theorem Qal (o : Decoder) (a b : Bool) : ft (ft o a) b = ft o (a && b) := by
  unfold ft
  simp only [Bool.not_and, Bool.or_assoc]
theorem Q3t (o : Decoder) (b : Bool) : (ft o b).failed = (o.failed || !b) := rfl
theorem Q46 (o : Decoder) (b : Bool) : Decoder.mk (o.failed || !b) = ft o b := rfl
theorem getL (p1 : Val) (p2 : BA) : (bif (prt p1 p2).kind == 4 then prt p1 p2 else vZ).list = (dL p1 p2).1 := by
  unfold dL xL
  cases ((prt p1 p2).kind == 4) <;> rfl
theorem Q6f (f m x y q : Bool) (h : x = y) : ((f || !(m && x)) || !q) = (f || !(m && (y && q))) := by subst h; cases f <;> cases m <;> cases x <;> cases q <;> rfl
theorem Qeq (x : Val) : ((x.kind == 4) || (x.kind == 0)) = (xL x).2 := by unfold xL; cases (x.kind == 4) <;> rfl
def s_Kw (p1 : Val) (o0 : Decoder) : Val × Decoder := (p1, ft o0 (isM p1))
theorem e_Kw (p1 : Val) (o0 : Decoder) : s_Kw p1 o0 = (bif o0.failed then
    (p1, (Decoder.mk true))
  else
    bif (p1.kind == 5) then
      (p1, (Decoder.mk false))
    else
      (p1, (Decoder.mk (!(p1.kind == 0))))) := by
  obtain ⟨b⟩ := o0
  unfold s_Kw ft isM
  cases b <;> cases (p1.kind == 5) <;> cases (p1.kind == 0) <;> rfl
def c_Kw (p1 : Val) (o0 : Decoder) : En := .call 36 [.bx 0 0, .agg (Val.cells p1)] [⟨1, 0, false, (Decoder.cells o0)⟩]
def r_Kw (_p1 : Val) (_o0 : Decoder) (q0 : Val) (q1 : Decoder) : Rs := .ret (.agg (Val.cells q0)) [⟨1, 0, false, (Decoder.cells q1)⟩]
def a_Kw (p1 : Val) (o0 : Decoder) : Rs := r_Kw p1 o0 (s_Kw p1 o0).1 (s_Kw p1 o0).2
theorem t_Kw (p1 : Val) (o0 : Decoder) : Qi G (c_Kw p1 o0) (a_Kw p1 o0) := by
 unfold a_Kw
 rw [e_Kw]
 cases h0 : o0.failed with
 | true =>
  exact Qm (fn := Ir.Kw) rfl (h := [⟨1, 0, false, (Decoder.cells o0)⟩]) (vw := []) VOK.nil [hP 6 (decR o0.failed true [0] h0)] [] (by kernel_rfl)
 | false =>
  cases h1 : (p1.kind == 5) with
  | true =>
   exact Qm (fn := Ir.Kw) rfl (h := [⟨1, 0, false, (Decoder.cells o0)⟩]) (vw := []) VOK.nil [hP 6 (decR o0.failed false [0] h0), hP 3 (dec (!(p1.kind == 5)) false (by rw [h1]; rfl))] [] (by kernel_rfl)
  | false =>
   exact Qm (fn := Ir.Kw) rfl (h := [⟨1, 0, false, (Decoder.cells o0)⟩]) (vw := []) VOK.nil [hP 6 (decR o0.failed false [0] h0), hP 3 (dec (!(p1.kind == 5)) true (by rw [h1]; rfl))] [] (by kernel_rfl)
def s_Kj (p1 : Val) (p2 : BA) (p3 : Int) (o0 : Decoder) : Val × Decoder := (bif (prt p1 p2).kind == p3 then prt p1 p2 else vZ, ft o0 (isM p1 && ((prt p1 p2).kind == p3 || (prt p1 p2).kind == 0)))
theorem e_Kj (p1 : Val) (p2 : BA) (p3 : Int) (o0 : Decoder) : s_Kj p1 p2 p3 o0 = (bif (p1.kind == 5) then
    bif ((Qsq p1 p2).1.kind == p3) then
      ((Qsq p1 p2).1, o0)
    else
      bif o0.failed then
        ((Val.mk 0 0 eB [] []), (Decoder.mk true))
      else
        ((Val.mk 0 0 eB [] []), (Decoder.mk (!((Qsq p1 p2).1.kind == 0))))
  else
    bif o0.failed then
      ((Val.mk 0 0 eB [] []), (Decoder.mk true))
    else
      ((Val.mk 0 0 eB [] []), (Decoder.mk (!(p1.kind == 0))))) := by
  obtain ⟨b⟩ := o0
  unfold s_Kj ft
  rw [vprt]
  cases h : (p1.kind == 5) with
  | true =>
    rw [Qze h]
    cases b <;> cases ((prt p1 p2).kind == p3) <;> cases ((prt p1 p2).kind == 0) <;> rfl
  | false =>
    rw [Q4h h, Q4a h]
    cases b <;> cases (p1.kind == 0) <;> cases (vZ.kind == p3) <;> rfl
def c_Kj (p1 : Val) (p2 : BA) (p3 : Int) (o0 : Decoder) : En := .call 106 [.bx 0 0, .agg (Val.cells p1), .str p2, .int .i64 p3] [⟨1, 0, false, (Decoder.cells o0)⟩]
def r_Kj (_p1 : Val) (_p2 : BA) (_p3 : Int) (_o0 : Decoder) (q0 : Val) (q1 : Decoder) : Rs := .ret (.agg (Val.cells q0)) [⟨1, 0, false, (Decoder.cells q1)⟩]
def a_Kj (p1 : Val) (p2 : BA) (p3 : Int) (o0 : Decoder) : Rs := r_Kj p1 p2 p3 o0 (s_Kj p1 p2 p3 o0).1 (s_Kj p1 p2 p3 o0).2
def H_Kj (p1 : Val) : Prop := Val.Sm 1000000000 p1
theorem Qzj (p1 : Val) (p2 : BA) (_p3 : Int) (_o0 : Decoder) (H : H_Kj p1) : (Q1fs p1 p2) ∧ True := by
  exact ⟨Q1qk H _, trivial⟩
theorem t_Kj (p1 : Val) (p2 : BA) (p3 : Int) (o0 : Decoder) (H : H_Kj p1) : Qi G (c_Kj p1 p2 p3 o0) (a_Kj p1 p2 p3 o0) := by
 unfold a_Kj
 rw [e_Kj]
 cases h0 : (p1.kind == 5) with
 | true =>
  cases h1 : ((Qsq p1 p2).1.kind == p3) with
  | true =>
   exact Qm (fn := Ir.Kj) rfl (h := [⟨1, 0, false, (Decoder.cells o0)⟩]) (vw := []) VOK.nil [hP 4 (dec (!(p1.kind == 5)) false (by rw [h0]; rfl)), hB 12 h1] [aN (Q1gg p1 p2 (Qzj p1 p2 p3 o0 H).1)] (by kernel_rfl)
  | false =>
   cases h2 : o0.failed with
   | true =>
    exact Qm (fn := Ir.Kj) rfl (h := [⟨1, 0, false, (Decoder.cells o0)⟩]) (vw := []) VOK.nil [hP 4 (dec (!(p1.kind == 5)) false (by rw [h0]; rfl)), hB 12 h1, hP 4 (decR o0.failed true [0] h2)] [aN (Q1gg p1 p2 (Qzj p1 p2 p3 o0 H).1)] (by kernel_rfl)
   | false =>
    exact Qm (fn := Ir.Kj) rfl (h := [⟨1, 0, false, (Decoder.cells o0)⟩]) (vw := []) VOK.nil [hP 4 (dec (!(p1.kind == 5)) false (by rw [h0]; rfl)), hB 12 h1, hP 4 (decR o0.failed false [0] h2)] [aN (Q1gg p1 p2 (Qzj p1 p2 p3 o0 H).1)] (by kernel_rfl)
 | false =>
  cases h1 : o0.failed with
  | true =>
   exact Qm (fn := Ir.Kj) rfl (h := [⟨1, 0, false, (Decoder.cells o0)⟩]) (vw := []) VOK.nil [hP 4 (dec (!(p1.kind == 5)) true (by rw [h0]; rfl)), hP 4 (decR o0.failed true [0] h1)] [] (by kernel_rfl)
  | false =>
   exact Qm (fn := Ir.Kj) rfl (h := [⟨1, 0, false, (Decoder.cells o0)⟩]) (vw := []) VOK.nil [hP 4 (dec (!(p1.kind == 5)) true (by rw [h0]; rfl)), hP 4 (decR o0.failed false [0] h1)] [] (by kernel_rfl)
def s_Kn (p1 : Val) (p2 : BA) (o0 : Decoder) : Int × Decoder := ((dN p1 p2).1, ft o0 (isM p1 && (dN p1 p2).2))
theorem e_Kn (p1 : Val) (p2 : BA) (o0 : Decoder) : s_Kn p1 p2 o0 = (((s_Kj p1 p2 2 o0).1.n, (s_Kj p1 p2 2 o0).2)) := by
  unfold s_Kn s_Kj dN xN
  cases ((prt p1 p2).kind == 2) <;> rfl
def c_Kn (p1 : Val) (p2 : BA) (o0 : Decoder) : En := .call 39 [.bx 0 0, .agg (Val.cells p1), .str p2] [⟨1, 0, false, (Decoder.cells o0)⟩]
def r_Kn (_p1 : Val) (_p2 : BA) (_o0 : Decoder) (q0 : Int) (q1 : Decoder) : Rs := .ret (.int .i64 q0) [⟨1, 0, false, (Decoder.cells q1)⟩]
def a_Kn (p1 : Val) (p2 : BA) (o0 : Decoder) : Rs := r_Kn p1 p2 o0 (s_Kn p1 p2 o0).1 (s_Kn p1 p2 o0).2
def H_Kn (p1 : Val) : Prop := Val.Sm 1000000000 p1
theorem Q1g7 (p1 : Val) (_p2 : BA) (_o0 : Decoder) (H : H_Kn p1) : (H_Kj p1) ∧ True := by
  exact ⟨H, trivial⟩
theorem t_Kn (p1 : Val) (p2 : BA) (o0 : Decoder) (H : H_Kn p1) : Qi G (c_Kn p1 p2 o0) (a_Kn p1 p2 o0) := by
 unfold a_Kn
 rw [e_Kn]
 exact Qm (fn := Ir.Kn) rfl (h := [⟨1, 0, false, (Decoder.cells o0)⟩]) (vw := []) VOK.nil [] [aN (t_Kj p1 p2 2 o0 (Q1g7 p1 p2 o0 H).1)] (by kernel_rfl)
def s_Kv (p1 : Val) (p2 : BA) (o0 : Decoder) : ByteArray × Decoder := ((dS p1 p2).1, ft o0 (isM p1 && (dS p1 p2).2))
theorem e_Kv (p1 : Val) (p2 : BA) (o0 : Decoder) : s_Kv p1 p2 o0 = (((s_Kj p1 p2 3 o0).1.s, (s_Kj p1 p2 3 o0).2)) := by
  unfold s_Kv s_Kj dS xS
  cases ((prt p1 p2).kind == 3) <;> rfl
def c_Kv (p1 : Val) (p2 : BA) (o0 : Decoder) : En := .call 84 [.bx 0 0, .agg (Val.cells p1), .str p2] [⟨1, 0, false, (Decoder.cells o0)⟩]
def r_Kv (_p1 : Val) (_p2 : BA) (_o0 : Decoder) (q0 : BA) (q1 : Decoder) : Rs := .ret (.str q0) [⟨1, 0, false, (Decoder.cells q1)⟩]
def a_Kv (p1 : Val) (p2 : BA) (o0 : Decoder) : Rs := r_Kv p1 p2 o0 (s_Kv p1 p2 o0).1 (s_Kv p1 p2 o0).2
def H_Kv (p1 : Val) : Prop := Val.Sm 1000000000 p1
theorem Q1gm (p1 : Val) (_p2 : BA) (_o0 : Decoder) (H : H_Kv p1) : (H_Kj p1) ∧ True := by
  exact ⟨H, trivial⟩
theorem t_Kv (p1 : Val) (p2 : BA) (o0 : Decoder) (H : H_Kv p1) : Qi G (c_Kv p1 p2 o0) (a_Kv p1 p2 o0) := by
 unfold a_Kv
 rw [e_Kv]
 exact Qm (fn := Ir.Kv) rfl (h := [⟨1, 0, false, (Decoder.cells o0)⟩]) (vw := []) VOK.nil [] [aN (t_Kj p1 p2 3 o0 (Q1gm p1 p2 o0 H).1)] (by kernel_rfl)
def s_Ki (p1 : Val) (p2 : BA) (o0 : Decoder) : Bool × Decoder := ((dB p1 p2).1, ft o0 (isM p1 && (dB p1 p2).2))
theorem e_Ki (p1 : Val) (p2 : BA) (o0 : Decoder) : s_Ki p1 p2 o0 = (((!((s_Kj p1 p2 1 o0).1.n == 0)), (s_Kj p1 p2 1 o0).2)) := by
  unfold s_Ki s_Kj dB xB
  cases ((prt p1 p2).kind == 1) <;> rfl
def c_Ki (p1 : Val) (p2 : BA) (o0 : Decoder) : En := .call 40 [.bx 0 0, .agg (Val.cells p1), .str p2] [⟨1, 0, false, (Decoder.cells o0)⟩]
def r_Ki (_p1 : Val) (_p2 : BA) (_o0 : Decoder) (q0 : Bool) (q1 : Decoder) : Rs := .ret (.bool q0) [⟨1, 0, false, (Decoder.cells q1)⟩]
def a_Ki (p1 : Val) (p2 : BA) (o0 : Decoder) : Rs := r_Ki p1 p2 o0 (s_Ki p1 p2 o0).1 (s_Ki p1 p2 o0).2
def H_Ki (p1 : Val) : Prop := Val.Sm 1000000000 p1
theorem Q1gy (p1 : Val) (_p2 : BA) (_o0 : Decoder) (H : H_Ki p1) : (H_Kj p1) ∧ True := by
  exact ⟨H, trivial⟩
theorem t_Ki (p1 : Val) (p2 : BA) (o0 : Decoder) (H : H_Ki p1) : Qi G (c_Ki p1 p2 o0) (a_Ki p1 p2 o0) := by
 unfold a_Ki
 rw [e_Ki]
 exact Qm (fn := Ir.Ki) rfl (h := [⟨1, 0, false, (Decoder.cells o0)⟩]) (vw := []) VOK.nil [] [aN (t_Kj p1 p2 1 o0 (Q1gy p1 p2 o0 H).1)] (by kernel_rfl)
def s_Kx (p1 : Val) (p2 : BA) (o0 : Decoder) : Val × Decoder := (s5 (prt p1 p2), ft o0 (isM p1 && isM (prt p1 p2)))
theorem e_Kx (p1 : Val) (p2 : BA) (o0 : Decoder) : s_Kx p1 p2 o0 = (((s_Kj p1 p2 5 o0).1, (s_Kj p1 p2 5 o0).2)) := by
  rfl
def c_Kx (p1 : Val) (p2 : BA) (o0 : Decoder) : En := .call 38 [.bx 0 0, .agg (Val.cells p1), .str p2] [⟨1, 0, false, (Decoder.cells o0)⟩]
def r_Kx (_p1 : Val) (_p2 : BA) (_o0 : Decoder) (q0 : Val) (q1 : Decoder) : Rs := .ret (.agg (Val.cells q0)) [⟨1, 0, false, (Decoder.cells q1)⟩]
def a_Kx (p1 : Val) (p2 : BA) (o0 : Decoder) : Rs := r_Kx p1 p2 o0 (s_Kx p1 p2 o0).1 (s_Kx p1 p2 o0).2
def H_Kx (p1 : Val) : Prop := Val.Sm 1000000000 p1
theorem Q1hp (p1 : Val) (_p2 : BA) (_o0 : Decoder) (H : H_Kx p1) : (H_Kj p1) ∧ True := by
  exact ⟨H, trivial⟩
theorem t_Kx (p1 : Val) (p2 : BA) (o0 : Decoder) (H : H_Kx p1) : Qi G (c_Kx p1 p2 o0) (a_Kx p1 p2 o0) := by
 unfold a_Kx
 rw [e_Kx]
 exact Qm (fn := Ir.Kx) rfl (h := [⟨1, 0, false, (Decoder.cells o0)⟩]) (vw := []) VOK.nil [] [aN (t_Kj p1 p2 5 o0 (Q1hp p1 p2 o0 H).1)] (by kernel_rfl)
def s_Kr (p1 : Val) (o0 : Decoder) : Resources × Decoder := ((Resources.dec p1).1, ft o0 (Resources.dec p1).2)
theorem e_Kr (p1 : Val) (o0 : Decoder) : s_Kr p1 o0 = (((Resources.mk (s_Kn p1 Q4d o0).1 (s_Kn p1 Q39 (s_Kn p1 Q4d o0).2).1 (s_Kn p1 Q4e (s_Kn p1 Q39 (s_Kn p1 Q4d o0).2).2).1), (s_Kn p1 Q4e (s_Kn p1 Q39 (s_Kn p1 Q4d o0).2).2).2)) := by
  simp only [s_Kn, s_Kr, Resources.dec, Qal, Bool.and_assoc, Bool.and_left_comm, Bool.and_comm, Bool.and_self_left]
def c_Kr (p1 : Val) (o0 : Decoder) : En := .call 37 [.bx 0 0, .agg (Val.cells p1)] [⟨1, 0, false, (Decoder.cells o0)⟩]
def r_Kr (_p1 : Val) (_o0 : Decoder) (q0 : Resources) (q1 : Decoder) : Rs := .ret (.agg (Resources.cells q0)) [⟨1, 0, false, (Decoder.cells q1)⟩]
def a_Kr (p1 : Val) (o0 : Decoder) : Rs := r_Kr p1 o0 (s_Kr p1 o0).1 (s_Kr p1 o0).2
def H_Kr (p1 : Val) : Prop := Val.Sm 1000000000 p1
theorem Qz4 (p1 : Val) (_o0 : Decoder) (H : H_Kr p1) : (H_Kn p1) ∧ True := by
  repeat' with_reducible apply And.intro
  all_goals first | exact True.intro | exact H | exact Qag (Q2h H _)
theorem t_Kr (p1 : Val) (o0 : Decoder) (H : H_Kr p1) : Qi G (c_Kr p1 o0) (a_Kr p1 o0) := by
 unfold a_Kr
 rw [e_Kr]
 exact Qm (fn := Ir.Kr) rfl (h := [⟨1, 0, false, (Decoder.cells o0)⟩]) (vw := []) VOK.nil [] [aN (t_Kn p1 Q4d o0 (Qz4 p1 o0 H).1), aN (t_Kn p1 Q39 (s_Kn p1 Q4d o0).2 (Qz4 p1 o0 H).1), aN (t_Kn p1 Q4e (s_Kn p1 Q39 (s_Kn p1 Q4d o0).2).2 (Qz4 p1 o0 H).1)] (by kernel_rfl)
def s_Kp (p1 : Val) (o0 : Decoder) : Probe × Decoder := ((Probe.dec p1).1, ft o0 (Probe.dec p1).2)
theorem e_Kp (p1 : Val) (o0 : Decoder) : s_Kp p1 o0 = (((Probe.mk (s_Kn p1 Q2i (s_Kw p1 o0).2).1 (s_Kn p1 Q2g (s_Kn p1 Q2i (s_Kw p1 o0).2).2).1 (s_Kn p1 Q2e (s_Kn p1 Q2g (s_Kn p1 Q2i (s_Kw p1 o0).2).2).2).1 (s_Kn p1 Q2c (s_Kn p1 Q2e (s_Kn p1 Q2g (s_Kn p1 Q2i (s_Kw p1 o0).2).2).2).2).1), (s_Kn p1 Q2c (s_Kn p1 Q2e (s_Kn p1 Q2g (s_Kn p1 Q2i (s_Kw p1 o0).2).2).2).2).2)) := by
  simp only [s_Kw, s_Kn, s_Kp, Probe.dec, Qal, Bool.and_assoc, Bool.and_left_comm, Bool.and_comm, Bool.and_self_left]
def c_Kp (p1 : Val) (o0 : Decoder) : En := .call 140 [.bx 0 0, .agg (Val.cells p1)] [⟨1, 0, false, (Decoder.cells o0)⟩]
def r_Kp (_p1 : Val) (_o0 : Decoder) (q0 : Probe) (q1 : Decoder) : Rs := .ret (.agg (Probe.cells q0)) [⟨1, 0, false, (Decoder.cells q1)⟩]
def a_Kp (p1 : Val) (o0 : Decoder) : Rs := r_Kp p1 o0 (s_Kp p1 o0).1 (s_Kp p1 o0).2
def H_Kp (p1 : Val) : Prop := Val.Sm 1000000000 p1
theorem Qsa (p1 : Val) (_o0 : Decoder) (H : H_Kp p1) : (H_Kn p1) ∧ True := by
  repeat' with_reducible apply And.intro
  all_goals first | exact True.intro | exact H | exact Qag (Q2h H _)
theorem t_Kp (p1 : Val) (o0 : Decoder) (H : H_Kp p1) : Qi G (c_Kp p1 o0) (a_Kp p1 o0) := by
 unfold a_Kp
 rw [e_Kp]
 exact Qm (fn := Ir.Kp) rfl (h := [⟨1, 0, false, (Decoder.cells o0)⟩]) (vw := []) VOK.nil [] [aN (t_Kw p1 o0), aN (t_Kn p1 Q2i (s_Kw p1 o0).2 (Qsa p1 o0 H).1), aN (t_Kn p1 Q2g (s_Kn p1 Q2i (s_Kw p1 o0).2).2 (Qsa p1 o0 H).1), aN (t_Kn p1 Q2e (s_Kn p1 Q2g (s_Kn p1 Q2i (s_Kw p1 o0).2).2).2 (Qsa p1 o0 H).1), aN (t_Kn p1 Q2c (s_Kn p1 Q2e (s_Kn p1 Q2g (s_Kn p1 Q2i (s_Kw p1 o0).2).2).2).2 (Qsa p1 o0 H).1)] (by kernel_rfl)
def Q5u (p1 : Val) (p2 : BA) (o0 : Decoder) : List Val → Nat → Bool → (List Probe) → Bool × (List Probe)
 | [], _i0, v0_1, v0_2 =>
  (v0_1, v0_2)
 | x0 :: r0, i0, v0_1, v0_2 =>
  Q5u p1 p2 o0 r0 (i0 + 1) (s_Kp x0 (Decoder.mk v0_1)).2.failed (v0_2 ++ [(s_Kp x0 (Decoder.mk v0_1)).1])
def Qw2 (p1 : Val) (p2 : BA) (o0 : Decoder) (i0 : Nat) (_v0_1 : Bool) (v0_2 : List Probe) : List PV :=
  [.un, .un, .un, .fn 140 [.bx 0 0] []] ++ nuns 5 ++ [.ms 1 4 0 (List.length v0_2)] ++ nuns 6 ++ [.sl (Val.rows (s_Kj p1 p2 4 o0).1.list), .int .i64 ((List.length (s_Kj p1 p2 4 o0).1.list) : Int), .int .i64 (i0 : Int)] ++ nuns 11
def Qig (_p1 : Val) (_p2 : BA) (_o0 : Decoder) (_i0 : Nat) (v0_1 : Bool) (v0_2 : List Probe) : List Ob :=
  [⟨1, 0, false, [.bool v0_1]⟩, ⟨4, 0, true, (Probe.rows v0_2).flatten⟩]
def Qg1 (p1 : Val) (p2 : BA) (o0 : Decoder) (i0 : Nat) (v0_1 : Bool) (v0_2 : List Probe) : En := .loop 1 Ir.Qk7 Ir.Q1f3 (Qw2 p1 p2 o0 i0 v0_1 v0_2) (Qig p1 p2 o0 i0 v0_1 v0_2)
def Qq9 (_p1 : Val) (_p2 : BA) (_o0 : Decoder) (q0 : Bool) (q1 : List Probe) (z : Nat → PV) (_zo : Nat → List PV) : St :=
  ⟨zr z 0 9 ++ [.ms 1 4 0 (List.length q1)] ++ zr z 10 20, [(0, ⟨1, 0, false, [.bool q0]⟩), (1, ⟨4, 0, true, (Probe.rows q1).flatten⟩)], 66⟩
theorem Q138 (p1 : Val) (p2 : BA) (o0 : Decoder) (i0 : Nat) (v0_1 : Bool) (v0_2 : List Probe) : VOK (Go.Pv.look (number 0 (Qig p1 p2 o0 i0 v0_1 v0_2))) [(1, Probe.rows v0_2)] := (VOK.cons (show Seen _ _ from Q42 (ob := ⟨4, 0, true, (Probe.rows v0_2).flatten⟩) (Probe.Qp v0_2 4 rfl)) VOK.nil)
def Qga (p1 : Val) (p2 : BA) (o0 : Decoder) (e : En) (q : Bool × (List Probe)) : Prop := ∃ z zo, Qi G e (.st (.exit 0) (Qq9 p1 p2 o0 q.1 q.2 z zo))
theorem Qu2 (p1 : Val) (p2 : BA) (o0 : Decoder) {e e' : En} (h : ∀ r, Qi G e r → Qi G e' r) : ∀ q, Qga p1 p2 o0 e q → Qga p1 p2 o0 e' q
  | _, ⟨z, zo, hz⟩ => ⟨z, zo, h _ hz⟩
def Qbu (p1 : Val) (p2 : BA) (o0 : Decoder) : Prop := (List.length (s_Kj p1 p2 4 o0).1.list ≤ 137438953472) ∧ (∀ x0 ∈ (s_Kj p1 p2 4 o0).1.list, H_Kp x0) ∧ True
def Qrl (p1 : Val) (p2 : BA) (o0 : Decoder) (i0 : Nat) (_v0_1 : Bool) (_v0_2 : List Probe) : List PV :=
  [.un, .un, .un, .fn 140 [.bx 0 0] []] ++ nuns 12 ++ [.sl (Val.rows (s_Kj p1 p2 4 o0).1.list), .int .i64 ((List.length (s_Kj p1 p2 4 o0).1.list) : Int), .int .i64 (i0 : Int), .bool false]
def Qlf (_p1 : Val) (_p2 : BA) (_o0 : Decoder) (_i0 : Nat) (_v0_1 : Bool) (_v0_2 : List Probe) : List (Nat × List PV) :=
  []
theorem Q17y (p1 : Val) (p2 : BA) (o0 : Decoder) (_H : Qbu p1 p2 o0) (i0 : Nat) (v0_1 : Bool) (v0_2 : List Probe) (_ho0_0 : List.length v0_2 ≤ i0) (hc0 : (decide ((i0 : Int) < ((List.length (s_Kj p1 p2 4 o0).1.list) : Int))) = false) : Qga p1 p2 o0 (Qg1 p1 p2 o0 i0 v0_1 v0_2) (v0_1, v0_2) := by
 exact ⟨(envF (Qrl p1 p2 o0 i0 v0_1 v0_2)), (zoF (Qlf p1 p2 o0 i0 v0_1 v0_2)), Q10 (Q138 p1 p2 o0 i0 v0_1 v0_2) (x := ((.exit 0), Qq9 p1 p2 o0 v0_1 v0_2 (envF (Qrl p1 p2 o0 i0 v0_1 v0_2)) (zoF (Qlf p1 p2 o0 i0 v0_1 v0_2)))) [hB 0 hc0] [] (by kernel_rfl)⟩
theorem Q15b (p1 : Val) (p2 : BA) (o0 : Decoder) (H : Qbu p1 p2 o0) (x0 : Val) (i0 : Nat) (v0_1 : Bool) (v0_2 : List Probe) (hx0 : (s_Kj p1 p2 4 o0).1.list[i0]? = some x0) (hi0 : i0 < List.length (s_Kj p1 p2 4 o0).1.list) (ho0_0 : List.length v0_2 ≤ i0) (hc0 : (decide ((i0 : Int) < ((List.length (s_Kj p1 p2 4 o0).1.list) : Int))) = true) {r : Rs} (hr : Qi G (Qg1 p1 p2 o0 (i0 + 1) (s_Kp x0 (Decoder.mk v0_1)).2.failed (v0_2 ++ [(s_Kp x0 (Decoder.mk v0_1)).1])) r) : Qi G (Qg1 p1 p2 o0 i0 v0_1 v0_2) r := by
 have hB0 := H.1
 exact Qw (Q138 p1 p2 o0 i0 v0_1 v0_2) (y := (Qw2 p1 p2 o0 (i0 + 1) (s_Kp x0 (Decoder.mk v0_1)).2.failed (v0_2 ++ [(s_Kp x0 (Decoder.mk v0_1)).1]), Qig p1 p2 o0 (i0 + 1) (s_Kp x0 (Decoder.mk v0_1)).2.failed (v0_2 ++ [(s_Kp x0 (Decoder.mk v0_1)).1]))) [hB 0 hc0, hP 0 (Q15 5 (Val.rows (s_Kj p1 p2 4 o0).1.list) i0 _ (Val.Qe hx0) rfl), hV 8 [(642, Probe.rows (v0_2 ++ [(s_Kp x0 (Decoder.mk v0_1)).1]))] (Q3g 1 578 642 4 32 0 0 true (Probe.rows v0_2) (Probe.rows (v0_2 ++ [(s_Kp x0 (Decoder.mk v0_1)).1])) (Probe.cells (s_Kp x0 (Decoder.mk v0_1)).1) (List.length v0_2) (List.length (v0_2 ++ [(s_Kp x0 (Decoder.mk v0_1)).1])) rfl (Probe.Q9 v0_2).symm (Probe.Q9 (v0_2 ++ [(s_Kp x0 (Decoder.mk v0_1)).1])).symm (Probe.Q1n v0_2 (s_Kp x0 (Decoder.mk v0_1)).1) (Probe.Q16 v0_2) rfl (by omega)), hS 0 true (Probe.Qp (v0_2 ++ [(s_Kp x0 (Decoder.mk v0_1)).1]) 4 rfl), hP 1 (Q25 i0 (by omega))] [aN (t_Kp x0 (Decoder.mk v0_1) (H.2.1 x0 (Q13 hx0)))] (by kernel_rfl) hr
theorem Qw0 (p1 : Val) (p2 : BA) (o0 : Decoder) (H : Qbu p1 p2 o0) : ∀ (r0 : List Val) (i0 : Nat) (v0_1 : Bool) (v0_2 : List Probe), List.drop i0 (s_Kj p1 p2 4 o0).1.list = r0 → List.length v0_2 ≤ i0 → Qga p1 p2 o0 (Qg1 p1 p2 o0 i0 v0_1 v0_2) (Q5u p1 p2 o0 r0 i0 v0_1 v0_2)
 | [], i0, v0_1, v0_2, hd, ho0_0 => by
  have hc0 : (decide ((i0 : Int) < ((List.length (s_Kj p1 p2 4 o0).1.list) : Int))) = false := by have := Q1v hd; simp; omega
  rw [Q5u]
  exact Q17y p1 p2 o0 H i0 v0_1 v0_2 ho0_0 hc0
 | x0 :: r0, i0, v0_1, v0_2, hd, ho0_0 => by
  obtain ⟨hx0, hi0, hd'⟩ := Q1s hd
  have hc0 : (decide ((i0 : Int) < ((List.length (s_Kj p1 p2 4 o0).1.list) : Int))) = true := by simp; omega
  rw [Q5u]
  exact Qu2 p1 p2 o0 (fun r hr => Q15b p1 p2 o0 H x0 i0 v0_1 v0_2 hx0 hi0 ho0_0 hc0 hr) _ (Qw0 p1 p2 o0 H r0 (i0 + 1) (s_Kp x0 (Decoder.mk v0_1)).2.failed (v0_2 ++ [(s_Kp x0 (Decoder.mk v0_1)).1]) hd' (by first | omega | (simp; omega)))
def Q95 (p1 : Val) (p2 : BA) (o0 : Decoder) : List Probe × Decoder := ((dE Probe.dec p1 p2).1, ft o0 (isM p1 && (dE Probe.dec p1 p2).2))
theorem Q12g (p1 : Val) (p2 : BA) (o0 : Decoder) : ∀ (l : List Val) (i : Nat) (b : Bool) (a : List Probe), Q5u p1 p2 o0 l i b a = (b || !(l.all fun x => (Probe.dec x).2), a ++ l.map (fun x => (Probe.dec x).1))
  | [], _, b, a => by rw [Q5u]; simp
  | x :: l, i, b, a => by
    rw [Q5u]
    refine (Q12g p1 p2 o0 l (i + 1) (b || !(Probe.dec x).2) (a ++ [(Probe.dec x).1])).trans ?_
    simp only [List.append_assoc, List.singleton_append, List.map_cons, List.all_cons, Bool.not_and, Bool.or_assoc]
theorem Q1mh (p1 : Val) (p2 : BA) (o0 : Decoder) : Q95 p1 p2 o0 = (((Q5u p1 p2 o0 (s_Kj p1 p2 4 o0).1.list 0 (s_Kj p1 p2 4 o0).2.failed []).2, (Decoder.mk (Q5u p1 p2 o0 (s_Kj p1 p2 4 o0).1.list 0 (s_Kj p1 p2 4 o0).2.failed []).1))) := by
  rw [Q12g]
  unfold s_Kj Q95
  simp only [getL, Q3t]
  refine Prod.ext rfl ?_
  rw [Q6f o0.failed (isM p1) _ _ _ (Qeq (prt p1 p2)), Q46]
  rfl
def Q1mx (p1 : Val) (p2 : BA) (o0 : Decoder) : En := .call 139 [.bx 0 0, .agg (Val.cells p1), .str p2, .fn 140 [.bx 0 0] []] [⟨1, 0, false, (Decoder.cells o0)⟩]
def Q1pu (_p1 : Val) (_p2 : BA) (_o0 : Decoder) (q0 : List Probe) (q1 : Decoder) : Rs := .ret (.sl (Probe.rows q0)) [⟨1, 0, false, (Decoder.cells q1)⟩]
def Q1ki (p1 : Val) (p2 : BA) (o0 : Decoder) : Rs := Q1pu p1 p2 o0 (Q95 p1 p2 o0).1 (Q95 p1 p2 o0).2
def Q1fo (p1 : Val) : Prop := Val.Sm 1000000000 p1
theorem Q10o (p1 : Val) (p2 : BA) (o0 : Decoder) (H : Q1fo p1) : (H_Kj p1) ∧ (Qbu p1 p2 o0) ∧ True := by
  have hl := Q6h (Q2h H p2)
  refine ⟨H, ?_, trivial⟩
  unfold Qbu s_Kj
  simp only [getL]
  exact ⟨Nat.le_trans hl.1 (Nat.le_of_ble_eq_true rfl), hl.2, trivial⟩
theorem Q1fe (p1 : Val) (p2 : BA) (o0 : Decoder) (H : Q1fo p1) : Qi G (Q1mx p1 p2 o0) (Q1ki p1 p2 o0) := by
 unfold Q1ki
 rw [Q1mh]
 have hl0 := Qw0 p1 p2 o0 ((Q10o p1 p2 o0 H).2.1) (s_Kj p1 p2 4 o0).1.list 0 (s_Kj p1 p2 4 o0).2.failed [] (by simp) (by simp)
 obtain ⟨z0, zo0, hl0⟩ := hl0
 exact Qm (fn := Ir.K12) rfl (h := [⟨1, 0, false, (Decoder.cells o0)⟩]) (vw := []) VOK.nil [hP 8 (Qz (Val.rows (s_Kj p1 p2 4 o0).1.list) (List.length (s_Kj p1 p2 4 o0).1.list) (Val.Q9 (s_Kj p1 p2 4 o0).1.list)), hS 0 true (Probe.Qp (Q5u p1 p2 o0 (s_Kj p1 p2 4 o0).1.list 0 (s_Kj p1 p2 4 o0).2.failed []).2 4 rfl), hQ (Probe.Q9 (Q5u p1 p2 o0 (s_Kj p1 p2 4 o0).1.list 0 (s_Kj p1 p2 4 o0).2.failed []).2).symm] [aN (t_Kj p1 p2 4 o0 (Q10o p1 p2 o0 H).1), aV [(1, Probe.rows (Q5u p1 p2 o0 (s_Kj p1 p2 4 o0).1.list 0 (s_Kj p1 p2 4 o0).2.failed []).2)] hl0] (by kernel_rfl)
def s_Kg (p1 : Val) (o0 : Decoder) : Container × Decoder := ((Container.dec p1).1, ft o0 (Container.dec p1).2)
abbrev M0 (o0 : Decoder) (p1 : Val) := (s_Kx p1 Q1r (s_Kr (s_Kx p1 Q19 (s_Kv p1 Q1m (s_Kv p1 Qf (s_Kw p1 o0).2).2).2).1 (s_Kx p1 Q19 (s_Kv p1 Q1m (s_Kv p1 Qf (s_Kw p1 o0).2).2).2).2).2)
theorem e_Kg (p1 : Val) (o0 : Decoder) : s_Kg p1 o0 = (((Container.mk (s_Kv p1 Qf (s_Kw p1 o0).2).1 (s_Kv p1 Q1m (s_Kv p1 Qf (s_Kw p1 o0).2).2).1 (s_Kr (s_Kx p1 Q19 (s_Kv p1 Q1m (s_Kv p1 Qf (s_Kw p1 o0).2).2).2).1 (s_Kx p1 Q19 (s_Kv p1 Q1m (s_Kv p1 Qf (s_Kw p1 o0).2).2).2).2).1 (s_Kr (M0 o0 p1).1 (M0 o0 p1).2).1 (Q95 p1 Q1z (s_Kr (M0 o0 p1).1 (M0 o0 p1).2).2).1 (Q95 p1 Qa (Q95 p1 Q1z (s_Kr (M0 o0 p1).1 (M0 o0 p1).2).2).2).1 (Q95 p1 Q1g (Q95 p1 Qa (Q95 p1 Q1z (s_Kr (M0 o0 p1).1 (M0 o0 p1).2).2).2).2).1), (Q95 p1 Q1g (Q95 p1 Qa (Q95 p1 Q1z (s_Kr (M0 o0 p1).1 (M0 o0 p1).2).2).2).2).2)) := by
  simp only [s_Kw, s_Kv, s_Kx, s_Kr, Q95, s_Kg, Container.dec, Resources.sub1, Resources.sub2, Qal, Bool.and_assoc, Bool.and_left_comm, Bool.and_comm, Bool.and_self_left]
def c_Kg (p1 : Val) (o0 : Decoder) : En := .call 86 [.bx 0 0, .agg (Val.cells p1)] [⟨1, 0, false, (Decoder.cells o0)⟩]
def r_Kg (_p1 : Val) (_o0 : Decoder) (q0 : Container) (q1 : Decoder) : Rs := .ret (.agg (Container.cells q0)) [⟨1, 0, false, (Decoder.cells q1)⟩]
def a_Kg (p1 : Val) (o0 : Decoder) : Rs := r_Kg p1 o0 (s_Kg p1 o0).1 (s_Kg p1 o0).2
def H_Kg (p1 : Val) : Prop := Val.Sm 1000000000 p1
theorem Q8i (p1 : Val) (o0 : Decoder) (H : H_Kg p1) : (H_Kv p1) ∧ (H_Kx p1) ∧ (H_Kr (s_Kx p1 Q19 (s_Kv p1 Q1m (s_Kv p1 Qf (s_Kw p1 o0).2).2).2).1) ∧ (H_Kr (M0 o0 p1).1) ∧ (Q1fo p1) ∧ True := by
  repeat' with_reducible apply And.intro
  all_goals first | exact True.intro | exact H | exact Qag (Q2h H _)
theorem t_Kg (p1 : Val) (o0 : Decoder) (H : H_Kg p1) : Qi G (c_Kg p1 o0) (a_Kg p1 o0) := by
 unfold a_Kg
 rw [e_Kg]
 exact Qm (fn := Ir.Kg) rfl (h := [⟨1, 0, false, (Decoder.cells o0)⟩]) (vw := []) VOK.nil [] [aN (t_Kw p1 o0), aN (t_Kv p1 Qf (s_Kw p1 o0).2 (Q8i p1 o0 H).1), aN (t_Kv p1 Q1m (s_Kv p1 Qf (s_Kw p1 o0).2).2 (Q8i p1 o0 H).1), aN (t_Kx p1 Q19 (s_Kv p1 Q1m (s_Kv p1 Qf (s_Kw p1 o0).2).2).2 (Q8i p1 o0 H).2.1), aN (t_Kr (s_Kx p1 Q19 (s_Kv p1 Q1m (s_Kv p1 Qf (s_Kw p1 o0).2).2).2).1 (s_Kx p1 Q19 (s_Kv p1 Q1m (s_Kv p1 Qf (s_Kw p1 o0).2).2).2).2 (Q8i p1 o0 H).2.2.1), aN (t_Kx p1 Q1r (s_Kr (s_Kx p1 Q19 (s_Kv p1 Q1m (s_Kv p1 Qf (s_Kw p1 o0).2).2).2).1 (s_Kx p1 Q19 (s_Kv p1 Q1m (s_Kv p1 Qf (s_Kw p1 o0).2).2).2).2).2 (Q8i p1 o0 H).2.1), aN (t_Kr (M0 o0 p1).1 (M0 o0 p1).2 (Q8i p1 o0 H).2.2.2.1), aN (Q1fe p1 Q1z (s_Kr (M0 o0 p1).1 (M0 o0 p1).2).2 (Q8i p1 o0 H).2.2.2.2.1), aN (Q1fe p1 Qa (Q95 p1 Q1z (s_Kr (M0 o0 p1).1 (M0 o0 p1).2).2).2 (Q8i p1 o0 H).2.2.2.2.1), aN (Q1fe p1 Q1g (Q95 p1 Qa (Q95 p1 Q1z (s_Kr (M0 o0 p1).1 (M0 o0 p1).2).2).2).2 (Q8i p1 o0 H).2.2.2.2.1)] (by kernel_rfl)
def Q5d (p1 : Val) (p2 : BA) (o0 : Decoder) : List Val → Nat → Bool → (List Container) → Bool × (List Container)
 | [], _i0, v0_1, v0_2 =>
  (v0_1, v0_2)
 | x0 :: r0, i0, v0_1, v0_2 =>
  Q5d p1 p2 o0 r0 (i0 + 1) (s_Kg x0 (Decoder.mk v0_1)).2.failed (v0_2 ++ [(s_Kg x0 (Decoder.mk v0_1)).1])
def Quu (p1 : Val) (p2 : BA) (o0 : Decoder) (i0 : Nat) (_v0_1 : Bool) (v0_2 : List Container) : List PV :=
  [.un, .un, .un, .fn 86 [.bx 0 0] []] ++ nuns 5 ++ [.ms 1 11 0 (List.length v0_2)] ++ nuns 6 ++ [.sl (Val.rows (s_Kj p1 p2 4 o0).1.list), .int .i64 ((List.length (s_Kj p1 p2 4 o0).1.list) : Int), .int .i64 (i0 : Int)] ++ nuns 11
def Qmj (_p1 : Val) (_p2 : BA) (_o0 : Decoder) (_i0 : Nat) (v0_1 : Bool) (v0_2 : List Container) : List Ob :=
  [⟨1, 0, false, [.bool v0_1]⟩, ⟨11, 0, true, (Container.rows v0_2).flatten⟩]
def Qf0 (p1 : Val) (p2 : BA) (o0 : Decoder) (i0 : Nat) (v0_1 : Bool) (v0_2 : List Container) : En := .loop 1 Ir.Ql8 Ir.Q1ew (Quu p1 p2 o0 i0 v0_1 v0_2) (Qmj p1 p2 o0 i0 v0_1 v0_2)
def Qoy (_p1 : Val) (_p2 : BA) (_o0 : Decoder) (q0 : Bool) (q1 : List Container) (z : Nat → PV) (_zo : Nat → List PV) : St :=
  ⟨zr z 0 9 ++ [.ms 1 11 0 (List.length q1)] ++ zr z 10 20, [(0, ⟨1, 0, false, [.bool q0]⟩), (1, ⟨11, 0, true, (Container.rows q1).flatten⟩)], 66⟩
theorem Q12y (p1 : Val) (p2 : BA) (o0 : Decoder) (i0 : Nat) (v0_1 : Bool) (v0_2 : List Container) : VOK (Go.Pv.look (number 0 (Qmj p1 p2 o0 i0 v0_1 v0_2))) [(1, Container.rows v0_2)] := (VOK.cons (show Seen _ _ from Q42 (ob := ⟨11, 0, true, (Container.rows v0_2).flatten⟩) (Container.Qp v0_2 11 rfl)) VOK.nil)
def Qfo (p1 : Val) (p2 : BA) (o0 : Decoder) (e : En) (q : Bool × (List Container)) : Prop := ∃ z zo, Qi G e (.st (.exit 0) (Qoy p1 p2 o0 q.1 q.2 z zo))
theorem Qso (p1 : Val) (p2 : BA) (o0 : Decoder) {e e' : En} (h : ∀ r, Qi G e r → Qi G e' r) : ∀ q, Qfo p1 p2 o0 e q → Qfo p1 p2 o0 e' q
  | _, ⟨z, zo, hz⟩ => ⟨z, zo, h _ hz⟩
def Qbm (p1 : Val) (p2 : BA) (o0 : Decoder) : Prop := (List.length (s_Kj p1 p2 4 o0).1.list ≤ 137438953472) ∧ (∀ x0 ∈ (s_Kj p1 p2 4 o0).1.list, H_Kg x0) ∧ True
def Qob (p1 : Val) (p2 : BA) (o0 : Decoder) (i0 : Nat) (_v0_1 : Bool) (_v0_2 : List Container) : List PV :=
  [.un, .un, .un, .fn 86 [.bx 0 0] []] ++ nuns 12 ++ [.sl (Val.rows (s_Kj p1 p2 4 o0).1.list), .int .i64 ((List.length (s_Kj p1 p2 4 o0).1.list) : Int), .int .i64 (i0 : Int), .bool false]
def Qlx (_p1 : Val) (_p2 : BA) (_o0 : Decoder) (_i0 : Nat) (_v0_1 : Bool) (_v0_2 : List Container) : List (Nat × List PV) :=
  []
theorem Q14p (p1 : Val) (p2 : BA) (o0 : Decoder) (_H : Qbm p1 p2 o0) (i0 : Nat) (v0_1 : Bool) (v0_2 : List Container) (_ho0_0 : List.length v0_2 ≤ i0) (hc0 : (decide ((i0 : Int) < ((List.length (s_Kj p1 p2 4 o0).1.list) : Int))) = false) : Qfo p1 p2 o0 (Qf0 p1 p2 o0 i0 v0_1 v0_2) (v0_1, v0_2) := by
 exact ⟨(envF (Qob p1 p2 o0 i0 v0_1 v0_2)), (zoF (Qlx p1 p2 o0 i0 v0_1 v0_2)), Q10 (Q12y p1 p2 o0 i0 v0_1 v0_2) (x := ((.exit 0), Qoy p1 p2 o0 v0_1 v0_2 (envF (Qob p1 p2 o0 i0 v0_1 v0_2)) (zoF (Qlx p1 p2 o0 i0 v0_1 v0_2)))) [hB 0 hc0] [] (by kernel_rfl)⟩
theorem Q164 (p1 : Val) (p2 : BA) (o0 : Decoder) (H : Qbm p1 p2 o0) (x0 : Val) (i0 : Nat) (v0_1 : Bool) (v0_2 : List Container) (hx0 : (s_Kj p1 p2 4 o0).1.list[i0]? = some x0) (hi0 : i0 < List.length (s_Kj p1 p2 4 o0).1.list) (ho0_0 : List.length v0_2 ≤ i0) (hc0 : (decide ((i0 : Int) < ((List.length (s_Kj p1 p2 4 o0).1.list) : Int))) = true) {r : Rs} (hr : Qi G (Qf0 p1 p2 o0 (i0 + 1) (s_Kg x0 (Decoder.mk v0_1)).2.failed (v0_2 ++ [(s_Kg x0 (Decoder.mk v0_1)).1])) r) : Qi G (Qf0 p1 p2 o0 i0 v0_1 v0_2) r := by
 have hB0 := H.1
 exact Qw (Q12y p1 p2 o0 i0 v0_1 v0_2) (y := (Quu p1 p2 o0 (i0 + 1) (s_Kg x0 (Decoder.mk v0_1)).2.failed (v0_2 ++ [(s_Kg x0 (Decoder.mk v0_1)).1]), Qmj p1 p2 o0 (i0 + 1) (s_Kg x0 (Decoder.mk v0_1)).2.failed (v0_2 ++ [(s_Kg x0 (Decoder.mk v0_1)).1]))) [hB 0 hc0, hP 0 (Q15 5 (Val.rows (s_Kj p1 p2 4 o0).1.list) i0 _ (Val.Qe hx0) rfl), hV 8 [(642, Container.rows (v0_2 ++ [(s_Kg x0 (Decoder.mk v0_1)).1]))] (Q3g 1 578 642 11 152 0 0 true (Container.rows v0_2) (Container.rows (v0_2 ++ [(s_Kg x0 (Decoder.mk v0_1)).1])) (Container.cells (s_Kg x0 (Decoder.mk v0_1)).1) (List.length v0_2) (List.length (v0_2 ++ [(s_Kg x0 (Decoder.mk v0_1)).1])) rfl (Container.Q9 v0_2).symm (Container.Q9 (v0_2 ++ [(s_Kg x0 (Decoder.mk v0_1)).1])).symm (Container.Q1n v0_2 (s_Kg x0 (Decoder.mk v0_1)).1) (Container.Q16 v0_2) rfl (by omega)), hS 0 true (Container.Qp (v0_2 ++ [(s_Kg x0 (Decoder.mk v0_1)).1]) 11 rfl), hP 1 (Q25 i0 (by omega))] [aN (t_Kg x0 (Decoder.mk v0_1) (H.2.1 x0 (Q13 hx0)))] (by kernel_rfl) hr
theorem Qyo (p1 : Val) (p2 : BA) (o0 : Decoder) (H : Qbm p1 p2 o0) : ∀ (r0 : List Val) (i0 : Nat) (v0_1 : Bool) (v0_2 : List Container), List.drop i0 (s_Kj p1 p2 4 o0).1.list = r0 → List.length v0_2 ≤ i0 → Qfo p1 p2 o0 (Qf0 p1 p2 o0 i0 v0_1 v0_2) (Q5d p1 p2 o0 r0 i0 v0_1 v0_2)
 | [], i0, v0_1, v0_2, hd, ho0_0 => by
  have hc0 : (decide ((i0 : Int) < ((List.length (s_Kj p1 p2 4 o0).1.list) : Int))) = false := by have := Q1v hd; simp; omega
  rw [Q5d]
  exact Q14p p1 p2 o0 H i0 v0_1 v0_2 ho0_0 hc0
 | x0 :: r0, i0, v0_1, v0_2, hd, ho0_0 => by
  obtain ⟨hx0, hi0, hd'⟩ := Q1s hd
  have hc0 : (decide ((i0 : Int) < ((List.length (s_Kj p1 p2 4 o0).1.list) : Int))) = true := by simp; omega
  rw [Q5d]
  exact Qso p1 p2 o0 (fun r hr => Q164 p1 p2 o0 H x0 i0 v0_1 v0_2 hx0 hi0 ho0_0 hc0 hr) _ (Qyo p1 p2 o0 H r0 (i0 + 1) (s_Kg x0 (Decoder.mk v0_1)).2.failed (v0_2 ++ [(s_Kg x0 (Decoder.mk v0_1)).1]) hd' (by first | omega | (simp; omega)))
def Q16t (p1 : Val) (p2 : BA) (o0 : Decoder) : List Container × Decoder := ((dE Container.dec p1 p2).1, ft o0 (isM p1 && (dE Container.dec p1 p2).2))
theorem Q11c (p1 : Val) (p2 : BA) (o0 : Decoder) : ∀ (l : List Val) (i : Nat) (b : Bool) (a : List Container), Q5d p1 p2 o0 l i b a = (b || !(l.all fun x => (Container.dec x).2), a ++ l.map (fun x => (Container.dec x).1))
  | [], _, b, a => by rw [Q5d]; simp
  | x :: l, i, b, a => by
    rw [Q5d]
    refine (Q11c p1 p2 o0 l (i + 1) (b || !(Container.dec x).2) (a ++ [(Container.dec x).1])).trans ?_
    simp only [List.append_assoc, List.singleton_append, List.map_cons, List.all_cons, Bool.not_and, Bool.or_assoc]
theorem Q1ms (p1 : Val) (p2 : BA) (o0 : Decoder) : Q16t p1 p2 o0 = (((Q5d p1 p2 o0 (s_Kj p1 p2 4 o0).1.list 0 (s_Kj p1 p2 4 o0).2.failed []).2, (Decoder.mk (Q5d p1 p2 o0 (s_Kj p1 p2 4 o0).1.list 0 (s_Kj p1 p2 4 o0).2.failed []).1))) := by
  rw [Q11c]
  unfold s_Kj Q16t
  simp only [getL, Q3t]
  refine Prod.ext rfl ?_
  rw [Q6f o0.failed (isM p1) _ _ _ (Qeq (prt p1 p2)), Q46]
  rfl
def Q1tg (p1 : Val) (p2 : BA) (o0 : Decoder) : En := .call 85 [.bx 0 0, .agg (Val.cells p1), .str p2, .fn 86 [.bx 0 0] []] [⟨1, 0, false, (Decoder.cells o0)⟩]
def Q1oh (_p1 : Val) (_p2 : BA) (_o0 : Decoder) (q0 : List Container) (q1 : Decoder) : Rs := .ret (.sl (Container.rows q0)) [⟨1, 0, false, (Decoder.cells q1)⟩]
def Q1it (p1 : Val) (p2 : BA) (o0 : Decoder) : Rs := Q1oh p1 p2 o0 (Q16t p1 p2 o0).1 (Q16t p1 p2 o0).2
def Q1ha (p1 : Val) : Prop := Val.Sm 1000000000 p1
theorem Q11p (p1 : Val) (p2 : BA) (o0 : Decoder) (H : Q1ha p1) : (H_Kj p1) ∧ (Qbm p1 p2 o0) ∧ True := by
  have hl := Q6h (Q2h H p2)
  refine ⟨H, ?_, trivial⟩
  unfold Qbm s_Kj
  simp only [getL]
  exact ⟨Nat.le_trans hl.1 (Nat.le_of_ble_eq_true rfl), hl.2, trivial⟩
theorem Q1oc (p1 : Val) (p2 : BA) (o0 : Decoder) (H : Q1ha p1) : Qi G (Q1tg p1 p2 o0) (Q1it p1 p2 o0) := by
 unfold Q1it
 rw [Q1ms]
 have hl0 := Qyo p1 p2 o0 ((Q11p p1 p2 o0 H).2.1) (s_Kj p1 p2 4 o0).1.list 0 (s_Kj p1 p2 4 o0).2.failed [] (by simp) (by simp)
 obtain ⟨z0, zo0, hl0⟩ := hl0
 exact Qm (fn := Ir.K16) rfl (h := [⟨1, 0, false, (Decoder.cells o0)⟩]) (vw := []) VOK.nil [hP 8 (Qz (Val.rows (s_Kj p1 p2 4 o0).1.list) (List.length (s_Kj p1 p2 4 o0).1.list) (Val.Q9 (s_Kj p1 p2 4 o0).1.list)), hS 0 true (Container.Qp (Q5d p1 p2 o0 (s_Kj p1 p2 4 o0).1.list 0 (s_Kj p1 p2 4 o0).2.failed []).2 11 rfl), hQ (Container.Q9 (Q5d p1 p2 o0 (s_Kj p1 p2 4 o0).1.list 0 (s_Kj p1 p2 4 o0).2.failed []).2).symm] [aN (t_Kj p1 p2 4 o0 (Q11p p1 p2 o0 H).1), aV [(1, Container.rows (Q5d p1 p2 o0 (s_Kj p1 p2 4 o0).1.list 0 (s_Kj p1 p2 4 o0).2.failed []).2)] hl0] (by kernel_rfl)
def s_Kz (p1 : Val) (o0 : Decoder) : ByteArray × Decoder := ((xS p1).1, ft o0 (xS p1).2)
theorem e_Kz (p1 : Val) (o0 : Decoder) : s_Kz p1 o0 = (bif o0.failed then
    bif (p1.kind == 3) then
      (p1.s, (Decoder.mk true))
    else
      (eB, (Decoder.mk true))
  else
    bif (p1.kind == 3) then
      (p1.s, (Decoder.mk false))
    else
      (eB, (Decoder.mk (!(p1.kind == 0))))) := by
  obtain ⟨b⟩ := o0
  unfold s_Kz ft xS
  cases b <;> cases (p1.kind == 3) <;> cases (p1.kind == 0) <;> rfl
def c_Kz (p1 : Val) (o0 : Decoder) : En := .call 142 [.bx 0 0, .agg (Val.cells p1)] [⟨1, 0, false, (Decoder.cells o0)⟩]
def r_Kz (_p1 : Val) (_o0 : Decoder) (q0 : BA) (q1 : Decoder) : Rs := .ret (.str q0) [⟨1, 0, false, (Decoder.cells q1)⟩]
def a_Kz (p1 : Val) (o0 : Decoder) : Rs := r_Kz p1 o0 (s_Kz p1 o0).1 (s_Kz p1 o0).2
theorem t_Kz (p1 : Val) (o0 : Decoder) : Qi G (c_Kz p1 o0) (a_Kz p1 o0) := by
 unfold a_Kz
 rw [e_Kz]
 cases h0 : o0.failed with
 | true =>
  cases h1 : (p1.kind == 3) with
  | true =>
   exact Qm (fn := Ir.Kz) rfl (h := [⟨1, 0, false, (Decoder.cells o0)⟩]) (vw := []) VOK.nil [hP 6 (decR o0.failed true [0] h0), hP 15 (dec (!(p1.kind == 3)) false (by rw [h1]; rfl))] [] (by kernel_rfl)
  | false =>
   exact Qm (fn := Ir.Kz) rfl (h := [⟨1, 0, false, (Decoder.cells o0)⟩]) (vw := []) VOK.nil [hP 6 (decR o0.failed true [0] h0), hP 15 (dec (!(p1.kind == 3)) true (by rw [h1]; rfl))] [] (by kernel_rfl)
 | false =>
  cases h1 : (p1.kind == 3) with
  | true =>
   exact Qm (fn := Ir.Kz) rfl (h := [⟨1, 0, false, (Decoder.cells o0)⟩]) (vw := []) VOK.nil [hP 6 (decR o0.failed false [0] h0), hP 3 (dec (!(p1.kind == 3)) false (by rw [h1]; rfl)), hP 11 (dec (!(p1.kind == 3)) false (by rw [h1]; rfl))] [] (by kernel_rfl)
  | false =>
   exact Qm (fn := Ir.Kz) rfl (h := [⟨1, 0, false, (Decoder.cells o0)⟩]) (vw := []) VOK.nil [hP 6 (decR o0.failed false [0] h0), hP 3 (dec (!(p1.kind == 3)) true (by rw [h1]; rfl)), hP 11 (dec (!(p1.kind == 3)) true (by rw [h1]; rfl))] [] (by kernel_rfl)
def Q54 (p1 : Val) (p2 : BA) (o0 : Decoder) : List Val → Nat → Bool → (List ByteArray) → Bool × (List ByteArray)
 | [], _i0, v0_1, v0_2 =>
  (v0_1, v0_2)
 | x0 :: r0, i0, v0_1, v0_2 =>
  Q54 p1 p2 o0 r0 (i0 + 1) (s_Kz x0 (Decoder.mk v0_1)).2.failed (v0_2 ++ [(s_Kz x0 (Decoder.mk v0_1)).1])
def Qxn (p1 : Val) (p2 : BA) (o0 : Decoder) (i0 : Nat) (_v0_1 : Bool) (v0_2 : List ByteArray) : List PV :=
  [.un, .un, .un, .fn 142 [.bx 0 0] []] ++ nuns 5 ++ [.ms 1 1 0 (List.length v0_2)] ++ nuns 6 ++ [.sl (Val.rows (s_Kj p1 p2 4 o0).1.list), .int .i64 ((List.length (s_Kj p1 p2 4 o0).1.list) : Int), .int .i64 (i0 : Int)] ++ nuns 11
def Qhh (_p1 : Val) (_p2 : BA) (_o0 : Decoder) (_i0 : Nat) (v0_1 : Bool) (v0_2 : List ByteArray) : List Ob :=
  [⟨1, 0, false, [.bool v0_1]⟩, ⟨1, 0, true, (Qv v0_2).flatten⟩]
def Qg5 (p1 : Val) (p2 : BA) (o0 : Decoder) (i0 : Nat) (v0_1 : Bool) (v0_2 : List ByteArray) : En := .loop 1 Ir.Qmp Ir.Q1eu (Qxn p1 p2 o0 i0 v0_1 v0_2) (Qhh p1 p2 o0 i0 v0_1 v0_2)
def Qpu (_p1 : Val) (_p2 : BA) (_o0 : Decoder) (q0 : Bool) (q1 : List ByteArray) (z : Nat → PV) (_zo : Nat → List PV) : St :=
  ⟨zr z 0 9 ++ [.ms 1 1 0 (List.length q1)] ++ zr z 10 20, [(0, ⟨1, 0, false, [.bool q0]⟩), (1, ⟨1, 0, true, (Qv q1).flatten⟩)], 66⟩
theorem Q14a (p1 : Val) (p2 : BA) (o0 : Decoder) (i0 : Nat) (v0_1 : Bool) (v0_2 : List ByteArray) : VOK (Go.Pv.look (number 0 (Qhh p1 p2 o0 i0 v0_1 v0_2))) [(1, Qv v0_2)] := (VOK.cons (show Seen _ _ from Q42 (ob := ⟨1, 0, true, (Qv v0_2).flatten⟩) (Q2w v0_2 1 rfl)) VOK.nil)
def Qes (p1 : Val) (p2 : BA) (o0 : Decoder) (e : En) (q : Bool × (List ByteArray)) : Prop := ∃ z zo, Qi G e (.st (.exit 0) (Qpu p1 p2 o0 q.1 q.2 z zo))
theorem Qtz (p1 : Val) (p2 : BA) (o0 : Decoder) {e e' : En} (h : ∀ r, Qi G e r → Qi G e' r) : ∀ q, Qes p1 p2 o0 e q → Qes p1 p2 o0 e' q
  | _, ⟨z, zo, hz⟩ => ⟨z, zo, h _ hz⟩
def Qcg (p1 : Val) (p2 : BA) (o0 : Decoder) : Prop := (List.length (s_Kj p1 p2 4 o0).1.list ≤ 137438953472) ∧ True
def Qrt (p1 : Val) (p2 : BA) (o0 : Decoder) (i0 : Nat) (_v0_1 : Bool) (_v0_2 : List ByteArray) : List PV :=
  [.un, .un, .un, .fn 142 [.bx 0 0] []] ++ nuns 12 ++ [.sl (Val.rows (s_Kj p1 p2 4 o0).1.list), .int .i64 ((List.length (s_Kj p1 p2 4 o0).1.list) : Int), .int .i64 (i0 : Int), .bool false]
def Qjv (_p1 : Val) (_p2 : BA) (_o0 : Decoder) (_i0 : Nat) (_v0_1 : Bool) (_v0_2 : List ByteArray) : List (Nat × List PV) :=
  []
theorem Q18c (p1 : Val) (p2 : BA) (o0 : Decoder) (_H : Qcg p1 p2 o0) (i0 : Nat) (v0_1 : Bool) (v0_2 : List ByteArray) (_ho0_0 : List.length v0_2 ≤ i0) (hc0 : (decide ((i0 : Int) < ((List.length (s_Kj p1 p2 4 o0).1.list) : Int))) = false) : Qes p1 p2 o0 (Qg5 p1 p2 o0 i0 v0_1 v0_2) (v0_1, v0_2) := by
 exact ⟨(envF (Qrt p1 p2 o0 i0 v0_1 v0_2)), (zoF (Qjv p1 p2 o0 i0 v0_1 v0_2)), Q10 (Q14a p1 p2 o0 i0 v0_1 v0_2) (x := ((.exit 0), Qpu p1 p2 o0 v0_1 v0_2 (envF (Qrt p1 p2 o0 i0 v0_1 v0_2)) (zoF (Qjv p1 p2 o0 i0 v0_1 v0_2)))) [hB 0 hc0] [] (by kernel_rfl)⟩
theorem Q14h (p1 : Val) (p2 : BA) (o0 : Decoder) (H : Qcg p1 p2 o0) (x0 : Val) (i0 : Nat) (v0_1 : Bool) (v0_2 : List ByteArray) (hx0 : (s_Kj p1 p2 4 o0).1.list[i0]? = some x0) (hi0 : i0 < List.length (s_Kj p1 p2 4 o0).1.list) (ho0_0 : List.length v0_2 ≤ i0) (hc0 : (decide ((i0 : Int) < ((List.length (s_Kj p1 p2 4 o0).1.list) : Int))) = true) {r : Rs} (hr : Qi G (Qg5 p1 p2 o0 (i0 + 1) (s_Kz x0 (Decoder.mk v0_1)).2.failed (v0_2 ++ [(s_Kz x0 (Decoder.mk v0_1)).1])) r) : Qi G (Qg5 p1 p2 o0 i0 v0_1 v0_2) r := by
 have hB0 := H.1
 exact Qw (Q14a p1 p2 o0 i0 v0_1 v0_2) (y := (Qxn p1 p2 o0 (i0 + 1) (s_Kz x0 (Decoder.mk v0_1)).2.failed (v0_2 ++ [(s_Kz x0 (Decoder.mk v0_1)).1]), Qhh p1 p2 o0 (i0 + 1) (s_Kz x0 (Decoder.mk v0_1)).2.failed (v0_2 ++ [(s_Kz x0 (Decoder.mk v0_1)).1]))) [hB 0 hc0, hP 0 (Q15 5 (Val.rows (s_Kj p1 p2 4 o0).1.list) i0 _ (Val.Qe hx0) rfl), hV 8 [(642, Qv (v0_2 ++ [(s_Kz x0 (Decoder.mk v0_1)).1]))] (Q3g 1 578 642 1 16 0 0 true (Qv v0_2) (Qv (v0_2 ++ [(s_Kz x0 (Decoder.mk v0_1)).1])) [.str (s_Kz x0 (Decoder.mk v0_1)).1] (List.length v0_2) (List.length (v0_2 ++ [(s_Kz x0 (Decoder.mk v0_1)).1])) rfl (Q1q v0_2).symm (Q1q (v0_2 ++ [(s_Kz x0 (Decoder.mk v0_1)).1])).symm (Q60 v0_2 (s_Kz x0 (Decoder.mk v0_1)).1) (Q3o v0_2) rfl (by omega)), hS 0 true (Q2w (v0_2 ++ [(s_Kz x0 (Decoder.mk v0_1)).1]) 1 rfl), hP 1 (Q25 i0 (by omega))] [aN (t_Kz x0 (Decoder.mk v0_1))] (by kernel_rfl) hr
theorem Qwc (p1 : Val) (p2 : BA) (o0 : Decoder) (H : Qcg p1 p2 o0) : ∀ (r0 : List Val) (i0 : Nat) (v0_1 : Bool) (v0_2 : List ByteArray), List.drop i0 (s_Kj p1 p2 4 o0).1.list = r0 → List.length v0_2 ≤ i0 → Qes p1 p2 o0 (Qg5 p1 p2 o0 i0 v0_1 v0_2) (Q54 p1 p2 o0 r0 i0 v0_1 v0_2)
 | [], i0, v0_1, v0_2, hd, ho0_0 => by
  have hc0 : (decide ((i0 : Int) < ((List.length (s_Kj p1 p2 4 o0).1.list) : Int))) = false := by have := Q1v hd; simp; omega
  rw [Q54]
  exact Q18c p1 p2 o0 H i0 v0_1 v0_2 ho0_0 hc0
 | x0 :: r0, i0, v0_1, v0_2, hd, ho0_0 => by
  obtain ⟨hx0, hi0, hd'⟩ := Q1s hd
  have hc0 : (decide ((i0 : Int) < ((List.length (s_Kj p1 p2 4 o0).1.list) : Int))) = true := by simp; omega
  rw [Q54]
  exact Qtz p1 p2 o0 (fun r hr => Q14h p1 p2 o0 H x0 i0 v0_1 v0_2 hx0 hi0 ho0_0 hc0 hr) _ (Qwc p1 p2 o0 H r0 (i0 + 1) (s_Kz x0 (Decoder.mk v0_1)).2.failed (v0_2 ++ [(s_Kz x0 (Decoder.mk v0_1)).1]) hd' (by first | omega | (simp; omega)))
def Qzo (p1 : Val) (p2 : BA) (o0 : Decoder) : List ByteArray × Decoder := ((dE xS p1 p2).1, ft o0 (isM p1 && (dE xS p1 p2).2))
theorem Q11g (p1 : Val) (p2 : BA) (o0 : Decoder) : ∀ (l : List Val) (i : Nat) (b : Bool) (a : List ByteArray), Q54 p1 p2 o0 l i b a = (b || !(l.all fun x => (xS x).2), a ++ l.map (fun x => (xS x).1))
  | [], _, b, a => by rw [Q54]; simp
  | x :: l, i, b, a => by
    rw [Q54]
    refine (Q11g p1 p2 o0 l (i + 1) (b || !(xS x).2) (a ++ [(xS x).1])).trans ?_
    simp only [List.append_assoc, List.singleton_append, List.map_cons, List.all_cons, Bool.not_and, Bool.or_assoc]
theorem Q1t0 (p1 : Val) (p2 : BA) (o0 : Decoder) : Qzo p1 p2 o0 = (((Q54 p1 p2 o0 (s_Kj p1 p2 4 o0).1.list 0 (s_Kj p1 p2 4 o0).2.failed []).2, (Decoder.mk (Q54 p1 p2 o0 (s_Kj p1 p2 4 o0).1.list 0 (s_Kj p1 p2 4 o0).2.failed []).1))) := by
  rw [Q11g]
  unfold s_Kj Qzo
  simp only [getL, Q3t]
  refine Prod.ext rfl ?_
  rw [Q6f o0.failed (isM p1) _ _ _ (Qeq (prt p1 p2)), Q46]
  rfl
def Q1q6 (p1 : Val) (p2 : BA) (o0 : Decoder) : En := .call 141 [.bx 0 0, .agg (Val.cells p1), .str p2, .fn 142 [.bx 0 0] []] [⟨1, 0, false, (Decoder.cells o0)⟩]
def Q1qf (_p1 : Val) (_p2 : BA) (_o0 : Decoder) (q0 : List ByteArray) (q1 : Decoder) : Rs := .ret (.sl (Qv q0)) [⟨1, 0, false, (Decoder.cells q1)⟩]
def Q1lm (p1 : Val) (p2 : BA) (o0 : Decoder) : Rs := Q1qf p1 p2 o0 (Qzo p1 p2 o0).1 (Qzo p1 p2 o0).2
def Q1g4 (p1 : Val) : Prop := Val.Sm 1000000000 p1
theorem Q13h (p1 : Val) (p2 : BA) (o0 : Decoder) (H : Q1g4 p1) : (H_Kj p1) ∧ (Qcg p1 p2 o0) ∧ True := by
  have hl := Q6h (Q2h H p2)
  refine ⟨H, ?_, trivial⟩
  unfold Qcg s_Kj
  simp only [getL]
  exact ⟨Nat.le_trans hl.1 (Nat.le_of_ble_eq_true rfl), trivial⟩
theorem Q1of (p1 : Val) (p2 : BA) (o0 : Decoder) (H : Q1g4 p1) : Qi G (Q1q6 p1 p2 o0) (Q1lm p1 p2 o0) := by
 unfold Q1lm
 rw [Q1t0]
 have hl0 := Qwc p1 p2 o0 ((Q13h p1 p2 o0 H).2.1) (s_Kj p1 p2 4 o0).1.list 0 (s_Kj p1 p2 4 o0).2.failed [] (by simp) (by simp)
 obtain ⟨z0, zo0, hl0⟩ := hl0
 exact Qm (fn := Ir.K13) rfl (h := [⟨1, 0, false, (Decoder.cells o0)⟩]) (vw := []) VOK.nil [hP 8 (Qz (Val.rows (s_Kj p1 p2 4 o0).1.list) (List.length (s_Kj p1 p2 4 o0).1.list) (Val.Q9 (s_Kj p1 p2 4 o0).1.list)), hS 0 true (Q2w (Q54 p1 p2 o0 (s_Kj p1 p2 4 o0).1.list 0 (s_Kj p1 p2 4 o0).2.failed []).2 1 rfl), hQ (Q1q (Q54 p1 p2 o0 (s_Kj p1 p2 4 o0).1.list 0 (s_Kj p1 p2 4 o0).2.failed []).2).symm] [aN (t_Kj p1 p2 4 o0 (Q13h p1 p2 o0 H).1), aV [(1, Qv (Q54 p1 p2 o0 (s_Kj p1 p2 4 o0).1.list 0 (s_Kj p1 p2 4 o0).2.failed []).2)] hl0] (by kernel_rfl)
def s_Kq (p1 : Val) (o0 : Decoder) : Requirement × Decoder := ((Requirement.dec p1).1, ft o0 (Requirement.dec p1).2)
theorem e_Kq (p1 : Val) (o0 : Decoder) : s_Kq p1 o0 = (((Requirement.mk (s_Kv p1 Qs (s_Kw p1 o0).2).1 (s_Kn p1 Q31 (s_Kv p1 Qs (s_Kw p1 o0).2).2).1 (Qzo p1 Q1p (s_Kn p1 Q31 (s_Kv p1 Qs (s_Kw p1 o0).2).2).2).1), (Qzo p1 Q1p (s_Kn p1 Q31 (s_Kv p1 Qs (s_Kw p1 o0).2).2).2).2)) := by
  simp only [s_Kw, s_Kn, s_Kv, Qzo, s_Kq, Requirement.dec, Qal, Bool.and_assoc, Bool.and_left_comm, Bool.and_comm, Bool.and_self_left]
def c_Kq (p1 : Val) (o0 : Decoder) : En := .call 88 [.bx 0 0, .agg (Val.cells p1)] [⟨1, 0, false, (Decoder.cells o0)⟩]
def r_Kq (_p1 : Val) (_o0 : Decoder) (q0 : Requirement) (q1 : Decoder) : Rs := .ret (.agg (Requirement.cells q0)) [⟨1, 0, false, (Decoder.cells q1)⟩]
def a_Kq (p1 : Val) (o0 : Decoder) : Rs := r_Kq p1 o0 (s_Kq p1 o0).1 (s_Kq p1 o0).2
def H_Kq (p1 : Val) : Prop := Val.Sm 1000000000 p1
theorem Qz7 (p1 : Val) (_o0 : Decoder) (H : H_Kq p1) : (H_Kv p1) ∧ (H_Kn p1) ∧ (Q1g4 p1) ∧ True := by
  repeat' with_reducible apply And.intro
  all_goals first | exact True.intro | exact H | exact Qag (Q2h H _)
theorem t_Kq (p1 : Val) (o0 : Decoder) (H : H_Kq p1) : Qi G (c_Kq p1 o0) (a_Kq p1 o0) := by
 unfold a_Kq
 rw [e_Kq]
 exact Qm (fn := Ir.Kq) rfl (h := [⟨1, 0, false, (Decoder.cells o0)⟩]) (vw := []) VOK.nil [] [aN (t_Kw p1 o0), aN (t_Kv p1 Qs (s_Kw p1 o0).2 (Qz7 p1 o0 H).1), aN (t_Kn p1 Q31 (s_Kv p1 Qs (s_Kw p1 o0).2).2 (Qz7 p1 o0 H).2.1), aN (Q1of p1 Q1p (s_Kn p1 Q31 (s_Kv p1 Qs (s_Kw p1 o0).2).2).2 (Qz7 p1 o0 H).2.2.1)] (by kernel_rfl)
def Q5p (p1 : Val) (p2 : BA) (o0 : Decoder) : List Val → Nat → Bool → (List Requirement) → Bool × (List Requirement)
 | [], _i0, v0_1, v0_2 =>
  (v0_1, v0_2)
 | x0 :: r0, i0, v0_1, v0_2 =>
  Q5p p1 p2 o0 r0 (i0 + 1) (s_Kq x0 (Decoder.mk v0_1)).2.failed (v0_2 ++ [(s_Kq x0 (Decoder.mk v0_1)).1])
def Qy8 (p1 : Val) (p2 : BA) (o0 : Decoder) (i0 : Nat) (_v0_1 : Bool) (v0_2 : List Requirement) : List PV :=
  [.un, .un, .un, .fn 88 [.bx 0 0] []] ++ nuns 5 ++ [.ms 1 3 0 (List.length v0_2)] ++ nuns 6 ++ [.sl (Val.rows (s_Kj p1 p2 4 o0).1.list), .int .i64 ((List.length (s_Kj p1 p2 4 o0).1.list) : Int), .int .i64 (i0 : Int)] ++ nuns 11
def Qlb (_p1 : Val) (_p2 : BA) (_o0 : Decoder) (_i0 : Nat) (v0_1 : Bool) (v0_2 : List Requirement) : List Ob :=
  [⟨1, 0, false, [.bool v0_1]⟩, ⟨3, 0, true, (Requirement.rows v0_2).flatten⟩]
def Qgr (p1 : Val) (p2 : BA) (o0 : Decoder) (i0 : Nat) (v0_1 : Bool) (v0_2 : List Requirement) : En := .loop 1 Ir.Qj1 Ir.Q1du (Qy8 p1 p2 o0 i0 v0_1 v0_2) (Qlb p1 p2 o0 i0 v0_1 v0_2)
def Qox (_p1 : Val) (_p2 : BA) (_o0 : Decoder) (q0 : Bool) (q1 : List Requirement) (z : Nat → PV) (_zo : Nat → List PV) : St :=
  ⟨zr z 0 9 ++ [.ms 1 3 0 (List.length q1)] ++ zr z 10 20, [(0, ⟨1, 0, false, [.bool q0]⟩), (1, ⟨3, 0, true, (Requirement.rows q1).flatten⟩)], 66⟩
theorem Q11l (p1 : Val) (p2 : BA) (o0 : Decoder) (i0 : Nat) (v0_1 : Bool) (v0_2 : List Requirement) : VOK (Go.Pv.look (number 0 (Qlb p1 p2 o0 i0 v0_1 v0_2))) [(1, Requirement.rows v0_2)] := (VOK.cons (show Seen _ _ from Q42 (ob := ⟨3, 0, true, (Requirement.rows v0_2).flatten⟩) (Requirement.Qp v0_2 3 rfl)) VOK.nil)
def Qg7 (p1 : Val) (p2 : BA) (o0 : Decoder) (e : En) (q : Bool × (List Requirement)) : Prop := ∃ z zo, Qi G e (.st (.exit 0) (Qox p1 p2 o0 q.1 q.2 z zo))
theorem Qsg (p1 : Val) (p2 : BA) (o0 : Decoder) {e e' : En} (h : ∀ r, Qi G e r → Qi G e' r) : ∀ q, Qg7 p1 p2 o0 e q → Qg7 p1 p2 o0 e' q
  | _, ⟨z, zo, hz⟩ => ⟨z, zo, h _ hz⟩
def Qbw (p1 : Val) (p2 : BA) (o0 : Decoder) : Prop := (List.length (s_Kj p1 p2 4 o0).1.list ≤ 137438953472) ∧ (∀ x0 ∈ (s_Kj p1 p2 4 o0).1.list, H_Kq x0) ∧ True
def Qpe (p1 : Val) (p2 : BA) (o0 : Decoder) (i0 : Nat) (_v0_1 : Bool) (_v0_2 : List Requirement) : List PV :=
  [.un, .un, .un, .fn 88 [.bx 0 0] []] ++ nuns 12 ++ [.sl (Val.rows (s_Kj p1 p2 4 o0).1.list), .int .i64 ((List.length (s_Kj p1 p2 4 o0).1.list) : Int), .int .i64 (i0 : Int), .bool false]
def Qma (_p1 : Val) (_p2 : BA) (_o0 : Decoder) (_i0 : Nat) (_v0_1 : Bool) (_v0_2 : List Requirement) : List (Nat × List PV) :=
  []
theorem Q17o (p1 : Val) (p2 : BA) (o0 : Decoder) (_H : Qbw p1 p2 o0) (i0 : Nat) (v0_1 : Bool) (v0_2 : List Requirement) (_ho0_0 : List.length v0_2 ≤ i0) (hc0 : (decide ((i0 : Int) < ((List.length (s_Kj p1 p2 4 o0).1.list) : Int))) = false) : Qg7 p1 p2 o0 (Qgr p1 p2 o0 i0 v0_1 v0_2) (v0_1, v0_2) := by
 exact ⟨(envF (Qpe p1 p2 o0 i0 v0_1 v0_2)), (zoF (Qma p1 p2 o0 i0 v0_1 v0_2)), Q10 (Q11l p1 p2 o0 i0 v0_1 v0_2) (x := ((.exit 0), Qox p1 p2 o0 v0_1 v0_2 (envF (Qpe p1 p2 o0 i0 v0_1 v0_2)) (zoF (Qma p1 p2 o0 i0 v0_1 v0_2)))) [hB 0 hc0] [] (by kernel_rfl)⟩
theorem Q16w (p1 : Val) (p2 : BA) (o0 : Decoder) (H : Qbw p1 p2 o0) (x0 : Val) (i0 : Nat) (v0_1 : Bool) (v0_2 : List Requirement) (hx0 : (s_Kj p1 p2 4 o0).1.list[i0]? = some x0) (hi0 : i0 < List.length (s_Kj p1 p2 4 o0).1.list) (ho0_0 : List.length v0_2 ≤ i0) (hc0 : (decide ((i0 : Int) < ((List.length (s_Kj p1 p2 4 o0).1.list) : Int))) = true) {r : Rs} (hr : Qi G (Qgr p1 p2 o0 (i0 + 1) (s_Kq x0 (Decoder.mk v0_1)).2.failed (v0_2 ++ [(s_Kq x0 (Decoder.mk v0_1)).1])) r) : Qi G (Qgr p1 p2 o0 i0 v0_1 v0_2) r := by
 have hB0 := H.1
 exact Qw (Q11l p1 p2 o0 i0 v0_1 v0_2) (y := (Qy8 p1 p2 o0 (i0 + 1) (s_Kq x0 (Decoder.mk v0_1)).2.failed (v0_2 ++ [(s_Kq x0 (Decoder.mk v0_1)).1]), Qlb p1 p2 o0 (i0 + 1) (s_Kq x0 (Decoder.mk v0_1)).2.failed (v0_2 ++ [(s_Kq x0 (Decoder.mk v0_1)).1]))) [hB 0 hc0, hP 0 (Q15 5 (Val.rows (s_Kj p1 p2 4 o0).1.list) i0 _ (Val.Qe hx0) rfl), hV 8 [(642, Requirement.rows (v0_2 ++ [(s_Kq x0 (Decoder.mk v0_1)).1]))] (Q3g 1 578 642 3 48 0 0 true (Requirement.rows v0_2) (Requirement.rows (v0_2 ++ [(s_Kq x0 (Decoder.mk v0_1)).1])) (Requirement.cells (s_Kq x0 (Decoder.mk v0_1)).1) (List.length v0_2) (List.length (v0_2 ++ [(s_Kq x0 (Decoder.mk v0_1)).1])) rfl (Requirement.Q9 v0_2).symm (Requirement.Q9 (v0_2 ++ [(s_Kq x0 (Decoder.mk v0_1)).1])).symm (Requirement.Q1n v0_2 (s_Kq x0 (Decoder.mk v0_1)).1) (Requirement.Q16 v0_2) rfl (by omega)), hS 0 true (Requirement.Qp (v0_2 ++ [(s_Kq x0 (Decoder.mk v0_1)).1]) 3 rfl), hP 1 (Q25 i0 (by omega))] [aN (t_Kq x0 (Decoder.mk v0_1) (H.2.1 x0 (Q13 hx0)))] (by kernel_rfl) hr
theorem Qyj (p1 : Val) (p2 : BA) (o0 : Decoder) (H : Qbw p1 p2 o0) : ∀ (r0 : List Val) (i0 : Nat) (v0_1 : Bool) (v0_2 : List Requirement), List.drop i0 (s_Kj p1 p2 4 o0).1.list = r0 → List.length v0_2 ≤ i0 → Qg7 p1 p2 o0 (Qgr p1 p2 o0 i0 v0_1 v0_2) (Q5p p1 p2 o0 r0 i0 v0_1 v0_2)
 | [], i0, v0_1, v0_2, hd, ho0_0 => by
  have hc0 : (decide ((i0 : Int) < ((List.length (s_Kj p1 p2 4 o0).1.list) : Int))) = false := by have := Q1v hd; simp; omega
  rw [Q5p]
  exact Q17o p1 p2 o0 H i0 v0_1 v0_2 ho0_0 hc0
 | x0 :: r0, i0, v0_1, v0_2, hd, ho0_0 => by
  obtain ⟨hx0, hi0, hd'⟩ := Q1s hd
  have hc0 : (decide ((i0 : Int) < ((List.length (s_Kj p1 p2 4 o0).1.list) : Int))) = true := by simp; omega
  rw [Q5p]
  exact Qsg p1 p2 o0 (fun r hr => Q16w p1 p2 o0 H x0 i0 v0_1 v0_2 hx0 hi0 ho0_0 hc0 hr) _ (Qyj p1 p2 o0 H r0 (i0 + 1) (s_Kq x0 (Decoder.mk v0_1)).2.failed (v0_2 ++ [(s_Kq x0 (Decoder.mk v0_1)).1]) hd' (by first | omega | (simp; omega)))
def Q51 (p1 : Val) (p2 : BA) (o0 : Decoder) : List Requirement × Decoder := ((dE Requirement.dec p1 p2).1, ft o0 (isM p1 && (dE Requirement.dec p1 p2).2))
theorem Q14d (p1 : Val) (p2 : BA) (o0 : Decoder) : ∀ (l : List Val) (i : Nat) (b : Bool) (a : List Requirement), Q5p p1 p2 o0 l i b a = (b || !(l.all fun x => (Requirement.dec x).2), a ++ l.map (fun x => (Requirement.dec x).1))
  | [], _, b, a => by rw [Q5p]; simp
  | x :: l, i, b, a => by
    rw [Q5p]
    refine (Q14d p1 p2 o0 l (i + 1) (b || !(Requirement.dec x).2) (a ++ [(Requirement.dec x).1])).trans ?_
    simp only [List.append_assoc, List.singleton_append, List.map_cons, List.all_cons, Bool.not_and, Bool.or_assoc]
theorem Q1ow (p1 : Val) (p2 : BA) (o0 : Decoder) : Q51 p1 p2 o0 = (((Q5p p1 p2 o0 (s_Kj p1 p2 4 o0).1.list 0 (s_Kj p1 p2 4 o0).2.failed []).2, (Decoder.mk (Q5p p1 p2 o0 (s_Kj p1 p2 4 o0).1.list 0 (s_Kj p1 p2 4 o0).2.failed []).1))) := by
  rw [Q14d]
  unfold s_Kj Q51
  simp only [getL, Q3t]
  refine Prod.ext rfl ?_
  rw [Q6f o0.failed (isM p1) _ _ _ (Qeq (prt p1 p2)), Q46]
  rfl
def Q1rt (p1 : Val) (p2 : BA) (o0 : Decoder) : En := .call 87 [.bx 0 0, .agg (Val.cells p1), .str p2, .fn 88 [.bx 0 0] []] [⟨1, 0, false, (Decoder.cells o0)⟩]
def Q1nd (_p1 : Val) (_p2 : BA) (_o0 : Decoder) (q0 : List Requirement) (q1 : Decoder) : Rs := .ret (.sl (Requirement.rows q0)) [⟨1, 0, false, (Decoder.cells q1)⟩]
def Q1l6 (p1 : Val) (p2 : BA) (o0 : Decoder) : Rs := Q1nd p1 p2 o0 (Q51 p1 p2 o0).1 (Q51 p1 p2 o0).2
def Q150 (p1 : Val) : Prop := Val.Sm 1000000000 p1
theorem Q13f (p1 : Val) (p2 : BA) (o0 : Decoder) (H : Q150 p1) : (H_Kj p1) ∧ (Qbw p1 p2 o0) ∧ True := by
  have hl := Q6h (Q2h H p2)
  refine ⟨H, ?_, trivial⟩
  unfold Qbw s_Kj
  simp only [getL]
  exact ⟨Nat.le_trans hl.1 (Nat.le_of_ble_eq_true rfl), hl.2, trivial⟩
theorem Q1cx (p1 : Val) (p2 : BA) (o0 : Decoder) (H : Q150 p1) : Qi G (Q1rt p1 p2 o0) (Q1l6 p1 p2 o0) := by
 unfold Q1l6
 rw [Q1ow]
 have hl0 := Qyj p1 p2 o0 ((Q13f p1 p2 o0 H).2.1) (s_Kj p1 p2 4 o0).1.list 0 (s_Kj p1 p2 4 o0).2.failed [] (by simp) (by simp)
 obtain ⟨z0, zo0, hl0⟩ := hl0
 exact Qm (fn := Ir.K17) rfl (h := [⟨1, 0, false, (Decoder.cells o0)⟩]) (vw := []) VOK.nil [hP 8 (Qz (Val.rows (s_Kj p1 p2 4 o0).1.list) (List.length (s_Kj p1 p2 4 o0).1.list) (Val.Q9 (s_Kj p1 p2 4 o0).1.list)), hS 0 true (Requirement.Qp (Q5p p1 p2 o0 (s_Kj p1 p2 4 o0).1.list 0 (s_Kj p1 p2 4 o0).2.failed []).2 3 rfl), hQ (Requirement.Q9 (Q5p p1 p2 o0 (s_Kj p1 p2 4 o0).1.list 0 (s_Kj p1 p2 4 o0).2.failed []).2).symm] [aN (t_Kj p1 p2 4 o0 (Q13f p1 p2 o0 H).1), aV [(1, Requirement.rows (Q5p p1 p2 o0 (s_Kj p1 p2 4 o0).1.list 0 (s_Kj p1 p2 4 o0).2.failed []).2)] hl0] (by kernel_rfl)
def s_Km (p1 : Val) (o0 : Decoder) : NodeTerm × Decoder := ((NodeTerm.dec p1).1, ft o0 (NodeTerm.dec p1).2)
theorem e_Km (p1 : Val) (o0 : Decoder) : s_Km p1 o0 = (((NodeTerm.mk (s_Ki p1 Q7 (s_Kw p1 o0).2).1 (Q51 p1 Q8 (s_Ki p1 Q7 (s_Kw p1 o0).2).2).1 (s_Kn p1 Qx (Q51 p1 Q8 (s_Ki p1 Q7 (s_Kw p1 o0).2).2).2).1), (s_Kn p1 Qx (Q51 p1 Q8 (s_Ki p1 Q7 (s_Kw p1 o0).2).2).2).2)) := by
  simp only [s_Kw, s_Kn, s_Ki, Q51, s_Km, NodeTerm.dec, Qal, Bool.and_assoc, Bool.and_left_comm, Bool.and_self_left]
def c_Km (p1 : Val) (o0 : Decoder) : En := .call 90 [.bx 0 0, .agg (Val.cells p1)] [⟨1, 0, false, (Decoder.cells o0)⟩]
def r_Km (_p1 : Val) (_o0 : Decoder) (q0 : NodeTerm) (q1 : Decoder) : Rs := .ret (.agg (NodeTerm.cells q0)) [⟨1, 0, false, (Decoder.cells q1)⟩]
def a_Km (p1 : Val) (o0 : Decoder) : Rs := r_Km p1 o0 (s_Km p1 o0).1 (s_Km p1 o0).2
def H_Km (p1 : Val) : Prop := Val.Sm 1000000000 p1
theorem Qzz (p1 : Val) (_o0 : Decoder) (H : H_Km p1) : (H_Ki p1) ∧ (Q150 p1) ∧ (H_Kn p1) ∧ True := by
  repeat' with_reducible apply And.intro
  all_goals first | exact True.intro | exact H | exact Qag (Q2h H _)
theorem t_Km (p1 : Val) (o0 : Decoder) (H : H_Km p1) : Qi G (c_Km p1 o0) (a_Km p1 o0) := by
 unfold a_Km
 rw [e_Km]
 exact Qm (fn := Ir.Km) rfl (h := [⟨1, 0, false, (Decoder.cells o0)⟩]) (vw := []) VOK.nil [] [aN (t_Kw p1 o0), aN (t_Ki p1 Q7 (s_Kw p1 o0).2 (Qzz p1 o0 H).1), aN (Q1cx p1 Q8 (s_Ki p1 Q7 (s_Kw p1 o0).2).2 (Qzz p1 o0 H).2.1), aN (t_Kn p1 Qx (Q51 p1 Q8 (s_Ki p1 Q7 (s_Kw p1 o0).2).2).2 (Qzz p1 o0 H).2.2.1)] (by kernel_rfl)
def Q5c (p1 : Val) (p2 : BA) (o0 : Decoder) : List Val → Nat → Bool → (List NodeTerm) → Bool × (List NodeTerm)
 | [], _i0, v0_1, v0_2 =>
  (v0_1, v0_2)
 | x0 :: r0, i0, v0_1, v0_2 =>
  Q5c p1 p2 o0 r0 (i0 + 1) (s_Km x0 (Decoder.mk v0_1)).2.failed (v0_2 ++ [(s_Km x0 (Decoder.mk v0_1)).1])
def Qw5 (p1 : Val) (p2 : BA) (o0 : Decoder) (i0 : Nat) (_v0_1 : Bool) (v0_2 : List NodeTerm) : List PV :=
  [.un, .un, .un, .fn 90 [.bx 0 0] []] ++ nuns 5 ++ [.ms 1 3 0 (List.length v0_2)] ++ nuns 6 ++ [.sl (Val.rows (s_Kj p1 p2 4 o0).1.list), .int .i64 ((List.length (s_Kj p1 p2 4 o0).1.list) : Int), .int .i64 (i0 : Int)] ++ nuns 11
def Qlv (_p1 : Val) (_p2 : BA) (_o0 : Decoder) (_i0 : Nat) (v0_1 : Bool) (v0_2 : List NodeTerm) : List Ob :=
  [⟨1, 0, false, [.bool v0_1]⟩, ⟨3, 0, true, (NodeTerm.rows v0_2).flatten⟩]
def Qgi (p1 : Val) (p2 : BA) (o0 : Decoder) (i0 : Nat) (v0_1 : Bool) (v0_2 : List NodeTerm) : En := .loop 1 Ir.Qll Ir.Q1dy (Qw5 p1 p2 o0 i0 v0_1 v0_2) (Qlv p1 p2 o0 i0 v0_1 v0_2)
def Qnu (_p1 : Val) (_p2 : BA) (_o0 : Decoder) (q0 : Bool) (q1 : List NodeTerm) (z : Nat → PV) (_zo : Nat → List PV) : St :=
  ⟨zr z 0 9 ++ [.ms 1 3 0 (List.length q1)] ++ zr z 10 20, [(0, ⟨1, 0, false, [.bool q0]⟩), (1, ⟨3, 0, true, (NodeTerm.rows q1).flatten⟩)], 66⟩
theorem Q149 (p1 : Val) (p2 : BA) (o0 : Decoder) (i0 : Nat) (v0_1 : Bool) (v0_2 : List NodeTerm) : VOK (Go.Pv.look (number 0 (Qlv p1 p2 o0 i0 v0_1 v0_2))) [(1, NodeTerm.rows v0_2)] := (VOK.cons (show Seen _ _ from Q42 (ob := ⟨3, 0, true, (NodeTerm.rows v0_2).flatten⟩) (NodeTerm.Qp v0_2 3 rfl)) VOK.nil)
def Qf2 (p1 : Val) (p2 : BA) (o0 : Decoder) (e : En) (q : Bool × (List NodeTerm)) : Prop := ∃ z zo, Qi G e (.st (.exit 0) (Qnu p1 p2 o0 q.1 q.2 z zo))
theorem Qt5 (p1 : Val) (p2 : BA) (o0 : Decoder) {e e' : En} (h : ∀ r, Qi G e r → Qi G e' r) : ∀ q, Qf2 p1 p2 o0 e q → Qf2 p1 p2 o0 e' q
  | _, ⟨z, zo, hz⟩ => ⟨z, zo, h _ hz⟩
def Qbt (p1 : Val) (p2 : BA) (o0 : Decoder) : Prop := (List.length (s_Kj p1 p2 4 o0).1.list ≤ 137438953472) ∧ (∀ x0 ∈ (s_Kj p1 p2 4 o0).1.list, H_Km x0) ∧ True
def Qnw (p1 : Val) (p2 : BA) (o0 : Decoder) (i0 : Nat) (_v0_1 : Bool) (_v0_2 : List NodeTerm) : List PV :=
  [.un, .un, .un, .fn 90 [.bx 0 0] []] ++ nuns 12 ++ [.sl (Val.rows (s_Kj p1 p2 4 o0).1.list), .int .i64 ((List.length (s_Kj p1 p2 4 o0).1.list) : Int), .int .i64 (i0 : Int), .bool false]
def Qn4 (_p1 : Val) (_p2 : BA) (_o0 : Decoder) (_i0 : Nat) (_v0_1 : Bool) (_v0_2 : List NodeTerm) : List (Nat × List PV) :=
  []
theorem Q16u (p1 : Val) (p2 : BA) (o0 : Decoder) (_H : Qbt p1 p2 o0) (i0 : Nat) (v0_1 : Bool) (v0_2 : List NodeTerm) (_ho0_0 : List.length v0_2 ≤ i0) (hc0 : (decide ((i0 : Int) < ((List.length (s_Kj p1 p2 4 o0).1.list) : Int))) = false) : Qf2 p1 p2 o0 (Qgi p1 p2 o0 i0 v0_1 v0_2) (v0_1, v0_2) := by
 exact ⟨(envF (Qnw p1 p2 o0 i0 v0_1 v0_2)), (zoF (Qn4 p1 p2 o0 i0 v0_1 v0_2)), Q10 (Q149 p1 p2 o0 i0 v0_1 v0_2) (x := ((.exit 0), Qnu p1 p2 o0 v0_1 v0_2 (envF (Qnw p1 p2 o0 i0 v0_1 v0_2)) (zoF (Qn4 p1 p2 o0 i0 v0_1 v0_2)))) [hB 0 hc0] [] (by kernel_rfl)⟩
theorem Q18s (p1 : Val) (p2 : BA) (o0 : Decoder) (H : Qbt p1 p2 o0) (x0 : Val) (i0 : Nat) (v0_1 : Bool) (v0_2 : List NodeTerm) (hx0 : (s_Kj p1 p2 4 o0).1.list[i0]? = some x0) (hi0 : i0 < List.length (s_Kj p1 p2 4 o0).1.list) (ho0_0 : List.length v0_2 ≤ i0) (hc0 : (decide ((i0 : Int) < ((List.length (s_Kj p1 p2 4 o0).1.list) : Int))) = true) {r : Rs} (hr : Qi G (Qgi p1 p2 o0 (i0 + 1) (s_Km x0 (Decoder.mk v0_1)).2.failed (v0_2 ++ [(s_Km x0 (Decoder.mk v0_1)).1])) r) : Qi G (Qgi p1 p2 o0 i0 v0_1 v0_2) r := by
 have hB0 := H.1
 exact Qw (Q149 p1 p2 o0 i0 v0_1 v0_2) (y := (Qw5 p1 p2 o0 (i0 + 1) (s_Km x0 (Decoder.mk v0_1)).2.failed (v0_2 ++ [(s_Km x0 (Decoder.mk v0_1)).1]), Qlv p1 p2 o0 (i0 + 1) (s_Km x0 (Decoder.mk v0_1)).2.failed (v0_2 ++ [(s_Km x0 (Decoder.mk v0_1)).1]))) [hB 0 hc0, hP 0 (Q15 5 (Val.rows (s_Kj p1 p2 4 o0).1.list) i0 _ (Val.Qe hx0) rfl), hV 8 [(642, NodeTerm.rows (v0_2 ++ [(s_Km x0 (Decoder.mk v0_1)).1]))] (Q3g 1 578 642 3 40 0 0 true (NodeTerm.rows v0_2) (NodeTerm.rows (v0_2 ++ [(s_Km x0 (Decoder.mk v0_1)).1])) (NodeTerm.cells (s_Km x0 (Decoder.mk v0_1)).1) (List.length v0_2) (List.length (v0_2 ++ [(s_Km x0 (Decoder.mk v0_1)).1])) rfl (NodeTerm.Q9 v0_2).symm (NodeTerm.Q9 (v0_2 ++ [(s_Km x0 (Decoder.mk v0_1)).1])).symm (NodeTerm.Q1n v0_2 (s_Km x0 (Decoder.mk v0_1)).1) (NodeTerm.Q16 v0_2) rfl (by omega)), hS 0 true (NodeTerm.Qp (v0_2 ++ [(s_Km x0 (Decoder.mk v0_1)).1]) 3 rfl), hP 1 (Q25 i0 (by omega))] [aN (t_Km x0 (Decoder.mk v0_1) (H.2.1 x0 (Q13 hx0)))] (by kernel_rfl) hr
theorem Qvy (p1 : Val) (p2 : BA) (o0 : Decoder) (H : Qbt p1 p2 o0) : ∀ (r0 : List Val) (i0 : Nat) (v0_1 : Bool) (v0_2 : List NodeTerm), List.drop i0 (s_Kj p1 p2 4 o0).1.list = r0 → List.length v0_2 ≤ i0 → Qf2 p1 p2 o0 (Qgi p1 p2 o0 i0 v0_1 v0_2) (Q5c p1 p2 o0 r0 i0 v0_1 v0_2)
 | [], i0, v0_1, v0_2, hd, ho0_0 => by
  have hc0 : (decide ((i0 : Int) < ((List.length (s_Kj p1 p2 4 o0).1.list) : Int))) = false := by have := Q1v hd; simp; omega
  rw [Q5c]
  exact Q16u p1 p2 o0 H i0 v0_1 v0_2 ho0_0 hc0
 | x0 :: r0, i0, v0_1, v0_2, hd, ho0_0 => by
  obtain ⟨hx0, hi0, hd'⟩ := Q1s hd
  have hc0 : (decide ((i0 : Int) < ((List.length (s_Kj p1 p2 4 o0).1.list) : Int))) = true := by simp; omega
  rw [Q5c]
  exact Qt5 p1 p2 o0 (fun r hr => Q18s p1 p2 o0 H x0 i0 v0_1 v0_2 hx0 hi0 ho0_0 hc0 hr) _ (Qvy p1 p2 o0 H r0 (i0 + 1) (s_Km x0 (Decoder.mk v0_1)).2.failed (v0_2 ++ [(s_Km x0 (Decoder.mk v0_1)).1]) hd' (by first | omega | (simp; omega)))
def Qdw (p1 : Val) (p2 : BA) (o0 : Decoder) : List NodeTerm × Decoder := ((dE NodeTerm.dec p1 p2).1, ft o0 (isM p1 && (dE NodeTerm.dec p1 p2).2))
theorem Q13t (p1 : Val) (p2 : BA) (o0 : Decoder) : ∀ (l : List Val) (i : Nat) (b : Bool) (a : List NodeTerm), Q5c p1 p2 o0 l i b a = (b || !(l.all fun x => (NodeTerm.dec x).2), a ++ l.map (fun x => (NodeTerm.dec x).1))
  | [], _, b, a => by rw [Q5c]; simp
  | x :: l, i, b, a => by
    rw [Q5c]
    refine (Q13t p1 p2 o0 l (i + 1) (b || !(NodeTerm.dec x).2) (a ++ [(NodeTerm.dec x).1])).trans ?_
    simp only [List.append_assoc, List.singleton_append, List.map_cons, List.all_cons, Bool.not_and, Bool.or_assoc]
theorem Q1p5 (p1 : Val) (p2 : BA) (o0 : Decoder) : Qdw p1 p2 o0 = (((Q5c p1 p2 o0 (s_Kj p1 p2 4 o0).1.list 0 (s_Kj p1 p2 4 o0).2.failed []).2, (Decoder.mk (Q5c p1 p2 o0 (s_Kj p1 p2 4 o0).1.list 0 (s_Kj p1 p2 4 o0).2.failed []).1))) := by
  rw [Q13t]
  unfold s_Kj Qdw
  simp only [getL, Q3t]
  refine Prod.ext rfl ?_
  rw [Q6f o0.failed (isM p1) _ _ _ (Qeq (prt p1 p2)), Q46]
  rfl
def Q1pr (p1 : Val) (p2 : BA) (o0 : Decoder) : En := .call 89 [.bx 0 0, .agg (Val.cells p1), .str p2, .fn 90 [.bx 0 0] []] [⟨1, 0, false, (Decoder.cells o0)⟩]
def Q1p7 (_p1 : Val) (_p2 : BA) (_o0 : Decoder) (q0 : List NodeTerm) (q1 : Decoder) : Rs := .ret (.sl (NodeTerm.rows q0)) [⟨1, 0, false, (Decoder.cells q1)⟩]
def Q1jf (p1 : Val) (p2 : BA) (o0 : Decoder) : Rs := Q1p7 p1 p2 o0 (Qdw p1 p2 o0).1 (Qdw p1 p2 o0).2
def Q1g5 (p1 : Val) : Prop := Val.Sm 1000000000 p1
theorem Q11m (p1 : Val) (p2 : BA) (o0 : Decoder) (H : Q1g5 p1) : (H_Kj p1) ∧ (Qbt p1 p2 o0) ∧ True := by
  have hl := Q6h (Q2h H p2)
  refine ⟨H, ?_, trivial⟩
  unfold Qbt s_Kj
  simp only [getL]
  exact ⟨Nat.le_trans hl.1 (Nat.le_of_ble_eq_true rfl), hl.2, trivial⟩
theorem Q1rc (p1 : Val) (p2 : BA) (o0 : Decoder) (H : Q1g5 p1) : Qi G (Q1pr p1 p2 o0) (Q1jf p1 p2 o0) := by
 unfold Q1jf
 rw [Q1p5]
 have hl0 := Qvy p1 p2 o0 ((Q11m p1 p2 o0 H).2.1) (s_Kj p1 p2 4 o0).1.list 0 (s_Kj p1 p2 4 o0).2.failed [] (by simp) (by simp)
 obtain ⟨z0, zo0, hl0⟩ := hl0
 exact Qm (fn := Ir.K18) rfl (h := [⟨1, 0, false, (Decoder.cells o0)⟩]) (vw := []) VOK.nil [hP 8 (Qz (Val.rows (s_Kj p1 p2 4 o0).1.list) (List.length (s_Kj p1 p2 4 o0).1.list) (Val.Q9 (s_Kj p1 p2 4 o0).1.list)), hS 0 true (NodeTerm.Qp (Q5c p1 p2 o0 (s_Kj p1 p2 4 o0).1.list 0 (s_Kj p1 p2 4 o0).2.failed []).2 3 rfl), hQ (NodeTerm.Q9 (Q5c p1 p2 o0 (s_Kj p1 p2 4 o0).1.list 0 (s_Kj p1 p2 4 o0).2.failed []).2).symm] [aN (t_Kj p1 p2 4 o0 (Q11m p1 p2 o0 H).1), aV [(1, NodeTerm.rows (Q5c p1 p2 o0 (s_Kj p1 p2 4 o0).1.list 0 (s_Kj p1 p2 4 o0).2.failed []).2)] hl0] (by kernel_rfl)
def s_Ko (p1 : Val) (o0 : Decoder) : PodTerm × Decoder := ((PodTerm.dec p1).1, ft o0 (PodTerm.dec p1).2)
theorem e_Ko (p1 : Val) (o0 : Decoder) : s_Ko p1 o0 = (((PodTerm.mk (s_Ki p1 Q7 (s_Kw p1 o0).2).1 (s_Ki p1 Q1w (s_Ki p1 Q7 (s_Kw p1 o0).2).2).1 (Q51 p1 Q8 (s_Ki p1 Q1w (s_Ki p1 Q7 (s_Kw p1 o0).2).2).2).1 (s_Kv p1 Ql (Q51 p1 Q8 (s_Ki p1 Q1w (s_Ki p1 Q7 (s_Kw p1 o0).2).2).2).2).1 (s_Kn p1 Qx (s_Kv p1 Ql (Q51 p1 Q8 (s_Ki p1 Q1w (s_Ki p1 Q7 (s_Kw p1 o0).2).2).2).2).2).1), (s_Kn p1 Qx (s_Kv p1 Ql (Q51 p1 Q8 (s_Ki p1 Q1w (s_Ki p1 Q7 (s_Kw p1 o0).2).2).2).2).2).2)) := by
  simp only [s_Kw, s_Kn, s_Kv, s_Ki, Q51, s_Ko, PodTerm.dec, Qal, Bool.and_assoc, Bool.and_left_comm, Bool.and_comm, Bool.and_self_left]
def c_Ko (p1 : Val) (o0 : Decoder) : En := .call 92 [.bx 0 0, .agg (Val.cells p1)] [⟨1, 0, false, (Decoder.cells o0)⟩]
def r_Ko (_p1 : Val) (_o0 : Decoder) (q0 : PodTerm) (q1 : Decoder) : Rs := .ret (.agg (PodTerm.cells q0)) [⟨1, 0, false, (Decoder.cells q1)⟩]
def a_Ko (p1 : Val) (o0 : Decoder) : Rs := r_Ko p1 o0 (s_Ko p1 o0).1 (s_Ko p1 o0).2
def H_Ko (p1 : Val) : Prop := Val.Sm 1000000000 p1
theorem Qj7 (p1 : Val) (_o0 : Decoder) (H : H_Ko p1) : (H_Ki p1) ∧ (Q150 p1) ∧ (H_Kv p1) ∧ (H_Kn p1) ∧ True := by
  repeat' with_reducible apply And.intro
  all_goals first | exact True.intro | exact H | exact Qag (Q2h H _)
theorem t_Ko (p1 : Val) (o0 : Decoder) (H : H_Ko p1) : Qi G (c_Ko p1 o0) (a_Ko p1 o0) := by
 unfold a_Ko
 rw [e_Ko]
 exact Qm (fn := Ir.Ko) rfl (h := [⟨1, 0, false, (Decoder.cells o0)⟩]) (vw := []) VOK.nil [] [aN (t_Kw p1 o0), aN (t_Ki p1 Q7 (s_Kw p1 o0).2 (Qj7 p1 o0 H).1), aN (t_Ki p1 Q1w (s_Ki p1 Q7 (s_Kw p1 o0).2).2 (Qj7 p1 o0 H).1), aN (Q1cx p1 Q8 (s_Ki p1 Q1w (s_Ki p1 Q7 (s_Kw p1 o0).2).2).2 (Qj7 p1 o0 H).2.1), aN (t_Kv p1 Ql (Q51 p1 Q8 (s_Ki p1 Q1w (s_Ki p1 Q7 (s_Kw p1 o0).2).2).2).2 (Qj7 p1 o0 H).2.2.1), aN (t_Kn p1 Qx (s_Kv p1 Ql (Q51 p1 Q8 (s_Ki p1 Q1w (s_Ki p1 Q7 (s_Kw p1 o0).2).2).2).2).2 (Qj7 p1 o0 H).2.2.2.1)] (by kernel_rfl)
def Q5s (p1 : Val) (p2 : BA) (o0 : Decoder) : List Val → Nat → Bool → (List PodTerm) → Bool × (List PodTerm)
 | [], _i0, v0_1, v0_2 =>
  (v0_1, v0_2)
 | x0 :: r0, i0, v0_1, v0_2 =>
  Q5s p1 p2 o0 r0 (i0 + 1) (s_Ko x0 (Decoder.mk v0_1)).2.failed (v0_2 ++ [(s_Ko x0 (Decoder.mk v0_1)).1])
def Qvn (p1 : Val) (p2 : BA) (o0 : Decoder) (i0 : Nat) (_v0_1 : Bool) (v0_2 : List PodTerm) : List PV :=
  [.un, .un, .un, .fn 92 [.bx 0 0] []] ++ nuns 5 ++ [.ms 1 5 0 (List.length v0_2)] ++ nuns 6 ++ [.sl (Val.rows (s_Kj p1 p2 4 o0).1.list), .int .i64 ((List.length (s_Kj p1 p2 4 o0).1.list) : Int), .int .i64 (i0 : Int)] ++ nuns 11
def Qmb (_p1 : Val) (_p2 : BA) (_o0 : Decoder) (_i0 : Nat) (v0_1 : Bool) (v0_2 : List PodTerm) : List Ob :=
  [⟨1, 0, false, [.bool v0_1]⟩, ⟨5, 0, true, (PodTerm.rows v0_2).flatten⟩]
def Qg8 (p1 : Val) (p2 : BA) (o0 : Decoder) (i0 : Nat) (v0_1 : Bool) (v0_2 : List PodTerm) : En := .loop 1 Ir.Qhn Ir.Q1e9 (Qvn p1 p2 o0 i0 v0_1 v0_2) (Qmb p1 p2 o0 i0 v0_1 v0_2)
def Qo9 (_p1 : Val) (_p2 : BA) (_o0 : Decoder) (q0 : Bool) (q1 : List PodTerm) (z : Nat → PV) (_zo : Nat → List PV) : St :=
  ⟨zr z 0 9 ++ [.ms 1 5 0 (List.length q1)] ++ zr z 10 20, [(0, ⟨1, 0, false, [.bool q0]⟩), (1, ⟨5, 0, true, (PodTerm.rows q1).flatten⟩)], 66⟩
theorem Q12s (p1 : Val) (p2 : BA) (o0 : Decoder) (i0 : Nat) (v0_1 : Bool) (v0_2 : List PodTerm) : VOK (Go.Pv.look (number 0 (Qmb p1 p2 o0 i0 v0_1 v0_2))) [(1, PodTerm.rows v0_2)] := (VOK.cons (show Seen _ _ from Q42 (ob := ⟨5, 0, true, (PodTerm.rows v0_2).flatten⟩) (PodTerm.Qp v0_2 5 rfl)) VOK.nil)
def Qgj (p1 : Val) (p2 : BA) (o0 : Decoder) (e : En) (q : Bool × (List PodTerm)) : Prop := ∃ z zo, Qi G e (.st (.exit 0) (Qo9 p1 p2 o0 q.1 q.2 z zo))
theorem Quc (p1 : Val) (p2 : BA) (o0 : Decoder) {e e' : En} (h : ∀ r, Qi G e r → Qi G e' r) : ∀ q, Qgj p1 p2 o0 e q → Qgj p1 p2 o0 e' q
  | _, ⟨z, zo, hz⟩ => ⟨z, zo, h _ hz⟩
def Qba (p1 : Val) (p2 : BA) (o0 : Decoder) : Prop := (List.length (s_Kj p1 p2 4 o0).1.list ≤ 137438953472) ∧ (∀ x0 ∈ (s_Kj p1 p2 4 o0).1.list, H_Ko x0) ∧ True
def Qr9 (p1 : Val) (p2 : BA) (o0 : Decoder) (i0 : Nat) (_v0_1 : Bool) (_v0_2 : List PodTerm) : List PV :=
  [.un, .un, .un, .fn 92 [.bx 0 0] []] ++ nuns 12 ++ [.sl (Val.rows (s_Kj p1 p2 4 o0).1.list), .int .i64 ((List.length (s_Kj p1 p2 4 o0).1.list) : Int), .int .i64 (i0 : Int), .bool false]
def Qm7 (_p1 : Val) (_p2 : BA) (_o0 : Decoder) (_i0 : Nat) (_v0_1 : Bool) (_v0_2 : List PodTerm) : List (Nat × List PV) :=
  []
theorem Q192 (p1 : Val) (p2 : BA) (o0 : Decoder) (_H : Qba p1 p2 o0) (i0 : Nat) (v0_1 : Bool) (v0_2 : List PodTerm) (_ho0_0 : List.length v0_2 ≤ i0) (hc0 : (decide ((i0 : Int) < ((List.length (s_Kj p1 p2 4 o0).1.list) : Int))) = false) : Qgj p1 p2 o0 (Qg8 p1 p2 o0 i0 v0_1 v0_2) (v0_1, v0_2) := by
 exact ⟨(envF (Qr9 p1 p2 o0 i0 v0_1 v0_2)), (zoF (Qm7 p1 p2 o0 i0 v0_1 v0_2)), Q10 (Q12s p1 p2 o0 i0 v0_1 v0_2) (x := ((.exit 0), Qo9 p1 p2 o0 v0_1 v0_2 (envF (Qr9 p1 p2 o0 i0 v0_1 v0_2)) (zoF (Qm7 p1 p2 o0 i0 v0_1 v0_2)))) [hB 0 hc0] [] (by kernel_rfl)⟩
theorem Q16m (p1 : Val) (p2 : BA) (o0 : Decoder) (H : Qba p1 p2 o0) (x0 : Val) (i0 : Nat) (v0_1 : Bool) (v0_2 : List PodTerm) (hx0 : (s_Kj p1 p2 4 o0).1.list[i0]? = some x0) (hi0 : i0 < List.length (s_Kj p1 p2 4 o0).1.list) (ho0_0 : List.length v0_2 ≤ i0) (hc0 : (decide ((i0 : Int) < ((List.length (s_Kj p1 p2 4 o0).1.list) : Int))) = true) {r : Rs} (hr : Qi G (Qg8 p1 p2 o0 (i0 + 1) (s_Ko x0 (Decoder.mk v0_1)).2.failed (v0_2 ++ [(s_Ko x0 (Decoder.mk v0_1)).1])) r) : Qi G (Qg8 p1 p2 o0 i0 v0_1 v0_2) r := by
 have hB0 := H.1
 exact Qw (Q12s p1 p2 o0 i0 v0_1 v0_2) (y := (Qvn p1 p2 o0 (i0 + 1) (s_Ko x0 (Decoder.mk v0_1)).2.failed (v0_2 ++ [(s_Ko x0 (Decoder.mk v0_1)).1]), Qmb p1 p2 o0 (i0 + 1) (s_Ko x0 (Decoder.mk v0_1)).2.failed (v0_2 ++ [(s_Ko x0 (Decoder.mk v0_1)).1]))) [hB 0 hc0, hP 0 (Q15 5 (Val.rows (s_Kj p1 p2 4 o0).1.list) i0 _ (Val.Qe hx0) rfl), hV 8 [(642, PodTerm.rows (v0_2 ++ [(s_Ko x0 (Decoder.mk v0_1)).1]))] (Q3g 1 578 642 5 56 0 0 true (PodTerm.rows v0_2) (PodTerm.rows (v0_2 ++ [(s_Ko x0 (Decoder.mk v0_1)).1])) (PodTerm.cells (s_Ko x0 (Decoder.mk v0_1)).1) (List.length v0_2) (List.length (v0_2 ++ [(s_Ko x0 (Decoder.mk v0_1)).1])) rfl (PodTerm.Q9 v0_2).symm (PodTerm.Q9 (v0_2 ++ [(s_Ko x0 (Decoder.mk v0_1)).1])).symm (PodTerm.Q1n v0_2 (s_Ko x0 (Decoder.mk v0_1)).1) (PodTerm.Q16 v0_2) rfl (by omega)), hS 0 true (PodTerm.Qp (v0_2 ++ [(s_Ko x0 (Decoder.mk v0_1)).1]) 5 rfl), hP 1 (Q25 i0 (by omega))] [aN (t_Ko x0 (Decoder.mk v0_1) (H.2.1 x0 (Q13 hx0)))] (by kernel_rfl) hr
theorem Qvj (p1 : Val) (p2 : BA) (o0 : Decoder) (H : Qba p1 p2 o0) : ∀ (r0 : List Val) (i0 : Nat) (v0_1 : Bool) (v0_2 : List PodTerm), List.drop i0 (s_Kj p1 p2 4 o0).1.list = r0 → List.length v0_2 ≤ i0 → Qgj p1 p2 o0 (Qg8 p1 p2 o0 i0 v0_1 v0_2) (Q5s p1 p2 o0 r0 i0 v0_1 v0_2)
 | [], i0, v0_1, v0_2, hd, ho0_0 => by
  have hc0 : (decide ((i0 : Int) < ((List.length (s_Kj p1 p2 4 o0).1.list) : Int))) = false := by have := Q1v hd; simp; omega
  rw [Q5s]
  exact Q192 p1 p2 o0 H i0 v0_1 v0_2 ho0_0 hc0
 | x0 :: r0, i0, v0_1, v0_2, hd, ho0_0 => by
  obtain ⟨hx0, hi0, hd'⟩ := Q1s hd
  have hc0 : (decide ((i0 : Int) < ((List.length (s_Kj p1 p2 4 o0).1.list) : Int))) = true := by simp; omega
  rw [Q5s]
  exact Quc p1 p2 o0 (fun r hr => Q16m p1 p2 o0 H x0 i0 v0_1 v0_2 hx0 hi0 ho0_0 hc0 hr) _ (Qvj p1 p2 o0 H r0 (i0 + 1) (s_Ko x0 (Decoder.mk v0_1)).2.failed (v0_2 ++ [(s_Ko x0 (Decoder.mk v0_1)).1]) hd' (by first | omega | (simp; omega)))
def Qjm (p1 : Val) (p2 : BA) (o0 : Decoder) : List PodTerm × Decoder := ((dE PodTerm.dec p1 p2).1, ft o0 (isM p1 && (dE PodTerm.dec p1 p2).2))
theorem Q12m (p1 : Val) (p2 : BA) (o0 : Decoder) : ∀ (l : List Val) (i : Nat) (b : Bool) (a : List PodTerm), Q5s p1 p2 o0 l i b a = (b || !(l.all fun x => (PodTerm.dec x).2), a ++ l.map (fun x => (PodTerm.dec x).1))
  | [], _, b, a => by rw [Q5s]; simp
  | x :: l, i, b, a => by
    rw [Q5s]
    refine (Q12m p1 p2 o0 l (i + 1) (b || !(PodTerm.dec x).2) (a ++ [(PodTerm.dec x).1])).trans ?_
    simp only [List.append_assoc, List.singleton_append, List.map_cons, List.all_cons, Bool.not_and, Bool.or_assoc]
theorem Q1or (p1 : Val) (p2 : BA) (o0 : Decoder) : Qjm p1 p2 o0 = (((Q5s p1 p2 o0 (s_Kj p1 p2 4 o0).1.list 0 (s_Kj p1 p2 4 o0).2.failed []).2, (Decoder.mk (Q5s p1 p2 o0 (s_Kj p1 p2 4 o0).1.list 0 (s_Kj p1 p2 4 o0).2.failed []).1))) := by
  rw [Q12m]
  unfold s_Kj Qjm
  simp only [getL, Q3t]
  refine Prod.ext rfl ?_
  rw [Q6f o0.failed (isM p1) _ _ _ (Qeq (prt p1 p2)), Q46]
  rfl
def Q1oi (p1 : Val) (p2 : BA) (o0 : Decoder) : En := .call 91 [.bx 0 0, .agg (Val.cells p1), .str p2, .fn 92 [.bx 0 0] []] [⟨1, 0, false, (Decoder.cells o0)⟩]
def Q1mz (_p1 : Val) (_p2 : BA) (_o0 : Decoder) (q0 : List PodTerm) (q1 : Decoder) : Rs := .ret (.sl (PodTerm.rows q0)) [⟨1, 0, false, (Decoder.cells q1)⟩]
def Q1hz (p1 : Val) (p2 : BA) (o0 : Decoder) : Rs := Q1mz p1 p2 o0 (Qjm p1 p2 o0).1 (Qjm p1 p2 o0).2
def Q1h5 (p1 : Val) : Prop := Val.Sm 1000000000 p1
theorem Q12k (p1 : Val) (p2 : BA) (o0 : Decoder) (H : Q1h5 p1) : (H_Kj p1) ∧ (Qba p1 p2 o0) ∧ True := by
  have hl := Q6h (Q2h H p2)
  refine ⟨H, ?_, trivial⟩
  unfold Qba s_Kj
  simp only [getL]
  exact ⟨Nat.le_trans hl.1 (Nat.le_of_ble_eq_true rfl), hl.2, trivial⟩
theorem Q1rx (p1 : Val) (p2 : BA) (o0 : Decoder) (H : Q1h5 p1) : Qi G (Q1oi p1 p2 o0) (Q1hz p1 p2 o0) := by
 unfold Q1hz
 rw [Q1or]
 have hl0 := Qvj p1 p2 o0 ((Q12k p1 p2 o0 H).2.1) (s_Kj p1 p2 4 o0).1.list 0 (s_Kj p1 p2 4 o0).2.failed [] (by simp) (by simp)
 obtain ⟨z0, zo0, hl0⟩ := hl0
 exact Qm (fn := Ir.K19) rfl (h := [⟨1, 0, false, (Decoder.cells o0)⟩]) (vw := []) VOK.nil [hP 8 (Qz (Val.rows (s_Kj p1 p2 4 o0).1.list) (List.length (s_Kj p1 p2 4 o0).1.list) (Val.Q9 (s_Kj p1 p2 4 o0).1.list)), hS 0 true (PodTerm.Qp (Q5s p1 p2 o0 (s_Kj p1 p2 4 o0).1.list 0 (s_Kj p1 p2 4 o0).2.failed []).2 5 rfl), hQ (PodTerm.Q9 (Q5s p1 p2 o0 (s_Kj p1 p2 4 o0).1.list 0 (s_Kj p1 p2 4 o0).2.failed []).2).symm] [aN (t_Kj p1 p2 4 o0 (Q12k p1 p2 o0 H).1), aV [(1, PodTerm.rows (Q5s p1 p2 o0 (s_Kj p1 p2 4 o0).1.list 0 (s_Kj p1 p2 4 o0).2.failed []).2)] hl0] (by kernel_rfl)
def s_Kt (p1 : Val) (o0 : Decoder) : SpreadRule × Decoder := ((SpreadRule.dec p1).1, ft o0 (SpreadRule.dec p1).2)
theorem e_Kt (p1 : Val) (o0 : Decoder) : s_Kt p1 o0 = (((SpreadRule.mk (s_Kn p1 Q17 (s_Kw p1 o0).2).1 (s_Kv p1 Ql (s_Kn p1 Q17 (s_Kw p1 o0).2).2).1 (Q51 p1 Q8 (s_Kv p1 Ql (s_Kn p1 Q17 (s_Kw p1 o0).2).2).2).1 (s_Ki p1 Q7 (Q51 p1 Q8 (s_Kv p1 Ql (s_Kn p1 Q17 (s_Kw p1 o0).2).2).2).2).1), (s_Ki p1 Q7 (Q51 p1 Q8 (s_Kv p1 Ql (s_Kn p1 Q17 (s_Kw p1 o0).2).2).2).2).2)) := by
  simp only [s_Kw, s_Kn, s_Kv, s_Ki, Q51, s_Kt, SpreadRule.dec, Qal, Bool.and_assoc, Bool.and_left_comm, Bool.and_comm, Bool.and_self_left]
def c_Kt (p1 : Val) (o0 : Decoder) : En := .call 94 [.bx 0 0, .agg (Val.cells p1)] [⟨1, 0, false, (Decoder.cells o0)⟩]
def r_Kt (_p1 : Val) (_o0 : Decoder) (q0 : SpreadRule) (q1 : Decoder) : Rs := .ret (.agg (SpreadRule.cells q0)) [⟨1, 0, false, (Decoder.cells q1)⟩]
def a_Kt (p1 : Val) (o0 : Decoder) : Rs := r_Kt p1 o0 (s_Kt p1 o0).1 (s_Kt p1 o0).2
def H_Kt (p1 : Val) : Prop := Val.Sm 1000000000 p1
theorem Qsx (p1 : Val) (_o0 : Decoder) (H : H_Kt p1) : (H_Kn p1) ∧ (H_Kv p1) ∧ (Q150 p1) ∧ (H_Ki p1) ∧ True := by
  repeat' with_reducible apply And.intro
  all_goals first | exact True.intro | exact H | exact Qag (Q2h H _)
theorem t_Kt (p1 : Val) (o0 : Decoder) (H : H_Kt p1) : Qi G (c_Kt p1 o0) (a_Kt p1 o0) := by
 unfold a_Kt
 rw [e_Kt]
 exact Qm (fn := Ir.Kt) rfl (h := [⟨1, 0, false, (Decoder.cells o0)⟩]) (vw := []) VOK.nil [] [aN (t_Kw p1 o0), aN (t_Kn p1 Q17 (s_Kw p1 o0).2 (Qsx p1 o0 H).1), aN (t_Kv p1 Ql (s_Kn p1 Q17 (s_Kw p1 o0).2).2 (Qsx p1 o0 H).2.1), aN (Q1cx p1 Q8 (s_Kv p1 Ql (s_Kn p1 Q17 (s_Kw p1 o0).2).2).2 (Qsx p1 o0 H).2.2.1), aN (t_Ki p1 Q7 (Q51 p1 Q8 (s_Kv p1 Ql (s_Kn p1 Q17 (s_Kw p1 o0).2).2).2).2 (Qsx p1 o0 H).2.2.2.1)] (by kernel_rfl)
def Q5f (p1 : Val) (p2 : BA) (o0 : Decoder) : List Val → Nat → Bool → (List SpreadRule) → Bool × (List SpreadRule)
 | [], _i0, v0_1, v0_2 =>
  (v0_1, v0_2)
 | x0 :: r0, i0, v0_1, v0_2 =>
  Q5f p1 p2 o0 r0 (i0 + 1) (s_Kt x0 (Decoder.mk v0_1)).2.failed (v0_2 ++ [(s_Kt x0 (Decoder.mk v0_1)).1])
def Qyh (p1 : Val) (p2 : BA) (o0 : Decoder) (i0 : Nat) (_v0_1 : Bool) (v0_2 : List SpreadRule) : List PV :=
  [.un, .un, .un, .fn 94 [.bx 0 0] []] ++ nuns 5 ++ [.ms 1 4 0 (List.length v0_2)] ++ nuns 6 ++ [.sl (Val.rows (s_Kj p1 p2 4 o0).1.list), .int .i64 ((List.length (s_Kj p1 p2 4 o0).1.list) : Int), .int .i64 (i0 : Int)] ++ nuns 11
def Qkv (_p1 : Val) (_p2 : BA) (_o0 : Decoder) (_i0 : Nat) (v0_1 : Bool) (v0_2 : List SpreadRule) : List Ob :=
  [⟨1, 0, false, [.bool v0_1]⟩, ⟨4, 0, true, (SpreadRule.rows v0_2).flatten⟩]
def Qgp (p1 : Val) (p2 : BA) (o0 : Decoder) (i0 : Nat) (v0_1 : Bool) (v0_2 : List SpreadRule) : En := .loop 1 Ir.Qmx Ir.Q1dz (Qyh p1 p2 o0 i0 v0_1 v0_2) (Qkv p1 p2 o0 i0 v0_1 v0_2)
def Qqy (_p1 : Val) (_p2 : BA) (_o0 : Decoder) (q0 : Bool) (q1 : List SpreadRule) (z : Nat → PV) (_zo : Nat → List PV) : St :=
  ⟨zr z 0 9 ++ [.ms 1 4 0 (List.length q1)] ++ zr z 10 20, [(0, ⟨1, 0, false, [.bool q0]⟩), (1, ⟨4, 0, true, (SpreadRule.rows q1).flatten⟩)], 66⟩
theorem Q12z (p1 : Val) (p2 : BA) (o0 : Decoder) (i0 : Nat) (v0_1 : Bool) (v0_2 : List SpreadRule) : VOK (Go.Pv.look (number 0 (Qkv p1 p2 o0 i0 v0_1 v0_2))) [(1, SpreadRule.rows v0_2)] := (VOK.cons (show Seen _ _ from Q42 (ob := ⟨4, 0, true, (SpreadRule.rows v0_2).flatten⟩) (SpreadRule.Qp v0_2 4 rfl)) VOK.nil)
def Qh4 (p1 : Val) (p2 : BA) (o0 : Decoder) (e : En) (q : Bool × (List SpreadRule)) : Prop := ∃ z zo, Qi G e (.st (.exit 0) (Qqy p1 p2 o0 q.1 q.2 z zo))
theorem Qs3 (p1 : Val) (p2 : BA) (o0 : Decoder) {e e' : En} (h : ∀ r, Qi G e r → Qi G e' r) : ∀ q, Qh4 p1 p2 o0 e q → Qh4 p1 p2 o0 e' q
  | _, ⟨z, zo, hz⟩ => ⟨z, zo, h _ hz⟩
def Qb5 (p1 : Val) (p2 : BA) (o0 : Decoder) : Prop := (List.length (s_Kj p1 p2 4 o0).1.list ≤ 137438953472) ∧ (∀ x0 ∈ (s_Kj p1 p2 4 o0).1.list, H_Kt x0) ∧ True
def Qoo (p1 : Val) (p2 : BA) (o0 : Decoder) (i0 : Nat) (_v0_1 : Bool) (_v0_2 : List SpreadRule) : List PV :=
  [.un, .un, .un, .fn 94 [.bx 0 0] []] ++ nuns 12 ++ [.sl (Val.rows (s_Kj p1 p2 4 o0).1.list), .int .i64 ((List.length (s_Kj p1 p2 4 o0).1.list) : Int), .int .i64 (i0 : Int), .bool false]
def Qip (_p1 : Val) (_p2 : BA) (_o0 : Decoder) (_i0 : Nat) (_v0_1 : Bool) (_v0_2 : List SpreadRule) : List (Nat × List PV) :=
  []
theorem Q16h (p1 : Val) (p2 : BA) (o0 : Decoder) (_H : Qb5 p1 p2 o0) (i0 : Nat) (v0_1 : Bool) (v0_2 : List SpreadRule) (_ho0_0 : List.length v0_2 ≤ i0) (hc0 : (decide ((i0 : Int) < ((List.length (s_Kj p1 p2 4 o0).1.list) : Int))) = false) : Qh4 p1 p2 o0 (Qgp p1 p2 o0 i0 v0_1 v0_2) (v0_1, v0_2) := by
 exact ⟨(envF (Qoo p1 p2 o0 i0 v0_1 v0_2)), (zoF (Qip p1 p2 o0 i0 v0_1 v0_2)), Q10 (Q12z p1 p2 o0 i0 v0_1 v0_2) (x := ((.exit 0), Qqy p1 p2 o0 v0_1 v0_2 (envF (Qoo p1 p2 o0 i0 v0_1 v0_2)) (zoF (Qip p1 p2 o0 i0 v0_1 v0_2)))) [hB 0 hc0] [] (by kernel_rfl)⟩
theorem Q14z (p1 : Val) (p2 : BA) (o0 : Decoder) (H : Qb5 p1 p2 o0) (x0 : Val) (i0 : Nat) (v0_1 : Bool) (v0_2 : List SpreadRule) (hx0 : (s_Kj p1 p2 4 o0).1.list[i0]? = some x0) (hi0 : i0 < List.length (s_Kj p1 p2 4 o0).1.list) (ho0_0 : List.length v0_2 ≤ i0) (hc0 : (decide ((i0 : Int) < ((List.length (s_Kj p1 p2 4 o0).1.list) : Int))) = true) {r : Rs} (hr : Qi G (Qgp p1 p2 o0 (i0 + 1) (s_Kt x0 (Decoder.mk v0_1)).2.failed (v0_2 ++ [(s_Kt x0 (Decoder.mk v0_1)).1])) r) : Qi G (Qgp p1 p2 o0 i0 v0_1 v0_2) r := by
 have hB0 := H.1
 exact Qw (Q12z p1 p2 o0 i0 v0_1 v0_2) (y := (Qyh p1 p2 o0 (i0 + 1) (s_Kt x0 (Decoder.mk v0_1)).2.failed (v0_2 ++ [(s_Kt x0 (Decoder.mk v0_1)).1]), Qkv p1 p2 o0 (i0 + 1) (s_Kt x0 (Decoder.mk v0_1)).2.failed (v0_2 ++ [(s_Kt x0 (Decoder.mk v0_1)).1]))) [hB 0 hc0, hP 0 (Q15 5 (Val.rows (s_Kj p1 p2 4 o0).1.list) i0 _ (Val.Qe hx0) rfl), hV 8 [(642, SpreadRule.rows (v0_2 ++ [(s_Kt x0 (Decoder.mk v0_1)).1]))] (Q3g 1 578 642 4 56 0 0 true (SpreadRule.rows v0_2) (SpreadRule.rows (v0_2 ++ [(s_Kt x0 (Decoder.mk v0_1)).1])) (SpreadRule.cells (s_Kt x0 (Decoder.mk v0_1)).1) (List.length v0_2) (List.length (v0_2 ++ [(s_Kt x0 (Decoder.mk v0_1)).1])) rfl (SpreadRule.Q9 v0_2).symm (SpreadRule.Q9 (v0_2 ++ [(s_Kt x0 (Decoder.mk v0_1)).1])).symm (SpreadRule.Q1n v0_2 (s_Kt x0 (Decoder.mk v0_1)).1) (SpreadRule.Q16 v0_2) rfl (by omega)), hS 0 true (SpreadRule.Qp (v0_2 ++ [(s_Kt x0 (Decoder.mk v0_1)).1]) 4 rfl), hP 1 (Q25 i0 (by omega))] [aN (t_Kt x0 (Decoder.mk v0_1) (H.2.1 x0 (Q13 hx0)))] (by kernel_rfl) hr
theorem Qvs (p1 : Val) (p2 : BA) (o0 : Decoder) (H : Qb5 p1 p2 o0) : ∀ (r0 : List Val) (i0 : Nat) (v0_1 : Bool) (v0_2 : List SpreadRule), List.drop i0 (s_Kj p1 p2 4 o0).1.list = r0 → List.length v0_2 ≤ i0 → Qh4 p1 p2 o0 (Qgp p1 p2 o0 i0 v0_1 v0_2) (Q5f p1 p2 o0 r0 i0 v0_1 v0_2)
 | [], i0, v0_1, v0_2, hd, ho0_0 => by
  have hc0 : (decide ((i0 : Int) < ((List.length (s_Kj p1 p2 4 o0).1.list) : Int))) = false := by have := Q1v hd; simp; omega
  rw [Q5f]
  exact Q16h p1 p2 o0 H i0 v0_1 v0_2 ho0_0 hc0
 | x0 :: r0, i0, v0_1, v0_2, hd, ho0_0 => by
  obtain ⟨hx0, hi0, hd'⟩ := Q1s hd
  have hc0 : (decide ((i0 : Int) < ((List.length (s_Kj p1 p2 4 o0).1.list) : Int))) = true := by simp; omega
  rw [Q5f]
  exact Qs3 p1 p2 o0 (fun r hr => Q14z p1 p2 o0 H x0 i0 v0_1 v0_2 hx0 hi0 ho0_0 hc0 hr) _ (Qvs p1 p2 o0 H r0 (i0 + 1) (s_Kt x0 (Decoder.mk v0_1)).2.failed (v0_2 ++ [(s_Kt x0 (Decoder.mk v0_1)).1]) hd' (by first | omega | (simp; omega)))
def Qt4 (p1 : Val) (p2 : BA) (o0 : Decoder) : List SpreadRule × Decoder := ((dE SpreadRule.dec p1 p2).1, ft o0 (isM p1 && (dE SpreadRule.dec p1 p2).2))
theorem Q12e (p1 : Val) (p2 : BA) (o0 : Decoder) : ∀ (l : List Val) (i : Nat) (b : Bool) (a : List SpreadRule), Q5f p1 p2 o0 l i b a = (b || !(l.all fun x => (SpreadRule.dec x).2), a ++ l.map (fun x => (SpreadRule.dec x).1))
  | [], _, b, a => by rw [Q5f]; simp
  | x :: l, i, b, a => by
    rw [Q5f]
    refine (Q12e p1 p2 o0 l (i + 1) (b || !(SpreadRule.dec x).2) (a ++ [(SpreadRule.dec x).1])).trans ?_
    simp only [List.append_assoc, List.singleton_append, List.map_cons, List.all_cons, Bool.not_and, Bool.or_assoc]
theorem Q1o6 (p1 : Val) (p2 : BA) (o0 : Decoder) : Qt4 p1 p2 o0 = (((Q5f p1 p2 o0 (s_Kj p1 p2 4 o0).1.list 0 (s_Kj p1 p2 4 o0).2.failed []).2, (Decoder.mk (Q5f p1 p2 o0 (s_Kj p1 p2 4 o0).1.list 0 (s_Kj p1 p2 4 o0).2.failed []).1))) := by
  rw [Q12e]
  unfold s_Kj Qt4
  simp only [getL, Q3t]
  refine Prod.ext rfl ?_
  rw [Q6f o0.failed (isM p1) _ _ _ (Qeq (prt p1 p2)), Q46]
  rfl
def Q1sr (p1 : Val) (p2 : BA) (o0 : Decoder) : En := .call 93 [.bx 0 0, .agg (Val.cells p1), .str p2, .fn 94 [.bx 0 0] []] [⟨1, 0, false, (Decoder.cells o0)⟩]
def Q1si (_p1 : Val) (_p2 : BA) (_o0 : Decoder) (q0 : List SpreadRule) (q1 : Decoder) : Rs := .ret (.sl (SpreadRule.rows q0)) [⟨1, 0, false, (Decoder.cells q1)⟩]
def Q1lc (p1 : Val) (p2 : BA) (o0 : Decoder) : Rs := Q1si p1 p2 o0 (Qt4 p1 p2 o0).1 (Qt4 p1 p2 o0).2
def Q1fn (p1 : Val) : Prop := Val.Sm 1000000000 p1
theorem Q10k (p1 : Val) (p2 : BA) (o0 : Decoder) (H : Q1fn p1) : (H_Kj p1) ∧ (Qb5 p1 p2 o0) ∧ True := by
  have hl := Q6h (Q2h H p2)
  refine ⟨H, ?_, trivial⟩
  unfold Qb5 s_Kj
  simp only [getL]
  exact ⟨Nat.le_trans hl.1 (Nat.le_of_ble_eq_true rfl), hl.2, trivial⟩
theorem Q1s2 (p1 : Val) (p2 : BA) (o0 : Decoder) (H : Q1fn p1) : Qi G (Q1sr p1 p2 o0) (Q1lc p1 p2 o0) := by
 unfold Q1lc
 rw [Q1o6]
 have hl0 := Qvs p1 p2 o0 ((Q10k p1 p2 o0 H).2.1) (s_Kj p1 p2 4 o0).1.list 0 (s_Kj p1 p2 4 o0).2.failed [] (by simp) (by simp)
 obtain ⟨z0, zo0, hl0⟩ := hl0
 exact Qm (fn := Ir.K1a) rfl (h := [⟨1, 0, false, (Decoder.cells o0)⟩]) (vw := []) VOK.nil [hP 8 (Qz (Val.rows (s_Kj p1 p2 4 o0).1.list) (List.length (s_Kj p1 p2 4 o0).1.list) (Val.Q9 (s_Kj p1 p2 4 o0).1.list)), hS 0 true (SpreadRule.Qp (Q5f p1 p2 o0 (s_Kj p1 p2 4 o0).1.list 0 (s_Kj p1 p2 4 o0).2.failed []).2 4 rfl), hQ (SpreadRule.Q9 (Q5f p1 p2 o0 (s_Kj p1 p2 4 o0).1.list 0 (s_Kj p1 p2 4 o0).2.failed []).2).symm] [aN (t_Kj p1 p2 4 o0 (Q10k p1 p2 o0 H).1), aV [(1, SpreadRule.rows (Q5f p1 p2 o0 (s_Kj p1 p2 4 o0).1.list 0 (s_Kj p1 p2 4 o0).2.failed []).2)] hl0] (by kernel_rfl)
def Q7u (p1 : Val) (o0 : Decoder) : Toleration × Decoder := ((Toleration.dec p1).1, ft o0 (Toleration.dec p1).2)
theorem Q1tb (p1 : Val) (o0 : Decoder) : Q7u p1 o0 = (((Toleration.mk (s_Kv p1 Qs (s_Kw p1 o0).2).1 (s_Kv p1 Qo (s_Kv p1 Qs (s_Kw p1 o0).2).2).1 (s_Ki p1 Q1j (s_Kv p1 Qo (s_Kv p1 Qs (s_Kw p1 o0).2).2).2).1 (s_Kn p1 Qr (s_Ki p1 Q1j (s_Kv p1 Qo (s_Kv p1 Qs (s_Kw p1 o0).2).2).2).2).1 (s_Kn p1 Q1h (s_Kn p1 Qr (s_Ki p1 Q1j (s_Kv p1 Qo (s_Kv p1 Qs (s_Kw p1 o0).2).2).2).2).2).1), (s_Kn p1 Q1h (s_Kn p1 Qr (s_Ki p1 Q1j (s_Kv p1 Qo (s_Kv p1 Qs (s_Kw p1 o0).2).2).2).2).2).2)) := by
  simp only [s_Kw, s_Kn, s_Kv, s_Ki, Q7u, Toleration.dec, Qal, Bool.and_assoc, Bool.and_left_comm, Bool.and_comm, Bool.and_self_left]
def Q1me (p1 : Val) (o0 : Decoder) : En := .call 96 [.bx 0 0, .agg (Val.cells p1)] [⟨1, 0, false, (Decoder.cells o0)⟩]
def Q1nm (_p1 : Val) (_o0 : Decoder) (q0 : Toleration) (q1 : Decoder) : Rs := .ret (.agg (Toleration.cells q0)) [⟨1, 0, false, (Decoder.cells q1)⟩]
def Q1kt (p1 : Val) (o0 : Decoder) : Rs := Q1nm p1 o0 (Q7u p1 o0).1 (Q7u p1 o0).2
def Q1hs (p1 : Val) : Prop := Val.Sm 1000000000 p1
theorem Qbl (p1 : Val) (_o0 : Decoder) (H : Q1hs p1) : (H_Kv p1) ∧ (H_Ki p1) ∧ (H_Kn p1) ∧ True := by
  repeat' with_reducible apply And.intro
  all_goals first | exact True.intro | exact H | exact Qag (Q2h H _)
theorem Q1pi (p1 : Val) (o0 : Decoder) (H : Q1hs p1) : Qi G (Q1me p1 o0) (Q1kt p1 o0) := by
 unfold Q1kt
 rw [Q1tb]
 exact Qm (fn := Ir.K10) rfl (h := [⟨1, 0, false, (Decoder.cells o0)⟩]) (vw := []) VOK.nil [] [aN (t_Kw p1 o0), aN (t_Kv p1 Qs (s_Kw p1 o0).2 (Qbl p1 o0 H).1), aN (t_Kv p1 Qo (s_Kv p1 Qs (s_Kw p1 o0).2).2 (Qbl p1 o0 H).1), aN (t_Ki p1 Q1j (s_Kv p1 Qo (s_Kv p1 Qs (s_Kw p1 o0).2).2).2 (Qbl p1 o0 H).2.1), aN (t_Kn p1 Qr (s_Ki p1 Q1j (s_Kv p1 Qo (s_Kv p1 Qs (s_Kw p1 o0).2).2).2).2 (Qbl p1 o0 H).2.2.1), aN (t_Kn p1 Q1h (s_Kn p1 Qr (s_Ki p1 Q1j (s_Kv p1 Qo (s_Kv p1 Qs (s_Kw p1 o0).2).2).2).2).2 (Qbl p1 o0 H).2.2.1)] (by kernel_rfl)
def Q5o (p1 : Val) (p2 : BA) (o0 : Decoder) : List Val → Nat → Bool → (List Toleration) → Bool × (List Toleration)
 | [], _i0, v0_1, v0_2 =>
  (v0_1, v0_2)
 | x0 :: r0, i0, v0_1, v0_2 =>
  Q5o p1 p2 o0 r0 (i0 + 1) (Q7u x0 (Decoder.mk v0_1)).2.failed (v0_2 ++ [(Q7u x0 (Decoder.mk v0_1)).1])
def Qvu (p1 : Val) (p2 : BA) (o0 : Decoder) (i0 : Nat) (_v0_1 : Bool) (v0_2 : List Toleration) : List PV :=
  [.un, .un, .un, .fn 96 [.bx 0 0] []] ++ nuns 5 ++ [.ms 1 5 0 (List.length v0_2)] ++ nuns 6 ++ [.sl (Val.rows (s_Kj p1 p2 4 o0).1.list), .int .i64 ((List.length (s_Kj p1 p2 4 o0).1.list) : Int), .int .i64 (i0 : Int)] ++ nuns 11
def Qmq (_p1 : Val) (_p2 : BA) (_o0 : Decoder) (_i0 : Nat) (v0_1 : Bool) (v0_2 : List Toleration) : List Ob :=
  [⟨1, 0, false, [.bool v0_1]⟩, ⟨5, 0, true, (Toleration.rows v0_2).flatten⟩]
def Qh1 (p1 : Val) (p2 : BA) (o0 : Decoder) (i0 : Nat) (v0_1 : Bool) (v0_2 : List Toleration) : En := .loop 1 Ir.Qk2 Ir.Q1ex (Qvu p1 p2 o0 i0 v0_1 v0_2) (Qmq p1 p2 o0 i0 v0_1 v0_2)
def Qqw (_p1 : Val) (_p2 : BA) (_o0 : Decoder) (q0 : Bool) (q1 : List Toleration) (z : Nat → PV) (_zo : Nat → List PV) : St :=
  ⟨zr z 0 9 ++ [.ms 1 5 0 (List.length q1)] ++ zr z 10 20, [(0, ⟨1, 0, false, [.bool q0]⟩), (1, ⟨5, 0, true, (Toleration.rows q1).flatten⟩)], 66⟩
theorem Q12t (p1 : Val) (p2 : BA) (o0 : Decoder) (i0 : Nat) (v0_1 : Bool) (v0_2 : List Toleration) : VOK (Go.Pv.look (number 0 (Qmq p1 p2 o0 i0 v0_1 v0_2))) [(1, Toleration.rows v0_2)] := (VOK.cons (show Seen _ _ from Q42 (ob := ⟨5, 0, true, (Toleration.rows v0_2).flatten⟩) (Toleration.Qp v0_2 5 rfl)) VOK.nil)
def Qfn (p1 : Val) (p2 : BA) (o0 : Decoder) (e : En) (q : Bool × (List Toleration)) : Prop := ∃ z zo, Qi G e (.st (.exit 0) (Qqw p1 p2 o0 q.1 q.2 z zo))
theorem Qsw (p1 : Val) (p2 : BA) (o0 : Decoder) {e e' : En} (h : ∀ r, Qi G e r → Qi G e' r) : ∀ q, Qfn p1 p2 o0 e q → Qfn p1 p2 o0 e' q
  | _, ⟨z, zo, hz⟩ => ⟨z, zo, h _ hz⟩
def Qbd (p1 : Val) (p2 : BA) (o0 : Decoder) : Prop := (List.length (s_Kj p1 p2 4 o0).1.list ≤ 137438953472) ∧ (∀ x0 ∈ (s_Kj p1 p2 4 o0).1.list, Q1hs x0) ∧ True
def Qop (p1 : Val) (p2 : BA) (o0 : Decoder) (i0 : Nat) (_v0_1 : Bool) (_v0_2 : List Toleration) : List PV :=
  [.un, .un, .un, .fn 96 [.bx 0 0] []] ++ nuns 12 ++ [.sl (Val.rows (s_Kj p1 p2 4 o0).1.list), .int .i64 ((List.length (s_Kj p1 p2 4 o0).1.list) : Int), .int .i64 (i0 : Int), .bool false]
def Qku (_p1 : Val) (_p2 : BA) (_o0 : Decoder) (_i0 : Nat) (_v0_1 : Bool) (_v0_2 : List Toleration) : List (Nat × List PV) :=
  []
theorem Q15m (p1 : Val) (p2 : BA) (o0 : Decoder) (_H : Qbd p1 p2 o0) (i0 : Nat) (v0_1 : Bool) (v0_2 : List Toleration) (_ho0_0 : List.length v0_2 ≤ i0) (hc0 : (decide ((i0 : Int) < ((List.length (s_Kj p1 p2 4 o0).1.list) : Int))) = false) : Qfn p1 p2 o0 (Qh1 p1 p2 o0 i0 v0_1 v0_2) (v0_1, v0_2) := by
 exact ⟨(envF (Qop p1 p2 o0 i0 v0_1 v0_2)), (zoF (Qku p1 p2 o0 i0 v0_1 v0_2)), Q10 (Q12t p1 p2 o0 i0 v0_1 v0_2) (x := ((.exit 0), Qqw p1 p2 o0 v0_1 v0_2 (envF (Qop p1 p2 o0 i0 v0_1 v0_2)) (zoF (Qku p1 p2 o0 i0 v0_1 v0_2)))) [hB 0 hc0] [] (by kernel_rfl)⟩
theorem Q18g (p1 : Val) (p2 : BA) (o0 : Decoder) (H : Qbd p1 p2 o0) (x0 : Val) (i0 : Nat) (v0_1 : Bool) (v0_2 : List Toleration) (hx0 : (s_Kj p1 p2 4 o0).1.list[i0]? = some x0) (hi0 : i0 < List.length (s_Kj p1 p2 4 o0).1.list) (ho0_0 : List.length v0_2 ≤ i0) (hc0 : (decide ((i0 : Int) < ((List.length (s_Kj p1 p2 4 o0).1.list) : Int))) = true) {r : Rs} (hr : Qi G (Qh1 p1 p2 o0 (i0 + 1) (Q7u x0 (Decoder.mk v0_1)).2.failed (v0_2 ++ [(Q7u x0 (Decoder.mk v0_1)).1])) r) : Qi G (Qh1 p1 p2 o0 i0 v0_1 v0_2) r := by
 have hB0 := H.1
 exact Qw (Q12t p1 p2 o0 i0 v0_1 v0_2) (y := (Qvu p1 p2 o0 (i0 + 1) (Q7u x0 (Decoder.mk v0_1)).2.failed (v0_2 ++ [(Q7u x0 (Decoder.mk v0_1)).1]), Qmq p1 p2 o0 (i0 + 1) (Q7u x0 (Decoder.mk v0_1)).2.failed (v0_2 ++ [(Q7u x0 (Decoder.mk v0_1)).1]))) [hB 0 hc0, hP 0 (Q15 5 (Val.rows (s_Kj p1 p2 4 o0).1.list) i0 _ (Val.Qe hx0) rfl), hV 8 [(642, Toleration.rows (v0_2 ++ [(Q7u x0 (Decoder.mk v0_1)).1]))] (Q3g 1 578 642 5 56 0 0 true (Toleration.rows v0_2) (Toleration.rows (v0_2 ++ [(Q7u x0 (Decoder.mk v0_1)).1])) (Toleration.cells (Q7u x0 (Decoder.mk v0_1)).1) (List.length v0_2) (List.length (v0_2 ++ [(Q7u x0 (Decoder.mk v0_1)).1])) rfl (Toleration.Q9 v0_2).symm (Toleration.Q9 (v0_2 ++ [(Q7u x0 (Decoder.mk v0_1)).1])).symm (Toleration.Q1n v0_2 (Q7u x0 (Decoder.mk v0_1)).1) (Toleration.Q16 v0_2) rfl (by omega)), hS 0 true (Toleration.Qp (v0_2 ++ [(Q7u x0 (Decoder.mk v0_1)).1]) 5 rfl), hP 1 (Q25 i0 (by omega))] [aN (Q1pi x0 (Decoder.mk v0_1) (H.2.1 x0 (Q13 hx0)))] (by kernel_rfl) hr
theorem Qw4 (p1 : Val) (p2 : BA) (o0 : Decoder) (H : Qbd p1 p2 o0) : ∀ (r0 : List Val) (i0 : Nat) (v0_1 : Bool) (v0_2 : List Toleration), List.drop i0 (s_Kj p1 p2 4 o0).1.list = r0 → List.length v0_2 ≤ i0 → Qfn p1 p2 o0 (Qh1 p1 p2 o0 i0 v0_1 v0_2) (Q5o p1 p2 o0 r0 i0 v0_1 v0_2)
 | [], i0, v0_1, v0_2, hd, ho0_0 => by
  have hc0 : (decide ((i0 : Int) < ((List.length (s_Kj p1 p2 4 o0).1.list) : Int))) = false := by have := Q1v hd; simp; omega
  rw [Q5o]
  exact Q15m p1 p2 o0 H i0 v0_1 v0_2 ho0_0 hc0
 | x0 :: r0, i0, v0_1, v0_2, hd, ho0_0 => by
  obtain ⟨hx0, hi0, hd'⟩ := Q1s hd
  have hc0 : (decide ((i0 : Int) < ((List.length (s_Kj p1 p2 4 o0).1.list) : Int))) = true := by simp; omega
  rw [Q5o]
  exact Qsw p1 p2 o0 (fun r hr => Q18g p1 p2 o0 H x0 i0 v0_1 v0_2 hx0 hi0 ho0_0 hc0 hr) _ (Qw4 p1 p2 o0 H r0 (i0 + 1) (Q7u x0 (Decoder.mk v0_1)).2.failed (v0_2 ++ [(Q7u x0 (Decoder.mk v0_1)).1]) hd' (by first | omega | (simp; omega)))
def Qzi (p1 : Val) (p2 : BA) (o0 : Decoder) : List Toleration × Decoder := ((dE Toleration.dec p1 p2).1, ft o0 (isM p1 && (dE Toleration.dec p1 p2).2))
theorem Q12l (p1 : Val) (p2 : BA) (o0 : Decoder) : ∀ (l : List Val) (i : Nat) (b : Bool) (a : List Toleration), Q5o p1 p2 o0 l i b a = (b || !(l.all fun x => (Toleration.dec x).2), a ++ l.map (fun x => (Toleration.dec x).1))
  | [], _, b, a => by rw [Q5o]; simp
  | x :: l, i, b, a => by
    rw [Q5o]
    refine (Q12l p1 p2 o0 l (i + 1) (b || !(Toleration.dec x).2) (a ++ [(Toleration.dec x).1])).trans ?_
    simp only [List.append_assoc, List.singleton_append, List.map_cons, List.all_cons, Bool.not_and, Bool.or_assoc]
theorem Q1ns (p1 : Val) (p2 : BA) (o0 : Decoder) : Qzi p1 p2 o0 = (((Q5o p1 p2 o0 (s_Kj p1 p2 4 o0).1.list 0 (s_Kj p1 p2 4 o0).2.failed []).2, (Decoder.mk (Q5o p1 p2 o0 (s_Kj p1 p2 4 o0).1.list 0 (s_Kj p1 p2 4 o0).2.failed []).1))) := by
  rw [Q12l]
  unfold s_Kj Qzi
  simp only [getL, Q3t]
  refine Prod.ext rfl ?_
  rw [Q6f o0.failed (isM p1) _ _ _ (Qeq (prt p1 p2)), Q46]
  rfl
def Q1ny (p1 : Val) (p2 : BA) (o0 : Decoder) : En := .call 95 [.bx 0 0, .agg (Val.cells p1), .str p2, .fn 96 [.bx 0 0] []] [⟨1, 0, false, (Decoder.cells o0)⟩]
def Q1t3 (_p1 : Val) (_p2 : BA) (_o0 : Decoder) (q0 : List Toleration) (q1 : Decoder) : Rs := .ret (.sl (Toleration.rows q0)) [⟨1, 0, false, (Decoder.cells q1)⟩]
def Q1lu (p1 : Val) (p2 : BA) (o0 : Decoder) : Rs := Q1t3 p1 p2 o0 (Qzi p1 p2 o0).1 (Qzi p1 p2 o0).2
def Q1hu (p1 : Val) : Prop := Val.Sm 1000000000 p1
theorem Q13d (p1 : Val) (p2 : BA) (o0 : Decoder) (H : Q1hu p1) : (H_Kj p1) ∧ (Qbd p1 p2 o0) ∧ True := by
  have hl := Q6h (Q2h H p2)
  refine ⟨H, ?_, trivial⟩
  unfold Qbd s_Kj
  simp only [getL]
  exact ⟨Nat.le_trans hl.1 (Nat.le_of_ble_eq_true rfl), hl.2, trivial⟩
theorem Q1mv (p1 : Val) (p2 : BA) (o0 : Decoder) (H : Q1hu p1) : Qi G (Q1ny p1 p2 o0) (Q1lu p1 p2 o0) := by
 unfold Q1lu
 rw [Q1ns]
 have hl0 := Qw4 p1 p2 o0 ((Q13d p1 p2 o0 H).2.1) (s_Kj p1 p2 4 o0).1.list 0 (s_Kj p1 p2 4 o0).2.failed [] (by simp) (by simp)
 obtain ⟨z0, zo0, hl0⟩ := hl0
 exact Qm (fn := Ir.K1b) rfl (h := [⟨1, 0, false, (Decoder.cells o0)⟩]) (vw := []) VOK.nil [hP 8 (Qz (Val.rows (s_Kj p1 p2 4 o0).1.list) (List.length (s_Kj p1 p2 4 o0).1.list) (Val.Q9 (s_Kj p1 p2 4 o0).1.list)), hS 0 true (Toleration.Qp (Q5o p1 p2 o0 (s_Kj p1 p2 4 o0).1.list 0 (s_Kj p1 p2 4 o0).2.failed []).2 5 rfl), hQ (Toleration.Q9 (Q5o p1 p2 o0 (s_Kj p1 p2 4 o0).1.list 0 (s_Kj p1 p2 4 o0).2.failed []).2).symm] [aN (t_Kj p1 p2 4 o0 (Q13d p1 p2 o0 H).1), aV [(1, Toleration.rows (Q5o p1 p2 o0 (s_Kj p1 p2 4 o0).1.list 0 (s_Kj p1 p2 4 o0).2.failed []).2)] hl0] (by kernel_rfl)
def s_Ks (p1 : Val) (o0 : Decoder) : PodSpec × Decoder := ((PodSpec.dec p1).1, ft o0 (PodSpec.dec p1).2)
abbrev M1 (o0 : Decoder) (p1 : Val) := (Q16t p1 Q0 (s_Kn p1 Q2y (s_Kn p1 Q2j (s_Kn p1 Q24 (s_Kv p1 Q30 (s_Kw p1 o0).2).2).2).2).2)
theorem e_Ks (p1 : Val) (o0 : Decoder) : s_Ks p1 o0 = (((PodSpec.mk (s_Kv p1 Q30 (s_Kw p1 o0).2).1 (s_Kn p1 Q24 (s_Kv p1 Q30 (s_Kw p1 o0).2).2).1 (s_Kn p1 Q2j (s_Kn p1 Q24 (s_Kv p1 Q30 (s_Kw p1 o0).2).2).2).1 (s_Kn p1 Q2y (s_Kn p1 Q2j (s_Kn p1 Q24 (s_Kv p1 Q30 (s_Kw p1 o0).2).2).2).2).1 (M1 o0 p1).1 (Q51 p1 Q1f (M1 o0 p1).2).1 (Qdw p1 Q12 (Q51 p1 Q1f (M1 o0 p1).2).2).1 (Qjm p1 Q14 (Qdw p1 Q12 (Q51 p1 Q1f (M1 o0 p1).2).2).2).1 (Qt4 p1 Q1d (Qjm p1 Q14 (Qdw p1 Q12 (Q51 p1 Q1f (M1 o0 p1).2).2).2).2).1 (Qzi p1 Qu (Qt4 p1 Q1d (Qjm p1 Q14 (Qdw p1 Q12 (Q51 p1 Q1f (M1 o0 p1).2).2).2).2).2).1), (Qzi p1 Qu (Qt4 p1 Q1d (Qjm p1 Q14 (Qdw p1 Q12 (Q51 p1 Q1f (M1 o0 p1).2).2).2).2).2).2)) := by
  simp only [s_Kw, s_Kn, s_Kv, Q16t, Qdw, Qjm, Q51, Qt4, Qzi, s_Ks, PodSpec.dec, Qal, Bool.and_assoc, Bool.and_left_comm, Bool.and_comm, Bool.and_self_left]
def c_Ks (p1 : Val) (o0 : Decoder) : En := .call 32 [.bx 0 0, .agg (Val.cells p1)] [⟨1, 0, false, (Decoder.cells o0)⟩]
def r_Ks (_p1 : Val) (_o0 : Decoder) (q0 : PodSpec) (q1 : Decoder) : Rs := .ret (.agg (PodSpec.cells q0)) [⟨1, 0, false, (Decoder.cells q1)⟩]
def a_Ks (p1 : Val) (o0 : Decoder) : Rs := r_Ks p1 o0 (s_Ks p1 o0).1 (s_Ks p1 o0).2
def H_Ks (p1 : Val) : Prop := Val.Sm 1000000000 p1
theorem Q7y (p1 : Val) (_o0 : Decoder) (H : H_Ks p1) : (H_Kv p1) ∧ (H_Kn p1) ∧ (Q1ha p1) ∧ (Q150 p1) ∧ (Q1g5 p1) ∧ (Q1h5 p1) ∧ (Q1fn p1) ∧ (Q1hu p1) ∧ True := by
  repeat' with_reducible apply And.intro
  all_goals first | exact True.intro | exact H | exact Qag (Q2h H _)
theorem t_Ks (p1 : Val) (o0 : Decoder) (H : H_Ks p1) : Qi G (c_Ks p1 o0) (a_Ks p1 o0) := by
 unfold a_Ks
 rw [e_Ks]
 exact Qm (fn := Ir.Ks) rfl (h := [⟨1, 0, false, (Decoder.cells o0)⟩]) (vw := []) VOK.nil [] [aN (t_Kw p1 o0), aN (t_Kv p1 Q30 (s_Kw p1 o0).2 (Q7y p1 o0 H).1), aN (t_Kn p1 Q24 (s_Kv p1 Q30 (s_Kw p1 o0).2).2 (Q7y p1 o0 H).2.1), aN (t_Kn p1 Q2j (s_Kn p1 Q24 (s_Kv p1 Q30 (s_Kw p1 o0).2).2).2 (Q7y p1 o0 H).2.1), aN (t_Kn p1 Q2y (s_Kn p1 Q2j (s_Kn p1 Q24 (s_Kv p1 Q30 (s_Kw p1 o0).2).2).2).2 (Q7y p1 o0 H).2.1), aN (Q1oc p1 Q0 (s_Kn p1 Q2y (s_Kn p1 Q2j (s_Kn p1 Q24 (s_Kv p1 Q30 (s_Kw p1 o0).2).2).2).2).2 (Q7y p1 o0 H).2.2.1), aN (Q1cx p1 Q1f (M1 o0 p1).2 (Q7y p1 o0 H).2.2.2.1), aN (Q1rc p1 Q12 (Q51 p1 Q1f (M1 o0 p1).2).2 (Q7y p1 o0 H).2.2.2.2.1), aN (Q1rx p1 Q14 (Qdw p1 Q12 (Q51 p1 Q1f (M1 o0 p1).2).2).2 (Q7y p1 o0 H).2.2.2.2.2.1), aN (Q1s2 p1 Q1d (Qjm p1 Q14 (Qdw p1 Q12 (Q51 p1 Q1f (M1 o0 p1).2).2).2).2 (Q7y p1 o0 H).2.2.2.2.2.2.1), aN (Q1mv p1 Qu (Qt4 p1 Q1d (Qjm p1 Q14 (Qdw p1 Q12 (Q51 p1 Q1f (M1 o0 p1).2).2).2).2).2 (Q7y p1 o0 H).2.2.2.2.2.2.2.1)] (by kernel_rfl)
def s_Kh (p1 : Val) (o0 : Decoder) : ContainerStatus × Decoder := ((ContainerStatus.dec p1).1, ft o0 (ContainerStatus.dec p1).2)
theorem e_Kh (p1 : Val) (o0 : Decoder) : s_Kh p1 o0 = (((ContainerStatus.mk (s_Kv p1 Qf (s_Kw p1 o0).2).1 (s_Kn p1 Qq (s_Kv p1 Qf (s_Kw p1 o0).2).2).1 (s_Kn p1 Qd (s_Kn p1 Qq (s_Kv p1 Qf (s_Kw p1 o0).2).2).2).1 (s_Kn p1 Qc (s_Kn p1 Qd (s_Kn p1 Qq (s_Kv p1 Qf (s_Kw p1 o0).2).2).2).2).1 (s_Kn p1 Qk (s_Kn p1 Qc (s_Kn p1 Qd (s_Kn p1 Qq (s_Kv p1 Qf (s_Kw p1 o0).2).2).2).2).2).1 (s_Ki p1 Qa (s_Kn p1 Qk (s_Kn p1 Qc (s_Kn p1 Qd (s_Kn p1 Qq (s_Kv p1 Qf (s_Kw p1 o0).2).2).2).2).2).2).1 (s_Ki p1 Qg (s_Ki p1 Qa (s_Kn p1 Qk (s_Kn p1 Qc (s_Kn p1 Qd (s_Kn p1 Qq (s_Kv p1 Qf (s_Kw p1 o0).2).2).2).2).2).2).2).1), (s_Ki p1 Qg (s_Ki p1 Qa (s_Kn p1 Qk (s_Kn p1 Qc (s_Kn p1 Qd (s_Kn p1 Qq (s_Kv p1 Qf (s_Kw p1 o0).2).2).2).2).2).2).2).2)) := by
  simp only [s_Kw, s_Kn, s_Kv, s_Ki, s_Kh, ContainerStatus.dec, Qal, Bool.and_assoc, Bool.and_left_comm, Bool.and_comm, Bool.and_self_left]
def c_Kh (p1 : Val) (o0 : Decoder) : En := .call 98 [.bx 0 0, .agg (Val.cells p1)] [⟨1, 0, false, (Decoder.cells o0)⟩]
def r_Kh (_p1 : Val) (_o0 : Decoder) (q0 : ContainerStatus) (q1 : Decoder) : Rs := .ret (.agg (ContainerStatus.cells q0)) [⟨1, 0, false, (Decoder.cells q1)⟩]
def a_Kh (p1 : Val) (o0 : Decoder) : Rs := r_Kh p1 o0 (s_Kh p1 o0).1 (s_Kh p1 o0).2
def H_Kh (p1 : Val) : Prop := Val.Sm 1000000000 p1
theorem Qav (p1 : Val) (_o0 : Decoder) (H : H_Kh p1) : (H_Kv p1) ∧ (H_Kn p1) ∧ (H_Ki p1) ∧ True := by
  repeat' with_reducible apply And.intro
  all_goals first | exact True.intro | exact H | exact Qag (Q2h H _)
theorem t_Kh (p1 : Val) (o0 : Decoder) (H : H_Kh p1) : Qi G (c_Kh p1 o0) (a_Kh p1 o0) := by
 unfold a_Kh
 rw [e_Kh]
 exact Qm (fn := Ir.Kh) rfl (h := [⟨1, 0, false, (Decoder.cells o0)⟩]) (vw := []) VOK.nil [] [aN (t_Kw p1 o0), aN (t_Kv p1 Qf (s_Kw p1 o0).2 (Qav p1 o0 H).1), aN (t_Kn p1 Qq (s_Kv p1 Qf (s_Kw p1 o0).2).2 (Qav p1 o0 H).2.1), aN (t_Kn p1 Qd (s_Kn p1 Qq (s_Kv p1 Qf (s_Kw p1 o0).2).2).2 (Qav p1 o0 H).2.1), aN (t_Kn p1 Qc (s_Kn p1 Qd (s_Kn p1 Qq (s_Kv p1 Qf (s_Kw p1 o0).2).2).2).2 (Qav p1 o0 H).2.1), aN (t_Kn p1 Qk (s_Kn p1 Qc (s_Kn p1 Qd (s_Kn p1 Qq (s_Kv p1 Qf (s_Kw p1 o0).2).2).2).2).2 (Qav p1 o0 H).2.1), aN (t_Ki p1 Qa (s_Kn p1 Qk (s_Kn p1 Qc (s_Kn p1 Qd (s_Kn p1 Qq (s_Kv p1 Qf (s_Kw p1 o0).2).2).2).2).2).2 (Qav p1 o0 H).2.2.1), aN (t_Ki p1 Qg (s_Ki p1 Qa (s_Kn p1 Qk (s_Kn p1 Qc (s_Kn p1 Qd (s_Kn p1 Qq (s_Kv p1 Qf (s_Kw p1 o0).2).2).2).2).2).2).2 (Qav p1 o0 H).2.2.1)] (by kernel_rfl)
def Q56 (p1 : Val) (p2 : BA) (o0 : Decoder) : List Val → Nat → Bool → (List ContainerStatus) → Bool × (List ContainerStatus)
 | [], _i0, v0_1, v0_2 =>
  (v0_1, v0_2)
 | x0 :: r0, i0, v0_1, v0_2 =>
  Q56 p1 p2 o0 r0 (i0 + 1) (s_Kh x0 (Decoder.mk v0_1)).2.failed (v0_2 ++ [(s_Kh x0 (Decoder.mk v0_1)).1])
def Qxx (p1 : Val) (p2 : BA) (o0 : Decoder) (i0 : Nat) (_v0_1 : Bool) (v0_2 : List ContainerStatus) : List PV :=
  [.un, .un, .un, .fn 98 [.bx 0 0] []] ++ nuns 5 ++ [.ms 1 7 0 (List.length v0_2)] ++ nuns 6 ++ [.sl (Val.rows (s_Kj p1 p2 4 o0).1.list), .int .i64 ((List.length (s_Kj p1 p2 4 o0).1.list) : Int), .int .i64 (i0 : Int)] ++ nuns 11
def Qk9 (_p1 : Val) (_p2 : BA) (_o0 : Decoder) (_i0 : Nat) (v0_1 : Bool) (v0_2 : List ContainerStatus) : List Ob :=
  [⟨1, 0, false, [.bool v0_1]⟩, ⟨7, 0, true, (ContainerStatus.rows v0_2).flatten⟩]
def Qgl (p1 : Val) (p2 : BA) (o0 : Decoder) (i0 : Nat) (v0_1 : Bool) (v0_2 : List ContainerStatus) : En := .loop 1 Ir.Qj9 Ir.Q1ea (Qxx p1 p2 o0 i0 v0_1 v0_2) (Qk9 p1 p2 o0 i0 v0_1 v0_2)
def Qp2 (_p1 : Val) (_p2 : BA) (_o0 : Decoder) (q0 : Bool) (q1 : List ContainerStatus) (z : Nat → PV) (_zo : Nat → List PV) : St :=
  ⟨zr z 0 9 ++ [.ms 1 7 0 (List.length q1)] ++ zr z 10 20, [(0, ⟨1, 0, false, [.bool q0]⟩), (1, ⟨7, 0, true, (ContainerStatus.rows q1).flatten⟩)], 66⟩
theorem Q13r (p1 : Val) (p2 : BA) (o0 : Decoder) (i0 : Nat) (v0_1 : Bool) (v0_2 : List ContainerStatus) : VOK (Go.Pv.look (number 0 (Qk9 p1 p2 o0 i0 v0_1 v0_2))) [(1, ContainerStatus.rows v0_2)] := (VOK.cons (show Seen _ _ from Q42 (ob := ⟨7, 0, true, (ContainerStatus.rows v0_2).flatten⟩) (ContainerStatus.Qp v0_2 7 rfl)) VOK.nil)
def Qf4 (p1 : Val) (p2 : BA) (o0 : Decoder) (e : En) (q : Bool × (List ContainerStatus)) : Prop := ∃ z zo, Qi G e (.st (.exit 0) (Qp2 p1 p2 o0 q.1 q.2 z zo))
theorem Qtp (p1 : Val) (p2 : BA) (o0 : Decoder) {e e' : En} (h : ∀ r, Qi G e r → Qi G e' r) : ∀ q, Qf4 p1 p2 o0 e q → Qf4 p1 p2 o0 e' q
  | _, ⟨z, zo, hz⟩ => ⟨z, zo, h _ hz⟩
def Qd6 (p1 : Val) (p2 : BA) (o0 : Decoder) : Prop := (List.length (s_Kj p1 p2 4 o0).1.list ≤ 137438953472) ∧ (∀ x0 ∈ (s_Kj p1 p2 4 o0).1.list, H_Kh x0) ∧ True
def Qr7 (p1 : Val) (p2 : BA) (o0 : Decoder) (i0 : Nat) (_v0_1 : Bool) (_v0_2 : List ContainerStatus) : List PV :=
  [.un, .un, .un, .fn 98 [.bx 0 0] []] ++ nuns 12 ++ [.sl (Val.rows (s_Kj p1 p2 4 o0).1.list), .int .i64 ((List.length (s_Kj p1 p2 4 o0).1.list) : Int), .int .i64 (i0 : Int), .bool false]
def Qkr (_p1 : Val) (_p2 : BA) (_o0 : Decoder) (_i0 : Nat) (_v0_1 : Bool) (_v0_2 : List ContainerStatus) : List (Nat × List PV) :=
  []
theorem Q14v (p1 : Val) (p2 : BA) (o0 : Decoder) (_H : Qd6 p1 p2 o0) (i0 : Nat) (v0_1 : Bool) (v0_2 : List ContainerStatus) (_ho0_0 : List.length v0_2 ≤ i0) (hc0 : (decide ((i0 : Int) < ((List.length (s_Kj p1 p2 4 o0).1.list) : Int))) = false) : Qf4 p1 p2 o0 (Qgl p1 p2 o0 i0 v0_1 v0_2) (v0_1, v0_2) := by
 exact ⟨(envF (Qr7 p1 p2 o0 i0 v0_1 v0_2)), (zoF (Qkr p1 p2 o0 i0 v0_1 v0_2)), Q10 (Q13r p1 p2 o0 i0 v0_1 v0_2) (x := ((.exit 0), Qp2 p1 p2 o0 v0_1 v0_2 (envF (Qr7 p1 p2 o0 i0 v0_1 v0_2)) (zoF (Qkr p1 p2 o0 i0 v0_1 v0_2)))) [hB 0 hc0] [] (by kernel_rfl)⟩
theorem Q196 (p1 : Val) (p2 : BA) (o0 : Decoder) (H : Qd6 p1 p2 o0) (x0 : Val) (i0 : Nat) (v0_1 : Bool) (v0_2 : List ContainerStatus) (hx0 : (s_Kj p1 p2 4 o0).1.list[i0]? = some x0) (hi0 : i0 < List.length (s_Kj p1 p2 4 o0).1.list) (ho0_0 : List.length v0_2 ≤ i0) (hc0 : (decide ((i0 : Int) < ((List.length (s_Kj p1 p2 4 o0).1.list) : Int))) = true) {r : Rs} (hr : Qi G (Qgl p1 p2 o0 (i0 + 1) (s_Kh x0 (Decoder.mk v0_1)).2.failed (v0_2 ++ [(s_Kh x0 (Decoder.mk v0_1)).1])) r) : Qi G (Qgl p1 p2 o0 i0 v0_1 v0_2) r := by
 have hB0 := H.1
 exact Qw (Q13r p1 p2 o0 i0 v0_1 v0_2) (y := (Qxx p1 p2 o0 (i0 + 1) (s_Kh x0 (Decoder.mk v0_1)).2.failed (v0_2 ++ [(s_Kh x0 (Decoder.mk v0_1)).1]), Qk9 p1 p2 o0 (i0 + 1) (s_Kh x0 (Decoder.mk v0_1)).2.failed (v0_2 ++ [(s_Kh x0 (Decoder.mk v0_1)).1]))) [hB 0 hc0, hP 0 (Q15 5 (Val.rows (s_Kj p1 p2 4 o0).1.list) i0 _ (Val.Qe hx0) rfl), hV 8 [(642, ContainerStatus.rows (v0_2 ++ [(s_Kh x0 (Decoder.mk v0_1)).1]))] (Q3g 1 578 642 7 56 0 0 true (ContainerStatus.rows v0_2) (ContainerStatus.rows (v0_2 ++ [(s_Kh x0 (Decoder.mk v0_1)).1])) (ContainerStatus.cells (s_Kh x0 (Decoder.mk v0_1)).1) (List.length v0_2) (List.length (v0_2 ++ [(s_Kh x0 (Decoder.mk v0_1)).1])) rfl (ContainerStatus.Q9 v0_2).symm (ContainerStatus.Q9 (v0_2 ++ [(s_Kh x0 (Decoder.mk v0_1)).1])).symm (ContainerStatus.Q1n v0_2 (s_Kh x0 (Decoder.mk v0_1)).1) (ContainerStatus.Q16 v0_2) rfl (by omega)), hS 0 true (ContainerStatus.Qp (v0_2 ++ [(s_Kh x0 (Decoder.mk v0_1)).1]) 7 rfl), hP 1 (Q25 i0 (by omega))] [aN (t_Kh x0 (Decoder.mk v0_1) (H.2.1 x0 (Q13 hx0)))] (by kernel_rfl) hr
theorem Qxc (p1 : Val) (p2 : BA) (o0 : Decoder) (H : Qd6 p1 p2 o0) : ∀ (r0 : List Val) (i0 : Nat) (v0_1 : Bool) (v0_2 : List ContainerStatus), List.drop i0 (s_Kj p1 p2 4 o0).1.list = r0 → List.length v0_2 ≤ i0 → Qf4 p1 p2 o0 (Qgl p1 p2 o0 i0 v0_1 v0_2) (Q56 p1 p2 o0 r0 i0 v0_1 v0_2)
 | [], i0, v0_1, v0_2, hd, ho0_0 => by
  have hc0 : (decide ((i0 : Int) < ((List.length (s_Kj p1 p2 4 o0).1.list) : Int))) = false := by have := Q1v hd; simp; omega
  rw [Q56]
  exact Q14v p1 p2 o0 H i0 v0_1 v0_2 ho0_0 hc0
 | x0 :: r0, i0, v0_1, v0_2, hd, ho0_0 => by
  obtain ⟨hx0, hi0, hd'⟩ := Q1s hd
  have hc0 : (decide ((i0 : Int) < ((List.length (s_Kj p1 p2 4 o0).1.list) : Int))) = true := by simp; omega
  rw [Q56]
  exact Qtp p1 p2 o0 (fun r hr => Q196 p1 p2 o0 H x0 i0 v0_1 v0_2 hx0 hi0 ho0_0 hc0 hr) _ (Qxc p1 p2 o0 H r0 (i0 + 1) (s_Kh x0 (Decoder.mk v0_1)).2.failed (v0_2 ++ [(s_Kh x0 (Decoder.mk v0_1)).1]) hd' (by first | omega | (simp; omega)))
def Qe1 (p1 : Val) (p2 : BA) (o0 : Decoder) : List ContainerStatus × Decoder := ((dE ContainerStatus.dec p1 p2).1, ft o0 (isM p1 && (dE ContainerStatus.dec p1 p2).2))
theorem Q12f (p1 : Val) (p2 : BA) (o0 : Decoder) : ∀ (l : List Val) (i : Nat) (b : Bool) (a : List ContainerStatus), Q56 p1 p2 o0 l i b a = (b || !(l.all fun x => (ContainerStatus.dec x).2), a ++ l.map (fun x => (ContainerStatus.dec x).1))
  | [], _, b, a => by rw [Q56]; simp
  | x :: l, i, b, a => by
    rw [Q56]
    refine (Q12f p1 p2 o0 l (i + 1) (b || !(ContainerStatus.dec x).2) (a ++ [(ContainerStatus.dec x).1])).trans ?_
    simp only [List.append_assoc, List.singleton_append, List.map_cons, List.all_cons, Bool.not_and, Bool.or_assoc]
theorem Q1p1 (p1 : Val) (p2 : BA) (o0 : Decoder) : Qe1 p1 p2 o0 = (((Q56 p1 p2 o0 (s_Kj p1 p2 4 o0).1.list 0 (s_Kj p1 p2 4 o0).2.failed []).2, (Decoder.mk (Q56 p1 p2 o0 (s_Kj p1 p2 4 o0).1.list 0 (s_Kj p1 p2 4 o0).2.failed []).1))) := by
  rw [Q12f]
  unfold s_Kj Qe1
  simp only [getL, Q3t]
  refine Prod.ext rfl ?_
  rw [Q6f o0.failed (isM p1) _ _ _ (Qeq (prt p1 p2)), Q46]
  rfl
def Q1qv (p1 : Val) (p2 : BA) (o0 : Decoder) : En := .call 97 [.bx 0 0, .agg (Val.cells p1), .str p2, .fn 98 [.bx 0 0] []] [⟨1, 0, false, (Decoder.cells o0)⟩]
def Q1r3 (_p1 : Val) (_p2 : BA) (_o0 : Decoder) (q0 : List ContainerStatus) (q1 : Decoder) : Rs := .ret (.sl (ContainerStatus.rows q0)) [⟨1, 0, false, (Decoder.cells q1)⟩]
def Q1i4 (p1 : Val) (p2 : BA) (o0 : Decoder) : Rs := Q1r3 p1 p2 o0 (Qe1 p1 p2 o0).1 (Qe1 p1 p2 o0).2
def Q1ga (p1 : Val) : Prop := Val.Sm 1000000000 p1
theorem Q118 (p1 : Val) (p2 : BA) (o0 : Decoder) (H : Q1ga p1) : (H_Kj p1) ∧ (Qd6 p1 p2 o0) ∧ True := by
  have hl := Q6h (Q2h H p2)
  refine ⟨H, ?_, trivial⟩
  unfold Qd6 s_Kj
  simp only [getL]
  exact ⟨Nat.le_trans hl.1 (Nat.le_of_ble_eq_true rfl), hl.2, trivial⟩
theorem Q1ta (p1 : Val) (p2 : BA) (o0 : Decoder) (H : Q1ga p1) : Qi G (Q1qv p1 p2 o0) (Q1i4 p1 p2 o0) := by
 unfold Q1i4
 rw [Q1p1]
 have hl0 := Qxc p1 p2 o0 ((Q118 p1 p2 o0 H).2.1) (s_Kj p1 p2 4 o0).1.list 0 (s_Kj p1 p2 4 o0).2.failed [] (by simp) (by simp)
 obtain ⟨z0, zo0, hl0⟩ := hl0
 exact Qm (fn := Ir.K1c) rfl (h := [⟨1, 0, false, (Decoder.cells o0)⟩]) (vw := []) VOK.nil [hP 8 (Qz (Val.rows (s_Kj p1 p2 4 o0).1.list) (List.length (s_Kj p1 p2 4 o0).1.list) (Val.Q9 (s_Kj p1 p2 4 o0).1.list)), hS 0 true (ContainerStatus.Qp (Q56 p1 p2 o0 (s_Kj p1 p2 4 o0).1.list 0 (s_Kj p1 p2 4 o0).2.failed []).2 7 rfl), hQ (ContainerStatus.Q9 (Q56 p1 p2 o0 (s_Kj p1 p2 4 o0).1.list 0 (s_Kj p1 p2 4 o0).2.failed []).2).symm] [aN (t_Kj p1 p2 4 o0 (Q118 p1 p2 o0 H).1), aV [(1, ContainerStatus.rows (Q56 p1 p2 o0 (s_Kj p1 p2 4 o0).1.list 0 (s_Kj p1 p2 4 o0).2.failed []).2)] hl0] (by kernel_rfl)
def s_Ku (p1 : Val) (o0 : Decoder) : PodStatus × Decoder := ((PodStatus.dec p1).1, ft o0 (PodStatus.dec p1).2)
abbrev M2 (o0 : Decoder) (p1 : Val) := (s_Kn p1 Q2o (s_Kn p1 Qg (s_Kn p1 Q21 (s_Ki p1 Qa (s_Kn p1 Q2t (s_Kw p1 o0).2).2).2).2).2)
theorem e_Ku (p1 : Val) (o0 : Decoder) : s_Ku p1 o0 = (((PodStatus.mk (s_Kn p1 Q2t (s_Kw p1 o0).2).1 (s_Ki p1 Qa (s_Kn p1 Q2t (s_Kw p1 o0).2).2).1 (s_Kn p1 Q21 (s_Ki p1 Qa (s_Kn p1 Q2t (s_Kw p1 o0).2).2).2).1 (s_Kn p1 Qg (s_Kn p1 Q21 (s_Ki p1 Qa (s_Kn p1 Q2t (s_Kw p1 o0).2).2).2).2).1 (M2 o0 p1).1 (Qe1 p1 Q0 (M2 o0 p1).2).1 (s_Kn p1 Q2l (Qe1 p1 Q0 (M2 o0 p1).2).2).1 (s_Kv p1 Q2a (s_Kn p1 Q2l (Qe1 p1 Q0 (M2 o0 p1).2).2).2).1 (s_Kv p1 Q2v (s_Kv p1 Q2a (s_Kn p1 Q2l (Qe1 p1 Q0 (M2 o0 p1).2).2).2).2).1), (s_Kv p1 Q2v (s_Kv p1 Q2a (s_Kn p1 Q2l (Qe1 p1 Q0 (M2 o0 p1).2).2).2).2).2)) := by
  simp only [s_Kw, s_Kn, s_Kv, s_Ki, Qe1, s_Ku, PodStatus.dec, Qal, Bool.and_assoc, Bool.and_left_comm, Bool.and_comm, Bool.and_self_left]
def c_Ku (p1 : Val) (o0 : Decoder) : En := .call 33 [.bx 0 0, .agg (Val.cells p1)] [⟨1, 0, false, (Decoder.cells o0)⟩]
def r_Ku (_p1 : Val) (_o0 : Decoder) (q0 : PodStatus) (q1 : Decoder) : Rs := .ret (.agg (PodStatus.cells q0)) [⟨1, 0, false, (Decoder.cells q1)⟩]
def a_Ku (p1 : Val) (o0 : Decoder) : Rs := r_Ku p1 o0 (s_Ku p1 o0).1 (s_Ku p1 o0).2
def H_Ku (p1 : Val) : Prop := Val.Sm 1000000000 p1
theorem Q8j (p1 : Val) (_o0 : Decoder) (H : H_Ku p1) : (H_Kn p1) ∧ (H_Ki p1) ∧ (Q1ga p1) ∧ (H_Kv p1) ∧ True := by
  repeat' with_reducible apply And.intro
  all_goals first | exact True.intro | exact H | exact Qag (Q2h H _)
theorem t_Ku (p1 : Val) (o0 : Decoder) (H : H_Ku p1) : Qi G (c_Ku p1 o0) (a_Ku p1 o0) := by
 unfold a_Ku
 rw [e_Ku]
 exact Qm (fn := Ir.Ku) rfl (h := [⟨1, 0, false, (Decoder.cells o0)⟩]) (vw := []) VOK.nil [] [aN (t_Kw p1 o0), aN (t_Kn p1 Q2t (s_Kw p1 o0).2 (Q8j p1 o0 H).1), aN (t_Ki p1 Qa (s_Kn p1 Q2t (s_Kw p1 o0).2).2 (Q8j p1 o0 H).2.1), aN (t_Kn p1 Q21 (s_Ki p1 Qa (s_Kn p1 Q2t (s_Kw p1 o0).2).2).2 (Q8j p1 o0 H).1), aN (t_Kn p1 Qg (s_Kn p1 Q21 (s_Ki p1 Qa (s_Kn p1 Q2t (s_Kw p1 o0).2).2).2).2 (Q8j p1 o0 H).1), aN (t_Kn p1 Q2o (s_Kn p1 Qg (s_Kn p1 Q21 (s_Ki p1 Qa (s_Kn p1 Q2t (s_Kw p1 o0).2).2).2).2).2 (Q8j p1 o0 H).1), aN (Q1ta p1 Q0 (M2 o0 p1).2 (Q8j p1 o0 H).2.2.1), aN (t_Kn p1 Q2l (Qe1 p1 Q0 (M2 o0 p1).2).2 (Q8j p1 o0 H).1), aN (t_Kv p1 Q2a (s_Kn p1 Q2l (Qe1 p1 Q0 (M2 o0 p1).2).2).2 (Q8j p1 o0 H).2.2.2.1), aN (t_Kv p1 Q2v (s_Kv p1 Q2a (s_Kn p1 Q2l (Qe1 p1 Q0 (M2 o0 p1).2).2).2).2 (Q8j p1 o0 H).2.2.2.1)] (by kernel_rfl)
def s_Ky (p1 : Val) (o0 : Decoder) : Taint × Decoder := ((Taint.dec p1).1, ft o0 (Taint.dec p1).2)
theorem e_Ky (p1 : Val) (o0 : Decoder) : s_Ky p1 o0 = (((Taint.mk (s_Kv p1 Qs (s_Kw p1 o0).2).1 (s_Kv p1 Qo (s_Kv p1 Qs (s_Kw p1 o0).2).2).1 (s_Kn p1 Qr (s_Kv p1 Qo (s_Kv p1 Qs (s_Kw p1 o0).2).2).2).1 (s_Kn p1 Qk (s_Kn p1 Qr (s_Kv p1 Qo (s_Kv p1 Qs (s_Kw p1 o0).2).2).2).2).1), (s_Kn p1 Qk (s_Kn p1 Qr (s_Kv p1 Qo (s_Kv p1 Qs (s_Kw p1 o0).2).2).2).2).2)) := by
  simp only [s_Kw, s_Kn, s_Kv, s_Ky, Taint.dec, Qal, Bool.and_assoc, Bool.and_left_comm, Bool.and_comm, Bool.and_self_left]
def c_Ky (p1 : Val) (o0 : Decoder) : En := .call 42 [.bx 0 0, .agg (Val.cells p1)] [⟨1, 0, false, (Decoder.cells o0)⟩]
def r_Ky (_p1 : Val) (_o0 : Decoder) (q0 : Taint) (q1 : Decoder) : Rs := .ret (.agg (Taint.cells q0)) [⟨1, 0, false, (Decoder.cells q1)⟩]
def a_Ky (p1 : Val) (o0 : Decoder) : Rs := r_Ky p1 o0 (s_Ky p1 o0).1 (s_Ky p1 o0).2
def H_Ky (p1 : Val) : Prop := Val.Sm 1000000000 p1
theorem Qty (p1 : Val) (_o0 : Decoder) (H : H_Ky p1) : (H_Kv p1) ∧ (H_Kn p1) ∧ True := by
  repeat' with_reducible apply And.intro
  all_goals first | exact True.intro | exact H | exact Qag (Q2h H _)
theorem t_Ky (p1 : Val) (o0 : Decoder) (H : H_Ky p1) : Qi G (c_Ky p1 o0) (a_Ky p1 o0) := by
 unfold a_Ky
 rw [e_Ky]
 exact Qm (fn := Ir.Ky) rfl (h := [⟨1, 0, false, (Decoder.cells o0)⟩]) (vw := []) VOK.nil [] [aN (t_Kw p1 o0), aN (t_Kv p1 Qs (s_Kw p1 o0).2 (Qty p1 o0 H).1), aN (t_Kv p1 Qo (s_Kv p1 Qs (s_Kw p1 o0).2).2 (Qty p1 o0 H).1), aN (t_Kn p1 Qr (s_Kv p1 Qo (s_Kv p1 Qs (s_Kw p1 o0).2).2).2 (Qty p1 o0 H).2.1), aN (t_Kn p1 Qk (s_Kn p1 Qr (s_Kv p1 Qo (s_Kv p1 Qs (s_Kw p1 o0).2).2).2).2 (Qty p1 o0 H).2.1)] (by kernel_rfl)
def s_Kk (p1 : Val) (o0 : Decoder) : Image × Decoder := ((Image.dec p1).1, ft o0 (Image.dec p1).2)
theorem e_Kk (p1 : Val) (o0 : Decoder) : s_Kk p1 o0 = (((Image.mk (s_Kv p1 Qf (s_Kw p1 o0).2).1 (s_Kn p1 Q26 (s_Kv p1 Qf (s_Kw p1 o0).2).2).1 (s_Kn p1 Q2b (s_Kn p1 Q26 (s_Kv p1 Qf (s_Kw p1 o0).2).2).2).1), (s_Kn p1 Q2b (s_Kn p1 Q26 (s_Kv p1 Qf (s_Kw p1 o0).2).2).2).2)) := by
  simp only [s_Kw, s_Kn, s_Kv, s_Kk, Image.dec, Qal, Bool.and_assoc, Bool.and_left_comm, Bool.and_comm, Bool.and_self_left]
def c_Kk (p1 : Val) (o0 : Decoder) : En := .call 44 [.bx 0 0, .agg (Val.cells p1)] [⟨1, 0, false, (Decoder.cells o0)⟩]
def r_Kk (_p1 : Val) (_o0 : Decoder) (q0 : Image) (q1 : Decoder) : Rs := .ret (.agg (Image.cells q0)) [⟨1, 0, false, (Decoder.cells q1)⟩]
def a_Kk (p1 : Val) (o0 : Decoder) : Rs := r_Kk p1 o0 (s_Kk p1 o0).1 (s_Kk p1 o0).2
def H_Kk (p1 : Val) : Prop := Val.Sm 1000000000 p1
theorem Qza (p1 : Val) (_o0 : Decoder) (H : H_Kk p1) : (H_Kv p1) ∧ (H_Kn p1) ∧ True := by
  repeat' with_reducible apply And.intro
  all_goals first | exact True.intro | exact H | exact Qag (Q2h H _)
theorem t_Kk (p1 : Val) (o0 : Decoder) (H : H_Kk p1) : Qi G (c_Kk p1 o0) (a_Kk p1 o0) := by
 unfold a_Kk
 rw [e_Kk]
 exact Qm (fn := Ir.Kk) rfl (h := [⟨1, 0, false, (Decoder.cells o0)⟩]) (vw := []) VOK.nil [] [aN (t_Kw p1 o0), aN (t_Kv p1 Qf (s_Kw p1 o0).2 (Qza p1 o0 H).1), aN (t_Kn p1 Q26 (s_Kv p1 Qf (s_Kw p1 o0).2).2 (Qza p1 o0 H).2.1), aN (t_Kn p1 Q2b (s_Kn p1 Q26 (s_Kv p1 Qf (s_Kw p1 o0).2).2).2 (Qza p1 o0 H).2.1)] (by kernel_rfl)
def s_Kl (p1 : Val) (o0 : Decoder) : Label × Decoder := ((Label.dec p1).1, ft o0 (Label.dec p1).2)
theorem e_Kl (p1 : Val) (o0 : Decoder) : s_Kl p1 o0 = (((Label.mk (s_Kv p1 Qs (s_Kw p1 o0).2).1 (s_Kv p1 Qo (s_Kv p1 Qs (s_Kw p1 o0).2).2).1), (s_Kv p1 Qo (s_Kv p1 Qs (s_Kw p1 o0).2).2).2)) := by
  simp only [s_Kw, s_Kv, s_Kl, Label.dec, Qal, Bool.and_assoc, Bool.and_left_comm, Bool.and_self_left]
def c_Kl (p1 : Val) (o0 : Decoder) : En := .call 52 [.bx 0 0, .agg (Val.cells p1)] [⟨1, 0, false, (Decoder.cells o0)⟩]
def r_Kl (_p1 : Val) (_o0 : Decoder) (q0 : Label) (q1 : Decoder) : Rs := .ret (.agg (Label.cells q0)) [⟨1, 0, false, (Decoder.cells q1)⟩]
def a_Kl (p1 : Val) (o0 : Decoder) : Rs := r_Kl p1 o0 (s_Kl p1 o0).1 (s_Kl p1 o0).2
def H_Kl (p1 : Val) : Prop := Val.Sm 1000000000 p1
theorem Q1bv (p1 : Val) (_o0 : Decoder) (H : H_Kl p1) : (H_Kv p1) ∧ True := by
  repeat' with_reducible apply And.intro
  all_goals first | exact True.intro | exact H | exact Qag (Q2h H _)
theorem t_Kl (p1 : Val) (o0 : Decoder) (H : H_Kl p1) : Qi G (c_Kl p1 o0) (a_Kl p1 o0) := by
 unfold a_Kl
 rw [e_Kl]
 exact Qm (fn := Ir.Kl) rfl (h := [⟨1, 0, false, (Decoder.cells o0)⟩]) (vw := []) VOK.nil [] [aN (t_Kw p1 o0), aN (t_Kv p1 Qs (s_Kw p1 o0).2 (Q1bv p1 o0 H).1), aN (t_Kv p1 Qo (s_Kv p1 Qs (s_Kw p1 o0).2).2 (Q1bv p1 o0 H).1)] (by kernel_rfl)
end Go.Proofs.YtiflaadeikaghaaGreat
end

