/- Texts of the claim, merged by a program; what the statement does not reach is left out. -/
import Derived.Test.YtiflaadeikaghaaGreatBPodcodecWrong4

section
/- What the program's decoders compute (printed by a program). -/
namespace Go.Proofs.YtiflaadeikaghaaGreat
open Go.Pv
structure Decoder where
  failed : Bool
def Decoder.cells (x : Decoder) : List PV :=
  [.bool x.failed]
def Decoder.rows (l : List Decoder) : List (List PV) := l.map Decoder.cells
theorem Decoder.Q5 (l : List Decoder) : (Decoder.rows l).length = l.length := by simp [Decoder.rows]
theorem Decoder.Qb {l : List Decoder} {i : Nat} {x : Decoder} (h : l[i]? = some x) : (Decoder.rows l)[i]? = some (Decoder.cells x) := Go.Pv.Qb h
theorem Decoder.Q12 (l : List Decoder) (x : Decoder) : Decoder.rows (l ++ [x]) = Decoder.rows l ++ [Decoder.cells x] := by simp [Decoder.rows]
theorem Decoder.Q2r (l m : List Decoder) : Decoder.rows (l ++ m) = Decoder.rows l ++ Decoder.rows m := by simp [Decoder.rows]
theorem Decoder.Q2l (l : List Decoder) (k : Nat) (x : Decoder) : Decoder.rows (l.set k x) = (Decoder.rows l).set k (Decoder.cells x) := by simp [Decoder.rows, List.map_set]
theorem Decoder.Qf (l : List Decoder) : ∀ r ∈ Decoder.rows l, r.length = 1 := Q2z (f := Decoder.cells) (fun _ => rfl) l
theorem Decoder.Q9 (l : List Decoder) (sz : Nat) (h : sz = 1) : ViewOK sz (Decoder.rows l).flatten (Decoder.rows l) := by subst h; exact ⟨rfl, Decoder.Qf l, Q2k (f := Decoder.cells) (fun _ => rfl) l⟩
def ft (o : Decoder) (b : Bool) : Decoder := ⟨o.failed || !b⟩
theorem Qjr (o : Decoder) (a b : Bool) : ft (ft o a) b = ft o (a && b) := by
  unfold ft
  simp only [Bool.not_and, Bool.or_assoc]
theorem Q59 (o : Decoder) (b : Bool) : (ft o b).failed = (o.failed || !b) := rfl
theorem Q56 (o : Decoder) (b : Bool) : Decoder.mk (o.failed || !b) = ft o b := rfl
theorem getL (p1 : Val) (p2 : BA) : (bif (prt p1 p2).kind == 4 then prt p1 p2 else vZ).list = (dL p1 p2).1 := by
  unfold dL xL
  cases ((prt p1 p2).kind == 4) <;> rfl
theorem Q7z (f m x y q : Bool) (h : x = y) : ((f || !(m && x)) || !q) = (f || !(m && (y && q))) := by subst h; cases f <;> cases m <;> cases x <;> cases q <;> rfl
theorem Qt1 (x : Val) : ((x.kind == 4) || (x.kind == 0)) = (xL x).2 := by unfold xL; cases (x.kind == 4) <;> rfl
def s_Kw (p1 : Val) (o0 : Decoder) : Val × Decoder := (p1, ft o0 (isM p1))
theorem e_Kw (p1 : Val) (o0 : Decoder) : s_Kw p1 o0 = (bif o0.failed then
    (p1, (Decoder.mk true))
  else
    bif (p1.kind == 5) then
      (p1, (Decoder.mk false))
    else
      (p1, (Decoder.mk (!(p1.kind == 0))))) := by
  obtain ⟨b⟩ := o0
  unfold s_Kw ft isM
  cases b <;> cases (p1.kind == 5) <;> cases (p1.kind == 0) <;> rfl
def c_Kw (p1 : Val) (o0 : Decoder) : En := .call 36 [.bx 0 0, .agg (Val.cells p1)] [⟨1, 0, false, (Decoder.cells o0)⟩]
def r_Kw (_p1 : Val) (_o0 : Decoder) (q0 : Val) (q1 : Decoder) : Rs := .ret (.agg (Val.cells q0)) [⟨1, 0, false, (Decoder.cells q1)⟩]
def a_Kw (p1 : Val) (o0 : Decoder) : Rs := r_Kw p1 o0 (s_Kw p1 o0).1 (s_Kw p1 o0).2
theorem t_Kw (p1 : Val) (o0 : Decoder) : Q6 G (c_Kw p1 o0) (a_Kw p1 o0) := by
 unfold a_Kw
 rw [e_Kw]
 cases h0 : o0.failed with
 | true =>
  exact Q7 (fn := Ir.Kw) rfl (h := [⟨1, 0, false, (Decoder.cells o0)⟩]) (vw := []) VOK.nil [hP 6 (decR o0.failed true [0] h0)] [] (by kernel_rfl)
 | false =>
  cases h1 : (p1.kind == 5) with
  | true =>
   exact Q7 (fn := Ir.Kw) rfl (h := [⟨1, 0, false, (Decoder.cells o0)⟩]) (vw := []) VOK.nil [hP 6 (decR o0.failed false [0] h0), hP 3 (dec (!(p1.kind == 5)) false (by rw [h1]; rfl))] [] (by kernel_rfl)
  | false =>
   exact Q7 (fn := Ir.Kw) rfl (h := [⟨1, 0, false, (Decoder.cells o0)⟩]) (vw := []) VOK.nil [hP 6 (decR o0.failed false [0] h0), hP 3 (dec (!(p1.kind == 5)) true (by rw [h1]; rfl))] [] (by kernel_rfl)
def s_Kj (p1 : Val) (p2 : BA) (p3 : Int) (o0 : Decoder) : Val × Decoder := (bif (prt p1 p2).kind == p3 then prt p1 p2 else vZ, ft o0 (isM p1 && ((prt p1 p2).kind == p3 || (prt p1 p2).kind == 0)))
theorem e_Kj (p1 : Val) (p2 : BA) (p3 : Int) (o0 : Decoder) : s_Kj p1 p2 p3 o0 = (bif (p1.kind == 5) then
    bif ((Qtk p1 p2).1.kind == p3) then
      ((Qtk p1 p2).1, o0)
    else
      bif o0.failed then
        ((Val.mk 0 0 eB [] []), (Decoder.mk true))
      else
        ((Val.mk 0 0 eB [] []), (Decoder.mk (!((Qtk p1 p2).1.kind == 0))))
  else
    bif o0.failed then
      ((Val.mk 0 0 eB [] []), (Decoder.mk true))
    else
      ((Val.mk 0 0 eB [] []), (Decoder.mk (!(p1.kind == 0))))) := by
  obtain ⟨b⟩ := o0
  unfold s_Kj ft
  rw [vprt]
  cases h : (p1.kind == 5) with
  | true =>
    rw [Q1a3 h]
    cases b <;> cases ((prt p1 p2).kind == p3) <;> cases ((prt p1 p2).kind == 0) <;> rfl
  | false =>
    rw [Q3p h, Q46 h]
    cases b <;> cases (p1.kind == 0) <;> cases (vZ.kind == p3) <;> rfl
def c_Kj (p1 : Val) (p2 : BA) (p3 : Int) (o0 : Decoder) : En := .call 106 [.bx 0 0, .agg (Val.cells p1), .str p2, .int .i64 p3] [⟨1, 0, false, (Decoder.cells o0)⟩]
def r_Kj (_p1 : Val) (_p2 : BA) (_p3 : Int) (_o0 : Decoder) (q0 : Val) (q1 : Decoder) : Rs := .ret (.agg (Val.cells q0)) [⟨1, 0, false, (Decoder.cells q1)⟩]
def a_Kj (p1 : Val) (p2 : BA) (p3 : Int) (o0 : Decoder) : Rs := r_Kj p1 p2 p3 o0 (s_Kj p1 p2 p3 o0).1 (s_Kj p1 p2 p3 o0).2
def H_Kj (p1 : Val) : Prop := Val.Sm 1000000000 p1
theorem Qz6 (p1 : Val) (p2 : BA) (_p3 : Int) (_o0 : Decoder) (H : H_Kj p1) : (Q1eo p1 p2) ∧ True := by
  exact ⟨Q1kr H _, trivial⟩
theorem t_Kj (p1 : Val) (p2 : BA) (p3 : Int) (o0 : Decoder) (H : H_Kj p1) : Q6 G (c_Kj p1 p2 p3 o0) (a_Kj p1 p2 p3 o0) := by
 unfold a_Kj
 rw [e_Kj]
 cases h0 : (p1.kind == 5) with
 | true =>
  cases h1 : ((Qtk p1 p2).1.kind == p3) with
  | true =>
   exact Q7 (fn := Ir.Kj) rfl (h := [⟨1, 0, false, (Decoder.cells o0)⟩]) (vw := []) VOK.nil [hP 4 (dec (!(p1.kind == 5)) false (by rw [h0]; rfl)), hB 12 h1] [aN (Q1fe p1 p2 (Qz6 p1 p2 p3 o0 H).1)] (by kernel_rfl)
  | false =>
   cases h2 : o0.failed with
   | true =>
    exact Q7 (fn := Ir.Kj) rfl (h := [⟨1, 0, false, (Decoder.cells o0)⟩]) (vw := []) VOK.nil [hP 4 (dec (!(p1.kind == 5)) false (by rw [h0]; rfl)), hB 12 h1, hP 4 (decR o0.failed true [0] h2)] [aN (Q1fe p1 p2 (Qz6 p1 p2 p3 o0 H).1)] (by kernel_rfl)
   | false =>
    exact Q7 (fn := Ir.Kj) rfl (h := [⟨1, 0, false, (Decoder.cells o0)⟩]) (vw := []) VOK.nil [hP 4 (dec (!(p1.kind == 5)) false (by rw [h0]; rfl)), hB 12 h1, hP 4 (decR o0.failed false [0] h2)] [aN (Q1fe p1 p2 (Qz6 p1 p2 p3 o0 H).1)] (by kernel_rfl)
 | false =>
  cases h1 : o0.failed with
  | true =>
   exact Q7 (fn := Ir.Kj) rfl (h := [⟨1, 0, false, (Decoder.cells o0)⟩]) (vw := []) VOK.nil [hP 4 (dec (!(p1.kind == 5)) true (by rw [h0]; rfl)), hP 4 (decR o0.failed true [0] h1)] [] (by kernel_rfl)
  | false =>
   exact Q7 (fn := Ir.Kj) rfl (h := [⟨1, 0, false, (Decoder.cells o0)⟩]) (vw := []) VOK.nil [hP 4 (dec (!(p1.kind == 5)) true (by rw [h0]; rfl)), hP 4 (decR o0.failed false [0] h1)] [] (by kernel_rfl)
def s_Kn (p1 : Val) (p2 : BA) (o0 : Decoder) : Int × Decoder := ((dN p1 p2).1, ft o0 (isM p1 && (dN p1 p2).2))
theorem e_Kn (p1 : Val) (p2 : BA) (o0 : Decoder) : s_Kn p1 p2 o0 = (((s_Kj p1 p2 2 o0).1.n, (s_Kj p1 p2 2 o0).2)) := by
  unfold s_Kn s_Kj dN xN
  cases ((prt p1 p2).kind == 2) <;> rfl
def c_Kn (p1 : Val) (p2 : BA) (o0 : Decoder) : En := .call 39 [.bx 0 0, .agg (Val.cells p1), .str p2] [⟨1, 0, false, (Decoder.cells o0)⟩]
def r_Kn (_p1 : Val) (_p2 : BA) (_o0 : Decoder) (q0 : Int) (q1 : Decoder) : Rs := .ret (.int .i64 q0) [⟨1, 0, false, (Decoder.cells q1)⟩]
def a_Kn (p1 : Val) (p2 : BA) (o0 : Decoder) : Rs := r_Kn p1 p2 o0 (s_Kn p1 p2 o0).1 (s_Kn p1 p2 o0).2
def H_Kn (p1 : Val) : Prop := Val.Sm 1000000000 p1
theorem Q1fh (p1 : Val) (_p2 : BA) (_o0 : Decoder) (H : H_Kn p1) : (H_Kj p1) ∧ True := by
  exact ⟨H, trivial⟩
theorem t_Kn (p1 : Val) (p2 : BA) (o0 : Decoder) (H : H_Kn p1) : Q6 G (c_Kn p1 p2 o0) (a_Kn p1 p2 o0) := by
 unfold a_Kn
 rw [e_Kn]
 exact Q7 (fn := Ir.Kn) rfl (h := [⟨1, 0, false, (Decoder.cells o0)⟩]) (vw := []) VOK.nil [] [aN (t_Kj p1 p2 2 o0 (Q1fh p1 p2 o0 H).1)] (by kernel_rfl)
def s_Kv (p1 : Val) (p2 : BA) (o0 : Decoder) : ByteArray × Decoder := ((dS p1 p2).1, ft o0 (isM p1 && (dS p1 p2).2))
theorem e_Kv (p1 : Val) (p2 : BA) (o0 : Decoder) : s_Kv p1 p2 o0 = (((s_Kj p1 p2 3 o0).1.s, (s_Kj p1 p2 3 o0).2)) := by
  unfold s_Kv s_Kj dS xS
  cases ((prt p1 p2).kind == 3) <;> rfl
def c_Kv (p1 : Val) (p2 : BA) (o0 : Decoder) : En := .call 84 [.bx 0 0, .agg (Val.cells p1), .str p2] [⟨1, 0, false, (Decoder.cells o0)⟩]
def r_Kv (_p1 : Val) (_p2 : BA) (_o0 : Decoder) (q0 : BA) (q1 : Decoder) : Rs := .ret (.str q0) [⟨1, 0, false, (Decoder.cells q1)⟩]
def a_Kv (p1 : Val) (p2 : BA) (o0 : Decoder) : Rs := r_Kv p1 p2 o0 (s_Kv p1 p2 o0).1 (s_Kv p1 p2 o0).2
def H_Kv (p1 : Val) : Prop := Val.Sm 1000000000 p1
theorem Q1fw (p1 : Val) (_p2 : BA) (_o0 : Decoder) (H : H_Kv p1) : (H_Kj p1) ∧ True := by
  exact ⟨H, trivial⟩
theorem t_Kv (p1 : Val) (p2 : BA) (o0 : Decoder) (H : H_Kv p1) : Q6 G (c_Kv p1 p2 o0) (a_Kv p1 p2 o0) := by
 unfold a_Kv
 rw [e_Kv]
 exact Q7 (fn := Ir.Kv) rfl (h := [⟨1, 0, false, (Decoder.cells o0)⟩]) (vw := []) VOK.nil [] [aN (t_Kj p1 p2 3 o0 (Q1fw p1 p2 o0 H).1)] (by kernel_rfl)
def s_Ki (p1 : Val) (p2 : BA) (o0 : Decoder) : Bool × Decoder := ((dB p1 p2).1, ft o0 (isM p1 && (dB p1 p2).2))
theorem e_Ki (p1 : Val) (p2 : BA) (o0 : Decoder) : s_Ki p1 p2 o0 = (((!((s_Kj p1 p2 1 o0).1.n == 0)), (s_Kj p1 p2 1 o0).2)) := by
  unfold s_Ki s_Kj dB xB
  cases ((prt p1 p2).kind == 1) <;> rfl
def c_Ki (p1 : Val) (p2 : BA) (o0 : Decoder) : En := .call 40 [.bx 0 0, .agg (Val.cells p1), .str p2] [⟨1, 0, false, (Decoder.cells o0)⟩]
def r_Ki (_p1 : Val) (_p2 : BA) (_o0 : Decoder) (q0 : Bool) (q1 : Decoder) : Rs := .ret (.bool q0) [⟨1, 0, false, (Decoder.cells q1)⟩]
def a_Ki (p1 : Val) (p2 : BA) (o0 : Decoder) : Rs := r_Ki p1 p2 o0 (s_Ki p1 p2 o0).1 (s_Ki p1 p2 o0).2
def H_Ki (p1 : Val) : Prop := Val.Sm 1000000000 p1
theorem Q1ge (p1 : Val) (_p2 : BA) (_o0 : Decoder) (H : H_Ki p1) : (H_Kj p1) ∧ True := by
  exact ⟨H, trivial⟩
theorem t_Ki (p1 : Val) (p2 : BA) (o0 : Decoder) (H : H_Ki p1) : Q6 G (c_Ki p1 p2 o0) (a_Ki p1 p2 o0) := by
 unfold a_Ki
 rw [e_Ki]
 exact Q7 (fn := Ir.Ki) rfl (h := [⟨1, 0, false, (Decoder.cells o0)⟩]) (vw := []) VOK.nil [] [aN (t_Kj p1 p2 1 o0 (Q1ge p1 p2 o0 H).1)] (by kernel_rfl)
def s_Kx (p1 : Val) (p2 : BA) (o0 : Decoder) : Val × Decoder := (s5 (prt p1 p2), ft o0 (isM p1 && isM (prt p1 p2)))
theorem e_Kx (p1 : Val) (p2 : BA) (o0 : Decoder) : s_Kx p1 p2 o0 = (((s_Kj p1 p2 5 o0).1, (s_Kj p1 p2 5 o0).2)) := by
  rfl
def c_Kx (p1 : Val) (p2 : BA) (o0 : Decoder) : En := .call 38 [.bx 0 0, .agg (Val.cells p1), .str p2] [⟨1, 0, false, (Decoder.cells o0)⟩]
def r_Kx (_p1 : Val) (_p2 : BA) (_o0 : Decoder) (q0 : Val) (q1 : Decoder) : Rs := .ret (.agg (Val.cells q0)) [⟨1, 0, false, (Decoder.cells q1)⟩]
def a_Kx (p1 : Val) (p2 : BA) (o0 : Decoder) : Rs := r_Kx p1 p2 o0 (s_Kx p1 p2 o0).1 (s_Kx p1 p2 o0).2
def H_Kx (p1 : Val) : Prop := Val.Sm 1000000000 p1
theorem Q1gt (p1 : Val) (_p2 : BA) (_o0 : Decoder) (H : H_Kx p1) : (H_Kj p1) ∧ True := by
  exact ⟨H, trivial⟩
theorem t_Kx (p1 : Val) (p2 : BA) (o0 : Decoder) (H : H_Kx p1) : Q6 G (c_Kx p1 p2 o0) (a_Kx p1 p2 o0) := by
 unfold a_Kx
 rw [e_Kx]
 exact Q7 (fn := Ir.Kx) rfl (h := [⟨1, 0, false, (Decoder.cells o0)⟩]) (vw := []) VOK.nil [] [aN (t_Kj p1 p2 5 o0 (Q1gt p1 p2 o0 H).1)] (by kernel_rfl)
def s_Kr (p1 : Val) (o0 : Decoder) : Resources × Decoder := ((Resources.dec p1).1, ft o0 (Resources.dec p1).2)
theorem e_Kr (p1 : Val) (o0 : Decoder) : s_Kr p1 o0 = (((Resources.mk (s_Kn p1 Q47 o0).1 (s_Kn p1 Q2q (s_Kn p1 Q47 o0).2).1 (s_Kn p1 Q3q (s_Kn p1 Q2q (s_Kn p1 Q47 o0).2).2).1), (s_Kn p1 Q3q (s_Kn p1 Q2q (s_Kn p1 Q47 o0).2).2).2)) := by
  simp only [s_Kn, s_Kr, Resources.dec, Qjr, Bool.and_assoc, Bool.and_left_comm, Bool.and_comm, Bool.and_self_left]
def c_Kr (p1 : Val) (o0 : Decoder) : En := .call 37 [.bx 0 0, .agg (Val.cells p1)] [⟨1, 0, false, (Decoder.cells o0)⟩]
def r_Kr (_p1 : Val) (_o0 : Decoder) (q0 : Resources) (q1 : Decoder) : Rs := .ret (.agg (Resources.cells q0)) [⟨1, 0, false, (Decoder.cells q1)⟩]
def a_Kr (p1 : Val) (o0 : Decoder) : Rs := r_Kr p1 o0 (s_Kr p1 o0).1 (s_Kr p1 o0).2
def H_Kr (p1 : Val) : Prop := Val.Sm 1000000000 p1
theorem Qzh (p1 : Val) (_o0 : Decoder) (H : H_Kr p1) : (H_Kn p1) ∧ True := by
  repeat' with_reducible apply And.intro
  all_goals first | exact True.intro | exact H | exact Qix (Q52 H _)
theorem t_Kr (p1 : Val) (o0 : Decoder) (H : H_Kr p1) : Q6 G (c_Kr p1 o0) (a_Kr p1 o0) := by
 unfold a_Kr
 rw [e_Kr]
 exact Q7 (fn := Ir.Kr) rfl (h := [⟨1, 0, false, (Decoder.cells o0)⟩]) (vw := []) VOK.nil [] [aN (t_Kn p1 Q47 o0 (Qzh p1 o0 H).1), aN (t_Kn p1 Q2q (s_Kn p1 Q47 o0).2 (Qzh p1 o0 H).1), aN (t_Kn p1 Q3q (s_Kn p1 Q2q (s_Kn p1 Q47 o0).2).2 (Qzh p1 o0 H).1)] (by kernel_rfl)
def s_Kp (p1 : Val) (o0 : Decoder) : Probe × Decoder := ((Probe.dec p1).1, ft o0 (Probe.dec p1).2)
theorem e_Kp (p1 : Val) (o0 : Decoder) : s_Kp p1 o0 = (((Probe.mk (s_Kn p1 Q1z (s_Kw p1 o0).2).1 (s_Kn p1 Q1s (s_Kn p1 Q1z (s_Kw p1 o0).2).2).1 (s_Kn p1 Q1h (s_Kn p1 Q1s (s_Kn p1 Q1z (s_Kw p1 o0).2).2).2).1 (s_Kn p1 Q1m (s_Kn p1 Q1h (s_Kn p1 Q1s (s_Kn p1 Q1z (s_Kw p1 o0).2).2).2).2).1), (s_Kn p1 Q1m (s_Kn p1 Q1h (s_Kn p1 Q1s (s_Kn p1 Q1z (s_Kw p1 o0).2).2).2).2).2)) := by
  simp only [s_Kw, s_Kn, s_Kp, Probe.dec, Qjr, Bool.and_assoc, Bool.and_left_comm, Bool.and_comm, Bool.and_self_left]
def c_Kp (p1 : Val) (o0 : Decoder) : En := .call 140 [.bx 0 0, .agg (Val.cells p1)] [⟨1, 0, false, (Decoder.cells o0)⟩]
def r_Kp (_p1 : Val) (_o0 : Decoder) (q0 : Probe) (q1 : Decoder) : Rs := .ret (.agg (Probe.cells q0)) [⟨1, 0, false, (Decoder.cells q1)⟩]
def a_Kp (p1 : Val) (o0 : Decoder) : Rs := r_Kp p1 o0 (s_Kp p1 o0).1 (s_Kp p1 o0).2
def H_Kp (p1 : Val) : Prop := Val.Sm 1000000000 p1
theorem Qs7 (p1 : Val) (_o0 : Decoder) (H : H_Kp p1) : (H_Kn p1) ∧ True := by
  repeat' with_reducible apply And.intro
  all_goals first | exact True.intro | exact H | exact Qix (Q52 H _)
theorem t_Kp (p1 : Val) (o0 : Decoder) (H : H_Kp p1) : Q6 G (c_Kp p1 o0) (a_Kp p1 o0) := by
 unfold a_Kp
 rw [e_Kp]
 exact Q7 (fn := Ir.Kp) rfl (h := [⟨1, 0, false, (Decoder.cells o0)⟩]) (vw := []) VOK.nil [] [aN (t_Kw p1 o0), aN (t_Kn p1 Q1z (s_Kw p1 o0).2 (Qs7 p1 o0 H).1), aN (t_Kn p1 Q1s (s_Kn p1 Q1z (s_Kw p1 o0).2).2 (Qs7 p1 o0 H).1), aN (t_Kn p1 Q1h (s_Kn p1 Q1s (s_Kn p1 Q1z (s_Kw p1 o0).2).2).2 (Qs7 p1 o0 H).1), aN (t_Kn p1 Q1m (s_Kn p1 Q1h (s_Kn p1 Q1s (s_Kn p1 Q1z (s_Kw p1 o0).2).2).2).2 (Qs7 p1 o0 H).1)] (by kernel_rfl)
def Q4v (p1 : Val) (p2 : BA) (o0 : Decoder) : List Val → Nat → Bool → (List Probe) → Bool × (List Probe)
 | [], _i0, v0_1, v0_2 =>
  (v0_1, v0_2)
 | x0 :: r0, i0, v0_1, v0_2 =>
  Q4v p1 p2 o0 r0 (i0 + 1) (s_Kp x0 (Decoder.mk v0_1)).2.failed (v0_2 ++ [(s_Kp x0 (Decoder.mk v0_1)).1])
def Qvt (p1 : Val) (p2 : BA) (o0 : Decoder) (i0 : Nat) (_v0_1 : Bool) (v0_2 : List Probe) : List PV :=
  [.un, .un, .un, .fn 140 [.bx 0 0] []] ++ nuns 5 ++ [.ms 1 4 0 (List.length v0_2)] ++ nuns 6 ++ [.sl (Val.rows (s_Kj p1 p2 4 o0).1.list), .int .i64 ((List.length (s_Kj p1 p2 4 o0).1.list) : Int), .int .i64 (i0 : Int)] ++ nuns 11
def Qku (_p1 : Val) (_p2 : BA) (_o0 : Decoder) (_i0 : Nat) (v0_1 : Bool) (v0_2 : List Probe) : List Ob :=
  [⟨1, 0, false, [.bool v0_1]⟩, ⟨4, 0, true, (Probe.rows v0_2).flatten⟩]
def Qg0 (p1 : Val) (p2 : BA) (o0 : Decoder) (i0 : Nat) (v0_1 : Bool) (v0_2 : List Probe) : En := .loop 1 Ir.Qhf Ir.Q1dp (Qvt p1 p2 o0 i0 v0_1 v0_2) (Qku p1 p2 o0 i0 v0_1 v0_2)
def Qpn (_p1 : Val) (_p2 : BA) (_o0 : Decoder) (q0 : Bool) (q1 : List Probe) (z : Nat → PV) (_zo : Nat → List PV) : St :=
  ⟨zr z 0 9 ++ [.ms 1 4 0 (List.length q1)] ++ zr z 10 20, [(0, ⟨1, 0, false, [.bool q0]⟩), (1, ⟨4, 0, true, (Probe.rows q1).flatten⟩)], 66⟩
theorem Qzx (p1 : Val) (p2 : BA) (o0 : Decoder) (i0 : Nat) (v0_1 : Bool) (v0_2 : List Probe) : VOK (Go.Pv.look (number 0 (Qku p1 p2 o0 i0 v0_1 v0_2))) [(1, Probe.rows v0_2)] := (VOK.cons (show Seen _ _ from Q3h (ob := ⟨4, 0, true, (Probe.rows v0_2).flatten⟩) (Probe.Q9 v0_2 4 rfl)) VOK.nil)
def Qga (p1 : Val) (p2 : BA) (o0 : Decoder) (e : En) (q : Bool × (List Probe)) : Prop := ∃ z zo, Q6 G e (.st (.exit 0) (Qpn p1 p2 o0 q.1 q.2 z zo))
theorem Qs0 (p1 : Val) (p2 : BA) (o0 : Decoder) {e e' : En} (h : ∀ r, Q6 G e r → Q6 G e' r) : ∀ q, Qga p1 p2 o0 e q → Qga p1 p2 o0 e' q
  | _, ⟨z, zo, hz⟩ => ⟨z, zo, h _ hz⟩
def Qc0 (p1 : Val) (p2 : BA) (o0 : Decoder) : Prop := (List.length (s_Kj p1 p2 4 o0).1.list ≤ 137438953472) ∧ (∀ x0 ∈ (s_Kj p1 p2 4 o0).1.list, H_Kp x0) ∧ True
def Qn1 (p1 : Val) (p2 : BA) (o0 : Decoder) (i0 : Nat) (_v0_1 : Bool) (_v0_2 : List Probe) : List PV :=
  [.un, .un, .un, .fn 140 [.bx 0 0] []] ++ nuns 12 ++ [.sl (Val.rows (s_Kj p1 p2 4 o0).1.list), .int .i64 ((List.length (s_Kj p1 p2 4 o0).1.list) : Int), .int .i64 (i0 : Int), .bool false]
def Qjo (_p1 : Val) (_p2 : BA) (_o0 : Decoder) (_i0 : Nat) (_v0_1 : Bool) (_v0_2 : List Probe) : List (Nat × List PV) :=
  []
theorem Q163 (p1 : Val) (p2 : BA) (o0 : Decoder) (_H : Qc0 p1 p2 o0) (i0 : Nat) (v0_1 : Bool) (v0_2 : List Probe) (_ho0_0 : List.length v0_2 ≤ i0) (hc0 : (decide ((i0 : Int) < ((List.length (s_Kj p1 p2 4 o0).1.list) : Int))) = false) : Qga p1 p2 o0 (Qg0 p1 p2 o0 i0 v0_1 v0_2) (v0_1, v0_2) := by
 exact ⟨(envF (Qn1 p1 p2 o0 i0 v0_1 v0_2)), (zoF (Qjo p1 p2 o0 i0 v0_1 v0_2)), Qe (Qzx p1 p2 o0 i0 v0_1 v0_2) (x := ((.exit 0), Qpn p1 p2 o0 v0_1 v0_2 (envF (Qn1 p1 p2 o0 i0 v0_1 v0_2)) (zoF (Qjo p1 p2 o0 i0 v0_1 v0_2)))) [hB 0 hc0] [] (by kernel_rfl)⟩
theorem Q130 (p1 : Val) (p2 : BA) (o0 : Decoder) (H : Qc0 p1 p2 o0) (x0 : Val) (i0 : Nat) (v0_1 : Bool) (v0_2 : List Probe) (hx0 : (s_Kj p1 p2 4 o0).1.list[i0]? = some x0) (hi0 : i0 < List.length (s_Kj p1 p2 4 o0).1.list) (ho0_0 : List.length v0_2 ≤ i0) (hc0 : (decide ((i0 : Int) < ((List.length (s_Kj p1 p2 4 o0).1.list) : Int))) = true) {r : Rs} (hr : Q6 G (Qg0 p1 p2 o0 (i0 + 1) (s_Kp x0 (Decoder.mk v0_1)).2.failed (v0_2 ++ [(s_Kp x0 (Decoder.mk v0_1)).1])) r) : Q6 G (Qg0 p1 p2 o0 i0 v0_1 v0_2) r := by
 have hB0 := H.1
 exact Ql (Qzx p1 p2 o0 i0 v0_1 v0_2) (y := (Qvt p1 p2 o0 (i0 + 1) (s_Kp x0 (Decoder.mk v0_1)).2.failed (v0_2 ++ [(s_Kp x0 (Decoder.mk v0_1)).1]), Qku p1 p2 o0 (i0 + 1) (s_Kp x0 (Decoder.mk v0_1)).2.failed (v0_2 ++ [(s_Kp x0 (Decoder.mk v0_1)).1]))) [hB 0 hc0, hP 0 (Q1u 5 (Val.rows (s_Kj p1 p2 4 o0).1.list) i0 _ (Val.Qb hx0) rfl), hV 8 [(642, Probe.rows (v0_2 ++ [(s_Kp x0 (Decoder.mk v0_1)).1]))] (Q55 1 578 642 4 32 0 0 true (Probe.rows v0_2) (Probe.rows (v0_2 ++ [(s_Kp x0 (Decoder.mk v0_1)).1])) (Probe.cells (s_Kp x0 (Decoder.mk v0_1)).1) (List.length v0_2) (List.length (v0_2 ++ [(s_Kp x0 (Decoder.mk v0_1)).1])) rfl (Probe.Q5 v0_2).symm (Probe.Q5 (v0_2 ++ [(s_Kp x0 (Decoder.mk v0_1)).1])).symm (Probe.Q12 v0_2 (s_Kp x0 (Decoder.mk v0_1)).1) (Probe.Qf v0_2) rfl (by omega)), hS 0 true (Probe.Q9 (v0_2 ++ [(s_Kp x0 (Decoder.mk v0_1)).1]) 4 rfl), hP 1 (Q27 i0 (by omega))] [aN (t_Kp x0 (Decoder.mk v0_1) (H.2.1 x0 (Q2c hx0)))] (by kernel_rfl) hr
theorem Qx4 (p1 : Val) (p2 : BA) (o0 : Decoder) (H : Qc0 p1 p2 o0) : ∀ (r0 : List Val) (i0 : Nat) (v0_1 : Bool) (v0_2 : List Probe), List.drop i0 (s_Kj p1 p2 4 o0).1.list = r0 → List.length v0_2 ≤ i0 → Qga p1 p2 o0 (Qg0 p1 p2 o0 i0 v0_1 v0_2) (Q4v p1 p2 o0 r0 i0 v0_1 v0_2)
 | [], i0, v0_1, v0_2, hd, ho0_0 => by
  have hc0 : (decide ((i0 : Int) < ((List.length (s_Kj p1 p2 4 o0).1.list) : Int))) = false := by have := Q1f hd; simp; omega
  rw [Q4v]
  exact Q163 p1 p2 o0 H i0 v0_1 v0_2 ho0_0 hc0
 | x0 :: r0, i0, v0_1, v0_2, hd, ho0_0 => by
  obtain ⟨hx0, hi0, hd'⟩ := Q11 hd
  have hc0 : (decide ((i0 : Int) < ((List.length (s_Kj p1 p2 4 o0).1.list) : Int))) = true := by simp; omega
  rw [Q4v]
  exact Qs0 p1 p2 o0 (fun r hr => Q130 p1 p2 o0 H x0 i0 v0_1 v0_2 hx0 hi0 ho0_0 hc0 hr) _ (Qx4 p1 p2 o0 H r0 (i0 + 1) (s_Kp x0 (Decoder.mk v0_1)).2.failed (v0_2 ++ [(s_Kp x0 (Decoder.mk v0_1)).1]) hd' (by first | omega | (simp; omega)))
def Q95 (p1 : Val) (p2 : BA) (o0 : Decoder) : List Probe × Decoder := ((dE Probe.dec p1 p2).1, ft o0 (isM p1 && (dE Probe.dec p1 p2).2))
theorem Qzk (p1 : Val) (p2 : BA) (o0 : Decoder) : ∀ (l : List Val) (i : Nat) (b : Bool) (a : List Probe), Q4v p1 p2 o0 l i b a = (b || !(l.all fun x => (Probe.dec x).2), a ++ l.map (fun x => (Probe.dec x).1))
  | [], _, b, a => by rw [Q4v]; simp
  | x :: l, i, b, a => by
    rw [Q4v]
    refine (Qzk p1 p2 o0 l (i + 1) (b || !(Probe.dec x).2) (a ++ [(Probe.dec x).1])).trans ?_
    simp only [List.append_assoc, List.singleton_append, List.map_cons, List.all_cons, Bool.not_and, Bool.or_assoc]
theorem Q1p7 (p1 : Val) (p2 : BA) (o0 : Decoder) : Q95 p1 p2 o0 = (((Q4v p1 p2 o0 (s_Kj p1 p2 4 o0).1.list 0 (s_Kj p1 p2 4 o0).2.failed []).2, (Decoder.mk (Q4v p1 p2 o0 (s_Kj p1 p2 4 o0).1.list 0 (s_Kj p1 p2 4 o0).2.failed []).1))) := by
  rw [Qzk]
  unfold s_Kj Q95
  simp only [getL, Q59]
  refine Prod.ext rfl ?_
  rw [Q7z o0.failed (isM p1) _ _ _ (Qt1 (prt p1 p2)), Q56]
  rfl
def Q1ng (p1 : Val) (p2 : BA) (o0 : Decoder) : En := .call 139 [.bx 0 0, .agg (Val.cells p1), .str p2, .fn 140 [.bx 0 0] []] [⟨1, 0, false, (Decoder.cells o0)⟩]
def Q1pd (_p1 : Val) (_p2 : BA) (_o0 : Decoder) (q0 : List Probe) (q1 : Decoder) : Rs := .ret (.sl (Probe.rows q0)) [⟨1, 0, false, (Decoder.cells q1)⟩]
def Q1i2 (p1 : Val) (p2 : BA) (o0 : Decoder) : Rs := Q1pd p1 p2 o0 (Q95 p1 p2 o0).1 (Q95 p1 p2 o0).2
def Q1gd (p1 : Val) : Prop := Val.Sm 1000000000 p1
theorem Q12n (p1 : Val) (p2 : BA) (o0 : Decoder) (H : Q1gd p1) : (H_Kj p1) ∧ (Qc0 p1 p2 o0) ∧ True := by
  have hl := Qtn (Q52 H p2)
  refine ⟨H, ?_, trivial⟩
  unfold Qc0 s_Kj
  simp only [getL]
  exact ⟨Nat.le_trans hl.1 (Nat.le_of_ble_eq_true rfl), hl.2, trivial⟩
theorem Q1gf (p1 : Val) (p2 : BA) (o0 : Decoder) (H : Q1gd p1) : Q6 G (Q1ng p1 p2 o0) (Q1i2 p1 p2 o0) := by
 unfold Q1i2
 rw [Q1p7]
 have hl0 := Qx4 p1 p2 o0 ((Q12n p1 p2 o0 H).2.1) (s_Kj p1 p2 4 o0).1.list 0 (s_Kj p1 p2 4 o0).2.failed [] (by simp) (by simp)
 obtain ⟨z0, zo0, hl0⟩ := hl0
 exact Q7 (fn := Ir.K12) rfl (h := [⟨1, 0, false, (Decoder.cells o0)⟩]) (vw := []) VOK.nil [hP 8 (Qd (Val.rows (s_Kj p1 p2 4 o0).1.list) (List.length (s_Kj p1 p2 4 o0).1.list) (Val.Q5 (s_Kj p1 p2 4 o0).1.list)), hS 0 true (Probe.Q9 (Q4v p1 p2 o0 (s_Kj p1 p2 4 o0).1.list 0 (s_Kj p1 p2 4 o0).2.failed []).2 4 rfl), hQ (Probe.Q5 (Q4v p1 p2 o0 (s_Kj p1 p2 4 o0).1.list 0 (s_Kj p1 p2 4 o0).2.failed []).2).symm] [aN (t_Kj p1 p2 4 o0 (Q12n p1 p2 o0 H).1), aV [(1, Probe.rows (Q4v p1 p2 o0 (s_Kj p1 p2 4 o0).1.list 0 (s_Kj p1 p2 4 o0).2.failed []).2)] hl0] (by kernel_rfl)
def s_Kg (p1 : Val) (o0 : Decoder) : Container × Decoder := ((Container.dec p1).1, ft o0 (Container.dec p1).2)
abbrev M0 (o0 : Decoder) (p1 : Val) := (s_Kx p1 Q2d (s_Kr (s_Kx p1 Q13 (s_Kv p1 Q1w (s_Kv p1 Qr (s_Kw p1 o0).2).2).2).1 (s_Kx p1 Q13 (s_Kv p1 Q1w (s_Kv p1 Qr (s_Kw p1 o0).2).2).2).2).2)
theorem e_Kg (p1 : Val) (o0 : Decoder) : s_Kg p1 o0 = (((Container.mk (s_Kv p1 Qr (s_Kw p1 o0).2).1 (s_Kv p1 Q1w (s_Kv p1 Qr (s_Kw p1 o0).2).2).1 (s_Kr (s_Kx p1 Q13 (s_Kv p1 Q1w (s_Kv p1 Qr (s_Kw p1 o0).2).2).2).1 (s_Kx p1 Q13 (s_Kv p1 Q1w (s_Kv p1 Qr (s_Kw p1 o0).2).2).2).2).1 (s_Kr (M0 o0 p1).1 (M0 o0 p1).2).1 (Q95 p1 Q2h (s_Kr (M0 o0 p1).1 (M0 o0 p1).2).2).1 (Q95 p1 Qn (Q95 p1 Q2h (s_Kr (M0 o0 p1).1 (M0 o0 p1).2).2).2).1 (Q95 p1 Q1o (Q95 p1 Qn (Q95 p1 Q2h (s_Kr (M0 o0 p1).1 (M0 o0 p1).2).2).2).2).1), (Q95 p1 Q1o (Q95 p1 Qn (Q95 p1 Q2h (s_Kr (M0 o0 p1).1 (M0 o0 p1).2).2).2).2).2)) := by
  simp only [s_Kw, s_Kv, s_Kx, s_Kr, Q95, s_Kg, Container.dec, Resources.sub1, Resources.sub2, Qjr, Bool.and_assoc, Bool.and_left_comm, Bool.and_comm, Bool.and_self_left]
def c_Kg (p1 : Val) (o0 : Decoder) : En := .call 86 [.bx 0 0, .agg (Val.cells p1)] [⟨1, 0, false, (Decoder.cells o0)⟩]
def r_Kg (_p1 : Val) (_o0 : Decoder) (q0 : Container) (q1 : Decoder) : Rs := .ret (.agg (Container.cells q0)) [⟨1, 0, false, (Decoder.cells q1)⟩]
def a_Kg (p1 : Val) (o0 : Decoder) : Rs := r_Kg p1 o0 (s_Kg p1 o0).1 (s_Kg p1 o0).2
def H_Kg (p1 : Val) : Prop := Val.Sm 1000000000 p1
theorem Q7w (p1 : Val) (o0 : Decoder) (H : H_Kg p1) : (H_Kv p1) ∧ (H_Kx p1) ∧ (H_Kr (s_Kx p1 Q13 (s_Kv p1 Q1w (s_Kv p1 Qr (s_Kw p1 o0).2).2).2).1) ∧ (H_Kr (M0 o0 p1).1) ∧ (Q1gd p1) ∧ True := by
  repeat' with_reducible apply And.intro
  all_goals first | exact True.intro | exact H | exact Qix (Q52 H _)
theorem t_Kg (p1 : Val) (o0 : Decoder) (H : H_Kg p1) : Q6 G (c_Kg p1 o0) (a_Kg p1 o0) := by
 unfold a_Kg
 rw [e_Kg]
 exact Q7 (fn := Ir.Kg) rfl (h := [⟨1, 0, false, (Decoder.cells o0)⟩]) (vw := []) VOK.nil [] [aN (t_Kw p1 o0), aN (t_Kv p1 Qr (s_Kw p1 o0).2 (Q7w p1 o0 H).1), aN (t_Kv p1 Q1w (s_Kv p1 Qr (s_Kw p1 o0).2).2 (Q7w p1 o0 H).1), aN (t_Kx p1 Q13 (s_Kv p1 Q1w (s_Kv p1 Qr (s_Kw p1 o0).2).2).2 (Q7w p1 o0 H).2.1), aN (t_Kr (s_Kx p1 Q13 (s_Kv p1 Q1w (s_Kv p1 Qr (s_Kw p1 o0).2).2).2).1 (s_Kx p1 Q13 (s_Kv p1 Q1w (s_Kv p1 Qr (s_Kw p1 o0).2).2).2).2 (Q7w p1 o0 H).2.2.1), aN (t_Kx p1 Q2d (s_Kr (s_Kx p1 Q13 (s_Kv p1 Q1w (s_Kv p1 Qr (s_Kw p1 o0).2).2).2).1 (s_Kx p1 Q13 (s_Kv p1 Q1w (s_Kv p1 Qr (s_Kw p1 o0).2).2).2).2).2 (Q7w p1 o0 H).2.1), aN (t_Kr (M0 o0 p1).1 (M0 o0 p1).2 (Q7w p1 o0 H).2.2.2.1), aN (Q1gf p1 Q2h (s_Kr (M0 o0 p1).1 (M0 o0 p1).2).2 (Q7w p1 o0 H).2.2.2.2.1), aN (Q1gf p1 Qn (Q95 p1 Q2h (s_Kr (M0 o0 p1).1 (M0 o0 p1).2).2).2 (Q7w p1 o0 H).2.2.2.2.1), aN (Q1gf p1 Q1o (Q95 p1 Qn (Q95 p1 Q2h (s_Kr (M0 o0 p1).1 (M0 o0 p1).2).2).2).2 (Q7w p1 o0 H).2.2.2.2.1)] (by kernel_rfl)
def Q4k (p1 : Val) (p2 : BA) (o0 : Decoder) : List Val → Nat → Bool → (List Container) → Bool × (List Container)
 | [], _i0, v0_1, v0_2 =>
  (v0_1, v0_2)
 | x0 :: r0, i0, v0_1, v0_2 =>
  Q4k p1 p2 o0 r0 (i0 + 1) (s_Kg x0 (Decoder.mk v0_1)).2.failed (v0_2 ++ [(s_Kg x0 (Decoder.mk v0_1)).1])
def Qxl (p1 : Val) (p2 : BA) (o0 : Decoder) (i0 : Nat) (_v0_1 : Bool) (v0_2 : List Container) : List PV :=
  [.un, .un, .un, .fn 86 [.bx 0 0] []] ++ nuns 5 ++ [.ms 1 11 0 (List.length v0_2)] ++ nuns 6 ++ [.sl (Val.rows (s_Kj p1 p2 4 o0).1.list), .int .i64 ((List.length (s_Kj p1 p2 4 o0).1.list) : Int), .int .i64 (i0 : Int)] ++ nuns 11
def Qlq (_p1 : Val) (_p2 : BA) (_o0 : Decoder) (_i0 : Nat) (v0_1 : Bool) (v0_2 : List Container) : List Ob :=
  [⟨1, 0, false, [.bool v0_1]⟩, ⟨11, 0, true, (Container.rows v0_2).flatten⟩]
def Qfc (p1 : Val) (p2 : BA) (o0 : Decoder) (i0 : Nat) (v0_1 : Bool) (v0_2 : List Container) : En := .loop 1 Ir.Qit Ir.Q1cu (Qxl p1 p2 o0 i0 v0_1 v0_2) (Qlq p1 p2 o0 i0 v0_1 v0_2)
def Qna (_p1 : Val) (_p2 : BA) (_o0 : Decoder) (q0 : Bool) (q1 : List Container) (z : Nat → PV) (_zo : Nat → List PV) : St :=
  ⟨zr z 0 9 ++ [.ms 1 11 0 (List.length q1)] ++ zr z 10 20, [(0, ⟨1, 0, false, [.bool q0]⟩), (1, ⟨11, 0, true, (Container.rows q1).flatten⟩)], 66⟩
theorem Q11r (p1 : Val) (p2 : BA) (o0 : Decoder) (i0 : Nat) (v0_1 : Bool) (v0_2 : List Container) : VOK (Go.Pv.look (number 0 (Qlq p1 p2 o0 i0 v0_1 v0_2))) [(1, Container.rows v0_2)] := (VOK.cons (show Seen _ _ from Q3h (ob := ⟨11, 0, true, (Container.rows v0_2).flatten⟩) (Container.Q9 v0_2 11 rfl)) VOK.nil)
def Qew (p1 : Val) (p2 : BA) (o0 : Decoder) (e : En) (q : Bool × (List Container)) : Prop := ∃ z zo, Q6 G e (.st (.exit 0) (Qna p1 p2 o0 q.1 q.2 z zo))
theorem Qs2 (p1 : Val) (p2 : BA) (o0 : Decoder) {e e' : En} (h : ∀ r, Q6 G e r → Q6 G e' r) : ∀ q, Qew p1 p2 o0 e q → Qew p1 p2 o0 e' q
  | _, ⟨z, zo, hz⟩ => ⟨z, zo, h _ hz⟩
def Qaw (p1 : Val) (p2 : BA) (o0 : Decoder) : Prop := (List.length (s_Kj p1 p2 4 o0).1.list ≤ 137438953472) ∧ (∀ x0 ∈ (s_Kj p1 p2 4 o0).1.list, H_Kg x0) ∧ True
def Qn5 (p1 : Val) (p2 : BA) (o0 : Decoder) (i0 : Nat) (_v0_1 : Bool) (_v0_2 : List Container) : List PV :=
  [.un, .un, .un, .fn 86 [.bx 0 0] []] ++ nuns 12 ++ [.sl (Val.rows (s_Kj p1 p2 4 o0).1.list), .int .i64 ((List.length (s_Kj p1 p2 4 o0).1.list) : Int), .int .i64 (i0 : Int), .bool false]
def Qks (_p1 : Val) (_p2 : BA) (_o0 : Decoder) (_i0 : Nat) (_v0_1 : Bool) (_v0_2 : List Container) : List (Nat × List PV) :=
  []
theorem Q14x (p1 : Val) (p2 : BA) (o0 : Decoder) (_H : Qaw p1 p2 o0) (i0 : Nat) (v0_1 : Bool) (v0_2 : List Container) (_ho0_0 : List.length v0_2 ≤ i0) (hc0 : (decide ((i0 : Int) < ((List.length (s_Kj p1 p2 4 o0).1.list) : Int))) = false) : Qew p1 p2 o0 (Qfc p1 p2 o0 i0 v0_1 v0_2) (v0_1, v0_2) := by
 exact ⟨(envF (Qn5 p1 p2 o0 i0 v0_1 v0_2)), (zoF (Qks p1 p2 o0 i0 v0_1 v0_2)), Qe (Q11r p1 p2 o0 i0 v0_1 v0_2) (x := ((.exit 0), Qna p1 p2 o0 v0_1 v0_2 (envF (Qn5 p1 p2 o0 i0 v0_1 v0_2)) (zoF (Qks p1 p2 o0 i0 v0_1 v0_2)))) [hB 0 hc0] [] (by kernel_rfl)⟩
theorem Q12y (p1 : Val) (p2 : BA) (o0 : Decoder) (H : Qaw p1 p2 o0) (x0 : Val) (i0 : Nat) (v0_1 : Bool) (v0_2 : List Container) (hx0 : (s_Kj p1 p2 4 o0).1.list[i0]? = some x0) (hi0 : i0 < List.length (s_Kj p1 p2 4 o0).1.list) (ho0_0 : List.length v0_2 ≤ i0) (hc0 : (decide ((i0 : Int) < ((List.length (s_Kj p1 p2 4 o0).1.list) : Int))) = true) {r : Rs} (hr : Q6 G (Qfc p1 p2 o0 (i0 + 1) (s_Kg x0 (Decoder.mk v0_1)).2.failed (v0_2 ++ [(s_Kg x0 (Decoder.mk v0_1)).1])) r) : Q6 G (Qfc p1 p2 o0 i0 v0_1 v0_2) r := by
 have hB0 := H.1
 exact Ql (Q11r p1 p2 o0 i0 v0_1 v0_2) (y := (Qxl p1 p2 o0 (i0 + 1) (s_Kg x0 (Decoder.mk v0_1)).2.failed (v0_2 ++ [(s_Kg x0 (Decoder.mk v0_1)).1]), Qlq p1 p2 o0 (i0 + 1) (s_Kg x0 (Decoder.mk v0_1)).2.failed (v0_2 ++ [(s_Kg x0 (Decoder.mk v0_1)).1]))) [hB 0 hc0, hP 0 (Q1u 5 (Val.rows (s_Kj p1 p2 4 o0).1.list) i0 _ (Val.Qb hx0) rfl), hV 8 [(642, Container.rows (v0_2 ++ [(s_Kg x0 (Decoder.mk v0_1)).1]))] (Q55 1 578 642 11 152 0 0 true (Container.rows v0_2) (Container.rows (v0_2 ++ [(s_Kg x0 (Decoder.mk v0_1)).1])) (Container.cells (s_Kg x0 (Decoder.mk v0_1)).1) (List.length v0_2) (List.length (v0_2 ++ [(s_Kg x0 (Decoder.mk v0_1)).1])) rfl (Container.Q5 v0_2).symm (Container.Q5 (v0_2 ++ [(s_Kg x0 (Decoder.mk v0_1)).1])).symm (Container.Q12 v0_2 (s_Kg x0 (Decoder.mk v0_1)).1) (Container.Qf v0_2) rfl (by omega)), hS 0 true (Container.Q9 (v0_2 ++ [(s_Kg x0 (Decoder.mk v0_1)).1]) 11 rfl), hP 1 (Q27 i0 (by omega))] [aN (t_Kg x0 (Decoder.mk v0_1) (H.2.1 x0 (Q2c hx0)))] (by kernel_rfl) hr
theorem Qv3 (p1 : Val) (p2 : BA) (o0 : Decoder) (H : Qaw p1 p2 o0) : ∀ (r0 : List Val) (i0 : Nat) (v0_1 : Bool) (v0_2 : List Container), List.drop i0 (s_Kj p1 p2 4 o0).1.list = r0 → List.length v0_2 ≤ i0 → Qew p1 p2 o0 (Qfc p1 p2 o0 i0 v0_1 v0_2) (Q4k p1 p2 o0 r0 i0 v0_1 v0_2)
 | [], i0, v0_1, v0_2, hd, ho0_0 => by
  have hc0 : (decide ((i0 : Int) < ((List.length (s_Kj p1 p2 4 o0).1.list) : Int))) = false := by have := Q1f hd; simp; omega
  rw [Q4k]
  exact Q14x p1 p2 o0 H i0 v0_1 v0_2 ho0_0 hc0
 | x0 :: r0, i0, v0_1, v0_2, hd, ho0_0 => by
  obtain ⟨hx0, hi0, hd'⟩ := Q11 hd
  have hc0 : (decide ((i0 : Int) < ((List.length (s_Kj p1 p2 4 o0).1.list) : Int))) = true := by simp; omega
  rw [Q4k]
  exact Qs2 p1 p2 o0 (fun r hr => Q12y p1 p2 o0 H x0 i0 v0_1 v0_2 hx0 hi0 ho0_0 hc0 hr) _ (Qv3 p1 p2 o0 H r0 (i0 + 1) (s_Kg x0 (Decoder.mk v0_1)).2.failed (v0_2 ++ [(s_Kg x0 (Decoder.mk v0_1)).1]) hd' (by first | omega | (simp; omega)))
def Q141 (p1 : Val) (p2 : BA) (o0 : Decoder) : List Container × Decoder := ((dE Container.dec p1 p2).1, ft o0 (isM p1 && (dE Container.dec p1 p2).2))
theorem Q12e (p1 : Val) (p2 : BA) (o0 : Decoder) : ∀ (l : List Val) (i : Nat) (b : Bool) (a : List Container), Q4k p1 p2 o0 l i b a = (b || !(l.all fun x => (Container.dec x).2), a ++ l.map (fun x => (Container.dec x).1))
  | [], _, b, a => by rw [Q4k]; simp
  | x :: l, i, b, a => by
    rw [Q4k]
    refine (Q12e p1 p2 o0 l (i + 1) (b || !(Container.dec x).2) (a ++ [(Container.dec x).1])).trans ?_
    simp only [List.append_assoc, List.singleton_append, List.map_cons, List.all_cons, Bool.not_and, Bool.or_assoc]
theorem Q1lu (p1 : Val) (p2 : BA) (o0 : Decoder) : Q141 p1 p2 o0 = (((Q4k p1 p2 o0 (s_Kj p1 p2 4 o0).1.list 0 (s_Kj p1 p2 4 o0).2.failed []).2, (Decoder.mk (Q4k p1 p2 o0 (s_Kj p1 p2 4 o0).1.list 0 (s_Kj p1 p2 4 o0).2.failed []).1))) := by
  rw [Q12e]
  unfold s_Kj Q141
  simp only [getL, Q59]
  refine Prod.ext rfl ?_
  rw [Q7z o0.failed (isM p1) _ _ _ (Qt1 (prt p1 p2)), Q56]
  rfl
def Q1ph (p1 : Val) (p2 : BA) (o0 : Decoder) : En := .call 85 [.bx 0 0, .agg (Val.cells p1), .str p2, .fn 86 [.bx 0 0] []] [⟨1, 0, false, (Decoder.cells o0)⟩]
def Q1q9 (_p1 : Val) (_p2 : BA) (_o0 : Decoder) (q0 : List Container) (q1 : Decoder) : Rs := .ret (.sl (Container.rows q0)) [⟨1, 0, false, (Decoder.cells q1)⟩]
def Q1jl (p1 : Val) (p2 : BA) (o0 : Decoder) : Rs := Q1q9 p1 p2 o0 (Q141 p1 p2 o0).1 (Q141 p1 p2 o0).2
def Q1gg (p1 : Val) : Prop := Val.Sm 1000000000 p1
theorem Q10v (p1 : Val) (p2 : BA) (o0 : Decoder) (H : Q1gg p1) : (H_Kj p1) ∧ (Qaw p1 p2 o0) ∧ True := by
  have hl := Qtn (Q52 H p2)
  refine ⟨H, ?_, trivial⟩
  unfold Qaw s_Kj
  simp only [getL]
  exact ⟨Nat.le_trans hl.1 (Nat.le_of_ble_eq_true rfl), hl.2, trivial⟩
theorem Q1la (p1 : Val) (p2 : BA) (o0 : Decoder) (H : Q1gg p1) : Q6 G (Q1ph p1 p2 o0) (Q1jl p1 p2 o0) := by
 unfold Q1jl
 rw [Q1lu]
 have hl0 := Qv3 p1 p2 o0 ((Q10v p1 p2 o0 H).2.1) (s_Kj p1 p2 4 o0).1.list 0 (s_Kj p1 p2 4 o0).2.failed [] (by simp) (by simp)
 obtain ⟨z0, zo0, hl0⟩ := hl0
 exact Q7 (fn := Ir.K16) rfl (h := [⟨1, 0, false, (Decoder.cells o0)⟩]) (vw := []) VOK.nil [hP 8 (Qd (Val.rows (s_Kj p1 p2 4 o0).1.list) (List.length (s_Kj p1 p2 4 o0).1.list) (Val.Q5 (s_Kj p1 p2 4 o0).1.list)), hS 0 true (Container.Q9 (Q4k p1 p2 o0 (s_Kj p1 p2 4 o0).1.list 0 (s_Kj p1 p2 4 o0).2.failed []).2 11 rfl), hQ (Container.Q5 (Q4k p1 p2 o0 (s_Kj p1 p2 4 o0).1.list 0 (s_Kj p1 p2 4 o0).2.failed []).2).symm] [aN (t_Kj p1 p2 4 o0 (Q10v p1 p2 o0 H).1), aV [(1, Container.rows (Q4k p1 p2 o0 (s_Kj p1 p2 4 o0).1.list 0 (s_Kj p1 p2 4 o0).2.failed []).2)] hl0] (by kernel_rfl)
def s_Kz (p1 : Val) (o0 : Decoder) : ByteArray × Decoder := ((xS p1).1, ft o0 (xS p1).2)
theorem e_Kz (p1 : Val) (o0 : Decoder) : s_Kz p1 o0 = (bif o0.failed then
    bif (p1.kind == 3) then
      (p1.s, (Decoder.mk true))
    else
      (eB, (Decoder.mk true))
  else
    bif (p1.kind == 3) then
      (p1.s, (Decoder.mk false))
    else
      (eB, (Decoder.mk (!(p1.kind == 0))))) := by
  obtain ⟨b⟩ := o0
  unfold s_Kz ft xS
  cases b <;> cases (p1.kind == 3) <;> cases (p1.kind == 0) <;> rfl
def c_Kz (p1 : Val) (o0 : Decoder) : En := .call 142 [.bx 0 0, .agg (Val.cells p1)] [⟨1, 0, false, (Decoder.cells o0)⟩]
def r_Kz (_p1 : Val) (_o0 : Decoder) (q0 : BA) (q1 : Decoder) : Rs := .ret (.str q0) [⟨1, 0, false, (Decoder.cells q1)⟩]
def a_Kz (p1 : Val) (o0 : Decoder) : Rs := r_Kz p1 o0 (s_Kz p1 o0).1 (s_Kz p1 o0).2
theorem t_Kz (p1 : Val) (o0 : Decoder) : Q6 G (c_Kz p1 o0) (a_Kz p1 o0) := by
 unfold a_Kz
 rw [e_Kz]
 cases h0 : o0.failed with
 | true =>
  cases h1 : (p1.kind == 3) with
  | true =>
   exact Q7 (fn := Ir.Kz) rfl (h := [⟨1, 0, false, (Decoder.cells o0)⟩]) (vw := []) VOK.nil [hP 6 (decR o0.failed true [0] h0), hP 15 (dec (!(p1.kind == 3)) false (by rw [h1]; rfl))] [] (by kernel_rfl)
  | false =>
   exact Q7 (fn := Ir.Kz) rfl (h := [⟨1, 0, false, (Decoder.cells o0)⟩]) (vw := []) VOK.nil [hP 6 (decR o0.failed true [0] h0), hP 15 (dec (!(p1.kind == 3)) true (by rw [h1]; rfl))] [] (by kernel_rfl)
 | false =>
  cases h1 : (p1.kind == 3) with
  | true =>
   exact Q7 (fn := Ir.Kz) rfl (h := [⟨1, 0, false, (Decoder.cells o0)⟩]) (vw := []) VOK.nil [hP 6 (decR o0.failed false [0] h0), hP 3 (dec (!(p1.kind == 3)) false (by rw [h1]; rfl)), hP 11 (dec (!(p1.kind == 3)) false (by rw [h1]; rfl))] [] (by kernel_rfl)
  | false =>
   exact Q7 (fn := Ir.Kz) rfl (h := [⟨1, 0, false, (Decoder.cells o0)⟩]) (vw := []) VOK.nil [hP 6 (decR o0.failed false [0] h0), hP 3 (dec (!(p1.kind == 3)) true (by rw [h1]; rfl)), hP 11 (dec (!(p1.kind == 3)) true (by rw [h1]; rfl))] [] (by kernel_rfl)
def Q4e (p1 : Val) (p2 : BA) (o0 : Decoder) : List Val → Nat → Bool → (List ByteArray) → Bool × (List ByteArray)
 | [], _i0, v0_1, v0_2 =>
  (v0_1, v0_2)
 | x0 :: r0, i0, v0_1, v0_2 =>
  Q4e p1 p2 o0 r0 (i0 + 1) (s_Kz x0 (Decoder.mk v0_1)).2.failed (v0_2 ++ [(s_Kz x0 (Decoder.mk v0_1)).1])
def Quk (p1 : Val) (p2 : BA) (o0 : Decoder) (i0 : Nat) (_v0_1 : Bool) (v0_2 : List ByteArray) : List PV :=
  [.un, .un, .un, .fn 142 [.bx 0 0] []] ++ nuns 5 ++ [.ms 1 1 0 (List.length v0_2)] ++ nuns 6 ++ [.sl (Val.rows (s_Kj p1 p2 4 o0).1.list), .int .i64 ((List.length (s_Kj p1 p2 4 o0).1.list) : Int), .int .i64 (i0 : Int)] ++ nuns 11
def Qkw (_p1 : Val) (_p2 : BA) (_o0 : Decoder) (_i0 : Nat) (v0_1 : Bool) (v0_2 : List ByteArray) : List Ob :=
  [⟨1, 0, false, [.bool v0_1]⟩, ⟨1, 0, true, (Qc v0_2).flatten⟩]
def Qfh (p1 : Val) (p2 : BA) (o0 : Decoder) (i0 : Nat) (v0_1 : Bool) (v0_2 : List ByteArray) : En := .loop 1 Ir.Qko Ir.Q1dh (Quk p1 p2 o0 i0 v0_1 v0_2) (Qkw p1 p2 o0 i0 v0_1 v0_2)
def Qp8 (_p1 : Val) (_p2 : BA) (_o0 : Decoder) (q0 : Bool) (q1 : List ByteArray) (z : Nat → PV) (_zo : Nat → List PV) : St :=
  ⟨zr z 0 9 ++ [.ms 1 1 0 (List.length q1)] ++ zr z 10 20, [(0, ⟨1, 0, false, [.bool q0]⟩), (1, ⟨1, 0, true, (Qc q1).flatten⟩)], 66⟩
theorem Q10s (p1 : Val) (p2 : BA) (o0 : Decoder) (i0 : Nat) (v0_1 : Bool) (v0_2 : List ByteArray) : VOK (Go.Pv.look (number 0 (Qkw p1 p2 o0 i0 v0_1 v0_2))) [(1, Qc v0_2)] := (VOK.cons (show Seen _ _ from Q3h (ob := ⟨1, 0, true, (Qc v0_2).flatten⟩) (Q6h v0_2 1 rfl)) VOK.nil)
def Qfq (p1 : Val) (p2 : BA) (o0 : Decoder) (e : En) (q : Bool × (List ByteArray)) : Prop := ∃ z zo, Q6 G e (.st (.exit 0) (Qp8 p1 p2 o0 q.1 q.2 z zo))
theorem Qsr (p1 : Val) (p2 : BA) (o0 : Decoder) {e e' : En} (h : ∀ r, Q6 G e r → Q6 G e' r) : ∀ q, Qfq p1 p2 o0 e q → Qfq p1 p2 o0 e' q
  | _, ⟨z, zo, hz⟩ => ⟨z, zo, h _ hz⟩
def Qaz (p1 : Val) (p2 : BA) (o0 : Decoder) : Prop := (List.length (s_Kj p1 p2 4 o0).1.list ≤ 137438953472) ∧ True
def Qoq (p1 : Val) (p2 : BA) (o0 : Decoder) (i0 : Nat) (_v0_1 : Bool) (_v0_2 : List ByteArray) : List PV :=
  [.un, .un, .un, .fn 142 [.bx 0 0] []] ++ nuns 12 ++ [.sl (Val.rows (s_Kj p1 p2 4 o0).1.list), .int .i64 ((List.length (s_Kj p1 p2 4 o0).1.list) : Int), .int .i64 (i0 : Int), .bool false]
def Qil (_p1 : Val) (_p2 : BA) (_o0 : Decoder) (_i0 : Nat) (_v0_1 : Bool) (_v0_2 : List ByteArray) : List (Nat × List PV) :=
  []
theorem Q16q (p1 : Val) (p2 : BA) (o0 : Decoder) (_H : Qaz p1 p2 o0) (i0 : Nat) (v0_1 : Bool) (v0_2 : List ByteArray) (_ho0_0 : List.length v0_2 ≤ i0) (hc0 : (decide ((i0 : Int) < ((List.length (s_Kj p1 p2 4 o0).1.list) : Int))) = false) : Qfq p1 p2 o0 (Qfh p1 p2 o0 i0 v0_1 v0_2) (v0_1, v0_2) := by
 exact ⟨(envF (Qoq p1 p2 o0 i0 v0_1 v0_2)), (zoF (Qil p1 p2 o0 i0 v0_1 v0_2)), Qe (Q10s p1 p2 o0 i0 v0_1 v0_2) (x := ((.exit 0), Qp8 p1 p2 o0 v0_1 v0_2 (envF (Qoq p1 p2 o0 i0 v0_1 v0_2)) (zoF (Qil p1 p2 o0 i0 v0_1 v0_2)))) [hB 0 hc0] [] (by kernel_rfl)⟩
theorem Q135 (p1 : Val) (p2 : BA) (o0 : Decoder) (H : Qaz p1 p2 o0) (x0 : Val) (i0 : Nat) (v0_1 : Bool) (v0_2 : List ByteArray) (hx0 : (s_Kj p1 p2 4 o0).1.list[i0]? = some x0) (hi0 : i0 < List.length (s_Kj p1 p2 4 o0).1.list) (ho0_0 : List.length v0_2 ≤ i0) (hc0 : (decide ((i0 : Int) < ((List.length (s_Kj p1 p2 4 o0).1.list) : Int))) = true) {r : Rs} (hr : Q6 G (Qfh p1 p2 o0 (i0 + 1) (s_Kz x0 (Decoder.mk v0_1)).2.failed (v0_2 ++ [(s_Kz x0 (Decoder.mk v0_1)).1])) r) : Q6 G (Qfh p1 p2 o0 i0 v0_1 v0_2) r := by
 have hB0 := H.1
 exact Ql (Q10s p1 p2 o0 i0 v0_1 v0_2) (y := (Quk p1 p2 o0 (i0 + 1) (s_Kz x0 (Decoder.mk v0_1)).2.failed (v0_2 ++ [(s_Kz x0 (Decoder.mk v0_1)).1]), Qkw p1 p2 o0 (i0 + 1) (s_Kz x0 (Decoder.mk v0_1)).2.failed (v0_2 ++ [(s_Kz x0 (Decoder.mk v0_1)).1]))) [hB 0 hc0, hP 0 (Q1u 5 (Val.rows (s_Kj p1 p2 4 o0).1.list) i0 _ (Val.Qb hx0) rfl), hV 8 [(642, Qc (v0_2 ++ [(s_Kz x0 (Decoder.mk v0_1)).1]))] (Q55 1 578 642 1 16 0 0 true (Qc v0_2) (Qc (v0_2 ++ [(s_Kz x0 (Decoder.mk v0_1)).1])) [.str (s_Kz x0 (Decoder.mk v0_1)).1] (List.length v0_2) (List.length (v0_2 ++ [(s_Kz x0 (Decoder.mk v0_1)).1])) rfl (Q17 v0_2).symm (Q17 (v0_2 ++ [(s_Kz x0 (Decoder.mk v0_1)).1])).symm (Qz5 v0_2 (s_Kz x0 (Decoder.mk v0_1)).1) (Qjl v0_2) rfl (by omega)), hS 0 true (Q6h (v0_2 ++ [(s_Kz x0 (Decoder.mk v0_1)).1]) 1 rfl), hP 1 (Q27 i0 (by omega))] [aN (t_Kz x0 (Decoder.mk v0_1))] (by kernel_rfl) hr
theorem Qwg (p1 : Val) (p2 : BA) (o0 : Decoder) (H : Qaz p1 p2 o0) : ∀ (r0 : List Val) (i0 : Nat) (v0_1 : Bool) (v0_2 : List ByteArray), List.drop i0 (s_Kj p1 p2 4 o0).1.list = r0 → List.length v0_2 ≤ i0 → Qfq p1 p2 o0 (Qfh p1 p2 o0 i0 v0_1 v0_2) (Q4e p1 p2 o0 r0 i0 v0_1 v0_2)
 | [], i0, v0_1, v0_2, hd, ho0_0 => by
  have hc0 : (decide ((i0 : Int) < ((List.length (s_Kj p1 p2 4 o0).1.list) : Int))) = false := by have := Q1f hd; simp; omega
  rw [Q4e]
  exact Q16q p1 p2 o0 H i0 v0_1 v0_2 ho0_0 hc0
 | x0 :: r0, i0, v0_1, v0_2, hd, ho0_0 => by
  obtain ⟨hx0, hi0, hd'⟩ := Q11 hd
  have hc0 : (decide ((i0 : Int) < ((List.length (s_Kj p1 p2 4 o0).1.list) : Int))) = true := by simp; omega
  rw [Q4e]
  exact Qsr p1 p2 o0 (fun r hr => Q135 p1 p2 o0 H x0 i0 v0_1 v0_2 hx0 hi0 ho0_0 hc0 hr) _ (Qwg p1 p2 o0 H r0 (i0 + 1) (s_Kz x0 (Decoder.mk v0_1)).2.failed (v0_2 ++ [(s_Kz x0 (Decoder.mk v0_1)).1]) hd' (by first | omega | (simp; omega)))
def Qyo (p1 : Val) (p2 : BA) (o0 : Decoder) : List ByteArray × Decoder := ((dE xS p1 p2).1, ft o0 (isM p1 && (dE xS p1 p2).2))
theorem Q10a (p1 : Val) (p2 : BA) (o0 : Decoder) : ∀ (l : List Val) (i : Nat) (b : Bool) (a : List ByteArray), Q4e p1 p2 o0 l i b a = (b || !(l.all fun x => (xS x).2), a ++ l.map (fun x => (xS x).1))
  | [], _, b, a => by rw [Q4e]; simp
  | x :: l, i, b, a => by
    rw [Q4e]
    refine (Q10a p1 p2 o0 l (i + 1) (b || !(xS x).2) (a ++ [(xS x).1])).trans ?_
    simp only [List.append_assoc, List.singleton_append, List.map_cons, List.all_cons, Bool.not_and, Bool.or_assoc]
theorem Q1ly (p1 : Val) (p2 : BA) (o0 : Decoder) : Qyo p1 p2 o0 = (((Q4e p1 p2 o0 (s_Kj p1 p2 4 o0).1.list 0 (s_Kj p1 p2 4 o0).2.failed []).2, (Decoder.mk (Q4e p1 p2 o0 (s_Kj p1 p2 4 o0).1.list 0 (s_Kj p1 p2 4 o0).2.failed []).1))) := by
  rw [Q10a]
  unfold s_Kj Qyo
  simp only [getL, Q59]
  refine Prod.ext rfl ?_
  rw [Q7z o0.failed (isM p1) _ _ _ (Qt1 (prt p1 p2)), Q56]
  rfl
def Q1mb (p1 : Val) (p2 : BA) (o0 : Decoder) : En := .call 141 [.bx 0 0, .agg (Val.cells p1), .str p2, .fn 142 [.bx 0 0] []] [⟨1, 0, false, (Decoder.cells o0)⟩]
def Q1oo (_p1 : Val) (_p2 : BA) (_o0 : Decoder) (q0 : List ByteArray) (q1 : Decoder) : Rs := .ret (.sl (Qc q0)) [⟨1, 0, false, (Decoder.cells q1)⟩]
def Q1hn (p1 : Val) (p2 : BA) (o0 : Decoder) : Rs := Q1oo p1 p2 o0 (Qyo p1 p2 o0).1 (Qyo p1 p2 o0).2
def Q1gl (p1 : Val) : Prop := Val.Sm 1000000000 p1
theorem Q10y (p1 : Val) (p2 : BA) (o0 : Decoder) (H : Q1gl p1) : (H_Kj p1) ∧ (Qaz p1 p2 o0) ∧ True := by
  have hl := Qtn (Q52 H p2)
  refine ⟨H, ?_, trivial⟩
  unfold Qaz s_Kj
  simp only [getL]
  exact ⟨Nat.le_trans hl.1 (Nat.le_of_ble_eq_true rfl), trivial⟩
theorem Q1mu (p1 : Val) (p2 : BA) (o0 : Decoder) (H : Q1gl p1) : Q6 G (Q1mb p1 p2 o0) (Q1hn p1 p2 o0) := by
 unfold Q1hn
 rw [Q1ly]
 have hl0 := Qwg p1 p2 o0 ((Q10y p1 p2 o0 H).2.1) (s_Kj p1 p2 4 o0).1.list 0 (s_Kj p1 p2 4 o0).2.failed [] (by simp) (by simp)
 obtain ⟨z0, zo0, hl0⟩ := hl0
 exact Q7 (fn := Ir.K13) rfl (h := [⟨1, 0, false, (Decoder.cells o0)⟩]) (vw := []) VOK.nil [hP 8 (Qd (Val.rows (s_Kj p1 p2 4 o0).1.list) (List.length (s_Kj p1 p2 4 o0).1.list) (Val.Q5 (s_Kj p1 p2 4 o0).1.list)), hS 0 true (Q6h (Q4e p1 p2 o0 (s_Kj p1 p2 4 o0).1.list 0 (s_Kj p1 p2 4 o0).2.failed []).2 1 rfl), hQ (Q17 (Q4e p1 p2 o0 (s_Kj p1 p2 4 o0).1.list 0 (s_Kj p1 p2 4 o0).2.failed []).2).symm] [aN (t_Kj p1 p2 4 o0 (Q10y p1 p2 o0 H).1), aV [(1, Qc (Q4e p1 p2 o0 (s_Kj p1 p2 4 o0).1.list 0 (s_Kj p1 p2 4 o0).2.failed []).2)] hl0] (by kernel_rfl)
def s_Kq (p1 : Val) (o0 : Decoder) : Requirement × Decoder := ((Requirement.dec p1).1, ft o0 (Requirement.dec p1).2)
theorem e_Kq (p1 : Val) (o0 : Decoder) : s_Kq p1 o0 = (((Requirement.mk (s_Kv p1 Q1b (s_Kw p1 o0).2).1 (s_Kn p1 Q4w (s_Kv p1 Q1b (s_Kw p1 o0).2).2).1 (Qyo p1 Q1y (s_Kn p1 Q4w (s_Kv p1 Q1b (s_Kw p1 o0).2).2).2).1), (Qyo p1 Q1y (s_Kn p1 Q4w (s_Kv p1 Q1b (s_Kw p1 o0).2).2).2).2)) := by
  simp only [s_Kw, s_Kn, s_Kv, Qyo, s_Kq, Requirement.dec, Qjr, Bool.and_assoc, Bool.and_left_comm, Bool.and_comm, Bool.and_self_left]
def c_Kq (p1 : Val) (o0 : Decoder) : En := .call 88 [.bx 0 0, .agg (Val.cells p1)] [⟨1, 0, false, (Decoder.cells o0)⟩]
def r_Kq (_p1 : Val) (_o0 : Decoder) (q0 : Requirement) (q1 : Decoder) : Rs := .ret (.agg (Requirement.cells q0)) [⟨1, 0, false, (Decoder.cells q1)⟩]
def a_Kq (p1 : Val) (o0 : Decoder) : Rs := r_Kq p1 o0 (s_Kq p1 o0).1 (s_Kq p1 o0).2
def H_Kq (p1 : Val) : Prop := Val.Sm 1000000000 p1
theorem Qzg (p1 : Val) (_o0 : Decoder) (H : H_Kq p1) : (H_Kv p1) ∧ (H_Kn p1) ∧ (Q1gl p1) ∧ True := by
  repeat' with_reducible apply And.intro
  all_goals first | exact True.intro | exact H | exact Qix (Q52 H _)
theorem t_Kq (p1 : Val) (o0 : Decoder) (H : H_Kq p1) : Q6 G (c_Kq p1 o0) (a_Kq p1 o0) := by
 unfold a_Kq
 rw [e_Kq]
 exact Q7 (fn := Ir.Kq) rfl (h := [⟨1, 0, false, (Decoder.cells o0)⟩]) (vw := []) VOK.nil [] [aN (t_Kw p1 o0), aN (t_Kv p1 Q1b (s_Kw p1 o0).2 (Qzg p1 o0 H).1), aN (t_Kn p1 Q4w (s_Kv p1 Q1b (s_Kw p1 o0).2).2 (Qzg p1 o0 H).2.1), aN (Q1mu p1 Q1y (s_Kn p1 Q4w (s_Kv p1 Q1b (s_Kw p1 o0).2).2).2 (Qzg p1 o0 H).2.2.1)] (by kernel_rfl)
def Q4i (p1 : Val) (p2 : BA) (o0 : Decoder) : List Val → Nat → Bool → (List Requirement) → Bool × (List Requirement)
 | [], _i0, v0_1, v0_2 =>
  (v0_1, v0_2)
 | x0 :: r0, i0, v0_1, v0_2 =>
  Q4i p1 p2 o0 r0 (i0 + 1) (s_Kq x0 (Decoder.mk v0_1)).2.failed (v0_2 ++ [(s_Kq x0 (Decoder.mk v0_1)).1])
def Qvj (p1 : Val) (p2 : BA) (o0 : Decoder) (i0 : Nat) (_v0_1 : Bool) (v0_2 : List Requirement) : List PV :=
  [.un, .un, .un, .fn 88 [.bx 0 0] []] ++ nuns 5 ++ [.ms 1 3 0 (List.length v0_2)] ++ nuns 6 ++ [.sl (Val.rows (s_Kj p1 p2 4 o0).1.list), .int .i64 ((List.length (s_Kj p1 p2 4 o0).1.list) : Int), .int .i64 (i0 : Int)] ++ nuns 11
def Qmk (_p1 : Val) (_p2 : BA) (_o0 : Decoder) (_i0 : Nat) (v0_1 : Bool) (v0_2 : List Requirement) : List Ob :=
  [⟨1, 0, false, [.bool v0_1]⟩, ⟨3, 0, true, (Requirement.rows v0_2).flatten⟩]
def Qg2 (p1 : Val) (p2 : BA) (o0 : Decoder) (i0 : Nat) (v0_1 : Bool) (v0_2 : List Requirement) : En := .loop 1 Ir.Qin Ir.Q1cw (Qvj p1 p2 o0 i0 v0_1 v0_2) (Qmk p1 p2 o0 i0 v0_1 v0_2)
def Qp6 (_p1 : Val) (_p2 : BA) (_o0 : Decoder) (q0 : Bool) (q1 : List Requirement) (z : Nat → PV) (_zo : Nat → List PV) : St :=
  ⟨zr z 0 9 ++ [.ms 1 3 0 (List.length q1)] ++ zr z 10 20, [(0, ⟨1, 0, false, [.bool q0]⟩), (1, ⟨3, 0, true, (Requirement.rows q1).flatten⟩)], 66⟩
theorem Q11w (p1 : Val) (p2 : BA) (o0 : Decoder) (i0 : Nat) (v0_1 : Bool) (v0_2 : List Requirement) : VOK (Go.Pv.look (number 0 (Qmk p1 p2 o0 i0 v0_1 v0_2))) [(1, Requirement.rows v0_2)] := (VOK.cons (show Seen _ _ from Q3h (ob := ⟨3, 0, true, (Requirement.rows v0_2).flatten⟩) (Requirement.Q9 v0_2 3 rfl)) VOK.nil)
def Qgo (p1 : Val) (p2 : BA) (o0 : Decoder) (e : En) (q : Bool × (List Requirement)) : Prop := ∃ z zo, Q6 G e (.st (.exit 0) (Qp6 p1 p2 o0 q.1 q.2 z zo))
theorem Qtd (p1 : Val) (p2 : BA) (o0 : Decoder) {e e' : En} (h : ∀ r, Q6 G e r → Q6 G e' r) : ∀ q, Qgo p1 p2 o0 e q → Qgo p1 p2 o0 e' q
  | _, ⟨z, zo, hz⟩ => ⟨z, zo, h _ hz⟩
def Qbe (p1 : Val) (p2 : BA) (o0 : Decoder) : Prop := (List.length (s_Kj p1 p2 4 o0).1.list ≤ 137438953472) ∧ (∀ x0 ∈ (s_Kj p1 p2 4 o0).1.list, H_Kq x0) ∧ True
def Qp5 (p1 : Val) (p2 : BA) (o0 : Decoder) (i0 : Nat) (_v0_1 : Bool) (_v0_2 : List Requirement) : List PV :=
  [.un, .un, .un, .fn 88 [.bx 0 0] []] ++ nuns 12 ++ [.sl (Val.rows (s_Kj p1 p2 4 o0).1.list), .int .i64 ((List.length (s_Kj p1 p2 4 o0).1.list) : Int), .int .i64 (i0 : Int), .bool false]
def Qja (_p1 : Val) (_p2 : BA) (_o0 : Decoder) (_i0 : Nat) (_v0_1 : Bool) (_v0_2 : List Requirement) : List (Nat × List PV) :=
  []
theorem Q15m (p1 : Val) (p2 : BA) (o0 : Decoder) (_H : Qbe p1 p2 o0) (i0 : Nat) (v0_1 : Bool) (v0_2 : List Requirement) (_ho0_0 : List.length v0_2 ≤ i0) (hc0 : (decide ((i0 : Int) < ((List.length (s_Kj p1 p2 4 o0).1.list) : Int))) = false) : Qgo p1 p2 o0 (Qg2 p1 p2 o0 i0 v0_1 v0_2) (v0_1, v0_2) := by
 exact ⟨(envF (Qp5 p1 p2 o0 i0 v0_1 v0_2)), (zoF (Qja p1 p2 o0 i0 v0_1 v0_2)), Qe (Q11w p1 p2 o0 i0 v0_1 v0_2) (x := ((.exit 0), Qp6 p1 p2 o0 v0_1 v0_2 (envF (Qp5 p1 p2 o0 i0 v0_1 v0_2)) (zoF (Qja p1 p2 o0 i0 v0_1 v0_2)))) [hB 0 hc0] [] (by kernel_rfl)⟩
theorem Q13s (p1 : Val) (p2 : BA) (o0 : Decoder) (H : Qbe p1 p2 o0) (x0 : Val) (i0 : Nat) (v0_1 : Bool) (v0_2 : List Requirement) (hx0 : (s_Kj p1 p2 4 o0).1.list[i0]? = some x0) (hi0 : i0 < List.length (s_Kj p1 p2 4 o0).1.list) (ho0_0 : List.length v0_2 ≤ i0) (hc0 : (decide ((i0 : Int) < ((List.length (s_Kj p1 p2 4 o0).1.list) : Int))) = true) {r : Rs} (hr : Q6 G (Qg2 p1 p2 o0 (i0 + 1) (s_Kq x0 (Decoder.mk v0_1)).2.failed (v0_2 ++ [(s_Kq x0 (Decoder.mk v0_1)).1])) r) : Q6 G (Qg2 p1 p2 o0 i0 v0_1 v0_2) r := by
 have hB0 := H.1
 exact Ql (Q11w p1 p2 o0 i0 v0_1 v0_2) (y := (Qvj p1 p2 o0 (i0 + 1) (s_Kq x0 (Decoder.mk v0_1)).2.failed (v0_2 ++ [(s_Kq x0 (Decoder.mk v0_1)).1]), Qmk p1 p2 o0 (i0 + 1) (s_Kq x0 (Decoder.mk v0_1)).2.failed (v0_2 ++ [(s_Kq x0 (Decoder.mk v0_1)).1]))) [hB 0 hc0, hP 0 (Q1u 5 (Val.rows (s_Kj p1 p2 4 o0).1.list) i0 _ (Val.Qb hx0) rfl), hV 8 [(642, Requirement.rows (v0_2 ++ [(s_Kq x0 (Decoder.mk v0_1)).1]))] (Q55 1 578 642 3 48 0 0 true (Requirement.rows v0_2) (Requirement.rows (v0_2 ++ [(s_Kq x0 (Decoder.mk v0_1)).1])) (Requirement.cells (s_Kq x0 (Decoder.mk v0_1)).1) (List.length v0_2) (List.length (v0_2 ++ [(s_Kq x0 (Decoder.mk v0_1)).1])) rfl (Requirement.Q5 v0_2).symm (Requirement.Q5 (v0_2 ++ [(s_Kq x0 (Decoder.mk v0_1)).1])).symm (Requirement.Q12 v0_2 (s_Kq x0 (Decoder.mk v0_1)).1) (Requirement.Qf v0_2) rfl (by omega)), hS 0 true (Requirement.Q9 (v0_2 ++ [(s_Kq x0 (Decoder.mk v0_1)).1]) 3 rfl), hP 1 (Q27 i0 (by omega))] [aN (t_Kq x0 (Decoder.mk v0_1) (H.2.1 x0 (Q2c hx0)))] (by kernel_rfl) hr
theorem Qy8 (p1 : Val) (p2 : BA) (o0 : Decoder) (H : Qbe p1 p2 o0) : ∀ (r0 : List Val) (i0 : Nat) (v0_1 : Bool) (v0_2 : List Requirement), List.drop i0 (s_Kj p1 p2 4 o0).1.list = r0 → List.length v0_2 ≤ i0 → Qgo p1 p2 o0 (Qg2 p1 p2 o0 i0 v0_1 v0_2) (Q4i p1 p2 o0 r0 i0 v0_1 v0_2)
 | [], i0, v0_1, v0_2, hd, ho0_0 => by
  have hc0 : (decide ((i0 : Int) < ((List.length (s_Kj p1 p2 4 o0).1.list) : Int))) = false := by have := Q1f hd; simp; omega
  rw [Q4i]
  exact Q15m p1 p2 o0 H i0 v0_1 v0_2 ho0_0 hc0
 | x0 :: r0, i0, v0_1, v0_2, hd, ho0_0 => by
  obtain ⟨hx0, hi0, hd'⟩ := Q11 hd
  have hc0 : (decide ((i0 : Int) < ((List.length (s_Kj p1 p2 4 o0).1.list) : Int))) = true := by simp; omega
  rw [Q4i]
  exact Qtd p1 p2 o0 (fun r hr => Q13s p1 p2 o0 H x0 i0 v0_1 v0_2 hx0 hi0 ho0_0 hc0 hr) _ (Qy8 p1 p2 o0 H r0 (i0 + 1) (s_Kq x0 (Decoder.mk v0_1)).2.failed (v0_2 ++ [(s_Kq x0 (Decoder.mk v0_1)).1]) hd' (by first | omega | (simp; omega)))
def Q48 (p1 : Val) (p2 : BA) (o0 : Decoder) : List Requirement × Decoder := ((dE Requirement.dec p1 p2).1, ft o0 (isM p1 && (dE Requirement.dec p1 p2).2))
theorem Q12s (p1 : Val) (p2 : BA) (o0 : Decoder) : ∀ (l : List Val) (i : Nat) (b : Bool) (a : List Requirement), Q4i p1 p2 o0 l i b a = (b || !(l.all fun x => (Requirement.dec x).2), a ++ l.map (fun x => (Requirement.dec x).1))
  | [], _, b, a => by rw [Q4i]; simp
  | x :: l, i, b, a => by
    rw [Q4i]
    refine (Q12s p1 p2 o0 l (i + 1) (b || !(Requirement.dec x).2) (a ++ [(Requirement.dec x).1])).trans ?_
    simp only [List.append_assoc, List.singleton_append, List.map_cons, List.all_cons, Bool.not_and, Bool.or_assoc]
theorem Q1m4 (p1 : Val) (p2 : BA) (o0 : Decoder) : Q48 p1 p2 o0 = (((Q4i p1 p2 o0 (s_Kj p1 p2 4 o0).1.list 0 (s_Kj p1 p2 4 o0).2.failed []).2, (Decoder.mk (Q4i p1 p2 o0 (s_Kj p1 p2 4 o0).1.list 0 (s_Kj p1 p2 4 o0).2.failed []).1))) := by
  rw [Q12s]
  unfold s_Kj Q48
  simp only [getL, Q59]
  refine Prod.ext rfl ?_
  rw [Q7z o0.failed (isM p1) _ _ _ (Qt1 (prt p1 p2)), Q56]
  rfl
def Q1ll (p1 : Val) (p2 : BA) (o0 : Decoder) : En := .call 87 [.bx 0 0, .agg (Val.cells p1), .str p2, .fn 88 [.bx 0 0] []] [⟨1, 0, false, (Decoder.cells o0)⟩]
def Q1ov (_p1 : Val) (_p2 : BA) (_o0 : Decoder) (q0 : List Requirement) (q1 : Decoder) : Rs := .ret (.sl (Requirement.rows q0)) [⟨1, 0, false, (Decoder.cells q1)⟩]
def Q1k4 (p1 : Val) (p2 : BA) (o0 : Decoder) : Rs := Q1ov p1 p2 o0 (Q48 p1 p2 o0).1 (Q48 p1 p2 o0).2
def Q16j (p1 : Val) : Prop := Val.Sm 1000000000 p1
theorem Q12d (p1 : Val) (p2 : BA) (o0 : Decoder) (H : Q16j p1) : (H_Kj p1) ∧ (Qbe p1 p2 o0) ∧ True := by
  have hl := Qtn (Q52 H p2)
  refine ⟨H, ?_, trivial⟩
  unfold Qbe s_Kj
  simp only [getL]
  exact ⟨Nat.le_trans hl.1 (Nat.le_of_ble_eq_true rfl), hl.2, trivial⟩
theorem Q1bf (p1 : Val) (p2 : BA) (o0 : Decoder) (H : Q16j p1) : Q6 G (Q1ll p1 p2 o0) (Q1k4 p1 p2 o0) := by
 unfold Q1k4
 rw [Q1m4]
 have hl0 := Qy8 p1 p2 o0 ((Q12d p1 p2 o0 H).2.1) (s_Kj p1 p2 4 o0).1.list 0 (s_Kj p1 p2 4 o0).2.failed [] (by simp) (by simp)
 obtain ⟨z0, zo0, hl0⟩ := hl0
 exact Q7 (fn := Ir.K17) rfl (h := [⟨1, 0, false, (Decoder.cells o0)⟩]) (vw := []) VOK.nil [hP 8 (Qd (Val.rows (s_Kj p1 p2 4 o0).1.list) (List.length (s_Kj p1 p2 4 o0).1.list) (Val.Q5 (s_Kj p1 p2 4 o0).1.list)), hS 0 true (Requirement.Q9 (Q4i p1 p2 o0 (s_Kj p1 p2 4 o0).1.list 0 (s_Kj p1 p2 4 o0).2.failed []).2 3 rfl), hQ (Requirement.Q5 (Q4i p1 p2 o0 (s_Kj p1 p2 4 o0).1.list 0 (s_Kj p1 p2 4 o0).2.failed []).2).symm] [aN (t_Kj p1 p2 4 o0 (Q12d p1 p2 o0 H).1), aV [(1, Requirement.rows (Q4i p1 p2 o0 (s_Kj p1 p2 4 o0).1.list 0 (s_Kj p1 p2 4 o0).2.failed []).2)] hl0] (by kernel_rfl)
def s_Km (p1 : Val) (o0 : Decoder) : NodeTerm × Decoder := ((NodeTerm.dec p1).1, ft o0 (NodeTerm.dec p1).2)
theorem e_Km (p1 : Val) (o0 : Decoder) : s_Km p1 o0 = (((NodeTerm.mk (s_Ki p1 Q8 (s_Kw p1 o0).2).1 (Q48 p1 Qa (s_Ki p1 Q8 (s_Kw p1 o0).2).2).1 (s_Kn p1 Qp (Q48 p1 Qa (s_Ki p1 Q8 (s_Kw p1 o0).2).2).2).1), (s_Kn p1 Qp (Q48 p1 Qa (s_Ki p1 Q8 (s_Kw p1 o0).2).2).2).2)) := by
  simp only [s_Kw, s_Kn, s_Ki, Q48, s_Km, NodeTerm.dec, Qjr, Bool.and_assoc, Bool.and_left_comm, Bool.and_self_left]
def c_Km (p1 : Val) (o0 : Decoder) : En := .call 90 [.bx 0 0, .agg (Val.cells p1)] [⟨1, 0, false, (Decoder.cells o0)⟩]
def r_Km (_p1 : Val) (_o0 : Decoder) (q0 : NodeTerm) (q1 : Decoder) : Rs := .ret (.agg (NodeTerm.cells q0)) [⟨1, 0, false, (Decoder.cells q1)⟩]
def a_Km (p1 : Val) (o0 : Decoder) : Rs := r_Km p1 o0 (s_Km p1 o0).1 (s_Km p1 o0).2
def H_Km (p1 : Val) : Prop := Val.Sm 1000000000 p1
theorem Qzc (p1 : Val) (_o0 : Decoder) (H : H_Km p1) : (H_Ki p1) ∧ (Q16j p1) ∧ (H_Kn p1) ∧ True := by
  repeat' with_reducible apply And.intro
  all_goals first | exact True.intro | exact H | exact Qix (Q52 H _)
theorem t_Km (p1 : Val) (o0 : Decoder) (H : H_Km p1) : Q6 G (c_Km p1 o0) (a_Km p1 o0) := by
 unfold a_Km
 rw [e_Km]
 exact Q7 (fn := Ir.Km) rfl (h := [⟨1, 0, false, (Decoder.cells o0)⟩]) (vw := []) VOK.nil [] [aN (t_Kw p1 o0), aN (t_Ki p1 Q8 (s_Kw p1 o0).2 (Qzc p1 o0 H).1), aN (Q1bf p1 Qa (s_Ki p1 Q8 (s_Kw p1 o0).2).2 (Qzc p1 o0 H).2.1), aN (t_Kn p1 Qp (Q48 p1 Qa (s_Ki p1 Q8 (s_Kw p1 o0).2).2).2 (Qzc p1 o0 H).2.2.1)] (by kernel_rfl)
def Q4m (p1 : Val) (p2 : BA) (o0 : Decoder) : List Val → Nat → Bool → (List NodeTerm) → Bool × (List NodeTerm)
 | [], _i0, v0_1, v0_2 =>
  (v0_1, v0_2)
 | x0 :: r0, i0, v0_1, v0_2 =>
  Q4m p1 p2 o0 r0 (i0 + 1) (s_Km x0 (Decoder.mk v0_1)).2.failed (v0_2 ++ [(s_Km x0 (Decoder.mk v0_1)).1])
def Qy7 (p1 : Val) (p2 : BA) (o0 : Decoder) (i0 : Nat) (_v0_1 : Bool) (v0_2 : List NodeTerm) : List PV :=
  [.un, .un, .un, .fn 90 [.bx 0 0] []] ++ nuns 5 ++ [.ms 1 3 0 (List.length v0_2)] ++ nuns 6 ++ [.sl (Val.rows (s_Kj p1 p2 4 o0).1.list), .int .i64 ((List.length (s_Kj p1 p2 4 o0).1.list) : Int), .int .i64 (i0 : Int)] ++ nuns 11
def Qi9 (_p1 : Val) (_p2 : BA) (_o0 : Decoder) (_i0 : Nat) (v0_1 : Bool) (v0_2 : List NodeTerm) : List Ob :=
  [⟨1, 0, false, [.bool v0_1]⟩, ⟨3, 0, true, (NodeTerm.rows v0_2).flatten⟩]
def Qfd (p1 : Val) (p2 : BA) (o0 : Decoder) (i0 : Nat) (v0_1 : Bool) (v0_2 : List NodeTerm) : En := .loop 1 Ir.Qlo Ir.Q1e6 (Qy7 p1 p2 o0 i0 v0_1 v0_2) (Qi9 p1 p2 o0 i0 v0_1 v0_2)
def Qoo (_p1 : Val) (_p2 : BA) (_o0 : Decoder) (q0 : Bool) (q1 : List NodeTerm) (z : Nat → PV) (_zo : Nat → List PV) : St :=
  ⟨zr z 0 9 ++ [.ms 1 3 0 (List.length q1)] ++ zr z 10 20, [(0, ⟨1, 0, false, [.bool q0]⟩), (1, ⟨3, 0, true, (NodeTerm.rows q1).flatten⟩)], 66⟩
theorem Q10e (p1 : Val) (p2 : BA) (o0 : Decoder) (i0 : Nat) (v0_1 : Bool) (v0_2 : List NodeTerm) : VOK (Go.Pv.look (number 0 (Qi9 p1 p2 o0 i0 v0_1 v0_2))) [(1, NodeTerm.rows v0_2)] := (VOK.cons (show Seen _ _ from Q3h (ob := ⟨3, 0, true, (NodeTerm.rows v0_2).flatten⟩) (NodeTerm.Q9 v0_2 3 rfl)) VOK.nil)
def Qgk (p1 : Val) (p2 : BA) (o0 : Decoder) (e : En) (q : Bool × (List NodeTerm)) : Prop := ∃ z zo, Q6 G e (.st (.exit 0) (Qoo p1 p2 o0 q.1 q.2 z zo))
theorem Qsl (p1 : Val) (p2 : BA) (o0 : Decoder) {e e' : En} (h : ∀ r, Q6 G e r → Q6 G e' r) : ∀ q, Qgk p1 p2 o0 e q → Qgk p1 p2 o0 e' q
  | _, ⟨z, zo, hz⟩ => ⟨z, zo, h _ hz⟩
def Qbw (p1 : Val) (p2 : BA) (o0 : Decoder) : Prop := (List.length (s_Kj p1 p2 4 o0).1.list ≤ 137438953472) ∧ (∀ x0 ∈ (s_Kj p1 p2 4 o0).1.list, H_Km x0) ∧ True
def Qo7 (p1 : Val) (p2 : BA) (o0 : Decoder) (i0 : Nat) (_v0_1 : Bool) (_v0_2 : List NodeTerm) : List PV :=
  [.un, .un, .un, .fn 90 [.bx 0 0] []] ++ nuns 12 ++ [.sl (Val.rows (s_Kj p1 p2 4 o0).1.list), .int .i64 ((List.length (s_Kj p1 p2 4 o0).1.list) : Int), .int .i64 (i0 : Int), .bool false]
def Qis (_p1 : Val) (_p2 : BA) (_o0 : Decoder) (_i0 : Nat) (_v0_1 : Bool) (_v0_2 : List NodeTerm) : List (Nat × List PV) :=
  []
theorem Q16m (p1 : Val) (p2 : BA) (o0 : Decoder) (_H : Qbw p1 p2 o0) (i0 : Nat) (v0_1 : Bool) (v0_2 : List NodeTerm) (_ho0_0 : List.length v0_2 ≤ i0) (hc0 : (decide ((i0 : Int) < ((List.length (s_Kj p1 p2 4 o0).1.list) : Int))) = false) : Qgk p1 p2 o0 (Qfd p1 p2 o0 i0 v0_1 v0_2) (v0_1, v0_2) := by
 exact ⟨(envF (Qo7 p1 p2 o0 i0 v0_1 v0_2)), (zoF (Qis p1 p2 o0 i0 v0_1 v0_2)), Qe (Q10e p1 p2 o0 i0 v0_1 v0_2) (x := ((.exit 0), Qoo p1 p2 o0 v0_1 v0_2 (envF (Qo7 p1 p2 o0 i0 v0_1 v0_2)) (zoF (Qis p1 p2 o0 i0 v0_1 v0_2)))) [hB 0 hc0] [] (by kernel_rfl)⟩
theorem Q13l (p1 : Val) (p2 : BA) (o0 : Decoder) (H : Qbw p1 p2 o0) (x0 : Val) (i0 : Nat) (v0_1 : Bool) (v0_2 : List NodeTerm) (hx0 : (s_Kj p1 p2 4 o0).1.list[i0]? = some x0) (hi0 : i0 < List.length (s_Kj p1 p2 4 o0).1.list) (ho0_0 : List.length v0_2 ≤ i0) (hc0 : (decide ((i0 : Int) < ((List.length (s_Kj p1 p2 4 o0).1.list) : Int))) = true) {r : Rs} (hr : Q6 G (Qfd p1 p2 o0 (i0 + 1) (s_Km x0 (Decoder.mk v0_1)).2.failed (v0_2 ++ [(s_Km x0 (Decoder.mk v0_1)).1])) r) : Q6 G (Qfd p1 p2 o0 i0 v0_1 v0_2) r := by
 have hB0 := H.1
 exact Ql (Q10e p1 p2 o0 i0 v0_1 v0_2) (y := (Qy7 p1 p2 o0 (i0 + 1) (s_Km x0 (Decoder.mk v0_1)).2.failed (v0_2 ++ [(s_Km x0 (Decoder.mk v0_1)).1]), Qi9 p1 p2 o0 (i0 + 1) (s_Km x0 (Decoder.mk v0_1)).2.failed (v0_2 ++ [(s_Km x0 (Decoder.mk v0_1)).1]))) [hB 0 hc0, hP 0 (Q1u 5 (Val.rows (s_Kj p1 p2 4 o0).1.list) i0 _ (Val.Qb hx0) rfl), hV 8 [(642, NodeTerm.rows (v0_2 ++ [(s_Km x0 (Decoder.mk v0_1)).1]))] (Q55 1 578 642 3 40 0 0 true (NodeTerm.rows v0_2) (NodeTerm.rows (v0_2 ++ [(s_Km x0 (Decoder.mk v0_1)).1])) (NodeTerm.cells (s_Km x0 (Decoder.mk v0_1)).1) (List.length v0_2) (List.length (v0_2 ++ [(s_Km x0 (Decoder.mk v0_1)).1])) rfl (NodeTerm.Q5 v0_2).symm (NodeTerm.Q5 (v0_2 ++ [(s_Km x0 (Decoder.mk v0_1)).1])).symm (NodeTerm.Q12 v0_2 (s_Km x0 (Decoder.mk v0_1)).1) (NodeTerm.Qf v0_2) rfl (by omega)), hS 0 true (NodeTerm.Q9 (v0_2 ++ [(s_Km x0 (Decoder.mk v0_1)).1]) 3 rfl), hP 1 (Q27 i0 (by omega))] [aN (t_Km x0 (Decoder.mk v0_1) (H.2.1 x0 (Q2c hx0)))] (by kernel_rfl) hr
theorem Qvo (p1 : Val) (p2 : BA) (o0 : Decoder) (H : Qbw p1 p2 o0) : ∀ (r0 : List Val) (i0 : Nat) (v0_1 : Bool) (v0_2 : List NodeTerm), List.drop i0 (s_Kj p1 p2 4 o0).1.list = r0 → List.length v0_2 ≤ i0 → Qgk p1 p2 o0 (Qfd p1 p2 o0 i0 v0_1 v0_2) (Q4m p1 p2 o0 r0 i0 v0_1 v0_2)
 | [], i0, v0_1, v0_2, hd, ho0_0 => by
  have hc0 : (decide ((i0 : Int) < ((List.length (s_Kj p1 p2 4 o0).1.list) : Int))) = false := by have := Q1f hd; simp; omega
  rw [Q4m]
  exact Q16m p1 p2 o0 H i0 v0_1 v0_2 ho0_0 hc0
 | x0 :: r0, i0, v0_1, v0_2, hd, ho0_0 => by
  obtain ⟨hx0, hi0, hd'⟩ := Q11 hd
  have hc0 : (decide ((i0 : Int) < ((List.length (s_Kj p1 p2 4 o0).1.list) : Int))) = true := by simp; omega
  rw [Q4m]
  exact Qsl p1 p2 o0 (fun r hr => Q13l p1 p2 o0 H x0 i0 v0_1 v0_2 hx0 hi0 ho0_0 hc0 hr) _ (Qvo p1 p2 o0 H r0 (i0 + 1) (s_Km x0 (Decoder.mk v0_1)).2.failed (v0_2 ++ [(s_Km x0 (Decoder.mk v0_1)).1]) hd' (by first | omega | (simp; omega)))
def Qd4 (p1 : Val) (p2 : BA) (o0 : Decoder) : List NodeTerm × Decoder := ((dE NodeTerm.dec p1 p2).1, ft o0 (isM p1 && (dE NodeTerm.dec p1 p2).2))
theorem Q102 (p1 : Val) (p2 : BA) (o0 : Decoder) : ∀ (l : List Val) (i : Nat) (b : Bool) (a : List NodeTerm), Q4m p1 p2 o0 l i b a = (b || !(l.all fun x => (NodeTerm.dec x).2), a ++ l.map (fun x => (NodeTerm.dec x).1))
  | [], _, b, a => by rw [Q4m]; simp
  | x :: l, i, b, a => by
    rw [Q4m]
    refine (Q102 p1 p2 o0 l (i + 1) (b || !(NodeTerm.dec x).2) (a ++ [(NodeTerm.dec x).1])).trans ?_
    simp only [List.append_assoc, List.singleton_append, List.map_cons, List.all_cons, Bool.not_and, Bool.or_assoc]
theorem Q1mv (p1 : Val) (p2 : BA) (o0 : Decoder) : Qd4 p1 p2 o0 = (((Q4m p1 p2 o0 (s_Kj p1 p2 4 o0).1.list 0 (s_Kj p1 p2 4 o0).2.failed []).2, (Decoder.mk (Q4m p1 p2 o0 (s_Kj p1 p2 4 o0).1.list 0 (s_Kj p1 p2 4 o0).2.failed []).1))) := by
  rw [Q102]
  unfold s_Kj Qd4
  simp only [getL, Q59]
  refine Prod.ext rfl ?_
  rw [Q7z o0.failed (isM p1) _ _ _ (Qt1 (prt p1 p2)), Q56]
  rfl
def Q1nm (p1 : Val) (p2 : BA) (o0 : Decoder) : En := .call 89 [.bx 0 0, .agg (Val.cells p1), .str p2, .fn 90 [.bx 0 0] []] [⟨1, 0, false, (Decoder.cells o0)⟩]
def Q1pq (_p1 : Val) (_p2 : BA) (_o0 : Decoder) (q0 : List NodeTerm) (q1 : Decoder) : Rs := .ret (.sl (NodeTerm.rows q0)) [⟨1, 0, false, (Decoder.cells q1)⟩]
def Q1je (p1 : Val) (p2 : BA) (o0 : Decoder) : Rs := Q1pq p1 p2 o0 (Qd4 p1 p2 o0).1 (Qd4 p1 p2 o0).2
def Q1f1 (p1 : Val) : Prop := Val.Sm 1000000000 p1
theorem Q10q (p1 : Val) (p2 : BA) (o0 : Decoder) (H : Q1f1 p1) : (H_Kj p1) ∧ (Qbw p1 p2 o0) ∧ True := by
  have hl := Qtn (Q52 H p2)
  refine ⟨H, ?_, trivial⟩
  unfold Qbw s_Kj
  simp only [getL]
  exact ⟨Nat.le_trans hl.1 (Nat.le_of_ble_eq_true rfl), hl.2, trivial⟩
theorem Q1nq (p1 : Val) (p2 : BA) (o0 : Decoder) (H : Q1f1 p1) : Q6 G (Q1nm p1 p2 o0) (Q1je p1 p2 o0) := by
 unfold Q1je
 rw [Q1mv]
 have hl0 := Qvo p1 p2 o0 ((Q10q p1 p2 o0 H).2.1) (s_Kj p1 p2 4 o0).1.list 0 (s_Kj p1 p2 4 o0).2.failed [] (by simp) (by simp)
 obtain ⟨z0, zo0, hl0⟩ := hl0
 exact Q7 (fn := Ir.K18) rfl (h := [⟨1, 0, false, (Decoder.cells o0)⟩]) (vw := []) VOK.nil [hP 8 (Qd (Val.rows (s_Kj p1 p2 4 o0).1.list) (List.length (s_Kj p1 p2 4 o0).1.list) (Val.Q5 (s_Kj p1 p2 4 o0).1.list)), hS 0 true (NodeTerm.Q9 (Q4m p1 p2 o0 (s_Kj p1 p2 4 o0).1.list 0 (s_Kj p1 p2 4 o0).2.failed []).2 3 rfl), hQ (NodeTerm.Q5 (Q4m p1 p2 o0 (s_Kj p1 p2 4 o0).1.list 0 (s_Kj p1 p2 4 o0).2.failed []).2).symm] [aN (t_Kj p1 p2 4 o0 (Q10q p1 p2 o0 H).1), aV [(1, NodeTerm.rows (Q4m p1 p2 o0 (s_Kj p1 p2 4 o0).1.list 0 (s_Kj p1 p2 4 o0).2.failed []).2)] hl0] (by kernel_rfl)
def s_Ko (p1 : Val) (o0 : Decoder) : PodTerm × Decoder := ((PodTerm.dec p1).1, ft o0 (PodTerm.dec p1).2)
theorem e_Ko (p1 : Val) (o0 : Decoder) : s_Ko p1 o0 = (((PodTerm.mk (s_Ki p1 Q8 (s_Kw p1 o0).2).1 (s_Ki p1 Q2f (s_Ki p1 Q8 (s_Kw p1 o0).2).2).1 (Q48 p1 Qa (s_Ki p1 Q2f (s_Ki p1 Q8 (s_Kw p1 o0).2).2).2).1 (s_Kv p1 Qi (Q48 p1 Qa (s_Ki p1 Q2f (s_Ki p1 Q8 (s_Kw p1 o0).2).2).2).2).1 (s_Kn p1 Qp (s_Kv p1 Qi (Q48 p1 Qa (s_Ki p1 Q2f (s_Ki p1 Q8 (s_Kw p1 o0).2).2).2).2).2).1), (s_Kn p1 Qp (s_Kv p1 Qi (Q48 p1 Qa (s_Ki p1 Q2f (s_Ki p1 Q8 (s_Kw p1 o0).2).2).2).2).2).2)) := by
  simp only [s_Kw, s_Kn, s_Kv, s_Ki, Q48, s_Ko, PodTerm.dec, Qjr, Bool.and_assoc, Bool.and_left_comm, Bool.and_comm, Bool.and_self_left]
def c_Ko (p1 : Val) (o0 : Decoder) : En := .call 92 [.bx 0 0, .agg (Val.cells p1)] [⟨1, 0, false, (Decoder.cells o0)⟩]
def r_Ko (_p1 : Val) (_o0 : Decoder) (q0 : PodTerm) (q1 : Decoder) : Rs := .ret (.agg (PodTerm.cells q0)) [⟨1, 0, false, (Decoder.cells q1)⟩]
def a_Ko (p1 : Val) (o0 : Decoder) : Rs := r_Ko p1 o0 (s_Ko p1 o0).1 (s_Ko p1 o0).2
def H_Ko (p1 : Val) : Prop := Val.Sm 1000000000 p1
theorem Qly (p1 : Val) (_o0 : Decoder) (H : H_Ko p1) : (H_Ki p1) ∧ (Q16j p1) ∧ (H_Kv p1) ∧ (H_Kn p1) ∧ True := by
  repeat' with_reducible apply And.intro
  all_goals first | exact True.intro | exact H | exact Qix (Q52 H _)
theorem t_Ko (p1 : Val) (o0 : Decoder) (H : H_Ko p1) : Q6 G (c_Ko p1 o0) (a_Ko p1 o0) := by
 unfold a_Ko
 rw [e_Ko]
 exact Q7 (fn := Ir.Ko) rfl (h := [⟨1, 0, false, (Decoder.cells o0)⟩]) (vw := []) VOK.nil [] [aN (t_Kw p1 o0), aN (t_Ki p1 Q8 (s_Kw p1 o0).2 (Qly p1 o0 H).1), aN (t_Ki p1 Q2f (s_Ki p1 Q8 (s_Kw p1 o0).2).2 (Qly p1 o0 H).1), aN (Q1bf p1 Qa (s_Ki p1 Q2f (s_Ki p1 Q8 (s_Kw p1 o0).2).2).2 (Qly p1 o0 H).2.1), aN (t_Kv p1 Qi (Q48 p1 Qa (s_Ki p1 Q2f (s_Ki p1 Q8 (s_Kw p1 o0).2).2).2).2 (Qly p1 o0 H).2.2.1), aN (t_Kn p1 Qp (s_Kv p1 Qi (Q48 p1 Qa (s_Ki p1 Q2f (s_Ki p1 Q8 (s_Kw p1 o0).2).2).2).2).2 (Qly p1 o0 H).2.2.2.1)] (by kernel_rfl)
def Q4d (p1 : Val) (p2 : BA) (o0 : Decoder) : List Val → Nat → Bool → (List PodTerm) → Bool × (List PodTerm)
 | [], _i0, v0_1, v0_2 =>
  (v0_1, v0_2)
 | x0 :: r0, i0, v0_1, v0_2 =>
  Q4d p1 p2 o0 r0 (i0 + 1) (s_Ko x0 (Decoder.mk v0_1)).2.failed (v0_2 ++ [(s_Ko x0 (Decoder.mk v0_1)).1])
def Qx0 (p1 : Val) (p2 : BA) (o0 : Decoder) (i0 : Nat) (_v0_1 : Bool) (v0_2 : List PodTerm) : List PV :=
  [.un, .un, .un, .fn 92 [.bx 0 0] []] ++ nuns 5 ++ [.ms 1 5 0 (List.length v0_2)] ++ nuns 6 ++ [.sl (Val.rows (s_Kj p1 p2 4 o0).1.list), .int .i64 ((List.length (s_Kj p1 p2 4 o0).1.list) : Int), .int .i64 (i0 : Int)] ++ nuns 11
def Qk9 (_p1 : Val) (_p2 : BA) (_o0 : Decoder) (_i0 : Nat) (v0_1 : Bool) (v0_2 : List PodTerm) : List Ob :=
  [⟨1, 0, false, [.bool v0_1]⟩, ⟨5, 0, true, (PodTerm.rows v0_2).flatten⟩]
def Qgm (p1 : Val) (p2 : BA) (o0 : Decoder) (i0 : Nat) (v0_1 : Bool) (v0_2 : List PodTerm) : En := .loop 1 Ir.Qm4 Ir.Q1dl (Qx0 p1 p2 o0 i0 v0_1 v0_2) (Qk9 p1 p2 o0 i0 v0_1 v0_2)
def Qpv (_p1 : Val) (_p2 : BA) (_o0 : Decoder) (q0 : Bool) (q1 : List PodTerm) (z : Nat → PV) (_zo : Nat → List PV) : St :=
  ⟨zr z 0 9 ++ [.ms 1 5 0 (List.length q1)] ++ zr z 10 20, [(0, ⟨1, 0, false, [.bool q0]⟩), (1, ⟨5, 0, true, (PodTerm.rows q1).flatten⟩)], 66⟩
theorem Q12b (p1 : Val) (p2 : BA) (o0 : Decoder) (i0 : Nat) (v0_1 : Bool) (v0_2 : List PodTerm) : VOK (Go.Pv.look (number 0 (Qk9 p1 p2 o0 i0 v0_1 v0_2))) [(1, PodTerm.rows v0_2)] := (VOK.cons (show Seen _ _ from Q3h (ob := ⟨5, 0, true, (PodTerm.rows v0_2).flatten⟩) (PodTerm.Q9 v0_2 5 rfl)) VOK.nil)
def Qgh (p1 : Val) (p2 : BA) (o0 : Decoder) (e : En) (q : Bool × (List PodTerm)) : Prop := ∃ z zo, Q6 G e (.st (.exit 0) (Qpv p1 p2 o0 q.1 q.2 z zo))
theorem Qr4 (p1 : Val) (p2 : BA) (o0 : Decoder) {e e' : En} (h : ∀ r, Q6 G e r → Q6 G e' r) : ∀ q, Qgh p1 p2 o0 e q → Qgh p1 p2 o0 e' q
  | _, ⟨z, zo, hz⟩ => ⟨z, zo, h _ hz⟩
def Qbh (p1 : Val) (p2 : BA) (o0 : Decoder) : Prop := (List.length (s_Kj p1 p2 4 o0).1.list ≤ 137438953472) ∧ (∀ x0 ∈ (s_Kj p1 p2 4 o0).1.list, H_Ko x0) ∧ True
def Qni (p1 : Val) (p2 : BA) (o0 : Decoder) (i0 : Nat) (_v0_1 : Bool) (_v0_2 : List PodTerm) : List PV :=
  [.un, .un, .un, .fn 92 [.bx 0 0] []] ++ nuns 12 ++ [.sl (Val.rows (s_Kj p1 p2 4 o0).1.list), .int .i64 ((List.length (s_Kj p1 p2 4 o0).1.list) : Int), .int .i64 (i0 : Int), .bool false]
def Qm6 (_p1 : Val) (_p2 : BA) (_o0 : Decoder) (_i0 : Nat) (_v0_1 : Bool) (_v0_2 : List PodTerm) : List (Nat × List PV) :=
  []
theorem Q14n (p1 : Val) (p2 : BA) (o0 : Decoder) (_H : Qbh p1 p2 o0) (i0 : Nat) (v0_1 : Bool) (v0_2 : List PodTerm) (_ho0_0 : List.length v0_2 ≤ i0) (hc0 : (decide ((i0 : Int) < ((List.length (s_Kj p1 p2 4 o0).1.list) : Int))) = false) : Qgh p1 p2 o0 (Qgm p1 p2 o0 i0 v0_1 v0_2) (v0_1, v0_2) := by
 exact ⟨(envF (Qni p1 p2 o0 i0 v0_1 v0_2)), (zoF (Qm6 p1 p2 o0 i0 v0_1 v0_2)), Qe (Q12b p1 p2 o0 i0 v0_1 v0_2) (x := ((.exit 0), Qpv p1 p2 o0 v0_1 v0_2 (envF (Qni p1 p2 o0 i0 v0_1 v0_2)) (zoF (Qm6 p1 p2 o0 i0 v0_1 v0_2)))) [hB 0 hc0] [] (by kernel_rfl)⟩
theorem Q17g (p1 : Val) (p2 : BA) (o0 : Decoder) (H : Qbh p1 p2 o0) (x0 : Val) (i0 : Nat) (v0_1 : Bool) (v0_2 : List PodTerm) (hx0 : (s_Kj p1 p2 4 o0).1.list[i0]? = some x0) (hi0 : i0 < List.length (s_Kj p1 p2 4 o0).1.list) (ho0_0 : List.length v0_2 ≤ i0) (hc0 : (decide ((i0 : Int) < ((List.length (s_Kj p1 p2 4 o0).1.list) : Int))) = true) {r : Rs} (hr : Q6 G (Qgm p1 p2 o0 (i0 + 1) (s_Ko x0 (Decoder.mk v0_1)).2.failed (v0_2 ++ [(s_Ko x0 (Decoder.mk v0_1)).1])) r) : Q6 G (Qgm p1 p2 o0 i0 v0_1 v0_2) r := by
 have hB0 := H.1
 exact Ql (Q12b p1 p2 o0 i0 v0_1 v0_2) (y := (Qx0 p1 p2 o0 (i0 + 1) (s_Ko x0 (Decoder.mk v0_1)).2.failed (v0_2 ++ [(s_Ko x0 (Decoder.mk v0_1)).1]), Qk9 p1 p2 o0 (i0 + 1) (s_Ko x0 (Decoder.mk v0_1)).2.failed (v0_2 ++ [(s_Ko x0 (Decoder.mk v0_1)).1]))) [hB 0 hc0, hP 0 (Q1u 5 (Val.rows (s_Kj p1 p2 4 o0).1.list) i0 _ (Val.Qb hx0) rfl), hV 8 [(642, PodTerm.rows (v0_2 ++ [(s_Ko x0 (Decoder.mk v0_1)).1]))] (Q55 1 578 642 5 56 0 0 true (PodTerm.rows v0_2) (PodTerm.rows (v0_2 ++ [(s_Ko x0 (Decoder.mk v0_1)).1])) (PodTerm.cells (s_Ko x0 (Decoder.mk v0_1)).1) (List.length v0_2) (List.length (v0_2 ++ [(s_Ko x0 (Decoder.mk v0_1)).1])) rfl (PodTerm.Q5 v0_2).symm (PodTerm.Q5 (v0_2 ++ [(s_Ko x0 (Decoder.mk v0_1)).1])).symm (PodTerm.Q12 v0_2 (s_Ko x0 (Decoder.mk v0_1)).1) (PodTerm.Qf v0_2) rfl (by omega)), hS 0 true (PodTerm.Q9 (v0_2 ++ [(s_Ko x0 (Decoder.mk v0_1)).1]) 5 rfl), hP 1 (Q27 i0 (by omega))] [aN (t_Ko x0 (Decoder.mk v0_1) (H.2.1 x0 (Q2c hx0)))] (by kernel_rfl) hr
theorem Quz (p1 : Val) (p2 : BA) (o0 : Decoder) (H : Qbh p1 p2 o0) : ∀ (r0 : List Val) (i0 : Nat) (v0_1 : Bool) (v0_2 : List PodTerm), List.drop i0 (s_Kj p1 p2 4 o0).1.list = r0 → List.length v0_2 ≤ i0 → Qgh p1 p2 o0 (Qgm p1 p2 o0 i0 v0_1 v0_2) (Q4d p1 p2 o0 r0 i0 v0_1 v0_2)
 | [], i0, v0_1, v0_2, hd, ho0_0 => by
  have hc0 : (decide ((i0 : Int) < ((List.length (s_Kj p1 p2 4 o0).1.list) : Int))) = false := by have := Q1f hd; simp; omega
  rw [Q4d]
  exact Q14n p1 p2 o0 H i0 v0_1 v0_2 ho0_0 hc0
 | x0 :: r0, i0, v0_1, v0_2, hd, ho0_0 => by
  obtain ⟨hx0, hi0, hd'⟩ := Q11 hd
  have hc0 : (decide ((i0 : Int) < ((List.length (s_Kj p1 p2 4 o0).1.list) : Int))) = true := by simp; omega
  rw [Q4d]
  exact Qr4 p1 p2 o0 (fun r hr => Q17g p1 p2 o0 H x0 i0 v0_1 v0_2 hx0 hi0 ho0_0 hc0 hr) _ (Quz p1 p2 o0 H r0 (i0 + 1) (s_Ko x0 (Decoder.mk v0_1)).2.failed (v0_2 ++ [(s_Ko x0 (Decoder.mk v0_1)).1]) hd' (by first | omega | (simp; omega)))
def Qj9 (p1 : Val) (p2 : BA) (o0 : Decoder) : List PodTerm × Decoder := ((dE PodTerm.dec p1 p2).1, ft o0 (isM p1 && (dE PodTerm.dec p1 p2).2))
theorem Q10g (p1 : Val) (p2 : BA) (o0 : Decoder) : ∀ (l : List Val) (i : Nat) (b : Bool) (a : List PodTerm), Q4d p1 p2 o0 l i b a = (b || !(l.all fun x => (PodTerm.dec x).2), a ++ l.map (fun x => (PodTerm.dec x).1))
  | [], _, b, a => by rw [Q4d]; simp
  | x :: l, i, b, a => by
    rw [Q4d]
    refine (Q10g p1 p2 o0 l (i + 1) (b || !(PodTerm.dec x).2) (a ++ [(PodTerm.dec x).1])).trans ?_
    simp only [List.append_assoc, List.singleton_append, List.map_cons, List.all_cons, Bool.not_and, Bool.or_assoc]
theorem Q1mz (p1 : Val) (p2 : BA) (o0 : Decoder) : Qj9 p1 p2 o0 = (((Q4d p1 p2 o0 (s_Kj p1 p2 4 o0).1.list 0 (s_Kj p1 p2 4 o0).2.failed []).2, (Decoder.mk (Q4d p1 p2 o0 (s_Kj p1 p2 4 o0).1.list 0 (s_Kj p1 p2 4 o0).2.failed []).1))) := by
  rw [Q10g]
  unfold s_Kj Qj9
  simp only [getL, Q59]
  refine Prod.ext rfl ?_
  rw [Q7z o0.failed (isM p1) _ _ _ (Qt1 (prt p1 p2)), Q56]
  rfl
def Q1n2 (p1 : Val) (p2 : BA) (o0 : Decoder) : En := .call 91 [.bx 0 0, .agg (Val.cells p1), .str p2, .fn 92 [.bx 0 0] []] [⟨1, 0, false, (Decoder.cells o0)⟩]
def Q1l2 (_p1 : Val) (_p2 : BA) (_o0 : Decoder) (q0 : List PodTerm) (q1 : Decoder) : Rs := .ret (.sl (PodTerm.rows q0)) [⟨1, 0, false, (Decoder.cells q1)⟩]
def Q1ja (p1 : Val) (p2 : BA) (o0 : Decoder) : Rs := Q1l2 p1 p2 o0 (Qj9 p1 p2 o0).1 (Qj9 p1 p2 o0).2
def Q1go (p1 : Val) : Prop := Val.Sm 1000000000 p1
theorem Q107 (p1 : Val) (p2 : BA) (o0 : Decoder) (H : Q1go p1) : (H_Kj p1) ∧ (Qbh p1 p2 o0) ∧ True := by
  have hl := Qtn (Q52 H p2)
  refine ⟨H, ?_, trivial⟩
  unfold Qbh s_Kj
  simp only [getL]
  exact ⟨Nat.le_trans hl.1 (Nat.le_of_ble_eq_true rfl), hl.2, trivial⟩
theorem Q1no (p1 : Val) (p2 : BA) (o0 : Decoder) (H : Q1go p1) : Q6 G (Q1n2 p1 p2 o0) (Q1ja p1 p2 o0) := by
 unfold Q1ja
 rw [Q1mz]
 have hl0 := Quz p1 p2 o0 ((Q107 p1 p2 o0 H).2.1) (s_Kj p1 p2 4 o0).1.list 0 (s_Kj p1 p2 4 o0).2.failed [] (by simp) (by simp)
 obtain ⟨z0, zo0, hl0⟩ := hl0
 exact Q7 (fn := Ir.K19) rfl (h := [⟨1, 0, false, (Decoder.cells o0)⟩]) (vw := []) VOK.nil [hP 8 (Qd (Val.rows (s_Kj p1 p2 4 o0).1.list) (List.length (s_Kj p1 p2 4 o0).1.list) (Val.Q5 (s_Kj p1 p2 4 o0).1.list)), hS 0 true (PodTerm.Q9 (Q4d p1 p2 o0 (s_Kj p1 p2 4 o0).1.list 0 (s_Kj p1 p2 4 o0).2.failed []).2 5 rfl), hQ (PodTerm.Q5 (Q4d p1 p2 o0 (s_Kj p1 p2 4 o0).1.list 0 (s_Kj p1 p2 4 o0).2.failed []).2).symm] [aN (t_Kj p1 p2 4 o0 (Q107 p1 p2 o0 H).1), aV [(1, PodTerm.rows (Q4d p1 p2 o0 (s_Kj p1 p2 4 o0).1.list 0 (s_Kj p1 p2 4 o0).2.failed []).2)] hl0] (by kernel_rfl)
def s_Kt (p1 : Val) (o0 : Decoder) : SpreadRule × Decoder := ((SpreadRule.dec p1).1, ft o0 (SpreadRule.dec p1).2)
theorem e_Kt (p1 : Val) (o0 : Decoder) : s_Kt p1 o0 = (((SpreadRule.mk (s_Kn p1 Q18 (s_Kw p1 o0).2).1 (s_Kv p1 Qi (s_Kn p1 Q18 (s_Kw p1 o0).2).2).1 (Q48 p1 Qa (s_Kv p1 Qi (s_Kn p1 Q18 (s_Kw p1 o0).2).2).2).1 (s_Ki p1 Q8 (Q48 p1 Qa (s_Kv p1 Qi (s_Kn p1 Q18 (s_Kw p1 o0).2).2).2).2).1), (s_Ki p1 Q8 (Q48 p1 Qa (s_Kv p1 Qi (s_Kn p1 Q18 (s_Kw p1 o0).2).2).2).2).2)) := by
  simp only [s_Kw, s_Kn, s_Kv, s_Ki, Q48, s_Kt, SpreadRule.dec, Qjr, Bool.and_assoc, Bool.and_left_comm, Bool.and_comm, Bool.and_self_left]
def c_Kt (p1 : Val) (o0 : Decoder) : En := .call 94 [.bx 0 0, .agg (Val.cells p1)] [⟨1, 0, false, (Decoder.cells o0)⟩]
def r_Kt (_p1 : Val) (_o0 : Decoder) (q0 : SpreadRule) (q1 : Decoder) : Rs := .ret (.agg (SpreadRule.cells q0)) [⟨1, 0, false, (Decoder.cells q1)⟩]
def a_Kt (p1 : Val) (o0 : Decoder) : Rs := r_Kt p1 o0 (s_Kt p1 o0).1 (s_Kt p1 o0).2
def H_Kt (p1 : Val) : Prop := Val.Sm 1000000000 p1
theorem Qri (p1 : Val) (_o0 : Decoder) (H : H_Kt p1) : (H_Kn p1) ∧ (H_Kv p1) ∧ (Q16j p1) ∧ (H_Ki p1) ∧ True := by
  repeat' with_reducible apply And.intro
  all_goals first | exact True.intro | exact H | exact Qix (Q52 H _)
theorem t_Kt (p1 : Val) (o0 : Decoder) (H : H_Kt p1) : Q6 G (c_Kt p1 o0) (a_Kt p1 o0) := by
 unfold a_Kt
 rw [e_Kt]
 exact Q7 (fn := Ir.Kt) rfl (h := [⟨1, 0, false, (Decoder.cells o0)⟩]) (vw := []) VOK.nil [] [aN (t_Kw p1 o0), aN (t_Kn p1 Q18 (s_Kw p1 o0).2 (Qri p1 o0 H).1), aN (t_Kv p1 Qi (s_Kn p1 Q18 (s_Kw p1 o0).2).2 (Qri p1 o0 H).2.1), aN (Q1bf p1 Qa (s_Kv p1 Qi (s_Kn p1 Q18 (s_Kw p1 o0).2).2).2 (Qri p1 o0 H).2.2.1), aN (t_Ki p1 Q8 (Q48 p1 Qa (s_Kv p1 Qi (s_Kn p1 Q18 (s_Kw p1 o0).2).2).2).2 (Qri p1 o0 H).2.2.2.1)] (by kernel_rfl)
def Q4q (p1 : Val) (p2 : BA) (o0 : Decoder) : List Val → Nat → Bool → (List SpreadRule) → Bool × (List SpreadRule)
 | [], _i0, v0_1, v0_2 =>
  (v0_1, v0_2)
 | x0 :: r0, i0, v0_1, v0_2 =>
  Q4q p1 p2 o0 r0 (i0 + 1) (s_Kt x0 (Decoder.mk v0_1)).2.failed (v0_2 ++ [(s_Kt x0 (Decoder.mk v0_1)).1])
def Qxj (p1 : Val) (p2 : BA) (o0 : Decoder) (i0 : Nat) (_v0_1 : Bool) (v0_2 : List SpreadRule) : List PV :=
  [.un, .un, .un, .fn 94 [.bx 0 0] []] ++ nuns 5 ++ [.ms 1 4 0 (List.length v0_2)] ++ nuns 6 ++ [.sl (Val.rows (s_Kj p1 p2 4 o0).1.list), .int .i64 ((List.length (s_Kj p1 p2 4 o0).1.list) : Int), .int .i64 (i0 : Int)] ++ nuns 11
def Qk1 (_p1 : Val) (_p2 : BA) (_o0 : Decoder) (_i0 : Nat) (v0_1 : Bool) (v0_2 : List SpreadRule) : List Ob :=
  [⟨1, 0, false, [.bool v0_1]⟩, ⟨4, 0, true, (SpreadRule.rows v0_2).flatten⟩]
def Qej (p1 : Val) (p2 : BA) (o0 : Decoder) (i0 : Nat) (v0_1 : Bool) (v0_2 : List SpreadRule) : En := .loop 1 Ir.Qji Ir.Q1dy (Qxj p1 p2 o0 i0 v0_1 v0_2) (Qk1 p1 p2 o0 i0 v0_1 v0_2)
def Qqy (_p1 : Val) (_p2 : BA) (_o0 : Decoder) (q0 : Bool) (q1 : List SpreadRule) (z : Nat → PV) (_zo : Nat → List PV) : St :=
  ⟨zr z 0 9 ++ [.ms 1 4 0 (List.length q1)] ++ zr z 10 20, [(0, ⟨1, 0, false, [.bool q0]⟩), (1, ⟨4, 0, true, (SpreadRule.rows q1).flatten⟩)], 66⟩
theorem Q12h (p1 : Val) (p2 : BA) (o0 : Decoder) (i0 : Nat) (v0_1 : Bool) (v0_2 : List SpreadRule) : VOK (Go.Pv.look (number 0 (Qk1 p1 p2 o0 i0 v0_1 v0_2))) [(1, SpreadRule.rows v0_2)] := (VOK.cons (show Seen _ _ from Q3h (ob := ⟨4, 0, true, (SpreadRule.rows v0_2).flatten⟩) (SpreadRule.Q9 v0_2 4 rfl)) VOK.nil)
def Qg5 (p1 : Val) (p2 : BA) (o0 : Decoder) (e : En) (q : Bool × (List SpreadRule)) : Prop := ∃ z zo, Q6 G e (.st (.exit 0) (Qqy p1 p2 o0 q.1 q.2 z zo))
theorem Qs6 (p1 : Val) (p2 : BA) (o0 : Decoder) {e e' : En} (h : ∀ r, Q6 G e r → Q6 G e' r) : ∀ q, Qg5 p1 p2 o0 e q → Qg5 p1 p2 o0 e' q
  | _, ⟨z, zo, hz⟩ => ⟨z, zo, h _ hz⟩
def Qc7 (p1 : Val) (p2 : BA) (o0 : Decoder) : Prop := (List.length (s_Kj p1 p2 4 o0).1.list ≤ 137438953472) ∧ (∀ x0 ∈ (s_Kj p1 p2 4 o0).1.list, H_Kt x0) ∧ True
def Qqh (p1 : Val) (p2 : BA) (o0 : Decoder) (i0 : Nat) (_v0_1 : Bool) (_v0_2 : List SpreadRule) : List PV :=
  [.un, .un, .un, .fn 94 [.bx 0 0] []] ++ nuns 12 ++ [.sl (Val.rows (s_Kj p1 p2 4 o0).1.list), .int .i64 ((List.length (s_Kj p1 p2 4 o0).1.list) : Int), .int .i64 (i0 : Int), .bool false]
def Qmf (_p1 : Val) (_p2 : BA) (_o0 : Decoder) (_i0 : Nat) (_v0_1 : Bool) (_v0_2 : List SpreadRule) : List (Nat × List PV) :=
  []
theorem Q174 (p1 : Val) (p2 : BA) (o0 : Decoder) (_H : Qc7 p1 p2 o0) (i0 : Nat) (v0_1 : Bool) (v0_2 : List SpreadRule) (_ho0_0 : List.length v0_2 ≤ i0) (hc0 : (decide ((i0 : Int) < ((List.length (s_Kj p1 p2 4 o0).1.list) : Int))) = false) : Qg5 p1 p2 o0 (Qej p1 p2 o0 i0 v0_1 v0_2) (v0_1, v0_2) := by
 exact ⟨(envF (Qqh p1 p2 o0 i0 v0_1 v0_2)), (zoF (Qmf p1 p2 o0 i0 v0_1 v0_2)), Qe (Q12h p1 p2 o0 i0 v0_1 v0_2) (x := ((.exit 0), Qqy p1 p2 o0 v0_1 v0_2 (envF (Qqh p1 p2 o0 i0 v0_1 v0_2)) (zoF (Qmf p1 p2 o0 i0 v0_1 v0_2)))) [hB 0 hc0] [] (by kernel_rfl)⟩
theorem Q15n (p1 : Val) (p2 : BA) (o0 : Decoder) (H : Qc7 p1 p2 o0) (x0 : Val) (i0 : Nat) (v0_1 : Bool) (v0_2 : List SpreadRule) (hx0 : (s_Kj p1 p2 4 o0).1.list[i0]? = some x0) (hi0 : i0 < List.length (s_Kj p1 p2 4 o0).1.list) (ho0_0 : List.length v0_2 ≤ i0) (hc0 : (decide ((i0 : Int) < ((List.length (s_Kj p1 p2 4 o0).1.list) : Int))) = true) {r : Rs} (hr : Q6 G (Qej p1 p2 o0 (i0 + 1) (s_Kt x0 (Decoder.mk v0_1)).2.failed (v0_2 ++ [(s_Kt x0 (Decoder.mk v0_1)).1])) r) : Q6 G (Qej p1 p2 o0 i0 v0_1 v0_2) r := by
 have hB0 := H.1
 exact Ql (Q12h p1 p2 o0 i0 v0_1 v0_2) (y := (Qxj p1 p2 o0 (i0 + 1) (s_Kt x0 (Decoder.mk v0_1)).2.failed (v0_2 ++ [(s_Kt x0 (Decoder.mk v0_1)).1]), Qk1 p1 p2 o0 (i0 + 1) (s_Kt x0 (Decoder.mk v0_1)).2.failed (v0_2 ++ [(s_Kt x0 (Decoder.mk v0_1)).1]))) [hB 0 hc0, hP 0 (Q1u 5 (Val.rows (s_Kj p1 p2 4 o0).1.list) i0 _ (Val.Qb hx0) rfl), hV 8 [(642, SpreadRule.rows (v0_2 ++ [(s_Kt x0 (Decoder.mk v0_1)).1]))] (Q55 1 578 642 4 56 0 0 true (SpreadRule.rows v0_2) (SpreadRule.rows (v0_2 ++ [(s_Kt x0 (Decoder.mk v0_1)).1])) (SpreadRule.cells (s_Kt x0 (Decoder.mk v0_1)).1) (List.length v0_2) (List.length (v0_2 ++ [(s_Kt x0 (Decoder.mk v0_1)).1])) rfl (SpreadRule.Q5 v0_2).symm (SpreadRule.Q5 (v0_2 ++ [(s_Kt x0 (Decoder.mk v0_1)).1])).symm (SpreadRule.Q12 v0_2 (s_Kt x0 (Decoder.mk v0_1)).1) (SpreadRule.Qf v0_2) rfl (by omega)), hS 0 true (SpreadRule.Q9 (v0_2 ++ [(s_Kt x0 (Decoder.mk v0_1)).1]) 4 rfl), hP 1 (Q27 i0 (by omega))] [aN (t_Kt x0 (Decoder.mk v0_1) (H.2.1 x0 (Q2c hx0)))] (by kernel_rfl) hr
theorem Qwc (p1 : Val) (p2 : BA) (o0 : Decoder) (H : Qc7 p1 p2 o0) : ∀ (r0 : List Val) (i0 : Nat) (v0_1 : Bool) (v0_2 : List SpreadRule), List.drop i0 (s_Kj p1 p2 4 o0).1.list = r0 → List.length v0_2 ≤ i0 → Qg5 p1 p2 o0 (Qej p1 p2 o0 i0 v0_1 v0_2) (Q4q p1 p2 o0 r0 i0 v0_1 v0_2)
 | [], i0, v0_1, v0_2, hd, ho0_0 => by
  have hc0 : (decide ((i0 : Int) < ((List.length (s_Kj p1 p2 4 o0).1.list) : Int))) = false := by have := Q1f hd; simp; omega
  rw [Q4q]
  exact Q174 p1 p2 o0 H i0 v0_1 v0_2 ho0_0 hc0
 | x0 :: r0, i0, v0_1, v0_2, hd, ho0_0 => by
  obtain ⟨hx0, hi0, hd'⟩ := Q11 hd
  have hc0 : (decide ((i0 : Int) < ((List.length (s_Kj p1 p2 4 o0).1.list) : Int))) = true := by simp; omega
  rw [Q4q]
  exact Qs6 p1 p2 o0 (fun r hr => Q15n p1 p2 o0 H x0 i0 v0_1 v0_2 hx0 hi0 ho0_0 hc0 hr) _ (Qwc p1 p2 o0 H r0 (i0 + 1) (s_Kt x0 (Decoder.mk v0_1)).2.failed (v0_2 ++ [(s_Kt x0 (Decoder.mk v0_1)).1]) hd' (by first | omega | (simp; omega)))
def Qsg (p1 : Val) (p2 : BA) (o0 : Decoder) : List SpreadRule × Decoder := ((dE SpreadRule.dec p1 p2).1, ft o0 (isM p1 && (dE SpreadRule.dec p1 p2).2))
theorem Q11c (p1 : Val) (p2 : BA) (o0 : Decoder) : ∀ (l : List Val) (i : Nat) (b : Bool) (a : List SpreadRule), Q4q p1 p2 o0 l i b a = (b || !(l.all fun x => (SpreadRule.dec x).2), a ++ l.map (fun x => (SpreadRule.dec x).1))
  | [], _, b, a => by rw [Q4q]; simp
  | x :: l, i, b, a => by
    rw [Q4q]
    refine (Q11c p1 p2 o0 l (i + 1) (b || !(SpreadRule.dec x).2) (a ++ [(SpreadRule.dec x).1])).trans ?_
    simp only [List.append_assoc, List.singleton_append, List.map_cons, List.all_cons, Bool.not_and, Bool.or_assoc]
theorem Q1lo (p1 : Val) (p2 : BA) (o0 : Decoder) : Qsg p1 p2 o0 = (((Q4q p1 p2 o0 (s_Kj p1 p2 4 o0).1.list 0 (s_Kj p1 p2 4 o0).2.failed []).2, (Decoder.mk (Q4q p1 p2 o0 (s_Kj p1 p2 4 o0).1.list 0 (s_Kj p1 p2 4 o0).2.failed []).1))) := by
  rw [Q11c]
  unfold s_Kj Qsg
  simp only [getL, Q59]
  refine Prod.ext rfl ?_
  rw [Q7z o0.failed (isM p1) _ _ _ (Qt1 (prt p1 p2)), Q56]
  rfl
def Q1pu (p1 : Val) (p2 : BA) (o0 : Decoder) : En := .call 93 [.bx 0 0, .agg (Val.cells p1), .str p2, .fn 94 [.bx 0 0] []] [⟨1, 0, false, (Decoder.cells o0)⟩]
def Q1oi (_p1 : Val) (_p2 : BA) (_o0 : Decoder) (q0 : List SpreadRule) (q1 : Decoder) : Rs := .ret (.sl (SpreadRule.rows q0)) [⟨1, 0, false, (Decoder.cells q1)⟩]
def Q1ih (p1 : Val) (p2 : BA) (o0 : Decoder) : Rs := Q1oi p1 p2 o0 (Qsg p1 p2 o0).1 (Qsg p1 p2 o0).2
def Q1fp (p1 : Val) : Prop := Val.Sm 1000000000 p1
theorem Q10o (p1 : Val) (p2 : BA) (o0 : Decoder) (H : Q1fp p1) : (H_Kj p1) ∧ (Qc7 p1 p2 o0) ∧ True := by
  have hl := Qtn (Q52 H p2)
  refine ⟨H, ?_, trivial⟩
  unfold Qc7 s_Kj
  simp only [getL]
  exact ⟨Nat.le_trans hl.1 (Nat.le_of_ble_eq_true rfl), hl.2, trivial⟩
theorem Q1l5 (p1 : Val) (p2 : BA) (o0 : Decoder) (H : Q1fp p1) : Q6 G (Q1pu p1 p2 o0) (Q1ih p1 p2 o0) := by
 unfold Q1ih
 rw [Q1lo]
 have hl0 := Qwc p1 p2 o0 ((Q10o p1 p2 o0 H).2.1) (s_Kj p1 p2 4 o0).1.list 0 (s_Kj p1 p2 4 o0).2.failed [] (by simp) (by simp)
 obtain ⟨z0, zo0, hl0⟩ := hl0
 exact Q7 (fn := Ir.K1a) rfl (h := [⟨1, 0, false, (Decoder.cells o0)⟩]) (vw := []) VOK.nil [hP 8 (Qd (Val.rows (s_Kj p1 p2 4 o0).1.list) (List.length (s_Kj p1 p2 4 o0).1.list) (Val.Q5 (s_Kj p1 p2 4 o0).1.list)), hS 0 true (SpreadRule.Q9 (Q4q p1 p2 o0 (s_Kj p1 p2 4 o0).1.list 0 (s_Kj p1 p2 4 o0).2.failed []).2 4 rfl), hQ (SpreadRule.Q5 (Q4q p1 p2 o0 (s_Kj p1 p2 4 o0).1.list 0 (s_Kj p1 p2 4 o0).2.failed []).2).symm] [aN (t_Kj p1 p2 4 o0 (Q10o p1 p2 o0 H).1), aV [(1, SpreadRule.rows (Q4q p1 p2 o0 (s_Kj p1 p2 4 o0).1.list 0 (s_Kj p1 p2 4 o0).2.failed []).2)] hl0] (by kernel_rfl)
def Q70 (p1 : Val) (o0 : Decoder) : Toleration × Decoder := ((Toleration.dec p1).1, ft o0 (Toleration.dec p1).2)
theorem Q1p2 (p1 : Val) (o0 : Decoder) : Q70 p1 o0 = (((Toleration.mk (s_Kv p1 Q1b (s_Kw p1 o0).2).1 (s_Kv p1 Q1d (s_Kv p1 Q1b (s_Kw p1 o0).2).2).1 (s_Ki p1 Q1r (s_Kv p1 Q1d (s_Kv p1 Q1b (s_Kw p1 o0).2).2).2).1 (s_Kn p1 Q1i (s_Ki p1 Q1r (s_Kv p1 Q1d (s_Kv p1 Q1b (s_Kw p1 o0).2).2).2).2).1 (s_Kn p1 Q1n (s_Kn p1 Q1i (s_Ki p1 Q1r (s_Kv p1 Q1d (s_Kv p1 Q1b (s_Kw p1 o0).2).2).2).2).2).1), (s_Kn p1 Q1n (s_Kn p1 Q1i (s_Ki p1 Q1r (s_Kv p1 Q1d (s_Kv p1 Q1b (s_Kw p1 o0).2).2).2).2).2).2)) := by
  simp only [s_Kw, s_Kn, s_Kv, s_Ki, Q70, Toleration.dec, Qjr, Bool.and_assoc, Bool.and_left_comm, Bool.and_comm, Bool.and_self_left]
def Q1om (p1 : Val) (o0 : Decoder) : En := .call 96 [.bx 0 0, .agg (Val.cells p1)] [⟨1, 0, false, (Decoder.cells o0)⟩]
def Q1oy (_p1 : Val) (_o0 : Decoder) (q0 : Toleration) (q1 : Decoder) : Rs := .ret (.agg (Toleration.cells q0)) [⟨1, 0, false, (Decoder.cells q1)⟩]
def Q1hl (p1 : Val) (o0 : Decoder) : Rs := Q1oy p1 o0 (Q70 p1 o0).1 (Q70 p1 o0).2
def Q1ej (p1 : Val) : Prop := Val.Sm 1000000000 p1
theorem Qc9 (p1 : Val) (_o0 : Decoder) (H : Q1ej p1) : (H_Kv p1) ∧ (H_Ki p1) ∧ (H_Kn p1) ∧ True := by
  repeat' with_reducible apply And.intro
  all_goals first | exact True.intro | exact H | exact Qix (Q52 H _)
theorem Q1ln (p1 : Val) (o0 : Decoder) (H : Q1ej p1) : Q6 G (Q1om p1 o0) (Q1hl p1 o0) := by
 unfold Q1hl
 rw [Q1p2]
 exact Q7 (fn := Ir.K10) rfl (h := [⟨1, 0, false, (Decoder.cells o0)⟩]) (vw := []) VOK.nil [] [aN (t_Kw p1 o0), aN (t_Kv p1 Q1b (s_Kw p1 o0).2 (Qc9 p1 o0 H).1), aN (t_Kv p1 Q1d (s_Kv p1 Q1b (s_Kw p1 o0).2).2 (Qc9 p1 o0 H).1), aN (t_Ki p1 Q1r (s_Kv p1 Q1d (s_Kv p1 Q1b (s_Kw p1 o0).2).2).2 (Qc9 p1 o0 H).2.1), aN (t_Kn p1 Q1i (s_Ki p1 Q1r (s_Kv p1 Q1d (s_Kv p1 Q1b (s_Kw p1 o0).2).2).2).2 (Qc9 p1 o0 H).2.2.1), aN (t_Kn p1 Q1n (s_Kn p1 Q1i (s_Ki p1 Q1r (s_Kv p1 Q1d (s_Kv p1 Q1b (s_Kw p1 o0).2).2).2).2).2 (Qc9 p1 o0 H).2.2.1)] (by kernel_rfl)
def Q4r (p1 : Val) (p2 : BA) (o0 : Decoder) : List Val → Nat → Bool → (List Toleration) → Bool × (List Toleration)
 | [], _i0, v0_1, v0_2 =>
  (v0_1, v0_2)
 | x0 :: r0, i0, v0_1, v0_2 =>
  Q4r p1 p2 o0 r0 (i0 + 1) (Q70 x0 (Decoder.mk v0_1)).2.failed (v0_2 ++ [(Q70 x0 (Decoder.mk v0_1)).1])
def Qu6 (p1 : Val) (p2 : BA) (o0 : Decoder) (i0 : Nat) (_v0_1 : Bool) (v0_2 : List Toleration) : List PV :=
  [.un, .un, .un, .fn 96 [.bx 0 0] []] ++ nuns 5 ++ [.ms 1 5 0 (List.length v0_2)] ++ nuns 6 ++ [.sl (Val.rows (s_Kj p1 p2 4 o0).1.list), .int .i64 ((List.length (s_Kj p1 p2 4 o0).1.list) : Int), .int .i64 (i0 : Int)] ++ nuns 11
def Qkf (_p1 : Val) (_p2 : BA) (_o0 : Decoder) (_i0 : Nat) (v0_1 : Bool) (v0_2 : List Toleration) : List Ob :=
  [⟨1, 0, false, [.bool v0_1]⟩, ⟨5, 0, true, (Toleration.rows v0_2).flatten⟩]
def Qg3 (p1 : Val) (p2 : BA) (o0 : Decoder) (i0 : Nat) (v0_1 : Bool) (v0_2 : List Toleration) : En := .loop 1 Ir.Qj6 Ir.Q1e2 (Qu6 p1 p2 o0 i0 v0_1 v0_2) (Qkf p1 p2 o0 i0 v0_1 v0_2)
def Qpd (_p1 : Val) (_p2 : BA) (_o0 : Decoder) (q0 : Bool) (q1 : List Toleration) (z : Nat → PV) (_zo : Nat → List PV) : St :=
  ⟨zr z 0 9 ++ [.ms 1 5 0 (List.length q1)] ++ zr z 10 20, [(0, ⟨1, 0, false, [.bool q0]⟩), (1, ⟨5, 0, true, (Toleration.rows q1).flatten⟩)], 66⟩
theorem Qzy (p1 : Val) (p2 : BA) (o0 : Decoder) (i0 : Nat) (v0_1 : Bool) (v0_2 : List Toleration) : VOK (Go.Pv.look (number 0 (Qkf p1 p2 o0 i0 v0_1 v0_2))) [(1, Toleration.rows v0_2)] := (VOK.cons (show Seen _ _ from Q3h (ob := ⟨5, 0, true, (Toleration.rows v0_2).flatten⟩) (Toleration.Q9 v0_2 5 rfl)) VOK.nil)
def Qgv (p1 : Val) (p2 : BA) (o0 : Decoder) (e : En) (q : Bool × (List Toleration)) : Prop := ∃ z zo, Q6 G e (.st (.exit 0) (Qpd p1 p2 o0 q.1 q.2 z zo))
theorem Qrq (p1 : Val) (p2 : BA) (o0 : Decoder) {e e' : En} (h : ∀ r, Q6 G e r → Q6 G e' r) : ∀ q, Qgv p1 p2 o0 e q → Qgv p1 p2 o0 e' q
  | _, ⟨z, zo, hz⟩ => ⟨z, zo, h _ hz⟩
def Qbf (p1 : Val) (p2 : BA) (o0 : Decoder) : Prop := (List.length (s_Kj p1 p2 4 o0).1.list ≤ 137438953472) ∧ (∀ x0 ∈ (s_Kj p1 p2 4 o0).1.list, Q1ej x0) ∧ True
def Qov (p1 : Val) (p2 : BA) (o0 : Decoder) (i0 : Nat) (_v0_1 : Bool) (_v0_2 : List Toleration) : List PV :=
  [.un, .un, .un, .fn 96 [.bx 0 0] []] ++ nuns 12 ++ [.sl (Val.rows (s_Kj p1 p2 4 o0).1.list), .int .i64 ((List.length (s_Kj p1 p2 4 o0).1.list) : Int), .int .i64 (i0 : Int), .bool false]
def Qiw (_p1 : Val) (_p2 : BA) (_o0 : Decoder) (_i0 : Nat) (_v0_1 : Bool) (_v0_2 : List Toleration) : List (Nat × List PV) :=
  []
theorem Q13a (p1 : Val) (p2 : BA) (o0 : Decoder) (_H : Qbf p1 p2 o0) (i0 : Nat) (v0_1 : Bool) (v0_2 : List Toleration) (_ho0_0 : List.length v0_2 ≤ i0) (hc0 : (decide ((i0 : Int) < ((List.length (s_Kj p1 p2 4 o0).1.list) : Int))) = false) : Qgv p1 p2 o0 (Qg3 p1 p2 o0 i0 v0_1 v0_2) (v0_1, v0_2) := by
 exact ⟨(envF (Qov p1 p2 o0 i0 v0_1 v0_2)), (zoF (Qiw p1 p2 o0 i0 v0_1 v0_2)), Qe (Qzy p1 p2 o0 i0 v0_1 v0_2) (x := ((.exit 0), Qpd p1 p2 o0 v0_1 v0_2 (envF (Qov p1 p2 o0 i0 v0_1 v0_2)) (zoF (Qiw p1 p2 o0 i0 v0_1 v0_2)))) [hB 0 hc0] [] (by kernel_rfl)⟩
theorem Q17m (p1 : Val) (p2 : BA) (o0 : Decoder) (H : Qbf p1 p2 o0) (x0 : Val) (i0 : Nat) (v0_1 : Bool) (v0_2 : List Toleration) (hx0 : (s_Kj p1 p2 4 o0).1.list[i0]? = some x0) (hi0 : i0 < List.length (s_Kj p1 p2 4 o0).1.list) (ho0_0 : List.length v0_2 ≤ i0) (hc0 : (decide ((i0 : Int) < ((List.length (s_Kj p1 p2 4 o0).1.list) : Int))) = true) {r : Rs} (hr : Q6 G (Qg3 p1 p2 o0 (i0 + 1) (Q70 x0 (Decoder.mk v0_1)).2.failed (v0_2 ++ [(Q70 x0 (Decoder.mk v0_1)).1])) r) : Q6 G (Qg3 p1 p2 o0 i0 v0_1 v0_2) r := by
 have hB0 := H.1
 exact Ql (Qzy p1 p2 o0 i0 v0_1 v0_2) (y := (Qu6 p1 p2 o0 (i0 + 1) (Q70 x0 (Decoder.mk v0_1)).2.failed (v0_2 ++ [(Q70 x0 (Decoder.mk v0_1)).1]), Qkf p1 p2 o0 (i0 + 1) (Q70 x0 (Decoder.mk v0_1)).2.failed (v0_2 ++ [(Q70 x0 (Decoder.mk v0_1)).1]))) [hB 0 hc0, hP 0 (Q1u 5 (Val.rows (s_Kj p1 p2 4 o0).1.list) i0 _ (Val.Qb hx0) rfl), hV 8 [(642, Toleration.rows (v0_2 ++ [(Q70 x0 (Decoder.mk v0_1)).1]))] (Q55 1 578 642 5 56 0 0 true (Toleration.rows v0_2) (Toleration.rows (v0_2 ++ [(Q70 x0 (Decoder.mk v0_1)).1])) (Toleration.cells (Q70 x0 (Decoder.mk v0_1)).1) (List.length v0_2) (List.length (v0_2 ++ [(Q70 x0 (Decoder.mk v0_1)).1])) rfl (Toleration.Q5 v0_2).symm (Toleration.Q5 (v0_2 ++ [(Q70 x0 (Decoder.mk v0_1)).1])).symm (Toleration.Q12 v0_2 (Q70 x0 (Decoder.mk v0_1)).1) (Toleration.Qf v0_2) rfl (by omega)), hS 0 true (Toleration.Q9 (v0_2 ++ [(Q70 x0 (Decoder.mk v0_1)).1]) 5 rfl), hP 1 (Q27 i0 (by omega))] [aN (Q1ln x0 (Decoder.mk v0_1) (H.2.1 x0 (Q2c hx0)))] (by kernel_rfl) hr
theorem Que (p1 : Val) (p2 : BA) (o0 : Decoder) (H : Qbf p1 p2 o0) : ∀ (r0 : List Val) (i0 : Nat) (v0_1 : Bool) (v0_2 : List Toleration), List.drop i0 (s_Kj p1 p2 4 o0).1.list = r0 → List.length v0_2 ≤ i0 → Qgv p1 p2 o0 (Qg3 p1 p2 o0 i0 v0_1 v0_2) (Q4r p1 p2 o0 r0 i0 v0_1 v0_2)
 | [], i0, v0_1, v0_2, hd, ho0_0 => by
  have hc0 : (decide ((i0 : Int) < ((List.length (s_Kj p1 p2 4 o0).1.list) : Int))) = false := by have := Q1f hd; simp; omega
  rw [Q4r]
  exact Q13a p1 p2 o0 H i0 v0_1 v0_2 ho0_0 hc0
 | x0 :: r0, i0, v0_1, v0_2, hd, ho0_0 => by
  obtain ⟨hx0, hi0, hd'⟩ := Q11 hd
  have hc0 : (decide ((i0 : Int) < ((List.length (s_Kj p1 p2 4 o0).1.list) : Int))) = true := by simp; omega
  rw [Q4r]
  exact Qrq p1 p2 o0 (fun r hr => Q17m p1 p2 o0 H x0 i0 v0_1 v0_2 hx0 hi0 ho0_0 hc0 hr) _ (Que p1 p2 o0 H r0 (i0 + 1) (Q70 x0 (Decoder.mk v0_1)).2.failed (v0_2 ++ [(Q70 x0 (Decoder.mk v0_1)).1]) hd' (by first | omega | (simp; omega)))
def Qz2 (p1 : Val) (p2 : BA) (o0 : Decoder) : List Toleration × Decoder := ((dE Toleration.dec p1 p2).1, ft o0 (isM p1 && (dE Toleration.dec p1 p2).2))
theorem Q10p (p1 : Val) (p2 : BA) (o0 : Decoder) : ∀ (l : List Val) (i : Nat) (b : Bool) (a : List Toleration), Q4r p1 p2 o0 l i b a = (b || !(l.all fun x => (Toleration.dec x).2), a ++ l.map (fun x => (Toleration.dec x).1))
  | [], _, b, a => by rw [Q4r]; simp
  | x :: l, i, b, a => by
    rw [Q4r]
    refine (Q10p p1 p2 o0 l (i + 1) (b || !(Toleration.dec x).2) (a ++ [(Toleration.dec x).1])).trans ?_
    simp only [List.append_assoc, List.singleton_append, List.map_cons, List.all_cons, Bool.not_and, Bool.or_assoc]
theorem Q1n6 (p1 : Val) (p2 : BA) (o0 : Decoder) : Qz2 p1 p2 o0 = (((Q4r p1 p2 o0 (s_Kj p1 p2 4 o0).1.list 0 (s_Kj p1 p2 4 o0).2.failed []).2, (Decoder.mk (Q4r p1 p2 o0 (s_Kj p1 p2 4 o0).1.list 0 (s_Kj p1 p2 4 o0).2.failed []).1))) := by
  rw [Q10p]
  unfold s_Kj Qz2
  simp only [getL, Q59]
  refine Prod.ext rfl ?_
  rw [Q7z o0.failed (isM p1) _ _ _ (Qt1 (prt p1 p2)), Q56]
  rfl
def Q1p1 (p1 : Val) (p2 : BA) (o0 : Decoder) : En := .call 95 [.bx 0 0, .agg (Val.cells p1), .str p2, .fn 96 [.bx 0 0] []] [⟨1, 0, false, (Decoder.cells o0)⟩]
def Q1km (_p1 : Val) (_p2 : BA) (_o0 : Decoder) (q0 : List Toleration) (q1 : Decoder) : Rs := .ret (.sl (Toleration.rows q0)) [⟨1, 0, false, (Decoder.cells q1)⟩]
def Q1h1 (p1 : Val) (p2 : BA) (o0 : Decoder) : Rs := Q1km p1 p2 o0 (Qz2 p1 p2 o0).1 (Qz2 p1 p2 o0).2
def Q1gc (p1 : Val) : Prop := Val.Sm 1000000000 p1
theorem Q11y (p1 : Val) (p2 : BA) (o0 : Decoder) (H : Q1gc p1) : (H_Kj p1) ∧ (Qbf p1 p2 o0) ∧ True := by
  have hl := Qtn (Q52 H p2)
  refine ⟨H, ?_, trivial⟩
  unfold Qbf s_Kj
  simp only [getL]
  exact ⟨Nat.le_trans hl.1 (Nat.le_of_ble_eq_true rfl), hl.2, trivial⟩
theorem Q1kq (p1 : Val) (p2 : BA) (o0 : Decoder) (H : Q1gc p1) : Q6 G (Q1p1 p1 p2 o0) (Q1h1 p1 p2 o0) := by
 unfold Q1h1
 rw [Q1n6]
 have hl0 := Que p1 p2 o0 ((Q11y p1 p2 o0 H).2.1) (s_Kj p1 p2 4 o0).1.list 0 (s_Kj p1 p2 4 o0).2.failed [] (by simp) (by simp)
 obtain ⟨z0, zo0, hl0⟩ := hl0
 exact Q7 (fn := Ir.K1b) rfl (h := [⟨1, 0, false, (Decoder.cells o0)⟩]) (vw := []) VOK.nil [hP 8 (Qd (Val.rows (s_Kj p1 p2 4 o0).1.list) (List.length (s_Kj p1 p2 4 o0).1.list) (Val.Q5 (s_Kj p1 p2 4 o0).1.list)), hS 0 true (Toleration.Q9 (Q4r p1 p2 o0 (s_Kj p1 p2 4 o0).1.list 0 (s_Kj p1 p2 4 o0).2.failed []).2 5 rfl), hQ (Toleration.Q5 (Q4r p1 p2 o0 (s_Kj p1 p2 4 o0).1.list 0 (s_Kj p1 p2 4 o0).2.failed []).2).symm] [aN (t_Kj p1 p2 4 o0 (Q11y p1 p2 o0 H).1), aV [(1, Toleration.rows (Q4r p1 p2 o0 (s_Kj p1 p2 4 o0).1.list 0 (s_Kj p1 p2 4 o0).2.failed []).2)] hl0] (by kernel_rfl)
def s_Ks (p1 : Val) (o0 : Decoder) : PodSpec × Decoder := ((PodSpec.dec p1).1, ft o0 (PodSpec.dec p1).2)
abbrev M1 (o0 : Decoder) (p1 : Val) := (Q141 p1 Qh (s_Kn p1 Q25 (s_Kn p1 Q19 (s_Kn p1 Qx (s_Kv p1 Q28 (s_Kw p1 o0).2).2).2).2).2)
theorem e_Ks (p1 : Val) (o0 : Decoder) : s_Ks p1 o0 = (((PodSpec.mk (s_Kv p1 Q28 (s_Kw p1 o0).2).1 (s_Kn p1 Qx (s_Kv p1 Q28 (s_Kw p1 o0).2).2).1 (s_Kn p1 Q19 (s_Kn p1 Qx (s_Kv p1 Q28 (s_Kw p1 o0).2).2).2).1 (s_Kn p1 Q25 (s_Kn p1 Q19 (s_Kn p1 Qx (s_Kv p1 Q28 (s_Kw p1 o0).2).2).2).2).1 (M1 o0 p1).1 (Q48 p1 Qk (M1 o0 p1).2).1 (Qd4 p1 Qs (Q48 p1 Qk (M1 o0 p1).2).2).1 (Qj9 p1 Qz (Qd4 p1 Qs (Q48 p1 Qk (M1 o0 p1).2).2).2).1 (Qsg p1 Q1q (Qj9 p1 Qz (Qd4 p1 Qs (Q48 p1 Qk (M1 o0 p1).2).2).2).2).1 (Qz2 p1 Qq (Qsg p1 Q1q (Qj9 p1 Qz (Qd4 p1 Qs (Q48 p1 Qk (M1 o0 p1).2).2).2).2).2).1), (Qz2 p1 Qq (Qsg p1 Q1q (Qj9 p1 Qz (Qd4 p1 Qs (Q48 p1 Qk (M1 o0 p1).2).2).2).2).2).2)) := by
  simp only [s_Kw, s_Kn, s_Kv, Q141, Qd4, Qj9, Q48, Qsg, Qz2, s_Ks, PodSpec.dec, Qjr, Bool.and_assoc, Bool.and_left_comm, Bool.and_comm, Bool.and_self_left]
def c_Ks (p1 : Val) (o0 : Decoder) : En := .call 32 [.bx 0 0, .agg (Val.cells p1)] [⟨1, 0, false, (Decoder.cells o0)⟩]
def r_Ks (_p1 : Val) (_o0 : Decoder) (q0 : PodSpec) (q1 : Decoder) : Rs := .ret (.agg (PodSpec.cells q0)) [⟨1, 0, false, (Decoder.cells q1)⟩]
def a_Ks (p1 : Val) (o0 : Decoder) : Rs := r_Ks p1 o0 (s_Ks p1 o0).1 (s_Ks p1 o0).2
def H_Ks (p1 : Val) : Prop := Val.Sm 1000000000 p1
theorem Q75 (p1 : Val) (_o0 : Decoder) (H : H_Ks p1) : (H_Kv p1) ∧ (H_Kn p1) ∧ (Q1gg p1) ∧ (Q16j p1) ∧ (Q1f1 p1) ∧ (Q1go p1) ∧ (Q1fp p1) ∧ (Q1gc p1) ∧ True := by
  repeat' with_reducible apply And.intro
  all_goals first | exact True.intro | exact H | exact Qix (Q52 H _)
theorem t_Ks (p1 : Val) (o0 : Decoder) (H : H_Ks p1) : Q6 G (c_Ks p1 o0) (a_Ks p1 o0) := by
 unfold a_Ks
 rw [e_Ks]
 exact Q7 (fn := Ir.Ks) rfl (h := [⟨1, 0, false, (Decoder.cells o0)⟩]) (vw := []) VOK.nil [] [aN (t_Kw p1 o0), aN (t_Kv p1 Q28 (s_Kw p1 o0).2 (Q75 p1 o0 H).1), aN (t_Kn p1 Qx (s_Kv p1 Q28 (s_Kw p1 o0).2).2 (Q75 p1 o0 H).2.1), aN (t_Kn p1 Q19 (s_Kn p1 Qx (s_Kv p1 Q28 (s_Kw p1 o0).2).2).2 (Q75 p1 o0 H).2.1), aN (t_Kn p1 Q25 (s_Kn p1 Q19 (s_Kn p1 Qx (s_Kv p1 Q28 (s_Kw p1 o0).2).2).2).2 (Q75 p1 o0 H).2.1), aN (Q1la p1 Qh (s_Kn p1 Q25 (s_Kn p1 Q19 (s_Kn p1 Qx (s_Kv p1 Q28 (s_Kw p1 o0).2).2).2).2).2 (Q75 p1 o0 H).2.2.1), aN (Q1bf p1 Qk (M1 o0 p1).2 (Q75 p1 o0 H).2.2.2.1), aN (Q1nq p1 Qs (Q48 p1 Qk (M1 o0 p1).2).2 (Q75 p1 o0 H).2.2.2.2.1), aN (Q1no p1 Qz (Qd4 p1 Qs (Q48 p1 Qk (M1 o0 p1).2).2).2 (Q75 p1 o0 H).2.2.2.2.2.1), aN (Q1l5 p1 Q1q (Qj9 p1 Qz (Qd4 p1 Qs (Q48 p1 Qk (M1 o0 p1).2).2).2).2 (Q75 p1 o0 H).2.2.2.2.2.2.1), aN (Q1kq p1 Qq (Qsg p1 Q1q (Qj9 p1 Qz (Qd4 p1 Qs (Q48 p1 Qk (M1 o0 p1).2).2).2).2).2 (Q75 p1 o0 H).2.2.2.2.2.2.2.1)] (by kernel_rfl)
def s_Kh (p1 : Val) (o0 : Decoder) : ContainerStatus × Decoder := ((ContainerStatus.dec p1).1, ft o0 (ContainerStatus.dec p1).2)
theorem e_Kh (p1 : Val) (o0 : Decoder) : s_Kh p1 o0 = (((ContainerStatus.mk (s_Kv p1 Qr (s_Kw p1 o0).2).1 (s_Kn p1 Q1t (s_Kv p1 Qr (s_Kw p1 o0).2).2).1 (s_Kn p1 Qw (s_Kn p1 Q1t (s_Kv p1 Qr (s_Kw p1 o0).2).2).2).1 (s_Kn p1 Qy (s_Kn p1 Qw (s_Kn p1 Q1t (s_Kv p1 Qr (s_Kw p1 o0).2).2).2).2).1 (s_Kn p1 Q1v (s_Kn p1 Qy (s_Kn p1 Qw (s_Kn p1 Q1t (s_Kv p1 Qr (s_Kw p1 o0).2).2).2).2).2).1 (s_Ki p1 Qn (s_Kn p1 Q1v (s_Kn p1 Qy (s_Kn p1 Qw (s_Kn p1 Q1t (s_Kv p1 Qr (s_Kw p1 o0).2).2).2).2).2).2).1 (s_Ki p1 Qt (s_Ki p1 Qn (s_Kn p1 Q1v (s_Kn p1 Qy (s_Kn p1 Qw (s_Kn p1 Q1t (s_Kv p1 Qr (s_Kw p1 o0).2).2).2).2).2).2).2).1), (s_Ki p1 Qt (s_Ki p1 Qn (s_Kn p1 Q1v (s_Kn p1 Qy (s_Kn p1 Qw (s_Kn p1 Q1t (s_Kv p1 Qr (s_Kw p1 o0).2).2).2).2).2).2).2).2)) := by
  simp only [s_Kw, s_Kn, s_Kv, s_Ki, s_Kh, ContainerStatus.dec, Qjr, Bool.and_assoc, Bool.and_left_comm, Bool.and_comm, Bool.and_self_left]
def c_Kh (p1 : Val) (o0 : Decoder) : En := .call 98 [.bx 0 0, .agg (Val.cells p1)] [⟨1, 0, false, (Decoder.cells o0)⟩]
def r_Kh (_p1 : Val) (_o0 : Decoder) (q0 : ContainerStatus) (q1 : Decoder) : Rs := .ret (.agg (ContainerStatus.cells q0)) [⟨1, 0, false, (Decoder.cells q1)⟩]
def a_Kh (p1 : Val) (o0 : Decoder) : Rs := r_Kh p1 o0 (s_Kh p1 o0).1 (s_Kh p1 o0).2
def H_Kh (p1 : Val) : Prop := Val.Sm 1000000000 p1
theorem Qav (p1 : Val) (_o0 : Decoder) (H : H_Kh p1) : (H_Kv p1) ∧ (H_Kn p1) ∧ (H_Ki p1) ∧ True := by
  repeat' with_reducible apply And.intro
  all_goals first | exact True.intro | exact H | exact Qix (Q52 H _)
theorem t_Kh (p1 : Val) (o0 : Decoder) (H : H_Kh p1) : Q6 G (c_Kh p1 o0) (a_Kh p1 o0) := by
 unfold a_Kh
 rw [e_Kh]
 exact Q7 (fn := Ir.Kh) rfl (h := [⟨1, 0, false, (Decoder.cells o0)⟩]) (vw := []) VOK.nil [] [aN (t_Kw p1 o0), aN (t_Kv p1 Qr (s_Kw p1 o0).2 (Qav p1 o0 H).1), aN (t_Kn p1 Q1t (s_Kv p1 Qr (s_Kw p1 o0).2).2 (Qav p1 o0 H).2.1), aN (t_Kn p1 Qw (s_Kn p1 Q1t (s_Kv p1 Qr (s_Kw p1 o0).2).2).2 (Qav p1 o0 H).2.1), aN (t_Kn p1 Qy (s_Kn p1 Qw (s_Kn p1 Q1t (s_Kv p1 Qr (s_Kw p1 o0).2).2).2).2 (Qav p1 o0 H).2.1), aN (t_Kn p1 Q1v (s_Kn p1 Qy (s_Kn p1 Qw (s_Kn p1 Q1t (s_Kv p1 Qr (s_Kw p1 o0).2).2).2).2).2 (Qav p1 o0 H).2.1), aN (t_Ki p1 Qn (s_Kn p1 Q1v (s_Kn p1 Qy (s_Kn p1 Qw (s_Kn p1 Q1t (s_Kv p1 Qr (s_Kw p1 o0).2).2).2).2).2).2 (Qav p1 o0 H).2.2.1), aN (t_Ki p1 Qt (s_Ki p1 Qn (s_Kn p1 Q1v (s_Kn p1 Qy (s_Kn p1 Qw (s_Kn p1 Q1t (s_Kv p1 Qr (s_Kw p1 o0).2).2).2).2).2).2).2 (Qav p1 o0 H).2.2.1)] (by kernel_rfl)
def Q4p (p1 : Val) (p2 : BA) (o0 : Decoder) : List Val → Nat → Bool → (List ContainerStatus) → Bool × (List ContainerStatus)
 | [], _i0, v0_1, v0_2 =>
  (v0_1, v0_2)
 | x0 :: r0, i0, v0_1, v0_2 =>
  Q4p p1 p2 o0 r0 (i0 + 1) (s_Kh x0 (Decoder.mk v0_1)).2.failed (v0_2 ++ [(s_Kh x0 (Decoder.mk v0_1)).1])
def Qvr (p1 : Val) (p2 : BA) (o0 : Decoder) (i0 : Nat) (_v0_1 : Bool) (v0_2 : List ContainerStatus) : List PV :=
  [.un, .un, .un, .fn 98 [.bx 0 0] []] ++ nuns 5 ++ [.ms 1 7 0 (List.length v0_2)] ++ nuns 6 ++ [.sl (Val.rows (s_Kj p1 p2 4 o0).1.list), .int .i64 ((List.length (s_Kj p1 p2 4 o0).1.list) : Int), .int .i64 (i0 : Int)] ++ nuns 11
def Qjk (_p1 : Val) (_p2 : BA) (_o0 : Decoder) (_i0 : Nat) (v0_1 : Bool) (v0_2 : List ContainerStatus) : List Ob :=
  [⟨1, 0, false, [.bool v0_1]⟩, ⟨7, 0, true, (ContainerStatus.rows v0_2).flatten⟩]
def Qgj (p1 : Val) (p2 : BA) (o0 : Decoder) (i0 : Nat) (v0_1 : Bool) (v0_2 : List ContainerStatus) : En := .loop 1 Ir.Qhj Ir.Q1ea (Qvr p1 p2 o0 i0 v0_1 v0_2) (Qjk p1 p2 o0 i0 v0_1 v0_2)
def Qo5 (_p1 : Val) (_p2 : BA) (_o0 : Decoder) (q0 : Bool) (q1 : List ContainerStatus) (z : Nat → PV) (_zo : Nat → List PV) : St :=
  ⟨zr z 0 9 ++ [.ms 1 7 0 (List.length q1)] ++ zr z 10 20, [(0, ⟨1, 0, false, [.bool q0]⟩), (1, ⟨7, 0, true, (ContainerStatus.rows q1).flatten⟩)], 66⟩
theorem Q127 (p1 : Val) (p2 : BA) (o0 : Decoder) (i0 : Nat) (v0_1 : Bool) (v0_2 : List ContainerStatus) : VOK (Go.Pv.look (number 0 (Qjk p1 p2 o0 i0 v0_1 v0_2))) [(1, ContainerStatus.rows v0_2)] := (VOK.cons (show Seen _ _ from Q3h (ob := ⟨7, 0, true, (ContainerStatus.rows v0_2).flatten⟩) (ContainerStatus.Q9 v0_2 7 rfl)) VOK.nil)
def Qfy (p1 : Val) (p2 : BA) (o0 : Decoder) (e : En) (q : Bool × (List ContainerStatus)) : Prop := ∃ z zo, Q6 G e (.st (.exit 0) (Qo5 p1 p2 o0 q.1 q.2 z zo))
theorem Qsc (p1 : Val) (p2 : BA) (o0 : Decoder) {e e' : En} (h : ∀ r, Q6 G e r → Q6 G e' r) : ∀ q, Qfy p1 p2 o0 e q → Qfy p1 p2 o0 e' q
  | _, ⟨z, zo, hz⟩ => ⟨z, zo, h _ hz⟩
def Qc4 (p1 : Val) (p2 : BA) (o0 : Decoder) : Prop := (List.length (s_Kj p1 p2 4 o0).1.list ≤ 137438953472) ∧ (∀ x0 ∈ (s_Kj p1 p2 4 o0).1.list, H_Kh x0) ∧ True
def Qn3 (p1 : Val) (p2 : BA) (o0 : Decoder) (i0 : Nat) (_v0_1 : Bool) (_v0_2 : List ContainerStatus) : List PV :=
  [.un, .un, .un, .fn 98 [.bx 0 0] []] ++ nuns 12 ++ [.sl (Val.rows (s_Kj p1 p2 4 o0).1.list), .int .i64 ((List.length (s_Kj p1 p2 4 o0).1.list) : Int), .int .i64 (i0 : Int), .bool false]
def Qk0 (_p1 : Val) (_p2 : BA) (_o0 : Decoder) (_i0 : Nat) (_v0_1 : Bool) (_v0_2 : List ContainerStatus) : List (Nat × List PV) :=
  []
theorem Q154 (p1 : Val) (p2 : BA) (o0 : Decoder) (_H : Qc4 p1 p2 o0) (i0 : Nat) (v0_1 : Bool) (v0_2 : List ContainerStatus) (_ho0_0 : List.length v0_2 ≤ i0) (hc0 : (decide ((i0 : Int) < ((List.length (s_Kj p1 p2 4 o0).1.list) : Int))) = false) : Qfy p1 p2 o0 (Qgj p1 p2 o0 i0 v0_1 v0_2) (v0_1, v0_2) := by
 exact ⟨(envF (Qn3 p1 p2 o0 i0 v0_1 v0_2)), (zoF (Qk0 p1 p2 o0 i0 v0_1 v0_2)), Qe (Q127 p1 p2 o0 i0 v0_1 v0_2) (x := ((.exit 0), Qo5 p1 p2 o0 v0_1 v0_2 (envF (Qn3 p1 p2 o0 i0 v0_1 v0_2)) (zoF (Qk0 p1 p2 o0 i0 v0_1 v0_2)))) [hB 0 hc0] [] (by kernel_rfl)⟩
theorem Q13m (p1 : Val) (p2 : BA) (o0 : Decoder) (H : Qc4 p1 p2 o0) (x0 : Val) (i0 : Nat) (v0_1 : Bool) (v0_2 : List ContainerStatus) (hx0 : (s_Kj p1 p2 4 o0).1.list[i0]? = some x0) (hi0 : i0 < List.length (s_Kj p1 p2 4 o0).1.list) (ho0_0 : List.length v0_2 ≤ i0) (hc0 : (decide ((i0 : Int) < ((List.length (s_Kj p1 p2 4 o0).1.list) : Int))) = true) {r : Rs} (hr : Q6 G (Qgj p1 p2 o0 (i0 + 1) (s_Kh x0 (Decoder.mk v0_1)).2.failed (v0_2 ++ [(s_Kh x0 (Decoder.mk v0_1)).1])) r) : Q6 G (Qgj p1 p2 o0 i0 v0_1 v0_2) r := by
 have hB0 := H.1
 exact Ql (Q127 p1 p2 o0 i0 v0_1 v0_2) (y := (Qvr p1 p2 o0 (i0 + 1) (s_Kh x0 (Decoder.mk v0_1)).2.failed (v0_2 ++ [(s_Kh x0 (Decoder.mk v0_1)).1]), Qjk p1 p2 o0 (i0 + 1) (s_Kh x0 (Decoder.mk v0_1)).2.failed (v0_2 ++ [(s_Kh x0 (Decoder.mk v0_1)).1]))) [hB 0 hc0, hP 0 (Q1u 5 (Val.rows (s_Kj p1 p2 4 o0).1.list) i0 _ (Val.Qb hx0) rfl), hV 8 [(642, ContainerStatus.rows (v0_2 ++ [(s_Kh x0 (Decoder.mk v0_1)).1]))] (Q55 1 578 642 7 56 0 0 true (ContainerStatus.rows v0_2) (ContainerStatus.rows (v0_2 ++ [(s_Kh x0 (Decoder.mk v0_1)).1])) (ContainerStatus.cells (s_Kh x0 (Decoder.mk v0_1)).1) (List.length v0_2) (List.length (v0_2 ++ [(s_Kh x0 (Decoder.mk v0_1)).1])) rfl (ContainerStatus.Q5 v0_2).symm (ContainerStatus.Q5 (v0_2 ++ [(s_Kh x0 (Decoder.mk v0_1)).1])).symm (ContainerStatus.Q12 v0_2 (s_Kh x0 (Decoder.mk v0_1)).1) (ContainerStatus.Qf v0_2) rfl (by omega)), hS 0 true (ContainerStatus.Q9 (v0_2 ++ [(s_Kh x0 (Decoder.mk v0_1)).1]) 7 rfl), hP 1 (Q27 i0 (by omega))] [aN (t_Kh x0 (Decoder.mk v0_1) (H.2.1 x0 (Q2c hx0)))] (by kernel_rfl) hr
theorem Qy5 (p1 : Val) (p2 : BA) (o0 : Decoder) (H : Qc4 p1 p2 o0) : ∀ (r0 : List Val) (i0 : Nat) (v0_1 : Bool) (v0_2 : List ContainerStatus), List.drop i0 (s_Kj p1 p2 4 o0).1.list = r0 → List.length v0_2 ≤ i0 → Qfy p1 p2 o0 (Qgj p1 p2 o0 i0 v0_1 v0_2) (Q4p p1 p2 o0 r0 i0 v0_1 v0_2)
 | [], i0, v0_1, v0_2, hd, ho0_0 => by
  have hc0 : (decide ((i0 : Int) < ((List.length (s_Kj p1 p2 4 o0).1.list) : Int))) = false := by have := Q1f hd; simp; omega
  rw [Q4p]
  exact Q154 p1 p2 o0 H i0 v0_1 v0_2 ho0_0 hc0
 | x0 :: r0, i0, v0_1, v0_2, hd, ho0_0 => by
  obtain ⟨hx0, hi0, hd'⟩ := Q11 hd
  have hc0 : (decide ((i0 : Int) < ((List.length (s_Kj p1 p2 4 o0).1.list) : Int))) = true := by simp; omega
  rw [Q4p]
  exact Qsc p1 p2 o0 (fun r hr => Q13m p1 p2 o0 H x0 i0 v0_1 v0_2 hx0 hi0 ho0_0 hc0 hr) _ (Qy5 p1 p2 o0 H r0 (i0 + 1) (s_Kh x0 (Decoder.mk v0_1)).2.failed (v0_2 ++ [(s_Kh x0 (Decoder.mk v0_1)).1]) hd' (by first | omega | (simp; omega)))
def Qd7 (p1 : Val) (p2 : BA) (o0 : Decoder) : List ContainerStatus × Decoder := ((dE ContainerStatus.dec p1 p2).1, ft o0 (isM p1 && (dE ContainerStatus.dec p1 p2).2))
theorem Q101 (p1 : Val) (p2 : BA) (o0 : Decoder) : ∀ (l : List Val) (i : Nat) (b : Bool) (a : List ContainerStatus), Q4p p1 p2 o0 l i b a = (b || !(l.all fun x => (ContainerStatus.dec x).2), a ++ l.map (fun x => (ContainerStatus.dec x).1))
  | [], _, b, a => by rw [Q4p]; simp
  | x :: l, i, b, a => by
    rw [Q4p]
    refine (Q101 p1 p2 o0 l (i + 1) (b || !(ContainerStatus.dec x).2) (a ++ [(ContainerStatus.dec x).1])).trans ?_
    simp only [List.append_assoc, List.singleton_append, List.map_cons, List.all_cons, Bool.not_and, Bool.or_assoc]
theorem Q1ox (p1 : Val) (p2 : BA) (o0 : Decoder) : Qd7 p1 p2 o0 = (((Q4p p1 p2 o0 (s_Kj p1 p2 4 o0).1.list 0 (s_Kj p1 p2 4 o0).2.failed []).2, (Decoder.mk (Q4p p1 p2 o0 (s_Kj p1 p2 4 o0).1.list 0 (s_Kj p1 p2 4 o0).2.failed []).1))) := by
  rw [Q101]
  unfold s_Kj Qd7
  simp only [getL, Q59]
  refine Prod.ext rfl ?_
  rw [Q7z o0.failed (isM p1) _ _ _ (Qt1 (prt p1 p2)), Q56]
  rfl
def Q1pz (p1 : Val) (p2 : BA) (o0 : Decoder) : En := .call 97 [.bx 0 0, .agg (Val.cells p1), .str p2, .fn 98 [.bx 0 0] []] [⟨1, 0, false, (Decoder.cells o0)⟩]
def Q1mk (_p1 : Val) (_p2 : BA) (_o0 : Decoder) (q0 : List ContainerStatus) (q1 : Decoder) : Rs := .ret (.sl (ContainerStatus.rows q0)) [⟨1, 0, false, (Decoder.cells q1)⟩]
def Q1jx (p1 : Val) (p2 : BA) (o0 : Decoder) : Rs := Q1mk p1 p2 o0 (Qd7 p1 p2 o0).1 (Qd7 p1 p2 o0).2
def Q1ee (p1 : Val) : Prop := Val.Sm 1000000000 p1
theorem Qzn (p1 : Val) (p2 : BA) (o0 : Decoder) (H : Q1ee p1) : (H_Kj p1) ∧ (Qc4 p1 p2 o0) ∧ True := by
  have hl := Qtn (Q52 H p2)
  refine ⟨H, ?_, trivial⟩
  unfold Qc4 s_Kj
  simp only [getL]
  exact ⟨Nat.le_trans hl.1 (Nat.le_of_ble_eq_true rfl), hl.2, trivial⟩
theorem Q1on (p1 : Val) (p2 : BA) (o0 : Decoder) (H : Q1ee p1) : Q6 G (Q1pz p1 p2 o0) (Q1jx p1 p2 o0) := by
 unfold Q1jx
 rw [Q1ox]
 have hl0 := Qy5 p1 p2 o0 ((Qzn p1 p2 o0 H).2.1) (s_Kj p1 p2 4 o0).1.list 0 (s_Kj p1 p2 4 o0).2.failed [] (by simp) (by simp)
 obtain ⟨z0, zo0, hl0⟩ := hl0
 exact Q7 (fn := Ir.K1c) rfl (h := [⟨1, 0, false, (Decoder.cells o0)⟩]) (vw := []) VOK.nil [hP 8 (Qd (Val.rows (s_Kj p1 p2 4 o0).1.list) (List.length (s_Kj p1 p2 4 o0).1.list) (Val.Q5 (s_Kj p1 p2 4 o0).1.list)), hS 0 true (ContainerStatus.Q9 (Q4p p1 p2 o0 (s_Kj p1 p2 4 o0).1.list 0 (s_Kj p1 p2 4 o0).2.failed []).2 7 rfl), hQ (ContainerStatus.Q5 (Q4p p1 p2 o0 (s_Kj p1 p2 4 o0).1.list 0 (s_Kj p1 p2 4 o0).2.failed []).2).symm] [aN (t_Kj p1 p2 4 o0 (Qzn p1 p2 o0 H).1), aV [(1, ContainerStatus.rows (Q4p p1 p2 o0 (s_Kj p1 p2 4 o0).1.list 0 (s_Kj p1 p2 4 o0).2.failed []).2)] hl0] (by kernel_rfl)
def s_Ku (p1 : Val) (o0 : Decoder) : PodStatus × Decoder := ((PodStatus.dec p1).1, ft o0 (PodStatus.dec p1).2)
abbrev M2 (o0 : Decoder) (p1 : Val) := (s_Kn p1 Q2i (s_Kn p1 Qt (s_Kn p1 Q1l (s_Ki p1 Qn (s_Kn p1 Q2n (s_Kw p1 o0).2).2).2).2).2)
theorem e_Ku (p1 : Val) (o0 : Decoder) : s_Ku p1 o0 = (((PodStatus.mk (s_Kn p1 Q2n (s_Kw p1 o0).2).1 (s_Ki p1 Qn (s_Kn p1 Q2n (s_Kw p1 o0).2).2).1 (s_Kn p1 Q1l (s_Ki p1 Qn (s_Kn p1 Q2n (s_Kw p1 o0).2).2).2).1 (s_Kn p1 Qt (s_Kn p1 Q1l (s_Ki p1 Qn (s_Kn p1 Q2n (s_Kw p1 o0).2).2).2).2).1 (M2 o0 p1).1 (Qd7 p1 Qh (M2 o0 p1).2).1 (s_Kn p1 Q2a (Qd7 p1 Qh (M2 o0 p1).2).2).1 (s_Kv p1 Q21 (s_Kn p1 Q2a (Qd7 p1 Qh (M2 o0 p1).2).2).2).1 (s_Kv p1 Q2y (s_Kv p1 Q21 (s_Kn p1 Q2a (Qd7 p1 Qh (M2 o0 p1).2).2).2).2).1), (s_Kv p1 Q2y (s_Kv p1 Q21 (s_Kn p1 Q2a (Qd7 p1 Qh (M2 o0 p1).2).2).2).2).2)) := by
  simp only [s_Kw, s_Kn, s_Kv, s_Ki, Qd7, s_Ku, PodStatus.dec, Qjr, Bool.and_assoc, Bool.and_left_comm, Bool.and_comm, Bool.and_self_left]
def c_Ku (p1 : Val) (o0 : Decoder) : En := .call 33 [.bx 0 0, .agg (Val.cells p1)] [⟨1, 0, false, (Decoder.cells o0)⟩]
def r_Ku (_p1 : Val) (_o0 : Decoder) (q0 : PodStatus) (q1 : Decoder) : Rs := .ret (.agg (PodStatus.cells q0)) [⟨1, 0, false, (Decoder.cells q1)⟩]
def a_Ku (p1 : Val) (o0 : Decoder) : Rs := r_Ku p1 o0 (s_Ku p1 o0).1 (s_Ku p1 o0).2
def H_Ku (p1 : Val) : Prop := Val.Sm 1000000000 p1
theorem Q80 (p1 : Val) (_o0 : Decoder) (H : H_Ku p1) : (H_Kn p1) ∧ (H_Ki p1) ∧ (Q1ee p1) ∧ (H_Kv p1) ∧ True := by
  repeat' with_reducible apply And.intro
  all_goals first | exact True.intro | exact H | exact Qix (Q52 H _)
theorem t_Ku (p1 : Val) (o0 : Decoder) (H : H_Ku p1) : Q6 G (c_Ku p1 o0) (a_Ku p1 o0) := by
 unfold a_Ku
 rw [e_Ku]
 exact Q7 (fn := Ir.Ku) rfl (h := [⟨1, 0, false, (Decoder.cells o0)⟩]) (vw := []) VOK.nil [] [aN (t_Kw p1 o0), aN (t_Kn p1 Q2n (s_Kw p1 o0).2 (Q80 p1 o0 H).1), aN (t_Ki p1 Qn (s_Kn p1 Q2n (s_Kw p1 o0).2).2 (Q80 p1 o0 H).2.1), aN (t_Kn p1 Q1l (s_Ki p1 Qn (s_Kn p1 Q2n (s_Kw p1 o0).2).2).2 (Q80 p1 o0 H).1), aN (t_Kn p1 Qt (s_Kn p1 Q1l (s_Ki p1 Qn (s_Kn p1 Q2n (s_Kw p1 o0).2).2).2).2 (Q80 p1 o0 H).1), aN (t_Kn p1 Q2i (s_Kn p1 Qt (s_Kn p1 Q1l (s_Ki p1 Qn (s_Kn p1 Q2n (s_Kw p1 o0).2).2).2).2).2 (Q80 p1 o0 H).1), aN (Q1on p1 Qh (M2 o0 p1).2 (Q80 p1 o0 H).2.2.1), aN (t_Kn p1 Q2a (Qd7 p1 Qh (M2 o0 p1).2).2 (Q80 p1 o0 H).1), aN (t_Kv p1 Q21 (s_Kn p1 Q2a (Qd7 p1 Qh (M2 o0 p1).2).2).2 (Q80 p1 o0 H).2.2.2.1), aN (t_Kv p1 Q2y (s_Kv p1 Q21 (s_Kn p1 Q2a (Qd7 p1 Qh (M2 o0 p1).2).2).2).2 (Q80 p1 o0 H).2.2.2.1)] (by kernel_rfl)
end Go.Proofs.YtiflaadeikaghaaGreat
end

section
/- What the reference's encoders compute (printed by a program). -/
namespace Go.Proofs.YtiflaadeikaghaaGreat
open Go.Pv
def Qv (p0 : BA) : Val :=
 (Val.mk 3 0 p0 [] [])
def Q1kp (p0 : BA) : En := .call 125 [.str p0] []
def Q1j6 (p0 : BA) : Rs := .ret (.agg (Val.cells (Qv p0))) []
theorem Qeb (p0 : BA) : Q6 G (Q1kp p0) (Q1j6 p0) := by
 unfold Q1j6 Qv
 exact Q7 (fn := Ir.K3c) rfl VOK.nil [] [] (by kernel_rfl)
def Q0 (p0 : BA) (p1 : Val) : Fld :=
 (Fld.mk p0 p1)
def Q1pe (p0 : BA) (p1 : Val) : En := .call 71 [.str p0, .agg (Val.cells p1)] []
def Q1gx (p0 : BA) (p1 : Val) : Rs := .ret (.agg (Fld.cells (Q0 p0 p1))) []
theorem Q2o (p0 : BA) (p1 : Val) : Q6 G (Q1pe p0 p1) (Q1gx p0 p1) := by
 unfold Q1gx Q0
 exact Q7 (fn := Ir.K2w) rfl VOK.nil [] [] (by kernel_rfl)
def Q1k (p0 : List Fld) : Val :=
 (Val.mk 5 0 eB [] p0)
def Qe4 (p0 : List Fld) : En := .call 70 [.sl (Fld.rows p0)] []
def Q1hd (p0 : List Fld) : Rs := .ret (.agg (Val.cells (Q1k p0))) []
theorem Qic (p0 : List Fld) : Q6 G (Qe4 p0) (Q1hd p0) := by
 unfold Q1hd Q1k
 exact Q7 (fn := Ir.K3b) rfl VOK.nil [] [] (by kernel_rfl)
def Ql9 (p0 : List Val) : Val :=
 (Val.mk 4 0 eB p0 [])
def Q1qf (p0 : List Val) : En := .call 138 [.sl (Val.rows p0)] []
def Q1h3 (p0 : List Val) : Rs := .ret (.agg (Val.cells (Ql9 p0))) []
theorem Qrx (p0 : List Val) : Q6 G (Q1qf p0) (Q1h3 p0) := by
 unfold Q1h3 Ql9
 exact Q7 (fn := Ir.K39) rfl VOK.nil [] [] (by kernel_rfl)
def Qg (p0 : Int) : Val :=
 (Val.mk 2 p0 eB [] [])
def Q1nj (p0 : Int) : En := .call 74 [.int .i64 p0] []
def Q1hu (p0 : Int) : Rs := .ret (.agg (Val.cells (Qg p0))) []
theorem Q5r (p0 : Int) : Q6 G (Q1nj p0) (Q1hu p0) := by
 unfold Q1hu Qg
 exact Q7 (fn := Ir.K3a) rfl VOK.nil [] [] (by kernel_rfl)
def Q3z (p0 : Resources) : Val :=
 (Q1k ([(Q0 Q47 (Qg p0.cPU)), (Q0 Q3q (Qg p0.disk)), (Q0 Q2q (Qg p0.memory))]))
def Q1ps (p0 : Resources) : En := .call 72 [.agg (Resources.cells p0)] []
def Q1ji (p0 : Resources) : Rs := .ret (.agg (Val.cells (Q3z p0))) []
theorem Q1k5 (p0 : Resources) : Q6 G (Q1ps p0) (Q1ji p0) := by
 unfold Q1ji Q3z
 exact Q7 (fn := Ir.K33) rfl VOK.nil [] [aN (Q5r p0.cPU), aN (Q2o Q47 (Qg p0.cPU)), aN (Q5r p0.disk), aN (Q2o Q3q (Qg p0.disk)), aN (Q5r p0.memory), aN (Q2o Q2q (Qg p0.memory)), aN (Q6j (e' := .call 70 [.sl [(Fld.cells (Q0 Q47 (Qg p0.cPU))), (Fld.cells (Q0 Q3q (Qg p0.disk))), (Fld.cells (Q0 Q2q (Qg p0.memory)))]] []) (Qic ([(Q0 Q47 (Qg p0.cPU)), (Q0 Q3q (Qg p0.disk)), (Q0 Q2q (Qg p0.memory))])) (by simp only [Qe4, Fld.Q2j, Fld.Q34]))] (by kernel_rfl)
def Q4g (p0 : List Probe) : List Probe → Nat → (List Val) → List Val
 | [], _i0, v0_1 =>
  v0_1
 | x0 :: r0, i0, v0_1 =>
  Q4g p0 r0 (i0 + 1) (v0_1 ++ [(Q1k ([(Q0 Q1z (Qg x0.delay)), (Q0 Q1m (Qg x0.failure)), (Q0 Q1s (Qg x0.period)), (Q0 Q1h (Qg x0.success))]))])
theorem Q105 (p0 : List Probe) : ∀ (l : List Probe) (i : Nat) (a : List Val), Q4g p0 l i a = a ++ l.map (fun x0 => (Q1k ([(Q0 Q1z (Qg x0.delay)), (Q0 Q1m (Qg x0.failure)), (Q0 Q1s (Qg x0.period)), (Q0 Q1h (Qg x0.success))])))
  | [], _, _ => by simp [Q4g]
  | x :: r, i, a => by rw [Q4g, Q105 p0 r]; simp
def Qv9 (p0 : List Probe) (i0 : Nat) (v0_1 : List Val) : List PV :=
  [.sl (Probe.rows p0), .un, .bx 0 0, .ms 1 5 0 (List.length v0_1), .int .i64 (i0 : Int)] ++ nuns 41
def Qke (_p0 : List Probe) (_i0 : Nat) (v0_1 : List Val) : List Ob :=
  [⟨5, 0, true, [.int .i64 0, .int .i64 0, .str eB, .ms 2 5 0 0, .ms 3 6 0 0]⟩, ⟨5, 0, true, (Val.rows v0_1).flatten⟩, ⟨5, 0, true, []⟩, ⟨6, 0, true, []⟩]
def Qfg (p0 : List Probe) (i0 : Nat) (v0_1 : List Val) : En := .loop 0 Ir.Qkg Ir.Q1de (Qv9 p0 i0 v0_1) (Qke p0 i0 v0_1)
def Qnv (_p0 : List Probe) (q0 : List Val) (z : Nat → PV) (_zo : Nat → List PV) : St :=
  ⟨[z 0, z 1, .bx 0 0, .ms 1 5 0 (List.length q0)] ++ zr z 4 42, [(0, ⟨5, 0, true, [.int .i64 0, .int .i64 0, .str eB, .ms 2 5 0 0, .ms 3 6 0 0]⟩), (1, ⟨5, 0, true, (Val.rows q0).flatten⟩), (2, ⟨5, 0, true, []⟩), (3, ⟨6, 0, true, []⟩)], 260⟩
theorem Q11v (p0 : List Probe) (i0 : Nat) (v0_1 : List Val) : VOK (Go.Pv.look (number 0 (Qke p0 i0 v0_1))) [(1, Val.rows v0_1)] := (VOK.cons (show Seen _ _ from Q3h (ob := ⟨5, 0, true, (Val.rows v0_1).flatten⟩) (Val.Q9 v0_1 5 rfl)) VOK.nil)
def Qg7 (p0 : List Probe) (e : En) (q : List Val) : Prop := ∃ z zo, Q6 G e (.st (.exit 0) (Qnv p0 q z zo))
theorem Qrv (p0 : List Probe) {e e' : En} (h : ∀ r, Q6 G e r → Q6 G e' r) : ∀ q, Qg7 p0 e q → Qg7 p0 e' q
  | _, ⟨z, zo, hz⟩ => ⟨z, zo, h _ hz⟩
def Qf7 (p0 : List Probe) : Prop := (List.length p0 ≤ 137438953472) ∧ True
def Qmz (p0 : List Probe) (i0 : Nat) (_v0_1 : List Val) : List PV :=
  [.sl (Probe.rows p0), .un, .un, .un, .int .i64 (i0 : Int), .int .i64 (i0 : Int), .sl (Probe.rows p0), .int .i64 ((List.length p0) : Int), .bool false]
def Qiy (_p0 : List Probe) (_i0 : Nat) (_v0_1 : List Val) : List (Nat × List PV) :=
  []
theorem Q16y (p0 : List Probe) (_H : Qf7 p0) (i0 : Nat) (v0_1 : List Val) (_ho0_0 : List.length v0_1 ≤ i0) (hc0 : (decide ((i0 : Int) < ((List.length p0) : Int))) = false) : Qg7 p0 (Qfg p0 i0 v0_1) v0_1 := by
 exact ⟨(envF (Qmz p0 i0 v0_1)), (zoF (Qiy p0 i0 v0_1)), Qe (Q11v p0 i0 v0_1) (x := ((.exit 0), Qnv p0 v0_1 (envF (Qmz p0 i0 v0_1)) (zoF (Qiy p0 i0 v0_1)))) [hP 2 (Qd (Probe.rows p0) (List.length p0) (Probe.Q5 p0)), hB 0 hc0] [] (by kernel_rfl)⟩
theorem Q14f (p0 : List Probe) (H : Qf7 p0) (x0 : Probe) (i0 : Nat) (v0_1 : List Val) (hx0 : p0[i0]? = some x0) (hi0 : i0 < List.length p0) (ho0_0 : List.length v0_1 ≤ i0) (hc0 : (decide ((i0 : Int) < ((List.length p0) : Int))) = true) {r : Rs} (hr : Q6 G (Qfg p0 (i0 + 1) (v0_1 ++ [(Q1k ([(Q0 Q1z (Qg x0.delay)), (Q0 Q1m (Qg x0.failure)), (Q0 Q1s (Qg x0.period)), (Q0 Q1h (Qg x0.success))]))])) r) : Q6 G (Qfg p0 i0 v0_1) r := by
 have hB0 := H.1
 exact Ql (Q11v p0 i0 v0_1) (y := (Qv9 p0 (i0 + 1) (v0_1 ++ [(Q1k ([(Q0 Q1z (Qg x0.delay)), (Q0 Q1m (Qg x0.failure)), (Q0 Q1s (Qg x0.period)), (Q0 Q1h (Qg x0.success))]))]), Qke p0 (i0 + 1) (v0_1 ++ [(Q1k ([(Q0 Q1z (Qg x0.delay)), (Q0 Q1m (Qg x0.failure)), (Q0 Q1s (Qg x0.period)), (Q0 Q1h (Qg x0.success))]))]))) [hP 2 (Qd (Probe.rows p0) (List.length p0) (Probe.Q5 p0)), hB 0 hc0, hP 3 (Q1u 4 (Probe.rows p0) i0 _ (Probe.Qb hx0) rfl), hP 6 (Q1u 4 (Probe.rows p0) i0 _ (Probe.Qb hx0) rfl), hP 6 (Q1u 4 (Probe.rows p0) i0 _ (Probe.Qb hx0) rfl), hP 6 (Q1u 4 (Probe.rows p0) i0 _ (Probe.Qb hx0) rfl), hV 7 [(2308, Val.rows (v0_1 ++ [(Q1k ([(Q0 Q1z (Qg x0.delay)), (Q0 Q1m (Qg x0.failure)), (Q0 Q1s (Qg x0.period)), (Q0 Q1h (Qg x0.success))]))]))] (Q55 1 2244 2308 5 80 0 0 true (Val.rows v0_1) (Val.rows (v0_1 ++ [(Q1k ([(Q0 Q1z (Qg x0.delay)), (Q0 Q1m (Qg x0.failure)), (Q0 Q1s (Qg x0.period)), (Q0 Q1h (Qg x0.success))]))])) (Val.cells (Q1k ([(Q0 Q1z (Qg x0.delay)), (Q0 Q1m (Qg x0.failure)), (Q0 Q1s (Qg x0.period)), (Q0 Q1h (Qg x0.success))]))) (List.length v0_1) (List.length (v0_1 ++ [(Q1k ([(Q0 Q1z (Qg x0.delay)), (Q0 Q1m (Qg x0.failure)), (Q0 Q1s (Qg x0.period)), (Q0 Q1h (Qg x0.success))]))])) rfl (Val.Q5 v0_1).symm (Val.Q5 (v0_1 ++ [(Q1k ([(Q0 Q1z (Qg x0.delay)), (Q0 Q1m (Qg x0.failure)), (Q0 Q1s (Qg x0.period)), (Q0 Q1h (Qg x0.success))]))])).symm (Val.Q12 v0_1 (Q1k ([(Q0 Q1z (Qg x0.delay)), (Q0 Q1m (Qg x0.failure)), (Q0 Q1s (Qg x0.period)), (Q0 Q1h (Qg x0.success))]))) (Val.Qf v0_1) rfl (by omega)), hS 0 true (Val.Q9 (v0_1 ++ [(Q1k ([(Q0 Q1z (Qg x0.delay)), (Q0 Q1m (Qg x0.failure)), (Q0 Q1s (Qg x0.period)), (Q0 Q1h (Qg x0.success))]))]) 5 rfl), hP 2 (Q27 i0 (by omega))] [aN (Q5r x0.delay), aN (Q2o Q1z (Qg x0.delay)), aN (Q5r x0.failure), aN (Q2o Q1m (Qg x0.failure)), aN (Q5r x0.period), aN (Q2o Q1s (Qg x0.period)), aN (Q5r x0.success), aN (Q2o Q1h (Qg x0.success)), aN (Q6j (e' := .call 70 [.sl [(Fld.cells (Q0 Q1z (Qg x0.delay))), (Fld.cells (Q0 Q1m (Qg x0.failure))), (Fld.cells (Q0 Q1s (Qg x0.period))), (Fld.cells (Q0 Q1h (Qg x0.success)))]] []) (Qic ([(Q0 Q1z (Qg x0.delay)), (Q0 Q1m (Qg x0.failure)), (Q0 Q1s (Qg x0.period)), (Q0 Q1h (Qg x0.success))])) (by simp only [Qe4, Fld.Q2j, Fld.Q34]))] (by kernel_rfl) hr
theorem Qw7 (p0 : List Probe) (H : Qf7 p0) : ∀ (r0 : List Probe) (i0 : Nat) (v0_1 : List Val), List.drop i0 p0 = r0 → List.length v0_1 ≤ i0 → Qg7 p0 (Qfg p0 i0 v0_1) (Q4g p0 r0 i0 v0_1)
 | [], i0, v0_1, hd, ho0_0 => by
  have hc0 : (decide ((i0 : Int) < ((List.length p0) : Int))) = false := by have := Q1f hd; simp; omega
  rw [Q4g]
  exact Q16y p0 H i0 v0_1 ho0_0 hc0
 | x0 :: r0, i0, v0_1, hd, ho0_0 => by
  obtain ⟨hx0, hi0, hd'⟩ := Q11 hd
  have hc0 : (decide ((i0 : Int) < ((List.length p0) : Int))) = true := by simp; omega
  rw [Q4g]
  exact Qrv p0 (fun r hr => Q14f p0 H x0 i0 v0_1 hx0 hi0 ho0_0 hc0 hr) _ (Qw7 p0 H r0 (i0 + 1) (v0_1 ++ [(Q1k ([(Q0 Q1z (Qg x0.delay)), (Q0 Q1m (Qg x0.failure)), (Q0 Q1s (Qg x0.period)), (Q0 Q1h (Qg x0.success))]))]) hd' (by first | omega | (simp; omega)))
def Q30 (p0 : List Probe) : Val := vL (p0.map Probe.enc)
theorem Q1lm (p0 : List Probe) : Q30 p0 = ((Ql9 (Q4g p0 p0 0 []))) := by
  rw [Q105]
  rfl
def Q1ky (p0 : List Probe) : En := .call 149 [.sl (Probe.rows p0)] []
def Q1h6 (p0 : List Probe) : Rs := .ret (.agg (Val.cells (Q30 p0))) []
def Q19z (p0 : List Probe) : Prop := LSm Probe.sm p0
theorem Q1bq (p0 : List Probe) (H : Q19z p0) : (Qf7 p0) ∧ True := by
  exact ⟨⟨Nat.le_trans H.1 (Nat.le_of_ble_eq_true rfl), trivial⟩, trivial⟩
theorem Q1fg (p0 : List Probe) (H : Q19z p0) : Q6 G (Q1ky p0) (Q1h6 p0) := by
 unfold Q1h6
 rw [Q1lm]
 have hl0 := Qw7 p0 ((Q1bq p0 H).1) p0 0 [] (by simp) (by simp)
 obtain ⟨z0, zo0, hl0⟩ := hl0
 exact Q7 (fn := Ir.K32) rfl VOK.nil [hS 0 true (Val.Q9 (Q4g p0 p0 0 []) 5 rfl), hQ (Val.Q5 (Q4g p0 p0 0 [])).symm] [aV [(1, Val.rows (Q4g p0 p0 0 []))] hl0, aN (Qrx (Q4g p0 p0 0 []))] (by kernel_rfl)
def Q4o (p0 : List Container) : List Container → Nat → (List Val) → List Val
 | [], _i0, v0_1 =>
  v0_1
 | x0 :: r0, i0, v0_1 =>
  Q4o p0 r0 (i0 + 1) (v0_1 ++ [(Q1k ([(Q0 Q1w (Qv x0.image)), (Q0 Q2d (Q3z x0.limit)), (Q0 Q2h (Q30 x0.live)), (Q0 Qr (Qv x0.name)), (Q0 Qn (Q30 x0.ready)), (Q0 Q13 (Q3z x0.request)), (Q0 Q1o (Q30 x0.startup))]))])
theorem Q115 (p0 : List Container) : ∀ (l : List Container) (i : Nat) (a : List Val), Q4o p0 l i a = a ++ l.map (fun x0 => (Q1k ([(Q0 Q1w (Qv x0.image)), (Q0 Q2d (Q3z x0.limit)), (Q0 Q2h (Q30 x0.live)), (Q0 Qr (Qv x0.name)), (Q0 Qn (Q30 x0.ready)), (Q0 Q13 (Q3z x0.request)), (Q0 Q1o (Q30 x0.startup))])))
  | [], _, _ => by simp [Q4o]
  | x :: r, i, a => by rw [Q4o, Q115 p0 r]; simp
def Qv4 (p0 : List Container) (i0 : Nat) (v0_1 : List Val) : List PV :=
  [.sl (Container.rows p0), .un, .bx 0 0, .ms 1 5 0 (List.length v0_1), .int .i64 (i0 : Int)] ++ nuns 46
def Qkq (_p0 : List Container) (_i0 : Nat) (v0_1 : List Val) : List Ob :=
  [⟨5, 0, true, [.int .i64 0, .int .i64 0, .str eB, .ms 2 5 0 0, .ms 3 6 0 0]⟩, ⟨5, 0, true, (Val.rows v0_1).flatten⟩, ⟨5, 0, true, []⟩, ⟨6, 0, true, []⟩]
def Qgg (p0 : List Container) (i0 : Nat) (v0_1 : List Val) : En := .loop 0 Ir.Qla Ir.Q1df (Qv4 p0 i0 v0_1) (Qkq p0 i0 v0_1)
def Qr1 (_p0 : List Container) (q0 : List Val) (z : Nat → PV) (_zo : Nat → List PV) : St :=
  ⟨[z 0, z 1, .bx 0 0, .ms 1 5 0 (List.length q0)] ++ zr z 4 47, [(0, ⟨5, 0, true, [.int .i64 0, .int .i64 0, .str eB, .ms 2 5 0 0, .ms 3 6 0 0]⟩), (1, ⟨5, 0, true, (Val.rows q0).flatten⟩), (2, ⟨5, 0, true, []⟩), (3, ⟨6, 0, true, []⟩)], 260⟩
theorem Q116 (p0 : List Container) (i0 : Nat) (v0_1 : List Val) : VOK (Go.Pv.look (number 0 (Qkq p0 i0 v0_1))) [(1, Val.rows v0_1)] := (VOK.cons (show Seen _ _ from Q3h (ob := ⟨5, 0, true, (Val.rows v0_1).flatten⟩) (Val.Q9 v0_1 5 rfl)) VOK.nil)
def Qg6 (p0 : List Container) (e : En) (q : List Val) : Prop := ∃ z zo, Q6 G e (.st (.exit 0) (Qr1 p0 q z zo))
theorem Qt2 (p0 : List Container) {e e' : En} (h : ∀ r, Q6 G e r → Q6 G e' r) : ∀ q, Qg6 p0 e q → Qg6 p0 e' q
  | _, ⟨z, zo, hz⟩ => ⟨z, zo, h _ hz⟩
def Qfo (p0 : List Container) : Prop := (List.length p0 ≤ 137438953472) ∧ (∀ x0 ∈ p0, Q19z x0.live) ∧ (∀ x0 ∈ p0, Q19z x0.ready) ∧ (∀ x0 ∈ p0, Q19z x0.startup) ∧ True
def Qqr (p0 : List Container) (i0 : Nat) (_v0_1 : List Val) : List PV :=
  [.sl (Container.rows p0), .un, .un, .un, .int .i64 (i0 : Int), .un, .int .i64 (i0 : Int), .sl (Container.rows p0), .int .i64 ((List.length p0) : Int), .bool false]
def Qjp (_p0 : List Container) (_i0 : Nat) (_v0_1 : List Val) : List (Nat × List PV) :=
  []
theorem Q15t (p0 : List Container) (_H : Qfo p0) (i0 : Nat) (v0_1 : List Val) (_ho0_0 : List.length v0_1 ≤ i0) (hc0 : (decide ((i0 : Int) < ((List.length p0) : Int))) = false) : Qg6 p0 (Qgg p0 i0 v0_1) v0_1 := by
 exact ⟨(envF (Qqr p0 i0 v0_1)), (zoF (Qjp p0 i0 v0_1)), Qe (Q116 p0 i0 v0_1) (x := ((.exit 0), Qr1 p0 v0_1 (envF (Qqr p0 i0 v0_1)) (zoF (Qjp p0 i0 v0_1)))) [hP 2 (Qd (Container.rows p0) (List.length p0) (Container.Q5 p0)), hB 0 hc0] [] (by kernel_rfl)⟩
theorem Q159 (p0 : List Container) (H : Qfo p0) (x0 : Container) (i0 : Nat) (v0_1 : List Val) (hx0 : p0[i0]? = some x0) (hi0 : i0 < List.length p0) (ho0_0 : List.length v0_1 ≤ i0) (hc0 : (decide ((i0 : Int) < ((List.length p0) : Int))) = true) {r : Rs} (hr : Q6 G (Qgg p0 (i0 + 1) (v0_1 ++ [(Q1k ([(Q0 Q1w (Qv x0.image)), (Q0 Q2d (Q3z x0.limit)), (Q0 Q2h (Q30 x0.live)), (Q0 Qr (Qv x0.name)), (Q0 Qn (Q30 x0.ready)), (Q0 Q13 (Q3z x0.request)), (Q0 Q1o (Q30 x0.startup))]))])) r) : Q6 G (Qgg p0 i0 v0_1) r := by
 have hB0 := H.1
 exact Ql (Q116 p0 i0 v0_1) (y := (Qv4 p0 (i0 + 1) (v0_1 ++ [(Q1k ([(Q0 Q1w (Qv x0.image)), (Q0 Q2d (Q3z x0.limit)), (Q0 Q2h (Q30 x0.live)), (Q0 Qr (Qv x0.name)), (Q0 Qn (Q30 x0.ready)), (Q0 Q13 (Q3z x0.request)), (Q0 Q1o (Q30 x0.startup))]))]), Qkq p0 (i0 + 1) (v0_1 ++ [(Q1k ([(Q0 Q1w (Qv x0.image)), (Q0 Q2d (Q3z x0.limit)), (Q0 Q2h (Q30 x0.live)), (Q0 Qr (Qv x0.name)), (Q0 Qn (Q30 x0.ready)), (Q0 Q13 (Q3z x0.request)), (Q0 Q1o (Q30 x0.startup))]))]))) [hP 2 (Qd (Container.rows p0) (List.length p0) (Container.Q5 p0)), hB 0 hc0, hP 2 (Q1u 11 (Container.rows p0) i0 _ (Container.Qb hx0) rfl), hV 35 [(2692, Val.rows (v0_1 ++ [(Q1k ([(Q0 Q1w (Qv x0.image)), (Q0 Q2d (Q3z x0.limit)), (Q0 Q2h (Q30 x0.live)), (Q0 Qr (Qv x0.name)), (Q0 Qn (Q30 x0.ready)), (Q0 Q13 (Q3z x0.request)), (Q0 Q1o (Q30 x0.startup))]))]))] (Q55 1 2628 2692 5 80 0 0 true (Val.rows v0_1) (Val.rows (v0_1 ++ [(Q1k ([(Q0 Q1w (Qv x0.image)), (Q0 Q2d (Q3z x0.limit)), (Q0 Q2h (Q30 x0.live)), (Q0 Qr (Qv x0.name)), (Q0 Qn (Q30 x0.ready)), (Q0 Q13 (Q3z x0.request)), (Q0 Q1o (Q30 x0.startup))]))])) (Val.cells (Q1k ([(Q0 Q1w (Qv x0.image)), (Q0 Q2d (Q3z x0.limit)), (Q0 Q2h (Q30 x0.live)), (Q0 Qr (Qv x0.name)), (Q0 Qn (Q30 x0.ready)), (Q0 Q13 (Q3z x0.request)), (Q0 Q1o (Q30 x0.startup))]))) (List.length v0_1) (List.length (v0_1 ++ [(Q1k ([(Q0 Q1w (Qv x0.image)), (Q0 Q2d (Q3z x0.limit)), (Q0 Q2h (Q30 x0.live)), (Q0 Qr (Qv x0.name)), (Q0 Qn (Q30 x0.ready)), (Q0 Q13 (Q3z x0.request)), (Q0 Q1o (Q30 x0.startup))]))])) rfl (Val.Q5 v0_1).symm (Val.Q5 (v0_1 ++ [(Q1k ([(Q0 Q1w (Qv x0.image)), (Q0 Q2d (Q3z x0.limit)), (Q0 Q2h (Q30 x0.live)), (Q0 Qr (Qv x0.name)), (Q0 Qn (Q30 x0.ready)), (Q0 Q13 (Q3z x0.request)), (Q0 Q1o (Q30 x0.startup))]))])).symm (Val.Q12 v0_1 (Q1k ([(Q0 Q1w (Qv x0.image)), (Q0 Q2d (Q3z x0.limit)), (Q0 Q2h (Q30 x0.live)), (Q0 Qr (Qv x0.name)), (Q0 Qn (Q30 x0.ready)), (Q0 Q13 (Q3z x0.request)), (Q0 Q1o (Q30 x0.startup))]))) (Val.Qf v0_1) rfl (by omega)), hS 0 true (Val.Q9 (v0_1 ++ [(Q1k ([(Q0 Q1w (Qv x0.image)), (Q0 Q2d (Q3z x0.limit)), (Q0 Q2h (Q30 x0.live)), (Q0 Qr (Qv x0.name)), (Q0 Qn (Q30 x0.ready)), (Q0 Q13 (Q3z x0.request)), (Q0 Q1o (Q30 x0.startup))]))]) 5 rfl), hP 2 (Q27 i0 (by omega))] [aN (Qeb x0.image), aN (Q2o Q1w (Qv x0.image)), aN (Q1k5 x0.limit), aN (Q2o Q2d (Q3z x0.limit)), aN (Q1fg x0.live (H.2.1 x0 (Q2c hx0))), aN (Q2o Q2h (Q30 x0.live)), aN (Qeb x0.name), aN (Q2o Qr (Qv x0.name)), aN (Q1fg x0.ready (H.2.2.1 x0 (Q2c hx0))), aN (Q2o Qn (Q30 x0.ready)), aN (Q1k5 x0.request), aN (Q2o Q13 (Q3z x0.request)), aN (Q1fg x0.startup (H.2.2.2.1 x0 (Q2c hx0))), aN (Q2o Q1o (Q30 x0.startup)), aN (Q6j (e' := .call 70 [.sl [(Fld.cells (Q0 Q1w (Qv x0.image))), (Fld.cells (Q0 Q2d (Q3z x0.limit))), (Fld.cells (Q0 Q2h (Q30 x0.live))), (Fld.cells (Q0 Qr (Qv x0.name))), (Fld.cells (Q0 Qn (Q30 x0.ready))), (Fld.cells (Q0 Q13 (Q3z x0.request))), (Fld.cells (Q0 Q1o (Q30 x0.startup)))]] []) (Qic ([(Q0 Q1w (Qv x0.image)), (Q0 Q2d (Q3z x0.limit)), (Q0 Q2h (Q30 x0.live)), (Q0 Qr (Qv x0.name)), (Q0 Qn (Q30 x0.ready)), (Q0 Q13 (Q3z x0.request)), (Q0 Q1o (Q30 x0.startup))])) (by simp only [Qe4, Fld.Q2j, Fld.Q34]))] (by kernel_rfl) hr
theorem Qvk (p0 : List Container) (H : Qfo p0) : ∀ (r0 : List Container) (i0 : Nat) (v0_1 : List Val), List.drop i0 p0 = r0 → List.length v0_1 ≤ i0 → Qg6 p0 (Qgg p0 i0 v0_1) (Q4o p0 r0 i0 v0_1)
 | [], i0, v0_1, hd, ho0_0 => by
  have hc0 : (decide ((i0 : Int) < ((List.length p0) : Int))) = false := by have := Q1f hd; simp; omega
  rw [Q4o]
  exact Q15t p0 H i0 v0_1 ho0_0 hc0
 | x0 :: r0, i0, v0_1, hd, ho0_0 => by
  obtain ⟨hx0, hi0, hd'⟩ := Q11 hd
  have hc0 : (decide ((i0 : Int) < ((List.length p0) : Int))) = true := by simp; omega
  rw [Q4o]
  exact Qt2 p0 (fun r hr => Q159 p0 H x0 i0 v0_1 hx0 hi0 ho0_0 hc0 hr) _ (Qvk p0 H r0 (i0 + 1) (v0_1 ++ [(Q1k ([(Q0 Q1w (Qv x0.image)), (Q0 Q2d (Q3z x0.limit)), (Q0 Q2h (Q30 x0.live)), (Q0 Qr (Qv x0.name)), (Q0 Qn (Q30 x0.ready)), (Q0 Q13 (Q3z x0.request)), (Q0 Q1o (Q30 x0.startup))]))]) hd' (by first | omega | (simp; omega)))
def Q15x (p0 : List Container) : Val := vL (p0.map Container.enc)
theorem Q1nv (p0 : List Container) : Q15x p0 = ((Ql9 (Q4o p0 p0 0 []))) := by
  rw [Q115]
  rfl
def Q1me (p0 : List Container) : En := .call 124 [.sl (Container.rows p0)] []
def Q1ij (p0 : List Container) : Rs := .ret (.agg (Val.cells (Q15x p0))) []
def Q1gb (p0 : List Container) : Prop := LSm Container.sm p0
theorem Q1c5 (p0 : List Container) (H : Q1gb p0) : (Qfo p0) ∧ True := by
  exact ⟨⟨Nat.le_trans H.1 (Nat.le_of_ble_eq_true rfl), fun x hx => (H.2 x hx).2.2.1, fun x hx => (H.2 x hx).2.2.2.1, fun x hx => (H.2 x hx).2.2.2.2.1, trivial⟩, trivial⟩
theorem Q1l7 (p0 : List Container) (H : Q1gb p0) : Q6 G (Q1me p0) (Q1ij p0) := by
 unfold Q1ij
 rw [Q1nv]
 have hl0 := Qvk p0 ((Q1c5 p0 H).1) p0 0 [] (by simp) (by simp)
 obtain ⟨z0, zo0, hl0⟩ := hl0
 exact Q7 (fn := Ir.K2x) rfl VOK.nil [hS 0 true (Val.Q9 (Q4o p0 p0 0 []) 5 rfl), hQ (Val.Q5 (Q4o p0 p0 0 [])).symm] [aV [(1, Val.rows (Q4o p0 p0 0 []))] hl0, aN (Qrx (Q4o p0 p0 0 []))] (by kernel_rfl)
def Q4n (p0 : List ByteArray) : List ByteArray → Nat → (List Val) → List Val
 | [], _i0, v0_1 =>
  v0_1
 | x0 :: r0, i0, v0_1 =>
  Q4n p0 r0 (i0 + 1) (v0_1 ++ [(Qv x0)])
theorem Qzz (p0 : List ByteArray) : ∀ (l : List ByteArray) (i : Nat) (a : List Val), Q4n p0 l i a = a ++ l.map (fun x0 => (Qv x0))
  | [], _, _ => by simp [Q4n]
  | x :: r, i, a => by rw [Q4n, Qzz p0 r]; simp
def Qx1 (p0 : List ByteArray) (i0 : Nat) (v0_1 : List Val) : List PV :=
  [.sl (Qc p0), .un, .bx 0 0, .ms 1 5 0 (List.length v0_1), .int .i64 (i0 : Int)] ++ nuns 16
def Qjt (_p0 : List ByteArray) (_i0 : Nat) (v0_1 : List Val) : List Ob :=
  [⟨5, 0, true, [.int .i64 0, .int .i64 0, .str eB, .ms 2 5 0 0, .ms 3 6 0 0]⟩, ⟨5, 0, true, (Val.rows v0_1).flatten⟩, ⟨5, 0, true, []⟩, ⟨6, 0, true, []⟩]
def Qft (p0 : List ByteArray) (i0 : Nat) (v0_1 : List Val) : En := .loop 0 Ir.Qhg Ir.Q1cv (Qx1 p0 i0 v0_1) (Qjt p0 i0 v0_1)
def Qnw (_p0 : List ByteArray) (q0 : List Val) (z : Nat → PV) (_zo : Nat → List PV) : St :=
  ⟨[z 0, z 1, .bx 0 0, .ms 1 5 0 (List.length q0)] ++ zr z 4 17, [(0, ⟨5, 0, true, [.int .i64 0, .int .i64 0, .str eB, .ms 2 5 0 0, .ms 3 6 0 0]⟩), (1, ⟨5, 0, true, (Val.rows q0).flatten⟩), (2, ⟨5, 0, true, []⟩), (3, ⟨6, 0, true, []⟩)], 260⟩
theorem Q10f (p0 : List ByteArray) (i0 : Nat) (v0_1 : List Val) : VOK (Go.Pv.look (number 0 (Qjt p0 i0 v0_1))) [(1, Val.rows v0_1)] := (VOK.cons (show Seen _ _ from Q3h (ob := ⟨5, 0, true, (Val.rows v0_1).flatten⟩) (Val.Q9 v0_1 5 rfl)) VOK.nil)
def Qfu (p0 : List ByteArray) (e : En) (q : List Val) : Prop := ∃ z zo, Q6 G e (.st (.exit 0) (Qnw p0 q z zo))
theorem Qrm (p0 : List ByteArray) {e e' : En} (h : ∀ r, Q6 G e r → Q6 G e' r) : ∀ q, Qfu p0 e q → Qfu p0 e' q
  | _, ⟨z, zo, hz⟩ => ⟨z, zo, h _ hz⟩
def Qf2 (p0 : List ByteArray) : Prop := (List.length p0 ≤ 137438953472) ∧ True
def Qok (p0 : List ByteArray) (i0 : Nat) (_v0_1 : List Val) : List PV :=
  [.sl (Qc p0), .un, .un, .un, .int .i64 (i0 : Int), .int .i64 (i0 : Int), .sl (Qc p0), .int .i64 ((List.length p0) : Int), .bool false]
def Qi1 (_p0 : List ByteArray) (_i0 : Nat) (_v0_1 : List Val) : List (Nat × List PV) :=
  []
theorem Q140 (p0 : List ByteArray) (_H : Qf2 p0) (i0 : Nat) (v0_1 : List Val) (_ho0_0 : List.length v0_1 ≤ i0) (hc0 : (decide ((i0 : Int) < ((List.length p0) : Int))) = false) : Qfu p0 (Qft p0 i0 v0_1) v0_1 := by
 exact ⟨(envF (Qok p0 i0 v0_1)), (zoF (Qi1 p0 i0 v0_1)), Qe (Q10f p0 i0 v0_1) (x := ((.exit 0), Qnw p0 v0_1 (envF (Qok p0 i0 v0_1)) (zoF (Qi1 p0 i0 v0_1)))) [hP 2 (Qd (Qc p0) (List.length p0) (Q17 p0)), hB 0 hc0] [] (by kernel_rfl)⟩
theorem Q17j (p0 : List ByteArray) (H : Qf2 p0) (x0 : BA) (i0 : Nat) (v0_1 : List Val) (hx0 : p0[i0]? = some x0) (hi0 : i0 < List.length p0) (ho0_0 : List.length v0_1 ≤ i0) (hc0 : (decide ((i0 : Int) < ((List.length p0) : Int))) = true) {r : Rs} (hr : Q6 G (Qft p0 (i0 + 1) (v0_1 ++ [(Qv x0)])) r) : Q6 G (Qft p0 i0 v0_1) r := by
 have hB0 := H.1
 exact Ql (Q10f p0 i0 v0_1) (y := (Qx1 p0 (i0 + 1) (v0_1 ++ [(Qv x0)]), Qjt p0 (i0 + 1) (v0_1 ++ [(Qv x0)]))) [hP 2 (Qd (Qc p0) (List.length p0) (Q17 p0)), hB 0 hc0, hP 3 (Q1u 1 (Qc p0) i0 _ (Q3k hx0) rfl), hV 3 [(708, Val.rows (v0_1 ++ [(Qv x0)]))] (Q55 1 644 708 5 80 0 0 true (Val.rows v0_1) (Val.rows (v0_1 ++ [(Qv x0)])) (Val.cells (Qv x0)) (List.length v0_1) (List.length (v0_1 ++ [(Qv x0)])) rfl (Val.Q5 v0_1).symm (Val.Q5 (v0_1 ++ [(Qv x0)])).symm (Val.Q12 v0_1 (Qv x0)) (Val.Qf v0_1) rfl (by omega)), hS 0 true (Val.Q9 (v0_1 ++ [(Qv x0)]) 5 rfl), hP 2 (Q27 i0 (by omega))] [aN (Qeb x0)] (by kernel_rfl) hr
theorem Qxs (p0 : List ByteArray) (H : Qf2 p0) : ∀ (r0 : List ByteArray) (i0 : Nat) (v0_1 : List Val), List.drop i0 p0 = r0 → List.length v0_1 ≤ i0 → Qfu p0 (Qft p0 i0 v0_1) (Q4n p0 r0 i0 v0_1)
 | [], i0, v0_1, hd, ho0_0 => by
  have hc0 : (decide ((i0 : Int) < ((List.length p0) : Int))) = false := by have := Q1f hd; simp; omega
  rw [Q4n]
  exact Q140 p0 H i0 v0_1 ho0_0 hc0
 | x0 :: r0, i0, v0_1, hd, ho0_0 => by
  obtain ⟨hx0, hi0, hd'⟩ := Q11 hd
  have hc0 : (decide ((i0 : Int) < ((List.length p0) : Int))) = true := by simp; omega
  rw [Q4n]
  exact Qrm p0 (fun r hr => Q17j p0 H x0 i0 v0_1 hx0 hi0 ho0_0 hc0 hr) _ (Qxs p0 H r0 (i0 + 1) (v0_1 ++ [(Qv x0)]) hd' (by first | omega | (simp; omega)))
def Q8d (p0 : List ByteArray) : Val := vL (p0.map vS)
theorem Q1ms (p0 : List ByteArray) : Q8d p0 = ((Ql9 (Q4n p0 p0 0 []))) := by
  rw [Qzz]
  rfl
def Q1m9 (p0 : List ByteArray) : En := .call 150 [.sl (Qc p0)] []
def Q1jw (p0 : List ByteArray) : Rs := .ret (.agg (Val.cells (Q8d p0))) []
def Q1fn (p0 : List ByteArray) : Prop := LSm (fun _ : ByteArray => True) p0
theorem Q1cg (p0 : List ByteArray) (H : Q1fn p0) : (Qf2 p0) ∧ True := by
  exact ⟨⟨Nat.le_trans H.1 (Nat.le_of_ble_eq_true rfl), trivial⟩, trivial⟩
theorem Q1pn (p0 : List ByteArray) (H : Q1fn p0) : Q6 G (Q1m9 p0) (Q1jw p0) := by
 unfold Q1jw
 rw [Q1ms]
 have hl0 := Qxs p0 ((Q1cg p0 H).1) p0 0 [] (by simp) (by simp)
 obtain ⟨z0, zo0, hl0⟩ := hl0
 exact Q7 (fn := Ir.K2e) rfl VOK.nil [hS 0 true (Val.Q9 (Q4n p0 p0 0 []) 5 rfl), hQ (Val.Q5 (Q4n p0 p0 0 [])).symm] [aV [(1, Val.rows (Q4n p0 p0 0 []))] hl0, aN (Qrx (Q4n p0 p0 0 []))] (by kernel_rfl)
def Q4f (p0 : List Requirement) : List Requirement → Nat → (List Val) → List Val
 | [], _i0, v0_1 =>
  v0_1
 | x0 :: r0, i0, v0_1 =>
  Q4f p0 r0 (i0 + 1) (v0_1 ++ [(Q1k ([(Q0 Q1b (Qv x0.key)), (Q0 Q4w (Qg x0.op)), (Q0 Q1y (Q8d x0.values))]))])
theorem Q10n (p0 : List Requirement) : ∀ (l : List Requirement) (i : Nat) (a : List Val), Q4f p0 l i a = a ++ l.map (fun x0 => (Q1k ([(Q0 Q1b (Qv x0.key)), (Q0 Q4w (Qg x0.op)), (Q0 Q1y (Q8d x0.values))])))
  | [], _, _ => by simp [Q4f]
  | x :: r, i, a => by rw [Q4f, Q10n p0 r]; simp
def Quq (p0 : List Requirement) (i0 : Nat) (v0_1 : List Val) : List PV :=
  [.sl (Requirement.rows p0), .un, .bx 0 0, .ms 1 5 0 (List.length v0_1), .int .i64 (i0 : Int)] ++ nuns 34
def Qm1 (_p0 : List Requirement) (_i0 : Nat) (v0_1 : List Val) : List Ob :=
  [⟨5, 0, true, [.int .i64 0, .int .i64 0, .str eB, .ms 2 5 0 0, .ms 3 6 0 0]⟩, ⟨5, 0, true, (Val.rows v0_1).flatten⟩, ⟨5, 0, true, []⟩, ⟨6, 0, true, []⟩]
def Qen (p0 : List Requirement) (i0 : Nat) (v0_1 : List Val) : En := .loop 0 Ir.Qh9 Ir.Q1d2 (Quq p0 i0 v0_1) (Qm1 p0 i0 v0_1)
def Qnz (_p0 : List Requirement) (q0 : List Val) (z : Nat → PV) (_zo : Nat → List PV) : St :=
  ⟨[z 0, z 1, .bx 0 0, .ms 1 5 0 (List.length q0)] ++ zr z 4 35, [(0, ⟨5, 0, true, [.int .i64 0, .int .i64 0, .str eB, .ms 2 5 0 0, .ms 3 6 0 0]⟩), (1, ⟨5, 0, true, (Val.rows q0).flatten⟩), (2, ⟨5, 0, true, []⟩), (3, ⟨6, 0, true, []⟩)], 260⟩
theorem Qzj (p0 : List Requirement) (i0 : Nat) (v0_1 : List Val) : VOK (Go.Pv.look (number 0 (Qm1 p0 i0 v0_1))) [(1, Val.rows v0_1)] := (VOK.cons (show Seen _ _ from Q3h (ob := ⟨5, 0, true, (Val.rows v0_1).flatten⟩) (Val.Q9 v0_1 5 rfl)) VOK.nil)
def Qet (p0 : List Requirement) (e : En) (q : List Val) : Prop := ∃ z zo, Q6 G e (.st (.exit 0) (Qnz p0 q z zo))
theorem Qtl (p0 : List Requirement) {e e' : En} (h : ∀ r, Q6 G e r → Q6 G e' r) : ∀ q, Qet p0 e q → Qet p0 e' q
  | _, ⟨z, zo, hz⟩ => ⟨z, zo, h _ hz⟩
def Qeh (p0 : List Requirement) : Prop := (List.length p0 ≤ 137438953472) ∧ (∀ x0 ∈ p0, Q1fn x0.values) ∧ True
def Qn8 (p0 : List Requirement) (i0 : Nat) (_v0_1 : List Val) : List PV :=
  [.sl (Requirement.rows p0), .un, .un, .un, .int .i64 (i0 : Int), .int .i64 (i0 : Int), .sl (Requirement.rows p0), .int .i64 ((List.length p0) : Int), .bool false]
def Qht (_p0 : List Requirement) (_i0 : Nat) (_v0_1 : List Val) : List (Nat × List PV) :=
  []
theorem Q16p (p0 : List Requirement) (_H : Qeh p0) (i0 : Nat) (v0_1 : List Val) (_ho0_0 : List.length v0_1 ≤ i0) (hc0 : (decide ((i0 : Int) < ((List.length p0) : Int))) = false) : Qet p0 (Qen p0 i0 v0_1) v0_1 := by
 exact ⟨(envF (Qn8 p0 i0 v0_1)), (zoF (Qht p0 i0 v0_1)), Qe (Qzj p0 i0 v0_1) (x := ((.exit 0), Qnz p0 v0_1 (envF (Qn8 p0 i0 v0_1)) (zoF (Qht p0 i0 v0_1)))) [hP 2 (Qd (Requirement.rows p0) (List.length p0) (Requirement.Q5 p0)), hB 0 hc0] [] (by kernel_rfl)⟩
theorem Q14m (p0 : List Requirement) (H : Qeh p0) (x0 : Requirement) (i0 : Nat) (v0_1 : List Val) (hx0 : p0[i0]? = some x0) (hi0 : i0 < List.length p0) (ho0_0 : List.length v0_1 ≤ i0) (hc0 : (decide ((i0 : Int) < ((List.length p0) : Int))) = true) {r : Rs} (hr : Q6 G (Qen p0 (i0 + 1) (v0_1 ++ [(Q1k ([(Q0 Q1b (Qv x0.key)), (Q0 Q4w (Qg x0.op)), (Q0 Q1y (Q8d x0.values))]))])) r) : Q6 G (Qen p0 i0 v0_1) r := by
 have hB0 := H.1
 exact Ql (Qzj p0 i0 v0_1) (y := (Quq p0 (i0 + 1) (v0_1 ++ [(Q1k ([(Q0 Q1b (Qv x0.key)), (Q0 Q4w (Qg x0.op)), (Q0 Q1y (Q8d x0.values))]))]), Qm1 p0 (i0 + 1) (v0_1 ++ [(Q1k ([(Q0 Q1b (Qv x0.key)), (Q0 Q4w (Qg x0.op)), (Q0 Q1y (Q8d x0.values))]))]))) [hP 2 (Qd (Requirement.rows p0) (List.length p0) (Requirement.Q5 p0)), hB 0 hc0, hP 3 (Q1u 3 (Requirement.rows p0) i0 _ (Requirement.Qb hx0) rfl), hP 6 (Q1u 3 (Requirement.rows p0) i0 _ (Requirement.Qb hx0) rfl), hP 6 (Q1u 3 (Requirement.rows p0) i0 _ (Requirement.Qb hx0) rfl), hV 7 [(1860, Val.rows (v0_1 ++ [(Q1k ([(Q0 Q1b (Qv x0.key)), (Q0 Q4w (Qg x0.op)), (Q0 Q1y (Q8d x0.values))]))]))] (Q55 1 1796 1860 5 80 0 0 true (Val.rows v0_1) (Val.rows (v0_1 ++ [(Q1k ([(Q0 Q1b (Qv x0.key)), (Q0 Q4w (Qg x0.op)), (Q0 Q1y (Q8d x0.values))]))])) (Val.cells (Q1k ([(Q0 Q1b (Qv x0.key)), (Q0 Q4w (Qg x0.op)), (Q0 Q1y (Q8d x0.values))]))) (List.length v0_1) (List.length (v0_1 ++ [(Q1k ([(Q0 Q1b (Qv x0.key)), (Q0 Q4w (Qg x0.op)), (Q0 Q1y (Q8d x0.values))]))])) rfl (Val.Q5 v0_1).symm (Val.Q5 (v0_1 ++ [(Q1k ([(Q0 Q1b (Qv x0.key)), (Q0 Q4w (Qg x0.op)), (Q0 Q1y (Q8d x0.values))]))])).symm (Val.Q12 v0_1 (Q1k ([(Q0 Q1b (Qv x0.key)), (Q0 Q4w (Qg x0.op)), (Q0 Q1y (Q8d x0.values))]))) (Val.Qf v0_1) rfl (by omega)), hS 0 true (Val.Q9 (v0_1 ++ [(Q1k ([(Q0 Q1b (Qv x0.key)), (Q0 Q4w (Qg x0.op)), (Q0 Q1y (Q8d x0.values))]))]) 5 rfl), hP 2 (Q27 i0 (by omega))] [aN (Qeb x0.key), aN (Q2o Q1b (Qv x0.key)), aN (Q5r x0.op), aN (Q2o Q4w (Qg x0.op)), aN (Q1pn x0.values (H.2.1 x0 (Q2c hx0))), aN (Q2o Q1y (Q8d x0.values)), aN (Q6j (e' := .call 70 [.sl [(Fld.cells (Q0 Q1b (Qv x0.key))), (Fld.cells (Q0 Q4w (Qg x0.op))), (Fld.cells (Q0 Q1y (Q8d x0.values)))]] []) (Qic ([(Q0 Q1b (Qv x0.key)), (Q0 Q4w (Qg x0.op)), (Q0 Q1y (Q8d x0.values))])) (by simp only [Qe4, Fld.Q2j, Fld.Q34]))] (by kernel_rfl) hr
theorem Qwv (p0 : List Requirement) (H : Qeh p0) : ∀ (r0 : List Requirement) (i0 : Nat) (v0_1 : List Val), List.drop i0 p0 = r0 → List.length v0_1 ≤ i0 → Qet p0 (Qen p0 i0 v0_1) (Q4f p0 r0 i0 v0_1)
 | [], i0, v0_1, hd, ho0_0 => by
  have hc0 : (decide ((i0 : Int) < ((List.length p0) : Int))) = false := by have := Q1f hd; simp; omega
  rw [Q4f]
  exact Q16p p0 H i0 v0_1 ho0_0 hc0
 | x0 :: r0, i0, v0_1, hd, ho0_0 => by
  obtain ⟨hx0, hi0, hd'⟩ := Q11 hd
  have hc0 : (decide ((i0 : Int) < ((List.length p0) : Int))) = true := by simp; omega
  rw [Q4f]
  exact Qtl p0 (fun r hr => Q14m p0 H x0 i0 v0_1 hx0 hi0 ho0_0 hc0 hr) _ (Qwv p0 H r0 (i0 + 1) (v0_1 ++ [(Q1k ([(Q0 Q1b (Qv x0.key)), (Q0 Q4w (Qg x0.op)), (Q0 Q1y (Q8d x0.values))]))]) hd' (by first | omega | (simp; omega)))
def Q2u (p0 : List Requirement) : Val := vL (p0.map Requirement.enc)
theorem Q1md (p0 : List Requirement) : Q2u p0 = ((Ql9 (Q4f p0 p0 0 []))) := by
  rw [Q10n]
  rfl
def Q1qb (p0 : List Requirement) : En := .call 126 [.sl (Requirement.rows p0)] []
def Q1hb (p0 : List Requirement) : Rs := .ret (.agg (Val.cells (Q2u p0))) []
def Q16b (p0 : List Requirement) : Prop := LSm Requirement.sm p0
theorem Q1cd (p0 : List Requirement) (H : Q16b p0) : (Qeh p0) ∧ True := by
  exact ⟨⟨Nat.le_trans H.1 (Nat.le_of_ble_eq_true rfl), fun x hx => (H.2 x hx).1, trivial⟩, trivial⟩
theorem Q1bx (p0 : List Requirement) (H : Q16b p0) : Q6 G (Q1qb p0) (Q1hb p0) := by
 unfold Q1hb
 rw [Q1md]
 have hl0 := Qwv p0 ((Q1cd p0 H).1) p0 0 [] (by simp) (by simp)
 obtain ⟨z0, zo0, hl0⟩ := hl0
 exact Q7 (fn := Ir.K2c) rfl VOK.nil [hS 0 true (Val.Q9 (Q4f p0 p0 0 []) 5 rfl), hQ (Val.Q5 (Q4f p0 p0 0 [])).symm] [aV [(1, Val.rows (Q4f p0 p0 0 []))] hl0, aN (Qrx (Q4f p0 p0 0 []))] (by kernel_rfl)
def Q1c (p0 : Bool) : Val := vB p0
theorem Q1kt (p0 : Bool) : Q1c p0 = (bif p0 then
    (Val.mk 1 1 eB [] [])
  else
    (Val.mk 1 0 eB [] [])) := by
  cases p0 <;> rfl
def Q1pa (p0 : Bool) : En := .call 73 [.bool p0] []
def Q1k0 (p0 : Bool) : Rs := .ret (.agg (Val.cells (Q1c p0))) []
theorem Qvx (p0 : Bool) : Q6 G (Q1pa p0) (Q1k0 p0) := by
 unfold Q1k0
 rw [Q1kt]
 cases h0 : p0 with
 | true =>
  exact Q7 (fn := Ir.K3q) rfl VOK.nil [] [] (by kernel_rfl)
 | false =>
  exact Q7 (fn := Ir.K3q) rfl VOK.nil [] [] (by kernel_rfl)
def Q4j (p0 : List NodeTerm) : List NodeTerm → Nat → (List Val) → List Val
 | [], _i0, v0_1 =>
  v0_1
 | x0 :: r0, i0, v0_1 =>
  Q4j p0 r0 (i0 + 1) (v0_1 ++ [(Q1k ([(Q0 Q8 (Q1c x0.required)), (Q0 Qa (Q2u x0.selector)), (Q0 Qp (Qg x0.weight))]))])
theorem Q12q (p0 : List NodeTerm) : ∀ (l : List NodeTerm) (i : Nat) (a : List Val), Q4j p0 l i a = a ++ l.map (fun x0 => (Q1k ([(Q0 Q8 (Q1c x0.required)), (Q0 Qa (Q2u x0.selector)), (Q0 Qp (Qg x0.weight))])))
  | [], _, _ => by simp [Q4j]
  | x :: r, i, a => by rw [Q4j, Q12q p0 r]; simp
def Qwq (p0 : List NodeTerm) (i0 : Nat) (v0_1 : List Val) : List PV :=
  [.sl (NodeTerm.rows p0), .un, .bx 0 0, .ms 1 5 0 (List.length v0_1), .int .i64 (i0 : Int)] ++ nuns 34
def Qhs (_p0 : List NodeTerm) (_i0 : Nat) (v0_1 : List Val) : List Ob :=
  [⟨5, 0, true, [.int .i64 0, .int .i64 0, .str eB, .ms 2 5 0 0, .ms 3 6 0 0]⟩, ⟨5, 0, true, (Val.rows v0_1).flatten⟩, ⟨5, 0, true, []⟩, ⟨6, 0, true, []⟩]
def Qfs (p0 : List NodeTerm) (i0 : Nat) (v0_1 : List Val) : En := .loop 0 Ir.Qlz Ir.Q1e1 (Qwq p0 i0 v0_1) (Qhs p0 i0 v0_1)
def Qph (_p0 : List NodeTerm) (q0 : List Val) (z : Nat → PV) (_zo : Nat → List PV) : St :=
  ⟨[z 0, z 1, .bx 0 0, .ms 1 5 0 (List.length q0)] ++ zr z 4 35, [(0, ⟨5, 0, true, [.int .i64 0, .int .i64 0, .str eB, .ms 2 5 0 0, .ms 3 6 0 0]⟩), (1, ⟨5, 0, true, (Val.rows q0).flatten⟩), (2, ⟨5, 0, true, []⟩), (3, ⟨6, 0, true, []⟩)], 260⟩
theorem Q10h (p0 : List NodeTerm) (i0 : Nat) (v0_1 : List Val) : VOK (Go.Pv.look (number 0 (Qhs p0 i0 v0_1))) [(1, Val.rows v0_1)] := (VOK.cons (show Seen _ _ from Q3h (ob := ⟨5, 0, true, (Val.rows v0_1).flatten⟩) (Val.Q9 v0_1 5 rfl)) VOK.nil)
def Qfp (p0 : List NodeTerm) (e : En) (q : List Val) : Prop := ∃ z zo, Q6 G e (.st (.exit 0) (Qph p0 q z zo))
theorem Qtf (p0 : List NodeTerm) {e e' : En} (h : ∀ r, Q6 G e r → Q6 G e' r) : ∀ q, Qfp p0 e q → Qfp p0 e' q
  | _, ⟨z, zo, hz⟩ => ⟨z, zo, h _ hz⟩
def Qf5 (p0 : List NodeTerm) : Prop := (List.length p0 ≤ 137438953472) ∧ (∀ x0 ∈ p0, Q16b x0.selector) ∧ True
def Qqm (p0 : List NodeTerm) (i0 : Nat) (_v0_1 : List Val) : List PV :=
  [.sl (NodeTerm.rows p0), .un, .un, .un, .int .i64 (i0 : Int), .int .i64 (i0 : Int), .sl (NodeTerm.rows p0), .int .i64 ((List.length p0) : Int), .bool false]
def Qhd (_p0 : List NodeTerm) (_i0 : Nat) (_v0_1 : List Val) : List (Nat × List PV) :=
  []
theorem Q15e (p0 : List NodeTerm) (_H : Qf5 p0) (i0 : Nat) (v0_1 : List Val) (_ho0_0 : List.length v0_1 ≤ i0) (hc0 : (decide ((i0 : Int) < ((List.length p0) : Int))) = false) : Qfp p0 (Qfs p0 i0 v0_1) v0_1 := by
 exact ⟨(envF (Qqm p0 i0 v0_1)), (zoF (Qhd p0 i0 v0_1)), Qe (Q10h p0 i0 v0_1) (x := ((.exit 0), Qph p0 v0_1 (envF (Qqm p0 i0 v0_1)) (zoF (Qhd p0 i0 v0_1)))) [hP 2 (Qd (NodeTerm.rows p0) (List.length p0) (NodeTerm.Q5 p0)), hB 0 hc0] [] (by kernel_rfl)⟩
theorem Q132 (p0 : List NodeTerm) (H : Qf5 p0) (x0 : NodeTerm) (i0 : Nat) (v0_1 : List Val) (hx0 : p0[i0]? = some x0) (hi0 : i0 < List.length p0) (ho0_0 : List.length v0_1 ≤ i0) (hc0 : (decide ((i0 : Int) < ((List.length p0) : Int))) = true) {r : Rs} (hr : Q6 G (Qfs p0 (i0 + 1) (v0_1 ++ [(Q1k ([(Q0 Q8 (Q1c x0.required)), (Q0 Qa (Q2u x0.selector)), (Q0 Qp (Qg x0.weight))]))])) r) : Q6 G (Qfs p0 i0 v0_1) r := by
 have hB0 := H.1
 exact Ql (Q10h p0 i0 v0_1) (y := (Qwq p0 (i0 + 1) (v0_1 ++ [(Q1k ([(Q0 Q8 (Q1c x0.required)), (Q0 Qa (Q2u x0.selector)), (Q0 Qp (Qg x0.weight))]))]), Qhs p0 (i0 + 1) (v0_1 ++ [(Q1k ([(Q0 Q8 (Q1c x0.required)), (Q0 Qa (Q2u x0.selector)), (Q0 Qp (Qg x0.weight))]))]))) [hP 2 (Qd (NodeTerm.rows p0) (List.length p0) (NodeTerm.Q5 p0)), hB 0 hc0, hP 3 (Q1u 3 (NodeTerm.rows p0) i0 _ (NodeTerm.Qb hx0) rfl), hP 6 (Q1u 3 (NodeTerm.rows p0) i0 _ (NodeTerm.Qb hx0) rfl), hP 6 (Q1u 3 (NodeTerm.rows p0) i0 _ (NodeTerm.Qb hx0) rfl), hV 7 [(1860, Val.rows (v0_1 ++ [(Q1k ([(Q0 Q8 (Q1c x0.required)), (Q0 Qa (Q2u x0.selector)), (Q0 Qp (Qg x0.weight))]))]))] (Q55 1 1796 1860 5 80 0 0 true (Val.rows v0_1) (Val.rows (v0_1 ++ [(Q1k ([(Q0 Q8 (Q1c x0.required)), (Q0 Qa (Q2u x0.selector)), (Q0 Qp (Qg x0.weight))]))])) (Val.cells (Q1k ([(Q0 Q8 (Q1c x0.required)), (Q0 Qa (Q2u x0.selector)), (Q0 Qp (Qg x0.weight))]))) (List.length v0_1) (List.length (v0_1 ++ [(Q1k ([(Q0 Q8 (Q1c x0.required)), (Q0 Qa (Q2u x0.selector)), (Q0 Qp (Qg x0.weight))]))])) rfl (Val.Q5 v0_1).symm (Val.Q5 (v0_1 ++ [(Q1k ([(Q0 Q8 (Q1c x0.required)), (Q0 Qa (Q2u x0.selector)), (Q0 Qp (Qg x0.weight))]))])).symm (Val.Q12 v0_1 (Q1k ([(Q0 Q8 (Q1c x0.required)), (Q0 Qa (Q2u x0.selector)), (Q0 Qp (Qg x0.weight))]))) (Val.Qf v0_1) rfl (by omega)), hS 0 true (Val.Q9 (v0_1 ++ [(Q1k ([(Q0 Q8 (Q1c x0.required)), (Q0 Qa (Q2u x0.selector)), (Q0 Qp (Qg x0.weight))]))]) 5 rfl), hP 2 (Q27 i0 (by omega))] [aN (Qvx x0.required), aN (Q2o Q8 (Q1c x0.required)), aN (Q1bx x0.selector (H.2.1 x0 (Q2c hx0))), aN (Q2o Qa (Q2u x0.selector)), aN (Q5r x0.weight), aN (Q2o Qp (Qg x0.weight)), aN (Q6j (e' := .call 70 [.sl [(Fld.cells (Q0 Q8 (Q1c x0.required))), (Fld.cells (Q0 Qa (Q2u x0.selector))), (Fld.cells (Q0 Qp (Qg x0.weight)))]] []) (Qic ([(Q0 Q8 (Q1c x0.required)), (Q0 Qa (Q2u x0.selector)), (Q0 Qp (Qg x0.weight))])) (by simp only [Qe4, Fld.Q2j, Fld.Q34]))] (by kernel_rfl) hr
theorem Qx2 (p0 : List NodeTerm) (H : Qf5 p0) : ∀ (r0 : List NodeTerm) (i0 : Nat) (v0_1 : List Val), List.drop i0 p0 = r0 → List.length v0_1 ≤ i0 → Qfp p0 (Qfs p0 i0 v0_1) (Q4j p0 r0 i0 v0_1)
 | [], i0, v0_1, hd, ho0_0 => by
  have hc0 : (decide ((i0 : Int) < ((List.length p0) : Int))) = false := by have := Q1f hd; simp; omega
  rw [Q4j]
  exact Q15e p0 H i0 v0_1 ho0_0 hc0
 | x0 :: r0, i0, v0_1, hd, ho0_0 => by
  obtain ⟨hx0, hi0, hd'⟩ := Q11 hd
  have hc0 : (decide ((i0 : Int) < ((List.length p0) : Int))) = true := by simp; omega
  rw [Q4j]
  exact Qtf p0 (fun r hr => Q132 p0 H x0 i0 v0_1 hx0 hi0 ho0_0 hc0 hr) _ (Qx2 p0 H r0 (i0 + 1) (v0_1 ++ [(Q1k ([(Q0 Q8 (Q1c x0.required)), (Q0 Qa (Q2u x0.selector)), (Q0 Qp (Qg x0.weight))]))]) hd' (by first | omega | (simp; omega)))
def Q16x (p0 : List NodeTerm) : Val := vL (p0.map NodeTerm.enc)
theorem Q1m6 (p0 : List NodeTerm) : Q16x p0 = ((Ql9 (Q4j p0 p0 0 []))) := by
  rw [Q12q]
  rfl
def Q1n4 (p0 : List NodeTerm) : En := .call 127 [.sl (NodeTerm.rows p0)] []
def Q1hz (p0 : List NodeTerm) : Rs := .ret (.agg (Val.cells (Q16x p0))) []
def Q1g0 (p0 : List NodeTerm) : Prop := LSm NodeTerm.sm p0
theorem Q1ca (p0 : List NodeTerm) (H : Q1g0 p0) : (Qf5 p0) ∧ True := by
  exact ⟨⟨Nat.le_trans H.1 (Nat.le_of_ble_eq_true rfl), fun x hx => (H.2 x hx).1, trivial⟩, trivial⟩
theorem Q1pp (p0 : List NodeTerm) (H : Q1g0 p0) : Q6 G (Q1n4 p0) (Q1hz p0) := by
 unfold Q1hz
 rw [Q1m6]
 have hl0 := Qx2 p0 ((Q1ca p0 H).1) p0 0 [] (by simp) (by simp)
 obtain ⟨z0, zo0, hl0⟩ := hl0
 exact Q7 (fn := Ir.K30) rfl VOK.nil [hS 0 true (Val.Q9 (Q4j p0 p0 0 []) 5 rfl), hQ (Val.Q5 (Q4j p0 p0 0 [])).symm] [aV [(1, Val.rows (Q4j p0 p0 0 []))] hl0, aN (Qrx (Q4j p0 p0 0 []))] (by kernel_rfl)
def Q4u (p0 : List PodTerm) : List PodTerm → Nat → (List Val) → List Val
 | [], _i0, v0_1 =>
  v0_1
 | x0 :: r0, i0, v0_1 =>
  Q4u p0 r0 (i0 + 1) (v0_1 ++ [(Q1k ([(Q0 Q2f (Q1c x0.anti)), (Q0 Q8 (Q1c x0.required)), (Q0 Qa (Q2u x0.selector)), (Q0 Qi (Qv x0.topology)), (Q0 Qp (Qg x0.weight))]))])
theorem Q12u (p0 : List PodTerm) : ∀ (l : List PodTerm) (i : Nat) (a : List Val), Q4u p0 l i a = a ++ l.map (fun x0 => (Q1k ([(Q0 Q2f (Q1c x0.anti)), (Q0 Q8 (Q1c x0.required)), (Q0 Qa (Q2u x0.selector)), (Q0 Qi (Qv x0.topology)), (Q0 Qp (Qg x0.weight))])))
  | [], _, _ => by simp [Q4u]
  | x :: r, i, a => by rw [Q4u, Q12u p0 r]; simp
def Qxz (p0 : List PodTerm) (i0 : Nat) (v0_1 : List Val) : List PV :=
  [.sl (PodTerm.rows p0), .un, .bx 0 0, .ms 1 5 0 (List.length v0_1), .int .i64 (i0 : Int)] ++ nuns 48
def Qka (_p0 : List PodTerm) (_i0 : Nat) (v0_1 : List Val) : List Ob :=
  [⟨5, 0, true, [.int .i64 0, .int .i64 0, .str eB, .ms 2 5 0 0, .ms 3 6 0 0]⟩, ⟨5, 0, true, (Val.rows v0_1).flatten⟩, ⟨5, 0, true, []⟩, ⟨6, 0, true, []⟩]
def Qfk (p0 : List PodTerm) (i0 : Nat) (v0_1 : List Val) : En := .loop 0 Ir.Qhx Ir.Q1e5 (Qxz p0 i0 v0_1) (Qka p0 i0 v0_1)
def Qny (_p0 : List PodTerm) (q0 : List Val) (z : Nat → PV) (_zo : Nat → List PV) : St :=
  ⟨[z 0, z 1, .bx 0 0, .ms 1 5 0 (List.length q0)] ++ zr z 4 49, [(0, ⟨5, 0, true, [.int .i64 0, .int .i64 0, .str eB, .ms 2 5 0 0, .ms 3 6 0 0]⟩), (1, ⟨5, 0, true, (Val.rows q0).flatten⟩), (2, ⟨5, 0, true, []⟩), (3, ⟨6, 0, true, []⟩)], 260⟩
theorem Q10c (p0 : List PodTerm) (i0 : Nat) (v0_1 : List Val) : VOK (Go.Pv.look (number 0 (Qka p0 i0 v0_1))) [(1, Val.rows v0_1)] := (VOK.cons (show Seen _ _ from Q3h (ob := ⟨5, 0, true, (Val.rows v0_1).flatten⟩) (Val.Q9 v0_1 5 rfl)) VOK.nil)
def Qgq (p0 : List PodTerm) (e : En) (q : List Val) : Prop := ∃ z zo, Q6 G e (.st (.exit 0) (Qny p0 q z zo))
theorem Qsb (p0 : List PodTerm) {e e' : En} (h : ∀ r, Q6 G e r → Q6 G e' r) : ∀ q, Qgq p0 e q → Qgq p0 e' q
  | _, ⟨z, zo, hz⟩ => ⟨z, zo, h _ hz⟩
def Qes (p0 : List PodTerm) : Prop := (List.length p0 ≤ 137438953472) ∧ (∀ x0 ∈ p0, Q16b x0.selector) ∧ True
def Qot (p0 : List PodTerm) (i0 : Nat) (_v0_1 : List Val) : List PV :=
  [.sl (PodTerm.rows p0), .un, .un, .un, .int .i64 (i0 : Int), .int .i64 (i0 : Int), .sl (PodTerm.rows p0), .int .i64 ((List.length p0) : Int), .bool false]
def Qij (_p0 : List PodTerm) (_i0 : Nat) (_v0_1 : List Val) : List (Nat × List PV) :=
  []
theorem Q12z (p0 : List PodTerm) (_H : Qes p0) (i0 : Nat) (v0_1 : List Val) (_ho0_0 : List.length v0_1 ≤ i0) (hc0 : (decide ((i0 : Int) < ((List.length p0) : Int))) = false) : Qgq p0 (Qfk p0 i0 v0_1) v0_1 := by
 exact ⟨(envF (Qot p0 i0 v0_1)), (zoF (Qij p0 i0 v0_1)), Qe (Q10c p0 i0 v0_1) (x := ((.exit 0), Qny p0 v0_1 (envF (Qot p0 i0 v0_1)) (zoF (Qij p0 i0 v0_1)))) [hP 2 (Qd (PodTerm.rows p0) (List.length p0) (PodTerm.Q5 p0)), hB 0 hc0] [] (by kernel_rfl)⟩
theorem Q16e (p0 : List PodTerm) (H : Qes p0) (x0 : PodTerm) (i0 : Nat) (v0_1 : List Val) (hx0 : p0[i0]? = some x0) (hi0 : i0 < List.length p0) (ho0_0 : List.length v0_1 ≤ i0) (hc0 : (decide ((i0 : Int) < ((List.length p0) : Int))) = true) {r : Rs} (hr : Q6 G (Qfk p0 (i0 + 1) (v0_1 ++ [(Q1k ([(Q0 Q2f (Q1c x0.anti)), (Q0 Q8 (Q1c x0.required)), (Q0 Qa (Q2u x0.selector)), (Q0 Qi (Qv x0.topology)), (Q0 Qp (Qg x0.weight))]))])) r) : Q6 G (Qfk p0 i0 v0_1) r := by
 have hB0 := H.1
 exact Ql (Q10c p0 i0 v0_1) (y := (Qxz p0 (i0 + 1) (v0_1 ++ [(Q1k ([(Q0 Q2f (Q1c x0.anti)), (Q0 Q8 (Q1c x0.required)), (Q0 Qa (Q2u x0.selector)), (Q0 Qi (Qv x0.topology)), (Q0 Qp (Qg x0.weight))]))]), Qka p0 (i0 + 1) (v0_1 ++ [(Q1k ([(Q0 Q2f (Q1c x0.anti)), (Q0 Q8 (Q1c x0.required)), (Q0 Qa (Q2u x0.selector)), (Q0 Qi (Qv x0.topology)), (Q0 Qp (Qg x0.weight))]))]))) [hP 2 (Qd (PodTerm.rows p0) (List.length p0) (PodTerm.Q5 p0)), hB 0 hc0, hP 3 (Q1u 5 (PodTerm.rows p0) i0 _ (PodTerm.Qb hx0) rfl), hP 6 (Q1u 5 (PodTerm.rows p0) i0 _ (PodTerm.Qb hx0) rfl), hP 6 (Q1u 5 (PodTerm.rows p0) i0 _ (PodTerm.Qb hx0) rfl), hP 6 (Q1u 5 (PodTerm.rows p0) i0 _ (PodTerm.Qb hx0) rfl), hP 6 (Q1u 5 (PodTerm.rows p0) i0 _ (PodTerm.Qb hx0) rfl), hV 7 [(2756, Val.rows (v0_1 ++ [(Q1k ([(Q0 Q2f (Q1c x0.anti)), (Q0 Q8 (Q1c x0.required)), (Q0 Qa (Q2u x0.selector)), (Q0 Qi (Qv x0.topology)), (Q0 Qp (Qg x0.weight))]))]))] (Q55 1 2692 2756 5 80 0 0 true (Val.rows v0_1) (Val.rows (v0_1 ++ [(Q1k ([(Q0 Q2f (Q1c x0.anti)), (Q0 Q8 (Q1c x0.required)), (Q0 Qa (Q2u x0.selector)), (Q0 Qi (Qv x0.topology)), (Q0 Qp (Qg x0.weight))]))])) (Val.cells (Q1k ([(Q0 Q2f (Q1c x0.anti)), (Q0 Q8 (Q1c x0.required)), (Q0 Qa (Q2u x0.selector)), (Q0 Qi (Qv x0.topology)), (Q0 Qp (Qg x0.weight))]))) (List.length v0_1) (List.length (v0_1 ++ [(Q1k ([(Q0 Q2f (Q1c x0.anti)), (Q0 Q8 (Q1c x0.required)), (Q0 Qa (Q2u x0.selector)), (Q0 Qi (Qv x0.topology)), (Q0 Qp (Qg x0.weight))]))])) rfl (Val.Q5 v0_1).symm (Val.Q5 (v0_1 ++ [(Q1k ([(Q0 Q2f (Q1c x0.anti)), (Q0 Q8 (Q1c x0.required)), (Q0 Qa (Q2u x0.selector)), (Q0 Qi (Qv x0.topology)), (Q0 Qp (Qg x0.weight))]))])).symm (Val.Q12 v0_1 (Q1k ([(Q0 Q2f (Q1c x0.anti)), (Q0 Q8 (Q1c x0.required)), (Q0 Qa (Q2u x0.selector)), (Q0 Qi (Qv x0.topology)), (Q0 Qp (Qg x0.weight))]))) (Val.Qf v0_1) rfl (by omega)), hS 0 true (Val.Q9 (v0_1 ++ [(Q1k ([(Q0 Q2f (Q1c x0.anti)), (Q0 Q8 (Q1c x0.required)), (Q0 Qa (Q2u x0.selector)), (Q0 Qi (Qv x0.topology)), (Q0 Qp (Qg x0.weight))]))]) 5 rfl), hP 2 (Q27 i0 (by omega))] [aN (Qvx x0.anti), aN (Q2o Q2f (Q1c x0.anti)), aN (Qvx x0.required), aN (Q2o Q8 (Q1c x0.required)), aN (Q1bx x0.selector (H.2.1 x0 (Q2c hx0))), aN (Q2o Qa (Q2u x0.selector)), aN (Qeb x0.topology), aN (Q2o Qi (Qv x0.topology)), aN (Q5r x0.weight), aN (Q2o Qp (Qg x0.weight)), aN (Q6j (e' := .call 70 [.sl [(Fld.cells (Q0 Q2f (Q1c x0.anti))), (Fld.cells (Q0 Q8 (Q1c x0.required))), (Fld.cells (Q0 Qa (Q2u x0.selector))), (Fld.cells (Q0 Qi (Qv x0.topology))), (Fld.cells (Q0 Qp (Qg x0.weight)))]] []) (Qic ([(Q0 Q2f (Q1c x0.anti)), (Q0 Q8 (Q1c x0.required)), (Q0 Qa (Q2u x0.selector)), (Q0 Qi (Qv x0.topology)), (Q0 Qp (Qg x0.weight))])) (by simp only [Qe4, Fld.Q2j, Fld.Q34]))] (by kernel_rfl) hr
theorem Qtu (p0 : List PodTerm) (H : Qes p0) : ∀ (r0 : List PodTerm) (i0 : Nat) (v0_1 : List Val), List.drop i0 p0 = r0 → List.length v0_1 ≤ i0 → Qgq p0 (Qfk p0 i0 v0_1) (Q4u p0 r0 i0 v0_1)
 | [], i0, v0_1, hd, ho0_0 => by
  have hc0 : (decide ((i0 : Int) < ((List.length p0) : Int))) = false := by have := Q1f hd; simp; omega
  rw [Q4u]
  exact Q12z p0 H i0 v0_1 ho0_0 hc0
 | x0 :: r0, i0, v0_1, hd, ho0_0 => by
  obtain ⟨hx0, hi0, hd'⟩ := Q11 hd
  have hc0 : (decide ((i0 : Int) < ((List.length p0) : Int))) = true := by simp; omega
  rw [Q4u]
  exact Qsb p0 (fun r hr => Q16e p0 H x0 i0 v0_1 hx0 hi0 ho0_0 hc0 hr) _ (Qtu p0 H r0 (i0 + 1) (v0_1 ++ [(Q1k ([(Q0 Q2f (Q1c x0.anti)), (Q0 Q8 (Q1c x0.required)), (Q0 Qa (Q2u x0.selector)), (Q0 Qi (Qv x0.topology)), (Q0 Qp (Qg x0.weight))]))]) hd' (by first | omega | (simp; omega)))
def Q149 (p0 : List PodTerm) : Val := vL (p0.map PodTerm.enc)
theorem Q1or (p0 : List PodTerm) : Q149 p0 = ((Ql9 (Q4u p0 p0 0 []))) := by
  rw [Q12u]
  rfl
def Q1m2 (p0 : List PodTerm) : En := .call 128 [.sl (PodTerm.rows p0)] []
def Q1ig (p0 : List PodTerm) : Rs := .ret (.agg (Val.cells (Q149 p0))) []
def Q1gq (p0 : List PodTerm) : Prop := LSm PodTerm.sm p0
theorem Q1bn (p0 : List PodTerm) (H : Q1gq p0) : (Qes p0) ∧ True := by
  exact ⟨⟨Nat.le_trans H.1 (Nat.le_of_ble_eq_true rfl), fun x hx => (H.2 x hx).1, trivial⟩, trivial⟩
theorem Q1oq (p0 : List PodTerm) (H : Q1gq p0) : Q6 G (Q1m2 p0) (Q1ig p0) := by
 unfold Q1ig
 rw [Q1or]
 have hl0 := Qtu p0 ((Q1bn p0 H).1) p0 0 [] (by simp) (by simp)
 obtain ⟨z0, zo0, hl0⟩ := hl0
 exact Q7 (fn := Ir.K31) rfl VOK.nil [hS 0 true (Val.Q9 (Q4u p0 p0 0 []) 5 rfl), hQ (Val.Q5 (Q4u p0 p0 0 [])).symm] [aV [(1, Val.rows (Q4u p0 p0 0 []))] hl0, aN (Qrx (Q4u p0 p0 0 []))] (by kernel_rfl)
def Q4s (p0 : List SpreadRule) : List SpreadRule → Nat → (List Val) → List Val
 | [], _i0, v0_1 =>
  v0_1
 | x0 :: r0, i0, v0_1 =>
  Q4s p0 r0 (i0 + 1) (v0_1 ++ [(Q1k ([(Q0 Q18 (Qg x0.maxSkew)), (Q0 Q8 (Q1c x0.required)), (Q0 Qa (Q2u x0.selector)), (Q0 Qi (Qv x0.topology))]))])
theorem Q10l (p0 : List SpreadRule) : ∀ (l : List SpreadRule) (i : Nat) (a : List Val), Q4s p0 l i a = a ++ l.map (fun x0 => (Q1k ([(Q0 Q18 (Qg x0.maxSkew)), (Q0 Q8 (Q1c x0.required)), (Q0 Qa (Q2u x0.selector)), (Q0 Qi (Qv x0.topology))])))
  | [], _, _ => by simp [Q4s]
  | x :: r, i, a => by rw [Q4s, Q10l p0 r]; simp
def Qxt (p0 : List SpreadRule) (i0 : Nat) (v0_1 : List Val) : List PV :=
  [.sl (SpreadRule.rows p0), .un, .bx 0 0, .ms 1 5 0 (List.length v0_1), .int .i64 (i0 : Int)] ++ nuns 41
def Qhu (_p0 : List SpreadRule) (_i0 : Nat) (v0_1 : List Val) : List Ob :=
  [⟨5, 0, true, [.int .i64 0, .int .i64 0, .str eB, .ms 2 5 0 0, .ms 3 6 0 0]⟩, ⟨5, 0, true, (Val.rows v0_1).flatten⟩, ⟨5, 0, true, []⟩, ⟨6, 0, true, []⟩]
def Qek (p0 : List SpreadRule) (i0 : Nat) (v0_1 : List Val) : En := .loop 0 Ir.Qj4 Ir.Q1d1 (Qxt p0 i0 v0_1) (Qhu p0 i0 v0_1)
def Qr0 (_p0 : List SpreadRule) (q0 : List Val) (z : Nat → PV) (_zo : Nat → List PV) : St :=
  ⟨[z 0, z 1, .bx 0 0, .ms 1 5 0 (List.length q0)] ++ zr z 4 42, [(0, ⟨5, 0, true, [.int .i64 0, .int .i64 0, .str eB, .ms 2 5 0 0, .ms 3 6 0 0]⟩), (1, ⟨5, 0, true, (Val.rows q0).flatten⟩), (2, ⟨5, 0, true, []⟩), (3, ⟨6, 0, true, []⟩)], 260⟩
theorem Q11g (p0 : List SpreadRule) (i0 : Nat) (v0_1 : List Val) : VOK (Go.Pv.look (number 0 (Qhu p0 i0 v0_1))) [(1, Val.rows v0_1)] := (VOK.cons (show Seen _ _ from Q3h (ob := ⟨5, 0, true, (Val.rows v0_1).flatten⟩) (Val.Q9 v0_1 5 rfl)) VOK.nil)
def Qgp (p0 : List SpreadRule) (e : En) (q : List Val) : Prop := ∃ z zo, Q6 G e (.st (.exit 0) (Qr0 p0 q z zo))
theorem Qsv (p0 : List SpreadRule) {e e' : En} (h : ∀ r, Q6 G e r → Q6 G e' r) : ∀ q, Qgp p0 e q → Qgp p0 e' q
  | _, ⟨z, zo, hz⟩ => ⟨z, zo, h _ hz⟩
def Qg9 (p0 : List SpreadRule) : Prop := (List.length p0 ≤ 137438953472) ∧ (∀ x0 ∈ p0, Q16b x0.selector) ∧ True
def Qpe (p0 : List SpreadRule) (i0 : Nat) (_v0_1 : List Val) : List PV :=
  [.sl (SpreadRule.rows p0), .un, .un, .un, .int .i64 (i0 : Int), .int .i64 (i0 : Int), .sl (SpreadRule.rows p0), .int .i64 ((List.length p0) : Int), .bool false]
def Qkj (_p0 : List SpreadRule) (_i0 : Nat) (_v0_1 : List Val) : List (Nat × List PV) :=
  []
theorem Q14l (p0 : List SpreadRule) (_H : Qg9 p0) (i0 : Nat) (v0_1 : List Val) (_ho0_0 : List.length v0_1 ≤ i0) (hc0 : (decide ((i0 : Int) < ((List.length p0) : Int))) = false) : Qgp p0 (Qek p0 i0 v0_1) v0_1 := by
 exact ⟨(envF (Qpe p0 i0 v0_1)), (zoF (Qkj p0 i0 v0_1)), Qe (Q11g p0 i0 v0_1) (x := ((.exit 0), Qr0 p0 v0_1 (envF (Qpe p0 i0 v0_1)) (zoF (Qkj p0 i0 v0_1)))) [hP 2 (Qd (SpreadRule.rows p0) (List.length p0) (SpreadRule.Q5 p0)), hB 0 hc0] [] (by kernel_rfl)⟩
theorem Q15v (p0 : List SpreadRule) (H : Qg9 p0) (x0 : SpreadRule) (i0 : Nat) (v0_1 : List Val) (hx0 : p0[i0]? = some x0) (hi0 : i0 < List.length p0) (ho0_0 : List.length v0_1 ≤ i0) (hc0 : (decide ((i0 : Int) < ((List.length p0) : Int))) = true) {r : Rs} (hr : Q6 G (Qek p0 (i0 + 1) (v0_1 ++ [(Q1k ([(Q0 Q18 (Qg x0.maxSkew)), (Q0 Q8 (Q1c x0.required)), (Q0 Qa (Q2u x0.selector)), (Q0 Qi (Qv x0.topology))]))])) r) : Q6 G (Qek p0 i0 v0_1) r := by
 have hB0 := H.1
 exact Ql (Q11g p0 i0 v0_1) (y := (Qxt p0 (i0 + 1) (v0_1 ++ [(Q1k ([(Q0 Q18 (Qg x0.maxSkew)), (Q0 Q8 (Q1c x0.required)), (Q0 Qa (Q2u x0.selector)), (Q0 Qi (Qv x0.topology))]))]), Qhu p0 (i0 + 1) (v0_1 ++ [(Q1k ([(Q0 Q18 (Qg x0.maxSkew)), (Q0 Q8 (Q1c x0.required)), (Q0 Qa (Q2u x0.selector)), (Q0 Qi (Qv x0.topology))]))]))) [hP 2 (Qd (SpreadRule.rows p0) (List.length p0) (SpreadRule.Q5 p0)), hB 0 hc0, hP 3 (Q1u 4 (SpreadRule.rows p0) i0 _ (SpreadRule.Qb hx0) rfl), hP 6 (Q1u 4 (SpreadRule.rows p0) i0 _ (SpreadRule.Qb hx0) rfl), hP 6 (Q1u 4 (SpreadRule.rows p0) i0 _ (SpreadRule.Qb hx0) rfl), hP 6 (Q1u 4 (SpreadRule.rows p0) i0 _ (SpreadRule.Qb hx0) rfl), hV 7 [(2308, Val.rows (v0_1 ++ [(Q1k ([(Q0 Q18 (Qg x0.maxSkew)), (Q0 Q8 (Q1c x0.required)), (Q0 Qa (Q2u x0.selector)), (Q0 Qi (Qv x0.topology))]))]))] (Q55 1 2244 2308 5 80 0 0 true (Val.rows v0_1) (Val.rows (v0_1 ++ [(Q1k ([(Q0 Q18 (Qg x0.maxSkew)), (Q0 Q8 (Q1c x0.required)), (Q0 Qa (Q2u x0.selector)), (Q0 Qi (Qv x0.topology))]))])) (Val.cells (Q1k ([(Q0 Q18 (Qg x0.maxSkew)), (Q0 Q8 (Q1c x0.required)), (Q0 Qa (Q2u x0.selector)), (Q0 Qi (Qv x0.topology))]))) (List.length v0_1) (List.length (v0_1 ++ [(Q1k ([(Q0 Q18 (Qg x0.maxSkew)), (Q0 Q8 (Q1c x0.required)), (Q0 Qa (Q2u x0.selector)), (Q0 Qi (Qv x0.topology))]))])) rfl (Val.Q5 v0_1).symm (Val.Q5 (v0_1 ++ [(Q1k ([(Q0 Q18 (Qg x0.maxSkew)), (Q0 Q8 (Q1c x0.required)), (Q0 Qa (Q2u x0.selector)), (Q0 Qi (Qv x0.topology))]))])).symm (Val.Q12 v0_1 (Q1k ([(Q0 Q18 (Qg x0.maxSkew)), (Q0 Q8 (Q1c x0.required)), (Q0 Qa (Q2u x0.selector)), (Q0 Qi (Qv x0.topology))]))) (Val.Qf v0_1) rfl (by omega)), hS 0 true (Val.Q9 (v0_1 ++ [(Q1k ([(Q0 Q18 (Qg x0.maxSkew)), (Q0 Q8 (Q1c x0.required)), (Q0 Qa (Q2u x0.selector)), (Q0 Qi (Qv x0.topology))]))]) 5 rfl), hP 2 (Q27 i0 (by omega))] [aN (Q5r x0.maxSkew), aN (Q2o Q18 (Qg x0.maxSkew)), aN (Qvx x0.required), aN (Q2o Q8 (Q1c x0.required)), aN (Q1bx x0.selector (H.2.1 x0 (Q2c hx0))), aN (Q2o Qa (Q2u x0.selector)), aN (Qeb x0.topology), aN (Q2o Qi (Qv x0.topology)), aN (Q6j (e' := .call 70 [.sl [(Fld.cells (Q0 Q18 (Qg x0.maxSkew))), (Fld.cells (Q0 Q8 (Q1c x0.required))), (Fld.cells (Q0 Qa (Q2u x0.selector))), (Fld.cells (Q0 Qi (Qv x0.topology)))]] []) (Qic ([(Q0 Q18 (Qg x0.maxSkew)), (Q0 Q8 (Q1c x0.required)), (Q0 Qa (Q2u x0.selector)), (Q0 Qi (Qv x0.topology))])) (by simp only [Qe4, Fld.Q2j, Fld.Q34]))] (by kernel_rfl) hr
theorem Qvy (p0 : List SpreadRule) (H : Qg9 p0) : ∀ (r0 : List SpreadRule) (i0 : Nat) (v0_1 : List Val), List.drop i0 p0 = r0 → List.length v0_1 ≤ i0 → Qgp p0 (Qek p0 i0 v0_1) (Q4s p0 r0 i0 v0_1)
 | [], i0, v0_1, hd, ho0_0 => by
  have hc0 : (decide ((i0 : Int) < ((List.length p0) : Int))) = false := by have := Q1f hd; simp; omega
  rw [Q4s]
  exact Q14l p0 H i0 v0_1 ho0_0 hc0
 | x0 :: r0, i0, v0_1, hd, ho0_0 => by
  obtain ⟨hx0, hi0, hd'⟩ := Q11 hd
  have hc0 : (decide ((i0 : Int) < ((List.length p0) : Int))) = true := by simp; omega
  rw [Q4s]
  exact Qsv p0 (fun r hr => Q15v p0 H x0 i0 v0_1 hx0 hi0 ho0_0 hc0 hr) _ (Qvy p0 H r0 (i0 + 1) (v0_1 ++ [(Q1k ([(Q0 Q18 (Qg x0.maxSkew)), (Q0 Q8 (Q1c x0.required)), (Q0 Qa (Q2u x0.selector)), (Q0 Qi (Qv x0.topology))]))]) hd' (by first | omega | (simp; omega)))
def Q14d (p0 : List SpreadRule) : Val := vL (p0.map SpreadRule.enc)
theorem Q1mc (p0 : List SpreadRule) : Q14d p0 = ((Ql9 (Q4s p0 p0 0 []))) := by
  rw [Q10l]
  rfl
def Q1ml (p0 : List SpreadRule) : En := .call 129 [.sl (SpreadRule.rows p0)] []
def Q1j7 (p0 : List SpreadRule) : Rs := .ret (.agg (Val.cells (Q14d p0))) []
def Q1g9 (p0 : List SpreadRule) : Prop := LSm SpreadRule.sm p0
theorem Q1bh (p0 : List SpreadRule) (H : Q1g9 p0) : (Qg9 p0) ∧ True := by
  exact ⟨⟨Nat.le_trans H.1 (Nat.le_of_ble_eq_true rfl), fun x hx => (H.2 x hx).1, trivial⟩, trivial⟩
theorem Q1n7 (p0 : List SpreadRule) (H : Q1g9 p0) : Q6 G (Q1ml p0) (Q1j7 p0) := by
 unfold Q1j7
 rw [Q1mc]
 have hl0 := Qvy p0 ((Q1bh p0 H).1) p0 0 [] (by simp) (by simp)
 obtain ⟨z0, zo0, hl0⟩ := hl0
 exact Q7 (fn := Ir.K34) rfl VOK.nil [hS 0 true (Val.Q9 (Q4s p0 p0 0 []) 5 rfl), hQ (Val.Q5 (Q4s p0 p0 0 [])).symm] [aV [(1, Val.rows (Q4s p0 p0 0 []))] hl0, aN (Qrx (Q4s p0 p0 0 []))] (by kernel_rfl)
def Q4t (p0 : List Toleration) : List Toleration → Nat → (List Val) → List Val
 | [], _i0, v0_1 =>
  v0_1
 | x0 :: r0, i0, v0_1 =>
  Q4t p0 r0 (i0 + 1) (v0_1 ++ [(Q1k ([(Q0 Q1i (Qg x0.effect)), (Q0 Q1r (Q1c x0.exists_)), (Q0 Q1b (Qv x0.key)), (Q0 Q1n (Qg x0.seconds)), (Q0 Q1d (Qv x0.value))]))])
theorem Q12a (p0 : List Toleration) : ∀ (l : List Toleration) (i : Nat) (a : List Val), Q4t p0 l i a = a ++ l.map (fun x0 => (Q1k ([(Q0 Q1i (Qg x0.effect)), (Q0 Q1r (Q1c x0.exists_)), (Q0 Q1b (Qv x0.key)), (Q0 Q1n (Qg x0.seconds)), (Q0 Q1d (Qv x0.value))])))
  | [], _, _ => by simp [Q4t]
  | x :: r, i, a => by rw [Q4t, Q12a p0 r]; simp
def Qvh (p0 : List Toleration) (i0 : Nat) (v0_1 : List Val) : List PV :=
  [.sl (Toleration.rows p0), .un, .bx 0 0, .ms 1 5 0 (List.length v0_1), .int .i64 (i0 : Int)] ++ nuns 48
def Qhm (_p0 : List Toleration) (_i0 : Nat) (v0_1 : List Val) : List Ob :=
  [⟨5, 0, true, [.int .i64 0, .int .i64 0, .str eB, .ms 2 5 0 0, .ms 3 6 0 0]⟩, ⟨5, 0, true, (Val.rows v0_1).flatten⟩, ⟨5, 0, true, []⟩, ⟨6, 0, true, []⟩]
def Qfe (p0 : List Toleration) (i0 : Nat) (v0_1 : List Val) : En := .loop 0 Ir.Ql6 Ir.Q1dk (Qvh p0 i0 v0_1) (Qhm p0 i0 v0_1)
def Qno (_p0 : List Toleration) (q0 : List Val) (z : Nat → PV) (_zo : Nat → List PV) : St :=
  ⟨[z 0, z 1, .bx 0 0, .ms 1 5 0 (List.length q0)] ++ zr z 4 49, [(0, ⟨5, 0, true, [.int .i64 0, .int .i64 0, .str eB, .ms 2 5 0 0, .ms 3 6 0 0]⟩), (1, ⟨5, 0, true, (Val.rows q0).flatten⟩), (2, ⟨5, 0, true, []⟩), (3, ⟨6, 0, true, []⟩)], 260⟩
theorem Q10z (p0 : List Toleration) (i0 : Nat) (v0_1 : List Val) : VOK (Go.Pv.look (number 0 (Qhm p0 i0 v0_1))) [(1, Val.rows v0_1)] := (VOK.cons (show Seen _ _ from Q3h (ob := ⟨5, 0, true, (Val.rows v0_1).flatten⟩) (Val.Q9 v0_1 5 rfl)) VOK.nil)
def Qfm (p0 : List Toleration) (e : En) (q : List Val) : Prop := ∃ z zo, Q6 G e (.st (.exit 0) (Qno p0 q z zo))
theorem Qrl (p0 : List Toleration) {e e' : En} (h : ∀ r, Q6 G e r → Q6 G e' r) : ∀ q, Qfm p0 e q → Qfm p0 e' q
  | _, ⟨z, zo, hz⟩ => ⟨z, zo, h _ hz⟩
def Qg4 (p0 : List Toleration) : Prop := (List.length p0 ≤ 137438953472) ∧ True
def Qpu (p0 : List Toleration) (i0 : Nat) (_v0_1 : List Val) : List PV :=
  [.sl (Toleration.rows p0), .un, .un, .un, .int .i64 (i0 : Int), .int .i64 (i0 : Int), .sl (Toleration.rows p0), .int .i64 ((List.length p0) : Int), .bool false]
def Qhy (_p0 : List Toleration) (_i0 : Nat) (_v0_1 : List Val) : List (Nat × List PV) :=
  []
theorem Q15w (p0 : List Toleration) (_H : Qg4 p0) (i0 : Nat) (v0_1 : List Val) (_ho0_0 : List.length v0_1 ≤ i0) (hc0 : (decide ((i0 : Int) < ((List.length p0) : Int))) = false) : Qfm p0 (Qfe p0 i0 v0_1) v0_1 := by
 exact ⟨(envF (Qpu p0 i0 v0_1)), (zoF (Qhy p0 i0 v0_1)), Qe (Q10z p0 i0 v0_1) (x := ((.exit 0), Qno p0 v0_1 (envF (Qpu p0 i0 v0_1)) (zoF (Qhy p0 i0 v0_1)))) [hP 2 (Qd (Toleration.rows p0) (List.length p0) (Toleration.Q5 p0)), hB 0 hc0] [] (by kernel_rfl)⟩
theorem Q144 (p0 : List Toleration) (H : Qg4 p0) (x0 : Toleration) (i0 : Nat) (v0_1 : List Val) (hx0 : p0[i0]? = some x0) (hi0 : i0 < List.length p0) (ho0_0 : List.length v0_1 ≤ i0) (hc0 : (decide ((i0 : Int) < ((List.length p0) : Int))) = true) {r : Rs} (hr : Q6 G (Qfe p0 (i0 + 1) (v0_1 ++ [(Q1k ([(Q0 Q1i (Qg x0.effect)), (Q0 Q1r (Q1c x0.exists_)), (Q0 Q1b (Qv x0.key)), (Q0 Q1n (Qg x0.seconds)), (Q0 Q1d (Qv x0.value))]))])) r) : Q6 G (Qfe p0 i0 v0_1) r := by
 have hB0 := H.1
 exact Ql (Q10z p0 i0 v0_1) (y := (Qvh p0 (i0 + 1) (v0_1 ++ [(Q1k ([(Q0 Q1i (Qg x0.effect)), (Q0 Q1r (Q1c x0.exists_)), (Q0 Q1b (Qv x0.key)), (Q0 Q1n (Qg x0.seconds)), (Q0 Q1d (Qv x0.value))]))]), Qhm p0 (i0 + 1) (v0_1 ++ [(Q1k ([(Q0 Q1i (Qg x0.effect)), (Q0 Q1r (Q1c x0.exists_)), (Q0 Q1b (Qv x0.key)), (Q0 Q1n (Qg x0.seconds)), (Q0 Q1d (Qv x0.value))]))]))) [hP 2 (Qd (Toleration.rows p0) (List.length p0) (Toleration.Q5 p0)), hB 0 hc0, hP 3 (Q1u 5 (Toleration.rows p0) i0 _ (Toleration.Qb hx0) rfl), hP 6 (Q1u 5 (Toleration.rows p0) i0 _ (Toleration.Qb hx0) rfl), hP 6 (Q1u 5 (Toleration.rows p0) i0 _ (Toleration.Qb hx0) rfl), hP 6 (Q1u 5 (Toleration.rows p0) i0 _ (Toleration.Qb hx0) rfl), hP 6 (Q1u 5 (Toleration.rows p0) i0 _ (Toleration.Qb hx0) rfl), hV 7 [(2756, Val.rows (v0_1 ++ [(Q1k ([(Q0 Q1i (Qg x0.effect)), (Q0 Q1r (Q1c x0.exists_)), (Q0 Q1b (Qv x0.key)), (Q0 Q1n (Qg x0.seconds)), (Q0 Q1d (Qv x0.value))]))]))] (Q55 1 2692 2756 5 80 0 0 true (Val.rows v0_1) (Val.rows (v0_1 ++ [(Q1k ([(Q0 Q1i (Qg x0.effect)), (Q0 Q1r (Q1c x0.exists_)), (Q0 Q1b (Qv x0.key)), (Q0 Q1n (Qg x0.seconds)), (Q0 Q1d (Qv x0.value))]))])) (Val.cells (Q1k ([(Q0 Q1i (Qg x0.effect)), (Q0 Q1r (Q1c x0.exists_)), (Q0 Q1b (Qv x0.key)), (Q0 Q1n (Qg x0.seconds)), (Q0 Q1d (Qv x0.value))]))) (List.length v0_1) (List.length (v0_1 ++ [(Q1k ([(Q0 Q1i (Qg x0.effect)), (Q0 Q1r (Q1c x0.exists_)), (Q0 Q1b (Qv x0.key)), (Q0 Q1n (Qg x0.seconds)), (Q0 Q1d (Qv x0.value))]))])) rfl (Val.Q5 v0_1).symm (Val.Q5 (v0_1 ++ [(Q1k ([(Q0 Q1i (Qg x0.effect)), (Q0 Q1r (Q1c x0.exists_)), (Q0 Q1b (Qv x0.key)), (Q0 Q1n (Qg x0.seconds)), (Q0 Q1d (Qv x0.value))]))])).symm (Val.Q12 v0_1 (Q1k ([(Q0 Q1i (Qg x0.effect)), (Q0 Q1r (Q1c x0.exists_)), (Q0 Q1b (Qv x0.key)), (Q0 Q1n (Qg x0.seconds)), (Q0 Q1d (Qv x0.value))]))) (Val.Qf v0_1) rfl (by omega)), hS 0 true (Val.Q9 (v0_1 ++ [(Q1k ([(Q0 Q1i (Qg x0.effect)), (Q0 Q1r (Q1c x0.exists_)), (Q0 Q1b (Qv x0.key)), (Q0 Q1n (Qg x0.seconds)), (Q0 Q1d (Qv x0.value))]))]) 5 rfl), hP 2 (Q27 i0 (by omega))] [aN (Q5r x0.effect), aN (Q2o Q1i (Qg x0.effect)), aN (Qvx x0.exists_), aN (Q2o Q1r (Q1c x0.exists_)), aN (Qeb x0.key), aN (Q2o Q1b (Qv x0.key)), aN (Q5r x0.seconds), aN (Q2o Q1n (Qg x0.seconds)), aN (Qeb x0.value), aN (Q2o Q1d (Qv x0.value)), aN (Q6j (e' := .call 70 [.sl [(Fld.cells (Q0 Q1i (Qg x0.effect))), (Fld.cells (Q0 Q1r (Q1c x0.exists_))), (Fld.cells (Q0 Q1b (Qv x0.key))), (Fld.cells (Q0 Q1n (Qg x0.seconds))), (Fld.cells (Q0 Q1d (Qv x0.value)))]] []) (Qic ([(Q0 Q1i (Qg x0.effect)), (Q0 Q1r (Q1c x0.exists_)), (Q0 Q1b (Qv x0.key)), (Q0 Q1n (Qg x0.seconds)), (Q0 Q1d (Qv x0.value))])) (by simp only [Qe4, Fld.Q2j, Fld.Q34]))] (by kernel_rfl) hr
theorem Qwi (p0 : List Toleration) (H : Qg4 p0) : ∀ (r0 : List Toleration) (i0 : Nat) (v0_1 : List Val), List.drop i0 p0 = r0 → List.length v0_1 ≤ i0 → Qfm p0 (Qfe p0 i0 v0_1) (Q4t p0 r0 i0 v0_1)
 | [], i0, v0_1, hd, ho0_0 => by
  have hc0 : (decide ((i0 : Int) < ((List.length p0) : Int))) = false := by have := Q1f hd; simp; omega
  rw [Q4t]
  exact Q15w p0 H i0 v0_1 ho0_0 hc0
 | x0 :: r0, i0, v0_1, hd, ho0_0 => by
  obtain ⟨hx0, hi0, hd'⟩ := Q11 hd
  have hc0 : (decide ((i0 : Int) < ((List.length p0) : Int))) = true := by simp; omega
  rw [Q4t]
  exact Qrl p0 (fun r hr => Q144 p0 H x0 i0 v0_1 hx0 hi0 ho0_0 hc0 hr) _ (Qwi p0 H r0 (i0 + 1) (v0_1 ++ [(Q1k ([(Q0 Q1i (Qg x0.effect)), (Q0 Q1r (Q1c x0.exists_)), (Q0 Q1b (Qv x0.key)), (Q0 Q1n (Qg x0.seconds)), (Q0 Q1d (Qv x0.value))]))]) hd' (by first | omega | (simp; omega)))
def Q176 (p0 : List Toleration) : Val := vL (p0.map Toleration.enc)
theorem Q1mr (p0 : List Toleration) : Q176 p0 = ((Ql9 (Q4t p0 p0 0 []))) := by
  rw [Q12a]
  rfl
def Q1oj (p0 : List Toleration) : En := .call 130 [.sl (Toleration.rows p0)] []
def Q1iv (p0 : List Toleration) : Rs := .ret (.agg (Val.cells (Q176 p0))) []
def Q1gu (p0 : List Toleration) : Prop := LSm Toleration.sm p0
theorem Q1aw (p0 : List Toleration) (H : Q1gu p0) : (Qg4 p0) ∧ True := by
  exact ⟨⟨Nat.le_trans H.1 (Nat.le_of_ble_eq_true rfl), trivial⟩, trivial⟩
theorem Q1nw (p0 : List Toleration) (H : Q1gu p0) : Q6 G (Q1oj p0) (Q1iv p0) := by
 unfold Q1iv
 rw [Q1mr]
 have hl0 := Qwi p0 ((Q1aw p0 H).1) p0 0 [] (by simp) (by simp)
 obtain ⟨z0, zo0, hl0⟩ := hl0
 exact Q7 (fn := Ir.K38) rfl VOK.nil [hS 0 true (Val.Q9 (Q4t p0 p0 0 []) 5 rfl), hQ (Val.Q5 (Q4t p0 p0 0 [])).symm] [aV [(1, Val.rows (Q4t p0 p0 0 []))] hl0, aN (Qrx (Q4t p0 p0 0 []))] (by kernel_rfl)
def Q1fi (p0 : PodSpec) : Val := PodSpec.enc p0
theorem Q1nh (p0 : PodSpec) : Q1fi p0 = ((Q1k ([(Q0 Qh (Q15x p0.containers)), (Q0 Q25 (Qg p0.grace)), (Q0 Q28 (Qv p0.node)), (Q0 Qk (Q2u p0.nodeSelector)), (Q0 Qs (Q16x p0.nodeTerms)), (Q0 Qz (Q149 p0.podTerms)), (Q0 Qx (Qg p0.priority)), (Q0 Q19 (Qg p0.restart)), (Q0 Q1q (Q14d p0.spread)), (Q0 Qq (Q176 p0.tolerations))]))) := by
  rfl
def Q1mf (p0 : PodSpec) : En := .call 59 [.agg (PodSpec.cells p0)] []
def Q1if (p0 : PodSpec) : Rs := .ret (.agg (Val.cells (Q1fi p0))) []
def Q1ft (p0 : PodSpec) : Prop := PodSpec.sm p0
theorem Q9s (p0 : PodSpec) (H : Q1ft p0) : (Q1gb p0.containers) ∧ (Q16b p0.nodeSelector) ∧ (Q1g0 p0.nodeTerms) ∧ (Q1gq p0.podTerms) ∧ (Q1g9 p0.spread) ∧ (Q1gu p0.tolerations) ∧ True := by
  repeat' with_reducible apply And.intro
  all_goals first | exact True.intro | exact H | exact H.1 | exact H.2.1 | exact H.2.2.1 | exact H.2.2.2.1 | exact H.2.2.2.2.1 | exact H.2.2.2.2.2.1 | exact H.2.2.2.2.2.2.1 | exact H.2.2.2.2.2.2.2.1 | exact H.2.2.2.2.2.2.2.2.1 | exact H.2.2.2.2.2.2.2.2.2.1 | exact H.2.2.2.2.2.2.2.2.2.2.1
theorem Q1ns (p0 : PodSpec) (H : Q1ft p0) : Q6 G (Q1mf p0) (Q1if p0) := by
 unfold Q1if
 rw [Q1nh]
 exact Q7 (fn := Ir.K2d) rfl VOK.nil [] [aN (Q1l7 p0.containers (Q9s p0 H).1), aN (Q2o Qh (Q15x p0.containers)), aN (Q5r p0.grace), aN (Q2o Q25 (Qg p0.grace)), aN (Qeb p0.node), aN (Q2o Q28 (Qv p0.node)), aN (Q1bx p0.nodeSelector (Q9s p0 H).2.1), aN (Q2o Qk (Q2u p0.nodeSelector)), aN (Q1pp p0.nodeTerms (Q9s p0 H).2.2.1), aN (Q2o Qs (Q16x p0.nodeTerms)), aN (Q1oq p0.podTerms (Q9s p0 H).2.2.2.1), aN (Q2o Qz (Q149 p0.podTerms)), aN (Q5r p0.priority), aN (Q2o Qx (Qg p0.priority)), aN (Q5r p0.restart), aN (Q2o Q19 (Qg p0.restart)), aN (Q1n7 p0.spread (Q9s p0 H).2.2.2.2.1), aN (Q2o Q1q (Q14d p0.spread)), aN (Q1nw p0.tolerations (Q9s p0 H).2.2.2.2.2.1), aN (Q2o Qq (Q176 p0.tolerations)), aN (Q6j (e' := .call 70 [.sl [(Fld.cells (Q0 Qh (Q15x p0.containers))), (Fld.cells (Q0 Q25 (Qg p0.grace))), (Fld.cells (Q0 Q28 (Qv p0.node))), (Fld.cells (Q0 Qk (Q2u p0.nodeSelector))), (Fld.cells (Q0 Qs (Q16x p0.nodeTerms))), (Fld.cells (Q0 Qz (Q149 p0.podTerms))), (Fld.cells (Q0 Qx (Qg p0.priority))), (Fld.cells (Q0 Q19 (Qg p0.restart))), (Fld.cells (Q0 Q1q (Q14d p0.spread))), (Fld.cells (Q0 Qq (Q176 p0.tolerations)))]] []) (Qic ([(Q0 Qh (Q15x p0.containers)), (Q0 Q25 (Qg p0.grace)), (Q0 Q28 (Qv p0.node)), (Q0 Qk (Q2u p0.nodeSelector)), (Q0 Qs (Q16x p0.nodeTerms)), (Q0 Qz (Q149 p0.podTerms)), (Q0 Qx (Qg p0.priority)), (Q0 Q19 (Qg p0.restart)), (Q0 Q1q (Q14d p0.spread)), (Q0 Qq (Q176 p0.tolerations))])) (by simp only [Qe4, Fld.Q2j, Fld.Q34]))] (by kernel_rfl)
def Q4l (p0 : List ContainerStatus) : List ContainerStatus → Nat → (List Val) → List Val
 | [], _i0, v0_1 =>
  v0_1
 | x0 :: r0, i0, v0_1 =>
  Q4l p0 r0 (i0 + 1) (v0_1 ++ [(Q1k ([(Q0 Qy (Qg x0.exitCode)), (Q0 Qr (Qv x0.name)), (Q0 Qn (Q1c x0.ready)), (Q0 Qw (Qg x0.restarts)), (Q0 Q1v (Qg x0.since)), (Q0 Qt (Q1c x0.started)), (Q0 Q1t (Qg x0.state))]))])
theorem Q11b (p0 : List ContainerStatus) : ∀ (l : List ContainerStatus) (i : Nat) (a : List Val), Q4l p0 l i a = a ++ l.map (fun x0 => (Q1k ([(Q0 Qy (Qg x0.exitCode)), (Q0 Qr (Qv x0.name)), (Q0 Qn (Q1c x0.ready)), (Q0 Qw (Qg x0.restarts)), (Q0 Q1v (Qg x0.since)), (Q0 Qt (Q1c x0.started)), (Q0 Q1t (Qg x0.state))])))
  | [], _, _ => by simp [Q4l]
  | x :: r, i, a => by rw [Q4l, Q11b p0 r]; simp
def Qxh (p0 : List ContainerStatus) (i0 : Nat) (v0_1 : List Val) : List PV :=
  [.sl (ContainerStatus.rows p0), .un, .bx 0 0, .ms 1 5 0 (List.length v0_1), .int .i64 (i0 : Int)] ++ nuns 46
def Qip (_p0 : List ContainerStatus) (_i0 : Nat) (v0_1 : List Val) : List Ob :=
  [⟨5, 0, true, [.int .i64 0, .int .i64 0, .str eB, .ms 2 5 0 0, .ms 3 6 0 0]⟩, ⟨5, 0, true, (Val.rows v0_1).flatten⟩, ⟨5, 0, true, []⟩, ⟨6, 0, true, []⟩]
def Qef (p0 : List ContainerStatus) (i0 : Nat) (v0_1 : List Val) : En := .loop 0 Ir.Qlw Ir.Q1d4 (Qxh p0 i0 v0_1) (Qip p0 i0 v0_1)
def Qq2 (_p0 : List ContainerStatus) (q0 : List Val) (z : Nat → PV) (_zo : Nat → List PV) : St :=
  ⟨[z 0, z 1, .bx 0 0, .ms 1 5 0 (List.length q0)] ++ zr z 4 47, [(0, ⟨5, 0, true, [.int .i64 0, .int .i64 0, .str eB, .ms 2 5 0 0, .ms 3 6 0 0]⟩), (1, ⟨5, 0, true, (Val.rows q0).flatten⟩), (2, ⟨5, 0, true, []⟩), (3, ⟨6, 0, true, []⟩)], 260⟩
theorem Qzu (p0 : List ContainerStatus) (i0 : Nat) (v0_1 : List Val) : VOK (Go.Pv.look (number 0 (Qip p0 i0 v0_1))) [(1, Val.rows v0_1)] := (VOK.cons (show Seen _ _ from Q3h (ob := ⟨5, 0, true, (Val.rows v0_1).flatten⟩) (Val.Q9 v0_1 5 rfl)) VOK.nil)
def Qez (p0 : List ContainerStatus) (e : En) (q : List Val) : Prop := ∃ z zo, Q6 G e (.st (.exit 0) (Qq2 p0 q z zo))
theorem Qrc (p0 : List ContainerStatus) {e e' : En} (h : ∀ r, Q6 G e r → Q6 G e' r) : ∀ q, Qez p0 e q → Qez p0 e' q
  | _, ⟨z, zo, hz⟩ => ⟨z, zo, h _ hz⟩
def Qgt (p0 : List ContainerStatus) : Prop := (List.length p0 ≤ 137438953472) ∧ True
def Qqw (p0 : List ContainerStatus) (i0 : Nat) (_v0_1 : List Val) : List PV :=
  [.sl (ContainerStatus.rows p0), .un, .un, .un, .int .i64 (i0 : Int), .un, .int .i64 (i0 : Int), .sl (ContainerStatus.rows p0), .int .i64 ((List.length p0) : Int), .bool false]
def Qkc (_p0 : List ContainerStatus) (_i0 : Nat) (_v0_1 : List Val) : List (Nat × List PV) :=
  []
theorem Q13b (p0 : List ContainerStatus) (_H : Qgt p0) (i0 : Nat) (v0_1 : List Val) (_ho0_0 : List.length v0_1 ≤ i0) (hc0 : (decide ((i0 : Int) < ((List.length p0) : Int))) = false) : Qez p0 (Qef p0 i0 v0_1) v0_1 := by
 exact ⟨(envF (Qqw p0 i0 v0_1)), (zoF (Qkc p0 i0 v0_1)), Qe (Qzu p0 i0 v0_1) (x := ((.exit 0), Qq2 p0 v0_1 (envF (Qqw p0 i0 v0_1)) (zoF (Qkc p0 i0 v0_1)))) [hP 2 (Qd (ContainerStatus.rows p0) (List.length p0) (ContainerStatus.Q5 p0)), hB 0 hc0] [] (by kernel_rfl)⟩
theorem Q17d (p0 : List ContainerStatus) (H : Qgt p0) (x0 : ContainerStatus) (i0 : Nat) (v0_1 : List Val) (hx0 : p0[i0]? = some x0) (hi0 : i0 < List.length p0) (ho0_0 : List.length v0_1 ≤ i0) (hc0 : (decide ((i0 : Int) < ((List.length p0) : Int))) = true) {r : Rs} (hr : Q6 G (Qef p0 (i0 + 1) (v0_1 ++ [(Q1k ([(Q0 Qy (Qg x0.exitCode)), (Q0 Qr (Qv x0.name)), (Q0 Qn (Q1c x0.ready)), (Q0 Qw (Qg x0.restarts)), (Q0 Q1v (Qg x0.since)), (Q0 Qt (Q1c x0.started)), (Q0 Q1t (Qg x0.state))]))])) r) : Q6 G (Qef p0 i0 v0_1) r := by
 have hB0 := H.1
 exact Ql (Qzu p0 i0 v0_1) (y := (Qxh p0 (i0 + 1) (v0_1 ++ [(Q1k ([(Q0 Qy (Qg x0.exitCode)), (Q0 Qr (Qv x0.name)), (Q0 Qn (Q1c x0.ready)), (Q0 Qw (Qg x0.restarts)), (Q0 Q1v (Qg x0.since)), (Q0 Qt (Q1c x0.started)), (Q0 Q1t (Qg x0.state))]))]), Qip p0 (i0 + 1) (v0_1 ++ [(Q1k ([(Q0 Qy (Qg x0.exitCode)), (Q0 Qr (Qv x0.name)), (Q0 Qn (Q1c x0.ready)), (Q0 Qw (Qg x0.restarts)), (Q0 Q1v (Qg x0.since)), (Q0 Qt (Q1c x0.started)), (Q0 Q1t (Qg x0.state))]))]))) [hP 2 (Qd (ContainerStatus.rows p0) (List.length p0) (ContainerStatus.Q5 p0)), hB 0 hc0, hP 2 (Q1u 7 (ContainerStatus.rows p0) i0 _ (ContainerStatus.Qb hx0) rfl), hV 35 [(2692, Val.rows (v0_1 ++ [(Q1k ([(Q0 Qy (Qg x0.exitCode)), (Q0 Qr (Qv x0.name)), (Q0 Qn (Q1c x0.ready)), (Q0 Qw (Qg x0.restarts)), (Q0 Q1v (Qg x0.since)), (Q0 Qt (Q1c x0.started)), (Q0 Q1t (Qg x0.state))]))]))] (Q55 1 2628 2692 5 80 0 0 true (Val.rows v0_1) (Val.rows (v0_1 ++ [(Q1k ([(Q0 Qy (Qg x0.exitCode)), (Q0 Qr (Qv x0.name)), (Q0 Qn (Q1c x0.ready)), (Q0 Qw (Qg x0.restarts)), (Q0 Q1v (Qg x0.since)), (Q0 Qt (Q1c x0.started)), (Q0 Q1t (Qg x0.state))]))])) (Val.cells (Q1k ([(Q0 Qy (Qg x0.exitCode)), (Q0 Qr (Qv x0.name)), (Q0 Qn (Q1c x0.ready)), (Q0 Qw (Qg x0.restarts)), (Q0 Q1v (Qg x0.since)), (Q0 Qt (Q1c x0.started)), (Q0 Q1t (Qg x0.state))]))) (List.length v0_1) (List.length (v0_1 ++ [(Q1k ([(Q0 Qy (Qg x0.exitCode)), (Q0 Qr (Qv x0.name)), (Q0 Qn (Q1c x0.ready)), (Q0 Qw (Qg x0.restarts)), (Q0 Q1v (Qg x0.since)), (Q0 Qt (Q1c x0.started)), (Q0 Q1t (Qg x0.state))]))])) rfl (Val.Q5 v0_1).symm (Val.Q5 (v0_1 ++ [(Q1k ([(Q0 Qy (Qg x0.exitCode)), (Q0 Qr (Qv x0.name)), (Q0 Qn (Q1c x0.ready)), (Q0 Qw (Qg x0.restarts)), (Q0 Q1v (Qg x0.since)), (Q0 Qt (Q1c x0.started)), (Q0 Q1t (Qg x0.state))]))])).symm (Val.Q12 v0_1 (Q1k ([(Q0 Qy (Qg x0.exitCode)), (Q0 Qr (Qv x0.name)), (Q0 Qn (Q1c x0.ready)), (Q0 Qw (Qg x0.restarts)), (Q0 Q1v (Qg x0.since)), (Q0 Qt (Q1c x0.started)), (Q0 Q1t (Qg x0.state))]))) (Val.Qf v0_1) rfl (by omega)), hS 0 true (Val.Q9 (v0_1 ++ [(Q1k ([(Q0 Qy (Qg x0.exitCode)), (Q0 Qr (Qv x0.name)), (Q0 Qn (Q1c x0.ready)), (Q0 Qw (Qg x0.restarts)), (Q0 Q1v (Qg x0.since)), (Q0 Qt (Q1c x0.started)), (Q0 Q1t (Qg x0.state))]))]) 5 rfl), hP 2 (Q27 i0 (by omega))] [aN (Q5r x0.exitCode), aN (Q2o Qy (Qg x0.exitCode)), aN (Qeb x0.name), aN (Q2o Qr (Qv x0.name)), aN (Qvx x0.ready), aN (Q2o Qn (Q1c x0.ready)), aN (Q5r x0.restarts), aN (Q2o Qw (Qg x0.restarts)), aN (Q5r x0.since), aN (Q2o Q1v (Qg x0.since)), aN (Qvx x0.started), aN (Q2o Qt (Q1c x0.started)), aN (Q5r x0.state), aN (Q2o Q1t (Qg x0.state)), aN (Q6j (e' := .call 70 [.sl [(Fld.cells (Q0 Qy (Qg x0.exitCode))), (Fld.cells (Q0 Qr (Qv x0.name))), (Fld.cells (Q0 Qn (Q1c x0.ready))), (Fld.cells (Q0 Qw (Qg x0.restarts))), (Fld.cells (Q0 Q1v (Qg x0.since))), (Fld.cells (Q0 Qt (Q1c x0.started))), (Fld.cells (Q0 Q1t (Qg x0.state)))]] []) (Qic ([(Q0 Qy (Qg x0.exitCode)), (Q0 Qr (Qv x0.name)), (Q0 Qn (Q1c x0.ready)), (Q0 Qw (Qg x0.restarts)), (Q0 Q1v (Qg x0.since)), (Q0 Qt (Q1c x0.started)), (Q0 Q1t (Qg x0.state))])) (by simp only [Qe4, Fld.Q2j, Fld.Q34]))] (by kernel_rfl) hr
theorem Qwp (p0 : List ContainerStatus) (H : Qgt p0) : ∀ (r0 : List ContainerStatus) (i0 : Nat) (v0_1 : List Val), List.drop i0 p0 = r0 → List.length v0_1 ≤ i0 → Qez p0 (Qef p0 i0 v0_1) (Q4l p0 r0 i0 v0_1)
 | [], i0, v0_1, hd, ho0_0 => by
  have hc0 : (decide ((i0 : Int) < ((List.length p0) : Int))) = false := by have := Q1f hd; simp; omega
  rw [Q4l]
  exact Q13b p0 H i0 v0_1 ho0_0 hc0
 | x0 :: r0, i0, v0_1, hd, ho0_0 => by
  obtain ⟨hx0, hi0, hd'⟩ := Q11 hd
  have hc0 : (decide ((i0 : Int) < ((List.length p0) : Int))) = true := by simp; omega
  rw [Q4l]
  exact Qrc p0 (fun r hr => Q17d p0 H x0 i0 v0_1 hx0 hi0 ho0_0 hc0 hr) _ (Qwp p0 H r0 (i0 + 1) (v0_1 ++ [(Q1k ([(Q0 Qy (Qg x0.exitCode)), (Q0 Qr (Qv x0.name)), (Q0 Qn (Q1c x0.ready)), (Q0 Qw (Qg x0.restarts)), (Q0 Q1v (Qg x0.since)), (Q0 Qt (Q1c x0.started)), (Q0 Q1t (Qg x0.state))]))]) hd' (by first | omega | (simp; omega)))
def Q142 (p0 : List ContainerStatus) : Val := vL (p0.map ContainerStatus.enc)
theorem Q1m3 (p0 : List ContainerStatus) : Q142 p0 = ((Ql9 (Q4l p0 p0 0 []))) := by
  rw [Q11b]
  rfl
def Q1o5 (p0 : List ContainerStatus) : En := .call 131 [.sl (ContainerStatus.rows p0)] []
def Q1jm (p0 : List ContainerStatus) : Rs := .ret (.agg (Val.cells (Q142 p0))) []
def Q1ew (p0 : List ContainerStatus) : Prop := LSm ContainerStatus.sm p0
theorem Q1cr (p0 : List ContainerStatus) (H : Q1ew p0) : (Qgt p0) ∧ True := by
  exact ⟨⟨Nat.le_trans H.1 (Nat.le_of_ble_eq_true rfl), trivial⟩, trivial⟩
theorem Q1nb (p0 : List ContainerStatus) (H : Q1ew p0) : Q6 G (Q1o5 p0) (Q1jm p0) := by
 unfold Q1jm
 rw [Q1m3]
 have hl0 := Qwp p0 ((Q1cr p0 H).1) p0 0 [] (by simp) (by simp)
 obtain ⟨z0, zo0, hl0⟩ := hl0
 exact Q7 (fn := Ir.K36) rfl VOK.nil [hS 0 true (Val.Q9 (Q4l p0 p0 0 []) 5 rfl), hQ (Val.Q5 (Q4l p0 p0 0 [])).symm] [aV [(1, Val.rows (Q4l p0 p0 0 []))] hl0, aN (Qrx (Q4l p0 p0 0 []))] (by kernel_rfl)
def Q1f0 (p0 : PodStatus) : Val := PodStatus.enc p0
theorem Q1pi (p0 : PodStatus) : Q1f0 p0 = ((Q1k ([(Q0 Q2a (Qg p0.address)), (Q0 Qh (Q142 p0.containers)), (Q0 Q2i (Qg p0.finished)), (Q0 Q21 (Qv p0.nominated)), (Q0 Q2n (Qg p0.phase)), (Q0 Qn (Q1c p0.ready)), (Q0 Q1l (Qg p0.readySince)), (Q0 Q2y (Qv p0.reason)), (Q0 Qt (Qg p0.started))]))) := by
  rfl
def Q1l3 (p0 : PodStatus) : En := .call 60 [.agg (PodStatus.cells p0)] []
def Q1j5 (p0 : PodStatus) : Rs := .ret (.agg (Val.cells (Q1f0 p0))) []
def Q1ey (p0 : PodStatus) : Prop := PodStatus.sm p0
theorem Q1aq (p0 : PodStatus) (H : Q1ey p0) : (Q1ew p0.containers) ∧ True := by
  repeat' with_reducible apply And.intro
  all_goals first | exact True.intro | exact H | exact H.1 | exact H.2.1 | exact H.2.2.1 | exact H.2.2.2.1 | exact H.2.2.2.2.1 | exact H.2.2.2.2.2.1 | exact H.2.2.2.2.2.2.1 | exact H.2.2.2.2.2.2.2.1 | exact H.2.2.2.2.2.2.2.2.1 | exact H.2.2.2.2.2.2.2.2.2.1 | exact H.2.2.2.2.2.2.2.2.2.2.1
theorem Q1nu (p0 : PodStatus) (H : Q1ey p0) : Q6 G (Q1l3 p0) (Q1j5 p0) := by
 unfold Q1j5
 rw [Q1pi]
 exact Q7 (fn := Ir.K35) rfl VOK.nil [] [aN (Q5r p0.address), aN (Q2o Q2a (Qg p0.address)), aN (Q1nb p0.containers (Q1aq p0 H).1), aN (Q2o Qh (Q142 p0.containers)), aN (Q5r p0.finished), aN (Q2o Q2i (Qg p0.finished)), aN (Qeb p0.nominated), aN (Q2o Q21 (Qv p0.nominated)), aN (Q5r p0.phase), aN (Q2o Q2n (Qg p0.phase)), aN (Qvx p0.ready), aN (Q2o Qn (Q1c p0.ready)), aN (Q5r p0.readySince), aN (Q2o Q1l (Qg p0.readySince)), aN (Qeb p0.reason), aN (Q2o Q2y (Qv p0.reason)), aN (Q5r p0.started), aN (Q2o Qt (Qg p0.started)), aN (Q6j (e' := .call 70 [.sl [(Fld.cells (Q0 Q2a (Qg p0.address))), (Fld.cells (Q0 Qh (Q142 p0.containers))), (Fld.cells (Q0 Q2i (Qg p0.finished))), (Fld.cells (Q0 Q21 (Qv p0.nominated))), (Fld.cells (Q0 Q2n (Qg p0.phase))), (Fld.cells (Q0 Qn (Q1c p0.ready))), (Fld.cells (Q0 Q1l (Qg p0.readySince))), (Fld.cells (Q0 Q2y (Qv p0.reason))), (Fld.cells (Q0 Qt (Qg p0.started)))]] []) (Qic ([(Q0 Q2a (Qg p0.address)), (Q0 Qh (Q142 p0.containers)), (Q0 Q2i (Qg p0.finished)), (Q0 Q21 (Qv p0.nominated)), (Q0 Q2n (Qg p0.phase)), (Q0 Qn (Q1c p0.ready)), (Q0 Q1l (Qg p0.readySince)), (Q0 Q2y (Qv p0.reason)), (Q0 Qt (Qg p0.started))])) (by simp only [Qe4, Fld.Q2j, Fld.Q34]))] (by kernel_rfl)
end Go.Proofs.YtiflaadeikaghaaGreat
end

