/- Texts of the claim, merged by a program; what the statement does not reach is left out. -/
import Derived.Test.YtiflaadeikaghaaGreatBPodcodecMissing4

section
/- What the program's decoders compute (printed by a program). -/
namespace Go.Proofs.YtiflaadeikaghaaGreat
open Go.Pv
structure Decoder where
  failed : Bool
def Decoder.cells (x : Decoder) : List PV :=
  [.bool x.failed]
def Decoder.rows (l : List Decoder) : List (List PV) := l.map Decoder.cells
theorem Decoder.Q0 (l : List Decoder) : (Decoder.rows l).length = l.length := by simp [Decoder.rows]
theorem Decoder.Qb {l : List Decoder} {i : Nat} {x : Decoder} (h : l[i]? = some x) : (Decoder.rows l)[i]? = some (Decoder.cells x) := Go.Pv.Qb h
theorem Decoder.Q15 (l : List Decoder) (x : Decoder) : Decoder.rows (l ++ [x]) = Decoder.rows l ++ [Decoder.cells x] := by simp [Decoder.rows]
theorem Decoder.Q2k (l m : List Decoder) : Decoder.rows (l ++ m) = Decoder.rows l ++ Decoder.rows m := by simp [Decoder.rows]
theorem Decoder.Q2j (l : List Decoder) (k : Nat) (x : Decoder) : Decoder.rows (l.set k x) = (Decoder.rows l).set k (Decoder.cells x) := by simp [Decoder.rows, List.map_set]
theorem Decoder.Q2t (l : List Decoder) (n : Nat) : Decoder.rows (l.take n) = (Decoder.rows l).take n := by simp [Decoder.rows, List.map_take]
theorem Decoder.Q2u (l : List Decoder) (n : Nat) : Decoder.rows (l.drop n) = (Decoder.rows l).drop n := by simp [Decoder.rows, List.map_drop]
theorem Decoder.Qd (l : List Decoder) : ∀ r ∈ Decoder.rows l, r.length = 1 := Q35 (f := Decoder.cells) (fun _ => rfl) l
theorem Decoder.Q7 (l : List Decoder) (sz : Nat) (h : sz = 1) : ViewOK sz (Decoder.rows l).flatten (Decoder.rows l) := by subst h; exact ⟨rfl, Decoder.Qd l, Q2o (f := Decoder.cells) (fun _ => rfl) l⟩
def ft (o : Decoder) (b : Bool) : Decoder := ⟨o.failed || !b⟩
theorem Qi0 (o : Decoder) (a b : Bool) : ft (ft o a) b = ft o (a && b) := by
  unfold ft
  simp only [Bool.not_and, Bool.or_assoc]
theorem Q5a (o : Decoder) (b : Bool) : (ft o b).failed = (o.failed || !b) := rfl
theorem Q5b (o : Decoder) (b : Bool) : Decoder.mk (o.failed || !b) = ft o b := rfl
theorem getL (p1 : Val) (p2 : BA) : (bif (prt p1 p2).kind == 4 then prt p1 p2 else vZ).list = (dL p1 p2).1 := by
  unfold dL xL
  cases ((prt p1 p2).kind == 4) <;> rfl
theorem Q85 (f m x y q : Bool) (h : x = y) : ((f || !(m && x)) || !q) = (f || !(m && (y && q))) := by subst h; cases f <;> cases m <;> cases x <;> cases q <;> rfl
theorem Qtd (x : Val) : ((x.kind == 4) || (x.kind == 0)) = (xL x).2 := by unfold xL; cases (x.kind == 4) <;> rfl
def s_Kw (p1 : Val) (o0 : Decoder) : Val × Decoder := (p1, ft o0 (isM p1))
theorem e_Kw (p1 : Val) (o0 : Decoder) : s_Kw p1 o0 = (bif o0.failed then
    (p1, (Decoder.mk true))
  else
    bif (p1.kind == 5) then
      (p1, (Decoder.mk false))
    else
      (p1, (Decoder.mk (!(p1.kind == 0))))) := by
  obtain ⟨b⟩ := o0
  unfold s_Kw ft isM
  cases b <;> cases (p1.kind == 5) <;> cases (p1.kind == 0) <;> rfl
def c_Kw (p1 : Val) (o0 : Decoder) : En := .call 36 [.bx 0 0, .agg (Val.cells p1)] [⟨1, 0, false, (Decoder.cells o0)⟩]
def r_Kw (_p1 : Val) (_o0 : Decoder) (q0 : Val) (q1 : Decoder) : Rs := .ret (.agg (Val.cells q0)) [⟨1, 0, false, (Decoder.cells q1)⟩]
def a_Kw (p1 : Val) (o0 : Decoder) : Rs := r_Kw p1 o0 (s_Kw p1 o0).1 (s_Kw p1 o0).2
theorem t_Kw (p1 : Val) (o0 : Decoder) : Q6 G (c_Kw p1 o0) (a_Kw p1 o0) := by
 unfold a_Kw
 rw [e_Kw]
 cases h0 : o0.failed with
 | true =>
  exact Q8 (fn := Ir.Kw) rfl (h := [⟨1, 0, false, (Decoder.cells o0)⟩]) (vw := []) VOK.nil [hP 6 (decR o0.failed true [0] h0)] [] (by kernel_rfl)
 | false =>
  cases h1 : (p1.kind == 5) with
  | true =>
   exact Q8 (fn := Ir.Kw) rfl (h := [⟨1, 0, false, (Decoder.cells o0)⟩]) (vw := []) VOK.nil [hP 6 (decR o0.failed false [0] h0), hP 3 (dec (!(p1.kind == 5)) false (by rw [h1]; rfl))] [] (by kernel_rfl)
  | false =>
   exact Q8 (fn := Ir.Kw) rfl (h := [⟨1, 0, false, (Decoder.cells o0)⟩]) (vw := []) VOK.nil [hP 6 (decR o0.failed false [0] h0), hP 3 (dec (!(p1.kind == 5)) true (by rw [h1]; rfl))] [] (by kernel_rfl)
def s_Kj (p1 : Val) (p2 : BA) (p3 : Int) (o0 : Decoder) : Val × Decoder := (bif (prt p1 p2).kind == p3 then prt p1 p2 else vZ, ft o0 (isM p1 && ((prt p1 p2).kind == p3 || (prt p1 p2).kind == 0)))
theorem e_Kj (p1 : Val) (p2 : BA) (p3 : Int) (o0 : Decoder) : s_Kj p1 p2 p3 o0 = (bif (p1.kind == 5) then
    bif ((Qt7 p1 p2).1.kind == p3) then
      ((Qt7 p1 p2).1, o0)
    else
      bif o0.failed then
        ((Val.mk 0 0 eB [] []), (Decoder.mk true))
      else
        ((Val.mk 0 0 eB [] []), (Decoder.mk (!((Qt7 p1 p2).1.kind == 0))))
  else
    bif o0.failed then
      ((Val.mk 0 0 eB [] []), (Decoder.mk true))
    else
      ((Val.mk 0 0 eB [] []), (Decoder.mk (!(p1.kind == 0))))) := by
  obtain ⟨b⟩ := o0
  unfold s_Kj ft
  rw [vprt]
  cases h : (p1.kind == 5) with
  | true =>
    rw [Q1b0 h]
    cases b <;> cases ((prt p1 p2).kind == p3) <;> cases ((prt p1 p2).kind == 0) <;> rfl
  | false =>
    rw [Q3x h, Q4d h]
    cases b <;> cases (p1.kind == 0) <;> cases (vZ.kind == p3) <;> rfl
def c_Kj (p1 : Val) (p2 : BA) (p3 : Int) (o0 : Decoder) : En := .call 106 [.bx 0 0, .agg (Val.cells p1), .str p2, .int .i64 p3] [⟨1, 0, false, (Decoder.cells o0)⟩]
def r_Kj (_p1 : Val) (_p2 : BA) (_p3 : Int) (_o0 : Decoder) (q0 : Val) (q1 : Decoder) : Rs := .ret (.agg (Val.cells q0)) [⟨1, 0, false, (Decoder.cells q1)⟩]
def a_Kj (p1 : Val) (p2 : BA) (p3 : Int) (o0 : Decoder) : Rs := r_Kj p1 p2 p3 o0 (s_Kj p1 p2 p3 o0).1 (s_Kj p1 p2 p3 o0).2
def H_Kj (p1 : Val) : Prop := Val.Sm 1000000000 p1
theorem Qzt (p1 : Val) (p2 : BA) (_p3 : Int) (_o0 : Decoder) (H : H_Kj p1) : (Q1ft p1 p2) ∧ True := by
  exact ⟨Q1ny H _, trivial⟩
theorem t_Kj (p1 : Val) (p2 : BA) (p3 : Int) (o0 : Decoder) (H : H_Kj p1) : Q6 G (c_Kj p1 p2 p3 o0) (a_Kj p1 p2 p3 o0) := by
 unfold a_Kj
 rw [e_Kj]
 cases h0 : (p1.kind == 5) with
 | true =>
  cases h1 : ((Qt7 p1 p2).1.kind == p3) with
  | true =>
   exact Q8 (fn := Ir.Kj) rfl (h := [⟨1, 0, false, (Decoder.cells o0)⟩]) (vw := []) VOK.nil [hP 4 (dec (!(p1.kind == 5)) false (by rw [h0]; rfl)), hB 12 h1] [aN (Q1gc p1 p2 (Qzt p1 p2 p3 o0 H).1)] (by kernel_rfl)
  | false =>
   cases h2 : o0.failed with
   | true =>
    exact Q8 (fn := Ir.Kj) rfl (h := [⟨1, 0, false, (Decoder.cells o0)⟩]) (vw := []) VOK.nil [hP 4 (dec (!(p1.kind == 5)) false (by rw [h0]; rfl)), hB 12 h1, hP 4 (decR o0.failed true [0] h2)] [aN (Q1gc p1 p2 (Qzt p1 p2 p3 o0 H).1)] (by kernel_rfl)
   | false =>
    exact Q8 (fn := Ir.Kj) rfl (h := [⟨1, 0, false, (Decoder.cells o0)⟩]) (vw := []) VOK.nil [hP 4 (dec (!(p1.kind == 5)) false (by rw [h0]; rfl)), hB 12 h1, hP 4 (decR o0.failed false [0] h2)] [aN (Q1gc p1 p2 (Qzt p1 p2 p3 o0 H).1)] (by kernel_rfl)
 | false =>
  cases h1 : o0.failed with
  | true =>
   exact Q8 (fn := Ir.Kj) rfl (h := [⟨1, 0, false, (Decoder.cells o0)⟩]) (vw := []) VOK.nil [hP 4 (dec (!(p1.kind == 5)) true (by rw [h0]; rfl)), hP 4 (decR o0.failed true [0] h1)] [] (by kernel_rfl)
  | false =>
   exact Q8 (fn := Ir.Kj) rfl (h := [⟨1, 0, false, (Decoder.cells o0)⟩]) (vw := []) VOK.nil [hP 4 (dec (!(p1.kind == 5)) true (by rw [h0]; rfl)), hP 4 (decR o0.failed false [0] h1)] [] (by kernel_rfl)
def s_Kn (p1 : Val) (p2 : BA) (o0 : Decoder) : Int × Decoder := ((dN p1 p2).1, ft o0 (isM p1 && (dN p1 p2).2))
theorem e_Kn (p1 : Val) (p2 : BA) (o0 : Decoder) : s_Kn p1 p2 o0 = (((s_Kj p1 p2 2 o0).1.n, (s_Kj p1 p2 2 o0).2)) := by
  unfold s_Kn s_Kj dN xN
  cases ((prt p1 p2).kind == 2) <;> rfl
def c_Kn (p1 : Val) (p2 : BA) (o0 : Decoder) : En := .call 39 [.bx 0 0, .agg (Val.cells p1), .str p2] [⟨1, 0, false, (Decoder.cells o0)⟩]
def r_Kn (_p1 : Val) (_p2 : BA) (_o0 : Decoder) (q0 : Int) (q1 : Decoder) : Rs := .ret (.int .i64 q0) [⟨1, 0, false, (Decoder.cells q1)⟩]
def a_Kn (p1 : Val) (p2 : BA) (o0 : Decoder) : Rs := r_Kn p1 p2 o0 (s_Kn p1 p2 o0).1 (s_Kn p1 p2 o0).2
def H_Kn (p1 : Val) : Prop := Val.Sm 1000000000 p1
theorem Q1h7 (p1 : Val) (_p2 : BA) (_o0 : Decoder) (H : H_Kn p1) : (H_Kj p1) ∧ True := by
  exact ⟨H, trivial⟩
theorem t_Kn (p1 : Val) (p2 : BA) (o0 : Decoder) (H : H_Kn p1) : Q6 G (c_Kn p1 p2 o0) (a_Kn p1 p2 o0) := by
 unfold a_Kn
 rw [e_Kn]
 exact Q8 (fn := Ir.Kn) rfl (h := [⟨1, 0, false, (Decoder.cells o0)⟩]) (vw := []) VOK.nil [] [aN (t_Kj p1 p2 2 o0 (Q1h7 p1 p2 o0 H).1)] (by kernel_rfl)
def s_Kv (p1 : Val) (p2 : BA) (o0 : Decoder) : ByteArray × Decoder := ((dS p1 p2).1, ft o0 (isM p1 && (dS p1 p2).2))
theorem e_Kv (p1 : Val) (p2 : BA) (o0 : Decoder) : s_Kv p1 p2 o0 = (((s_Kj p1 p2 3 o0).1.s, (s_Kj p1 p2 3 o0).2)) := by
  unfold s_Kv s_Kj dS xS
  cases ((prt p1 p2).kind == 3) <;> rfl
def c_Kv (p1 : Val) (p2 : BA) (o0 : Decoder) : En := .call 84 [.bx 0 0, .agg (Val.cells p1), .str p2] [⟨1, 0, false, (Decoder.cells o0)⟩]
def r_Kv (_p1 : Val) (_p2 : BA) (_o0 : Decoder) (q0 : BA) (q1 : Decoder) : Rs := .ret (.str q0) [⟨1, 0, false, (Decoder.cells q1)⟩]
def a_Kv (p1 : Val) (p2 : BA) (o0 : Decoder) : Rs := r_Kv p1 p2 o0 (s_Kv p1 p2 o0).1 (s_Kv p1 p2 o0).2
def H_Kv (p1 : Val) : Prop := Val.Sm 1000000000 p1
theorem Q1fm (p1 : Val) (_p2 : BA) (_o0 : Decoder) (H : H_Kv p1) : (H_Kj p1) ∧ True := by
  exact ⟨H, trivial⟩
theorem t_Kv (p1 : Val) (p2 : BA) (o0 : Decoder) (H : H_Kv p1) : Q6 G (c_Kv p1 p2 o0) (a_Kv p1 p2 o0) := by
 unfold a_Kv
 rw [e_Kv]
 exact Q8 (fn := Ir.Kv) rfl (h := [⟨1, 0, false, (Decoder.cells o0)⟩]) (vw := []) VOK.nil [] [aN (t_Kj p1 p2 3 o0 (Q1fm p1 p2 o0 H).1)] (by kernel_rfl)
def s_Ki (p1 : Val) (p2 : BA) (o0 : Decoder) : Bool × Decoder := ((dB p1 p2).1, ft o0 (isM p1 && (dB p1 p2).2))
theorem e_Ki (p1 : Val) (p2 : BA) (o0 : Decoder) : s_Ki p1 p2 o0 = (((!((s_Kj p1 p2 1 o0).1.n == 0)), (s_Kj p1 p2 1 o0).2)) := by
  unfold s_Ki s_Kj dB xB
  cases ((prt p1 p2).kind == 1) <;> rfl
def c_Ki (p1 : Val) (p2 : BA) (o0 : Decoder) : En := .call 40 [.bx 0 0, .agg (Val.cells p1), .str p2] [⟨1, 0, false, (Decoder.cells o0)⟩]
def r_Ki (_p1 : Val) (_p2 : BA) (_o0 : Decoder) (q0 : Bool) (q1 : Decoder) : Rs := .ret (.bool q0) [⟨1, 0, false, (Decoder.cells q1)⟩]
def a_Ki (p1 : Val) (p2 : BA) (o0 : Decoder) : Rs := r_Ki p1 p2 o0 (s_Ki p1 p2 o0).1 (s_Ki p1 p2 o0).2
def H_Ki (p1 : Val) : Prop := Val.Sm 1000000000 p1
theorem Q1h3 (p1 : Val) (_p2 : BA) (_o0 : Decoder) (H : H_Ki p1) : (H_Kj p1) ∧ True := by
  exact ⟨H, trivial⟩
theorem t_Ki (p1 : Val) (p2 : BA) (o0 : Decoder) (H : H_Ki p1) : Q6 G (c_Ki p1 p2 o0) (a_Ki p1 p2 o0) := by
 unfold a_Ki
 rw [e_Ki]
 exact Q8 (fn := Ir.Ki) rfl (h := [⟨1, 0, false, (Decoder.cells o0)⟩]) (vw := []) VOK.nil [] [aN (t_Kj p1 p2 1 o0 (Q1h3 p1 p2 o0 H).1)] (by kernel_rfl)
def s_Kx (p1 : Val) (p2 : BA) (o0 : Decoder) : Val × Decoder := (s5 (prt p1 p2), ft o0 (isM p1 && isM (prt p1 p2)))
theorem e_Kx (p1 : Val) (p2 : BA) (o0 : Decoder) : s_Kx p1 p2 o0 = (((s_Kj p1 p2 5 o0).1, (s_Kj p1 p2 5 o0).2)) := by
  rfl
def c_Kx (p1 : Val) (p2 : BA) (o0 : Decoder) : En := .call 38 [.bx 0 0, .agg (Val.cells p1), .str p2] [⟨1, 0, false, (Decoder.cells o0)⟩]
def r_Kx (_p1 : Val) (_p2 : BA) (_o0 : Decoder) (q0 : Val) (q1 : Decoder) : Rs := .ret (.agg (Val.cells q0)) [⟨1, 0, false, (Decoder.cells q1)⟩]
def a_Kx (p1 : Val) (p2 : BA) (o0 : Decoder) : Rs := r_Kx p1 p2 o0 (s_Kx p1 p2 o0).1 (s_Kx p1 p2 o0).2
def H_Kx (p1 : Val) : Prop := Val.Sm 1000000000 p1
theorem Q1he (p1 : Val) (_p2 : BA) (_o0 : Decoder) (H : H_Kx p1) : (H_Kj p1) ∧ True := by
  exact ⟨H, trivial⟩
theorem t_Kx (p1 : Val) (p2 : BA) (o0 : Decoder) (H : H_Kx p1) : Q6 G (c_Kx p1 p2 o0) (a_Kx p1 p2 o0) := by
 unfold a_Kx
 rw [e_Kx]
 exact Q8 (fn := Ir.Kx) rfl (h := [⟨1, 0, false, (Decoder.cells o0)⟩]) (vw := []) VOK.nil [] [aN (t_Kj p1 p2 5 o0 (Q1he p1 p2 o0 H).1)] (by kernel_rfl)
def s_Kr (p1 : Val) (o0 : Decoder) : Resources × Decoder := ((Resources.dec p1).1, ft o0 (Resources.dec p1).2)
theorem e_Kr (p1 : Val) (o0 : Decoder) : s_Kr p1 o0 = (((Resources.mk (s_Kn p1 Q4e o0).1 (s_Kn p1 Q2x (s_Kn p1 Q4e o0).2).1 (s_Kn p1 Q3v (s_Kn p1 Q2x (s_Kn p1 Q4e o0).2).2).1), (s_Kn p1 Q3v (s_Kn p1 Q2x (s_Kn p1 Q4e o0).2).2).2)) := by
  simp only [s_Kn, s_Kr, Resources.dec, Qi0, Bool.and_assoc, Bool.and_left_comm, Bool.and_comm, Bool.and_self_left]
def c_Kr (p1 : Val) (o0 : Decoder) : En := .call 37 [.bx 0 0, .agg (Val.cells p1)] [⟨1, 0, false, (Decoder.cells o0)⟩]
def r_Kr (_p1 : Val) (_o0 : Decoder) (q0 : Resources) (q1 : Decoder) : Rs := .ret (.agg (Resources.cells q0)) [⟨1, 0, false, (Decoder.cells q1)⟩]
def a_Kr (p1 : Val) (o0 : Decoder) : Rs := r_Kr p1 o0 (s_Kr p1 o0).1 (s_Kr p1 o0).2
def H_Kr (p1 : Val) : Prop := Val.Sm 1000000000 p1
theorem Qz9 (p1 : Val) (_o0 : Decoder) (H : H_Kr p1) : (H_Kn p1) ∧ True := by
  repeat' with_reducible apply And.intro
  all_goals first | exact True.intro | exact H | exact Qin (Q2y H _)
theorem t_Kr (p1 : Val) (o0 : Decoder) (H : H_Kr p1) : Q6 G (c_Kr p1 o0) (a_Kr p1 o0) := by
 unfold a_Kr
 rw [e_Kr]
 exact Q8 (fn := Ir.Kr) rfl (h := [⟨1, 0, false, (Decoder.cells o0)⟩]) (vw := []) VOK.nil [] [aN (t_Kn p1 Q4e o0 (Qz9 p1 o0 H).1), aN (t_Kn p1 Q2x (s_Kn p1 Q4e o0).2 (Qz9 p1 o0 H).1), aN (t_Kn p1 Q3v (s_Kn p1 Q2x (s_Kn p1 Q4e o0).2).2 (Qz9 p1 o0 H).1)] (by kernel_rfl)
def s_Kp (p1 : Val) (o0 : Decoder) : Probe × Decoder := ((Probe.dec p1).1, ft o0 (Probe.dec p1).2)
theorem e_Kp (p1 : Val) (o0 : Decoder) : s_Kp p1 o0 = (((Probe.mk (s_Kn p1 Q25 (s_Kw p1 o0).2).1 (s_Kn p1 Q1w (s_Kn p1 Q25 (s_Kw p1 o0).2).2).1 (s_Kn p1 Q1l (s_Kn p1 Q1w (s_Kn p1 Q25 (s_Kw p1 o0).2).2).2).1 (s_Kn p1 Q1r (s_Kn p1 Q1l (s_Kn p1 Q1w (s_Kn p1 Q25 (s_Kw p1 o0).2).2).2).2).1), (s_Kn p1 Q1r (s_Kn p1 Q1l (s_Kn p1 Q1w (s_Kn p1 Q25 (s_Kw p1 o0).2).2).2).2).2)) := by
  simp only [s_Kw, s_Kn, s_Kp, Probe.dec, Qi0, Bool.and_assoc, Bool.and_left_comm, Bool.and_comm, Bool.and_self_left]
def c_Kp (p1 : Val) (o0 : Decoder) : En := .call 140 [.bx 0 0, .agg (Val.cells p1)] [⟨1, 0, false, (Decoder.cells o0)⟩]
def r_Kp (_p1 : Val) (_o0 : Decoder) (q0 : Probe) (q1 : Decoder) : Rs := .ret (.agg (Probe.cells q0)) [⟨1, 0, false, (Decoder.cells q1)⟩]
def a_Kp (p1 : Val) (o0 : Decoder) : Rs := r_Kp p1 o0 (s_Kp p1 o0).1 (s_Kp p1 o0).2
def H_Kp (p1 : Val) : Prop := Val.Sm 1000000000 p1
theorem Qu5 (p1 : Val) (_o0 : Decoder) (H : H_Kp p1) : (H_Kn p1) ∧ True := by
  repeat' with_reducible apply And.intro
  all_goals first | exact True.intro | exact H | exact Qin (Q2y H _)
theorem t_Kp (p1 : Val) (o0 : Decoder) (H : H_Kp p1) : Q6 G (c_Kp p1 o0) (a_Kp p1 o0) := by
 unfold a_Kp
 rw [e_Kp]
 exact Q8 (fn := Ir.Kp) rfl (h := [⟨1, 0, false, (Decoder.cells o0)⟩]) (vw := []) VOK.nil [] [aN (t_Kw p1 o0), aN (t_Kn p1 Q25 (s_Kw p1 o0).2 (Qu5 p1 o0 H).1), aN (t_Kn p1 Q1w (s_Kn p1 Q25 (s_Kw p1 o0).2).2 (Qu5 p1 o0 H).1), aN (t_Kn p1 Q1l (s_Kn p1 Q1w (s_Kn p1 Q25 (s_Kw p1 o0).2).2).2 (Qu5 p1 o0 H).1), aN (t_Kn p1 Q1r (s_Kn p1 Q1l (s_Kn p1 Q1w (s_Kn p1 Q25 (s_Kw p1 o0).2).2).2).2 (Qu5 p1 o0 H).1)] (by kernel_rfl)
def Q4q (p1 : Val) (p2 : BA) (o0 : Decoder) : List Val → Nat → Bool → (List Probe) → Bool × (List Probe)
 | [], _i0, v0_1, v0_2 =>
  (v0_1, v0_2)
 | x0 :: r0, i0, v0_1, v0_2 =>
  Q4q p1 p2 o0 r0 (i0 + 1) (s_Kp x0 (Decoder.mk v0_1)).2.failed (v0_2 ++ [(s_Kp x0 (Decoder.mk v0_1)).1])
def Qw7 (p1 : Val) (p2 : BA) (o0 : Decoder) (i0 : Nat) (_v0_1 : Bool) (v0_2 : List Probe) : List PV :=
  [.un, .un, .un, .fn 140 [.bx 0 0] []] ++ nuns 5 ++ [.ms 1 4 0 (List.length v0_2)] ++ nuns 6 ++ [.sl (Val.rows (s_Kj p1 p2 4 o0).1.list), .int .i64 ((List.length (s_Kj p1 p2 4 o0).1.list) : Int), .int .i64 (i0 : Int)] ++ nuns 11
def Qmf (_p1 : Val) (_p2 : BA) (_o0 : Decoder) (_i0 : Nat) (v0_1 : Bool) (v0_2 : List Probe) : List Ob :=
  [⟨1, 0, false, [.bool v0_1]⟩, ⟨4, 0, true, (Probe.rows v0_2).flatten⟩]
def Qev (p1 : Val) (p2 : BA) (o0 : Decoder) (i0 : Nat) (v0_1 : Bool) (v0_2 : List Probe) : En := .loop 1 Ir.Qhm Ir.Q1ez (Qw7 p1 p2 o0 i0 v0_1 v0_2) (Qmf p1 p2 o0 i0 v0_1 v0_2)
def Qo6 (_p1 : Val) (_p2 : BA) (_o0 : Decoder) (q0 : Bool) (q1 : List Probe) (z : Nat → PV) (_zo : Nat → List PV) : St :=
  ⟨zr z 0 9 ++ [.ms 1 4 0 (List.length q1)] ++ zr z 10 20, [(0, ⟨1, 0, false, [.bool q0]⟩), (1, ⟨4, 0, true, (Probe.rows q1).flatten⟩)], 66⟩
theorem Q11s (p1 : Val) (p2 : BA) (o0 : Decoder) (i0 : Nat) (v0_1 : Bool) (v0_2 : List Probe) : VOK (Go.Pv.look (number 0 (Qmf p1 p2 o0 i0 v0_1 v0_2))) [(1, Probe.rows v0_2)] := (VOK.cons (show Seen _ _ from Q3q (ob := ⟨4, 0, true, (Probe.rows v0_2).flatten⟩) (Probe.Q7 v0_2 4 rfl)) VOK.nil)
def Qgd (p1 : Val) (p2 : BA) (o0 : Decoder) (e : En) (q : Bool × (List Probe)) : Prop := ∃ z zo, Q6 G e (.st (.exit 0) (Qo6 p1 p2 o0 q.1 q.2 z zo))
theorem Qu4 (p1 : Val) (p2 : BA) (o0 : Decoder) {e e' : En} (h : ∀ r, Q6 G e r → Q6 G e' r) : ∀ q, Qgd p1 p2 o0 e q → Qgd p1 p2 o0 e' q
  | _, ⟨z, zo, hz⟩ => ⟨z, zo, h _ hz⟩
def Qbp (p1 : Val) (p2 : BA) (o0 : Decoder) : Prop := (List.length (s_Kj p1 p2 4 o0).1.list ≤ 137438953472) ∧ (∀ x0 ∈ (s_Kj p1 p2 4 o0).1.list, H_Kp x0) ∧ True
def Qo0 (p1 : Val) (p2 : BA) (o0 : Decoder) (i0 : Nat) (_v0_1 : Bool) (_v0_2 : List Probe) : List PV :=
  [.un, .un, .un, .fn 140 [.bx 0 0] []] ++ nuns 12 ++ [.sl (Val.rows (s_Kj p1 p2 4 o0).1.list), .int .i64 ((List.length (s_Kj p1 p2 4 o0).1.list) : Int), .int .i64 (i0 : Int), .bool false]
def Qm7 (_p1 : Val) (_p2 : BA) (_o0 : Decoder) (_i0 : Nat) (_v0_1 : Bool) (_v0_2 : List Probe) : List (Nat × List PV) :=
  []
theorem Q17p (p1 : Val) (p2 : BA) (o0 : Decoder) (_H : Qbp p1 p2 o0) (i0 : Nat) (v0_1 : Bool) (v0_2 : List Probe) (_ho0_0 : List.length v0_2 ≤ i0) (hc0 : (decide ((i0 : Int) < ((List.length (s_Kj p1 p2 4 o0).1.list) : Int))) = false) : Qgd p1 p2 o0 (Qev p1 p2 o0 i0 v0_1 v0_2) (v0_1, v0_2) := by
 exact ⟨(envF (Qo0 p1 p2 o0 i0 v0_1 v0_2)), (zoF (Qm7 p1 p2 o0 i0 v0_1 v0_2)), Qh (Q11s p1 p2 o0 i0 v0_1 v0_2) (x := ((.exit 0), Qo6 p1 p2 o0 v0_1 v0_2 (envF (Qo0 p1 p2 o0 i0 v0_1 v0_2)) (zoF (Qm7 p1 p2 o0 i0 v0_1 v0_2)))) [hB 0 hc0] [] (by kernel_rfl)⟩
theorem Q16f (p1 : Val) (p2 : BA) (o0 : Decoder) (H : Qbp p1 p2 o0) (x0 : Val) (i0 : Nat) (v0_1 : Bool) (v0_2 : List Probe) (hx0 : (s_Kj p1 p2 4 o0).1.list[i0]? = some x0) (hi0 : i0 < List.length (s_Kj p1 p2 4 o0).1.list) (ho0_0 : List.length v0_2 ≤ i0) (hc0 : (decide ((i0 : Int) < ((List.length (s_Kj p1 p2 4 o0).1.list) : Int))) = true) {r : Rs} (hr : Q6 G (Qev p1 p2 o0 (i0 + 1) (s_Kp x0 (Decoder.mk v0_1)).2.failed (v0_2 ++ [(s_Kp x0 (Decoder.mk v0_1)).1])) r) : Q6 G (Qev p1 p2 o0 i0 v0_1 v0_2) r := by
 have hB0 := H.1
 exact Qm (Q11s p1 p2 o0 i0 v0_1 v0_2) (y := (Qw7 p1 p2 o0 (i0 + 1) (s_Kp x0 (Decoder.mk v0_1)).2.failed (v0_2 ++ [(s_Kp x0 (Decoder.mk v0_1)).1]), Qmf p1 p2 o0 (i0 + 1) (s_Kp x0 (Decoder.mk v0_1)).2.failed (v0_2 ++ [(s_Kp x0 (Decoder.mk v0_1)).1]))) [hB 0 hc0, hP 0 (Q1k 5 (Val.rows (s_Kj p1 p2 4 o0).1.list) i0 _ (Val.Qb hx0) rfl), hV 8 [(642, Probe.rows (v0_2 ++ [(s_Kp x0 (Decoder.mk v0_1)).1]))] (Q5e 1 578 642 4 32 0 0 true (Probe.rows v0_2) (Probe.rows (v0_2 ++ [(s_Kp x0 (Decoder.mk v0_1)).1])) (Probe.cells (s_Kp x0 (Decoder.mk v0_1)).1) (List.length v0_2) (List.length (v0_2 ++ [(s_Kp x0 (Decoder.mk v0_1)).1])) rfl (Probe.Q0 v0_2).symm (Probe.Q0 (v0_2 ++ [(s_Kp x0 (Decoder.mk v0_1)).1])).symm (Probe.Q15 v0_2 (s_Kp x0 (Decoder.mk v0_1)).1) (Probe.Qd v0_2) rfl (by omega)), hS 0 true (Probe.Q7 (v0_2 ++ [(s_Kp x0 (Decoder.mk v0_1)).1]) 4 rfl), hP 1 (Q29 i0 (by omega))] [aN (t_Kp x0 (Decoder.mk v0_1) (H.2.1 x0 (Q2e hx0)))] (by kernel_rfl) hr
theorem Qws (p1 : Val) (p2 : BA) (o0 : Decoder) (H : Qbp p1 p2 o0) : ∀ (r0 : List Val) (i0 : Nat) (v0_1 : Bool) (v0_2 : List Probe), List.drop i0 (s_Kj p1 p2 4 o0).1.list = r0 → List.length v0_2 ≤ i0 → Qgd p1 p2 o0 (Qev p1 p2 o0 i0 v0_1 v0_2) (Q4q p1 p2 o0 r0 i0 v0_1 v0_2)
 | [], i0, v0_1, v0_2, hd, ho0_0 => by
  have hc0 : (decide ((i0 : Int) < ((List.length (s_Kj p1 p2 4 o0).1.list) : Int))) = false := by have := Q1g hd; simp; omega
  rw [Q4q]
  exact Q17p p1 p2 o0 H i0 v0_1 v0_2 ho0_0 hc0
 | x0 :: r0, i0, v0_1, v0_2, hd, ho0_0 => by
  obtain ⟨hx0, hi0, hd'⟩ := Q12 hd
  have hc0 : (decide ((i0 : Int) < ((List.length (s_Kj p1 p2 4 o0).1.list) : Int))) = true := by simp; omega
  rw [Q4q]
  exact Qu4 p1 p2 o0 (fun r hr => Q16f p1 p2 o0 H x0 i0 v0_1 v0_2 hx0 hi0 ho0_0 hc0 hr) _ (Qws p1 p2 o0 H r0 (i0 + 1) (s_Kp x0 (Decoder.mk v0_1)).2.failed (v0_2 ++ [(s_Kp x0 (Decoder.mk v0_1)).1]) hd' (by first | omega | (simp; omega)))
def Q8w (p1 : Val) (p2 : BA) (o0 : Decoder) : List Probe × Decoder := ((dE Probe.dec p1 p2).1, ft o0 (isM p1 && (dE Probe.dec p1 p2).2))
theorem Q10n (p1 : Val) (p2 : BA) (o0 : Decoder) : ∀ (l : List Val) (i : Nat) (b : Bool) (a : List Probe), Q4q p1 p2 o0 l i b a = (b || !(l.all fun x => (Probe.dec x).2), a ++ l.map (fun x => (Probe.dec x).1))
  | [], _, b, a => by rw [Q4q]; simp
  | x :: l, i, b, a => by
    rw [Q4q]
    refine (Q10n p1 p2 o0 l (i + 1) (b || !(Probe.dec x).2) (a ++ [(Probe.dec x).1])).trans ?_
    simp only [List.append_assoc, List.singleton_append, List.map_cons, List.all_cons, Bool.not_and, Bool.or_assoc]
theorem Q1p4 (p1 : Val) (p2 : BA) (o0 : Decoder) : Q8w p1 p2 o0 = (((Q4q p1 p2 o0 (s_Kj p1 p2 4 o0).1.list 0 (s_Kj p1 p2 4 o0).2.failed []).2, (Decoder.mk (Q4q p1 p2 o0 (s_Kj p1 p2 4 o0).1.list 0 (s_Kj p1 p2 4 o0).2.failed []).1))) := by
  rw [Q10n]
  unfold s_Kj Q8w
  simp only [getL, Q5a]
  refine Prod.ext rfl ?_
  rw [Q85 o0.failed (isM p1) _ _ _ (Qtd (prt p1 p2)), Q5b]
  rfl
def Q1rl (p1 : Val) (p2 : BA) (o0 : Decoder) : En := .call 139 [.bx 0 0, .agg (Val.cells p1), .str p2, .fn 140 [.bx 0 0] []] [⟨1, 0, false, (Decoder.cells o0)⟩]
def Q1qb (_p1 : Val) (_p2 : BA) (_o0 : Decoder) (q0 : List Probe) (q1 : Decoder) : Rs := .ret (.sl (Probe.rows q0)) [⟨1, 0, false, (Decoder.cells q1)⟩]
def Q1it (p1 : Val) (p2 : BA) (o0 : Decoder) : Rs := Q1qb p1 p2 o0 (Q8w p1 p2 o0).1 (Q8w p1 p2 o0).2
def Q1g8 (p1 : Val) : Prop := Val.Sm 1000000000 p1
theorem Q10m (p1 : Val) (p2 : BA) (o0 : Decoder) (H : Q1g8 p1) : (H_Kj p1) ∧ (Qbp p1 p2 o0) ∧ True := by
  have hl := Qn2 (Q2y H p2)
  refine ⟨H, ?_, trivial⟩
  unfold Qbp s_Kj
  simp only [getL]
  exact ⟨Nat.le_trans hl.1 (Nat.le_of_ble_eq_true rfl), hl.2, trivial⟩
theorem Q1h0 (p1 : Val) (p2 : BA) (o0 : Decoder) (H : Q1g8 p1) : Q6 G (Q1rl p1 p2 o0) (Q1it p1 p2 o0) := by
 unfold Q1it
 rw [Q1p4]
 have hl0 := Qws p1 p2 o0 ((Q10m p1 p2 o0 H).2.1) (s_Kj p1 p2 4 o0).1.list 0 (s_Kj p1 p2 4 o0).2.failed [] (by simp) (by simp)
 obtain ⟨z0, zo0, hl0⟩ := hl0
 exact Q8 (fn := Ir.K12) rfl (h := [⟨1, 0, false, (Decoder.cells o0)⟩]) (vw := []) VOK.nil [hP 8 (Qf (Val.rows (s_Kj p1 p2 4 o0).1.list) (List.length (s_Kj p1 p2 4 o0).1.list) (Val.Q0 (s_Kj p1 p2 4 o0).1.list)), hS 0 true (Probe.Q7 (Q4q p1 p2 o0 (s_Kj p1 p2 4 o0).1.list 0 (s_Kj p1 p2 4 o0).2.failed []).2 4 rfl), hQ (Probe.Q0 (Q4q p1 p2 o0 (s_Kj p1 p2 4 o0).1.list 0 (s_Kj p1 p2 4 o0).2.failed []).2).symm] [aN (t_Kj p1 p2 4 o0 (Q10m p1 p2 o0 H).1), aV [(1, Probe.rows (Q4q p1 p2 o0 (s_Kj p1 p2 4 o0).1.list 0 (s_Kj p1 p2 4 o0).2.failed []).2)] hl0] (by kernel_rfl)
def s_Kg (p1 : Val) (o0 : Decoder) : Container × Decoder := ((Container.dec p1).1, ft o0 (Container.dec p1).2)
abbrev M0 (o0 : Decoder) (p1 : Val) := (s_Kx p1 Q2f (s_Kr (s_Kx p1 Q16 (s_Kv p1 Q1z (s_Kv p1 Qv (s_Kw p1 o0).2).2).2).1 (s_Kx p1 Q16 (s_Kv p1 Q1z (s_Kv p1 Qv (s_Kw p1 o0).2).2).2).2).2)
theorem e_Kg (p1 : Val) (o0 : Decoder) : s_Kg p1 o0 = (((Container.mk (s_Kv p1 Qv (s_Kw p1 o0).2).1 (s_Kv p1 Q1z (s_Kv p1 Qv (s_Kw p1 o0).2).2).1 (s_Kr (s_Kx p1 Q16 (s_Kv p1 Q1z (s_Kv p1 Qv (s_Kw p1 o0).2).2).2).1 (s_Kx p1 Q16 (s_Kv p1 Q1z (s_Kv p1 Qv (s_Kw p1 o0).2).2).2).2).1 (s_Kr (M0 o0 p1).1 (M0 o0 p1).2).1 (Q8w p1 Q2m (s_Kr (M0 o0 p1).1 (M0 o0 p1).2).2).1 (Q8w p1 Qq (Q8w p1 Q2m (s_Kr (M0 o0 p1).1 (M0 o0 p1).2).2).2).1 (Q8w p1 Q1q (Q8w p1 Qq (Q8w p1 Q2m (s_Kr (M0 o0 p1).1 (M0 o0 p1).2).2).2).2).1), (Q8w p1 Q1q (Q8w p1 Qq (Q8w p1 Q2m (s_Kr (M0 o0 p1).1 (M0 o0 p1).2).2).2).2).2)) := by
  simp only [s_Kw, s_Kv, s_Kx, s_Kr, Q8w, s_Kg, Container.dec, Resources.sub1, Resources.sub2, Qi0, Bool.and_assoc, Bool.and_left_comm, Bool.and_comm, Bool.and_self_left]
def c_Kg (p1 : Val) (o0 : Decoder) : En := .call 86 [.bx 0 0, .agg (Val.cells p1)] [⟨1, 0, false, (Decoder.cells o0)⟩]
def r_Kg (_p1 : Val) (_o0 : Decoder) (q0 : Container) (q1 : Decoder) : Rs := .ret (.agg (Container.cells q0)) [⟨1, 0, false, (Decoder.cells q1)⟩]
def a_Kg (p1 : Val) (o0 : Decoder) : Rs := r_Kg p1 o0 (s_Kg p1 o0).1 (s_Kg p1 o0).2
def H_Kg (p1 : Val) : Prop := Val.Sm 1000000000 p1
theorem Q7v (p1 : Val) (o0 : Decoder) (H : H_Kg p1) : (H_Kv p1) ∧ (H_Kx p1) ∧ (H_Kr (s_Kx p1 Q16 (s_Kv p1 Q1z (s_Kv p1 Qv (s_Kw p1 o0).2).2).2).1) ∧ (H_Kr (M0 o0 p1).1) ∧ (Q1g8 p1) ∧ True := by
  repeat' with_reducible apply And.intro
  all_goals first | exact True.intro | exact H | exact Qin (Q2y H _)
theorem t_Kg (p1 : Val) (o0 : Decoder) (H : H_Kg p1) : Q6 G (c_Kg p1 o0) (a_Kg p1 o0) := by
 unfold a_Kg
 rw [e_Kg]
 exact Q8 (fn := Ir.Kg) rfl (h := [⟨1, 0, false, (Decoder.cells o0)⟩]) (vw := []) VOK.nil [] [aN (t_Kw p1 o0), aN (t_Kv p1 Qv (s_Kw p1 o0).2 (Q7v p1 o0 H).1), aN (t_Kv p1 Q1z (s_Kv p1 Qv (s_Kw p1 o0).2).2 (Q7v p1 o0 H).1), aN (t_Kx p1 Q16 (s_Kv p1 Q1z (s_Kv p1 Qv (s_Kw p1 o0).2).2).2 (Q7v p1 o0 H).2.1), aN (t_Kr (s_Kx p1 Q16 (s_Kv p1 Q1z (s_Kv p1 Qv (s_Kw p1 o0).2).2).2).1 (s_Kx p1 Q16 (s_Kv p1 Q1z (s_Kv p1 Qv (s_Kw p1 o0).2).2).2).2 (Q7v p1 o0 H).2.2.1), aN (t_Kx p1 Q2f (s_Kr (s_Kx p1 Q16 (s_Kv p1 Q1z (s_Kv p1 Qv (s_Kw p1 o0).2).2).2).1 (s_Kx p1 Q16 (s_Kv p1 Q1z (s_Kv p1 Qv (s_Kw p1 o0).2).2).2).2).2 (Q7v p1 o0 H).2.1), aN (t_Kr (M0 o0 p1).1 (M0 o0 p1).2 (Q7v p1 o0 H).2.2.2.1), aN (Q1h0 p1 Q2m (s_Kr (M0 o0 p1).1 (M0 o0 p1).2).2 (Q7v p1 o0 H).2.2.2.2.1), aN (Q1h0 p1 Qq (Q8w p1 Q2m (s_Kr (M0 o0 p1).1 (M0 o0 p1).2).2).2 (Q7v p1 o0 H).2.2.2.2.1), aN (Q1h0 p1 Q1q (Q8w p1 Qq (Q8w p1 Q2m (s_Kr (M0 o0 p1).1 (M0 o0 p1).2).2).2).2 (Q7v p1 o0 H).2.2.2.2.1)] (by kernel_rfl)
def Q4w (p1 : Val) (p2 : BA) (o0 : Decoder) : List Val → Nat → Bool → (List Container) → Bool × (List Container)
 | [], _i0, v0_1, v0_2 =>
  (v0_1, v0_2)
 | x0 :: r0, i0, v0_1, v0_2 =>
  Q4w p1 p2 o0 r0 (i0 + 1) (s_Kg x0 (Decoder.mk v0_1)).2.failed (v0_2 ++ [(s_Kg x0 (Decoder.mk v0_1)).1])
def Qy3 (p1 : Val) (p2 : BA) (o0 : Decoder) (i0 : Nat) (_v0_1 : Bool) (v0_2 : List Container) : List PV :=
  [.un, .un, .un, .fn 86 [.bx 0 0] []] ++ nuns 5 ++ [.ms 1 11 0 (List.length v0_2)] ++ nuns 6 ++ [.sl (Val.rows (s_Kj p1 p2 4 o0).1.list), .int .i64 ((List.length (s_Kj p1 p2 4 o0).1.list) : Int), .int .i64 (i0 : Int)] ++ nuns 11
def Qjm (_p1 : Val) (_p2 : BA) (_o0 : Decoder) (_i0 : Nat) (v0_1 : Bool) (v0_2 : List Container) : List Ob :=
  [⟨1, 0, false, [.bool v0_1]⟩, ⟨11, 0, true, (Container.rows v0_2).flatten⟩]
def Qf8 (p1 : Val) (p2 : BA) (o0 : Decoder) (i0 : Nat) (v0_1 : Bool) (v0_2 : List Container) : En := .loop 1 Ir.Qkm Ir.Q1ev (Qy3 p1 p2 o0 i0 v0_1 v0_2) (Qjm p1 p2 o0 i0 v0_1 v0_2)
def Qoo (_p1 : Val) (_p2 : BA) (_o0 : Decoder) (q0 : Bool) (q1 : List Container) (z : Nat → PV) (_zo : Nat → List PV) : St :=
  ⟨zr z 0 9 ++ [.ms 1 11 0 (List.length q1)] ++ zr z 10 20, [(0, ⟨1, 0, false, [.bool q0]⟩), (1, ⟨11, 0, true, (Container.rows q1).flatten⟩)], 66⟩
theorem Q12z (p1 : Val) (p2 : BA) (o0 : Decoder) (i0 : Nat) (v0_1 : Bool) (v0_2 : List Container) : VOK (Go.Pv.look (number 0 (Qjm p1 p2 o0 i0 v0_1 v0_2))) [(1, Container.rows v0_2)] := (VOK.cons (show Seen _ _ from Q3q (ob := ⟨11, 0, true, (Container.rows v0_2).flatten⟩) (Container.Q7 v0_2 11 rfl)) VOK.nil)
def Qgu (p1 : Val) (p2 : BA) (o0 : Decoder) (e : En) (q : Bool × (List Container)) : Prop := ∃ z zo, Q6 G e (.st (.exit 0) (Qoo p1 p2 o0 q.1 q.2 z zo))
theorem Qt4 (p1 : Val) (p2 : BA) (o0 : Decoder) {e e' : En} (h : ∀ r, Q6 G e r → Q6 G e' r) : ∀ q, Qgu p1 p2 o0 e q → Qgu p1 p2 o0 e' q
  | _, ⟨z, zo, hz⟩ => ⟨z, zo, h _ hz⟩
def Qbb (p1 : Val) (p2 : BA) (o0 : Decoder) : Prop := (List.length (s_Kj p1 p2 4 o0).1.list ≤ 137438953472) ∧ (∀ x0 ∈ (s_Kj p1 p2 4 o0).1.list, H_Kg x0) ∧ True
def Qos (p1 : Val) (p2 : BA) (o0 : Decoder) (i0 : Nat) (_v0_1 : Bool) (_v0_2 : List Container) : List PV :=
  [.un, .un, .un, .fn 86 [.bx 0 0] []] ++ nuns 12 ++ [.sl (Val.rows (s_Kj p1 p2 4 o0).1.list), .int .i64 ((List.length (s_Kj p1 p2 4 o0).1.list) : Int), .int .i64 (i0 : Int), .bool false]
def Qlf (_p1 : Val) (_p2 : BA) (_o0 : Decoder) (_i0 : Nat) (_v0_1 : Bool) (_v0_2 : List Container) : List (Nat × List PV) :=
  []
theorem Q16u (p1 : Val) (p2 : BA) (o0 : Decoder) (_H : Qbb p1 p2 o0) (i0 : Nat) (v0_1 : Bool) (v0_2 : List Container) (_ho0_0 : List.length v0_2 ≤ i0) (hc0 : (decide ((i0 : Int) < ((List.length (s_Kj p1 p2 4 o0).1.list) : Int))) = false) : Qgu p1 p2 o0 (Qf8 p1 p2 o0 i0 v0_1 v0_2) (v0_1, v0_2) := by
 exact ⟨(envF (Qos p1 p2 o0 i0 v0_1 v0_2)), (zoF (Qlf p1 p2 o0 i0 v0_1 v0_2)), Qh (Q12z p1 p2 o0 i0 v0_1 v0_2) (x := ((.exit 0), Qoo p1 p2 o0 v0_1 v0_2 (envF (Qos p1 p2 o0 i0 v0_1 v0_2)) (zoF (Qlf p1 p2 o0 i0 v0_1 v0_2)))) [hB 0 hc0] [] (by kernel_rfl)⟩
theorem Q17q (p1 : Val) (p2 : BA) (o0 : Decoder) (H : Qbb p1 p2 o0) (x0 : Val) (i0 : Nat) (v0_1 : Bool) (v0_2 : List Container) (hx0 : (s_Kj p1 p2 4 o0).1.list[i0]? = some x0) (hi0 : i0 < List.length (s_Kj p1 p2 4 o0).1.list) (ho0_0 : List.length v0_2 ≤ i0) (hc0 : (decide ((i0 : Int) < ((List.length (s_Kj p1 p2 4 o0).1.list) : Int))) = true) {r : Rs} (hr : Q6 G (Qf8 p1 p2 o0 (i0 + 1) (s_Kg x0 (Decoder.mk v0_1)).2.failed (v0_2 ++ [(s_Kg x0 (Decoder.mk v0_1)).1])) r) : Q6 G (Qf8 p1 p2 o0 i0 v0_1 v0_2) r := by
 have hB0 := H.1
 exact Qm (Q12z p1 p2 o0 i0 v0_1 v0_2) (y := (Qy3 p1 p2 o0 (i0 + 1) (s_Kg x0 (Decoder.mk v0_1)).2.failed (v0_2 ++ [(s_Kg x0 (Decoder.mk v0_1)).1]), Qjm p1 p2 o0 (i0 + 1) (s_Kg x0 (Decoder.mk v0_1)).2.failed (v0_2 ++ [(s_Kg x0 (Decoder.mk v0_1)).1]))) [hB 0 hc0, hP 0 (Q1k 5 (Val.rows (s_Kj p1 p2 4 o0).1.list) i0 _ (Val.Qb hx0) rfl), hV 8 [(642, Container.rows (v0_2 ++ [(s_Kg x0 (Decoder.mk v0_1)).1]))] (Q5e 1 578 642 11 152 0 0 true (Container.rows v0_2) (Container.rows (v0_2 ++ [(s_Kg x0 (Decoder.mk v0_1)).1])) (Container.cells (s_Kg x0 (Decoder.mk v0_1)).1) (List.length v0_2) (List.length (v0_2 ++ [(s_Kg x0 (Decoder.mk v0_1)).1])) rfl (Container.Q0 v0_2).symm (Container.Q0 (v0_2 ++ [(s_Kg x0 (Decoder.mk v0_1)).1])).symm (Container.Q15 v0_2 (s_Kg x0 (Decoder.mk v0_1)).1) (Container.Qd v0_2) rfl (by omega)), hS 0 true (Container.Q7 (v0_2 ++ [(s_Kg x0 (Decoder.mk v0_1)).1]) 11 rfl), hP 1 (Q29 i0 (by omega))] [aN (t_Kg x0 (Decoder.mk v0_1) (H.2.1 x0 (Q2e hx0)))] (by kernel_rfl) hr
theorem Qy9 (p1 : Val) (p2 : BA) (o0 : Decoder) (H : Qbb p1 p2 o0) : ∀ (r0 : List Val) (i0 : Nat) (v0_1 : Bool) (v0_2 : List Container), List.drop i0 (s_Kj p1 p2 4 o0).1.list = r0 → List.length v0_2 ≤ i0 → Qgu p1 p2 o0 (Qf8 p1 p2 o0 i0 v0_1 v0_2) (Q4w p1 p2 o0 r0 i0 v0_1 v0_2)
 | [], i0, v0_1, v0_2, hd, ho0_0 => by
  have hc0 : (decide ((i0 : Int) < ((List.length (s_Kj p1 p2 4 o0).1.list) : Int))) = false := by have := Q1g hd; simp; omega
  rw [Q4w]
  exact Q16u p1 p2 o0 H i0 v0_1 v0_2 ho0_0 hc0
 | x0 :: r0, i0, v0_1, v0_2, hd, ho0_0 => by
  obtain ⟨hx0, hi0, hd'⟩ := Q12 hd
  have hc0 : (decide ((i0 : Int) < ((List.length (s_Kj p1 p2 4 o0).1.list) : Int))) = true := by simp; omega
  rw [Q4w]
  exact Qt4 p1 p2 o0 (fun r hr => Q17q p1 p2 o0 H x0 i0 v0_1 v0_2 hx0 hi0 ho0_0 hc0 hr) _ (Qy9 p1 p2 o0 H r0 (i0 + 1) (s_Kg x0 (Decoder.mk v0_1)).2.failed (v0_2 ++ [(s_Kg x0 (Decoder.mk v0_1)).1]) hd' (by first | omega | (simp; omega)))
def Q15z (p1 : Val) (p2 : BA) (o0 : Decoder) : List Container × Decoder := ((dE Container.dec p1 p2).1, ft o0 (isM p1 && (dE Container.dec p1 p2).2))
theorem Q11b (p1 : Val) (p2 : BA) (o0 : Decoder) : ∀ (l : List Val) (i : Nat) (b : Bool) (a : List Container), Q4w p1 p2 o0 l i b a = (b || !(l.all fun x => (Container.dec x).2), a ++ l.map (fun x => (Container.dec x).1))
  | [], _, b, a => by rw [Q4w]; simp
  | x :: l, i, b, a => by
    rw [Q4w]
    refine (Q11b p1 p2 o0 l (i + 1) (b || !(Container.dec x).2) (a ++ [(Container.dec x).1])).trans ?_
    simp only [List.append_assoc, List.singleton_append, List.map_cons, List.all_cons, Bool.not_and, Bool.or_assoc]
theorem Q1r5 (p1 : Val) (p2 : BA) (o0 : Decoder) : Q15z p1 p2 o0 = (((Q4w p1 p2 o0 (s_Kj p1 p2 4 o0).1.list 0 (s_Kj p1 p2 4 o0).2.failed []).2, (Decoder.mk (Q4w p1 p2 o0 (s_Kj p1 p2 4 o0).1.list 0 (s_Kj p1 p2 4 o0).2.failed []).1))) := by
  rw [Q11b]
  unfold s_Kj Q15z
  simp only [getL, Q5a]
  refine Prod.ext rfl ?_
  rw [Q85 o0.failed (isM p1) _ _ _ (Qtd (prt p1 p2)), Q5b]
  rfl
def Q1po (p1 : Val) (p2 : BA) (o0 : Decoder) : En := .call 85 [.bx 0 0, .agg (Val.cells p1), .str p2, .fn 86 [.bx 0 0] []] [⟨1, 0, false, (Decoder.cells o0)⟩]
def Q1ms (_p1 : Val) (_p2 : BA) (_o0 : Decoder) (q0 : List Container) (q1 : Decoder) : Rs := .ret (.sl (Container.rows q0)) [⟨1, 0, false, (Decoder.cells q1)⟩]
def Q1j1 (p1 : Val) (p2 : BA) (o0 : Decoder) : Rs := Q1ms p1 p2 o0 (Q15z p1 p2 o0).1 (Q15z p1 p2 o0).2
def Q1fi (p1 : Val) : Prop := Val.Sm 1000000000 p1
theorem Q122 (p1 : Val) (p2 : BA) (o0 : Decoder) (H : Q1fi p1) : (H_Kj p1) ∧ (Qbb p1 p2 o0) ∧ True := by
  have hl := Qn2 (Q2y H p2)
  refine ⟨H, ?_, trivial⟩
  unfold Qbb s_Kj
  simp only [getL]
  exact ⟨Nat.le_trans hl.1 (Nat.le_of_ble_eq_true rfl), hl.2, trivial⟩
theorem Q1ml (p1 : Val) (p2 : BA) (o0 : Decoder) (H : Q1fi p1) : Q6 G (Q1po p1 p2 o0) (Q1j1 p1 p2 o0) := by
 unfold Q1j1
 rw [Q1r5]
 have hl0 := Qy9 p1 p2 o0 ((Q122 p1 p2 o0 H).2.1) (s_Kj p1 p2 4 o0).1.list 0 (s_Kj p1 p2 4 o0).2.failed [] (by simp) (by simp)
 obtain ⟨z0, zo0, hl0⟩ := hl0
 exact Q8 (fn := Ir.K16) rfl (h := [⟨1, 0, false, (Decoder.cells o0)⟩]) (vw := []) VOK.nil [hP 8 (Qf (Val.rows (s_Kj p1 p2 4 o0).1.list) (List.length (s_Kj p1 p2 4 o0).1.list) (Val.Q0 (s_Kj p1 p2 4 o0).1.list)), hS 0 true (Container.Q7 (Q4w p1 p2 o0 (s_Kj p1 p2 4 o0).1.list 0 (s_Kj p1 p2 4 o0).2.failed []).2 11 rfl), hQ (Container.Q0 (Q4w p1 p2 o0 (s_Kj p1 p2 4 o0).1.list 0 (s_Kj p1 p2 4 o0).2.failed []).2).symm] [aN (t_Kj p1 p2 4 o0 (Q122 p1 p2 o0 H).1), aV [(1, Container.rows (Q4w p1 p2 o0 (s_Kj p1 p2 4 o0).1.list 0 (s_Kj p1 p2 4 o0).2.failed []).2)] hl0] (by kernel_rfl)
def s_Kz (p1 : Val) (o0 : Decoder) : ByteArray × Decoder := ((xS p1).1, ft o0 (xS p1).2)
theorem e_Kz (p1 : Val) (o0 : Decoder) : s_Kz p1 o0 = (bif o0.failed then
    bif (p1.kind == 3) then
      (p1.s, (Decoder.mk true))
    else
      (eB, (Decoder.mk true))
  else
    bif (p1.kind == 3) then
      (p1.s, (Decoder.mk false))
    else
      (eB, (Decoder.mk (!(p1.kind == 0))))) := by
  obtain ⟨b⟩ := o0
  unfold s_Kz ft xS
  cases b <;> cases (p1.kind == 3) <;> cases (p1.kind == 0) <;> rfl
def c_Kz (p1 : Val) (o0 : Decoder) : En := .call 142 [.bx 0 0, .agg (Val.cells p1)] [⟨1, 0, false, (Decoder.cells o0)⟩]
def r_Kz (_p1 : Val) (_o0 : Decoder) (q0 : BA) (q1 : Decoder) : Rs := .ret (.str q0) [⟨1, 0, false, (Decoder.cells q1)⟩]
def a_Kz (p1 : Val) (o0 : Decoder) : Rs := r_Kz p1 o0 (s_Kz p1 o0).1 (s_Kz p1 o0).2
theorem t_Kz (p1 : Val) (o0 : Decoder) : Q6 G (c_Kz p1 o0) (a_Kz p1 o0) := by
 unfold a_Kz
 rw [e_Kz]
 cases h0 : o0.failed with
 | true =>
  cases h1 : (p1.kind == 3) with
  | true =>
   exact Q8 (fn := Ir.Kz) rfl (h := [⟨1, 0, false, (Decoder.cells o0)⟩]) (vw := []) VOK.nil [hP 6 (decR o0.failed true [0] h0), hP 15 (dec (!(p1.kind == 3)) false (by rw [h1]; rfl))] [] (by kernel_rfl)
  | false =>
   exact Q8 (fn := Ir.Kz) rfl (h := [⟨1, 0, false, (Decoder.cells o0)⟩]) (vw := []) VOK.nil [hP 6 (decR o0.failed true [0] h0), hP 15 (dec (!(p1.kind == 3)) true (by rw [h1]; rfl))] [] (by kernel_rfl)
 | false =>
  cases h1 : (p1.kind == 3) with
  | true =>
   exact Q8 (fn := Ir.Kz) rfl (h := [⟨1, 0, false, (Decoder.cells o0)⟩]) (vw := []) VOK.nil [hP 6 (decR o0.failed false [0] h0), hP 3 (dec (!(p1.kind == 3)) false (by rw [h1]; rfl)), hP 11 (dec (!(p1.kind == 3)) false (by rw [h1]; rfl))] [] (by kernel_rfl)
  | false =>
   exact Q8 (fn := Ir.Kz) rfl (h := [⟨1, 0, false, (Decoder.cells o0)⟩]) (vw := []) VOK.nil [hP 6 (decR o0.failed false [0] h0), hP 3 (dec (!(p1.kind == 3)) true (by rw [h1]; rfl)), hP 11 (dec (!(p1.kind == 3)) true (by rw [h1]; rfl))] [] (by kernel_rfl)
def Q4x (p1 : Val) (p2 : BA) (o0 : Decoder) : List Val → Nat → Bool → (List ByteArray) → Bool × (List ByteArray)
 | [], _i0, v0_1, v0_2 =>
  (v0_1, v0_2)
 | x0 :: r0, i0, v0_1, v0_2 =>
  Q4x p1 p2 o0 r0 (i0 + 1) (s_Kz x0 (Decoder.mk v0_1)).2.failed (v0_2 ++ [(s_Kz x0 (Decoder.mk v0_1)).1])
def Qvv (p1 : Val) (p2 : BA) (o0 : Decoder) (i0 : Nat) (_v0_1 : Bool) (v0_2 : List ByteArray) : List PV :=
  [.un, .un, .un, .fn 142 [.bx 0 0] []] ++ nuns 5 ++ [.ms 1 1 0 (List.length v0_2)] ++ nuns 6 ++ [.sl (Val.rows (s_Kj p1 p2 4 o0).1.list), .int .i64 ((List.length (s_Kj p1 p2 4 o0).1.list) : Int), .int .i64 (i0 : Int)] ++ nuns 11
def Qlw (_p1 : Val) (_p2 : BA) (_o0 : Decoder) (_i0 : Nat) (v0_1 : Bool) (v0_2 : List ByteArray) : List Ob :=
  [⟨1, 0, false, [.bool v0_1]⟩, ⟨1, 0, true, (Qe v0_2).flatten⟩]
def Qeu (p1 : Val) (p2 : BA) (o0 : Decoder) (i0 : Nat) (v0_1 : Bool) (v0_2 : List ByteArray) : En := .loop 1 Ir.Qiq Ir.Q1eo (Qvv p1 p2 o0 i0 v0_1 v0_2) (Qlw p1 p2 o0 i0 v0_1 v0_2)
def Qoe (_p1 : Val) (_p2 : BA) (_o0 : Decoder) (q0 : Bool) (q1 : List ByteArray) (z : Nat → PV) (_zo : Nat → List PV) : St :=
  ⟨zr z 0 9 ++ [.ms 1 1 0 (List.length q1)] ++ zr z 10 20, [(0, ⟨1, 0, false, [.bool q0]⟩), (1, ⟨1, 0, true, (Qe q1).flatten⟩)], 66⟩
theorem Q10b (p1 : Val) (p2 : BA) (o0 : Decoder) (i0 : Nat) (v0_1 : Bool) (v0_2 : List ByteArray) : VOK (Go.Pv.look (number 0 (Qlw p1 p2 o0 i0 v0_1 v0_2))) [(1, Qe v0_2)] := (VOK.cons (show Seen _ _ from Q3q (ob := ⟨1, 0, true, (Qe v0_2).flatten⟩) (Q6f v0_2 1 rfl)) VOK.nil)
def Qh5 (p1 : Val) (p2 : BA) (o0 : Decoder) (e : En) (q : Bool × (List ByteArray)) : Prop := ∃ z zo, Q6 G e (.st (.exit 0) (Qoe p1 p2 o0 q.1 q.2 z zo))
theorem Qtp (p1 : Val) (p2 : BA) (o0 : Decoder) {e e' : En} (h : ∀ r, Q6 G e r → Q6 G e' r) : ∀ q, Qh5 p1 p2 o0 e q → Qh5 p1 p2 o0 e' q
  | _, ⟨z, zo, hz⟩ => ⟨z, zo, h _ hz⟩
def Qby (p1 : Val) (p2 : BA) (o0 : Decoder) : Prop := (List.length (s_Kj p1 p2 4 o0).1.list ≤ 137438953472) ∧ True
def Qnk (p1 : Val) (p2 : BA) (o0 : Decoder) (i0 : Nat) (_v0_1 : Bool) (_v0_2 : List ByteArray) : List PV :=
  [.un, .un, .un, .fn 142 [.bx 0 0] []] ++ nuns 12 ++ [.sl (Val.rows (s_Kj p1 p2 4 o0).1.list), .int .i64 ((List.length (s_Kj p1 p2 4 o0).1.list) : Int), .int .i64 (i0 : Int), .bool false]
def Qiy (_p1 : Val) (_p2 : BA) (_o0 : Decoder) (_i0 : Nat) (_v0_1 : Bool) (_v0_2 : List ByteArray) : List (Nat × List PV) :=
  []
theorem Q16n (p1 : Val) (p2 : BA) (o0 : Decoder) (_H : Qby p1 p2 o0) (i0 : Nat) (v0_1 : Bool) (v0_2 : List ByteArray) (_ho0_0 : List.length v0_2 ≤ i0) (hc0 : (decide ((i0 : Int) < ((List.length (s_Kj p1 p2 4 o0).1.list) : Int))) = false) : Qh5 p1 p2 o0 (Qeu p1 p2 o0 i0 v0_1 v0_2) (v0_1, v0_2) := by
 exact ⟨(envF (Qnk p1 p2 o0 i0 v0_1 v0_2)), (zoF (Qiy p1 p2 o0 i0 v0_1 v0_2)), Qh (Q10b p1 p2 o0 i0 v0_1 v0_2) (x := ((.exit 0), Qoe p1 p2 o0 v0_1 v0_2 (envF (Qnk p1 p2 o0 i0 v0_1 v0_2)) (zoF (Qiy p1 p2 o0 i0 v0_1 v0_2)))) [hB 0 hc0] [] (by kernel_rfl)⟩
theorem Q15u (p1 : Val) (p2 : BA) (o0 : Decoder) (H : Qby p1 p2 o0) (x0 : Val) (i0 : Nat) (v0_1 : Bool) (v0_2 : List ByteArray) (hx0 : (s_Kj p1 p2 4 o0).1.list[i0]? = some x0) (hi0 : i0 < List.length (s_Kj p1 p2 4 o0).1.list) (ho0_0 : List.length v0_2 ≤ i0) (hc0 : (decide ((i0 : Int) < ((List.length (s_Kj p1 p2 4 o0).1.list) : Int))) = true) {r : Rs} (hr : Q6 G (Qeu p1 p2 o0 (i0 + 1) (s_Kz x0 (Decoder.mk v0_1)).2.failed (v0_2 ++ [(s_Kz x0 (Decoder.mk v0_1)).1])) r) : Q6 G (Qeu p1 p2 o0 i0 v0_1 v0_2) r := by
 have hB0 := H.1
 exact Qm (Q10b p1 p2 o0 i0 v0_1 v0_2) (y := (Qvv p1 p2 o0 (i0 + 1) (s_Kz x0 (Decoder.mk v0_1)).2.failed (v0_2 ++ [(s_Kz x0 (Decoder.mk v0_1)).1]), Qlw p1 p2 o0 (i0 + 1) (s_Kz x0 (Decoder.mk v0_1)).2.failed (v0_2 ++ [(s_Kz x0 (Decoder.mk v0_1)).1]))) [hB 0 hc0, hP 0 (Q1k 5 (Val.rows (s_Kj p1 p2 4 o0).1.list) i0 _ (Val.Qb hx0) rfl), hV 8 [(642, Qe (v0_2 ++ [(s_Kz x0 (Decoder.mk v0_1)).1]))] (Q5e 1 578 642 1 16 0 0 true (Qe v0_2) (Qe (v0_2 ++ [(s_Kz x0 (Decoder.mk v0_1)).1])) [.str (s_Kz x0 (Decoder.mk v0_1)).1] (List.length v0_2) (List.length (v0_2 ++ [(s_Kz x0 (Decoder.mk v0_1)).1])) rfl (Q1c v0_2).symm (Q1c (v0_2 ++ [(s_Kz x0 (Decoder.mk v0_1)).1])).symm (Qzv v0_2 (s_Kz x0 (Decoder.mk v0_1)).1) (Qkt v0_2) rfl (by omega)), hS 0 true (Q6f (v0_2 ++ [(s_Kz x0 (Decoder.mk v0_1)).1]) 1 rfl), hP 1 (Q29 i0 (by omega))] [aN (t_Kz x0 (Decoder.mk v0_1))] (by kernel_rfl) hr
theorem Qux (p1 : Val) (p2 : BA) (o0 : Decoder) (H : Qby p1 p2 o0) : ∀ (r0 : List Val) (i0 : Nat) (v0_1 : Bool) (v0_2 : List ByteArray), List.drop i0 (s_Kj p1 p2 4 o0).1.list = r0 → List.length v0_2 ≤ i0 → Qh5 p1 p2 o0 (Qeu p1 p2 o0 i0 v0_1 v0_2) (Q4x p1 p2 o0 r0 i0 v0_1 v0_2)
 | [], i0, v0_1, v0_2, hd, ho0_0 => by
  have hc0 : (decide ((i0 : Int) < ((List.length (s_Kj p1 p2 4 o0).1.list) : Int))) = false := by have := Q1g hd; simp; omega
  rw [Q4x]
  exact Q16n p1 p2 o0 H i0 v0_1 v0_2 ho0_0 hc0
 | x0 :: r0, i0, v0_1, v0_2, hd, ho0_0 => by
  obtain ⟨hx0, hi0, hd'⟩ := Q12 hd
  have hc0 : (decide ((i0 : Int) < ((List.length (s_Kj p1 p2 4 o0).1.list) : Int))) = true := by simp; omega
  rw [Q4x]
  exact Qtp p1 p2 o0 (fun r hr => Q15u p1 p2 o0 H x0 i0 v0_1 v0_2 hx0 hi0 ho0_0 hc0 hr) _ (Qux p1 p2 o0 H r0 (i0 + 1) (s_Kz x0 (Decoder.mk v0_1)).2.failed (v0_2 ++ [(s_Kz x0 (Decoder.mk v0_1)).1]) hd' (by first | omega | (simp; omega)))
def Qzj (p1 : Val) (p2 : BA) (o0 : Decoder) : List ByteArray × Decoder := ((dE xS p1 p2).1, ft o0 (isM p1 && (dE xS p1 p2).2))
theorem Q11h (p1 : Val) (p2 : BA) (o0 : Decoder) : ∀ (l : List Val) (i : Nat) (b : Bool) (a : List ByteArray), Q4x p1 p2 o0 l i b a = (b || !(l.all fun x => (xS x).2), a ++ l.map (fun x => (xS x).1))
  | [], _, b, a => by rw [Q4x]; simp
  | x :: l, i, b, a => by
    rw [Q4x]
    refine (Q11h p1 p2 o0 l (i + 1) (b || !(xS x).2) (a ++ [(xS x).1])).trans ?_
    simp only [List.append_assoc, List.singleton_append, List.map_cons, List.all_cons, Bool.not_and, Bool.or_assoc]
theorem Q1m2 (p1 : Val) (p2 : BA) (o0 : Decoder) : Qzj p1 p2 o0 = (((Q4x p1 p2 o0 (s_Kj p1 p2 4 o0).1.list 0 (s_Kj p1 p2 4 o0).2.failed []).2, (Decoder.mk (Q4x p1 p2 o0 (s_Kj p1 p2 4 o0).1.list 0 (s_Kj p1 p2 4 o0).2.failed []).1))) := by
  rw [Q11h]
  unfold s_Kj Qzj
  simp only [getL, Q5a]
  refine Prod.ext rfl ?_
  rw [Q85 o0.failed (isM p1) _ _ _ (Qtd (prt p1 p2)), Q5b]
  rfl
def Q1p7 (p1 : Val) (p2 : BA) (o0 : Decoder) : En := .call 141 [.bx 0 0, .agg (Val.cells p1), .str p2, .fn 142 [.bx 0 0] []] [⟨1, 0, false, (Decoder.cells o0)⟩]
def Q1oa (_p1 : Val) (_p2 : BA) (_o0 : Decoder) (q0 : List ByteArray) (q1 : Decoder) : Rs := .ret (.sl (Qe q0)) [⟨1, 0, false, (Decoder.cells q1)⟩]
def Q1il (p1 : Val) (p2 : BA) (o0 : Decoder) : Rs := Q1oa p1 p2 o0 (Qzj p1 p2 o0).1 (Qzj p1 p2 o0).2
def Q1g4 (p1 : Val) : Prop := Val.Sm 1000000000 p1
theorem Q12v (p1 : Val) (p2 : BA) (o0 : Decoder) (H : Q1g4 p1) : (H_Kj p1) ∧ (Qby p1 p2 o0) ∧ True := by
  have hl := Qn2 (Q2y H p2)
  refine ⟨H, ?_, trivial⟩
  unfold Qby s_Kj
  simp only [getL]
  exact ⟨Nat.le_trans hl.1 (Nat.le_of_ble_eq_true rfl), trivial⟩
theorem Q1m1 (p1 : Val) (p2 : BA) (o0 : Decoder) (H : Q1g4 p1) : Q6 G (Q1p7 p1 p2 o0) (Q1il p1 p2 o0) := by
 unfold Q1il
 rw [Q1m2]
 have hl0 := Qux p1 p2 o0 ((Q12v p1 p2 o0 H).2.1) (s_Kj p1 p2 4 o0).1.list 0 (s_Kj p1 p2 4 o0).2.failed [] (by simp) (by simp)
 obtain ⟨z0, zo0, hl0⟩ := hl0
 exact Q8 (fn := Ir.K13) rfl (h := [⟨1, 0, false, (Decoder.cells o0)⟩]) (vw := []) VOK.nil [hP 8 (Qf (Val.rows (s_Kj p1 p2 4 o0).1.list) (List.length (s_Kj p1 p2 4 o0).1.list) (Val.Q0 (s_Kj p1 p2 4 o0).1.list)), hS 0 true (Q6f (Q4x p1 p2 o0 (s_Kj p1 p2 4 o0).1.list 0 (s_Kj p1 p2 4 o0).2.failed []).2 1 rfl), hQ (Q1c (Q4x p1 p2 o0 (s_Kj p1 p2 4 o0).1.list 0 (s_Kj p1 p2 4 o0).2.failed []).2).symm] [aN (t_Kj p1 p2 4 o0 (Q12v p1 p2 o0 H).1), aV [(1, Qe (Q4x p1 p2 o0 (s_Kj p1 p2 4 o0).1.list 0 (s_Kj p1 p2 4 o0).2.failed []).2)] hl0] (by kernel_rfl)
def s_Kq (p1 : Val) (o0 : Decoder) : Requirement × Decoder := ((Requirement.dec p1).1, ft o0 (Requirement.dec p1).2)
theorem e_Kq (p1 : Val) (o0 : Decoder) : s_Kq p1 o0 = (((Requirement.mk (s_Kv p1 Q1d (s_Kw p1 o0).2).1 (s_Kn p1 Q57 (s_Kv p1 Q1d (s_Kw p1 o0).2).2).1 (Qzj p1 Q22 (s_Kn p1 Q57 (s_Kv p1 Q1d (s_Kw p1 o0).2).2).2).1), (Qzj p1 Q22 (s_Kn p1 Q57 (s_Kv p1 Q1d (s_Kw p1 o0).2).2).2).2)) := by
  simp only [s_Kw, s_Kn, s_Kv, Qzj, s_Kq, Requirement.dec, Qi0, Bool.and_assoc, Bool.and_left_comm, Bool.and_comm, Bool.and_self_left]
def c_Kq (p1 : Val) (o0 : Decoder) : En := .call 88 [.bx 0 0, .agg (Val.cells p1)] [⟨1, 0, false, (Decoder.cells o0)⟩]
def r_Kq (_p1 : Val) (_o0 : Decoder) (q0 : Requirement) (q1 : Decoder) : Rs := .ret (.agg (Requirement.cells q0)) [⟨1, 0, false, (Decoder.cells q1)⟩]
def a_Kq (p1 : Val) (o0 : Decoder) : Rs := r_Kq p1 o0 (s_Kq p1 o0).1 (s_Kq p1 o0).2
def H_Kq (p1 : Val) : Prop := Val.Sm 1000000000 p1
theorem Qzu (p1 : Val) (_o0 : Decoder) (H : H_Kq p1) : (H_Kv p1) ∧ (H_Kn p1) ∧ (Q1g4 p1) ∧ True := by
  repeat' with_reducible apply And.intro
  all_goals first | exact True.intro | exact H | exact Qin (Q2y H _)
theorem t_Kq (p1 : Val) (o0 : Decoder) (H : H_Kq p1) : Q6 G (c_Kq p1 o0) (a_Kq p1 o0) := by
 unfold a_Kq
 rw [e_Kq]
 exact Q8 (fn := Ir.Kq) rfl (h := [⟨1, 0, false, (Decoder.cells o0)⟩]) (vw := []) VOK.nil [] [aN (t_Kw p1 o0), aN (t_Kv p1 Q1d (s_Kw p1 o0).2 (Qzu p1 o0 H).1), aN (t_Kn p1 Q57 (s_Kv p1 Q1d (s_Kw p1 o0).2).2 (Qzu p1 o0 H).2.1), aN (Q1m1 p1 Q22 (s_Kn p1 Q57 (s_Kv p1 Q1d (s_Kw p1 o0).2).2).2 (Qzu p1 o0 H).2.2.1)] (by kernel_rfl)
def Q4p (p1 : Val) (p2 : BA) (o0 : Decoder) : List Val → Nat → Bool → (List Requirement) → Bool × (List Requirement)
 | [], _i0, v0_1, v0_2 =>
  (v0_1, v0_2)
 | x0 :: r0, i0, v0_1, v0_2 =>
  Q4p p1 p2 o0 r0 (i0 + 1) (s_Kq x0 (Decoder.mk v0_1)).2.failed (v0_2 ++ [(s_Kq x0 (Decoder.mk v0_1)).1])
def Qul (p1 : Val) (p2 : BA) (o0 : Decoder) (i0 : Nat) (_v0_1 : Bool) (v0_2 : List Requirement) : List PV :=
  [.un, .un, .un, .fn 88 [.bx 0 0] []] ++ nuns 5 ++ [.ms 1 3 0 (List.length v0_2)] ++ nuns 6 ++ [.sl (Val.rows (s_Kj p1 p2 4 o0).1.list), .int .i64 ((List.length (s_Kj p1 p2 4 o0).1.list) : Int), .int .i64 (i0 : Int)] ++ nuns 11
def Qm6 (_p1 : Val) (_p2 : BA) (_o0 : Decoder) (_i0 : Nat) (v0_1 : Bool) (v0_2 : List Requirement) : List Ob :=
  [⟨1, 0, false, [.bool v0_1]⟩, ⟨3, 0, true, (Requirement.rows v0_2).flatten⟩]
def Qf7 (p1 : Val) (p2 : BA) (o0 : Decoder) (i0 : Nat) (v0_1 : Bool) (v0_2 : List Requirement) : En := .loop 1 Ir.Qmb Ir.Q1f6 (Qul p1 p2 o0 i0 v0_1 v0_2) (Qm6 p1 p2 o0 i0 v0_1 v0_2)
def Qob (_p1 : Val) (_p2 : BA) (_o0 : Decoder) (q0 : Bool) (q1 : List Requirement) (z : Nat → PV) (_zo : Nat → List PV) : St :=
  ⟨zr z 0 9 ++ [.ms 1 3 0 (List.length q1)] ++ zr z 10 20, [(0, ⟨1, 0, false, [.bool q0]⟩), (1, ⟨3, 0, true, (Requirement.rows q1).flatten⟩)], 66⟩
theorem Q106 (p1 : Val) (p2 : BA) (o0 : Decoder) (i0 : Nat) (v0_1 : Bool) (v0_2 : List Requirement) : VOK (Go.Pv.look (number 0 (Qm6 p1 p2 o0 i0 v0_1 v0_2))) [(1, Requirement.rows v0_2)] := (VOK.cons (show Seen _ _ from Q3q (ob := ⟨3, 0, true, (Requirement.rows v0_2).flatten⟩) (Requirement.Q7 v0_2 3 rfl)) VOK.nil)
def Qgp (p1 : Val) (p2 : BA) (o0 : Decoder) (e : En) (q : Bool × (List Requirement)) : Prop := ∃ z zo, Q6 G e (.st (.exit 0) (Qob p1 p2 o0 q.1 q.2 z zo))
theorem Qtw (p1 : Val) (p2 : BA) (o0 : Decoder) {e e' : En} (h : ∀ r, Q6 G e r → Q6 G e' r) : ∀ q, Qgp p1 p2 o0 e q → Qgp p1 p2 o0 e' q
  | _, ⟨z, zo, hz⟩ => ⟨z, zo, h _ hz⟩
def Qb6 (p1 : Val) (p2 : BA) (o0 : Decoder) : Prop := (List.length (s_Kj p1 p2 4 o0).1.list ≤ 137438953472) ∧ (∀ x0 ∈ (s_Kj p1 p2 4 o0).1.list, H_Kq x0) ∧ True
def Qo4 (p1 : Val) (p2 : BA) (o0 : Decoder) (i0 : Nat) (_v0_1 : Bool) (_v0_2 : List Requirement) : List PV :=
  [.un, .un, .un, .fn 88 [.bx 0 0] []] ++ nuns 12 ++ [.sl (Val.rows (s_Kj p1 p2 4 o0).1.list), .int .i64 ((List.length (s_Kj p1 p2 4 o0).1.list) : Int), .int .i64 (i0 : Int), .bool false]
def Qht (_p1 : Val) (_p2 : BA) (_o0 : Decoder) (_i0 : Nat) (_v0_1 : Bool) (_v0_2 : List Requirement) : List (Nat × List PV) :=
  []
theorem Q15c (p1 : Val) (p2 : BA) (o0 : Decoder) (_H : Qb6 p1 p2 o0) (i0 : Nat) (v0_1 : Bool) (v0_2 : List Requirement) (_ho0_0 : List.length v0_2 ≤ i0) (hc0 : (decide ((i0 : Int) < ((List.length (s_Kj p1 p2 4 o0).1.list) : Int))) = false) : Qgp p1 p2 o0 (Qf7 p1 p2 o0 i0 v0_1 v0_2) (v0_1, v0_2) := by
 exact ⟨(envF (Qo4 p1 p2 o0 i0 v0_1 v0_2)), (zoF (Qht p1 p2 o0 i0 v0_1 v0_2)), Qh (Q106 p1 p2 o0 i0 v0_1 v0_2) (x := ((.exit 0), Qob p1 p2 o0 v0_1 v0_2 (envF (Qo4 p1 p2 o0 i0 v0_1 v0_2)) (zoF (Qht p1 p2 o0 i0 v0_1 v0_2)))) [hB 0 hc0] [] (by kernel_rfl)⟩
theorem Q13p (p1 : Val) (p2 : BA) (o0 : Decoder) (H : Qb6 p1 p2 o0) (x0 : Val) (i0 : Nat) (v0_1 : Bool) (v0_2 : List Requirement) (hx0 : (s_Kj p1 p2 4 o0).1.list[i0]? = some x0) (hi0 : i0 < List.length (s_Kj p1 p2 4 o0).1.list) (ho0_0 : List.length v0_2 ≤ i0) (hc0 : (decide ((i0 : Int) < ((List.length (s_Kj p1 p2 4 o0).1.list) : Int))) = true) {r : Rs} (hr : Q6 G (Qf7 p1 p2 o0 (i0 + 1) (s_Kq x0 (Decoder.mk v0_1)).2.failed (v0_2 ++ [(s_Kq x0 (Decoder.mk v0_1)).1])) r) : Q6 G (Qf7 p1 p2 o0 i0 v0_1 v0_2) r := by
 have hB0 := H.1
 exact Qm (Q106 p1 p2 o0 i0 v0_1 v0_2) (y := (Qul p1 p2 o0 (i0 + 1) (s_Kq x0 (Decoder.mk v0_1)).2.failed (v0_2 ++ [(s_Kq x0 (Decoder.mk v0_1)).1]), Qm6 p1 p2 o0 (i0 + 1) (s_Kq x0 (Decoder.mk v0_1)).2.failed (v0_2 ++ [(s_Kq x0 (Decoder.mk v0_1)).1]))) [hB 0 hc0, hP 0 (Q1k 5 (Val.rows (s_Kj p1 p2 4 o0).1.list) i0 _ (Val.Qb hx0) rfl), hV 8 [(642, Requirement.rows (v0_2 ++ [(s_Kq x0 (Decoder.mk v0_1)).1]))] (Q5e 1 578 642 3 48 0 0 true (Requirement.rows v0_2) (Requirement.rows (v0_2 ++ [(s_Kq x0 (Decoder.mk v0_1)).1])) (Requirement.cells (s_Kq x0 (Decoder.mk v0_1)).1) (List.length v0_2) (List.length (v0_2 ++ [(s_Kq x0 (Decoder.mk v0_1)).1])) rfl (Requirement.Q0 v0_2).symm (Requirement.Q0 (v0_2 ++ [(s_Kq x0 (Decoder.mk v0_1)).1])).symm (Requirement.Q15 v0_2 (s_Kq x0 (Decoder.mk v0_1)).1) (Requirement.Qd v0_2) rfl (by omega)), hS 0 true (Requirement.Q7 (v0_2 ++ [(s_Kq x0 (Decoder.mk v0_1)).1]) 3 rfl), hP 1 (Q29 i0 (by omega))] [aN (t_Kq x0 (Decoder.mk v0_1) (H.2.1 x0 (Q2e hx0)))] (by kernel_rfl) hr
theorem Qvc (p1 : Val) (p2 : BA) (o0 : Decoder) (H : Qb6 p1 p2 o0) : ∀ (r0 : List Val) (i0 : Nat) (v0_1 : Bool) (v0_2 : List Requirement), List.drop i0 (s_Kj p1 p2 4 o0).1.list = r0 → List.length v0_2 ≤ i0 → Qgp p1 p2 o0 (Qf7 p1 p2 o0 i0 v0_1 v0_2) (Q4p p1 p2 o0 r0 i0 v0_1 v0_2)
 | [], i0, v0_1, v0_2, hd, ho0_0 => by
  have hc0 : (decide ((i0 : Int) < ((List.length (s_Kj p1 p2 4 o0).1.list) : Int))) = false := by have := Q1g hd; simp; omega
  rw [Q4p]
  exact Q15c p1 p2 o0 H i0 v0_1 v0_2 ho0_0 hc0
 | x0 :: r0, i0, v0_1, v0_2, hd, ho0_0 => by
  obtain ⟨hx0, hi0, hd'⟩ := Q12 hd
  have hc0 : (decide ((i0 : Int) < ((List.length (s_Kj p1 p2 4 o0).1.list) : Int))) = true := by simp; omega
  rw [Q4p]
  exact Qtw p1 p2 o0 (fun r hr => Q13p p1 p2 o0 H x0 i0 v0_1 v0_2 hx0 hi0 ho0_0 hc0 hr) _ (Qvc p1 p2 o0 H r0 (i0 + 1) (s_Kq x0 (Decoder.mk v0_1)).2.failed (v0_2 ++ [(s_Kq x0 (Decoder.mk v0_1)).1]) hd' (by first | omega | (simp; omega)))
def Q4g (p1 : Val) (p2 : BA) (o0 : Decoder) : List Requirement × Decoder := ((dE Requirement.dec p1 p2).1, ft o0 (isM p1 && (dE Requirement.dec p1 p2).2))
theorem Q10t (p1 : Val) (p2 : BA) (o0 : Decoder) : ∀ (l : List Val) (i : Nat) (b : Bool) (a : List Requirement), Q4p p1 p2 o0 l i b a = (b || !(l.all fun x => (Requirement.dec x).2), a ++ l.map (fun x => (Requirement.dec x).1))
  | [], _, b, a => by rw [Q4p]; simp
  | x :: l, i, b, a => by
    rw [Q4p]
    refine (Q10t p1 p2 o0 l (i + 1) (b || !(Requirement.dec x).2) (a ++ [(Requirement.dec x).1])).trans ?_
    simp only [List.append_assoc, List.singleton_append, List.map_cons, List.all_cons, Bool.not_and, Bool.or_assoc]
theorem Q1mk (p1 : Val) (p2 : BA) (o0 : Decoder) : Q4g p1 p2 o0 = (((Q4p p1 p2 o0 (s_Kj p1 p2 4 o0).1.list 0 (s_Kj p1 p2 4 o0).2.failed []).2, (Decoder.mk (Q4p p1 p2 o0 (s_Kj p1 p2 4 o0).1.list 0 (s_Kj p1 p2 4 o0).2.failed []).1))) := by
  rw [Q10t]
  unfold s_Kj Q4g
  simp only [getL, Q5a]
  refine Prod.ext rfl ?_
  rw [Q85 o0.failed (isM p1) _ _ _ (Qtd (prt p1 p2)), Q5b]
  rfl
def Q1oh (p1 : Val) (p2 : BA) (o0 : Decoder) : En := .call 87 [.bx 0 0, .agg (Val.cells p1), .str p2, .fn 88 [.bx 0 0] []] [⟨1, 0, false, (Decoder.cells o0)⟩]
def Q1qs (_p1 : Val) (_p2 : BA) (_o0 : Decoder) (q0 : List Requirement) (q1 : Decoder) : Rs := .ret (.sl (Requirement.rows q0)) [⟨1, 0, false, (Decoder.cells q1)⟩]
def Q1k6 (p1 : Val) (p2 : BA) (o0 : Decoder) : Rs := Q1qs p1 p2 o0 (Q4g p1 p2 o0).1 (Q4g p1 p2 o0).2
def Q17m (p1 : Val) : Prop := Val.Sm 1000000000 p1
theorem Q115 (p1 : Val) (p2 : BA) (o0 : Decoder) (H : Q17m p1) : (H_Kj p1) ∧ (Qb6 p1 p2 o0) ∧ True := by
  have hl := Qn2 (Q2y H p2)
  refine ⟨H, ?_, trivial⟩
  unfold Qb6 s_Kj
  simp only [getL]
  exact ⟨Nat.le_trans hl.1 (Nat.le_of_ble_eq_true rfl), hl.2, trivial⟩
theorem Q1d0 (p1 : Val) (p2 : BA) (o0 : Decoder) (H : Q17m p1) : Q6 G (Q1oh p1 p2 o0) (Q1k6 p1 p2 o0) := by
 unfold Q1k6
 rw [Q1mk]
 have hl0 := Qvc p1 p2 o0 ((Q115 p1 p2 o0 H).2.1) (s_Kj p1 p2 4 o0).1.list 0 (s_Kj p1 p2 4 o0).2.failed [] (by simp) (by simp)
 obtain ⟨z0, zo0, hl0⟩ := hl0
 exact Q8 (fn := Ir.K17) rfl (h := [⟨1, 0, false, (Decoder.cells o0)⟩]) (vw := []) VOK.nil [hP 8 (Qf (Val.rows (s_Kj p1 p2 4 o0).1.list) (List.length (s_Kj p1 p2 4 o0).1.list) (Val.Q0 (s_Kj p1 p2 4 o0).1.list)), hS 0 true (Requirement.Q7 (Q4p p1 p2 o0 (s_Kj p1 p2 4 o0).1.list 0 (s_Kj p1 p2 4 o0).2.failed []).2 3 rfl), hQ (Requirement.Q0 (Q4p p1 p2 o0 (s_Kj p1 p2 4 o0).1.list 0 (s_Kj p1 p2 4 o0).2.failed []).2).symm] [aN (t_Kj p1 p2 4 o0 (Q115 p1 p2 o0 H).1), aV [(1, Requirement.rows (Q4p p1 p2 o0 (s_Kj p1 p2 4 o0).1.list 0 (s_Kj p1 p2 4 o0).2.failed []).2)] hl0] (by kernel_rfl)
def s_Km (p1 : Val) (o0 : Decoder) : NodeTerm × Decoder := ((NodeTerm.dec p1).1, ft o0 (NodeTerm.dec p1).2)
theorem e_Km (p1 : Val) (o0 : Decoder) : s_Km p1 o0 = (((NodeTerm.mk (s_Ki p1 Q9 (s_Kw p1 o0).2).1 (Q4g p1 Qa (s_Ki p1 Q9 (s_Kw p1 o0).2).2).1 (s_Kn p1 Qu (Q4g p1 Qa (s_Ki p1 Q9 (s_Kw p1 o0).2).2).2).1), (s_Kn p1 Qu (Q4g p1 Qa (s_Ki p1 Q9 (s_Kw p1 o0).2).2).2).2)) := by
  simp only [s_Kw, s_Kn, s_Ki, Q4g, s_Km, NodeTerm.dec, Qi0, Bool.and_assoc, Bool.and_left_comm, Bool.and_self_left]
def c_Km (p1 : Val) (o0 : Decoder) : En := .call 90 [.bx 0 0, .agg (Val.cells p1)] [⟨1, 0, false, (Decoder.cells o0)⟩]
def r_Km (_p1 : Val) (_o0 : Decoder) (q0 : NodeTerm) (q1 : Decoder) : Rs := .ret (.agg (NodeTerm.cells q0)) [⟨1, 0, false, (Decoder.cells q1)⟩]
def a_Km (p1 : Val) (o0 : Decoder) : Rs := r_Km p1 o0 (s_Km p1 o0).1 (s_Km p1 o0).2
def H_Km (p1 : Val) : Prop := Val.Sm 1000000000 p1
theorem Qzz (p1 : Val) (_o0 : Decoder) (H : H_Km p1) : (H_Ki p1) ∧ (Q17m p1) ∧ (H_Kn p1) ∧ True := by
  repeat' with_reducible apply And.intro
  all_goals first | exact True.intro | exact H | exact Qin (Q2y H _)
theorem t_Km (p1 : Val) (o0 : Decoder) (H : H_Km p1) : Q6 G (c_Km p1 o0) (a_Km p1 o0) := by
 unfold a_Km
 rw [e_Km]
 exact Q8 (fn := Ir.Km) rfl (h := [⟨1, 0, false, (Decoder.cells o0)⟩]) (vw := []) VOK.nil [] [aN (t_Kw p1 o0), aN (t_Ki p1 Q9 (s_Kw p1 o0).2 (Qzz p1 o0 H).1), aN (Q1d0 p1 Qa (s_Ki p1 Q9 (s_Kw p1 o0).2).2 (Qzz p1 o0 H).2.1), aN (t_Kn p1 Qu (Q4g p1 Qa (s_Ki p1 Q9 (s_Kw p1 o0).2).2).2 (Qzz p1 o0 H).2.2.1)] (by kernel_rfl)
def Q4y (p1 : Val) (p2 : BA) (o0 : Decoder) : List Val → Nat → Bool → (List NodeTerm) → Bool × (List NodeTerm)
 | [], _i0, v0_1, v0_2 =>
  (v0_1, v0_2)
 | x0 :: r0, i0, v0_1, v0_2 =>
  Q4y p1 p2 o0 r0 (i0 + 1) (s_Km x0 (Decoder.mk v0_1)).2.failed (v0_2 ++ [(s_Km x0 (Decoder.mk v0_1)).1])
def Qvw (p1 : Val) (p2 : BA) (o0 : Decoder) (i0 : Nat) (_v0_1 : Bool) (v0_2 : List NodeTerm) : List PV :=
  [.un, .un, .un, .fn 90 [.bx 0 0] []] ++ nuns 5 ++ [.ms 1 3 0 (List.length v0_2)] ++ nuns 6 ++ [.sl (Val.rows (s_Kj p1 p2 4 o0).1.list), .int .i64 ((List.length (s_Kj p1 p2 4 o0).1.list) : Int), .int .i64 (i0 : Int)] ++ nuns 11
def Qia (_p1 : Val) (_p2 : BA) (_o0 : Decoder) (_i0 : Nat) (v0_1 : Bool) (v0_2 : List NodeTerm) : List Ob :=
  [⟨1, 0, false, [.bool v0_1]⟩, ⟨3, 0, true, (NodeTerm.rows v0_2).flatten⟩]
def Qgq (p1 : Val) (p2 : BA) (o0 : Decoder) (i0 : Nat) (v0_1 : Bool) (v0_2 : List NodeTerm) : En := .loop 1 Ir.Qjo Ir.Q1f1 (Qvw p1 p2 o0 i0 v0_1 v0_2) (Qia p1 p2 o0 i0 v0_1 v0_2)
def Qpn (_p1 : Val) (_p2 : BA) (_o0 : Decoder) (q0 : Bool) (q1 : List NodeTerm) (z : Nat → PV) (_zo : Nat → List PV) : St :=
  ⟨zr z 0 9 ++ [.ms 1 3 0 (List.length q1)] ++ zr z 10 20, [(0, ⟨1, 0, false, [.bool q0]⟩), (1, ⟨3, 0, true, (NodeTerm.rows q1).flatten⟩)], 66⟩
theorem Q12s (p1 : Val) (p2 : BA) (o0 : Decoder) (i0 : Nat) (v0_1 : Bool) (v0_2 : List NodeTerm) : VOK (Go.Pv.look (number 0 (Qia p1 p2 o0 i0 v0_1 v0_2))) [(1, NodeTerm.rows v0_2)] := (VOK.cons (show Seen _ _ from Q3q (ob := ⟨3, 0, true, (NodeTerm.rows v0_2).flatten⟩) (NodeTerm.Q7 v0_2 3 rfl)) VOK.nil)
def Qgm (p1 : Val) (p2 : BA) (o0 : Decoder) (e : En) (q : Bool × (List NodeTerm)) : Prop := ∃ z zo, Q6 G e (.st (.exit 0) (Qpn p1 p2 o0 q.1 q.2 z zo))
theorem Qtr (p1 : Val) (p2 : BA) (o0 : Decoder) {e e' : En} (h : ∀ r, Q6 G e r → Q6 G e' r) : ∀ q, Qgm p1 p2 o0 e q → Qgm p1 p2 o0 e' q
  | _, ⟨z, zo, hz⟩ => ⟨z, zo, h _ hz⟩
def Qbt (p1 : Val) (p2 : BA) (o0 : Decoder) : Prop := (List.length (s_Kj p1 p2 4 o0).1.list ≤ 137438953472) ∧ (∀ x0 ∈ (s_Kj p1 p2 4 o0).1.list, H_Km x0) ∧ True
def Qqc (p1 : Val) (p2 : BA) (o0 : Decoder) (i0 : Nat) (_v0_1 : Bool) (_v0_2 : List NodeTerm) : List PV :=
  [.un, .un, .un, .fn 90 [.bx 0 0] []] ++ nuns 12 ++ [.sl (Val.rows (s_Kj p1 p2 4 o0).1.list), .int .i64 ((List.length (s_Kj p1 p2 4 o0).1.list) : Int), .int .i64 (i0 : Int), .bool false]
def Qjc (_p1 : Val) (_p2 : BA) (_o0 : Decoder) (_i0 : Nat) (_v0_1 : Bool) (_v0_2 : List NodeTerm) : List (Nat × List PV) :=
  []
theorem Q181 (p1 : Val) (p2 : BA) (o0 : Decoder) (_H : Qbt p1 p2 o0) (i0 : Nat) (v0_1 : Bool) (v0_2 : List NodeTerm) (_ho0_0 : List.length v0_2 ≤ i0) (hc0 : (decide ((i0 : Int) < ((List.length (s_Kj p1 p2 4 o0).1.list) : Int))) = false) : Qgm p1 p2 o0 (Qgq p1 p2 o0 i0 v0_1 v0_2) (v0_1, v0_2) := by
 exact ⟨(envF (Qqc p1 p2 o0 i0 v0_1 v0_2)), (zoF (Qjc p1 p2 o0 i0 v0_1 v0_2)), Qh (Q12s p1 p2 o0 i0 v0_1 v0_2) (x := ((.exit 0), Qpn p1 p2 o0 v0_1 v0_2 (envF (Qqc p1 p2 o0 i0 v0_1 v0_2)) (zoF (Qjc p1 p2 o0 i0 v0_1 v0_2)))) [hB 0 hc0] [] (by kernel_rfl)⟩
theorem Q14v (p1 : Val) (p2 : BA) (o0 : Decoder) (H : Qbt p1 p2 o0) (x0 : Val) (i0 : Nat) (v0_1 : Bool) (v0_2 : List NodeTerm) (hx0 : (s_Kj p1 p2 4 o0).1.list[i0]? = some x0) (hi0 : i0 < List.length (s_Kj p1 p2 4 o0).1.list) (ho0_0 : List.length v0_2 ≤ i0) (hc0 : (decide ((i0 : Int) < ((List.length (s_Kj p1 p2 4 o0).1.list) : Int))) = true) {r : Rs} (hr : Q6 G (Qgq p1 p2 o0 (i0 + 1) (s_Km x0 (Decoder.mk v0_1)).2.failed (v0_2 ++ [(s_Km x0 (Decoder.mk v0_1)).1])) r) : Q6 G (Qgq p1 p2 o0 i0 v0_1 v0_2) r := by
 have hB0 := H.1
 exact Qm (Q12s p1 p2 o0 i0 v0_1 v0_2) (y := (Qvw p1 p2 o0 (i0 + 1) (s_Km x0 (Decoder.mk v0_1)).2.failed (v0_2 ++ [(s_Km x0 (Decoder.mk v0_1)).1]), Qia p1 p2 o0 (i0 + 1) (s_Km x0 (Decoder.mk v0_1)).2.failed (v0_2 ++ [(s_Km x0 (Decoder.mk v0_1)).1]))) [hB 0 hc0, hP 0 (Q1k 5 (Val.rows (s_Kj p1 p2 4 o0).1.list) i0 _ (Val.Qb hx0) rfl), hV 8 [(642, NodeTerm.rows (v0_2 ++ [(s_Km x0 (Decoder.mk v0_1)).1]))] (Q5e 1 578 642 3 40 0 0 true (NodeTerm.rows v0_2) (NodeTerm.rows (v0_2 ++ [(s_Km x0 (Decoder.mk v0_1)).1])) (NodeTerm.cells (s_Km x0 (Decoder.mk v0_1)).1) (List.length v0_2) (List.length (v0_2 ++ [(s_Km x0 (Decoder.mk v0_1)).1])) rfl (NodeTerm.Q0 v0_2).symm (NodeTerm.Q0 (v0_2 ++ [(s_Km x0 (Decoder.mk v0_1)).1])).symm (NodeTerm.Q15 v0_2 (s_Km x0 (Decoder.mk v0_1)).1) (NodeTerm.Qd v0_2) rfl (by omega)), hS 0 true (NodeTerm.Q7 (v0_2 ++ [(s_Km x0 (Decoder.mk v0_1)).1]) 3 rfl), hP 1 (Q29 i0 (by omega))] [aN (t_Km x0 (Decoder.mk v0_1) (H.2.1 x0 (Q2e hx0)))] (by kernel_rfl) hr
theorem Qwl (p1 : Val) (p2 : BA) (o0 : Decoder) (H : Qbt p1 p2 o0) : ∀ (r0 : List Val) (i0 : Nat) (v0_1 : Bool) (v0_2 : List NodeTerm), List.drop i0 (s_Kj p1 p2 4 o0).1.list = r0 → List.length v0_2 ≤ i0 → Qgm p1 p2 o0 (Qgq p1 p2 o0 i0 v0_1 v0_2) (Q4y p1 p2 o0 r0 i0 v0_1 v0_2)
 | [], i0, v0_1, v0_2, hd, ho0_0 => by
  have hc0 : (decide ((i0 : Int) < ((List.length (s_Kj p1 p2 4 o0).1.list) : Int))) = false := by have := Q1g hd; simp; omega
  rw [Q4y]
  exact Q181 p1 p2 o0 H i0 v0_1 v0_2 ho0_0 hc0
 | x0 :: r0, i0, v0_1, v0_2, hd, ho0_0 => by
  obtain ⟨hx0, hi0, hd'⟩ := Q12 hd
  have hc0 : (decide ((i0 : Int) < ((List.length (s_Kj p1 p2 4 o0).1.list) : Int))) = true := by simp; omega
  rw [Q4y]
  exact Qtr p1 p2 o0 (fun r hr => Q14v p1 p2 o0 H x0 i0 v0_1 v0_2 hx0 hi0 ho0_0 hc0 hr) _ (Qwl p1 p2 o0 H r0 (i0 + 1) (s_Km x0 (Decoder.mk v0_1)).2.failed (v0_2 ++ [(s_Km x0 (Decoder.mk v0_1)).1]) hd' (by first | omega | (simp; omega)))
def Qdq (p1 : Val) (p2 : BA) (o0 : Decoder) : List NodeTerm × Decoder := ((dE NodeTerm.dec p1 p2).1, ft o0 (isM p1 && (dE NodeTerm.dec p1 p2).2))
theorem Q134 (p1 : Val) (p2 : BA) (o0 : Decoder) : ∀ (l : List Val) (i : Nat) (b : Bool) (a : List NodeTerm), Q4y p1 p2 o0 l i b a = (b || !(l.all fun x => (NodeTerm.dec x).2), a ++ l.map (fun x => (NodeTerm.dec x).1))
  | [], _, b, a => by rw [Q4y]; simp
  | x :: l, i, b, a => by
    rw [Q4y]
    refine (Q134 p1 p2 o0 l (i + 1) (b || !(NodeTerm.dec x).2) (a ++ [(NodeTerm.dec x).1])).trans ?_
    simp only [List.append_assoc, List.singleton_append, List.map_cons, List.all_cons, Bool.not_and, Bool.or_assoc]
theorem Q1p6 (p1 : Val) (p2 : BA) (o0 : Decoder) : Qdq p1 p2 o0 = (((Q4y p1 p2 o0 (s_Kj p1 p2 4 o0).1.list 0 (s_Kj p1 p2 4 o0).2.failed []).2, (Decoder.mk (Q4y p1 p2 o0 (s_Kj p1 p2 4 o0).1.list 0 (s_Kj p1 p2 4 o0).2.failed []).1))) := by
  rw [Q134]
  unfold s_Kj Qdq
  simp only [getL, Q5a]
  refine Prod.ext rfl ?_
  rw [Q85 o0.failed (isM p1) _ _ _ (Qtd (prt p1 p2)), Q5b]
  rfl
def Q1nj (p1 : Val) (p2 : BA) (o0 : Decoder) : En := .call 89 [.bx 0 0, .agg (Val.cells p1), .str p2, .fn 90 [.bx 0 0] []] [⟨1, 0, false, (Decoder.cells o0)⟩]
def Q1p0 (_p1 : Val) (_p2 : BA) (_o0 : Decoder) (q0 : List NodeTerm) (q1 : Decoder) : Rs := .ret (.sl (NodeTerm.rows q0)) [⟨1, 0, false, (Decoder.cells q1)⟩]
def Q1k5 (p1 : Val) (p2 : BA) (o0 : Decoder) : Rs := Q1p0 p1 p2 o0 (Qdq p1 p2 o0).1 (Qdq p1 p2 o0).2
def Q1hw (p1 : Val) : Prop := Val.Sm 1000000000 p1
theorem Q11u (p1 : Val) (p2 : BA) (o0 : Decoder) (H : Q1hw p1) : (H_Kj p1) ∧ (Qbt p1 p2 o0) ∧ True := by
  have hl := Qn2 (Q2y H p2)
  refine ⟨H, ?_, trivial⟩
  unfold Qbt s_Kj
  simp only [getL]
  exact ⟨Nat.le_trans hl.1 (Nat.le_of_ble_eq_true rfl), hl.2, trivial⟩
theorem Q1pk (p1 : Val) (p2 : BA) (o0 : Decoder) (H : Q1hw p1) : Q6 G (Q1nj p1 p2 o0) (Q1k5 p1 p2 o0) := by
 unfold Q1k5
 rw [Q1p6]
 have hl0 := Qwl p1 p2 o0 ((Q11u p1 p2 o0 H).2.1) (s_Kj p1 p2 4 o0).1.list 0 (s_Kj p1 p2 4 o0).2.failed [] (by simp) (by simp)
 obtain ⟨z0, zo0, hl0⟩ := hl0
 exact Q8 (fn := Ir.K18) rfl (h := [⟨1, 0, false, (Decoder.cells o0)⟩]) (vw := []) VOK.nil [hP 8 (Qf (Val.rows (s_Kj p1 p2 4 o0).1.list) (List.length (s_Kj p1 p2 4 o0).1.list) (Val.Q0 (s_Kj p1 p2 4 o0).1.list)), hS 0 true (NodeTerm.Q7 (Q4y p1 p2 o0 (s_Kj p1 p2 4 o0).1.list 0 (s_Kj p1 p2 4 o0).2.failed []).2 3 rfl), hQ (NodeTerm.Q0 (Q4y p1 p2 o0 (s_Kj p1 p2 4 o0).1.list 0 (s_Kj p1 p2 4 o0).2.failed []).2).symm] [aN (t_Kj p1 p2 4 o0 (Q11u p1 p2 o0 H).1), aV [(1, NodeTerm.rows (Q4y p1 p2 o0 (s_Kj p1 p2 4 o0).1.list 0 (s_Kj p1 p2 4 o0).2.failed []).2)] hl0] (by kernel_rfl)
def s_Ko (p1 : Val) (o0 : Decoder) : PodTerm × Decoder := ((PodTerm.dec p1).1, ft o0 (PodTerm.dec p1).2)
theorem e_Ko (p1 : Val) (o0 : Decoder) : s_Ko p1 o0 = (((PodTerm.mk (s_Ki p1 Q9 (s_Kw p1 o0).2).1 (s_Ki p1 Q2h (s_Ki p1 Q9 (s_Kw p1 o0).2).2).1 (Q4g p1 Qa (s_Ki p1 Q2h (s_Ki p1 Q9 (s_Kw p1 o0).2).2).2).1 (s_Kv p1 Qj (Q4g p1 Qa (s_Ki p1 Q2h (s_Ki p1 Q9 (s_Kw p1 o0).2).2).2).2).1 (s_Kn p1 Qu (s_Kv p1 Qj (Q4g p1 Qa (s_Ki p1 Q2h (s_Ki p1 Q9 (s_Kw p1 o0).2).2).2).2).2).1), (s_Kn p1 Qu (s_Kv p1 Qj (Q4g p1 Qa (s_Ki p1 Q2h (s_Ki p1 Q9 (s_Kw p1 o0).2).2).2).2).2).2)) := by
  simp only [s_Kw, s_Kn, s_Kv, s_Ki, Q4g, s_Ko, PodTerm.dec, Qi0, Bool.and_assoc, Bool.and_left_comm, Bool.and_comm, Bool.and_self_left]
def c_Ko (p1 : Val) (o0 : Decoder) : En := .call 92 [.bx 0 0, .agg (Val.cells p1)] [⟨1, 0, false, (Decoder.cells o0)⟩]
def r_Ko (_p1 : Val) (_o0 : Decoder) (q0 : PodTerm) (q1 : Decoder) : Rs := .ret (.agg (PodTerm.cells q0)) [⟨1, 0, false, (Decoder.cells q1)⟩]
def a_Ko (p1 : Val) (o0 : Decoder) : Rs := r_Ko p1 o0 (s_Ko p1 o0).1 (s_Ko p1 o0).2
def H_Ko (p1 : Val) : Prop := Val.Sm 1000000000 p1
theorem Qhn (p1 : Val) (_o0 : Decoder) (H : H_Ko p1) : (H_Ki p1) ∧ (Q17m p1) ∧ (H_Kv p1) ∧ (H_Kn p1) ∧ True := by
  repeat' with_reducible apply And.intro
  all_goals first | exact True.intro | exact H | exact Qin (Q2y H _)
theorem t_Ko (p1 : Val) (o0 : Decoder) (H : H_Ko p1) : Q6 G (c_Ko p1 o0) (a_Ko p1 o0) := by
 unfold a_Ko
 rw [e_Ko]
 exact Q8 (fn := Ir.Ko) rfl (h := [⟨1, 0, false, (Decoder.cells o0)⟩]) (vw := []) VOK.nil [] [aN (t_Kw p1 o0), aN (t_Ki p1 Q9 (s_Kw p1 o0).2 (Qhn p1 o0 H).1), aN (t_Ki p1 Q2h (s_Ki p1 Q9 (s_Kw p1 o0).2).2 (Qhn p1 o0 H).1), aN (Q1d0 p1 Qa (s_Ki p1 Q2h (s_Ki p1 Q9 (s_Kw p1 o0).2).2).2 (Qhn p1 o0 H).2.1), aN (t_Kv p1 Qj (Q4g p1 Qa (s_Ki p1 Q2h (s_Ki p1 Q9 (s_Kw p1 o0).2).2).2).2 (Qhn p1 o0 H).2.2.1), aN (t_Kn p1 Qu (s_Kv p1 Qj (Q4g p1 Qa (s_Ki p1 Q2h (s_Ki p1 Q9 (s_Kw p1 o0).2).2).2).2).2 (Qhn p1 o0 H).2.2.2.1)] (by kernel_rfl)
def Q4l (p1 : Val) (p2 : BA) (o0 : Decoder) : List Val → Nat → Bool → (List PodTerm) → Bool × (List PodTerm)
 | [], _i0, v0_1, v0_2 =>
  (v0_1, v0_2)
 | x0 :: r0, i0, v0_1, v0_2 =>
  Q4l p1 p2 o0 r0 (i0 + 1) (s_Ko x0 (Decoder.mk v0_1)).2.failed (v0_2 ++ [(s_Ko x0 (Decoder.mk v0_1)).1])
def Qyl (p1 : Val) (p2 : BA) (o0 : Decoder) (i0 : Nat) (_v0_1 : Bool) (v0_2 : List PodTerm) : List PV :=
  [.un, .un, .un, .fn 92 [.bx 0 0] []] ++ nuns 5 ++ [.ms 1 5 0 (List.length v0_2)] ++ nuns 6 ++ [.sl (Val.rows (s_Kj p1 p2 4 o0).1.list), .int .i64 ((List.length (s_Kj p1 p2 4 o0).1.list) : Int), .int .i64 (i0 : Int)] ++ nuns 11
def Qhj (_p1 : Val) (_p2 : BA) (_o0 : Decoder) (_i0 : Nat) (v0_1 : Bool) (v0_2 : List PodTerm) : List Ob :=
  [⟨1, 0, false, [.bool v0_1]⟩, ⟨5, 0, true, (PodTerm.rows v0_2).flatten⟩]
def Qfg (p1 : Val) (p2 : BA) (o0 : Decoder) (i0 : Nat) (v0_1 : Bool) (v0_2 : List PodTerm) : En := .loop 1 Ir.Qlm Ir.Q1fc (Qyl p1 p2 o0 i0 v0_1 v0_2) (Qhj p1 p2 o0 i0 v0_1 v0_2)
def Qpd (_p1 : Val) (_p2 : BA) (_o0 : Decoder) (q0 : Bool) (q1 : List PodTerm) (z : Nat → PV) (_zo : Nat → List PV) : St :=
  ⟨zr z 0 9 ++ [.ms 1 5 0 (List.length q1)] ++ zr z 10 20, [(0, ⟨1, 0, false, [.bool q0]⟩), (1, ⟨5, 0, true, (PodTerm.rows q1).flatten⟩)], 66⟩
theorem Q130 (p1 : Val) (p2 : BA) (o0 : Decoder) (i0 : Nat) (v0_1 : Bool) (v0_2 : List PodTerm) : VOK (Go.Pv.look (number 0 (Qhj p1 p2 o0 i0 v0_1 v0_2))) [(1, PodTerm.rows v0_2)] := (VOK.cons (show Seen _ _ from Q3q (ob := ⟨5, 0, true, (PodTerm.rows v0_2).flatten⟩) (PodTerm.Q7 v0_2 5 rfl)) VOK.nil)
def Qfi (p1 : Val) (p2 : BA) (o0 : Decoder) (e : En) (q : Bool × (List PodTerm)) : Prop := ∃ z zo, Q6 G e (.st (.exit 0) (Qpd p1 p2 o0 q.1 q.2 z zo))
theorem Qtc (p1 : Val) (p2 : BA) (o0 : Decoder) {e e' : En} (h : ∀ r, Q6 G e r → Q6 G e' r) : ∀ q, Qfi p1 p2 o0 e q → Qfi p1 p2 o0 e' q
  | _, ⟨z, zo, hz⟩ => ⟨z, zo, h _ hz⟩
def Qbj (p1 : Val) (p2 : BA) (o0 : Decoder) : Prop := (List.length (s_Kj p1 p2 4 o0).1.list ≤ 137438953472) ∧ (∀ x0 ∈ (s_Kj p1 p2 4 o0).1.list, H_Ko x0) ∧ True
def Qpl (p1 : Val) (p2 : BA) (o0 : Decoder) (i0 : Nat) (_v0_1 : Bool) (_v0_2 : List PodTerm) : List PV :=
  [.un, .un, .un, .fn 92 [.bx 0 0] []] ++ nuns 12 ++ [.sl (Val.rows (s_Kj p1 p2 4 o0).1.list), .int .i64 ((List.length (s_Kj p1 p2 4 o0).1.list) : Int), .int .i64 (i0 : Int), .bool false]
def Qja (_p1 : Val) (_p2 : BA) (_o0 : Decoder) (_i0 : Nat) (_v0_1 : Bool) (_v0_2 : List PodTerm) : List (Nat × List PV) :=
  []
theorem Q13l (p1 : Val) (p2 : BA) (o0 : Decoder) (_H : Qbj p1 p2 o0) (i0 : Nat) (v0_1 : Bool) (v0_2 : List PodTerm) (_ho0_0 : List.length v0_2 ≤ i0) (hc0 : (decide ((i0 : Int) < ((List.length (s_Kj p1 p2 4 o0).1.list) : Int))) = false) : Qfi p1 p2 o0 (Qfg p1 p2 o0 i0 v0_1 v0_2) (v0_1, v0_2) := by
 exact ⟨(envF (Qpl p1 p2 o0 i0 v0_1 v0_2)), (zoF (Qja p1 p2 o0 i0 v0_1 v0_2)), Qh (Q130 p1 p2 o0 i0 v0_1 v0_2) (x := ((.exit 0), Qpd p1 p2 o0 v0_1 v0_2 (envF (Qpl p1 p2 o0 i0 v0_1 v0_2)) (zoF (Qja p1 p2 o0 i0 v0_1 v0_2)))) [hB 0 hc0] [] (by kernel_rfl)⟩
theorem Q180 (p1 : Val) (p2 : BA) (o0 : Decoder) (H : Qbj p1 p2 o0) (x0 : Val) (i0 : Nat) (v0_1 : Bool) (v0_2 : List PodTerm) (hx0 : (s_Kj p1 p2 4 o0).1.list[i0]? = some x0) (hi0 : i0 < List.length (s_Kj p1 p2 4 o0).1.list) (ho0_0 : List.length v0_2 ≤ i0) (hc0 : (decide ((i0 : Int) < ((List.length (s_Kj p1 p2 4 o0).1.list) : Int))) = true) {r : Rs} (hr : Q6 G (Qfg p1 p2 o0 (i0 + 1) (s_Ko x0 (Decoder.mk v0_1)).2.failed (v0_2 ++ [(s_Ko x0 (Decoder.mk v0_1)).1])) r) : Q6 G (Qfg p1 p2 o0 i0 v0_1 v0_2) r := by
 have hB0 := H.1
 exact Qm (Q130 p1 p2 o0 i0 v0_1 v0_2) (y := (Qyl p1 p2 o0 (i0 + 1) (s_Ko x0 (Decoder.mk v0_1)).2.failed (v0_2 ++ [(s_Ko x0 (Decoder.mk v0_1)).1]), Qhj p1 p2 o0 (i0 + 1) (s_Ko x0 (Decoder.mk v0_1)).2.failed (v0_2 ++ [(s_Ko x0 (Decoder.mk v0_1)).1]))) [hB 0 hc0, hP 0 (Q1k 5 (Val.rows (s_Kj p1 p2 4 o0).1.list) i0 _ (Val.Qb hx0) rfl), hV 8 [(642, PodTerm.rows (v0_2 ++ [(s_Ko x0 (Decoder.mk v0_1)).1]))] (Q5e 1 578 642 5 56 0 0 true (PodTerm.rows v0_2) (PodTerm.rows (v0_2 ++ [(s_Ko x0 (Decoder.mk v0_1)).1])) (PodTerm.cells (s_Ko x0 (Decoder.mk v0_1)).1) (List.length v0_2) (List.length (v0_2 ++ [(s_Ko x0 (Decoder.mk v0_1)).1])) rfl (PodTerm.Q0 v0_2).symm (PodTerm.Q0 (v0_2 ++ [(s_Ko x0 (Decoder.mk v0_1)).1])).symm (PodTerm.Q15 v0_2 (s_Ko x0 (Decoder.mk v0_1)).1) (PodTerm.Qd v0_2) rfl (by omega)), hS 0 true (PodTerm.Q7 (v0_2 ++ [(s_Ko x0 (Decoder.mk v0_1)).1]) 5 rfl), hP 1 (Q29 i0 (by omega))] [aN (t_Ko x0 (Decoder.mk v0_1) (H.2.1 x0 (Q2e hx0)))] (by kernel_rfl) hr
theorem Qyv (p1 : Val) (p2 : BA) (o0 : Decoder) (H : Qbj p1 p2 o0) : ∀ (r0 : List Val) (i0 : Nat) (v0_1 : Bool) (v0_2 : List PodTerm), List.drop i0 (s_Kj p1 p2 4 o0).1.list = r0 → List.length v0_2 ≤ i0 → Qfi p1 p2 o0 (Qfg p1 p2 o0 i0 v0_1 v0_2) (Q4l p1 p2 o0 r0 i0 v0_1 v0_2)
 | [], i0, v0_1, v0_2, hd, ho0_0 => by
  have hc0 : (decide ((i0 : Int) < ((List.length (s_Kj p1 p2 4 o0).1.list) : Int))) = false := by have := Q1g hd; simp; omega
  rw [Q4l]
  exact Q13l p1 p2 o0 H i0 v0_1 v0_2 ho0_0 hc0
 | x0 :: r0, i0, v0_1, v0_2, hd, ho0_0 => by
  obtain ⟨hx0, hi0, hd'⟩ := Q12 hd
  have hc0 : (decide ((i0 : Int) < ((List.length (s_Kj p1 p2 4 o0).1.list) : Int))) = true := by simp; omega
  rw [Q4l]
  exact Qtc p1 p2 o0 (fun r hr => Q180 p1 p2 o0 H x0 i0 v0_1 v0_2 hx0 hi0 ho0_0 hc0 hr) _ (Qyv p1 p2 o0 H r0 (i0 + 1) (s_Ko x0 (Decoder.mk v0_1)).2.failed (v0_2 ++ [(s_Ko x0 (Decoder.mk v0_1)).1]) hd' (by first | omega | (simp; omega)))
def Qi4 (p1 : Val) (p2 : BA) (o0 : Decoder) : List PodTerm × Decoder := ((dE PodTerm.dec p1 p2).1, ft o0 (isM p1 && (dE PodTerm.dec p1 p2).2))
theorem Q10e (p1 : Val) (p2 : BA) (o0 : Decoder) : ∀ (l : List Val) (i : Nat) (b : Bool) (a : List PodTerm), Q4l p1 p2 o0 l i b a = (b || !(l.all fun x => (PodTerm.dec x).2), a ++ l.map (fun x => (PodTerm.dec x).1))
  | [], _, b, a => by rw [Q4l]; simp
  | x :: l, i, b, a => by
    rw [Q4l]
    refine (Q10e p1 p2 o0 l (i + 1) (b || !(PodTerm.dec x).2) (a ++ [(PodTerm.dec x).1])).trans ?_
    simp only [List.append_assoc, List.singleton_append, List.map_cons, List.all_cons, Bool.not_and, Bool.or_assoc]
theorem Q1r2 (p1 : Val) (p2 : BA) (o0 : Decoder) : Qi4 p1 p2 o0 = (((Q4l p1 p2 o0 (s_Kj p1 p2 4 o0).1.list 0 (s_Kj p1 p2 4 o0).2.failed []).2, (Decoder.mk (Q4l p1 p2 o0 (s_Kj p1 p2 4 o0).1.list 0 (s_Kj p1 p2 4 o0).2.failed []).1))) := by
  rw [Q10e]
  unfold s_Kj Qi4
  simp only [getL, Q5a]
  refine Prod.ext rfl ?_
  rw [Q85 o0.failed (isM p1) _ _ _ (Qtd (prt p1 p2)), Q5b]
  rfl
def Q1p1 (p1 : Val) (p2 : BA) (o0 : Decoder) : En := .call 91 [.bx 0 0, .agg (Val.cells p1), .str p2, .fn 92 [.bx 0 0] []] [⟨1, 0, false, (Decoder.cells o0)⟩]
def Q1m0 (_p1 : Val) (_p2 : BA) (_o0 : Decoder) (q0 : List PodTerm) (q1 : Decoder) : Rs := .ret (.sl (PodTerm.rows q0)) [⟨1, 0, false, (Decoder.cells q1)⟩]
def Q1kr (p1 : Val) (p2 : BA) (o0 : Decoder) : Rs := Q1m0 p1 p2 o0 (Qi4 p1 p2 o0).1 (Qi4 p1 p2 o0).2
def Q1hj (p1 : Val) : Prop := Val.Sm 1000000000 p1
theorem Q107 (p1 : Val) (p2 : BA) (o0 : Decoder) (H : Q1hj p1) : (H_Kj p1) ∧ (Qbj p1 p2 o0) ∧ True := by
  have hl := Qn2 (Q2y H p2)
  refine ⟨H, ?_, trivial⟩
  unfold Qbj s_Kj
  simp only [getL]
  exact ⟨Nat.le_trans hl.1 (Nat.le_of_ble_eq_true rfl), hl.2, trivial⟩
theorem Q1pu (p1 : Val) (p2 : BA) (o0 : Decoder) (H : Q1hj p1) : Q6 G (Q1p1 p1 p2 o0) (Q1kr p1 p2 o0) := by
 unfold Q1kr
 rw [Q1r2]
 have hl0 := Qyv p1 p2 o0 ((Q107 p1 p2 o0 H).2.1) (s_Kj p1 p2 4 o0).1.list 0 (s_Kj p1 p2 4 o0).2.failed [] (by simp) (by simp)
 obtain ⟨z0, zo0, hl0⟩ := hl0
 exact Q8 (fn := Ir.K19) rfl (h := [⟨1, 0, false, (Decoder.cells o0)⟩]) (vw := []) VOK.nil [hP 8 (Qf (Val.rows (s_Kj p1 p2 4 o0).1.list) (List.length (s_Kj p1 p2 4 o0).1.list) (Val.Q0 (s_Kj p1 p2 4 o0).1.list)), hS 0 true (PodTerm.Q7 (Q4l p1 p2 o0 (s_Kj p1 p2 4 o0).1.list 0 (s_Kj p1 p2 4 o0).2.failed []).2 5 rfl), hQ (PodTerm.Q0 (Q4l p1 p2 o0 (s_Kj p1 p2 4 o0).1.list 0 (s_Kj p1 p2 4 o0).2.failed []).2).symm] [aN (t_Kj p1 p2 4 o0 (Q107 p1 p2 o0 H).1), aV [(1, PodTerm.rows (Q4l p1 p2 o0 (s_Kj p1 p2 4 o0).1.list 0 (s_Kj p1 p2 4 o0).2.failed []).2)] hl0] (by kernel_rfl)
def s_Kt (p1 : Val) (o0 : Decoder) : SpreadRule × Decoder := ((SpreadRule.dec p1).1, ft o0 (SpreadRule.dec p1).2)
theorem e_Kt (p1 : Val) (o0 : Decoder) : s_Kt p1 o0 = (((SpreadRule.mk (s_Kn p1 Q1b (s_Kw p1 o0).2).1 (s_Kv p1 Qj (s_Kn p1 Q1b (s_Kw p1 o0).2).2).1 (Q4g p1 Qa (s_Kv p1 Qj (s_Kn p1 Q1b (s_Kw p1 o0).2).2).2).1 (s_Ki p1 Q9 (Q4g p1 Qa (s_Kv p1 Qj (s_Kn p1 Q1b (s_Kw p1 o0).2).2).2).2).1), (s_Ki p1 Q9 (Q4g p1 Qa (s_Kv p1 Qj (s_Kn p1 Q1b (s_Kw p1 o0).2).2).2).2).2)) := by
  simp only [s_Kw, s_Kn, s_Kv, s_Ki, Q4g, s_Kt, SpreadRule.dec, Qi0, Bool.and_assoc, Bool.and_left_comm, Bool.and_comm, Bool.and_self_left]
def c_Kt (p1 : Val) (o0 : Decoder) : En := .call 94 [.bx 0 0, .agg (Val.cells p1)] [⟨1, 0, false, (Decoder.cells o0)⟩]
def r_Kt (_p1 : Val) (_o0 : Decoder) (q0 : SpreadRule) (q1 : Decoder) : Rs := .ret (.agg (SpreadRule.cells q0)) [⟨1, 0, false, (Decoder.cells q1)⟩]
def a_Kt (p1 : Val) (o0 : Decoder) : Rs := r_Kt p1 o0 (s_Kt p1 o0).1 (s_Kt p1 o0).2
def H_Kt (p1 : Val) : Prop := Val.Sm 1000000000 p1
theorem Qs9 (p1 : Val) (_o0 : Decoder) (H : H_Kt p1) : (H_Kn p1) ∧ (H_Kv p1) ∧ (Q17m p1) ∧ (H_Ki p1) ∧ True := by
  repeat' with_reducible apply And.intro
  all_goals first | exact True.intro | exact H | exact Qin (Q2y H _)
theorem t_Kt (p1 : Val) (o0 : Decoder) (H : H_Kt p1) : Q6 G (c_Kt p1 o0) (a_Kt p1 o0) := by
 unfold a_Kt
 rw [e_Kt]
 exact Q8 (fn := Ir.Kt) rfl (h := [⟨1, 0, false, (Decoder.cells o0)⟩]) (vw := []) VOK.nil [] [aN (t_Kw p1 o0), aN (t_Kn p1 Q1b (s_Kw p1 o0).2 (Qs9 p1 o0 H).1), aN (t_Kv p1 Qj (s_Kn p1 Q1b (s_Kw p1 o0).2).2 (Qs9 p1 o0 H).2.1), aN (Q1d0 p1 Qa (s_Kv p1 Qj (s_Kn p1 Q1b (s_Kw p1 o0).2).2).2 (Qs9 p1 o0 H).2.2.1), aN (t_Ki p1 Q9 (Q4g p1 Qa (s_Kv p1 Qj (s_Kn p1 Q1b (s_Kw p1 o0).2).2).2).2 (Qs9 p1 o0 H).2.2.2.1)] (by kernel_rfl)
def Q4m (p1 : Val) (p2 : BA) (o0 : Decoder) : List Val → Nat → Bool → (List SpreadRule) → Bool × (List SpreadRule)
 | [], _i0, v0_1, v0_2 =>
  (v0_1, v0_2)
 | x0 :: r0, i0, v0_1, v0_2 =>
  Q4m p1 p2 o0 r0 (i0 + 1) (s_Kt x0 (Decoder.mk v0_1)).2.failed (v0_2 ++ [(s_Kt x0 (Decoder.mk v0_1)).1])
def Qyh (p1 : Val) (p2 : BA) (o0 : Decoder) (i0 : Nat) (_v0_1 : Bool) (v0_2 : List SpreadRule) : List PV :=
  [.un, .un, .un, .fn 94 [.bx 0 0] []] ++ nuns 5 ++ [.ms 1 4 0 (List.length v0_2)] ++ nuns 6 ++ [.sl (Val.rows (s_Kj p1 p2 4 o0).1.list), .int .i64 ((List.length (s_Kj p1 p2 4 o0).1.list) : Int), .int .i64 (i0 : Int)] ++ nuns 11
def Qk8 (_p1 : Val) (_p2 : BA) (_o0 : Decoder) (_i0 : Nat) (v0_1 : Bool) (v0_2 : List SpreadRule) : List Ob :=
  [⟨1, 0, false, [.bool v0_1]⟩, ⟨4, 0, true, (SpreadRule.rows v0_2).flatten⟩]
def Qge (p1 : Val) (p2 : BA) (o0 : Decoder) (i0 : Nat) (v0_1 : Bool) (v0_2 : List SpreadRule) : En := .loop 1 Ir.Qhu Ir.Q1em (Qyh p1 p2 o0 i0 v0_1 v0_2) (Qk8 p1 p2 o0 i0 v0_1 v0_2)
def Qnr (_p1 : Val) (_p2 : BA) (_o0 : Decoder) (q0 : Bool) (q1 : List SpreadRule) (z : Nat → PV) (_zo : Nat → List PV) : St :=
  ⟨zr z 0 9 ++ [.ms 1 4 0 (List.length q1)] ++ zr z 10 20, [(0, ⟨1, 0, false, [.bool q0]⟩), (1, ⟨4, 0, true, (SpreadRule.rows q1).flatten⟩)], 66⟩
theorem Q11w (p1 : Val) (p2 : BA) (o0 : Decoder) (i0 : Nat) (v0_1 : Bool) (v0_2 : List SpreadRule) : VOK (Go.Pv.look (number 0 (Qk8 p1 p2 o0 i0 v0_1 v0_2))) [(1, SpreadRule.rows v0_2)] := (VOK.cons (show Seen _ _ from Q3q (ob := ⟨4, 0, true, (SpreadRule.rows v0_2).flatten⟩) (SpreadRule.Q7 v0_2 4 rfl)) VOK.nil)
def Qf5 (p1 : Val) (p2 : BA) (o0 : Decoder) (e : En) (q : Bool × (List SpreadRule)) : Prop := ∃ z zo, Q6 G e (.st (.exit 0) (Qnr p1 p2 o0 q.1 q.2 z zo))
theorem Qs4 (p1 : Val) (p2 : BA) (o0 : Decoder) {e e' : En} (h : ∀ r, Q6 G e r → Q6 G e' r) : ∀ q, Qf5 p1 p2 o0 e q → Qf5 p1 p2 o0 e' q
  | _, ⟨z, zo, hz⟩ => ⟨z, zo, h _ hz⟩
def Qbs (p1 : Val) (p2 : BA) (o0 : Decoder) : Prop := (List.length (s_Kj p1 p2 4 o0).1.list ≤ 137438953472) ∧ (∀ x0 ∈ (s_Kj p1 p2 4 o0).1.list, H_Kt x0) ∧ True
def Qqq (p1 : Val) (p2 : BA) (o0 : Decoder) (i0 : Nat) (_v0_1 : Bool) (_v0_2 : List SpreadRule) : List PV :=
  [.un, .un, .un, .fn 94 [.bx 0 0] []] ++ nuns 12 ++ [.sl (Val.rows (s_Kj p1 p2 4 o0).1.list), .int .i64 ((List.length (s_Kj p1 p2 4 o0).1.list) : Int), .int .i64 (i0 : Int), .bool false]
def Qm0 (_p1 : Val) (_p2 : BA) (_o0 : Decoder) (_i0 : Nat) (_v0_1 : Bool) (_v0_2 : List SpreadRule) : List (Nat × List PV) :=
  []
theorem Q165 (p1 : Val) (p2 : BA) (o0 : Decoder) (_H : Qbs p1 p2 o0) (i0 : Nat) (v0_1 : Bool) (v0_2 : List SpreadRule) (_ho0_0 : List.length v0_2 ≤ i0) (hc0 : (decide ((i0 : Int) < ((List.length (s_Kj p1 p2 4 o0).1.list) : Int))) = false) : Qf5 p1 p2 o0 (Qge p1 p2 o0 i0 v0_1 v0_2) (v0_1, v0_2) := by
 exact ⟨(envF (Qqq p1 p2 o0 i0 v0_1 v0_2)), (zoF (Qm0 p1 p2 o0 i0 v0_1 v0_2)), Qh (Q11w p1 p2 o0 i0 v0_1 v0_2) (x := ((.exit 0), Qnr p1 p2 o0 v0_1 v0_2 (envF (Qqq p1 p2 o0 i0 v0_1 v0_2)) (zoF (Qm0 p1 p2 o0 i0 v0_1 v0_2)))) [hB 0 hc0] [] (by kernel_rfl)⟩
theorem Q15t (p1 : Val) (p2 : BA) (o0 : Decoder) (H : Qbs p1 p2 o0) (x0 : Val) (i0 : Nat) (v0_1 : Bool) (v0_2 : List SpreadRule) (hx0 : (s_Kj p1 p2 4 o0).1.list[i0]? = some x0) (hi0 : i0 < List.length (s_Kj p1 p2 4 o0).1.list) (ho0_0 : List.length v0_2 ≤ i0) (hc0 : (decide ((i0 : Int) < ((List.length (s_Kj p1 p2 4 o0).1.list) : Int))) = true) {r : Rs} (hr : Q6 G (Qge p1 p2 o0 (i0 + 1) (s_Kt x0 (Decoder.mk v0_1)).2.failed (v0_2 ++ [(s_Kt x0 (Decoder.mk v0_1)).1])) r) : Q6 G (Qge p1 p2 o0 i0 v0_1 v0_2) r := by
 have hB0 := H.1
 exact Qm (Q11w p1 p2 o0 i0 v0_1 v0_2) (y := (Qyh p1 p2 o0 (i0 + 1) (s_Kt x0 (Decoder.mk v0_1)).2.failed (v0_2 ++ [(s_Kt x0 (Decoder.mk v0_1)).1]), Qk8 p1 p2 o0 (i0 + 1) (s_Kt x0 (Decoder.mk v0_1)).2.failed (v0_2 ++ [(s_Kt x0 (Decoder.mk v0_1)).1]))) [hB 0 hc0, hP 0 (Q1k 5 (Val.rows (s_Kj p1 p2 4 o0).1.list) i0 _ (Val.Qb hx0) rfl), hV 8 [(642, SpreadRule.rows (v0_2 ++ [(s_Kt x0 (Decoder.mk v0_1)).1]))] (Q5e 1 578 642 4 56 0 0 true (SpreadRule.rows v0_2) (SpreadRule.rows (v0_2 ++ [(s_Kt x0 (Decoder.mk v0_1)).1])) (SpreadRule.cells (s_Kt x0 (Decoder.mk v0_1)).1) (List.length v0_2) (List.length (v0_2 ++ [(s_Kt x0 (Decoder.mk v0_1)).1])) rfl (SpreadRule.Q0 v0_2).symm (SpreadRule.Q0 (v0_2 ++ [(s_Kt x0 (Decoder.mk v0_1)).1])).symm (SpreadRule.Q15 v0_2 (s_Kt x0 (Decoder.mk v0_1)).1) (SpreadRule.Qd v0_2) rfl (by omega)), hS 0 true (SpreadRule.Q7 (v0_2 ++ [(s_Kt x0 (Decoder.mk v0_1)).1]) 4 rfl), hP 1 (Q29 i0 (by omega))] [aN (t_Kt x0 (Decoder.mk v0_1) (H.2.1 x0 (Q2e hx0)))] (by kernel_rfl) hr
theorem Qys (p1 : Val) (p2 : BA) (o0 : Decoder) (H : Qbs p1 p2 o0) : ∀ (r0 : List Val) (i0 : Nat) (v0_1 : Bool) (v0_2 : List SpreadRule), List.drop i0 (s_Kj p1 p2 4 o0).1.list = r0 → List.length v0_2 ≤ i0 → Qf5 p1 p2 o0 (Qge p1 p2 o0 i0 v0_1 v0_2) (Q4m p1 p2 o0 r0 i0 v0_1 v0_2)
 | [], i0, v0_1, v0_2, hd, ho0_0 => by
  have hc0 : (decide ((i0 : Int) < ((List.length (s_Kj p1 p2 4 o0).1.list) : Int))) = false := by have := Q1g hd; simp; omega
  rw [Q4m]
  exact Q165 p1 p2 o0 H i0 v0_1 v0_2 ho0_0 hc0
 | x0 :: r0, i0, v0_1, v0_2, hd, ho0_0 => by
  obtain ⟨hx0, hi0, hd'⟩ := Q12 hd
  have hc0 : (decide ((i0 : Int) < ((List.length (s_Kj p1 p2 4 o0).1.list) : Int))) = true := by simp; omega
  rw [Q4m]
  exact Qs4 p1 p2 o0 (fun r hr => Q15t p1 p2 o0 H x0 i0 v0_1 v0_2 hx0 hi0 ho0_0 hc0 hr) _ (Qys p1 p2 o0 H r0 (i0 + 1) (s_Kt x0 (Decoder.mk v0_1)).2.failed (v0_2 ++ [(s_Kt x0 (Decoder.mk v0_1)).1]) hd' (by first | omega | (simp; omega)))
def Qs0 (p1 : Val) (p2 : BA) (o0 : Decoder) : List SpreadRule × Decoder := ((dE SpreadRule.dec p1 p2).1, ft o0 (isM p1 && (dE SpreadRule.dec p1 p2).2))
theorem Q11i (p1 : Val) (p2 : BA) (o0 : Decoder) : ∀ (l : List Val) (i : Nat) (b : Bool) (a : List SpreadRule), Q4m p1 p2 o0 l i b a = (b || !(l.all fun x => (SpreadRule.dec x).2), a ++ l.map (fun x => (SpreadRule.dec x).1))
  | [], _, b, a => by rw [Q4m]; simp
  | x :: l, i, b, a => by
    rw [Q4m]
    refine (Q11i p1 p2 o0 l (i + 1) (b || !(SpreadRule.dec x).2) (a ++ [(SpreadRule.dec x).1])).trans ?_
    simp only [List.append_assoc, List.singleton_append, List.map_cons, List.all_cons, Bool.not_and, Bool.or_assoc]
theorem Q1ou (p1 : Val) (p2 : BA) (o0 : Decoder) : Qs0 p1 p2 o0 = (((Q4m p1 p2 o0 (s_Kj p1 p2 4 o0).1.list 0 (s_Kj p1 p2 4 o0).2.failed []).2, (Decoder.mk (Q4m p1 p2 o0 (s_Kj p1 p2 4 o0).1.list 0 (s_Kj p1 p2 4 o0).2.failed []).1))) := by
  rw [Q11i]
  unfold s_Kj Qs0
  simp only [getL, Q5a]
  refine Prod.ext rfl ?_
  rw [Q85 o0.failed (isM p1) _ _ _ (Qtd (prt p1 p2)), Q5b]
  rfl
def Q1mc (p1 : Val) (p2 : BA) (o0 : Decoder) : En := .call 93 [.bx 0 0, .agg (Val.cells p1), .str p2, .fn 94 [.bx 0 0] []] [⟨1, 0, false, (Decoder.cells o0)⟩]
def Q1pm (_p1 : Val) (_p2 : BA) (_o0 : Decoder) (q0 : List SpreadRule) (q1 : Decoder) : Rs := .ret (.sl (SpreadRule.rows q0)) [⟨1, 0, false, (Decoder.cells q1)⟩]
def Q1l3 (p1 : Val) (p2 : BA) (o0 : Decoder) : Rs := Q1pm p1 p2 o0 (Qs0 p1 p2 o0).1 (Qs0 p1 p2 o0).2
def Q1fn (p1 : Val) : Prop := Val.Sm 1000000000 p1
theorem Q12k (p1 : Val) (p2 : BA) (o0 : Decoder) (H : Q1fn p1) : (H_Kj p1) ∧ (Qbs p1 p2 o0) ∧ True := by
  have hl := Qn2 (Q2y H p2)
  refine ⟨H, ?_, trivial⟩
  unfold Qbs s_Kj
  simp only [getL]
  exact ⟨Nat.le_trans hl.1 (Nat.le_of_ble_eq_true rfl), hl.2, trivial⟩
theorem Q1mx (p1 : Val) (p2 : BA) (o0 : Decoder) (H : Q1fn p1) : Q6 G (Q1mc p1 p2 o0) (Q1l3 p1 p2 o0) := by
 unfold Q1l3
 rw [Q1ou]
 have hl0 := Qys p1 p2 o0 ((Q12k p1 p2 o0 H).2.1) (s_Kj p1 p2 4 o0).1.list 0 (s_Kj p1 p2 4 o0).2.failed [] (by simp) (by simp)
 obtain ⟨z0, zo0, hl0⟩ := hl0
 exact Q8 (fn := Ir.K1a) rfl (h := [⟨1, 0, false, (Decoder.cells o0)⟩]) (vw := []) VOK.nil [hP 8 (Qf (Val.rows (s_Kj p1 p2 4 o0).1.list) (List.length (s_Kj p1 p2 4 o0).1.list) (Val.Q0 (s_Kj p1 p2 4 o0).1.list)), hS 0 true (SpreadRule.Q7 (Q4m p1 p2 o0 (s_Kj p1 p2 4 o0).1.list 0 (s_Kj p1 p2 4 o0).2.failed []).2 4 rfl), hQ (SpreadRule.Q0 (Q4m p1 p2 o0 (s_Kj p1 p2 4 o0).1.list 0 (s_Kj p1 p2 4 o0).2.failed []).2).symm] [aN (t_Kj p1 p2 4 o0 (Q12k p1 p2 o0 H).1), aV [(1, SpreadRule.rows (Q4m p1 p2 o0 (s_Kj p1 p2 4 o0).1.list 0 (s_Kj p1 p2 4 o0).2.failed []).2)] hl0] (by kernel_rfl)
def Q76 (p1 : Val) (o0 : Decoder) : Toleration × Decoder := ((Toleration.dec p1).1, ft o0 (Toleration.dec p1).2)
theorem Q1ow (p1 : Val) (o0 : Decoder) : Q76 p1 o0 = (((Toleration.mk (s_Kv p1 Q1d (s_Kw p1 o0).2).1 (s_Kv p1 Q1i (s_Kv p1 Q1d (s_Kw p1 o0).2).2).1 (s_Ki p1 Q1v (s_Kv p1 Q1i (s_Kv p1 Q1d (s_Kw p1 o0).2).2).2).1 (s_Kn p1 Q1m (s_Ki p1 Q1v (s_Kv p1 Q1i (s_Kv p1 Q1d (s_Kw p1 o0).2).2).2).2).1 (s_Kn p1 Q1s (s_Kn p1 Q1m (s_Ki p1 Q1v (s_Kv p1 Q1i (s_Kv p1 Q1d (s_Kw p1 o0).2).2).2).2).2).1), (s_Kn p1 Q1s (s_Kn p1 Q1m (s_Ki p1 Q1v (s_Kv p1 Q1i (s_Kv p1 Q1d (s_Kw p1 o0).2).2).2).2).2).2)) := by
  simp only [s_Kw, s_Kn, s_Kv, s_Ki, Q76, Toleration.dec, Qi0, Bool.and_assoc, Bool.and_left_comm, Bool.and_comm, Bool.and_self_left]
def Q1rc (p1 : Val) (o0 : Decoder) : En := .call 96 [.bx 0 0, .agg (Val.cells p1)] [⟨1, 0, false, (Decoder.cells o0)⟩]
def Q1nt (_p1 : Val) (_o0 : Decoder) (q0 : Toleration) (q1 : Decoder) : Rs := .ret (.agg (Toleration.cells q0)) [⟨1, 0, false, (Decoder.cells q1)⟩]
def Q1jy (p1 : Val) (o0 : Decoder) : Rs := Q1nt p1 o0 (Q76 p1 o0).1 (Q76 p1 o0).2
def Q1i4 (p1 : Val) : Prop := Val.Sm 1000000000 p1
theorem Qc2 (p1 : Val) (_o0 : Decoder) (H : Q1i4 p1) : (H_Kv p1) ∧ (H_Ki p1) ∧ (H_Kn p1) ∧ True := by
  repeat' with_reducible apply And.intro
  all_goals first | exact True.intro | exact H | exact Qin (Q2y H _)
theorem Q1r3 (p1 : Val) (o0 : Decoder) (H : Q1i4 p1) : Q6 G (Q1rc p1 o0) (Q1jy p1 o0) := by
 unfold Q1jy
 rw [Q1ow]
 exact Q8 (fn := Ir.K10) rfl (h := [⟨1, 0, false, (Decoder.cells o0)⟩]) (vw := []) VOK.nil [] [aN (t_Kw p1 o0), aN (t_Kv p1 Q1d (s_Kw p1 o0).2 (Qc2 p1 o0 H).1), aN (t_Kv p1 Q1i (s_Kv p1 Q1d (s_Kw p1 o0).2).2 (Qc2 p1 o0 H).1), aN (t_Ki p1 Q1v (s_Kv p1 Q1i (s_Kv p1 Q1d (s_Kw p1 o0).2).2).2 (Qc2 p1 o0 H).2.1), aN (t_Kn p1 Q1m (s_Ki p1 Q1v (s_Kv p1 Q1i (s_Kv p1 Q1d (s_Kw p1 o0).2).2).2).2 (Qc2 p1 o0 H).2.2.1), aN (t_Kn p1 Q1s (s_Kn p1 Q1m (s_Ki p1 Q1v (s_Kv p1 Q1i (s_Kv p1 Q1d (s_Kw p1 o0).2).2).2).2).2 (Qc2 p1 o0 H).2.2.1)] (by kernel_rfl)
def Q4k (p1 : Val) (p2 : BA) (o0 : Decoder) : List Val → Nat → Bool → (List Toleration) → Bool × (List Toleration)
 | [], _i0, v0_1, v0_2 =>
  (v0_1, v0_2)
 | x0 :: r0, i0, v0_1, v0_2 =>
  Q4k p1 p2 o0 r0 (i0 + 1) (Q76 x0 (Decoder.mk v0_1)).2.failed (v0_2 ++ [(Q76 x0 (Decoder.mk v0_1)).1])
def Qwo (p1 : Val) (p2 : BA) (o0 : Decoder) (i0 : Nat) (_v0_1 : Bool) (v0_2 : List Toleration) : List PV :=
  [.un, .un, .un, .fn 96 [.bx 0 0] []] ++ nuns 5 ++ [.ms 1 5 0 (List.length v0_2)] ++ nuns 6 ++ [.sl (Val.rows (s_Kj p1 p2 4 o0).1.list), .int .i64 ((List.length (s_Kj p1 p2 4 o0).1.list) : Int), .int .i64 (i0 : Int)] ++ nuns 11
def Qmp (_p1 : Val) (_p2 : BA) (_o0 : Decoder) (_i0 : Nat) (v0_1 : Bool) (v0_2 : List Toleration) : List Ob :=
  [⟨1, 0, false, [.bool v0_1]⟩, ⟨5, 0, true, (Toleration.rows v0_2).flatten⟩]
def Qff (p1 : Val) (p2 : BA) (o0 : Decoder) (i0 : Nat) (v0_1 : Bool) (v0_2 : List Toleration) : En := .loop 1 Ir.Qky Ir.Q1e2 (Qwo p1 p2 o0 i0 v0_1 v0_2) (Qmp p1 p2 o0 i0 v0_1 v0_2)
def Qpf (_p1 : Val) (_p2 : BA) (_o0 : Decoder) (q0 : Bool) (q1 : List Toleration) (z : Nat → PV) (_zo : Nat → List PV) : St :=
  ⟨zr z 0 9 ++ [.ms 1 5 0 (List.length q1)] ++ zr z 10 20, [(0, ⟨1, 0, false, [.bool q0]⟩), (1, ⟨5, 0, true, (Toleration.rows q1).flatten⟩)], 66⟩
theorem Q10x (p1 : Val) (p2 : BA) (o0 : Decoder) (i0 : Nat) (v0_1 : Bool) (v0_2 : List Toleration) : VOK (Go.Pv.look (number 0 (Qmp p1 p2 o0 i0 v0_1 v0_2))) [(1, Toleration.rows v0_2)] := (VOK.cons (show Seen _ _ from Q3q (ob := ⟨5, 0, true, (Toleration.rows v0_2).flatten⟩) (Toleration.Q7 v0_2 5 rfl)) VOK.nil)
def Qfh (p1 : Val) (p2 : BA) (o0 : Decoder) (e : En) (q : Bool × (List Toleration)) : Prop := ∃ z zo, Q6 G e (.st (.exit 0) (Qpf p1 p2 o0 q.1 q.2 z zo))
theorem Qt9 (p1 : Val) (p2 : BA) (o0 : Decoder) {e e' : En} (h : ∀ r, Q6 G e r → Q6 G e' r) : ∀ q, Qfh p1 p2 o0 e q → Qfh p1 p2 o0 e' q
  | _, ⟨z, zo, hz⟩ => ⟨z, zo, h _ hz⟩
def Qbd (p1 : Val) (p2 : BA) (o0 : Decoder) : Prop := (List.length (s_Kj p1 p2 4 o0).1.list ≤ 137438953472) ∧ (∀ x0 ∈ (s_Kj p1 p2 4 o0).1.list, Q1i4 x0) ∧ True
def Qpp (p1 : Val) (p2 : BA) (o0 : Decoder) (i0 : Nat) (_v0_1 : Bool) (_v0_2 : List Toleration) : List PV :=
  [.un, .un, .un, .fn 96 [.bx 0 0] []] ++ nuns 12 ++ [.sl (Val.rows (s_Kj p1 p2 4 o0).1.list), .int .i64 ((List.length (s_Kj p1 p2 4 o0).1.list) : Int), .int .i64 (i0 : Int), .bool false]
def Qjg (_p1 : Val) (_p2 : BA) (_o0 : Decoder) (_i0 : Nat) (_v0_1 : Bool) (_v0_2 : List Toleration) : List (Nat × List PV) :=
  []
theorem Q153 (p1 : Val) (p2 : BA) (o0 : Decoder) (_H : Qbd p1 p2 o0) (i0 : Nat) (v0_1 : Bool) (v0_2 : List Toleration) (_ho0_0 : List.length v0_2 ≤ i0) (hc0 : (decide ((i0 : Int) < ((List.length (s_Kj p1 p2 4 o0).1.list) : Int))) = false) : Qfh p1 p2 o0 (Qff p1 p2 o0 i0 v0_1 v0_2) (v0_1, v0_2) := by
 exact ⟨(envF (Qpp p1 p2 o0 i0 v0_1 v0_2)), (zoF (Qjg p1 p2 o0 i0 v0_1 v0_2)), Qh (Q10x p1 p2 o0 i0 v0_1 v0_2) (x := ((.exit 0), Qpf p1 p2 o0 v0_1 v0_2 (envF (Qpp p1 p2 o0 i0 v0_1 v0_2)) (zoF (Qjg p1 p2 o0 i0 v0_1 v0_2)))) [hB 0 hc0] [] (by kernel_rfl)⟩
theorem Q143 (p1 : Val) (p2 : BA) (o0 : Decoder) (H : Qbd p1 p2 o0) (x0 : Val) (i0 : Nat) (v0_1 : Bool) (v0_2 : List Toleration) (hx0 : (s_Kj p1 p2 4 o0).1.list[i0]? = some x0) (hi0 : i0 < List.length (s_Kj p1 p2 4 o0).1.list) (ho0_0 : List.length v0_2 ≤ i0) (hc0 : (decide ((i0 : Int) < ((List.length (s_Kj p1 p2 4 o0).1.list) : Int))) = true) {r : Rs} (hr : Q6 G (Qff p1 p2 o0 (i0 + 1) (Q76 x0 (Decoder.mk v0_1)).2.failed (v0_2 ++ [(Q76 x0 (Decoder.mk v0_1)).1])) r) : Q6 G (Qff p1 p2 o0 i0 v0_1 v0_2) r := by
 have hB0 := H.1
 exact Qm (Q10x p1 p2 o0 i0 v0_1 v0_2) (y := (Qwo p1 p2 o0 (i0 + 1) (Q76 x0 (Decoder.mk v0_1)).2.failed (v0_2 ++ [(Q76 x0 (Decoder.mk v0_1)).1]), Qmp p1 p2 o0 (i0 + 1) (Q76 x0 (Decoder.mk v0_1)).2.failed (v0_2 ++ [(Q76 x0 (Decoder.mk v0_1)).1]))) [hB 0 hc0, hP 0 (Q1k 5 (Val.rows (s_Kj p1 p2 4 o0).1.list) i0 _ (Val.Qb hx0) rfl), hV 8 [(642, Toleration.rows (v0_2 ++ [(Q76 x0 (Decoder.mk v0_1)).1]))] (Q5e 1 578 642 5 56 0 0 true (Toleration.rows v0_2) (Toleration.rows (v0_2 ++ [(Q76 x0 (Decoder.mk v0_1)).1])) (Toleration.cells (Q76 x0 (Decoder.mk v0_1)).1) (List.length v0_2) (List.length (v0_2 ++ [(Q76 x0 (Decoder.mk v0_1)).1])) rfl (Toleration.Q0 v0_2).symm (Toleration.Q0 (v0_2 ++ [(Q76 x0 (Decoder.mk v0_1)).1])).symm (Toleration.Q15 v0_2 (Q76 x0 (Decoder.mk v0_1)).1) (Toleration.Qd v0_2) rfl (by omega)), hS 0 true (Toleration.Q7 (v0_2 ++ [(Q76 x0 (Decoder.mk v0_1)).1]) 5 rfl), hP 1 (Q29 i0 (by omega))] [aN (Q1r3 x0 (Decoder.mk v0_1) (H.2.1 x0 (Q2e hx0)))] (by kernel_rfl) hr
theorem Qxw (p1 : Val) (p2 : BA) (o0 : Decoder) (H : Qbd p1 p2 o0) : ∀ (r0 : List Val) (i0 : Nat) (v0_1 : Bool) (v0_2 : List Toleration), List.drop i0 (s_Kj p1 p2 4 o0).1.list = r0 → List.length v0_2 ≤ i0 → Qfh p1 p2 o0 (Qff p1 p2 o0 i0 v0_1 v0_2) (Q4k p1 p2 o0 r0 i0 v0_1 v0_2)
 | [], i0, v0_1, v0_2, hd, ho0_0 => by
  have hc0 : (decide ((i0 : Int) < ((List.length (s_Kj p1 p2 4 o0).1.list) : Int))) = false := by have := Q1g hd; simp; omega
  rw [Q4k]
  exact Q153 p1 p2 o0 H i0 v0_1 v0_2 ho0_0 hc0
 | x0 :: r0, i0, v0_1, v0_2, hd, ho0_0 => by
  obtain ⟨hx0, hi0, hd'⟩ := Q12 hd
  have hc0 : (decide ((i0 : Int) < ((List.length (s_Kj p1 p2 4 o0).1.list) : Int))) = true := by simp; omega
  rw [Q4k]
  exact Qt9 p1 p2 o0 (fun r hr => Q143 p1 p2 o0 H x0 i0 v0_1 v0_2 hx0 hi0 ho0_0 hc0 hr) _ (Qxw p1 p2 o0 H r0 (i0 + 1) (Q76 x0 (Decoder.mk v0_1)).2.failed (v0_2 ++ [(Q76 x0 (Decoder.mk v0_1)).1]) hd' (by first | omega | (simp; omega)))
def Qzm (p1 : Val) (p2 : BA) (o0 : Decoder) : List Toleration × Decoder := ((dE Toleration.dec p1 p2).1, ft o0 (isM p1 && (dE Toleration.dec p1 p2).2))
theorem Q11y (p1 : Val) (p2 : BA) (o0 : Decoder) : ∀ (l : List Val) (i : Nat) (b : Bool) (a : List Toleration), Q4k p1 p2 o0 l i b a = (b || !(l.all fun x => (Toleration.dec x).2), a ++ l.map (fun x => (Toleration.dec x).1))
  | [], _, b, a => by rw [Q4k]; simp
  | x :: l, i, b, a => by
    rw [Q4k]
    refine (Q11y p1 p2 o0 l (i + 1) (b || !(Toleration.dec x).2) (a ++ [(Toleration.dec x).1])).trans ?_
    simp only [List.append_assoc, List.singleton_append, List.map_cons, List.all_cons, Bool.not_and, Bool.or_assoc]
theorem Q1nd (p1 : Val) (p2 : BA) (o0 : Decoder) : Qzm p1 p2 o0 = (((Q4k p1 p2 o0 (s_Kj p1 p2 4 o0).1.list 0 (s_Kj p1 p2 4 o0).2.failed []).2, (Decoder.mk (Q4k p1 p2 o0 (s_Kj p1 p2 4 o0).1.list 0 (s_Kj p1 p2 4 o0).2.failed []).1))) := by
  rw [Q11y]
  unfold s_Kj Qzm
  simp only [getL, Q5a]
  refine Prod.ext rfl ?_
  rw [Q85 o0.failed (isM p1) _ _ _ (Qtd (prt p1 p2)), Q5b]
  rfl
def Q1lu (p1 : Val) (p2 : BA) (o0 : Decoder) : En := .call 95 [.bx 0 0, .agg (Val.cells p1), .str p2, .fn 96 [.bx 0 0] []] [⟨1, 0, false, (Decoder.cells o0)⟩]
def Q1ot (_p1 : Val) (_p2 : BA) (_o0 : Decoder) (q0 : List Toleration) (q1 : Decoder) : Rs := .ret (.sl (Toleration.rows q0)) [⟨1, 0, false, (Decoder.cells q1)⟩]
def Q1ii (p1 : Val) (p2 : BA) (o0 : Decoder) : Rs := Q1ot p1 p2 o0 (Qzm p1 p2 o0).1 (Qzm p1 p2 o0).2
def Q1hv (p1 : Val) : Prop := Val.Sm 1000000000 p1
theorem Q13d (p1 : Val) (p2 : BA) (o0 : Decoder) (H : Q1hv p1) : (H_Kj p1) ∧ (Qbd p1 p2 o0) ∧ True := by
  have hl := Qn2 (Q2y H p2)
  refine ⟨H, ?_, trivial⟩
  unfold Qbd s_Kj
  simp only [getL]
  exact ⟨Nat.le_trans hl.1 (Nat.le_of_ble_eq_true rfl), hl.2, trivial⟩
theorem Q1np (p1 : Val) (p2 : BA) (o0 : Decoder) (H : Q1hv p1) : Q6 G (Q1lu p1 p2 o0) (Q1ii p1 p2 o0) := by
 unfold Q1ii
 rw [Q1nd]
 have hl0 := Qxw p1 p2 o0 ((Q13d p1 p2 o0 H).2.1) (s_Kj p1 p2 4 o0).1.list 0 (s_Kj p1 p2 4 o0).2.failed [] (by simp) (by simp)
 obtain ⟨z0, zo0, hl0⟩ := hl0
 exact Q8 (fn := Ir.K1b) rfl (h := [⟨1, 0, false, (Decoder.cells o0)⟩]) (vw := []) VOK.nil [hP 8 (Qf (Val.rows (s_Kj p1 p2 4 o0).1.list) (List.length (s_Kj p1 p2 4 o0).1.list) (Val.Q0 (s_Kj p1 p2 4 o0).1.list)), hS 0 true (Toleration.Q7 (Q4k p1 p2 o0 (s_Kj p1 p2 4 o0).1.list 0 (s_Kj p1 p2 4 o0).2.failed []).2 5 rfl), hQ (Toleration.Q0 (Q4k p1 p2 o0 (s_Kj p1 p2 4 o0).1.list 0 (s_Kj p1 p2 4 o0).2.failed []).2).symm] [aN (t_Kj p1 p2 4 o0 (Q13d p1 p2 o0 H).1), aV [(1, Toleration.rows (Q4k p1 p2 o0 (s_Kj p1 p2 4 o0).1.list 0 (s_Kj p1 p2 4 o0).2.failed []).2)] hl0] (by kernel_rfl)
def s_Ks (p1 : Val) (o0 : Decoder) : PodSpec × Decoder := ((PodSpec.dec p1).1, ft o0 (PodSpec.dec p1).2)
abbrev M2 (o0 : Decoder) (p1 : Val) := (Q15z p1 Qc (s_Kn p1 Q1p (s_Kn p1 Qy (s_Kn p1 Qs (s_Kv p1 Q1y (s_Kw p1 o0).2).2).2).2).2)
theorem e_Ks (p1 : Val) (o0 : Decoder) : s_Ks p1 o0 = (((PodSpec.mk (s_Kv p1 Q1y (s_Kw p1 o0).2).1 (s_Kn p1 Qs (s_Kv p1 Q1y (s_Kw p1 o0).2).2).1 (s_Kn p1 Qy (s_Kn p1 Qs (s_Kv p1 Q1y (s_Kw p1 o0).2).2).2).1 (s_Kn p1 Q1p (s_Kn p1 Qy (s_Kn p1 Qs (s_Kv p1 Q1y (s_Kw p1 o0).2).2).2).2).1 (M2 o0 p1).1 (Q4g p1 Qg (M2 o0 p1).2).1 (Qdq p1 Qp (Q4g p1 Qg (M2 o0 p1).2).2).1 (Qi4 p1 Qt (Qdq p1 Qp (Q4g p1 Qg (M2 o0 p1).2).2).2).1 (Qs0 p1 Q14 (Qi4 p1 Qt (Qdq p1 Qp (Q4g p1 Qg (M2 o0 p1).2).2).2).2).1 (Qzm p1 Qn (Qs0 p1 Q14 (Qi4 p1 Qt (Qdq p1 Qp (Q4g p1 Qg (M2 o0 p1).2).2).2).2).2).1), (Qzm p1 Qn (Qs0 p1 Q14 (Qi4 p1 Qt (Qdq p1 Qp (Q4g p1 Qg (M2 o0 p1).2).2).2).2).2).2)) := by
  simp only [s_Kw, s_Kn, s_Kv, Q15z, Qdq, Qi4, Q4g, Qs0, Qzm, s_Ks, PodSpec.dec, Qi0, Bool.and_assoc, Bool.and_left_comm, Bool.and_comm, Bool.and_self_left]
def c_Ks (p1 : Val) (o0 : Decoder) : En := .call 32 [.bx 0 0, .agg (Val.cells p1)] [⟨1, 0, false, (Decoder.cells o0)⟩]
def r_Ks (_p1 : Val) (_o0 : Decoder) (q0 : PodSpec) (q1 : Decoder) : Rs := .ret (.agg (PodSpec.cells q0)) [⟨1, 0, false, (Decoder.cells q1)⟩]
def a_Ks (p1 : Val) (o0 : Decoder) : Rs := r_Ks p1 o0 (s_Ks p1 o0).1 (s_Ks p1 o0).2
def H_Ks (p1 : Val) : Prop := Val.Sm 1000000000 p1
theorem Q7i (p1 : Val) (_o0 : Decoder) (H : H_Ks p1) : (H_Kv p1) ∧ (H_Kn p1) ∧ (Q1fi p1) ∧ (Q17m p1) ∧ (Q1hw p1) ∧ (Q1hj p1) ∧ (Q1fn p1) ∧ (Q1hv p1) ∧ True := by
  repeat' with_reducible apply And.intro
  all_goals first | exact True.intro | exact H | exact Qin (Q2y H _)
theorem t_Ks (p1 : Val) (o0 : Decoder) (H : H_Ks p1) : Q6 G (c_Ks p1 o0) (a_Ks p1 o0) := by
 unfold a_Ks
 rw [e_Ks]
 exact Q8 (fn := Ir.Ks) rfl (h := [⟨1, 0, false, (Decoder.cells o0)⟩]) (vw := []) VOK.nil [] [aN (t_Kw p1 o0), aN (t_Kv p1 Q1y (s_Kw p1 o0).2 (Q7i p1 o0 H).1), aN (t_Kn p1 Qs (s_Kv p1 Q1y (s_Kw p1 o0).2).2 (Q7i p1 o0 H).2.1), aN (t_Kn p1 Qy (s_Kn p1 Qs (s_Kv p1 Q1y (s_Kw p1 o0).2).2).2 (Q7i p1 o0 H).2.1), aN (t_Kn p1 Q1p (s_Kn p1 Qy (s_Kn p1 Qs (s_Kv p1 Q1y (s_Kw p1 o0).2).2).2).2 (Q7i p1 o0 H).2.1), aN (Q1ml p1 Qc (s_Kn p1 Q1p (s_Kn p1 Qy (s_Kn p1 Qs (s_Kv p1 Q1y (s_Kw p1 o0).2).2).2).2).2 (Q7i p1 o0 H).2.2.1), aN (Q1d0 p1 Qg (M2 o0 p1).2 (Q7i p1 o0 H).2.2.2.1), aN (Q1pk p1 Qp (Q4g p1 Qg (M2 o0 p1).2).2 (Q7i p1 o0 H).2.2.2.2.1), aN (Q1pu p1 Qt (Qdq p1 Qp (Q4g p1 Qg (M2 o0 p1).2).2).2 (Q7i p1 o0 H).2.2.2.2.2.1), aN (Q1mx p1 Q14 (Qi4 p1 Qt (Qdq p1 Qp (Q4g p1 Qg (M2 o0 p1).2).2).2).2 (Q7i p1 o0 H).2.2.2.2.2.2.1), aN (Q1np p1 Qn (Qs0 p1 Q14 (Qi4 p1 Qt (Qdq p1 Qp (Q4g p1 Qg (M2 o0 p1).2).2).2).2).2 (Q7i p1 o0 H).2.2.2.2.2.2.2.1)] (by kernel_rfl)
def s_Kh (p1 : Val) (o0 : Decoder) : ContainerStatus × Decoder := ((ContainerStatus.dec p1).1, ft o0 (ContainerStatus.dec p1).2)
theorem e_Kh (p1 : Val) (o0 : Decoder) : s_Kh p1 o0 = (((ContainerStatus.mk (s_Kv p1 Qv (s_Kw p1 o0).2).1 (s_Kn p1 Q1x (s_Kv p1 Qv (s_Kw p1 o0).2).2).1 (s_Kn p1 Q10 (s_Kn p1 Q1x (s_Kv p1 Qv (s_Kw p1 o0).2).2).2).1 (s_Kn p1 Q11 (s_Kn p1 Q10 (s_Kn p1 Q1x (s_Kv p1 Qv (s_Kw p1 o0).2).2).2).2).1 (s_Kn p1 Q20 (s_Kn p1 Q11 (s_Kn p1 Q10 (s_Kn p1 Q1x (s_Kv p1 Qv (s_Kw p1 o0).2).2).2).2).2).1 (s_Ki p1 Qq (s_Kn p1 Q20 (s_Kn p1 Q11 (s_Kn p1 Q10 (s_Kn p1 Q1x (s_Kv p1 Qv (s_Kw p1 o0).2).2).2).2).2).2).1 (s_Ki p1 Qw (s_Ki p1 Qq (s_Kn p1 Q20 (s_Kn p1 Q11 (s_Kn p1 Q10 (s_Kn p1 Q1x (s_Kv p1 Qv (s_Kw p1 o0).2).2).2).2).2).2).2).1), (s_Ki p1 Qw (s_Ki p1 Qq (s_Kn p1 Q20 (s_Kn p1 Q11 (s_Kn p1 Q10 (s_Kn p1 Q1x (s_Kv p1 Qv (s_Kw p1 o0).2).2).2).2).2).2).2).2)) := by
  simp only [s_Kw, s_Kn, s_Kv, s_Ki, s_Kh, ContainerStatus.dec, Qi0, Bool.and_assoc, Bool.and_left_comm, Bool.and_comm, Bool.and_self_left]
def c_Kh (p1 : Val) (o0 : Decoder) : En := .call 98 [.bx 0 0, .agg (Val.cells p1)] [⟨1, 0, false, (Decoder.cells o0)⟩]
def r_Kh (_p1 : Val) (_o0 : Decoder) (q0 : ContainerStatus) (q1 : Decoder) : Rs := .ret (.agg (ContainerStatus.cells q0)) [⟨1, 0, false, (Decoder.cells q1)⟩]
def a_Kh (p1 : Val) (o0 : Decoder) : Rs := r_Kh p1 o0 (s_Kh p1 o0).1 (s_Kh p1 o0).2
def H_Kh (p1 : Val) : Prop := Val.Sm 1000000000 p1
theorem Qah (p1 : Val) (_o0 : Decoder) (H : H_Kh p1) : (H_Kv p1) ∧ (H_Kn p1) ∧ (H_Ki p1) ∧ True := by
  repeat' with_reducible apply And.intro
  all_goals first | exact True.intro | exact H | exact Qin (Q2y H _)
theorem t_Kh (p1 : Val) (o0 : Decoder) (H : H_Kh p1) : Q6 G (c_Kh p1 o0) (a_Kh p1 o0) := by
 unfold a_Kh
 rw [e_Kh]
 exact Q8 (fn := Ir.Kh) rfl (h := [⟨1, 0, false, (Decoder.cells o0)⟩]) (vw := []) VOK.nil [] [aN (t_Kw p1 o0), aN (t_Kv p1 Qv (s_Kw p1 o0).2 (Qah p1 o0 H).1), aN (t_Kn p1 Q1x (s_Kv p1 Qv (s_Kw p1 o0).2).2 (Qah p1 o0 H).2.1), aN (t_Kn p1 Q10 (s_Kn p1 Q1x (s_Kv p1 Qv (s_Kw p1 o0).2).2).2 (Qah p1 o0 H).2.1), aN (t_Kn p1 Q11 (s_Kn p1 Q10 (s_Kn p1 Q1x (s_Kv p1 Qv (s_Kw p1 o0).2).2).2).2 (Qah p1 o0 H).2.1), aN (t_Kn p1 Q20 (s_Kn p1 Q11 (s_Kn p1 Q10 (s_Kn p1 Q1x (s_Kv p1 Qv (s_Kw p1 o0).2).2).2).2).2 (Qah p1 o0 H).2.1), aN (t_Ki p1 Qq (s_Kn p1 Q20 (s_Kn p1 Q11 (s_Kn p1 Q10 (s_Kn p1 Q1x (s_Kv p1 Qv (s_Kw p1 o0).2).2).2).2).2).2 (Qah p1 o0 H).2.2.1), aN (t_Ki p1 Qw (s_Ki p1 Qq (s_Kn p1 Q20 (s_Kn p1 Q11 (s_Kn p1 Q10 (s_Kn p1 Q1x (s_Kv p1 Qv (s_Kw p1 o0).2).2).2).2).2).2).2 (Qah p1 o0 H).2.2.1)] (by kernel_rfl)
def Q4r (p1 : Val) (p2 : BA) (o0 : Decoder) : List Val → Nat → Bool → (List ContainerStatus) → Bool × (List ContainerStatus)
 | [], _i0, v0_1, v0_2 =>
  (v0_1, v0_2)
 | x0 :: r0, i0, v0_1, v0_2 =>
  Q4r p1 p2 o0 r0 (i0 + 1) (s_Kh x0 (Decoder.mk v0_1)).2.failed (v0_2 ++ [(s_Kh x0 (Decoder.mk v0_1)).1])
def Qxd (p1 : Val) (p2 : BA) (o0 : Decoder) (i0 : Nat) (_v0_1 : Bool) (v0_2 : List ContainerStatus) : List PV :=
  [.un, .un, .un, .fn 98 [.bx 0 0] []] ++ nuns 5 ++ [.ms 1 7 0 (List.length v0_2)] ++ nuns 6 ++ [.sl (Val.rows (s_Kj p1 p2 4 o0).1.list), .int .i64 ((List.length (s_Kj p1 p2 4 o0).1.list) : Int), .int .i64 (i0 : Int)] ++ nuns 11
def Qku (_p1 : Val) (_p2 : BA) (_o0 : Decoder) (_i0 : Nat) (v0_1 : Bool) (v0_2 : List ContainerStatus) : List Ob :=
  [⟨1, 0, false, [.bool v0_1]⟩, ⟨7, 0, true, (ContainerStatus.rows v0_2).flatten⟩]
def Qh4 (p1 : Val) (p2 : BA) (o0 : Decoder) (i0 : Nat) (v0_1 : Bool) (v0_2 : List ContainerStatus) : En := .loop 1 Ir.Ql3 Ir.Q1fg (Qxd p1 p2 o0 i0 v0_1 v0_2) (Qku p1 p2 o0 i0 v0_1 v0_2)
def Qrj (_p1 : Val) (_p2 : BA) (_o0 : Decoder) (q0 : Bool) (q1 : List ContainerStatus) (z : Nat → PV) (_zo : Nat → List PV) : St :=
  ⟨zr z 0 9 ++ [.ms 1 7 0 (List.length q1)] ++ zr z 10 20, [(0, ⟨1, 0, false, [.bool q0]⟩), (1, ⟨7, 0, true, (ContainerStatus.rows q1).flatten⟩)], 66⟩
theorem Q12c (p1 : Val) (p2 : BA) (o0 : Decoder) (i0 : Nat) (v0_1 : Bool) (v0_2 : List ContainerStatus) : VOK (Go.Pv.look (number 0 (Qku p1 p2 o0 i0 v0_1 v0_2))) [(1, ContainerStatus.rows v0_2)] := (VOK.cons (show Seen _ _ from Q3q (ob := ⟨7, 0, true, (ContainerStatus.rows v0_2).flatten⟩) (ContainerStatus.Q7 v0_2 7 rfl)) VOK.nil)
def Qet (p1 : Val) (p2 : BA) (o0 : Decoder) (e : En) (q : Bool × (List ContainerStatus)) : Prop := ∃ z zo, Q6 G e (.st (.exit 0) (Qrj p1 p2 o0 q.1 q.2 z zo))
theorem Qs3 (p1 : Val) (p2 : BA) (o0 : Decoder) {e e' : En} (h : ∀ r, Q6 G e r → Q6 G e' r) : ∀ q, Qet p1 p2 o0 e q → Qet p1 p2 o0 e' q
  | _, ⟨z, zo, hz⟩ => ⟨z, zo, h _ hz⟩
def Qci (p1 : Val) (p2 : BA) (o0 : Decoder) : Prop := (List.length (s_Kj p1 p2 4 o0).1.list ≤ 137438953472) ∧ (∀ x0 ∈ (s_Kj p1 p2 4 o0).1.list, H_Kh x0) ∧ True
def Qqb (p1 : Val) (p2 : BA) (o0 : Decoder) (i0 : Nat) (_v0_1 : Bool) (_v0_2 : List ContainerStatus) : List PV :=
  [.un, .un, .un, .fn 98 [.bx 0 0] []] ++ nuns 12 ++ [.sl (Val.rows (s_Kj p1 p2 4 o0).1.list), .int .i64 ((List.length (s_Kj p1 p2 4 o0).1.list) : Int), .int .i64 (i0 : Int), .bool false]
def Qha (_p1 : Val) (_p2 : BA) (_o0 : Decoder) (_i0 : Nat) (_v0_1 : Bool) (_v0_2 : List ContainerStatus) : List (Nat × List PV) :=
  []
theorem Q187 (p1 : Val) (p2 : BA) (o0 : Decoder) (_H : Qci p1 p2 o0) (i0 : Nat) (v0_1 : Bool) (v0_2 : List ContainerStatus) (_ho0_0 : List.length v0_2 ≤ i0) (hc0 : (decide ((i0 : Int) < ((List.length (s_Kj p1 p2 4 o0).1.list) : Int))) = false) : Qet p1 p2 o0 (Qh4 p1 p2 o0 i0 v0_1 v0_2) (v0_1, v0_2) := by
 exact ⟨(envF (Qqb p1 p2 o0 i0 v0_1 v0_2)), (zoF (Qha p1 p2 o0 i0 v0_1 v0_2)), Qh (Q12c p1 p2 o0 i0 v0_1 v0_2) (x := ((.exit 0), Qrj p1 p2 o0 v0_1 v0_2 (envF (Qqb p1 p2 o0 i0 v0_1 v0_2)) (zoF (Qha p1 p2 o0 i0 v0_1 v0_2)))) [hB 0 hc0] [] (by kernel_rfl)⟩
theorem Q16q (p1 : Val) (p2 : BA) (o0 : Decoder) (H : Qci p1 p2 o0) (x0 : Val) (i0 : Nat) (v0_1 : Bool) (v0_2 : List ContainerStatus) (hx0 : (s_Kj p1 p2 4 o0).1.list[i0]? = some x0) (hi0 : i0 < List.length (s_Kj p1 p2 4 o0).1.list) (ho0_0 : List.length v0_2 ≤ i0) (hc0 : (decide ((i0 : Int) < ((List.length (s_Kj p1 p2 4 o0).1.list) : Int))) = true) {r : Rs} (hr : Q6 G (Qh4 p1 p2 o0 (i0 + 1) (s_Kh x0 (Decoder.mk v0_1)).2.failed (v0_2 ++ [(s_Kh x0 (Decoder.mk v0_1)).1])) r) : Q6 G (Qh4 p1 p2 o0 i0 v0_1 v0_2) r := by
 have hB0 := H.1
 exact Qm (Q12c p1 p2 o0 i0 v0_1 v0_2) (y := (Qxd p1 p2 o0 (i0 + 1) (s_Kh x0 (Decoder.mk v0_1)).2.failed (v0_2 ++ [(s_Kh x0 (Decoder.mk v0_1)).1]), Qku p1 p2 o0 (i0 + 1) (s_Kh x0 (Decoder.mk v0_1)).2.failed (v0_2 ++ [(s_Kh x0 (Decoder.mk v0_1)).1]))) [hB 0 hc0, hP 0 (Q1k 5 (Val.rows (s_Kj p1 p2 4 o0).1.list) i0 _ (Val.Qb hx0) rfl), hV 8 [(642, ContainerStatus.rows (v0_2 ++ [(s_Kh x0 (Decoder.mk v0_1)).1]))] (Q5e 1 578 642 7 56 0 0 true (ContainerStatus.rows v0_2) (ContainerStatus.rows (v0_2 ++ [(s_Kh x0 (Decoder.mk v0_1)).1])) (ContainerStatus.cells (s_Kh x0 (Decoder.mk v0_1)).1) (List.length v0_2) (List.length (v0_2 ++ [(s_Kh x0 (Decoder.mk v0_1)).1])) rfl (ContainerStatus.Q0 v0_2).symm (ContainerStatus.Q0 (v0_2 ++ [(s_Kh x0 (Decoder.mk v0_1)).1])).symm (ContainerStatus.Q15 v0_2 (s_Kh x0 (Decoder.mk v0_1)).1) (ContainerStatus.Qd v0_2) rfl (by omega)), hS 0 true (ContainerStatus.Q7 (v0_2 ++ [(s_Kh x0 (Decoder.mk v0_1)).1]) 7 rfl), hP 1 (Q29 i0 (by omega))] [aN (t_Kh x0 (Decoder.mk v0_1) (H.2.1 x0 (Q2e hx0)))] (by kernel_rfl) hr
theorem Qv1 (p1 : Val) (p2 : BA) (o0 : Decoder) (H : Qci p1 p2 o0) : ∀ (r0 : List Val) (i0 : Nat) (v0_1 : Bool) (v0_2 : List ContainerStatus), List.drop i0 (s_Kj p1 p2 4 o0).1.list = r0 → List.length v0_2 ≤ i0 → Qet p1 p2 o0 (Qh4 p1 p2 o0 i0 v0_1 v0_2) (Q4r p1 p2 o0 r0 i0 v0_1 v0_2)
 | [], i0, v0_1, v0_2, hd, ho0_0 => by
  have hc0 : (decide ((i0 : Int) < ((List.length (s_Kj p1 p2 4 o0).1.list) : Int))) = false := by have := Q1g hd; simp; omega
  rw [Q4r]
  exact Q187 p1 p2 o0 H i0 v0_1 v0_2 ho0_0 hc0
 | x0 :: r0, i0, v0_1, v0_2, hd, ho0_0 => by
  obtain ⟨hx0, hi0, hd'⟩ := Q12 hd
  have hc0 : (decide ((i0 : Int) < ((List.length (s_Kj p1 p2 4 o0).1.list) : Int))) = true := by simp; omega
  rw [Q4r]
  exact Qs3 p1 p2 o0 (fun r hr => Q16q p1 p2 o0 H x0 i0 v0_1 v0_2 hx0 hi0 ho0_0 hc0 hr) _ (Qv1 p1 p2 o0 H r0 (i0 + 1) (s_Kh x0 (Decoder.mk v0_1)).2.failed (v0_2 ++ [(s_Kh x0 (Decoder.mk v0_1)).1]) hd' (by first | omega | (simp; omega)))
def Qdg (p1 : Val) (p2 : BA) (o0 : Decoder) : List ContainerStatus × Decoder := ((dE ContainerStatus.dec p1 p2).1, ft o0 (isM p1 && (dE ContainerStatus.dec p1 p2).2))
theorem Q13b (p1 : Val) (p2 : BA) (o0 : Decoder) : ∀ (l : List Val) (i : Nat) (b : Bool) (a : List ContainerStatus), Q4r p1 p2 o0 l i b a = (b || !(l.all fun x => (ContainerStatus.dec x).2), a ++ l.map (fun x => (ContainerStatus.dec x).1))
  | [], _, b, a => by rw [Q4r]; simp
  | x :: l, i, b, a => by
    rw [Q4r]
    refine (Q13b p1 p2 o0 l (i + 1) (b || !(ContainerStatus.dec x).2) (a ++ [(ContainerStatus.dec x).1])).trans ?_
    simp only [List.append_assoc, List.singleton_append, List.map_cons, List.all_cons, Bool.not_and, Bool.or_assoc]
theorem Q1oy (p1 : Val) (p2 : BA) (o0 : Decoder) : Qdg p1 p2 o0 = (((Q4r p1 p2 o0 (s_Kj p1 p2 4 o0).1.list 0 (s_Kj p1 p2 4 o0).2.failed []).2, (Decoder.mk (Q4r p1 p2 o0 (s_Kj p1 p2 4 o0).1.list 0 (s_Kj p1 p2 4 o0).2.failed []).1))) := by
  rw [Q13b]
  unfold s_Kj Qdg
  simp only [getL, Q5a]
  refine Prod.ext rfl ?_
  rw [Q85 o0.failed (isM p1) _ _ _ (Qtd (prt p1 p2)), Q5b]
  rfl
def Q1rp (p1 : Val) (p2 : BA) (o0 : Decoder) : En := .call 97 [.bx 0 0, .agg (Val.cells p1), .str p2, .fn 98 [.bx 0 0] []] [⟨1, 0, false, (Decoder.cells o0)⟩]
def Q1qp (_p1 : Val) (_p2 : BA) (_o0 : Decoder) (q0 : List ContainerStatus) (q1 : Decoder) : Rs := .ret (.sl (ContainerStatus.rows q0)) [⟨1, 0, false, (Decoder.cells q1)⟩]
def Q1jn (p1 : Val) (p2 : BA) (o0 : Decoder) : Rs := Q1qp p1 p2 o0 (Qdg p1 p2 o0).1 (Qdg p1 p2 o0).2
def Q1hl (p1 : Val) : Prop := Val.Sm 1000000000 p1
theorem Q11x (p1 : Val) (p2 : BA) (o0 : Decoder) (H : Q1hl p1) : (H_Kj p1) ∧ (Qci p1 p2 o0) ∧ True := by
  have hl := Qn2 (Q2y H p2)
  refine ⟨H, ?_, trivial⟩
  unfold Qci s_Kj
  simp only [getL]
  exact ⟨Nat.le_trans hl.1 (Nat.le_of_ble_eq_true rfl), hl.2, trivial⟩
theorem Q1nk (p1 : Val) (p2 : BA) (o0 : Decoder) (H : Q1hl p1) : Q6 G (Q1rp p1 p2 o0) (Q1jn p1 p2 o0) := by
 unfold Q1jn
 rw [Q1oy]
 have hl0 := Qv1 p1 p2 o0 ((Q11x p1 p2 o0 H).2.1) (s_Kj p1 p2 4 o0).1.list 0 (s_Kj p1 p2 4 o0).2.failed [] (by simp) (by simp)
 obtain ⟨z0, zo0, hl0⟩ := hl0
 exact Q8 (fn := Ir.K1c) rfl (h := [⟨1, 0, false, (Decoder.cells o0)⟩]) (vw := []) VOK.nil [hP 8 (Qf (Val.rows (s_Kj p1 p2 4 o0).1.list) (List.length (s_Kj p1 p2 4 o0).1.list) (Val.Q0 (s_Kj p1 p2 4 o0).1.list)), hS 0 true (ContainerStatus.Q7 (Q4r p1 p2 o0 (s_Kj p1 p2 4 o0).1.list 0 (s_Kj p1 p2 4 o0).2.failed []).2 7 rfl), hQ (ContainerStatus.Q0 (Q4r p1 p2 o0 (s_Kj p1 p2 4 o0).1.list 0 (s_Kj p1 p2 4 o0).2.failed []).2).symm] [aN (t_Kj p1 p2 4 o0 (Q11x p1 p2 o0 H).1), aV [(1, ContainerStatus.rows (Q4r p1 p2 o0 (s_Kj p1 p2 4 o0).1.list 0 (s_Kj p1 p2 4 o0).2.failed []).2)] hl0] (by kernel_rfl)
def s_Ku (p1 : Val) (o0 : Decoder) : PodStatus × Decoder := ((PodStatus.dec p1).1, ft o0 (PodStatus.dec p1).2)
abbrev M3 (o0 : Decoder) (p1 : Val) := (s_Kn p1 Q2l (s_Kn p1 Qw (s_Kn p1 Q1t (s_Ki p1 Qq (s_Kn p1 Q2s (s_Kw p1 o0).2).2).2).2).2)
theorem e_Ku (p1 : Val) (o0 : Decoder) : s_Ku p1 o0 = (((PodStatus.mk (s_Kn p1 Q2s (s_Kw p1 o0).2).1 (s_Ki p1 Qq (s_Kn p1 Q2s (s_Kw p1 o0).2).2).1 (s_Kn p1 Q1t (s_Ki p1 Qq (s_Kn p1 Q2s (s_Kw p1 o0).2).2).2).1 (s_Kn p1 Qw (s_Kn p1 Q1t (s_Ki p1 Qq (s_Kn p1 Q2s (s_Kw p1 o0).2).2).2).2).1 (M3 o0 p1).1 (Qdg p1 Qc (M3 o0 p1).2).1 (s_Kn p1 Q2b (Qdg p1 Qc (M3 o0 p1).2).2).1 (s_Kv p1 Q23 (s_Kn p1 Q2b (Qdg p1 Qc (M3 o0 p1).2).2).2).1 (s_Kv p1 Q34 (s_Kv p1 Q23 (s_Kn p1 Q2b (Qdg p1 Qc (M3 o0 p1).2).2).2).2).1), (s_Kv p1 Q34 (s_Kv p1 Q23 (s_Kn p1 Q2b (Qdg p1 Qc (M3 o0 p1).2).2).2).2).2)) := by
  simp only [s_Kw, s_Kn, s_Kv, s_Ki, Qdg, s_Ku, PodStatus.dec, Qi0, Bool.and_assoc, Bool.and_left_comm, Bool.and_comm, Bool.and_self_left]
def c_Ku (p1 : Val) (o0 : Decoder) : En := .call 33 [.bx 0 0, .agg (Val.cells p1)] [⟨1, 0, false, (Decoder.cells o0)⟩]
def r_Ku (_p1 : Val) (_o0 : Decoder) (q0 : PodStatus) (q1 : Decoder) : Rs := .ret (.agg (PodStatus.cells q0)) [⟨1, 0, false, (Decoder.cells q1)⟩]
def a_Ku (p1 : Val) (o0 : Decoder) : Rs := r_Ku p1 o0 (s_Ku p1 o0).1 (s_Ku p1 o0).2
def H_Ku (p1 : Val) : Prop := Val.Sm 1000000000 p1
theorem Q89 (p1 : Val) (_o0 : Decoder) (H : H_Ku p1) : (H_Kn p1) ∧ (H_Ki p1) ∧ (Q1hl p1) ∧ (H_Kv p1) ∧ True := by
  repeat' with_reducible apply And.intro
  all_goals first | exact True.intro | exact H | exact Qin (Q2y H _)
theorem t_Ku (p1 : Val) (o0 : Decoder) (H : H_Ku p1) : Q6 G (c_Ku p1 o0) (a_Ku p1 o0) := by
 unfold a_Ku
 rw [e_Ku]
 exact Q8 (fn := Ir.Ku) rfl (h := [⟨1, 0, false, (Decoder.cells o0)⟩]) (vw := []) VOK.nil [] [aN (t_Kw p1 o0), aN (t_Kn p1 Q2s (s_Kw p1 o0).2 (Q89 p1 o0 H).1), aN (t_Ki p1 Qq (s_Kn p1 Q2s (s_Kw p1 o0).2).2 (Q89 p1 o0 H).2.1), aN (t_Kn p1 Q1t (s_Ki p1 Qq (s_Kn p1 Q2s (s_Kw p1 o0).2).2).2 (Q89 p1 o0 H).1), aN (t_Kn p1 Qw (s_Kn p1 Q1t (s_Ki p1 Qq (s_Kn p1 Q2s (s_Kw p1 o0).2).2).2).2 (Q89 p1 o0 H).1), aN (t_Kn p1 Q2l (s_Kn p1 Qw (s_Kn p1 Q1t (s_Ki p1 Qq (s_Kn p1 Q2s (s_Kw p1 o0).2).2).2).2).2 (Q89 p1 o0 H).1), aN (Q1nk p1 Qc (M3 o0 p1).2 (Q89 p1 o0 H).2.2.1), aN (t_Kn p1 Q2b (Qdg p1 Qc (M3 o0 p1).2).2 (Q89 p1 o0 H).1), aN (t_Kv p1 Q23 (s_Kn p1 Q2b (Qdg p1 Qc (M3 o0 p1).2).2).2 (Q89 p1 o0 H).2.2.2.1), aN (t_Kv p1 Q34 (s_Kv p1 Q23 (s_Kn p1 Q2b (Qdg p1 Qc (M3 o0 p1).2).2).2).2 (Q89 p1 o0 H).2.2.2.1)] (by kernel_rfl)
end Go.Proofs.YtiflaadeikaghaaGreat
end

section
/- What the reference's encoders compute (printed by a program). -/
namespace Go.Proofs.YtiflaadeikaghaaGreat
open Go.Pv
def Qz (p0 : BA) : Val :=
 (Val.mk 3 0 p0 [] [])
def Q1on (p0 : BA) : En := .call 125 [.str p0] []
def Q1jh (p0 : BA) : Rs := .ret (.agg (Val.cells (Qz p0))) []
theorem Qel (p0 : BA) : Q6 G (Q1on p0) (Q1jh p0) := by
 unfold Q1jh Qz
 exact Q8 (fn := Ir.K3c) rfl VOK.nil [] [] (by kernel_rfl)
def Q5 (p0 : BA) (p1 : Val) : Fld :=
 (Fld.mk p0 p1)
def Q1o8 (p0 : BA) (p1 : Val) : En := .call 71 [.str p0, .agg (Val.cells p1)] []
def Q1ju (p0 : BA) (p1 : Val) : Rs := .ret (.agg (Fld.cells (Q5 p0 p1))) []
theorem Q2v (p0 : BA) (p1 : Val) : Q6 G (Q1o8 p0 p1) (Q1ju p0 p1) := by
 unfold Q1ju Q5
 exact Q8 (fn := Ir.K2w) rfl VOK.nil [] [] (by kernel_rfl)
def Q1n (p0 : List Fld) : Val :=
 (Val.mk 5 0 eB [] p0)
def Qem (p0 : List Fld) : En := .call 70 [.sl (Fld.rows p0)] []
def Q1in (p0 : List Fld) : Rs := .ret (.agg (Val.cells (Q1n p0))) []
theorem Qk3 (p0 : List Fld) : Q6 G (Qem p0) (Q1in p0) := by
 unfold Q1in Q1n
 exact Q8 (fn := Ir.K3b) rfl VOK.nil [] [] (by kernel_rfl)
def Qhd (p0 : List Val) : Val :=
 (Val.mk 4 0 eB p0 [])
def Q1nz (p0 : List Val) : En := .call 138 [.sl (Val.rows p0)] []
def Q1ih (p0 : List Val) : Rs := .ret (.agg (Val.cells (Qhd p0))) []
theorem Qsd (p0 : List Val) : Q6 G (Q1nz p0) (Q1ih p0) := by
 unfold Q1ih Qhd
 exact Q8 (fn := Ir.K39) rfl VOK.nil [] [] (by kernel_rfl)
def Qi (p0 : Int) : Val :=
 (Val.mk 2 p0 eB [] [])
def Q1ly (p0 : Int) : En := .call 74 [.int .i64 p0] []
def Q1ji (p0 : Int) : Rs := .ret (.agg (Val.cells (Qi p0))) []
theorem Q60 (p0 : Int) : Q6 G (Q1ly p0) (Q1ji p0) := by
 unfold Q1ji Qi
 exact Q8 (fn := Ir.K3a) rfl VOK.nil [] [] (by kernel_rfl)
def Q48 (p0 : Resources) : Val :=
 (Q1n ([(Q5 Q4e (Qi p0.cPU)), (Q5 Q3v (Qi p0.disk)), (Q5 Q2x (Qi p0.memory))]))
def Q1oo (p0 : Resources) : En := .call 72 [.agg (Resources.cells p0)] []
def Q1j3 (p0 : Resources) : Rs := .ret (.agg (Val.cells (Q48 p0))) []
theorem Q1kn (p0 : Resources) : Q6 G (Q1oo p0) (Q1j3 p0) := by
 unfold Q1j3 Q48
 exact Q8 (fn := Ir.K33) rfl VOK.nil [] [aN (Q60 p0.cPU), aN (Q2v Q4e (Qi p0.cPU)), aN (Q60 p0.disk), aN (Q2v Q3v (Qi p0.disk)), aN (Q60 p0.memory), aN (Q2v Q2x (Qi p0.memory)), aN (Q6r (e' := .call 70 [.sl [(Fld.cells (Q5 Q4e (Qi p0.cPU))), (Fld.cells (Q5 Q3v (Qi p0.disk))), (Fld.cells (Q5 Q2x (Qi p0.memory)))]] []) (Qk3 ([(Q5 Q4e (Qi p0.cPU)), (Q5 Q3v (Qi p0.disk)), (Q5 Q2x (Qi p0.memory))])) (by simp only [Qem, Fld.Q2p, Fld.Q3b]))] (by kernel_rfl)
def Q50 (p0 : List Probe) : List Probe → Nat → (List Val) → List Val
 | [], _i0, v0_1 =>
  v0_1
 | x0 :: r0, i0, v0_1 =>
  Q50 p0 r0 (i0 + 1) (v0_1 ++ [(Q1n ([(Q5 Q25 (Qi x0.delay)), (Q5 Q1r (Qi x0.failure)), (Q5 Q1w (Qi x0.period)), (Q5 Q1l (Qi x0.success))]))])
theorem Q11g (p0 : List Probe) : ∀ (l : List Probe) (i : Nat) (a : List Val), Q50 p0 l i a = a ++ l.map (fun x0 => (Q1n ([(Q5 Q25 (Qi x0.delay)), (Q5 Q1r (Qi x0.failure)), (Q5 Q1w (Qi x0.period)), (Q5 Q1l (Qi x0.success))])))
  | [], _, _ => by simp [Q50]
  | x :: r, i, a => by rw [Q50, Q11g p0 r]; simp
def Qvl (p0 : List Probe) (i0 : Nat) (v0_1 : List Val) : List PV :=
  [.sl (Probe.rows p0), .un, .bx 0 0, .ms 1 5 0 (List.length v0_1), .int .i64 (i0 : Int)] ++ nuns 41
def Qmo (_p0 : List Probe) (_i0 : Nat) (v0_1 : List Val) : List Ob :=
  [⟨5, 0, true, [.int .i64 0, .int .i64 0, .str eB, .ms 2 5 0 0, .ms 3 6 0 0]⟩, ⟨5, 0, true, (Val.rows v0_1).flatten⟩, ⟨5, 0, true, []⟩, ⟨6, 0, true, []⟩]
def Qh9 (p0 : List Probe) (i0 : Nat) (v0_1 : List Val) : En := .loop 0 Ir.Ql5 Ir.Q1ep (Qvl p0 i0 v0_1) (Qmo p0 i0 v0_1)
def Qr4 (_p0 : List Probe) (q0 : List Val) (z : Nat → PV) (_zo : Nat → List PV) : St :=
  ⟨[z 0, z 1, .bx 0 0, .ms 1 5 0 (List.length q0)] ++ zr z 4 42, [(0, ⟨5, 0, true, [.int .i64 0, .int .i64 0, .str eB, .ms 2 5 0 0, .ms 3 6 0 0]⟩), (1, ⟨5, 0, true, (Val.rows q0).flatten⟩), (2, ⟨5, 0, true, []⟩), (3, ⟨6, 0, true, []⟩)], 260⟩
theorem Q137 (p0 : List Probe) (i0 : Nat) (v0_1 : List Val) : VOK (Go.Pv.look (number 0 (Qmo p0 i0 v0_1))) [(1, Val.rows v0_1)] := (VOK.cons (show Seen _ _ from Q3q (ob := ⟨5, 0, true, (Val.rows v0_1).flatten⟩) (Val.Q7 v0_1 5 rfl)) VOK.nil)
def Qg3 (p0 : List Probe) (e : En) (q : List Val) : Prop := ∃ z zo, Q6 G e (.st (.exit 0) (Qr4 p0 q z zo))
theorem Qu7 (p0 : List Probe) {e e' : En} (h : ∀ r, Q6 G e r → Q6 G e' r) : ∀ q, Qg3 p0 e q → Qg3 p0 e' q
  | _, ⟨z, zo, hz⟩ => ⟨z, zo, h _ hz⟩
def Qh0 (p0 : List Probe) : Prop := (List.length p0 ≤ 137438953472) ∧ True
def Qnx (p0 : List Probe) (i0 : Nat) (_v0_1 : List Val) : List PV :=
  [.sl (Probe.rows p0), .un, .un, .un, .int .i64 (i0 : Int), .int .i64 (i0 : Int), .sl (Probe.rows p0), .int .i64 ((List.length p0) : Int), .bool false]
def Qmi (_p0 : List Probe) (_i0 : Nat) (_v0_1 : List Val) : List (Nat × List PV) :=
  []
theorem Q17g (p0 : List Probe) (_H : Qh0 p0) (i0 : Nat) (v0_1 : List Val) (_ho0_0 : List.length v0_1 ≤ i0) (hc0 : (decide ((i0 : Int) < ((List.length p0) : Int))) = false) : Qg3 p0 (Qh9 p0 i0 v0_1) v0_1 := by
 exact ⟨(envF (Qnx p0 i0 v0_1)), (zoF (Qmi p0 i0 v0_1)), Qh (Q137 p0 i0 v0_1) (x := ((.exit 0), Qr4 p0 v0_1 (envF (Qnx p0 i0 v0_1)) (zoF (Qmi p0 i0 v0_1)))) [hP 2 (Qf (Probe.rows p0) (List.length p0) (Probe.Q0 p0)), hB 0 hc0] [] (by kernel_rfl)⟩
theorem Q158 (p0 : List Probe) (H : Qh0 p0) (x0 : Probe) (i0 : Nat) (v0_1 : List Val) (hx0 : p0[i0]? = some x0) (hi0 : i0 < List.length p0) (ho0_0 : List.length v0_1 ≤ i0) (hc0 : (decide ((i0 : Int) < ((List.length p0) : Int))) = true) {r : Rs} (hr : Q6 G (Qh9 p0 (i0 + 1) (v0_1 ++ [(Q1n ([(Q5 Q25 (Qi x0.delay)), (Q5 Q1r (Qi x0.failure)), (Q5 Q1w (Qi x0.period)), (Q5 Q1l (Qi x0.success))]))])) r) : Q6 G (Qh9 p0 i0 v0_1) r := by
 have hB0 := H.1
 exact Qm (Q137 p0 i0 v0_1) (y := (Qvl p0 (i0 + 1) (v0_1 ++ [(Q1n ([(Q5 Q25 (Qi x0.delay)), (Q5 Q1r (Qi x0.failure)), (Q5 Q1w (Qi x0.period)), (Q5 Q1l (Qi x0.success))]))]), Qmo p0 (i0 + 1) (v0_1 ++ [(Q1n ([(Q5 Q25 (Qi x0.delay)), (Q5 Q1r (Qi x0.failure)), (Q5 Q1w (Qi x0.period)), (Q5 Q1l (Qi x0.success))]))]))) [hP 2 (Qf (Probe.rows p0) (List.length p0) (Probe.Q0 p0)), hB 0 hc0, hP 3 (Q1k 4 (Probe.rows p0) i0 _ (Probe.Qb hx0) rfl), hP 6 (Q1k 4 (Probe.rows p0) i0 _ (Probe.Qb hx0) rfl), hP 6 (Q1k 4 (Probe.rows p0) i0 _ (Probe.Qb hx0) rfl), hP 6 (Q1k 4 (Probe.rows p0) i0 _ (Probe.Qb hx0) rfl), hV 7 [(2308, Val.rows (v0_1 ++ [(Q1n ([(Q5 Q25 (Qi x0.delay)), (Q5 Q1r (Qi x0.failure)), (Q5 Q1w (Qi x0.period)), (Q5 Q1l (Qi x0.success))]))]))] (Q5e 1 2244 2308 5 80 0 0 true (Val.rows v0_1) (Val.rows (v0_1 ++ [(Q1n ([(Q5 Q25 (Qi x0.delay)), (Q5 Q1r (Qi x0.failure)), (Q5 Q1w (Qi x0.period)), (Q5 Q1l (Qi x0.success))]))])) (Val.cells (Q1n ([(Q5 Q25 (Qi x0.delay)), (Q5 Q1r (Qi x0.failure)), (Q5 Q1w (Qi x0.period)), (Q5 Q1l (Qi x0.success))]))) (List.length v0_1) (List.length (v0_1 ++ [(Q1n ([(Q5 Q25 (Qi x0.delay)), (Q5 Q1r (Qi x0.failure)), (Q5 Q1w (Qi x0.period)), (Q5 Q1l (Qi x0.success))]))])) rfl (Val.Q0 v0_1).symm (Val.Q0 (v0_1 ++ [(Q1n ([(Q5 Q25 (Qi x0.delay)), (Q5 Q1r (Qi x0.failure)), (Q5 Q1w (Qi x0.period)), (Q5 Q1l (Qi x0.success))]))])).symm (Val.Q15 v0_1 (Q1n ([(Q5 Q25 (Qi x0.delay)), (Q5 Q1r (Qi x0.failure)), (Q5 Q1w (Qi x0.period)), (Q5 Q1l (Qi x0.success))]))) (Val.Qd v0_1) rfl (by omega)), hS 0 true (Val.Q7 (v0_1 ++ [(Q1n ([(Q5 Q25 (Qi x0.delay)), (Q5 Q1r (Qi x0.failure)), (Q5 Q1w (Qi x0.period)), (Q5 Q1l (Qi x0.success))]))]) 5 rfl), hP 2 (Q29 i0 (by omega))] [aN (Q60 x0.delay), aN (Q2v Q25 (Qi x0.delay)), aN (Q60 x0.failure), aN (Q2v Q1r (Qi x0.failure)), aN (Q60 x0.period), aN (Q2v Q1w (Qi x0.period)), aN (Q60 x0.success), aN (Q2v Q1l (Qi x0.success)), aN (Q6r (e' := .call 70 [.sl [(Fld.cells (Q5 Q25 (Qi x0.delay))), (Fld.cells (Q5 Q1r (Qi x0.failure))), (Fld.cells (Q5 Q1w (Qi x0.period))), (Fld.cells (Q5 Q1l (Qi x0.success)))]] []) (Qk3 ([(Q5 Q25 (Qi x0.delay)), (Q5 Q1r (Qi x0.failure)), (Q5 Q1w (Qi x0.period)), (Q5 Q1l (Qi x0.success))])) (by simp only [Qem, Fld.Q2p, Fld.Q3b]))] (by kernel_rfl) hr
theorem Qyd (p0 : List Probe) (H : Qh0 p0) : ∀ (r0 : List Probe) (i0 : Nat) (v0_1 : List Val), List.drop i0 p0 = r0 → List.length v0_1 ≤ i0 → Qg3 p0 (Qh9 p0 i0 v0_1) (Q50 p0 r0 i0 v0_1)
 | [], i0, v0_1, hd, ho0_0 => by
  have hc0 : (decide ((i0 : Int) < ((List.length p0) : Int))) = false := by have := Q1g hd; simp; omega
  rw [Q50]
  exact Q17g p0 H i0 v0_1 ho0_0 hc0
 | x0 :: r0, i0, v0_1, hd, ho0_0 => by
  obtain ⟨hx0, hi0, hd'⟩ := Q12 hd
  have hc0 : (decide ((i0 : Int) < ((List.length p0) : Int))) = true := by simp; omega
  rw [Q50]
  exact Qu7 p0 (fun r hr => Q158 p0 H x0 i0 v0_1 hx0 hi0 ho0_0 hc0 hr) _ (Qyd p0 H r0 (i0 + 1) (v0_1 ++ [(Q1n ([(Q5 Q25 (Qi x0.delay)), (Q5 Q1r (Qi x0.failure)), (Q5 Q1w (Qi x0.period)), (Q5 Q1l (Qi x0.success))]))]) hd' (by first | omega | (simp; omega)))
def Q37 (p0 : List Probe) : Val := vL (p0.map Probe.enc)
theorem Q1r9 (p0 : List Probe) : Q37 p0 = ((Qhd (Q50 p0 p0 0 []))) := by
  rw [Q11g]
  rfl
def Q1lr (p0 : List Probe) : En := .call 149 [.sl (Probe.rows p0)] []
def Q1lc (p0 : List Probe) : Rs := .ret (.agg (Val.cells (Q37 p0))) []
def Q1al (p0 : List Probe) : Prop := LSm Probe.sm p0
theorem Q1da (p0 : List Probe) (H : Q1al p0) : (Qh0 p0) ∧ True := by
  exact ⟨⟨Nat.le_trans H.1 (Nat.le_of_ble_eq_true rfl), trivial⟩, trivial⟩
theorem Q1h5 (p0 : List Probe) (H : Q1al p0) : Q6 G (Q1lr p0) (Q1lc p0) := by
 unfold Q1lc
 rw [Q1r9]
 have hl0 := Qyd p0 ((Q1da p0 H).1) p0 0 [] (by simp) (by simp)
 obtain ⟨z0, zo0, hl0⟩ := hl0
 exact Q8 (fn := Ir.K32) rfl VOK.nil [hS 0 true (Val.Q7 (Q50 p0 p0 0 []) 5 rfl), hQ (Val.Q0 (Q50 p0 p0 0 [])).symm] [aV [(1, Val.rows (Q50 p0 p0 0 []))] hl0, aN (Qsd (Q50 p0 p0 0 []))] (by kernel_rfl)
def Q51 (p0 : List Container) : List Container → Nat → (List Val) → List Val
 | [], _i0, v0_1 =>
  v0_1
 | x0 :: r0, i0, v0_1 =>
  Q51 p0 r0 (i0 + 1) (v0_1 ++ [(Q1n ([(Q5 Q1z (Qz x0.image)), (Q5 Q2f (Q48 x0.limit)), (Q5 Q2m (Q37 x0.live)), (Q5 Qv (Qz x0.name)), (Q5 Qq (Q37 x0.ready)), (Q5 Q16 (Q48 x0.request)), (Q5 Q1q (Q37 x0.startup))]))])
theorem Q128 (p0 : List Container) : ∀ (l : List Container) (i : Nat) (a : List Val), Q51 p0 l i a = a ++ l.map (fun x0 => (Q1n ([(Q5 Q1z (Qz x0.image)), (Q5 Q2f (Q48 x0.limit)), (Q5 Q2m (Q37 x0.live)), (Q5 Qv (Qz x0.name)), (Q5 Qq (Q37 x0.ready)), (Q5 Q16 (Q48 x0.request)), (Q5 Q1q (Q37 x0.startup))])))
  | [], _, _ => by simp [Q51]
  | x :: r, i, a => by rw [Q51, Q128 p0 r]; simp
def Qwh (p0 : List Container) (i0 : Nat) (v0_1 : List Val) : List PV :=
  [.sl (Container.rows p0), .un, .bx 0 0, .ms 1 5 0 (List.length v0_1), .int .i64 (i0 : Int)] ++ nuns 46
def Qji (_p0 : List Container) (_i0 : Nat) (v0_1 : List Val) : List Ob :=
  [⟨5, 0, true, [.int .i64 0, .int .i64 0, .str eB, .ms 2 5 0 0, .ms 3 6 0 0]⟩, ⟨5, 0, true, (Val.rows v0_1).flatten⟩, ⟨5, 0, true, []⟩, ⟨6, 0, true, []⟩]
def Qg0 (p0 : List Container) (i0 : Nat) (v0_1 : List Val) : En := .loop 0 Ir.Qms Ir.Q1e9 (Qwh p0 i0 v0_1) (Qji p0 i0 v0_1)
def Qpt (_p0 : List Container) (q0 : List Val) (z : Nat → PV) (_zo : Nat → List PV) : St :=
  ⟨[z 0, z 1, .bx 0 0, .ms 1 5 0 (List.length q0)] ++ zr z 4 47, [(0, ⟨5, 0, true, [.int .i64 0, .int .i64 0, .str eB, .ms 2 5 0 0, .ms 3 6 0 0]⟩), (1, ⟨5, 0, true, (Val.rows q0).flatten⟩), (2, ⟨5, 0, true, []⟩), (3, ⟨6, 0, true, []⟩)], 260⟩
theorem Q112 (p0 : List Container) (i0 : Nat) (v0_1 : List Val) : VOK (Go.Pv.look (number 0 (Qji p0 i0 v0_1))) [(1, Val.rows v0_1)] := (VOK.cons (show Seen _ _ from Q3q (ob := ⟨5, 0, true, (Val.rows v0_1).flatten⟩) (Val.Q7 v0_1 5 rfl)) VOK.nil)
def Qfx (p0 : List Container) (e : En) (q : List Val) : Prop := ∃ z zo, Q6 G e (.st (.exit 0) (Qpt p0 q z zo))
theorem Qtv (p0 : List Container) {e e' : En} (h : ∀ r, Q6 G e r → Q6 G e' r) : ∀ q, Qfx p0 e q → Qfx p0 e' q
  | _, ⟨z, zo, hz⟩ => ⟨z, zo, h _ hz⟩
def Qfl (p0 : List Container) : Prop := (List.length p0 ≤ 137438953472) ∧ (∀ x0 ∈ p0, Q1al x0.live) ∧ (∀ x0 ∈ p0, Q1al x0.ready) ∧ (∀ x0 ∈ p0, Q1al x0.startup) ∧ True
def Qr9 (p0 : List Container) (i0 : Nat) (_v0_1 : List Val) : List PV :=
  [.sl (Container.rows p0), .un, .un, .un, .int .i64 (i0 : Int), .un, .int .i64 (i0 : Int), .sl (Container.rows p0), .int .i64 ((List.length p0) : Int), .bool false]
def Qkx (_p0 : List Container) (_i0 : Nat) (_v0_1 : List Val) : List (Nat × List PV) :=
  []
theorem Q172 (p0 : List Container) (_H : Qfl p0) (i0 : Nat) (v0_1 : List Val) (_ho0_0 : List.length v0_1 ≤ i0) (hc0 : (decide ((i0 : Int) < ((List.length p0) : Int))) = false) : Qfx p0 (Qg0 p0 i0 v0_1) v0_1 := by
 exact ⟨(envF (Qr9 p0 i0 v0_1)), (zoF (Qkx p0 i0 v0_1)), Qh (Q112 p0 i0 v0_1) (x := ((.exit 0), Qpt p0 v0_1 (envF (Qr9 p0 i0 v0_1)) (zoF (Qkx p0 i0 v0_1)))) [hP 2 (Qf (Container.rows p0) (List.length p0) (Container.Q0 p0)), hB 0 hc0] [] (by kernel_rfl)⟩
theorem Q162 (p0 : List Container) (H : Qfl p0) (x0 : Container) (i0 : Nat) (v0_1 : List Val) (hx0 : p0[i0]? = some x0) (hi0 : i0 < List.length p0) (ho0_0 : List.length v0_1 ≤ i0) (hc0 : (decide ((i0 : Int) < ((List.length p0) : Int))) = true) {r : Rs} (hr : Q6 G (Qg0 p0 (i0 + 1) (v0_1 ++ [(Q1n ([(Q5 Q1z (Qz x0.image)), (Q5 Q2f (Q48 x0.limit)), (Q5 Q2m (Q37 x0.live)), (Q5 Qv (Qz x0.name)), (Q5 Qq (Q37 x0.ready)), (Q5 Q16 (Q48 x0.request)), (Q5 Q1q (Q37 x0.startup))]))])) r) : Q6 G (Qg0 p0 i0 v0_1) r := by
 have hB0 := H.1
 exact Qm (Q112 p0 i0 v0_1) (y := (Qwh p0 (i0 + 1) (v0_1 ++ [(Q1n ([(Q5 Q1z (Qz x0.image)), (Q5 Q2f (Q48 x0.limit)), (Q5 Q2m (Q37 x0.live)), (Q5 Qv (Qz x0.name)), (Q5 Qq (Q37 x0.ready)), (Q5 Q16 (Q48 x0.request)), (Q5 Q1q (Q37 x0.startup))]))]), Qji p0 (i0 + 1) (v0_1 ++ [(Q1n ([(Q5 Q1z (Qz x0.image)), (Q5 Q2f (Q48 x0.limit)), (Q5 Q2m (Q37 x0.live)), (Q5 Qv (Qz x0.name)), (Q5 Qq (Q37 x0.ready)), (Q5 Q16 (Q48 x0.request)), (Q5 Q1q (Q37 x0.startup))]))]))) [hP 2 (Qf (Container.rows p0) (List.length p0) (Container.Q0 p0)), hB 0 hc0, hP 2 (Q1k 11 (Container.rows p0) i0 _ (Container.Qb hx0) rfl), hV 35 [(2692, Val.rows (v0_1 ++ [(Q1n ([(Q5 Q1z (Qz x0.image)), (Q5 Q2f (Q48 x0.limit)), (Q5 Q2m (Q37 x0.live)), (Q5 Qv (Qz x0.name)), (Q5 Qq (Q37 x0.ready)), (Q5 Q16 (Q48 x0.request)), (Q5 Q1q (Q37 x0.startup))]))]))] (Q5e 1 2628 2692 5 80 0 0 true (Val.rows v0_1) (Val.rows (v0_1 ++ [(Q1n ([(Q5 Q1z (Qz x0.image)), (Q5 Q2f (Q48 x0.limit)), (Q5 Q2m (Q37 x0.live)), (Q5 Qv (Qz x0.name)), (Q5 Qq (Q37 x0.ready)), (Q5 Q16 (Q48 x0.request)), (Q5 Q1q (Q37 x0.startup))]))])) (Val.cells (Q1n ([(Q5 Q1z (Qz x0.image)), (Q5 Q2f (Q48 x0.limit)), (Q5 Q2m (Q37 x0.live)), (Q5 Qv (Qz x0.name)), (Q5 Qq (Q37 x0.ready)), (Q5 Q16 (Q48 x0.request)), (Q5 Q1q (Q37 x0.startup))]))) (List.length v0_1) (List.length (v0_1 ++ [(Q1n ([(Q5 Q1z (Qz x0.image)), (Q5 Q2f (Q48 x0.limit)), (Q5 Q2m (Q37 x0.live)), (Q5 Qv (Qz x0.name)), (Q5 Qq (Q37 x0.ready)), (Q5 Q16 (Q48 x0.request)), (Q5 Q1q (Q37 x0.startup))]))])) rfl (Val.Q0 v0_1).symm (Val.Q0 (v0_1 ++ [(Q1n ([(Q5 Q1z (Qz x0.image)), (Q5 Q2f (Q48 x0.limit)), (Q5 Q2m (Q37 x0.live)), (Q5 Qv (Qz x0.name)), (Q5 Qq (Q37 x0.ready)), (Q5 Q16 (Q48 x0.request)), (Q5 Q1q (Q37 x0.startup))]))])).symm (Val.Q15 v0_1 (Q1n ([(Q5 Q1z (Qz x0.image)), (Q5 Q2f (Q48 x0.limit)), (Q5 Q2m (Q37 x0.live)), (Q5 Qv (Qz x0.name)), (Q5 Qq (Q37 x0.ready)), (Q5 Q16 (Q48 x0.request)), (Q5 Q1q (Q37 x0.startup))]))) (Val.Qd v0_1) rfl (by omega)), hS 0 true (Val.Q7 (v0_1 ++ [(Q1n ([(Q5 Q1z (Qz x0.image)), (Q5 Q2f (Q48 x0.limit)), (Q5 Q2m (Q37 x0.live)), (Q5 Qv (Qz x0.name)), (Q5 Qq (Q37 x0.ready)), (Q5 Q16 (Q48 x0.request)), (Q5 Q1q (Q37 x0.startup))]))]) 5 rfl), hP 2 (Q29 i0 (by omega))] [aN (Qel x0.image), aN (Q2v Q1z (Qz x0.image)), aN (Q1kn x0.limit), aN (Q2v Q2f (Q48 x0.limit)), aN (Q1h5 x0.live (H.2.1 x0 (Q2e hx0))), aN (Q2v Q2m (Q37 x0.live)), aN (Qel x0.name), aN (Q2v Qv (Qz x0.name)), aN (Q1h5 x0.ready (H.2.2.1 x0 (Q2e hx0))), aN (Q2v Qq (Q37 x0.ready)), aN (Q1kn x0.request), aN (Q2v Q16 (Q48 x0.request)), aN (Q1h5 x0.startup (H.2.2.2.1 x0 (Q2e hx0))), aN (Q2v Q1q (Q37 x0.startup)), aN (Q6r (e' := .call 70 [.sl [(Fld.cells (Q5 Q1z (Qz x0.image))), (Fld.cells (Q5 Q2f (Q48 x0.limit))), (Fld.cells (Q5 Q2m (Q37 x0.live))), (Fld.cells (Q5 Qv (Qz x0.name))), (Fld.cells (Q5 Qq (Q37 x0.ready))), (Fld.cells (Q5 Q16 (Q48 x0.request))), (Fld.cells (Q5 Q1q (Q37 x0.startup)))]] []) (Qk3 ([(Q5 Q1z (Qz x0.image)), (Q5 Q2f (Q48 x0.limit)), (Q5 Q2m (Q37 x0.live)), (Q5 Qv (Qz x0.name)), (Q5 Qq (Q37 x0.ready)), (Q5 Q16 (Q48 x0.request)), (Q5 Q1q (Q37 x0.startup))])) (by simp only [Qem, Fld.Q2p, Fld.Q3b]))] (by kernel_rfl) hr
theorem Qxz (p0 : List Container) (H : Qfl p0) : ∀ (r0 : List Container) (i0 : Nat) (v0_1 : List Val), List.drop i0 p0 = r0 → List.length v0_1 ≤ i0 → Qfx p0 (Qg0 p0 i0 v0_1) (Q51 p0 r0 i0 v0_1)
 | [], i0, v0_1, hd, ho0_0 => by
  have hc0 : (decide ((i0 : Int) < ((List.length p0) : Int))) = false := by have := Q1g hd; simp; omega
  rw [Q51]
  exact Q172 p0 H i0 v0_1 ho0_0 hc0
 | x0 :: r0, i0, v0_1, hd, ho0_0 => by
  obtain ⟨hx0, hi0, hd'⟩ := Q12 hd
  have hc0 : (decide ((i0 : Int) < ((List.length p0) : Int))) = true := by simp; omega
  rw [Q51]
  exact Qtv p0 (fun r hr => Q162 p0 H x0 i0 v0_1 hx0 hi0 ho0_0 hc0 hr) _ (Qxz p0 H r0 (i0 + 1) (v0_1 ++ [(Q1n ([(Q5 Q1z (Qz x0.image)), (Q5 Q2f (Q48 x0.limit)), (Q5 Q2m (Q37 x0.live)), (Q5 Qv (Qz x0.name)), (Q5 Qq (Q37 x0.ready)), (Q5 Q16 (Q48 x0.request)), (Q5 Q1q (Q37 x0.startup))]))]) hd' (by first | omega | (simp; omega)))
def Q13s (p0 : List Container) : Val := vL (p0.map Container.enc)
theorem Q1p2 (p0 : List Container) : Q13s p0 = ((Qhd (Q51 p0 p0 0 []))) := by
  rw [Q128]
  rfl
def Q1rn (p0 : List Container) : En := .call 124 [.sl (Container.rows p0)] []
def Q1kv (p0 : List Container) : Rs := .ret (.agg (Val.cells (Q13s p0))) []
def Q1gf (p0 : List Container) : Prop := LSm Container.sm p0
theorem Q1bm (p0 : List Container) (H : Q1gf p0) : (Qfl p0) ∧ True := by
  exact ⟨⟨Nat.le_trans H.1 (Nat.le_of_ble_eq_true rfl), fun x hx => (H.2 x hx).2.2.1, fun x hx => (H.2 x hx).2.2.2.1, fun x hx => (H.2 x hx).2.2.2.2.1, trivial⟩, trivial⟩
theorem Q1qj (p0 : List Container) (H : Q1gf p0) : Q6 G (Q1rn p0) (Q1kv p0) := by
 unfold Q1kv
 rw [Q1p2]
 have hl0 := Qxz p0 ((Q1bm p0 H).1) p0 0 [] (by simp) (by simp)
 obtain ⟨z0, zo0, hl0⟩ := hl0
 exact Q8 (fn := Ir.K2x) rfl VOK.nil [hS 0 true (Val.Q7 (Q51 p0 p0 0 []) 5 rfl), hQ (Val.Q0 (Q51 p0 p0 0 [])).symm] [aV [(1, Val.rows (Q51 p0 p0 0 []))] hl0, aN (Qsd (Q51 p0 p0 0 []))] (by kernel_rfl)
def Q4v (p0 : List ByteArray) : List ByteArray → Nat → (List Val) → List Val
 | [], _i0, v0_1 =>
  v0_1
 | x0 :: r0, i0, v0_1 =>
  Q4v p0 r0 (i0 + 1) (v0_1 ++ [(Qz x0)])
theorem Q13f (p0 : List ByteArray) : ∀ (l : List ByteArray) (i : Nat) (a : List Val), Q4v p0 l i a = a ++ l.map (fun x0 => (Qz x0))
  | [], _, _ => by simp [Q4v]
  | x :: r, i, a => by rw [Q4v, Q13f p0 r]; simp
def Qvo (p0 : List ByteArray) (i0 : Nat) (v0_1 : List Val) : List PV :=
  [.sl (Qe p0), .un, .bx 0 0, .ms 1 5 0 (List.length v0_1), .int .i64 (i0 : Int)] ++ nuns 16
def Qmm (_p0 : List ByteArray) (_i0 : Nat) (v0_1 : List Val) : List Ob :=
  [⟨5, 0, true, [.int .i64 0, .int .i64 0, .str eB, .ms 2 5 0 0, .ms 3 6 0 0]⟩, ⟨5, 0, true, (Val.rows v0_1).flatten⟩, ⟨5, 0, true, []⟩, ⟨6, 0, true, []⟩]
def Qf9 (p0 : List ByteArray) (i0 : Nat) (v0_1 : List Val) : En := .loop 0 Ir.Qit Ir.Q1ek (Qvo p0 i0 v0_1) (Qmm p0 i0 v0_1)
def Qn6 (_p0 : List ByteArray) (q0 : List Val) (z : Nat → PV) (_zo : Nat → List PV) : St :=
  ⟨[z 0, z 1, .bx 0 0, .ms 1 5 0 (List.length q0)] ++ zr z 4 17, [(0, ⟨5, 0, true, [.int .i64 0, .int .i64 0, .str eB, .ms 2 5 0 0, .ms 3 6 0 0]⟩), (1, ⟨5, 0, true, (Val.rows q0).flatten⟩), (2, ⟨5, 0, true, []⟩), (3, ⟨6, 0, true, []⟩)], 260⟩
theorem Q12b (p0 : List ByteArray) (i0 : Nat) (v0_1 : List Val) : VOK (Go.Pv.look (number 0 (Qmm p0 i0 v0_1))) [(1, Val.rows v0_1)] := (VOK.cons (show Seen _ _ from Q3q (ob := ⟨5, 0, true, (Val.rows v0_1).flatten⟩) (Val.Q7 v0_1 5 rfl)) VOK.nil)
def Qer (p0 : List ByteArray) (e : En) (q : List Val) : Prop := ∃ z zo, Q6 G e (.st (.exit 0) (Qn6 p0 q z zo))
theorem Qsv (p0 : List ByteArray) {e e' : En} (h : ∀ r, Q6 G e r → Q6 G e' r) : ∀ q, Qer p0 e q → Qer p0 e' q
  | _, ⟨z, zo, hz⟩ => ⟨z, zo, h _ hz⟩
def Qfb (p0 : List ByteArray) : Prop := (List.length p0 ≤ 137438953472) ∧ True
def Qnc (p0 : List ByteArray) (i0 : Nat) (_v0_1 : List Val) : List PV :=
  [.sl (Qe p0), .un, .un, .un, .int .i64 (i0 : Int), .int .i64 (i0 : Int), .sl (Qe p0), .int .i64 ((List.length p0) : Int), .bool false]
def Qhw (_p0 : List ByteArray) (_i0 : Nat) (_v0_1 : List Val) : List (Nat × List PV) :=
  []
theorem Q15n (p0 : List ByteArray) (_H : Qfb p0) (i0 : Nat) (v0_1 : List Val) (_ho0_0 : List.length v0_1 ≤ i0) (hc0 : (decide ((i0 : Int) < ((List.length p0) : Int))) = false) : Qer p0 (Qf9 p0 i0 v0_1) v0_1 := by
 exact ⟨(envF (Qnc p0 i0 v0_1)), (zoF (Qhw p0 i0 v0_1)), Qh (Q12b p0 i0 v0_1) (x := ((.exit 0), Qn6 p0 v0_1 (envF (Qnc p0 i0 v0_1)) (zoF (Qhw p0 i0 v0_1)))) [hP 2 (Qf (Qe p0) (List.length p0) (Q1c p0)), hB 0 hc0] [] (by kernel_rfl)⟩
theorem Q14l (p0 : List ByteArray) (H : Qfb p0) (x0 : BA) (i0 : Nat) (v0_1 : List Val) (hx0 : p0[i0]? = some x0) (hi0 : i0 < List.length p0) (ho0_0 : List.length v0_1 ≤ i0) (hc0 : (decide ((i0 : Int) < ((List.length p0) : Int))) = true) {r : Rs} (hr : Q6 G (Qf9 p0 (i0 + 1) (v0_1 ++ [(Qz x0)])) r) : Q6 G (Qf9 p0 i0 v0_1) r := by
 have hB0 := H.1
 exact Qm (Q12b p0 i0 v0_1) (y := (Qvo p0 (i0 + 1) (v0_1 ++ [(Qz x0)]), Qmm p0 (i0 + 1) (v0_1 ++ [(Qz x0)]))) [hP 2 (Qf (Qe p0) (List.length p0) (Q1c p0)), hB 0 hc0, hP 3 (Q1k 1 (Qe p0) i0 _ (Q3t hx0) rfl), hV 3 [(708, Val.rows (v0_1 ++ [(Qz x0)]))] (Q5e 1 644 708 5 80 0 0 true (Val.rows v0_1) (Val.rows (v0_1 ++ [(Qz x0)])) (Val.cells (Qz x0)) (List.length v0_1) (List.length (v0_1 ++ [(Qz x0)])) rfl (Val.Q0 v0_1).symm (Val.Q0 (v0_1 ++ [(Qz x0)])).symm (Val.Q15 v0_1 (Qz x0)) (Val.Qd v0_1) rfl (by omega)), hS 0 true (Val.Q7 (v0_1 ++ [(Qz x0)]) 5 rfl), hP 2 (Q29 i0 (by omega))] [aN (Qel x0)] (by kernel_rfl) hr
theorem Qyq (p0 : List ByteArray) (H : Qfb p0) : ∀ (r0 : List ByteArray) (i0 : Nat) (v0_1 : List Val), List.drop i0 p0 = r0 → List.length v0_1 ≤ i0 → Qer p0 (Qf9 p0 i0 v0_1) (Q4v p0 r0 i0 v0_1)
 | [], i0, v0_1, hd, ho0_0 => by
  have hc0 : (decide ((i0 : Int) < ((List.length p0) : Int))) = false := by have := Q1g hd; simp; omega
  rw [Q4v]
  exact Q15n p0 H i0 v0_1 ho0_0 hc0
 | x0 :: r0, i0, v0_1, hd, ho0_0 => by
  obtain ⟨hx0, hi0, hd'⟩ := Q12 hd
  have hc0 : (decide ((i0 : Int) < ((List.length p0) : Int))) = true := by simp; omega
  rw [Q4v]
  exact Qsv p0 (fun r hr => Q14l p0 H x0 i0 v0_1 hx0 hi0 ho0_0 hc0 hr) _ (Qyq p0 H r0 (i0 + 1) (v0_1 ++ [(Qz x0)]) hd' (by first | omega | (simp; omega)))
def Q8i (p0 : List ByteArray) : Val := vL (p0.map vS)
theorem Q1pn (p0 : List ByteArray) : Q8i p0 = ((Qhd (Q4v p0 p0 0 []))) := by
  rw [Q13f]
  rfl
def Q1pf (p0 : List ByteArray) : En := .call 150 [.sl (Qe p0)] []
def Q1k0 (p0 : List ByteArray) : Rs := .ret (.agg (Val.cells (Q8i p0))) []
def Q1gh (p0 : List ByteArray) : Prop := LSm (fun _ : ByteArray => True) p0
theorem Q1cn (p0 : List ByteArray) (H : Q1gh p0) : (Qfb p0) ∧ True := by
  exact ⟨⟨Nat.le_trans H.1 (Nat.le_of_ble_eq_true rfl), trivial⟩, trivial⟩
theorem Q1mq (p0 : List ByteArray) (H : Q1gh p0) : Q6 G (Q1pf p0) (Q1k0 p0) := by
 unfold Q1k0
 rw [Q1pn]
 have hl0 := Qyq p0 ((Q1cn p0 H).1) p0 0 [] (by simp) (by simp)
 obtain ⟨z0, zo0, hl0⟩ := hl0
 exact Q8 (fn := Ir.K2e) rfl VOK.nil [hS 0 true (Val.Q7 (Q4v p0 p0 0 []) 5 rfl), hQ (Val.Q0 (Q4v p0 p0 0 [])).symm] [aV [(1, Val.rows (Q4v p0 p0 0 []))] hl0, aN (Qsd (Q4v p0 p0 0 []))] (by kernel_rfl)
def Q4t (p0 : List Requirement) : List Requirement → Nat → (List Val) → List Val
 | [], _i0, v0_1 =>
  v0_1
 | x0 :: r0, i0, v0_1 =>
  Q4t p0 r0 (i0 + 1) (v0_1 ++ [(Q1n ([(Q5 Q1d (Qz x0.key)), (Q5 Q57 (Qi x0.op)), (Q5 Q22 (Q8i x0.values))]))])
theorem Q12u (p0 : List Requirement) : ∀ (l : List Requirement) (i : Nat) (a : List Val), Q4t p0 l i a = a ++ l.map (fun x0 => (Q1n ([(Q5 Q1d (Qz x0.key)), (Q5 Q57 (Qi x0.op)), (Q5 Q22 (Q8i x0.values))])))
  | [], _, _ => by simp [Q4t]
  | x :: r, i, a => by rw [Q4t, Q12u p0 r]; simp
def Qyb (p0 : List Requirement) (i0 : Nat) (v0_1 : List Val) : List PV :=
  [.sl (Requirement.rows p0), .un, .bx 0 0, .ms 1 5 0 (List.length v0_1), .int .i64 (i0 : Int)] ++ nuns 34
def Qiw (_p0 : List Requirement) (_i0 : Nat) (v0_1 : List Val) : List Ob :=
  [⟨5, 0, true, [.int .i64 0, .int .i64 0, .str eB, .ms 2 5 0 0, .ms 3 6 0 0]⟩, ⟨5, 0, true, (Val.rows v0_1).flatten⟩, ⟨5, 0, true, []⟩, ⟨6, 0, true, []⟩]
def Qgf (p0 : List Requirement) (i0 : Nat) (v0_1 : List Val) : En := .loop 0 Ir.Qk0 Ir.Q1fa (Qyb p0 i0 v0_1) (Qiw p0 i0 v0_1)
def Qrc (_p0 : List Requirement) (q0 : List Val) (z : Nat → PV) (_zo : Nat → List PV) : St :=
  ⟨[z 0, z 1, .bx 0 0, .ms 1 5 0 (List.length q0)] ++ zr z 4 35, [(0, ⟨5, 0, true, [.int .i64 0, .int .i64 0, .str eB, .ms 2 5 0 0, .ms 3 6 0 0]⟩), (1, ⟨5, 0, true, (Val.rows q0).flatten⟩), (2, ⟨5, 0, true, []⟩), (3, ⟨6, 0, true, []⟩)], 260⟩
theorem Q11a (p0 : List Requirement) (i0 : Nat) (v0_1 : List Val) : VOK (Go.Pv.look (number 0 (Qiw p0 i0 v0_1))) [(1, Val.rows v0_1)] := (VOK.cons (show Seen _ _ from Q3q (ob := ⟨5, 0, true, (Val.rows v0_1).flatten⟩) (Val.Q7 v0_1 5 rfl)) VOK.nil)
def Qf2 (p0 : List Requirement) (e : En) (q : List Val) : Prop := ∃ z zo, Q6 G e (.st (.exit 0) (Qrc p0 q z zo))
theorem Qs7 (p0 : List Requirement) {e e' : En} (h : ∀ r, Q6 G e r → Q6 G e' r) : ∀ q, Qf2 p0 e q → Qf2 p0 e' q
  | _, ⟨z, zo, hz⟩ => ⟨z, zo, h _ hz⟩
def Qft (p0 : List Requirement) : Prop := (List.length p0 ≤ 137438953472) ∧ (∀ x0 ∈ p0, Q1gh x0.values) ∧ True
def Qpa (p0 : List Requirement) (i0 : Nat) (_v0_1 : List Val) : List PV :=
  [.sl (Requirement.rows p0), .un, .un, .un, .int .i64 (i0 : Int), .int .i64 (i0 : Int), .sl (Requirement.rows p0), .int .i64 ((List.length p0) : Int), .bool false]
def Qi3 (_p0 : List Requirement) (_i0 : Nat) (_v0_1 : List Val) : List (Nat × List PV) :=
  []
theorem Q15l (p0 : List Requirement) (_H : Qft p0) (i0 : Nat) (v0_1 : List Val) (_ho0_0 : List.length v0_1 ≤ i0) (hc0 : (decide ((i0 : Int) < ((List.length p0) : Int))) = false) : Qf2 p0 (Qgf p0 i0 v0_1) v0_1 := by
 exact ⟨(envF (Qpa p0 i0 v0_1)), (zoF (Qi3 p0 i0 v0_1)), Qh (Q11a p0 i0 v0_1) (x := ((.exit 0), Qrc p0 v0_1 (envF (Qpa p0 i0 v0_1)) (zoF (Qi3 p0 i0 v0_1)))) [hP 2 (Qf (Requirement.rows p0) (List.length p0) (Requirement.Q0 p0)), hB 0 hc0] [] (by kernel_rfl)⟩
theorem Q14r (p0 : List Requirement) (H : Qft p0) (x0 : Requirement) (i0 : Nat) (v0_1 : List Val) (hx0 : p0[i0]? = some x0) (hi0 : i0 < List.length p0) (ho0_0 : List.length v0_1 ≤ i0) (hc0 : (decide ((i0 : Int) < ((List.length p0) : Int))) = true) {r : Rs} (hr : Q6 G (Qgf p0 (i0 + 1) (v0_1 ++ [(Q1n ([(Q5 Q1d (Qz x0.key)), (Q5 Q57 (Qi x0.op)), (Q5 Q22 (Q8i x0.values))]))])) r) : Q6 G (Qgf p0 i0 v0_1) r := by
 have hB0 := H.1
 exact Qm (Q11a p0 i0 v0_1) (y := (Qyb p0 (i0 + 1) (v0_1 ++ [(Q1n ([(Q5 Q1d (Qz x0.key)), (Q5 Q57 (Qi x0.op)), (Q5 Q22 (Q8i x0.values))]))]), Qiw p0 (i0 + 1) (v0_1 ++ [(Q1n ([(Q5 Q1d (Qz x0.key)), (Q5 Q57 (Qi x0.op)), (Q5 Q22 (Q8i x0.values))]))]))) [hP 2 (Qf (Requirement.rows p0) (List.length p0) (Requirement.Q0 p0)), hB 0 hc0, hP 3 (Q1k 3 (Requirement.rows p0) i0 _ (Requirement.Qb hx0) rfl), hP 6 (Q1k 3 (Requirement.rows p0) i0 _ (Requirement.Qb hx0) rfl), hP 6 (Q1k 3 (Requirement.rows p0) i0 _ (Requirement.Qb hx0) rfl), hV 7 [(1860, Val.rows (v0_1 ++ [(Q1n ([(Q5 Q1d (Qz x0.key)), (Q5 Q57 (Qi x0.op)), (Q5 Q22 (Q8i x0.values))]))]))] (Q5e 1 1796 1860 5 80 0 0 true (Val.rows v0_1) (Val.rows (v0_1 ++ [(Q1n ([(Q5 Q1d (Qz x0.key)), (Q5 Q57 (Qi x0.op)), (Q5 Q22 (Q8i x0.values))]))])) (Val.cells (Q1n ([(Q5 Q1d (Qz x0.key)), (Q5 Q57 (Qi x0.op)), (Q5 Q22 (Q8i x0.values))]))) (List.length v0_1) (List.length (v0_1 ++ [(Q1n ([(Q5 Q1d (Qz x0.key)), (Q5 Q57 (Qi x0.op)), (Q5 Q22 (Q8i x0.values))]))])) rfl (Val.Q0 v0_1).symm (Val.Q0 (v0_1 ++ [(Q1n ([(Q5 Q1d (Qz x0.key)), (Q5 Q57 (Qi x0.op)), (Q5 Q22 (Q8i x0.values))]))])).symm (Val.Q15 v0_1 (Q1n ([(Q5 Q1d (Qz x0.key)), (Q5 Q57 (Qi x0.op)), (Q5 Q22 (Q8i x0.values))]))) (Val.Qd v0_1) rfl (by omega)), hS 0 true (Val.Q7 (v0_1 ++ [(Q1n ([(Q5 Q1d (Qz x0.key)), (Q5 Q57 (Qi x0.op)), (Q5 Q22 (Q8i x0.values))]))]) 5 rfl), hP 2 (Q29 i0 (by omega))] [aN (Qel x0.key), aN (Q2v Q1d (Qz x0.key)), aN (Q60 x0.op), aN (Q2v Q57 (Qi x0.op)), aN (Q1mq x0.values (H.2.1 x0 (Q2e hx0))), aN (Q2v Q22 (Q8i x0.values)), aN (Q6r (e' := .call 70 [.sl [(Fld.cells (Q5 Q1d (Qz x0.key))), (Fld.cells (Q5 Q57 (Qi x0.op))), (Fld.cells (Q5 Q22 (Q8i x0.values)))]] []) (Qk3 ([(Q5 Q1d (Qz x0.key)), (Q5 Q57 (Qi x0.op)), (Q5 Q22 (Q8i x0.values))])) (by simp only [Qem, Fld.Q2p, Fld.Q3b]))] (by kernel_rfl) hr
theorem Qwa (p0 : List Requirement) (H : Qft p0) : ∀ (r0 : List Requirement) (i0 : Nat) (v0_1 : List Val), List.drop i0 p0 = r0 → List.length v0_1 ≤ i0 → Qf2 p0 (Qgf p0 i0 v0_1) (Q4t p0 r0 i0 v0_1)
 | [], i0, v0_1, hd, ho0_0 => by
  have hc0 : (decide ((i0 : Int) < ((List.length p0) : Int))) = false := by have := Q1g hd; simp; omega
  rw [Q4t]
  exact Q15l p0 H i0 v0_1 ho0_0 hc0
 | x0 :: r0, i0, v0_1, hd, ho0_0 => by
  obtain ⟨hx0, hi0, hd'⟩ := Q12 hd
  have hc0 : (decide ((i0 : Int) < ((List.length p0) : Int))) = true := by simp; omega
  rw [Q4t]
  exact Qs7 p0 (fun r hr => Q14r p0 H x0 i0 v0_1 hx0 hi0 ho0_0 hc0 hr) _ (Qwa p0 H r0 (i0 + 1) (v0_1 ++ [(Q1n ([(Q5 Q1d (Qz x0.key)), (Q5 Q57 (Qi x0.op)), (Q5 Q22 (Q8i x0.values))]))]) hd' (by first | omega | (simp; omega)))
def Q31 (p0 : List Requirement) : Val := vL (p0.map Requirement.enc)
theorem Q1m6 (p0 : List Requirement) : Q31 p0 = ((Qhd (Q4t p0 p0 0 []))) := by
  rw [Q12u]
  rfl
def Q1om (p0 : List Requirement) : En := .call 126 [.sl (Requirement.rows p0)] []
def Q1l9 (p0 : List Requirement) : Rs := .ret (.agg (Val.cells (Q31 p0))) []
def Q17x (p0 : List Requirement) : Prop := LSm Requirement.sm p0
theorem Q1c3 (p0 : List Requirement) (H : Q17x p0) : (Qft p0) ∧ True := by
  exact ⟨⟨Nat.le_trans H.1 (Nat.le_of_ble_eq_true rfl), fun x hx => (H.2 x hx).1, trivial⟩, trivial⟩
theorem Q1c9 (p0 : List Requirement) (H : Q17x p0) : Q6 G (Q1om p0) (Q1l9 p0) := by
 unfold Q1l9
 rw [Q1m6]
 have hl0 := Qwa p0 ((Q1c3 p0 H).1) p0 0 [] (by simp) (by simp)
 obtain ⟨z0, zo0, hl0⟩ := hl0
 exact Q8 (fn := Ir.K2c) rfl VOK.nil [hS 0 true (Val.Q7 (Q4t p0 p0 0 []) 5 rfl), hQ (Val.Q0 (Q4t p0 p0 0 [])).symm] [aV [(1, Val.rows (Q4t p0 p0 0 []))] hl0, aN (Qsd (Q4t p0 p0 0 []))] (by kernel_rfl)
def Q1f (p0 : Bool) : Val := vB p0
theorem Q1pc (p0 : Bool) : Q1f p0 = (bif p0 then
    (Val.mk 1 1 eB [] [])
  else
    (Val.mk 1 0 eB [] [])) := by
  cases p0 <;> rfl
def Q1nh (p0 : Bool) : En := .call 73 [.bool p0] []
def Q1jz (p0 : Bool) : Rs := .ret (.agg (Val.cells (Q1f p0))) []
theorem Qvp (p0 : Bool) : Q6 G (Q1nh p0) (Q1jz p0) := by
 unfold Q1jz
 rw [Q1pc]
 cases h0 : p0 with
 | true =>
  exact Q8 (fn := Ir.K3q) rfl VOK.nil [] [] (by kernel_rfl)
 | false =>
  exact Q8 (fn := Ir.K3q) rfl VOK.nil [] [] (by kernel_rfl)
def Q4u (p0 : List NodeTerm) : List NodeTerm → Nat → (List Val) → List Val
 | [], _i0, v0_1 =>
  v0_1
 | x0 :: r0, i0, v0_1 =>
  Q4u p0 r0 (i0 + 1) (v0_1 ++ [(Q1n ([(Q5 Q9 (Q1f x0.required)), (Q5 Qa (Q31 x0.selector)), (Q5 Qu (Qi x0.weight))]))])
theorem Q10d (p0 : List NodeTerm) : ∀ (l : List NodeTerm) (i : Nat) (a : List Val), Q4u p0 l i a = a ++ l.map (fun x0 => (Q1n ([(Q5 Q9 (Q1f x0.required)), (Q5 Qa (Q31 x0.selector)), (Q5 Qu (Qi x0.weight))])))
  | [], _, _ => by simp [Q4u]
  | x :: r, i, a => by rw [Q4u, Q10d p0 r]; simp
def Qvm (p0 : List NodeTerm) (i0 : Nat) (v0_1 : List Val) : List PV :=
  [.sl (NodeTerm.rows p0), .un, .bx 0 0, .ms 1 5 0 (List.length v0_1), .int .i64 (i0 : Int)] ++ nuns 34
def Qmh (_p0 : List NodeTerm) (_i0 : Nat) (v0_1 : List Val) : List Ob :=
  [⟨5, 0, true, [.int .i64 0, .int .i64 0, .str eB, .ms 2 5 0 0, .ms 3 6 0 0]⟩, ⟨5, 0, true, (Val.rows v0_1).flatten⟩, ⟨5, 0, true, []⟩, ⟨6, 0, true, []⟩]
def Qf6 (p0 : List NodeTerm) (i0 : Nat) (v0_1 : List Val) : En := .loop 0 Ir.Qmk Ir.Q1e6 (Qvm p0 i0 v0_1) (Qmh p0 i0 v0_1)
def Qne (_p0 : List NodeTerm) (q0 : List Val) (z : Nat → PV) (_zo : Nat → List PV) : St :=
  ⟨[z 0, z 1, .bx 0 0, .ms 1 5 0 (List.length q0)] ++ zr z 4 35, [(0, ⟨5, 0, true, [.int .i64 0, .int .i64 0, .str eB, .ms 2 5 0 0, .ms 3 6 0 0]⟩), (1, ⟨5, 0, true, (Val.rows q0).flatten⟩), (2, ⟨5, 0, true, []⟩), (3, ⟨6, 0, true, []⟩)], 260⟩
theorem Q11q (p0 : List NodeTerm) (i0 : Nat) (v0_1 : List Val) : VOK (Go.Pv.look (number 0 (Qmh p0 i0 v0_1))) [(1, Val.rows v0_1)] := (VOK.cons (show Seen _ _ from Q3q (ob := ⟨5, 0, true, (Val.rows v0_1).flatten⟩) (Val.Q7 v0_1 5 rfl)) VOK.nil)
def Qgv (p0 : List NodeTerm) (e : En) (q : List Val) : Prop := ∃ z zo, Q6 G e (.st (.exit 0) (Qne p0 q z zo))
theorem Qse (p0 : List NodeTerm) {e e' : En} (h : ∀ r, Q6 G e r → Q6 G e' r) : ∀ q, Qgv p0 e q → Qgv p0 e' q
  | _, ⟨z, zo, hz⟩ => ⟨z, zo, h _ hz⟩
def Qeq (p0 : List NodeTerm) : Prop := (List.length p0 ≤ 137438953472) ∧ (∀ x0 ∈ p0, Q17x x0.selector) ∧ True
def Qqm (p0 : List NodeTerm) (i0 : Nat) (_v0_1 : List Val) : List PV :=
  [.sl (NodeTerm.rows p0), .un, .un, .un, .int .i64 (i0 : Int), .int .i64 (i0 : Int), .sl (NodeTerm.rows p0), .int .i64 ((List.length p0) : Int), .bool false]
def Qic (_p0 : List NodeTerm) (_i0 : Nat) (_v0_1 : List Val) : List (Nat × List PV) :=
  []
theorem Q13i (p0 : List NodeTerm) (_H : Qeq p0) (i0 : Nat) (v0_1 : List Val) (_ho0_0 : List.length v0_1 ≤ i0) (hc0 : (decide ((i0 : Int) < ((List.length p0) : Int))) = false) : Qgv p0 (Qf6 p0 i0 v0_1) v0_1 := by
 exact ⟨(envF (Qqm p0 i0 v0_1)), (zoF (Qic p0 i0 v0_1)), Qh (Q11q p0 i0 v0_1) (x := ((.exit 0), Qne p0 v0_1 (envF (Qqm p0 i0 v0_1)) (zoF (Qic p0 i0 v0_1)))) [hP 2 (Qf (NodeTerm.rows p0) (List.length p0) (NodeTerm.Q0 p0)), hB 0 hc0] [] (by kernel_rfl)⟩
theorem Q14y (p0 : List NodeTerm) (H : Qeq p0) (x0 : NodeTerm) (i0 : Nat) (v0_1 : List Val) (hx0 : p0[i0]? = some x0) (hi0 : i0 < List.length p0) (ho0_0 : List.length v0_1 ≤ i0) (hc0 : (decide ((i0 : Int) < ((List.length p0) : Int))) = true) {r : Rs} (hr : Q6 G (Qf6 p0 (i0 + 1) (v0_1 ++ [(Q1n ([(Q5 Q9 (Q1f x0.required)), (Q5 Qa (Q31 x0.selector)), (Q5 Qu (Qi x0.weight))]))])) r) : Q6 G (Qf6 p0 i0 v0_1) r := by
 have hB0 := H.1
 exact Qm (Q11q p0 i0 v0_1) (y := (Qvm p0 (i0 + 1) (v0_1 ++ [(Q1n ([(Q5 Q9 (Q1f x0.required)), (Q5 Qa (Q31 x0.selector)), (Q5 Qu (Qi x0.weight))]))]), Qmh p0 (i0 + 1) (v0_1 ++ [(Q1n ([(Q5 Q9 (Q1f x0.required)), (Q5 Qa (Q31 x0.selector)), (Q5 Qu (Qi x0.weight))]))]))) [hP 2 (Qf (NodeTerm.rows p0) (List.length p0) (NodeTerm.Q0 p0)), hB 0 hc0, hP 3 (Q1k 3 (NodeTerm.rows p0) i0 _ (NodeTerm.Qb hx0) rfl), hP 6 (Q1k 3 (NodeTerm.rows p0) i0 _ (NodeTerm.Qb hx0) rfl), hP 6 (Q1k 3 (NodeTerm.rows p0) i0 _ (NodeTerm.Qb hx0) rfl), hV 7 [(1860, Val.rows (v0_1 ++ [(Q1n ([(Q5 Q9 (Q1f x0.required)), (Q5 Qa (Q31 x0.selector)), (Q5 Qu (Qi x0.weight))]))]))] (Q5e 1 1796 1860 5 80 0 0 true (Val.rows v0_1) (Val.rows (v0_1 ++ [(Q1n ([(Q5 Q9 (Q1f x0.required)), (Q5 Qa (Q31 x0.selector)), (Q5 Qu (Qi x0.weight))]))])) (Val.cells (Q1n ([(Q5 Q9 (Q1f x0.required)), (Q5 Qa (Q31 x0.selector)), (Q5 Qu (Qi x0.weight))]))) (List.length v0_1) (List.length (v0_1 ++ [(Q1n ([(Q5 Q9 (Q1f x0.required)), (Q5 Qa (Q31 x0.selector)), (Q5 Qu (Qi x0.weight))]))])) rfl (Val.Q0 v0_1).symm (Val.Q0 (v0_1 ++ [(Q1n ([(Q5 Q9 (Q1f x0.required)), (Q5 Qa (Q31 x0.selector)), (Q5 Qu (Qi x0.weight))]))])).symm (Val.Q15 v0_1 (Q1n ([(Q5 Q9 (Q1f x0.required)), (Q5 Qa (Q31 x0.selector)), (Q5 Qu (Qi x0.weight))]))) (Val.Qd v0_1) rfl (by omega)), hS 0 true (Val.Q7 (v0_1 ++ [(Q1n ([(Q5 Q9 (Q1f x0.required)), (Q5 Qa (Q31 x0.selector)), (Q5 Qu (Qi x0.weight))]))]) 5 rfl), hP 2 (Q29 i0 (by omega))] [aN (Qvp x0.required), aN (Q2v Q9 (Q1f x0.required)), aN (Q1c9 x0.selector (H.2.1 x0 (Q2e hx0))), aN (Q2v Qa (Q31 x0.selector)), aN (Q60 x0.weight), aN (Q2v Qu (Qi x0.weight)), aN (Q6r (e' := .call 70 [.sl [(Fld.cells (Q5 Q9 (Q1f x0.required))), (Fld.cells (Q5 Qa (Q31 x0.selector))), (Fld.cells (Q5 Qu (Qi x0.weight)))]] []) (Qk3 ([(Q5 Q9 (Q1f x0.required)), (Q5 Qa (Q31 x0.selector)), (Q5 Qu (Qi x0.weight))])) (by simp only [Qem, Fld.Q2p, Fld.Q3b]))] (by kernel_rfl) hr
theorem Qwn (p0 : List NodeTerm) (H : Qeq p0) : ∀ (r0 : List NodeTerm) (i0 : Nat) (v0_1 : List Val), List.drop i0 p0 = r0 → List.length v0_1 ≤ i0 → Qgv p0 (Qf6 p0 i0 v0_1) (Q4u p0 r0 i0 v0_1)
 | [], i0, v0_1, hd, ho0_0 => by
  have hc0 : (decide ((i0 : Int) < ((List.length p0) : Int))) = false := by have := Q1g hd; simp; omega
  rw [Q4u]
  exact Q13i p0 H i0 v0_1 ho0_0 hc0
 | x0 :: r0, i0, v0_1, hd, ho0_0 => by
  obtain ⟨hx0, hi0, hd'⟩ := Q12 hd
  have hc0 : (decide ((i0 : Int) < ((List.length p0) : Int))) = true := by simp; omega
  rw [Q4u]
  exact Qse p0 (fun r hr => Q14y p0 H x0 i0 v0_1 hx0 hi0 ho0_0 hc0 hr) _ (Qwn p0 H r0 (i0 + 1) (v0_1 ++ [(Q1n ([(Q5 Q9 (Q1f x0.required)), (Q5 Qa (Q31 x0.selector)), (Q5 Qu (Qi x0.weight))]))]) hd' (by first | omega | (simp; omega)))
def Q14o (p0 : List NodeTerm) : Val := vL (p0.map NodeTerm.enc)
theorem Q1lv (p0 : List NodeTerm) : Q14o p0 = ((Qhd (Q4u p0 p0 0 []))) := by
  rw [Q10d]
  rfl
def Q1od (p0 : List NodeTerm) : En := .call 127 [.sl (NodeTerm.rows p0)] []
def Q1ic (p0 : List NodeTerm) : Rs := .ret (.agg (Val.cells (Q14o p0))) []
def Q1ge (p0 : List NodeTerm) : Prop := LSm NodeTerm.sm p0
theorem Q1cv (p0 : List NodeTerm) (H : Q1ge p0) : (Qeq p0) ∧ True := by
  exact ⟨⟨Nat.le_trans H.1 (Nat.le_of_ble_eq_true rfl), fun x hx => (H.2 x hx).1, trivial⟩, trivial⟩
theorem Q1o3 (p0 : List NodeTerm) (H : Q1ge p0) : Q6 G (Q1od p0) (Q1ic p0) := by
 unfold Q1ic
 rw [Q1lv]
 have hl0 := Qwn p0 ((Q1cv p0 H).1) p0 0 [] (by simp) (by simp)
 obtain ⟨z0, zo0, hl0⟩ := hl0
 exact Q8 (fn := Ir.K30) rfl VOK.nil [hS 0 true (Val.Q7 (Q4u p0 p0 0 []) 5 rfl), hQ (Val.Q0 (Q4u p0 p0 0 [])).symm] [aV [(1, Val.rows (Q4u p0 p0 0 []))] hl0, aN (Qsd (Q4u p0 p0 0 []))] (by kernel_rfl)
def Q52 (p0 : List PodTerm) : List PodTerm → Nat → (List Val) → List Val
 | [], _i0, v0_1 =>
  v0_1
 | x0 :: r0, i0, v0_1 =>
  Q52 p0 r0 (i0 + 1) (v0_1 ++ [(Q1n ([(Q5 Q2h (Q1f x0.anti)), (Q5 Q9 (Q1f x0.required)), (Q5 Qa (Q31 x0.selector)), (Q5 Qj (Qz x0.topology)), (Q5 Qu (Qi x0.weight))]))])
theorem Q10z (p0 : List PodTerm) : ∀ (l : List PodTerm) (i : Nat) (a : List Val), Q52 p0 l i a = a ++ l.map (fun x0 => (Q1n ([(Q5 Q2h (Q1f x0.anti)), (Q5 Q9 (Q1f x0.required)), (Q5 Qa (Q31 x0.selector)), (Q5 Qj (Qz x0.topology)), (Q5 Qu (Qi x0.weight))])))
  | [], _, _ => by simp [Q52]
  | x :: r, i, a => by rw [Q52, Q10z p0 r]; simp
def Qwr (p0 : List PodTerm) (i0 : Nat) (v0_1 : List Val) : List PV :=
  [.sl (PodTerm.rows p0), .un, .bx 0 0, .ms 1 5 0 (List.length v0_1), .int .i64 (i0 : Int)] ++ nuns 48
def Qma (_p0 : List PodTerm) (_i0 : Nat) (v0_1 : List Val) : List Ob :=
  [⟨5, 0, true, [.int .i64 0, .int .i64 0, .str eB, .ms 2 5 0 0, .ms 3 6 0 0]⟩, ⟨5, 0, true, (Val.rows v0_1).flatten⟩, ⟨5, 0, true, []⟩, ⟨6, 0, true, []⟩]
def Qg9 (p0 : List PodTerm) (i0 : Nat) (v0_1 : List Val) : En := .loop 0 Ir.Qi8 Ir.Q1f9 (Qwr p0 i0 v0_1) (Qma p0 i0 v0_1)
def Qps (_p0 : List PodTerm) (q0 : List Val) (z : Nat → PV) (_zo : Nat → List PV) : St :=
  ⟨[z 0, z 1, .bx 0 0, .ms 1 5 0 (List.length q0)] ++ zr z 4 49, [(0, ⟨5, 0, true, [.int .i64 0, .int .i64 0, .str eB, .ms 2 5 0 0, .ms 3 6 0 0]⟩), (1, ⟨5, 0, true, (Val.rows q0).flatten⟩), (2, ⟨5, 0, true, []⟩), (3, ⟨6, 0, true, []⟩)], 260⟩
theorem Q12f (p0 : List PodTerm) (i0 : Nat) (v0_1 : List Val) : VOK (Go.Pv.look (number 0 (Qma p0 i0 v0_1))) [(1, Val.rows v0_1)] := (VOK.cons (show Seen _ _ from Q3q (ob := ⟨5, 0, true, (Val.rows v0_1).flatten⟩) (Val.Q7 v0_1 5 rfl)) VOK.nil)
def Qh1 (p0 : List PodTerm) (e : En) (q : List Val) : Prop := ∃ z zo, Q6 G e (.st (.exit 0) (Qps p0 q z zo))
theorem Qsp (p0 : List PodTerm) {e e' : En} (h : ∀ r, Q6 G e r → Q6 G e' r) : ∀ q, Qh1 p0 e q → Qh1 p0 e' q
  | _, ⟨z, zo, hz⟩ => ⟨z, zo, h _ hz⟩
def Qg5 (p0 : List PodTerm) : Prop := (List.length p0 ≤ 137438953472) ∧ (∀ x0 ∈ p0, Q17x x0.selector) ∧ True
def Qox (p0 : List PodTerm) (i0 : Nat) (_v0_1 : List Val) : List PV :=
  [.sl (PodTerm.rows p0), .un, .un, .un, .int .i64 (i0 : Int), .int .i64 (i0 : Int), .sl (PodTerm.rows p0), .int .i64 ((List.length p0) : Int), .bool false]
def Qhr (_p0 : List PodTerm) (_i0 : Nat) (_v0_1 : List Val) : List (Nat × List PV) :=
  []
theorem Q14w (p0 : List PodTerm) (_H : Qg5 p0) (i0 : Nat) (v0_1 : List Val) (_ho0_0 : List.length v0_1 ≤ i0) (hc0 : (decide ((i0 : Int) < ((List.length p0) : Int))) = false) : Qh1 p0 (Qg9 p0 i0 v0_1) v0_1 := by
 exact ⟨(envF (Qox p0 i0 v0_1)), (zoF (Qhr p0 i0 v0_1)), Qh (Q12f p0 i0 v0_1) (x := ((.exit 0), Qps p0 v0_1 (envF (Qox p0 i0 v0_1)) (zoF (Qhr p0 i0 v0_1)))) [hP 2 (Qf (PodTerm.rows p0) (List.length p0) (PodTerm.Q0 p0)), hB 0 hc0] [] (by kernel_rfl)⟩
theorem Q15s (p0 : List PodTerm) (H : Qg5 p0) (x0 : PodTerm) (i0 : Nat) (v0_1 : List Val) (hx0 : p0[i0]? = some x0) (hi0 : i0 < List.length p0) (ho0_0 : List.length v0_1 ≤ i0) (hc0 : (decide ((i0 : Int) < ((List.length p0) : Int))) = true) {r : Rs} (hr : Q6 G (Qg9 p0 (i0 + 1) (v0_1 ++ [(Q1n ([(Q5 Q2h (Q1f x0.anti)), (Q5 Q9 (Q1f x0.required)), (Q5 Qa (Q31 x0.selector)), (Q5 Qj (Qz x0.topology)), (Q5 Qu (Qi x0.weight))]))])) r) : Q6 G (Qg9 p0 i0 v0_1) r := by
 have hB0 := H.1
 exact Qm (Q12f p0 i0 v0_1) (y := (Qwr p0 (i0 + 1) (v0_1 ++ [(Q1n ([(Q5 Q2h (Q1f x0.anti)), (Q5 Q9 (Q1f x0.required)), (Q5 Qa (Q31 x0.selector)), (Q5 Qj (Qz x0.topology)), (Q5 Qu (Qi x0.weight))]))]), Qma p0 (i0 + 1) (v0_1 ++ [(Q1n ([(Q5 Q2h (Q1f x0.anti)), (Q5 Q9 (Q1f x0.required)), (Q5 Qa (Q31 x0.selector)), (Q5 Qj (Qz x0.topology)), (Q5 Qu (Qi x0.weight))]))]))) [hP 2 (Qf (PodTerm.rows p0) (List.length p0) (PodTerm.Q0 p0)), hB 0 hc0, hP 3 (Q1k 5 (PodTerm.rows p0) i0 _ (PodTerm.Qb hx0) rfl), hP 6 (Q1k 5 (PodTerm.rows p0) i0 _ (PodTerm.Qb hx0) rfl), hP 6 (Q1k 5 (PodTerm.rows p0) i0 _ (PodTerm.Qb hx0) rfl), hP 6 (Q1k 5 (PodTerm.rows p0) i0 _ (PodTerm.Qb hx0) rfl), hP 6 (Q1k 5 (PodTerm.rows p0) i0 _ (PodTerm.Qb hx0) rfl), hV 7 [(2756, Val.rows (v0_1 ++ [(Q1n ([(Q5 Q2h (Q1f x0.anti)), (Q5 Q9 (Q1f x0.required)), (Q5 Qa (Q31 x0.selector)), (Q5 Qj (Qz x0.topology)), (Q5 Qu (Qi x0.weight))]))]))] (Q5e 1 2692 2756 5 80 0 0 true (Val.rows v0_1) (Val.rows (v0_1 ++ [(Q1n ([(Q5 Q2h (Q1f x0.anti)), (Q5 Q9 (Q1f x0.required)), (Q5 Qa (Q31 x0.selector)), (Q5 Qj (Qz x0.topology)), (Q5 Qu (Qi x0.weight))]))])) (Val.cells (Q1n ([(Q5 Q2h (Q1f x0.anti)), (Q5 Q9 (Q1f x0.required)), (Q5 Qa (Q31 x0.selector)), (Q5 Qj (Qz x0.topology)), (Q5 Qu (Qi x0.weight))]))) (List.length v0_1) (List.length (v0_1 ++ [(Q1n ([(Q5 Q2h (Q1f x0.anti)), (Q5 Q9 (Q1f x0.required)), (Q5 Qa (Q31 x0.selector)), (Q5 Qj (Qz x0.topology)), (Q5 Qu (Qi x0.weight))]))])) rfl (Val.Q0 v0_1).symm (Val.Q0 (v0_1 ++ [(Q1n ([(Q5 Q2h (Q1f x0.anti)), (Q5 Q9 (Q1f x0.required)), (Q5 Qa (Q31 x0.selector)), (Q5 Qj (Qz x0.topology)), (Q5 Qu (Qi x0.weight))]))])).symm (Val.Q15 v0_1 (Q1n ([(Q5 Q2h (Q1f x0.anti)), (Q5 Q9 (Q1f x0.required)), (Q5 Qa (Q31 x0.selector)), (Q5 Qj (Qz x0.topology)), (Q5 Qu (Qi x0.weight))]))) (Val.Qd v0_1) rfl (by omega)), hS 0 true (Val.Q7 (v0_1 ++ [(Q1n ([(Q5 Q2h (Q1f x0.anti)), (Q5 Q9 (Q1f x0.required)), (Q5 Qa (Q31 x0.selector)), (Q5 Qj (Qz x0.topology)), (Q5 Qu (Qi x0.weight))]))]) 5 rfl), hP 2 (Q29 i0 (by omega))] [aN (Qvp x0.anti), aN (Q2v Q2h (Q1f x0.anti)), aN (Qvp x0.required), aN (Q2v Q9 (Q1f x0.required)), aN (Q1c9 x0.selector (H.2.1 x0 (Q2e hx0))), aN (Q2v Qa (Q31 x0.selector)), aN (Qel x0.topology), aN (Q2v Qj (Qz x0.topology)), aN (Q60 x0.weight), aN (Q2v Qu (Qi x0.weight)), aN (Q6r (e' := .call 70 [.sl [(Fld.cells (Q5 Q2h (Q1f x0.anti))), (Fld.cells (Q5 Q9 (Q1f x0.required))), (Fld.cells (Q5 Qa (Q31 x0.selector))), (Fld.cells (Q5 Qj (Qz x0.topology))), (Fld.cells (Q5 Qu (Qi x0.weight)))]] []) (Qk3 ([(Q5 Q2h (Q1f x0.anti)), (Q5 Q9 (Q1f x0.required)), (Q5 Qa (Q31 x0.selector)), (Q5 Qj (Qz x0.topology)), (Q5 Qu (Qi x0.weight))])) (by simp only [Qem, Fld.Q2p, Fld.Q3b]))] (by kernel_rfl) hr
theorem Qve (p0 : List PodTerm) (H : Qg5 p0) : ∀ (r0 : List PodTerm) (i0 : Nat) (v0_1 : List Val), List.drop i0 p0 = r0 → List.length v0_1 ≤ i0 → Qh1 p0 (Qg9 p0 i0 v0_1) (Q52 p0 r0 i0 v0_1)
 | [], i0, v0_1, hd, ho0_0 => by
  have hc0 : (decide ((i0 : Int) < ((List.length p0) : Int))) = false := by have := Q1g hd; simp; omega
  rw [Q52]
  exact Q14w p0 H i0 v0_1 ho0_0 hc0
 | x0 :: r0, i0, v0_1, hd, ho0_0 => by
  obtain ⟨hx0, hi0, hd'⟩ := Q12 hd
  have hc0 : (decide ((i0 : Int) < ((List.length p0) : Int))) = true := by simp; omega
  rw [Q52]
  exact Qsp p0 (fun r hr => Q15s p0 H x0 i0 v0_1 hx0 hi0 ho0_0 hc0 hr) _ (Qve p0 H r0 (i0 + 1) (v0_1 ++ [(Q1n ([(Q5 Q2h (Q1f x0.anti)), (Q5 Q9 (Q1f x0.required)), (Q5 Qa (Q31 x0.selector)), (Q5 Qj (Qz x0.topology)), (Q5 Qu (Qi x0.weight))]))]) hd' (by first | omega | (simp; omega)))
def Q14g (p0 : List PodTerm) : Val := vL (p0.map PodTerm.enc)
theorem Q1re (p0 : List PodTerm) : Q14g p0 = ((Qhd (Q52 p0 p0 0 []))) := by
  rw [Q10z]
  rfl
def Q1m8 (p0 : List PodTerm) : En := .call 128 [.sl (PodTerm.rows p0)] []
def Q1k1 (p0 : List PodTerm) : Rs := .ret (.agg (Val.cells (Q14g p0))) []
def Q1fj (p0 : List PodTerm) : Prop := LSm PodTerm.sm p0
theorem Q1dd (p0 : List PodTerm) (H : Q1fj p0) : (Qg5 p0) ∧ True := by
  exact ⟨⟨Nat.le_trans H.1 (Nat.le_of_ble_eq_true rfl), fun x hx => (H.2 x hx).1, trivial⟩, trivial⟩
theorem Q1qa (p0 : List PodTerm) (H : Q1fj p0) : Q6 G (Q1m8 p0) (Q1k1 p0) := by
 unfold Q1k1
 rw [Q1re]
 have hl0 := Qve p0 ((Q1dd p0 H).1) p0 0 [] (by simp) (by simp)
 obtain ⟨z0, zo0, hl0⟩ := hl0
 exact Q8 (fn := Ir.K31) rfl VOK.nil [hS 0 true (Val.Q7 (Q52 p0 p0 0 []) 5 rfl), hQ (Val.Q0 (Q52 p0 p0 0 [])).symm] [aV [(1, Val.rows (Q52 p0 p0 0 []))] hl0, aN (Qsd (Q52 p0 p0 0 []))] (by kernel_rfl)
def Q4z (p0 : List SpreadRule) : List SpreadRule → Nat → (List Val) → List Val
 | [], _i0, v0_1 =>
  v0_1
 | x0 :: r0, i0, v0_1 =>
  Q4z p0 r0 (i0 + 1) (v0_1 ++ [(Q1n ([(Q5 Q1b (Qi x0.maxSkew)), (Q5 Q9 (Q1f x0.required)), (Q5 Qa (Q31 x0.selector)), (Q5 Qj (Qz x0.topology))]))])
theorem Q109 (p0 : List SpreadRule) : ∀ (l : List SpreadRule) (i : Nat) (a : List Val), Q4z p0 l i a = a ++ l.map (fun x0 => (Q1n ([(Q5 Q1b (Qi x0.maxSkew)), (Q5 Q9 (Q1f x0.required)), (Q5 Qa (Q31 x0.selector)), (Q5 Qj (Qz x0.topology))])))
  | [], _, _ => by simp [Q4z]
  | x :: r, i, a => by rw [Q4z, Q109 p0 r]; simp
def Quq (p0 : List SpreadRule) (i0 : Nat) (v0_1 : List Val) : List PV :=
  [.sl (SpreadRule.rows p0), .un, .bx 0 0, .ms 1 5 0 (List.length v0_1), .int .i64 (i0 : Int)] ++ nuns 41
def Qmn (_p0 : List SpreadRule) (_i0 : Nat) (v0_1 : List Val) : List Ob :=
  [⟨5, 0, true, [.int .i64 0, .int .i64 0, .str eB, .ms 2 5 0 0, .ms 3 6 0 0]⟩, ⟨5, 0, true, (Val.rows v0_1).flatten⟩, ⟨5, 0, true, []⟩, ⟨6, 0, true, []⟩]
def Qfm (p0 : List SpreadRule) (i0 : Nat) (v0_1 : List Val) : En := .loop 0 Ir.Qlp Ir.Q1eb (Quq p0 i0 v0_1) (Qmn p0 i0 v0_1)
def Qp0 (_p0 : List SpreadRule) (q0 : List Val) (z : Nat → PV) (_zo : Nat → List PV) : St :=
  ⟨[z 0, z 1, .bx 0 0, .ms 1 5 0 (List.length q0)] ++ zr z 4 42, [(0, ⟨5, 0, true, [.int .i64 0, .int .i64 0, .str eB, .ms 2 5 0 0, .ms 3 6 0 0]⟩), (1, ⟨5, 0, true, (Val.rows q0).flatten⟩), (2, ⟨5, 0, true, []⟩), (3, ⟨6, 0, true, []⟩)], 260⟩
theorem Q11n (p0 : List SpreadRule) (i0 : Nat) (v0_1 : List Val) : VOK (Go.Pv.look (number 0 (Qmn p0 i0 v0_1))) [(1, Val.rows v0_1)] := (VOK.cons (show Seen _ _ from Q3q (ob := ⟨5, 0, true, (Val.rows v0_1).flatten⟩) (Val.Q7 v0_1 5 rfl)) VOK.nil)
def Qh7 (p0 : List SpreadRule) (e : En) (q : List Val) : Prop := ∃ z zo, Q6 G e (.st (.exit 0) (Qp0 p0 q z zo))
theorem Qru (p0 : List SpreadRule) {e e' : En} (h : ∀ r, Q6 G e r → Q6 G e' r) : ∀ q, Qh7 p0 e q → Qh7 p0 e' q
  | _, ⟨z, zo, hz⟩ => ⟨z, zo, h _ hz⟩
def Qfo (p0 : List SpreadRule) : Prop := (List.length p0 ≤ 137438953472) ∧ (∀ x0 ∈ p0, Q17x x0.selector) ∧ True
def Qp1 (p0 : List SpreadRule) (i0 : Nat) (_v0_1 : List Val) : List PV :=
  [.sl (SpreadRule.rows p0), .un, .un, .un, .int .i64 (i0 : Int), .int .i64 (i0 : Int), .sl (SpreadRule.rows p0), .int .i64 ((List.length p0) : Int), .bool false]
def Qj6 (_p0 : List SpreadRule) (_i0 : Nat) (_v0_1 : List Val) : List (Nat × List PV) :=
  []
theorem Q16h (p0 : List SpreadRule) (_H : Qfo p0) (i0 : Nat) (v0_1 : List Val) (_ho0_0 : List.length v0_1 ≤ i0) (hc0 : (decide ((i0 : Int) < ((List.length p0) : Int))) = false) : Qh7 p0 (Qfm p0 i0 v0_1) v0_1 := by
 exact ⟨(envF (Qp1 p0 i0 v0_1)), (zoF (Qj6 p0 i0 v0_1)), Qh (Q11n p0 i0 v0_1) (x := ((.exit 0), Qp0 p0 v0_1 (envF (Qp1 p0 i0 v0_1)) (zoF (Qj6 p0 i0 v0_1)))) [hP 2 (Qf (SpreadRule.rows p0) (List.length p0) (SpreadRule.Q0 p0)), hB 0 hc0] [] (by kernel_rfl)⟩
theorem Q13t (p0 : List SpreadRule) (H : Qfo p0) (x0 : SpreadRule) (i0 : Nat) (v0_1 : List Val) (hx0 : p0[i0]? = some x0) (hi0 : i0 < List.length p0) (ho0_0 : List.length v0_1 ≤ i0) (hc0 : (decide ((i0 : Int) < ((List.length p0) : Int))) = true) {r : Rs} (hr : Q6 G (Qfm p0 (i0 + 1) (v0_1 ++ [(Q1n ([(Q5 Q1b (Qi x0.maxSkew)), (Q5 Q9 (Q1f x0.required)), (Q5 Qa (Q31 x0.selector)), (Q5 Qj (Qz x0.topology))]))])) r) : Q6 G (Qfm p0 i0 v0_1) r := by
 have hB0 := H.1
 exact Qm (Q11n p0 i0 v0_1) (y := (Quq p0 (i0 + 1) (v0_1 ++ [(Q1n ([(Q5 Q1b (Qi x0.maxSkew)), (Q5 Q9 (Q1f x0.required)), (Q5 Qa (Q31 x0.selector)), (Q5 Qj (Qz x0.topology))]))]), Qmn p0 (i0 + 1) (v0_1 ++ [(Q1n ([(Q5 Q1b (Qi x0.maxSkew)), (Q5 Q9 (Q1f x0.required)), (Q5 Qa (Q31 x0.selector)), (Q5 Qj (Qz x0.topology))]))]))) [hP 2 (Qf (SpreadRule.rows p0) (List.length p0) (SpreadRule.Q0 p0)), hB 0 hc0, hP 3 (Q1k 4 (SpreadRule.rows p0) i0 _ (SpreadRule.Qb hx0) rfl), hP 6 (Q1k 4 (SpreadRule.rows p0) i0 _ (SpreadRule.Qb hx0) rfl), hP 6 (Q1k 4 (SpreadRule.rows p0) i0 _ (SpreadRule.Qb hx0) rfl), hP 6 (Q1k 4 (SpreadRule.rows p0) i0 _ (SpreadRule.Qb hx0) rfl), hV 7 [(2308, Val.rows (v0_1 ++ [(Q1n ([(Q5 Q1b (Qi x0.maxSkew)), (Q5 Q9 (Q1f x0.required)), (Q5 Qa (Q31 x0.selector)), (Q5 Qj (Qz x0.topology))]))]))] (Q5e 1 2244 2308 5 80 0 0 true (Val.rows v0_1) (Val.rows (v0_1 ++ [(Q1n ([(Q5 Q1b (Qi x0.maxSkew)), (Q5 Q9 (Q1f x0.required)), (Q5 Qa (Q31 x0.selector)), (Q5 Qj (Qz x0.topology))]))])) (Val.cells (Q1n ([(Q5 Q1b (Qi x0.maxSkew)), (Q5 Q9 (Q1f x0.required)), (Q5 Qa (Q31 x0.selector)), (Q5 Qj (Qz x0.topology))]))) (List.length v0_1) (List.length (v0_1 ++ [(Q1n ([(Q5 Q1b (Qi x0.maxSkew)), (Q5 Q9 (Q1f x0.required)), (Q5 Qa (Q31 x0.selector)), (Q5 Qj (Qz x0.topology))]))])) rfl (Val.Q0 v0_1).symm (Val.Q0 (v0_1 ++ [(Q1n ([(Q5 Q1b (Qi x0.maxSkew)), (Q5 Q9 (Q1f x0.required)), (Q5 Qa (Q31 x0.selector)), (Q5 Qj (Qz x0.topology))]))])).symm (Val.Q15 v0_1 (Q1n ([(Q5 Q1b (Qi x0.maxSkew)), (Q5 Q9 (Q1f x0.required)), (Q5 Qa (Q31 x0.selector)), (Q5 Qj (Qz x0.topology))]))) (Val.Qd v0_1) rfl (by omega)), hS 0 true (Val.Q7 (v0_1 ++ [(Q1n ([(Q5 Q1b (Qi x0.maxSkew)), (Q5 Q9 (Q1f x0.required)), (Q5 Qa (Q31 x0.selector)), (Q5 Qj (Qz x0.topology))]))]) 5 rfl), hP 2 (Q29 i0 (by omega))] [aN (Q60 x0.maxSkew), aN (Q2v Q1b (Qi x0.maxSkew)), aN (Qvp x0.required), aN (Q2v Q9 (Q1f x0.required)), aN (Q1c9 x0.selector (H.2.1 x0 (Q2e hx0))), aN (Q2v Qa (Q31 x0.selector)), aN (Qel x0.topology), aN (Q2v Qj (Qz x0.topology)), aN (Q6r (e' := .call 70 [.sl [(Fld.cells (Q5 Q1b (Qi x0.maxSkew))), (Fld.cells (Q5 Q9 (Q1f x0.required))), (Fld.cells (Q5 Qa (Q31 x0.selector))), (Fld.cells (Q5 Qj (Qz x0.topology)))]] []) (Qk3 ([(Q5 Q1b (Qi x0.maxSkew)), (Q5 Q9 (Q1f x0.required)), (Q5 Qa (Q31 x0.selector)), (Q5 Qj (Qz x0.topology))])) (by simp only [Qem, Fld.Q2p, Fld.Q3b]))] (by kernel_rfl) hr
theorem Qxu (p0 : List SpreadRule) (H : Qfo p0) : ∀ (r0 : List SpreadRule) (i0 : Nat) (v0_1 : List Val), List.drop i0 p0 = r0 → List.length v0_1 ≤ i0 → Qh7 p0 (Qfm p0 i0 v0_1) (Q4z p0 r0 i0 v0_1)
 | [], i0, v0_1, hd, ho0_0 => by
  have hc0 : (decide ((i0 : Int) < ((List.length p0) : Int))) = false := by have := Q1g hd; simp; omega
  rw [Q4z]
  exact Q16h p0 H i0 v0_1 ho0_0 hc0
 | x0 :: r0, i0, v0_1, hd, ho0_0 => by
  obtain ⟨hx0, hi0, hd'⟩ := Q12 hd
  have hc0 : (decide ((i0 : Int) < ((List.length p0) : Int))) = true := by simp; omega
  rw [Q4z]
  exact Qru p0 (fun r hr => Q13t p0 H x0 i0 v0_1 hx0 hi0 ho0_0 hc0 hr) _ (Qxu p0 H r0 (i0 + 1) (v0_1 ++ [(Q1n ([(Q5 Q1b (Qi x0.maxSkew)), (Q5 Q9 (Q1f x0.required)), (Q5 Qa (Q31 x0.selector)), (Q5 Qj (Qz x0.topology))]))]) hd' (by first | omega | (simp; omega)))
def Q15h (p0 : List SpreadRule) : Val := vL (p0.map SpreadRule.enc)
theorem Q1n2 (p0 : List SpreadRule) : Q15h p0 = ((Qhd (Q4z p0 p0 0 []))) := by
  rw [Q109]
  rfl
def Q1oz (p0 : List SpreadRule) : En := .call 129 [.sl (SpreadRule.rows p0)] []
def Q1jd (p0 : List SpreadRule) : Rs := .ret (.agg (Val.cells (Q15h p0))) []
def Q1fk (p0 : List SpreadRule) : Prop := LSm SpreadRule.sm p0
theorem Q1cb (p0 : List SpreadRule) (H : Q1fk p0) : (Qfo p0) ∧ True := by
  exact ⟨⟨Nat.le_trans H.1 (Nat.le_of_ble_eq_true rfl), fun x hx => (H.2 x hx).1, trivial⟩, trivial⟩
theorem Q1lt (p0 : List SpreadRule) (H : Q1fk p0) : Q6 G (Q1oz p0) (Q1jd p0) := by
 unfold Q1jd
 rw [Q1n2]
 have hl0 := Qxu p0 ((Q1cb p0 H).1) p0 0 [] (by simp) (by simp)
 obtain ⟨z0, zo0, hl0⟩ := hl0
 exact Q8 (fn := Ir.K34) rfl VOK.nil [hS 0 true (Val.Q7 (Q4z p0 p0 0 []) 5 rfl), hQ (Val.Q0 (Q4z p0 p0 0 [])).symm] [aV [(1, Val.rows (Q4z p0 p0 0 []))] hl0, aN (Qsd (Q4z p0 p0 0 []))] (by kernel_rfl)
def Q4o (p0 : List Toleration) : List Toleration → Nat → (List Val) → List Val
 | [], _i0, v0_1 =>
  v0_1
 | x0 :: r0, i0, v0_1 =>
  Q4o p0 r0 (i0 + 1) (v0_1 ++ [(Q1n ([(Q5 Q1m (Qi x0.effect)), (Q5 Q1v (Q1f x0.exists_)), (Q5 Q1d (Qz x0.key)), (Q5 Q1s (Qi x0.seconds)), (Q5 Q1i (Qz x0.value))]))])
theorem Q11z (p0 : List Toleration) : ∀ (l : List Toleration) (i : Nat) (a : List Val), Q4o p0 l i a = a ++ l.map (fun x0 => (Q1n ([(Q5 Q1m (Qi x0.effect)), (Q5 Q1v (Q1f x0.exists_)), (Q5 Q1d (Qz x0.key)), (Q5 Q1s (Qi x0.seconds)), (Q5 Q1i (Qz x0.value))])))
  | [], _, _ => by simp [Q4o]
  | x :: r, i, a => by rw [Q4o, Q11z p0 r]; simp
def Qvn (p0 : List Toleration) (i0 : Nat) (v0_1 : List Val) : List PV :=
  [.sl (Toleration.rows p0), .un, .bx 0 0, .ms 1 5 0 (List.length v0_1), .int .i64 (i0 : Int)] ++ nuns 48
def Qll (_p0 : List Toleration) (_i0 : Nat) (v0_1 : List Val) : List Ob :=
  [⟨5, 0, true, [.int .i64 0, .int .i64 0, .str eB, .ms 2 5 0 0, .ms 3 6 0 0]⟩, ⟨5, 0, true, (Val.rows v0_1).flatten⟩, ⟨5, 0, true, []⟩, ⟨6, 0, true, []⟩]
def Qh6 (p0 : List Toleration) (i0 : Nat) (v0_1 : List Val) : En := .loop 0 Ir.Qlx Ir.Q1ec (Qvn p0 i0 v0_1) (Qll p0 i0 v0_1)
def Qr1 (_p0 : List Toleration) (q0 : List Val) (z : Nat → PV) (_zo : Nat → List PV) : St :=
  ⟨[z 0, z 1, .bx 0 0, .ms 1 5 0 (List.length q0)] ++ zr z 4 49, [(0, ⟨5, 0, true, [.int .i64 0, .int .i64 0, .str eB, .ms 2 5 0 0, .ms 3 6 0 0]⟩), (1, ⟨5, 0, true, (Val.rows q0).flatten⟩), (2, ⟨5, 0, true, []⟩), (3, ⟨6, 0, true, []⟩)], 260⟩
theorem Q11d (p0 : List Toleration) (i0 : Nat) (v0_1 : List Val) : VOK (Go.Pv.look (number 0 (Qll p0 i0 v0_1))) [(1, Val.rows v0_1)] := (VOK.cons (show Seen _ _ from Q3q (ob := ⟨5, 0, true, (Val.rows v0_1).flatten⟩) (Val.Q7 v0_1 5 rfl)) VOK.nil)
def Qgx (p0 : List Toleration) (e : En) (q : List Val) : Prop := ∃ z zo, Q6 G e (.st (.exit 0) (Qr1 p0 q z zo))
theorem Qsu (p0 : List Toleration) {e e' : En} (h : ∀ r, Q6 G e r → Q6 G e' r) : ∀ q, Qgx p0 e q → Qgx p0 e' q
  | _, ⟨z, zo, hz⟩ => ⟨z, zo, h _ hz⟩
def Qgl (p0 : List Toleration) : Prop := (List.length p0 ≤ 137438953472) ∧ True
def Qrh (p0 : List Toleration) (i0 : Nat) (_v0_1 : List Val) : List PV :=
  [.sl (Toleration.rows p0), .un, .un, .un, .int .i64 (i0 : Int), .int .i64 (i0 : Int), .sl (Toleration.rows p0), .int .i64 ((List.length p0) : Int), .bool false]
def Qkd (_p0 : List Toleration) (_i0 : Nat) (_v0_1 : List Val) : List (Nat × List PV) :=
  []
theorem Q184 (p0 : List Toleration) (_H : Qgl p0) (i0 : Nat) (v0_1 : List Val) (_ho0_0 : List.length v0_1 ≤ i0) (hc0 : (decide ((i0 : Int) < ((List.length p0) : Int))) = false) : Qgx p0 (Qh6 p0 i0 v0_1) v0_1 := by
 exact ⟨(envF (Qrh p0 i0 v0_1)), (zoF (Qkd p0 i0 v0_1)), Qh (Q11d p0 i0 v0_1) (x := ((.exit 0), Qr1 p0 v0_1 (envF (Qrh p0 i0 v0_1)) (zoF (Qkd p0 i0 v0_1)))) [hP 2 (Qf (Toleration.rows p0) (List.length p0) (Toleration.Q0 p0)), hB 0 hc0] [] (by kernel_rfl)⟩
theorem Q13z (p0 : List Toleration) (H : Qgl p0) (x0 : Toleration) (i0 : Nat) (v0_1 : List Val) (hx0 : p0[i0]? = some x0) (hi0 : i0 < List.length p0) (ho0_0 : List.length v0_1 ≤ i0) (hc0 : (decide ((i0 : Int) < ((List.length p0) : Int))) = true) {r : Rs} (hr : Q6 G (Qh6 p0 (i0 + 1) (v0_1 ++ [(Q1n ([(Q5 Q1m (Qi x0.effect)), (Q5 Q1v (Q1f x0.exists_)), (Q5 Q1d (Qz x0.key)), (Q5 Q1s (Qi x0.seconds)), (Q5 Q1i (Qz x0.value))]))])) r) : Q6 G (Qh6 p0 i0 v0_1) r := by
 have hB0 := H.1
 exact Qm (Q11d p0 i0 v0_1) (y := (Qvn p0 (i0 + 1) (v0_1 ++ [(Q1n ([(Q5 Q1m (Qi x0.effect)), (Q5 Q1v (Q1f x0.exists_)), (Q5 Q1d (Qz x0.key)), (Q5 Q1s (Qi x0.seconds)), (Q5 Q1i (Qz x0.value))]))]), Qll p0 (i0 + 1) (v0_1 ++ [(Q1n ([(Q5 Q1m (Qi x0.effect)), (Q5 Q1v (Q1f x0.exists_)), (Q5 Q1d (Qz x0.key)), (Q5 Q1s (Qi x0.seconds)), (Q5 Q1i (Qz x0.value))]))]))) [hP 2 (Qf (Toleration.rows p0) (List.length p0) (Toleration.Q0 p0)), hB 0 hc0, hP 3 (Q1k 5 (Toleration.rows p0) i0 _ (Toleration.Qb hx0) rfl), hP 6 (Q1k 5 (Toleration.rows p0) i0 _ (Toleration.Qb hx0) rfl), hP 6 (Q1k 5 (Toleration.rows p0) i0 _ (Toleration.Qb hx0) rfl), hP 6 (Q1k 5 (Toleration.rows p0) i0 _ (Toleration.Qb hx0) rfl), hP 6 (Q1k 5 (Toleration.rows p0) i0 _ (Toleration.Qb hx0) rfl), hV 7 [(2756, Val.rows (v0_1 ++ [(Q1n ([(Q5 Q1m (Qi x0.effect)), (Q5 Q1v (Q1f x0.exists_)), (Q5 Q1d (Qz x0.key)), (Q5 Q1s (Qi x0.seconds)), (Q5 Q1i (Qz x0.value))]))]))] (Q5e 1 2692 2756 5 80 0 0 true (Val.rows v0_1) (Val.rows (v0_1 ++ [(Q1n ([(Q5 Q1m (Qi x0.effect)), (Q5 Q1v (Q1f x0.exists_)), (Q5 Q1d (Qz x0.key)), (Q5 Q1s (Qi x0.seconds)), (Q5 Q1i (Qz x0.value))]))])) (Val.cells (Q1n ([(Q5 Q1m (Qi x0.effect)), (Q5 Q1v (Q1f x0.exists_)), (Q5 Q1d (Qz x0.key)), (Q5 Q1s (Qi x0.seconds)), (Q5 Q1i (Qz x0.value))]))) (List.length v0_1) (List.length (v0_1 ++ [(Q1n ([(Q5 Q1m (Qi x0.effect)), (Q5 Q1v (Q1f x0.exists_)), (Q5 Q1d (Qz x0.key)), (Q5 Q1s (Qi x0.seconds)), (Q5 Q1i (Qz x0.value))]))])) rfl (Val.Q0 v0_1).symm (Val.Q0 (v0_1 ++ [(Q1n ([(Q5 Q1m (Qi x0.effect)), (Q5 Q1v (Q1f x0.exists_)), (Q5 Q1d (Qz x0.key)), (Q5 Q1s (Qi x0.seconds)), (Q5 Q1i (Qz x0.value))]))])).symm (Val.Q15 v0_1 (Q1n ([(Q5 Q1m (Qi x0.effect)), (Q5 Q1v (Q1f x0.exists_)), (Q5 Q1d (Qz x0.key)), (Q5 Q1s (Qi x0.seconds)), (Q5 Q1i (Qz x0.value))]))) (Val.Qd v0_1) rfl (by omega)), hS 0 true (Val.Q7 (v0_1 ++ [(Q1n ([(Q5 Q1m (Qi x0.effect)), (Q5 Q1v (Q1f x0.exists_)), (Q5 Q1d (Qz x0.key)), (Q5 Q1s (Qi x0.seconds)), (Q5 Q1i (Qz x0.value))]))]) 5 rfl), hP 2 (Q29 i0 (by omega))] [aN (Q60 x0.effect), aN (Q2v Q1m (Qi x0.effect)), aN (Qvp x0.exists_), aN (Q2v Q1v (Q1f x0.exists_)), aN (Qel x0.key), aN (Q2v Q1d (Qz x0.key)), aN (Q60 x0.seconds), aN (Q2v Q1s (Qi x0.seconds)), aN (Qel x0.value), aN (Q2v Q1i (Qz x0.value)), aN (Q6r (e' := .call 70 [.sl [(Fld.cells (Q5 Q1m (Qi x0.effect))), (Fld.cells (Q5 Q1v (Q1f x0.exists_))), (Fld.cells (Q5 Q1d (Qz x0.key))), (Fld.cells (Q5 Q1s (Qi x0.seconds))), (Fld.cells (Q5 Q1i (Qz x0.value)))]] []) (Qk3 ([(Q5 Q1m (Qi x0.effect)), (Q5 Q1v (Q1f x0.exists_)), (Q5 Q1d (Qz x0.key)), (Q5 Q1s (Qi x0.seconds)), (Q5 Q1i (Qz x0.value))])) (by simp only [Qem, Fld.Q2p, Fld.Q3b]))] (by kernel_rfl) hr
theorem Qvi (p0 : List Toleration) (H : Qgl p0) : ∀ (r0 : List Toleration) (i0 : Nat) (v0_1 : List Val), List.drop i0 p0 = r0 → List.length v0_1 ≤ i0 → Qgx p0 (Qh6 p0 i0 v0_1) (Q4o p0 r0 i0 v0_1)
 | [], i0, v0_1, hd, ho0_0 => by
  have hc0 : (decide ((i0 : Int) < ((List.length p0) : Int))) = false := by have := Q1g hd; simp; omega
  rw [Q4o]
  exact Q184 p0 H i0 v0_1 ho0_0 hc0
 | x0 :: r0, i0, v0_1, hd, ho0_0 => by
  obtain ⟨hx0, hi0, hd'⟩ := Q12 hd
  have hc0 : (decide ((i0 : Int) < ((List.length p0) : Int))) = true := by simp; omega
  rw [Q4o]
  exact Qsu p0 (fun r hr => Q13z p0 H x0 i0 v0_1 hx0 hi0 ho0_0 hc0 hr) _ (Qvi p0 H r0 (i0 + 1) (v0_1 ++ [(Q1n ([(Q5 Q1m (Qi x0.effect)), (Q5 Q1v (Q1f x0.exists_)), (Q5 Q1d (Qz x0.key)), (Q5 Q1s (Qi x0.seconds)), (Q5 Q1i (Qz x0.value))]))]) hd' (by first | omega | (simp; omega)))
def Q169 (p0 : List Toleration) : Val := vL (p0.map Toleration.enc)
theorem Q1p8 (p0 : List Toleration) : Q169 p0 = ((Qhd (Q4o p0 p0 0 []))) := by
  rw [Q11z]
  rfl
def Q1n3 (p0 : List Toleration) : En := .call 130 [.sl (Toleration.rows p0)] []
def Q1la (p0 : List Toleration) : Rs := .ret (.agg (Val.cells (Q169 p0))) []
def Q1fl (p0 : List Toleration) : Prop := LSm Toleration.sm p0
theorem Q1dk (p0 : List Toleration) (H : Q1fl p0) : (Qgl p0) ∧ True := by
  exact ⟨⟨Nat.le_trans H.1 (Nat.le_of_ble_eq_true rfl), trivial⟩, trivial⟩
theorem Q1qy (p0 : List Toleration) (H : Q1fl p0) : Q6 G (Q1n3 p0) (Q1la p0) := by
 unfold Q1la
 rw [Q1p8]
 have hl0 := Qvi p0 ((Q1dk p0 H).1) p0 0 [] (by simp) (by simp)
 obtain ⟨z0, zo0, hl0⟩ := hl0
 exact Q8 (fn := Ir.K38) rfl VOK.nil [hS 0 true (Val.Q7 (Q4o p0 p0 0 []) 5 rfl), hQ (Val.Q0 (Q4o p0 p0 0 [])).symm] [aV [(1, Val.rows (Q4o p0 p0 0 []))] hl0, aN (Qsd (Q4o p0 p0 0 []))] (by kernel_rfl)
def Q1fs (p0 : PodSpec) : Val := PodSpec.enc p0
theorem Q1pi (p0 : PodSpec) : Q1fs p0 = ((Q1n ([(Q5 Qc (Q13s p0.containers)), (Q5 Q1p (Qi p0.grace)), (Q5 Q1y (Qz p0.node)), (Q5 Qg (Q31 p0.nodeSelector)), (Q5 Qp (Q14o p0.nodeTerms)), (Q5 Qt (Q14g p0.podTerms)), (Q5 Qs (Qi p0.priority)), (Q5 Qy (Qi p0.restart)), (Q5 Q14 (Q15h p0.spread)), (Q5 Qn (Q169 p0.tolerations))]))) := by
  rfl
def Q1m3 (p0 : PodSpec) : En := .call 59 [.agg (PodSpec.cells p0)] []
def Q1jl (p0 : PodSpec) : Rs := .ret (.agg (Val.cells (Q1fs p0))) []
def Q1ha (p0 : PodSpec) : Prop := PodSpec.sm p0
theorem Q9r (p0 : PodSpec) (H : Q1ha p0) : (Q1gf p0.containers) ∧ (Q17x p0.nodeSelector) ∧ (Q1ge p0.nodeTerms) ∧ (Q1fj p0.podTerms) ∧ (Q1fk p0.spread) ∧ (Q1fl p0.tolerations) ∧ True := by
  repeat' with_reducible apply And.intro
  all_goals first | exact True.intro | exact H | exact H.1 | exact H.2.1 | exact H.2.2.1 | exact H.2.2.2.1 | exact H.2.2.2.2.1 | exact H.2.2.2.2.2.1 | exact H.2.2.2.2.2.2.1 | exact H.2.2.2.2.2.2.2.1 | exact H.2.2.2.2.2.2.2.2.1 | exact H.2.2.2.2.2.2.2.2.2.1 | exact H.2.2.2.2.2.2.2.2.2.2.1
theorem Q1n4 (p0 : PodSpec) (H : Q1ha p0) : Q6 G (Q1m3 p0) (Q1jl p0) := by
 unfold Q1jl
 rw [Q1pi]
 exact Q8 (fn := Ir.K2d) rfl VOK.nil [] [aN (Q1qj p0.containers (Q9r p0 H).1), aN (Q2v Qc (Q13s p0.containers)), aN (Q60 p0.grace), aN (Q2v Q1p (Qi p0.grace)), aN (Qel p0.node), aN (Q2v Q1y (Qz p0.node)), aN (Q1c9 p0.nodeSelector (Q9r p0 H).2.1), aN (Q2v Qg (Q31 p0.nodeSelector)), aN (Q1o3 p0.nodeTerms (Q9r p0 H).2.2.1), aN (Q2v Qp (Q14o p0.nodeTerms)), aN (Q1qa p0.podTerms (Q9r p0 H).2.2.2.1), aN (Q2v Qt (Q14g p0.podTerms)), aN (Q60 p0.priority), aN (Q2v Qs (Qi p0.priority)), aN (Q60 p0.restart), aN (Q2v Qy (Qi p0.restart)), aN (Q1lt p0.spread (Q9r p0 H).2.2.2.2.1), aN (Q2v Q14 (Q15h p0.spread)), aN (Q1qy p0.tolerations (Q9r p0 H).2.2.2.2.2.1), aN (Q2v Qn (Q169 p0.tolerations)), aN (Q6r (e' := .call 70 [.sl [(Fld.cells (Q5 Qc (Q13s p0.containers))), (Fld.cells (Q5 Q1p (Qi p0.grace))), (Fld.cells (Q5 Q1y (Qz p0.node))), (Fld.cells (Q5 Qg (Q31 p0.nodeSelector))), (Fld.cells (Q5 Qp (Q14o p0.nodeTerms))), (Fld.cells (Q5 Qt (Q14g p0.podTerms))), (Fld.cells (Q5 Qs (Qi p0.priority))), (Fld.cells (Q5 Qy (Qi p0.restart))), (Fld.cells (Q5 Q14 (Q15h p0.spread))), (Fld.cells (Q5 Qn (Q169 p0.tolerations)))]] []) (Qk3 ([(Q5 Qc (Q13s p0.containers)), (Q5 Q1p (Qi p0.grace)), (Q5 Q1y (Qz p0.node)), (Q5 Qg (Q31 p0.nodeSelector)), (Q5 Qp (Q14o p0.nodeTerms)), (Q5 Qt (Q14g p0.podTerms)), (Q5 Qs (Qi p0.priority)), (Q5 Qy (Qi p0.restart)), (Q5 Q14 (Q15h p0.spread)), (Q5 Qn (Q169 p0.tolerations))])) (by simp only [Qem, Fld.Q2p, Fld.Q3b]))] (by kernel_rfl)
def Q4s (p0 : List ContainerStatus) : List ContainerStatus → Nat → (List Val) → List Val
 | [], _i0, v0_1 =>
  v0_1
 | x0 :: r0, i0, v0_1 =>
  Q4s p0 r0 (i0 + 1) (v0_1 ++ [(Q1n ([(Q5 Q11 (Qi x0.exitCode)), (Q5 Qv (Qz x0.name)), (Q5 Qq (Q1f x0.ready)), (Q5 Q10 (Qi x0.restarts)), (Q5 Q20 (Qi x0.since)), (Q5 Qw (Q1f x0.started)), (Q5 Q1x (Qi x0.state))]))])
theorem Q11o (p0 : List ContainerStatus) : ∀ (l : List ContainerStatus) (i : Nat) (a : List Val), Q4s p0 l i a = a ++ l.map (fun x0 => (Q1n ([(Q5 Q11 (Qi x0.exitCode)), (Q5 Qv (Qz x0.name)), (Q5 Qq (Q1f x0.ready)), (Q5 Q10 (Qi x0.restarts)), (Q5 Q20 (Qi x0.since)), (Q5 Qw (Q1f x0.started)), (Q5 Q1x (Qi x0.state))])))
  | [], _, _ => by simp [Q4s]
  | x :: r, i, a => by rw [Q4s, Q11o p0 r]; simp
def Qyt (p0 : List ContainerStatus) (i0 : Nat) (v0_1 : List Val) : List PV :=
  [.sl (ContainerStatus.rows p0), .un, .bx 0 0, .ms 1 5 0 (List.length v0_1), .int .i64 (i0 : Int)] ++ nuns 46
def Qid (_p0 : List ContainerStatus) (_i0 : Nat) (v0_1 : List Val) : List Ob :=
  [⟨5, 0, true, [.int .i64 0, .int .i64 0, .str eB, .ms 2 5 0 0, .ms 3 6 0 0]⟩, ⟨5, 0, true, (Val.rows v0_1).flatten⟩, ⟨5, 0, true, []⟩, ⟨6, 0, true, []⟩]
def Qgw (p0 : List ContainerStatus) (i0 : Nat) (v0_1 : List Val) : En := .loop 0 Ir.Qlc Ir.Q1fd (Qyt p0 i0 v0_1) (Qid p0 i0 v0_1)
def Qr6 (_p0 : List ContainerStatus) (q0 : List Val) (z : Nat → PV) (_zo : Nat → List PV) : St :=
  ⟨[z 0, z 1, .bx 0 0, .ms 1 5 0 (List.length q0)] ++ zr z 4 47, [(0, ⟨5, 0, true, [.int .i64 0, .int .i64 0, .str eB, .ms 2 5 0 0, .ms 3 6 0 0]⟩), (1, ⟨5, 0, true, (Val.rows q0).flatten⟩), (2, ⟨5, 0, true, []⟩), (3, ⟨6, 0, true, []⟩)], 260⟩
theorem Q10s (p0 : List ContainerStatus) (i0 : Nat) (v0_1 : List Val) : VOK (Go.Pv.look (number 0 (Qid p0 i0 v0_1))) [(1, Val.rows v0_1)] := (VOK.cons (show Seen _ _ from Q3q (ob := ⟨5, 0, true, (Val.rows v0_1).flatten⟩) (Val.Q7 v0_1 5 rfl)) VOK.nil)
def Qgc (p0 : List ContainerStatus) (e : En) (q : List Val) : Prop := ∃ z zo, Q6 G e (.st (.exit 0) (Qr6 p0 q z zo))
theorem Qtn (p0 : List ContainerStatus) {e e' : En} (h : ∀ r, Q6 G e r → Q6 G e' r) : ∀ q, Qgc p0 e q → Qgc p0 e' q
  | _, ⟨z, zo, hz⟩ => ⟨z, zo, h _ hz⟩
def Qgj (p0 : List ContainerStatus) : Prop := (List.length p0 ≤ 137438953472) ∧ True
def Qpy (p0 : List ContainerStatus) (i0 : Nat) (_v0_1 : List Val) : List PV :=
  [.sl (ContainerStatus.rows p0), .un, .un, .un, .int .i64 (i0 : Int), .un, .int .i64 (i0 : Int), .sl (ContainerStatus.rows p0), .int .i64 ((List.length p0) : Int), .bool false]
def Qio (_p0 : List ContainerStatus) (_i0 : Nat) (_v0_1 : List Val) : List (Nat × List PV) :=
  []
theorem Q14s (p0 : List ContainerStatus) (_H : Qgj p0) (i0 : Nat) (v0_1 : List Val) (_ho0_0 : List.length v0_1 ≤ i0) (hc0 : (decide ((i0 : Int) < ((List.length p0) : Int))) = false) : Qgc p0 (Qgw p0 i0 v0_1) v0_1 := by
 exact ⟨(envF (Qpy p0 i0 v0_1)), (zoF (Qio p0 i0 v0_1)), Qh (Q10s p0 i0 v0_1) (x := ((.exit 0), Qr6 p0 v0_1 (envF (Qpy p0 i0 v0_1)) (zoF (Qio p0 i0 v0_1)))) [hP 2 (Qf (ContainerStatus.rows p0) (List.length p0) (ContainerStatus.Q0 p0)), hB 0 hc0] [] (by kernel_rfl)⟩
theorem Q159 (p0 : List ContainerStatus) (H : Qgj p0) (x0 : ContainerStatus) (i0 : Nat) (v0_1 : List Val) (hx0 : p0[i0]? = some x0) (hi0 : i0 < List.length p0) (ho0_0 : List.length v0_1 ≤ i0) (hc0 : (decide ((i0 : Int) < ((List.length p0) : Int))) = true) {r : Rs} (hr : Q6 G (Qgw p0 (i0 + 1) (v0_1 ++ [(Q1n ([(Q5 Q11 (Qi x0.exitCode)), (Q5 Qv (Qz x0.name)), (Q5 Qq (Q1f x0.ready)), (Q5 Q10 (Qi x0.restarts)), (Q5 Q20 (Qi x0.since)), (Q5 Qw (Q1f x0.started)), (Q5 Q1x (Qi x0.state))]))])) r) : Q6 G (Qgw p0 i0 v0_1) r := by
 have hB0 := H.1
 exact Qm (Q10s p0 i0 v0_1) (y := (Qyt p0 (i0 + 1) (v0_1 ++ [(Q1n ([(Q5 Q11 (Qi x0.exitCode)), (Q5 Qv (Qz x0.name)), (Q5 Qq (Q1f x0.ready)), (Q5 Q10 (Qi x0.restarts)), (Q5 Q20 (Qi x0.since)), (Q5 Qw (Q1f x0.started)), (Q5 Q1x (Qi x0.state))]))]), Qid p0 (i0 + 1) (v0_1 ++ [(Q1n ([(Q5 Q11 (Qi x0.exitCode)), (Q5 Qv (Qz x0.name)), (Q5 Qq (Q1f x0.ready)), (Q5 Q10 (Qi x0.restarts)), (Q5 Q20 (Qi x0.since)), (Q5 Qw (Q1f x0.started)), (Q5 Q1x (Qi x0.state))]))]))) [hP 2 (Qf (ContainerStatus.rows p0) (List.length p0) (ContainerStatus.Q0 p0)), hB 0 hc0, hP 2 (Q1k 7 (ContainerStatus.rows p0) i0 _ (ContainerStatus.Qb hx0) rfl), hV 35 [(2692, Val.rows (v0_1 ++ [(Q1n ([(Q5 Q11 (Qi x0.exitCode)), (Q5 Qv (Qz x0.name)), (Q5 Qq (Q1f x0.ready)), (Q5 Q10 (Qi x0.restarts)), (Q5 Q20 (Qi x0.since)), (Q5 Qw (Q1f x0.started)), (Q5 Q1x (Qi x0.state))]))]))] (Q5e 1 2628 2692 5 80 0 0 true (Val.rows v0_1) (Val.rows (v0_1 ++ [(Q1n ([(Q5 Q11 (Qi x0.exitCode)), (Q5 Qv (Qz x0.name)), (Q5 Qq (Q1f x0.ready)), (Q5 Q10 (Qi x0.restarts)), (Q5 Q20 (Qi x0.since)), (Q5 Qw (Q1f x0.started)), (Q5 Q1x (Qi x0.state))]))])) (Val.cells (Q1n ([(Q5 Q11 (Qi x0.exitCode)), (Q5 Qv (Qz x0.name)), (Q5 Qq (Q1f x0.ready)), (Q5 Q10 (Qi x0.restarts)), (Q5 Q20 (Qi x0.since)), (Q5 Qw (Q1f x0.started)), (Q5 Q1x (Qi x0.state))]))) (List.length v0_1) (List.length (v0_1 ++ [(Q1n ([(Q5 Q11 (Qi x0.exitCode)), (Q5 Qv (Qz x0.name)), (Q5 Qq (Q1f x0.ready)), (Q5 Q10 (Qi x0.restarts)), (Q5 Q20 (Qi x0.since)), (Q5 Qw (Q1f x0.started)), (Q5 Q1x (Qi x0.state))]))])) rfl (Val.Q0 v0_1).symm (Val.Q0 (v0_1 ++ [(Q1n ([(Q5 Q11 (Qi x0.exitCode)), (Q5 Qv (Qz x0.name)), (Q5 Qq (Q1f x0.ready)), (Q5 Q10 (Qi x0.restarts)), (Q5 Q20 (Qi x0.since)), (Q5 Qw (Q1f x0.started)), (Q5 Q1x (Qi x0.state))]))])).symm (Val.Q15 v0_1 (Q1n ([(Q5 Q11 (Qi x0.exitCode)), (Q5 Qv (Qz x0.name)), (Q5 Qq (Q1f x0.ready)), (Q5 Q10 (Qi x0.restarts)), (Q5 Q20 (Qi x0.since)), (Q5 Qw (Q1f x0.started)), (Q5 Q1x (Qi x0.state))]))) (Val.Qd v0_1) rfl (by omega)), hS 0 true (Val.Q7 (v0_1 ++ [(Q1n ([(Q5 Q11 (Qi x0.exitCode)), (Q5 Qv (Qz x0.name)), (Q5 Qq (Q1f x0.ready)), (Q5 Q10 (Qi x0.restarts)), (Q5 Q20 (Qi x0.since)), (Q5 Qw (Q1f x0.started)), (Q5 Q1x (Qi x0.state))]))]) 5 rfl), hP 2 (Q29 i0 (by omega))] [aN (Q60 x0.exitCode), aN (Q2v Q11 (Qi x0.exitCode)), aN (Qel x0.name), aN (Q2v Qv (Qz x0.name)), aN (Qvp x0.ready), aN (Q2v Qq (Q1f x0.ready)), aN (Q60 x0.restarts), aN (Q2v Q10 (Qi x0.restarts)), aN (Q60 x0.since), aN (Q2v Q20 (Qi x0.since)), aN (Qvp x0.started), aN (Q2v Qw (Q1f x0.started)), aN (Q60 x0.state), aN (Q2v Q1x (Qi x0.state)), aN (Q6r (e' := .call 70 [.sl [(Fld.cells (Q5 Q11 (Qi x0.exitCode))), (Fld.cells (Q5 Qv (Qz x0.name))), (Fld.cells (Q5 Qq (Q1f x0.ready))), (Fld.cells (Q5 Q10 (Qi x0.restarts))), (Fld.cells (Q5 Q20 (Qi x0.since))), (Fld.cells (Q5 Qw (Q1f x0.started))), (Fld.cells (Q5 Q1x (Qi x0.state)))]] []) (Qk3 ([(Q5 Q11 (Qi x0.exitCode)), (Q5 Qv (Qz x0.name)), (Q5 Qq (Q1f x0.ready)), (Q5 Q10 (Qi x0.restarts)), (Q5 Q20 (Qi x0.since)), (Q5 Qw (Q1f x0.started)), (Q5 Q1x (Qi x0.state))])) (by simp only [Qem, Fld.Q2p, Fld.Q3b]))] (by kernel_rfl) hr
theorem Qvx (p0 : List ContainerStatus) (H : Qgj p0) : ∀ (r0 : List ContainerStatus) (i0 : Nat) (v0_1 : List Val), List.drop i0 p0 = r0 → List.length v0_1 ≤ i0 → Qgc p0 (Qgw p0 i0 v0_1) (Q4s p0 r0 i0 v0_1)
 | [], i0, v0_1, hd, ho0_0 => by
  have hc0 : (decide ((i0 : Int) < ((List.length p0) : Int))) = false := by have := Q1g hd; simp; omega
  rw [Q4s]
  exact Q14s p0 H i0 v0_1 ho0_0 hc0
 | x0 :: r0, i0, v0_1, hd, ho0_0 => by
  obtain ⟨hx0, hi0, hd'⟩ := Q12 hd
  have hc0 : (decide ((i0 : Int) < ((List.length p0) : Int))) = true := by simp; omega
  rw [Q4s]
  exact Qtn p0 (fun r hr => Q159 p0 H x0 i0 v0_1 hx0 hi0 ho0_0 hc0 hr) _ (Qvx p0 H r0 (i0 + 1) (v0_1 ++ [(Q1n ([(Q5 Q11 (Qi x0.exitCode)), (Q5 Qv (Qz x0.name)), (Q5 Qq (Q1f x0.ready)), (Q5 Q10 (Qi x0.restarts)), (Q5 Q20 (Qi x0.since)), (Q5 Qw (Q1f x0.started)), (Q5 Q1x (Qi x0.state))]))]) hd' (by first | omega | (simp; omega)))
def Q15f (p0 : List ContainerStatus) : Val := vL (p0.map ContainerStatus.enc)
theorem Q1py (p0 : List ContainerStatus) : Q15f p0 = ((Qhd (Q4s p0 p0 0 []))) := by
  rw [Q11o]
  rfl
def Q1pr (p0 : List ContainerStatus) : En := .call 131 [.sl (ContainerStatus.rows p0)] []
def Q1kh (p0 : List ContainerStatus) : Rs := .ret (.agg (Val.cells (Q15f p0))) []
def Q1hx (p0 : List ContainerStatus) : Prop := LSm ContainerStatus.sm p0
theorem Q1c4 (p0 : List ContainerStatus) (H : Q1hx p0) : (Qgj p0) ∧ True := by
  exact ⟨⟨Nat.le_trans H.1 (Nat.le_of_ble_eq_true rfl), trivial⟩, trivial⟩
theorem Q1qe (p0 : List ContainerStatus) (H : Q1hx p0) : Q6 G (Q1pr p0) (Q1kh p0) := by
 unfold Q1kh
 rw [Q1py]
 have hl0 := Qvx p0 ((Q1c4 p0 H).1) p0 0 [] (by simp) (by simp)
 obtain ⟨z0, zo0, hl0⟩ := hl0
 exact Q8 (fn := Ir.K36) rfl VOK.nil [hS 0 true (Val.Q7 (Q4s p0 p0 0 []) 5 rfl), hQ (Val.Q0 (Q4s p0 p0 0 [])).symm] [aV [(1, Val.rows (Q4s p0 p0 0 []))] hl0, aN (Qsd (Q4s p0 p0 0 []))] (by kernel_rfl)
def Q1hm (p0 : PodStatus) : Val := PodStatus.enc p0
theorem Q1qt (p0 : PodStatus) : Q1hm p0 = ((Q1n ([(Q5 Q2b (Qi p0.address)), (Q5 Qc (Q15f p0.containers)), (Q5 Q2l (Qi p0.finished)), (Q5 Q23 (Qz p0.nominated)), (Q5 Q2s (Qi p0.phase)), (Q5 Qq (Q1f p0.ready)), (Q5 Q1t (Qi p0.readySince)), (Q5 Q34 (Qz p0.reason)), (Q5 Qw (Qi p0.started))]))) := by
  rfl
def Q1qv (p0 : PodStatus) : En := .call 60 [.agg (PodStatus.cells p0)] []
def Q1lg (p0 : PodStatus) : Rs := .ret (.agg (Val.cells (Q1hm p0))) []
def Q1g2 (p0 : PodStatus) : Prop := PodStatus.sm p0
theorem Q1do (p0 : PodStatus) (H : Q1g2 p0) : (Q1hx p0.containers) ∧ True := by
  repeat' with_reducible apply And.intro
  all_goals first | exact True.intro | exact H | exact H.1 | exact H.2.1 | exact H.2.2.1 | exact H.2.2.2.1 | exact H.2.2.2.2.1 | exact H.2.2.2.2.2.1 | exact H.2.2.2.2.2.2.1 | exact H.2.2.2.2.2.2.2.1 | exact H.2.2.2.2.2.2.2.2.1 | exact H.2.2.2.2.2.2.2.2.2.1 | exact H.2.2.2.2.2.2.2.2.2.2.1
theorem Q1o9 (p0 : PodStatus) (H : Q1g2 p0) : Q6 G (Q1qv p0) (Q1lg p0) := by
 unfold Q1lg
 rw [Q1qt]
 exact Q8 (fn := Ir.K35) rfl VOK.nil [] [aN (Q60 p0.address), aN (Q2v Q2b (Qi p0.address)), aN (Q1qe p0.containers (Q1do p0 H).1), aN (Q2v Qc (Q15f p0.containers)), aN (Q60 p0.finished), aN (Q2v Q2l (Qi p0.finished)), aN (Qel p0.nominated), aN (Q2v Q23 (Qz p0.nominated)), aN (Q60 p0.phase), aN (Q2v Q2s (Qi p0.phase)), aN (Qvp p0.ready), aN (Q2v Qq (Q1f p0.ready)), aN (Q60 p0.readySince), aN (Q2v Q1t (Qi p0.readySince)), aN (Qel p0.reason), aN (Q2v Q34 (Qz p0.reason)), aN (Q60 p0.started), aN (Q2v Qw (Qi p0.started)), aN (Q6r (e' := .call 70 [.sl [(Fld.cells (Q5 Q2b (Qi p0.address))), (Fld.cells (Q5 Qc (Q15f p0.containers))), (Fld.cells (Q5 Q2l (Qi p0.finished))), (Fld.cells (Q5 Q23 (Qz p0.nominated))), (Fld.cells (Q5 Q2s (Qi p0.phase))), (Fld.cells (Q5 Qq (Q1f p0.ready))), (Fld.cells (Q5 Q1t (Qi p0.readySince))), (Fld.cells (Q5 Q34 (Qz p0.reason))), (Fld.cells (Q5 Qw (Qi p0.started)))]] []) (Qk3 ([(Q5 Q2b (Qi p0.address)), (Q5 Qc (Q15f p0.containers)), (Q5 Q2l (Qi p0.finished)), (Q5 Q23 (Qz p0.nominated)), (Q5 Q2s (Qi p0.phase)), (Q5 Qq (Q1f p0.ready)), (Q5 Q1t (Qi p0.readySince)), (Q5 Q34 (Qz p0.reason)), (Q5 Qw (Qi p0.started))])) (by simp only [Qem, Fld.Q2p, Fld.Q3b]))] (by kernel_rfl)
end Go.Proofs.YtiflaadeikaghaaGreat
end

