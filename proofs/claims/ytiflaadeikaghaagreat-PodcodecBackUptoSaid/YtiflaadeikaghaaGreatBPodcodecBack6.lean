/- Texts of the claim, merged by a program; what the statement does not reach is left out. -/
import Derived.Test.YtiflaadeikaghaaGreatBPodcodecBack5

section
/- What the program's decoders compute (printed by a program). -/
namespace Go.Proofs.YtiflaadeikaghaaGreat
open Go.Pv
structure Decoder where
  failed : Bool
def Decoder.cells (x : Decoder) : List PV :=
  [.bool x.failed]
def Decoder.rows (l : List Decoder) : List (List PV) := l.map Decoder.cells
theorem Decoder.Q5 (l : List Decoder) : (Decoder.rows l).length = l.length := by simp [Decoder.rows]
theorem Decoder.Qc {l : List Decoder} {i : Nat} {x : Decoder} (h : l[i]? = some x) : (Decoder.rows l)[i]? = some (Decoder.cells x) := Go.Pv.Qc h
theorem Decoder.Q14 (l : List Decoder) (x : Decoder) : Decoder.rows (l ++ [x]) = Decoder.rows l ++ [Decoder.cells x] := by simp [Decoder.rows]
theorem Decoder.Q39 (l : List Decoder) (k : Nat) (x : Decoder) : Decoder.rows (l.set k x) = (Decoder.rows l).set k (Decoder.cells x) := by simp [Decoder.rows, List.map_set]
theorem Decoder.Qm (l : List Decoder) : ∀ r ∈ Decoder.rows l, r.length = 1 := Q3a (f := Decoder.cells) (fun _ => rfl) l
theorem Decoder.Q9 (l : List Decoder) (sz : Nat) (h : sz = 1) : ViewOK sz (Decoder.rows l).flatten (Decoder.rows l) := by subst h; exact ⟨rfl, Decoder.Qm l, Q2q (f := Decoder.cells) (fun _ => rfl) l⟩
def ft (o : Decoder) (b : Bool) : Decoder := ⟨o.failed || !b⟩
theorem Qaq (o : Decoder) (a b : Bool) : ft (ft o a) b = ft o (a && b) := by
  unfold ft
  simp only [Bool.not_and, Bool.or_assoc]
theorem Q3o (o : Decoder) (b : Bool) : (ft o b).failed = (o.failed || !b) := rfl
theorem Q3y (o : Decoder) (b : Bool) : Decoder.mk (o.failed || !b) = ft o b := rfl
theorem getL (p1 : Val) (p2 : BA) : (bif (prt p1 p2).kind == 4 then prt p1 p2 else vZ).list = (dL p1 p2).1 := by
  unfold dL xL
  cases ((prt p1 p2).kind == 4) <;> rfl
theorem Q6f (f m x y q : Bool) (h : x = y) : ((f || !(m && x)) || !q) = (f || !(m && (y && q))) := by subst h; cases f <;> cases m <;> cases x <;> cases q <;> rfl
theorem Qfe (x : Val) : ((x.kind == 4) || (x.kind == 0)) = (xL x).2 := by unfold xL; cases (x.kind == 4) <;> rfl
def s_Kw (p1 : Val) (o0 : Decoder) : Val × Decoder := (p1, ft o0 (isM p1))
theorem e_Kw (p1 : Val) (o0 : Decoder) : s_Kw p1 o0 = (bif o0.failed then
    (p1, (Decoder.mk true))
  else
    bif (p1.kind == 5) then
      (p1, (Decoder.mk false))
    else
      (p1, (Decoder.mk (!(p1.kind == 0))))) := by
  obtain ⟨b⟩ := o0
  unfold s_Kw ft isM
  cases b <;> cases (p1.kind == 5) <;> cases (p1.kind == 0) <;> rfl
def c_Kw (p1 : Val) (o0 : Decoder) : En := .call 36 [.bx 0 0, .agg (Val.cells p1)] [⟨1, 0, false, (Decoder.cells o0)⟩]
def r_Kw (_p1 : Val) (_o0 : Decoder) (q0 : Val) (q1 : Decoder) : Rs := .ret (.agg (Val.cells q0)) [⟨1, 0, false, (Decoder.cells q1)⟩]
def a_Kw (p1 : Val) (o0 : Decoder) : Rs := r_Kw p1 o0 (s_Kw p1 o0).1 (s_Kw p1 o0).2
theorem t_Kw (p1 : Val) (o0 : Decoder) : Q7 G (c_Kw p1 o0) (a_Kw p1 o0) := by
 unfold a_Kw
 rw [e_Kw]
 cases h0 : o0.failed with
 | true =>
  exact Q8 (fn := Ir.Kw) rfl (h := [⟨1, 0, false, (Decoder.cells o0)⟩]) (vw := []) VOK.nil [hP 6 (decR o0.failed true [0] h0)] [] (by kernel_rfl)
 | false =>
  cases h1 : (p1.kind == 5) with
  | true =>
   exact Q8 (fn := Ir.Kw) rfl (h := [⟨1, 0, false, (Decoder.cells o0)⟩]) (vw := []) VOK.nil [hP 6 (decR o0.failed false [0] h0), hP 3 (dec (!(p1.kind == 5)) false (by rw [h1]; rfl))] [] (by kernel_rfl)
  | false =>
   exact Q8 (fn := Ir.Kw) rfl (h := [⟨1, 0, false, (Decoder.cells o0)⟩]) (vw := []) VOK.nil [hP 6 (decR o0.failed false [0] h0), hP 3 (dec (!(p1.kind == 5)) true (by rw [h1]; rfl))] [] (by kernel_rfl)
def s_Kj (p1 : Val) (p2 : BA) (p3 : Int) (o0 : Decoder) : Val × Decoder := (bif (prt p1 p2).kind == p3 then prt p1 p2 else vZ, ft o0 (isM p1 && ((prt p1 p2).kind == p3 || (prt p1 p2).kind == 0)))
theorem e_Kj (p1 : Val) (p2 : BA) (p3 : Int) (o0 : Decoder) : s_Kj p1 p2 p3 o0 = (bif (p1.kind == 5) then
    bif ((Qw7 p1 p2).1.kind == p3) then
      ((Qw7 p1 p2).1, o0)
    else
      bif o0.failed then
        ((Val.mk 0 0 eB [] []), (Decoder.mk true))
      else
        ((Val.mk 0 0 eB [] []), (Decoder.mk (!((Qw7 p1 p2).1.kind == 0))))
  else
    bif o0.failed then
      ((Val.mk 0 0 eB [] []), (Decoder.mk true))
    else
      ((Val.mk 0 0 eB [] []), (Decoder.mk (!(p1.kind == 0))))) := by
  obtain ⟨b⟩ := o0
  unfold s_Kj ft
  rw [vprt]
  cases h : (p1.kind == 5) with
  | true =>
    rw [Q1ek h]
    cases b <;> cases ((prt p1 p2).kind == p3) <;> cases ((prt p1 p2).kind == 0) <;> rfl
  | false =>
    rw [Q43 h, Q4m h]
    cases b <;> cases (p1.kind == 0) <;> cases (vZ.kind == p3) <;> rfl
def c_Kj (p1 : Val) (p2 : BA) (p3 : Int) (o0 : Decoder) : En := .call 106 [.bx 0 0, .agg (Val.cells p1), .str p2, .int .i64 p3] [⟨1, 0, false, (Decoder.cells o0)⟩]
def r_Kj (_p1 : Val) (_p2 : BA) (_p3 : Int) (_o0 : Decoder) (q0 : Val) (q1 : Decoder) : Rs := .ret (.agg (Val.cells q0)) [⟨1, 0, false, (Decoder.cells q1)⟩]
def a_Kj (p1 : Val) (p2 : BA) (p3 : Int) (o0 : Decoder) : Rs := r_Kj p1 p2 p3 o0 (s_Kj p1 p2 p3 o0).1 (s_Kj p1 p2 p3 o0).2
def H_Kj (p1 : Val) : Prop := Val.Sm 1000000000 p1
theorem Q12h (p1 : Val) (p2 : BA) (_p3 : Int) (_o0 : Decoder) (H : H_Kj p1) : (Q1mi p1 p2) ∧ True := by
  exact ⟨Q1wx H _, trivial⟩
theorem t_Kj (p1 : Val) (p2 : BA) (p3 : Int) (o0 : Decoder) (H : H_Kj p1) : Q7 G (c_Kj p1 p2 p3 o0) (a_Kj p1 p2 p3 o0) := by
 unfold a_Kj
 rw [e_Kj]
 cases h0 : (p1.kind == 5) with
 | true =>
  cases h1 : ((Qw7 p1 p2).1.kind == p3) with
  | true =>
   exact Q8 (fn := Ir.Kj) rfl (h := [⟨1, 0, false, (Decoder.cells o0)⟩]) (vw := []) VOK.nil [hP 4 (dec (!(p1.kind == 5)) false (by rw [h0]; rfl)), hB 12 h1] [aN (Q1mj p1 p2 (Q12h p1 p2 p3 o0 H).1)] (by kernel_rfl)
  | false =>
   cases h2 : o0.failed with
   | true =>
    exact Q8 (fn := Ir.Kj) rfl (h := [⟨1, 0, false, (Decoder.cells o0)⟩]) (vw := []) VOK.nil [hP 4 (dec (!(p1.kind == 5)) false (by rw [h0]; rfl)), hB 12 h1, hP 4 (decR o0.failed true [0] h2)] [aN (Q1mj p1 p2 (Q12h p1 p2 p3 o0 H).1)] (by kernel_rfl)
   | false =>
    exact Q8 (fn := Ir.Kj) rfl (h := [⟨1, 0, false, (Decoder.cells o0)⟩]) (vw := []) VOK.nil [hP 4 (dec (!(p1.kind == 5)) false (by rw [h0]; rfl)), hB 12 h1, hP 4 (decR o0.failed false [0] h2)] [aN (Q1mj p1 p2 (Q12h p1 p2 p3 o0 H).1)] (by kernel_rfl)
 | false =>
  cases h1 : o0.failed with
  | true =>
   exact Q8 (fn := Ir.Kj) rfl (h := [⟨1, 0, false, (Decoder.cells o0)⟩]) (vw := []) VOK.nil [hP 4 (dec (!(p1.kind == 5)) true (by rw [h0]; rfl)), hP 4 (decR o0.failed true [0] h1)] [] (by kernel_rfl)
  | false =>
   exact Q8 (fn := Ir.Kj) rfl (h := [⟨1, 0, false, (Decoder.cells o0)⟩]) (vw := []) VOK.nil [hP 4 (dec (!(p1.kind == 5)) true (by rw [h0]; rfl)), hP 4 (decR o0.failed false [0] h1)] [] (by kernel_rfl)
def s_Kn (p1 : Val) (p2 : BA) (o0 : Decoder) : Int × Decoder := ((dN p1 p2).1, ft o0 (isM p1 && (dN p1 p2).2))
theorem e_Kn (p1 : Val) (p2 : BA) (o0 : Decoder) : s_Kn p1 p2 o0 = (((s_Kj p1 p2 2 o0).1.n, (s_Kj p1 p2 2 o0).2)) := by
  unfold s_Kn s_Kj dN xN
  cases ((prt p1 p2).kind == 2) <;> rfl
def c_Kn (p1 : Val) (p2 : BA) (o0 : Decoder) : En := .call 39 [.bx 0 0, .agg (Val.cells p1), .str p2] [⟨1, 0, false, (Decoder.cells o0)⟩]
def r_Kn (_p1 : Val) (_p2 : BA) (_o0 : Decoder) (q0 : Int) (q1 : Decoder) : Rs := .ret (.int .i64 q0) [⟨1, 0, false, (Decoder.cells q1)⟩]
def a_Kn (p1 : Val) (p2 : BA) (o0 : Decoder) : Rs := r_Kn p1 p2 o0 (s_Kn p1 p2 o0).1 (s_Kn p1 p2 o0).2
def H_Kn (p1 : Val) : Prop := Val.Sm 1000000000 p1
theorem Q1lt (p1 : Val) (_p2 : BA) (_o0 : Decoder) (H : H_Kn p1) : (H_Kj p1) ∧ True := by
  exact ⟨H, trivial⟩
theorem t_Kn (p1 : Val) (p2 : BA) (o0 : Decoder) (H : H_Kn p1) : Q7 G (c_Kn p1 p2 o0) (a_Kn p1 p2 o0) := by
 unfold a_Kn
 rw [e_Kn]
 exact Q8 (fn := Ir.Kn) rfl (h := [⟨1, 0, false, (Decoder.cells o0)⟩]) (vw := []) VOK.nil [] [aN (t_Kj p1 p2 2 o0 (Q1lt p1 p2 o0 H).1)] (by kernel_rfl)
def s_Kv (p1 : Val) (p2 : BA) (o0 : Decoder) : ByteArray × Decoder := ((dS p1 p2).1, ft o0 (isM p1 && (dS p1 p2).2))
theorem e_Kv (p1 : Val) (p2 : BA) (o0 : Decoder) : s_Kv p1 p2 o0 = (((s_Kj p1 p2 3 o0).1.s, (s_Kj p1 p2 3 o0).2)) := by
  unfold s_Kv s_Kj dS xS
  cases ((prt p1 p2).kind == 3) <;> rfl
def c_Kv (p1 : Val) (p2 : BA) (o0 : Decoder) : En := .call 84 [.bx 0 0, .agg (Val.cells p1), .str p2] [⟨1, 0, false, (Decoder.cells o0)⟩]
def r_Kv (_p1 : Val) (_p2 : BA) (_o0 : Decoder) (q0 : BA) (q1 : Decoder) : Rs := .ret (.str q0) [⟨1, 0, false, (Decoder.cells q1)⟩]
def a_Kv (p1 : Val) (p2 : BA) (o0 : Decoder) : Rs := r_Kv p1 p2 o0 (s_Kv p1 p2 o0).1 (s_Kv p1 p2 o0).2
def H_Kv (p1 : Val) : Prop := Val.Sm 1000000000 p1
theorem Q1kp (p1 : Val) (_p2 : BA) (_o0 : Decoder) (H : H_Kv p1) : (H_Kj p1) ∧ True := by
  exact ⟨H, trivial⟩
theorem t_Kv (p1 : Val) (p2 : BA) (o0 : Decoder) (H : H_Kv p1) : Q7 G (c_Kv p1 p2 o0) (a_Kv p1 p2 o0) := by
 unfold a_Kv
 rw [e_Kv]
 exact Q8 (fn := Ir.Kv) rfl (h := [⟨1, 0, false, (Decoder.cells o0)⟩]) (vw := []) VOK.nil [] [aN (t_Kj p1 p2 3 o0 (Q1kp p1 p2 o0 H).1)] (by kernel_rfl)
def s_Ki (p1 : Val) (p2 : BA) (o0 : Decoder) : Bool × Decoder := ((dB p1 p2).1, ft o0 (isM p1 && (dB p1 p2).2))
theorem e_Ki (p1 : Val) (p2 : BA) (o0 : Decoder) : s_Ki p1 p2 o0 = (((!((s_Kj p1 p2 1 o0).1.n == 0)), (s_Kj p1 p2 1 o0).2)) := by
  unfold s_Ki s_Kj dB xB
  cases ((prt p1 p2).kind == 1) <;> rfl
def c_Ki (p1 : Val) (p2 : BA) (o0 : Decoder) : En := .call 40 [.bx 0 0, .agg (Val.cells p1), .str p2] [⟨1, 0, false, (Decoder.cells o0)⟩]
def r_Ki (_p1 : Val) (_p2 : BA) (_o0 : Decoder) (q0 : Bool) (q1 : Decoder) : Rs := .ret (.bool q0) [⟨1, 0, false, (Decoder.cells q1)⟩]
def a_Ki (p1 : Val) (p2 : BA) (o0 : Decoder) : Rs := r_Ki p1 p2 o0 (s_Ki p1 p2 o0).1 (s_Ki p1 p2 o0).2
def H_Ki (p1 : Val) : Prop := Val.Sm 1000000000 p1
theorem Q1kr (p1 : Val) (_p2 : BA) (_o0 : Decoder) (H : H_Ki p1) : (H_Kj p1) ∧ True := by
  exact ⟨H, trivial⟩
theorem t_Ki (p1 : Val) (p2 : BA) (o0 : Decoder) (H : H_Ki p1) : Q7 G (c_Ki p1 p2 o0) (a_Ki p1 p2 o0) := by
 unfold a_Ki
 rw [e_Ki]
 exact Q8 (fn := Ir.Ki) rfl (h := [⟨1, 0, false, (Decoder.cells o0)⟩]) (vw := []) VOK.nil [] [aN (t_Kj p1 p2 1 o0 (Q1kr p1 p2 o0 H).1)] (by kernel_rfl)
def s_Kx (p1 : Val) (p2 : BA) (o0 : Decoder) : Val × Decoder := (s5 (prt p1 p2), ft o0 (isM p1 && isM (prt p1 p2)))
theorem e_Kx (p1 : Val) (p2 : BA) (o0 : Decoder) : s_Kx p1 p2 o0 = (((s_Kj p1 p2 5 o0).1, (s_Kj p1 p2 5 o0).2)) := by
  rfl
def c_Kx (p1 : Val) (p2 : BA) (o0 : Decoder) : En := .call 38 [.bx 0 0, .agg (Val.cells p1), .str p2] [⟨1, 0, false, (Decoder.cells o0)⟩]
def r_Kx (_p1 : Val) (_p2 : BA) (_o0 : Decoder) (q0 : Val) (q1 : Decoder) : Rs := .ret (.agg (Val.cells q0)) [⟨1, 0, false, (Decoder.cells q1)⟩]
def a_Kx (p1 : Val) (p2 : BA) (o0 : Decoder) : Rs := r_Kx p1 p2 o0 (s_Kx p1 p2 o0).1 (s_Kx p1 p2 o0).2
def H_Kx (p1 : Val) : Prop := Val.Sm 1000000000 p1
theorem Q1lv (p1 : Val) (_p2 : BA) (_o0 : Decoder) (H : H_Kx p1) : (H_Kj p1) ∧ True := by
  exact ⟨H, trivial⟩
theorem t_Kx (p1 : Val) (p2 : BA) (o0 : Decoder) (H : H_Kx p1) : Q7 G (c_Kx p1 p2 o0) (a_Kx p1 p2 o0) := by
 unfold a_Kx
 rw [e_Kx]
 exact Q8 (fn := Ir.Kx) rfl (h := [⟨1, 0, false, (Decoder.cells o0)⟩]) (vw := []) VOK.nil [] [aN (t_Kj p1 p2 5 o0 (Q1lv p1 p2 o0 H).1)] (by kernel_rfl)
def s_Kr (p1 : Val) (o0 : Decoder) : Resources × Decoder := ((Resources.dec p1).1, ft o0 (Resources.dec p1).2)
theorem e_Kr (p1 : Val) (o0 : Decoder) : s_Kr p1 o0 = (((Resources.mk (s_Kn p1 Q4r o0).1 (s_Kn p1 Q31 (s_Kn p1 Q4r o0).2).1 (s_Kn p1 Q44 (s_Kn p1 Q31 (s_Kn p1 Q4r o0).2).2).1), (s_Kn p1 Q44 (s_Kn p1 Q31 (s_Kn p1 Q4r o0).2).2).2)) := by
  simp only [s_Kn, s_Kr, Resources.dec, Qaq, Bool.and_assoc, Bool.and_left_comm, Bool.and_comm, Bool.and_self_left]
def c_Kr (p1 : Val) (o0 : Decoder) : En := .call 37 [.bx 0 0, .agg (Val.cells p1)] [⟨1, 0, false, (Decoder.cells o0)⟩]
def r_Kr (_p1 : Val) (_o0 : Decoder) (q0 : Resources) (q1 : Decoder) : Rs := .ret (.agg (Resources.cells q0)) [⟨1, 0, false, (Decoder.cells q1)⟩]
def a_Kr (p1 : Val) (o0 : Decoder) : Rs := r_Kr p1 o0 (s_Kr p1 o0).1 (s_Kr p1 o0).2
def H_Kr (p1 : Val) : Prop := Val.Sm 1000000000 p1
theorem Q12r (p1 : Val) (_o0 : Decoder) (H : H_Kr p1) : (H_Kn p1) ∧ True := by
  repeat' with_reducible apply And.intro
  all_goals first | exact True.intro | exact H | exact Qas (Q3t H _)
theorem t_Kr (p1 : Val) (o0 : Decoder) (H : H_Kr p1) : Q7 G (c_Kr p1 o0) (a_Kr p1 o0) := by
 unfold a_Kr
 rw [e_Kr]
 exact Q8 (fn := Ir.Kr) rfl (h := [⟨1, 0, false, (Decoder.cells o0)⟩]) (vw := []) VOK.nil [] [aN (t_Kn p1 Q4r o0 (Q12r p1 o0 H).1), aN (t_Kn p1 Q31 (s_Kn p1 Q4r o0).2 (Q12r p1 o0 H).1), aN (t_Kn p1 Q44 (s_Kn p1 Q31 (s_Kn p1 Q4r o0).2).2 (Q12r p1 o0 H).1)] (by kernel_rfl)
def s_Kp (p1 : Val) (o0 : Decoder) : Probe × Decoder := ((Probe.dec p1).1, ft o0 (Probe.dec p1).2)
theorem e_Kp (p1 : Val) (o0 : Decoder) : s_Kp p1 o0 = (((Probe.mk (s_Kn p1 Q26 (s_Kw p1 o0).2).1 (s_Kn p1 Q1u (s_Kn p1 Q26 (s_Kw p1 o0).2).2).1 (s_Kn p1 Q1k (s_Kn p1 Q1u (s_Kn p1 Q26 (s_Kw p1 o0).2).2).2).1 (s_Kn p1 Q1q (s_Kn p1 Q1k (s_Kn p1 Q1u (s_Kn p1 Q26 (s_Kw p1 o0).2).2).2).2).1), (s_Kn p1 Q1q (s_Kn p1 Q1k (s_Kn p1 Q1u (s_Kn p1 Q26 (s_Kw p1 o0).2).2).2).2).2)) := by
  simp only [s_Kw, s_Kn, s_Kp, Probe.dec, Qaq, Bool.and_assoc, Bool.and_left_comm, Bool.and_comm, Bool.and_self_left]
def c_Kp (p1 : Val) (o0 : Decoder) : En := .call 140 [.bx 0 0, .agg (Val.cells p1)] [⟨1, 0, false, (Decoder.cells o0)⟩]
def r_Kp (_p1 : Val) (_o0 : Decoder) (q0 : Probe) (q1 : Decoder) : Rs := .ret (.agg (Probe.cells q0)) [⟨1, 0, false, (Decoder.cells q1)⟩]
def a_Kp (p1 : Val) (o0 : Decoder) : Rs := r_Kp p1 o0 (s_Kp p1 o0).1 (s_Kp p1 o0).2
def H_Kp (p1 : Val) : Prop := Val.Sm 1000000000 p1
theorem Qvt (p1 : Val) (_o0 : Decoder) (H : H_Kp p1) : (H_Kn p1) ∧ True := by
  repeat' with_reducible apply And.intro
  all_goals first | exact True.intro | exact H | exact Qas (Q3t H _)
theorem t_Kp (p1 : Val) (o0 : Decoder) (H : H_Kp p1) : Q7 G (c_Kp p1 o0) (a_Kp p1 o0) := by
 unfold a_Kp
 rw [e_Kp]
 exact Q8 (fn := Ir.Kp) rfl (h := [⟨1, 0, false, (Decoder.cells o0)⟩]) (vw := []) VOK.nil [] [aN (t_Kw p1 o0), aN (t_Kn p1 Q26 (s_Kw p1 o0).2 (Qvt p1 o0 H).1), aN (t_Kn p1 Q1u (s_Kn p1 Q26 (s_Kw p1 o0).2).2 (Qvt p1 o0 H).1), aN (t_Kn p1 Q1k (s_Kn p1 Q1u (s_Kn p1 Q26 (s_Kw p1 o0).2).2).2 (Qvt p1 o0 H).1), aN (t_Kn p1 Q1q (s_Kn p1 Q1k (s_Kn p1 Q1u (s_Kn p1 Q26 (s_Kw p1 o0).2).2).2).2 (Qvt p1 o0 H).1)] (by kernel_rfl)
def Q52 (p1 : Val) (p2 : BA) (o0 : Decoder) : List Val → Nat → Bool → (List Probe) → Bool × (List Probe)
 | [], _i0, v0_1, v0_2 =>
  (v0_1, v0_2)
 | x0 :: r0, i0, v0_1, v0_2 =>
  Q52 p1 p2 o0 r0 (i0 + 1) (s_Kp x0 (Decoder.mk v0_1)).2.failed (v0_2 ++ [(s_Kp x0 (Decoder.mk v0_1)).1])
def Qzz (p1 : Val) (p2 : BA) (o0 : Decoder) (i0 : Nat) (_v0_1 : Bool) (v0_2 : List Probe) : List PV :=
  [.un, .un, .un, .fn 140 [.bx 0 0] []] ++ nuns 5 ++ [.ms 1 4 0 (List.length v0_2)] ++ nuns 6 ++ [.sl (Val.rows (s_Kj p1 p2 4 o0).1.list), .int .i64 ((List.length (s_Kj p1 p2 4 o0).1.list) : Int), .int .i64 (i0 : Int)] ++ nuns 11
def Ql2 (_p1 : Val) (_p2 : BA) (_o0 : Decoder) (_i0 : Nat) (v0_1 : Bool) (v0_2 : List Probe) : List Ob :=
  [⟨1, 0, false, [.bool v0_1]⟩, ⟨4, 0, true, (Probe.rows v0_2).flatten⟩]
def Qic (p1 : Val) (p2 : BA) (o0 : Decoder) (i0 : Nat) (v0_1 : Bool) (v0_2 : List Probe) : En := .loop 1 Ir.Qlk Ir.Q1jp (Qzz p1 p2 o0 i0 v0_1 v0_2) (Ql2 p1 p2 o0 i0 v0_1 v0_2)
def Qrq (_p1 : Val) (_p2 : BA) (_o0 : Decoder) (q0 : Bool) (q1 : List Probe) (z : Nat → PV) (_zo : Nat → List PV) : St :=
  ⟨zr z 0 9 ++ [.ms 1 4 0 (List.length q1)] ++ zr z 10 20, [(0, ⟨1, 0, false, [.bool q0]⟩), (1, ⟨4, 0, true, (Probe.rows q1).flatten⟩)], 66⟩
theorem Q15i (p1 : Val) (p2 : BA) (o0 : Decoder) (i0 : Nat) (v0_1 : Bool) (v0_2 : List Probe) : VOK (Go.Pv.look (number 0 (Ql2 p1 p2 o0 i0 v0_1 v0_2))) [(1, Probe.rows v0_2)] := (VOK.cons (show Seen _ _ from Q3g (ob := ⟨4, 0, true, (Probe.rows v0_2).flatten⟩) (Probe.Q9 v0_2 4 rfl)) VOK.nil)
def Qfj (p1 : Val) (p2 : BA) (o0 : Decoder) (e : En) (q : Bool × (List Probe)) : Prop := ∃ z zo, Q7 G e (.st (.exit 0) (Qrq p1 p2 o0 q.1 q.2 z zo))
theorem Qvy (p1 : Val) (p2 : BA) (o0 : Decoder) {e e' : En} (h : ∀ r, Q7 G e r → Q7 G e' r) : ∀ q, Qfj p1 p2 o0 e q → Qfj p1 p2 o0 e' q
  | _, ⟨z, zo, hz⟩ => ⟨z, zo, h _ hz⟩
def Qc3 (p1 : Val) (p2 : BA) (o0 : Decoder) : Prop := (List.length (s_Kj p1 p2 4 o0).1.list ≤ 137438953472) ∧ (∀ x0 ∈ (s_Kj p1 p2 4 o0).1.list, H_Kp x0) ∧ True
def Qr8 (p1 : Val) (p2 : BA) (o0 : Decoder) (i0 : Nat) (_v0_1 : Bool) (_v0_2 : List Probe) : List PV :=
  [.un, .un, .un, .fn 140 [.bx 0 0] []] ++ nuns 12 ++ [.sl (Val.rows (s_Kj p1 p2 4 o0).1.list), .int .i64 ((List.length (s_Kj p1 p2 4 o0).1.list) : Int), .int .i64 (i0 : Int), .bool false]
def Qkh (_p1 : Val) (_p2 : BA) (_o0 : Decoder) (_i0 : Nat) (_v0_1 : Bool) (_v0_2 : List Probe) : List (Nat × List PV) :=
  []
theorem Q18v (p1 : Val) (p2 : BA) (o0 : Decoder) (_H : Qc3 p1 p2 o0) (i0 : Nat) (v0_1 : Bool) (v0_2 : List Probe) (_ho0_0 : List.length v0_2 ≤ i0) (hc0 : (decide ((i0 : Int) < ((List.length (s_Kj p1 p2 4 o0).1.list) : Int))) = false) : Qfj p1 p2 o0 (Qic p1 p2 o0 i0 v0_1 v0_2) (v0_1, v0_2) := by
 exact ⟨(envF (Qr8 p1 p2 o0 i0 v0_1 v0_2)), (zoF (Qkh p1 p2 o0 i0 v0_1 v0_2)), Qg (Q15i p1 p2 o0 i0 v0_1 v0_2) (x := ((.exit 0), Qrq p1 p2 o0 v0_1 v0_2 (envF (Qr8 p1 p2 o0 i0 v0_1 v0_2)) (zoF (Qkh p1 p2 o0 i0 v0_1 v0_2)))) [hB 0 hc0] [] (by kernel_rfl)⟩
theorem Q19p (p1 : Val) (p2 : BA) (o0 : Decoder) (H : Qc3 p1 p2 o0) (x0 : Val) (i0 : Nat) (v0_1 : Bool) (v0_2 : List Probe) (hx0 : (s_Kj p1 p2 4 o0).1.list[i0]? = some x0) (hi0 : i0 < List.length (s_Kj p1 p2 4 o0).1.list) (ho0_0 : List.length v0_2 ≤ i0) (hc0 : (decide ((i0 : Int) < ((List.length (s_Kj p1 p2 4 o0).1.list) : Int))) = true) {r : Rs} (hr : Q7 G (Qic p1 p2 o0 (i0 + 1) (s_Kp x0 (Decoder.mk v0_1)).2.failed (v0_2 ++ [(s_Kp x0 (Decoder.mk v0_1)).1])) r) : Q7 G (Qic p1 p2 o0 i0 v0_1 v0_2) r := by
 have hB0 := H.1
 exact Qk (Q15i p1 p2 o0 i0 v0_1 v0_2) (y := (Qzz p1 p2 o0 (i0 + 1) (s_Kp x0 (Decoder.mk v0_1)).2.failed (v0_2 ++ [(s_Kp x0 (Decoder.mk v0_1)).1]), Ql2 p1 p2 o0 (i0 + 1) (s_Kp x0 (Decoder.mk v0_1)).2.failed (v0_2 ++ [(s_Kp x0 (Decoder.mk v0_1)).1]))) [hB 0 hc0, hP 0 (Q1j 5 (Val.rows (s_Kj p1 p2 4 o0).1.list) i0 _ (Val.Qc hx0) rfl), hV 8 [(642, Probe.rows (v0_2 ++ [(s_Kp x0 (Decoder.mk v0_1)).1]))] (Q3z 1 578 642 4 32 0 0 true (Probe.rows v0_2) (Probe.rows (v0_2 ++ [(s_Kp x0 (Decoder.mk v0_1)).1])) (Probe.cells (s_Kp x0 (Decoder.mk v0_1)).1) (List.length v0_2) (List.length (v0_2 ++ [(s_Kp x0 (Decoder.mk v0_1)).1])) rfl (Probe.Q5 v0_2).symm (Probe.Q5 (v0_2 ++ [(s_Kp x0 (Decoder.mk v0_1)).1])).symm (Probe.Q14 v0_2 (s_Kp x0 (Decoder.mk v0_1)).1) (Probe.Qm v0_2) rfl (by omega)), hS 0 true (Probe.Q9 (v0_2 ++ [(s_Kp x0 (Decoder.mk v0_1)).1]) 4 rfl), hP 1 (Q22 i0 (by omega))] [aN (t_Kp x0 (Decoder.mk v0_1) (H.2.1 x0 (Q2a hx0)))] (by kernel_rfl) hr
theorem Q10z (p1 : Val) (p2 : BA) (o0 : Decoder) (H : Qc3 p1 p2 o0) : ∀ (r0 : List Val) (i0 : Nat) (v0_1 : Bool) (v0_2 : List Probe), List.drop i0 (s_Kj p1 p2 4 o0).1.list = r0 → List.length v0_2 ≤ i0 → Qfj p1 p2 o0 (Qic p1 p2 o0 i0 v0_1 v0_2) (Q52 p1 p2 o0 r0 i0 v0_1 v0_2)
 | [], i0, v0_1, v0_2, hd, ho0_0 => by
  have hc0 : (decide ((i0 : Int) < ((List.length (s_Kj p1 p2 4 o0).1.list) : Int))) = false := by have := Q19 hd; simp; omega
  rw [Q52]
  exact Q18v p1 p2 o0 H i0 v0_1 v0_2 ho0_0 hc0
 | x0 :: r0, i0, v0_1, v0_2, hd, ho0_0 => by
  obtain ⟨hx0, hi0, hd'⟩ := Q11 hd
  have hc0 : (decide ((i0 : Int) < ((List.length (s_Kj p1 p2 4 o0).1.list) : Int))) = true := by simp; omega
  rw [Q52]
  exact Qvy p1 p2 o0 (fun r hr => Q19p p1 p2 o0 H x0 i0 v0_1 v0_2 hx0 hi0 ho0_0 hc0 hr) _ (Q10z p1 p2 o0 H r0 (i0 + 1) (s_Kp x0 (Decoder.mk v0_1)).2.failed (v0_2 ++ [(s_Kp x0 (Decoder.mk v0_1)).1]) hd' (by first | omega | (simp; omega)))
def Q9q (p1 : Val) (p2 : BA) (o0 : Decoder) : List Probe × Decoder := ((dE Probe.dec p1 p2).1, ft o0 (isM p1 && (dE Probe.dec p1 p2).2))
theorem Q14z (p1 : Val) (p2 : BA) (o0 : Decoder) : ∀ (l : List Val) (i : Nat) (b : Bool) (a : List Probe), Q52 p1 p2 o0 l i b a = (b || !(l.all fun x => (Probe.dec x).2), a ++ l.map (fun x => (Probe.dec x).1))
  | [], _, b, a => by rw [Q52]; simp
  | x :: l, i, b, a => by
    rw [Q52]
    refine (Q14z p1 p2 o0 l (i + 1) (b || !(Probe.dec x).2) (a ++ [(Probe.dec x).1])).trans ?_
    simp only [List.append_assoc, List.singleton_append, List.map_cons, List.all_cons, Bool.not_and, Bool.or_assoc]
theorem Q1ve (p1 : Val) (p2 : BA) (o0 : Decoder) : Q9q p1 p2 o0 = (((Q52 p1 p2 o0 (s_Kj p1 p2 4 o0).1.list 0 (s_Kj p1 p2 4 o0).2.failed []).2, (Decoder.mk (Q52 p1 p2 o0 (s_Kj p1 p2 4 o0).1.list 0 (s_Kj p1 p2 4 o0).2.failed []).1))) := by
  rw [Q14z]
  unfold s_Kj Q9q
  simp only [getL, Q3o]
  refine Prod.ext rfl ?_
  rw [Q6f o0.failed (isM p1) _ _ _ (Qfe (prt p1 p2)), Q3y]
  rfl
def Q1vt (p1 : Val) (p2 : BA) (o0 : Decoder) : En := .call 139 [.bx 0 0, .agg (Val.cells p1), .str p2, .fn 140 [.bx 0 0] []] [⟨1, 0, false, (Decoder.cells o0)⟩]
def Q1r0 (_p1 : Val) (_p2 : BA) (_o0 : Decoder) (q0 : List Probe) (q1 : Decoder) : Rs := .ret (.sl (Probe.rows q0)) [⟨1, 0, false, (Decoder.cells q1)⟩]
def Q1qa (p1 : Val) (p2 : BA) (o0 : Decoder) : Rs := Q1r0 p1 p2 o0 (Q9q p1 p2 o0).1 (Q9q p1 p2 o0).2
def Q1ld (p1 : Val) : Prop := Val.Sm 1000000000 p1
theorem Q15p (p1 : Val) (p2 : BA) (o0 : Decoder) (H : Q1ld p1) : (H_Kj p1) ∧ (Qc3 p1 p2 o0) ∧ True := by
  have hl := Qf8 (Q3t H p2)
  refine ⟨H, ?_, trivial⟩
  unfold Qc3 s_Kj
  simp only [getL]
  exact ⟨Nat.le_trans hl.1 (Nat.le_of_ble_eq_true rfl), hl.2, trivial⟩
theorem Q1kh (p1 : Val) (p2 : BA) (o0 : Decoder) (H : Q1ld p1) : Q7 G (Q1vt p1 p2 o0) (Q1qa p1 p2 o0) := by
 unfold Q1qa
 rw [Q1ve]
 have hl0 := Q10z p1 p2 o0 ((Q15p p1 p2 o0 H).2.1) (s_Kj p1 p2 4 o0).1.list 0 (s_Kj p1 p2 4 o0).2.failed [] (by simp) (by simp)
 obtain ⟨z0, zo0, hl0⟩ := hl0
 exact Q8 (fn := Ir.K12) rfl (h := [⟨1, 0, false, (Decoder.cells o0)⟩]) (vw := []) VOK.nil [hP 8 (Qh (Val.rows (s_Kj p1 p2 4 o0).1.list) (List.length (s_Kj p1 p2 4 o0).1.list) (Val.Q5 (s_Kj p1 p2 4 o0).1.list)), hS 0 true (Probe.Q9 (Q52 p1 p2 o0 (s_Kj p1 p2 4 o0).1.list 0 (s_Kj p1 p2 4 o0).2.failed []).2 4 rfl), hQ (Probe.Q5 (Q52 p1 p2 o0 (s_Kj p1 p2 4 o0).1.list 0 (s_Kj p1 p2 4 o0).2.failed []).2).symm] [aN (t_Kj p1 p2 4 o0 (Q15p p1 p2 o0 H).1), aV [(1, Probe.rows (Q52 p1 p2 o0 (s_Kj p1 p2 4 o0).1.list 0 (s_Kj p1 p2 4 o0).2.failed []).2)] hl0] (by kernel_rfl)
def s_Kg (p1 : Val) (o0 : Decoder) : Container × Decoder := ((Container.dec p1).1, ft o0 (Container.dec p1).2)
abbrev M1 (o0 : Decoder) (p1 : Val) := (s_Kx p1 Q2k (s_Kr (s_Kx p1 Q1c (s_Kv p1 Q1z (s_Kv p1 Qp (s_Kw p1 o0).2).2).2).1 (s_Kx p1 Q1c (s_Kv p1 Q1z (s_Kv p1 Qp (s_Kw p1 o0).2).2).2).2).2)
theorem e_Kg (p1 : Val) (o0 : Decoder) : s_Kg p1 o0 = (((Container.mk (s_Kv p1 Qp (s_Kw p1 o0).2).1 (s_Kv p1 Q1z (s_Kv p1 Qp (s_Kw p1 o0).2).2).1 (s_Kr (s_Kx p1 Q1c (s_Kv p1 Q1z (s_Kv p1 Qp (s_Kw p1 o0).2).2).2).1 (s_Kx p1 Q1c (s_Kv p1 Q1z (s_Kv p1 Qp (s_Kw p1 o0).2).2).2).2).1 (s_Kr (M1 o0 p1).1 (M1 o0 p1).2).1 (Q9q p1 Q2o (s_Kr (M1 o0 p1).1 (M1 o0 p1).2).2).1 (Q9q p1 Qi (Q9q p1 Q2o (s_Kr (M1 o0 p1).1 (M1 o0 p1).2).2).2).1 (Q9q p1 Q1p (Q9q p1 Qi (Q9q p1 Q2o (s_Kr (M1 o0 p1).1 (M1 o0 p1).2).2).2).2).1), (Q9q p1 Q1p (Q9q p1 Qi (Q9q p1 Q2o (s_Kr (M1 o0 p1).1 (M1 o0 p1).2).2).2).2).2)) := by
  simp only [s_Kw, s_Kv, s_Kx, s_Kr, Q9q, s_Kg, Container.dec, Resources.sub1, Resources.sub2, Qaq, Bool.and_assoc, Bool.and_left_comm, Bool.and_comm, Bool.and_self_left]
def c_Kg (p1 : Val) (o0 : Decoder) : En := .call 86 [.bx 0 0, .agg (Val.cells p1)] [⟨1, 0, false, (Decoder.cells o0)⟩]
def r_Kg (_p1 : Val) (_o0 : Decoder) (q0 : Container) (q1 : Decoder) : Rs := .ret (.agg (Container.cells q0)) [⟨1, 0, false, (Decoder.cells q1)⟩]
def a_Kg (p1 : Val) (o0 : Decoder) : Rs := r_Kg p1 o0 (s_Kg p1 o0).1 (s_Kg p1 o0).2
def H_Kg (p1 : Val) : Prop := Val.Sm 1000000000 p1
theorem Q8p (p1 : Val) (o0 : Decoder) (H : H_Kg p1) : (H_Kv p1) ∧ (H_Kx p1) ∧ (H_Kr (s_Kx p1 Q1c (s_Kv p1 Q1z (s_Kv p1 Qp (s_Kw p1 o0).2).2).2).1) ∧ (H_Kr (M1 o0 p1).1) ∧ (Q1ld p1) ∧ True := by
  repeat' with_reducible apply And.intro
  all_goals first | exact True.intro | exact H | exact Qas (Q3t H _)
theorem t_Kg (p1 : Val) (o0 : Decoder) (H : H_Kg p1) : Q7 G (c_Kg p1 o0) (a_Kg p1 o0) := by
 unfold a_Kg
 rw [e_Kg]
 exact Q8 (fn := Ir.Kg) rfl (h := [⟨1, 0, false, (Decoder.cells o0)⟩]) (vw := []) VOK.nil [] [aN (t_Kw p1 o0), aN (t_Kv p1 Qp (s_Kw p1 o0).2 (Q8p p1 o0 H).1), aN (t_Kv p1 Q1z (s_Kv p1 Qp (s_Kw p1 o0).2).2 (Q8p p1 o0 H).1), aN (t_Kx p1 Q1c (s_Kv p1 Q1z (s_Kv p1 Qp (s_Kw p1 o0).2).2).2 (Q8p p1 o0 H).2.1), aN (t_Kr (s_Kx p1 Q1c (s_Kv p1 Q1z (s_Kv p1 Qp (s_Kw p1 o0).2).2).2).1 (s_Kx p1 Q1c (s_Kv p1 Q1z (s_Kv p1 Qp (s_Kw p1 o0).2).2).2).2 (Q8p p1 o0 H).2.2.1), aN (t_Kx p1 Q2k (s_Kr (s_Kx p1 Q1c (s_Kv p1 Q1z (s_Kv p1 Qp (s_Kw p1 o0).2).2).2).1 (s_Kx p1 Q1c (s_Kv p1 Q1z (s_Kv p1 Qp (s_Kw p1 o0).2).2).2).2).2 (Q8p p1 o0 H).2.1), aN (t_Kr (M1 o0 p1).1 (M1 o0 p1).2 (Q8p p1 o0 H).2.2.2.1), aN (Q1kh p1 Q2o (s_Kr (M1 o0 p1).1 (M1 o0 p1).2).2 (Q8p p1 o0 H).2.2.2.2.1), aN (Q1kh p1 Qi (Q9q p1 Q2o (s_Kr (M1 o0 p1).1 (M1 o0 p1).2).2).2 (Q8p p1 o0 H).2.2.2.2.1), aN (Q1kh p1 Q1p (Q9q p1 Qi (Q9q p1 Q2o (s_Kr (M1 o0 p1).1 (M1 o0 p1).2).2).2).2 (Q8p p1 o0 H).2.2.2.2.1)] (by kernel_rfl)
def Q59 (p1 : Val) (p2 : BA) (o0 : Decoder) : List Val → Nat → Bool → (List Container) → Bool × (List Container)
 | [], _i0, v0_1, v0_2 =>
  (v0_1, v0_2)
 | x0 :: r0, i0, v0_1, v0_2 =>
  Q59 p1 p2 o0 r0 (i0 + 1) (s_Kg x0 (Decoder.mk v0_1)).2.failed (v0_2 ++ [(s_Kg x0 (Decoder.mk v0_1)).1])
def Q109 (p1 : Val) (p2 : BA) (o0 : Decoder) (i0 : Nat) (_v0_1 : Bool) (v0_2 : List Container) : List PV :=
  [.un, .un, .un, .fn 86 [.bx 0 0] []] ++ nuns 5 ++ [.ms 1 11 0 (List.length v0_2)] ++ nuns 6 ++ [.sl (Val.rows (s_Kj p1 p2 4 o0).1.list), .int .i64 ((List.length (s_Kj p1 p2 4 o0).1.list) : Int), .int .i64 (i0 : Int)] ++ nuns 11
def Qnt (_p1 : Val) (_p2 : BA) (_o0 : Decoder) (_i0 : Nat) (v0_1 : Bool) (v0_2 : List Container) : List Ob :=
  [⟨1, 0, false, [.bool v0_1]⟩, ⟨11, 0, true, (Container.rows v0_2).flatten⟩]
def Qh8 (p1 : Val) (p2 : BA) (o0 : Decoder) (i0 : Nat) (v0_1 : Bool) (v0_2 : List Container) : En := .loop 1 Ir.Qlh Ir.Q1k0 (Q109 p1 p2 o0 i0 v0_1 v0_2) (Qnt p1 p2 o0 i0 v0_1 v0_2)
def Qpm (_p1 : Val) (_p2 : BA) (_o0 : Decoder) (q0 : Bool) (q1 : List Container) (z : Nat → PV) (_zo : Nat → List PV) : St :=
  ⟨zr z 0 9 ++ [.ms 1 11 0 (List.length q1)] ++ zr z 10 20, [(0, ⟨1, 0, false, [.bool q0]⟩), (1, ⟨11, 0, true, (Container.rows q1).flatten⟩)], 66⟩
theorem Q13z (p1 : Val) (p2 : BA) (o0 : Decoder) (i0 : Nat) (v0_1 : Bool) (v0_2 : List Container) : VOK (Go.Pv.look (number 0 (Qnt p1 p2 o0 i0 v0_1 v0_2))) [(1, Container.rows v0_2)] := (VOK.cons (show Seen _ _ from Q3g (ob := ⟨11, 0, true, (Container.rows v0_2).flatten⟩) (Container.Q9 v0_2 11 rfl)) VOK.nil)
def Qgg (p1 : Val) (p2 : BA) (o0 : Decoder) (e : En) (q : Bool × (List Container)) : Prop := ∃ z zo, Q7 G e (.st (.exit 0) (Qpm p1 p2 o0 q.1 q.2 z zo))
theorem Qwx (p1 : Val) (p2 : BA) (o0 : Decoder) {e e' : En} (h : ∀ r, Q7 G e r → Q7 G e' r) : ∀ q, Qgg p1 p2 o0 e q → Qgg p1 p2 o0 e' q
  | _, ⟨z, zo, hz⟩ => ⟨z, zo, h _ hz⟩
def Qbq (p1 : Val) (p2 : BA) (o0 : Decoder) : Prop := (List.length (s_Kj p1 p2 4 o0).1.list ≤ 137438953472) ∧ (∀ x0 ∈ (s_Kj p1 p2 4 o0).1.list, H_Kg x0) ∧ True
def Qra (p1 : Val) (p2 : BA) (o0 : Decoder) (i0 : Nat) (_v0_1 : Bool) (_v0_2 : List Container) : List PV :=
  [.un, .un, .un, .fn 86 [.bx 0 0] []] ++ nuns 12 ++ [.sl (Val.rows (s_Kj p1 p2 4 o0).1.list), .int .i64 ((List.length (s_Kj p1 p2 4 o0).1.list) : Int), .int .i64 (i0 : Int), .bool false]
def Qiu (_p1 : Val) (_p2 : BA) (_o0 : Decoder) (_i0 : Nat) (_v0_1 : Bool) (_v0_2 : List Container) : List (Nat × List PV) :=
  []
theorem Q1bm (p1 : Val) (p2 : BA) (o0 : Decoder) (_H : Qbq p1 p2 o0) (i0 : Nat) (v0_1 : Bool) (v0_2 : List Container) (_ho0_0 : List.length v0_2 ≤ i0) (hc0 : (decide ((i0 : Int) < ((List.length (s_Kj p1 p2 4 o0).1.list) : Int))) = false) : Qgg p1 p2 o0 (Qh8 p1 p2 o0 i0 v0_1 v0_2) (v0_1, v0_2) := by
 exact ⟨(envF (Qra p1 p2 o0 i0 v0_1 v0_2)), (zoF (Qiu p1 p2 o0 i0 v0_1 v0_2)), Qg (Q13z p1 p2 o0 i0 v0_1 v0_2) (x := ((.exit 0), Qpm p1 p2 o0 v0_1 v0_2 (envF (Qra p1 p2 o0 i0 v0_1 v0_2)) (zoF (Qiu p1 p2 o0 i0 v0_1 v0_2)))) [hB 0 hc0] [] (by kernel_rfl)⟩
theorem Q18c (p1 : Val) (p2 : BA) (o0 : Decoder) (H : Qbq p1 p2 o0) (x0 : Val) (i0 : Nat) (v0_1 : Bool) (v0_2 : List Container) (hx0 : (s_Kj p1 p2 4 o0).1.list[i0]? = some x0) (hi0 : i0 < List.length (s_Kj p1 p2 4 o0).1.list) (ho0_0 : List.length v0_2 ≤ i0) (hc0 : (decide ((i0 : Int) < ((List.length (s_Kj p1 p2 4 o0).1.list) : Int))) = true) {r : Rs} (hr : Q7 G (Qh8 p1 p2 o0 (i0 + 1) (s_Kg x0 (Decoder.mk v0_1)).2.failed (v0_2 ++ [(s_Kg x0 (Decoder.mk v0_1)).1])) r) : Q7 G (Qh8 p1 p2 o0 i0 v0_1 v0_2) r := by
 have hB0 := H.1
 exact Qk (Q13z p1 p2 o0 i0 v0_1 v0_2) (y := (Q109 p1 p2 o0 (i0 + 1) (s_Kg x0 (Decoder.mk v0_1)).2.failed (v0_2 ++ [(s_Kg x0 (Decoder.mk v0_1)).1]), Qnt p1 p2 o0 (i0 + 1) (s_Kg x0 (Decoder.mk v0_1)).2.failed (v0_2 ++ [(s_Kg x0 (Decoder.mk v0_1)).1]))) [hB 0 hc0, hP 0 (Q1j 5 (Val.rows (s_Kj p1 p2 4 o0).1.list) i0 _ (Val.Qc hx0) rfl), hV 8 [(642, Container.rows (v0_2 ++ [(s_Kg x0 (Decoder.mk v0_1)).1]))] (Q3z 1 578 642 11 152 0 0 true (Container.rows v0_2) (Container.rows (v0_2 ++ [(s_Kg x0 (Decoder.mk v0_1)).1])) (Container.cells (s_Kg x0 (Decoder.mk v0_1)).1) (List.length v0_2) (List.length (v0_2 ++ [(s_Kg x0 (Decoder.mk v0_1)).1])) rfl (Container.Q5 v0_2).symm (Container.Q5 (v0_2 ++ [(s_Kg x0 (Decoder.mk v0_1)).1])).symm (Container.Q14 v0_2 (s_Kg x0 (Decoder.mk v0_1)).1) (Container.Qm v0_2) rfl (by omega)), hS 0 true (Container.Q9 (v0_2 ++ [(s_Kg x0 (Decoder.mk v0_1)).1]) 11 rfl), hP 1 (Q22 i0 (by omega))] [aN (t_Kg x0 (Decoder.mk v0_1) (H.2.1 x0 (Q2a hx0)))] (by kernel_rfl) hr
theorem Q124 (p1 : Val) (p2 : BA) (o0 : Decoder) (H : Qbq p1 p2 o0) : ∀ (r0 : List Val) (i0 : Nat) (v0_1 : Bool) (v0_2 : List Container), List.drop i0 (s_Kj p1 p2 4 o0).1.list = r0 → List.length v0_2 ≤ i0 → Qgg p1 p2 o0 (Qh8 p1 p2 o0 i0 v0_1 v0_2) (Q59 p1 p2 o0 r0 i0 v0_1 v0_2)
 | [], i0, v0_1, v0_2, hd, ho0_0 => by
  have hc0 : (decide ((i0 : Int) < ((List.length (s_Kj p1 p2 4 o0).1.list) : Int))) = false := by have := Q19 hd; simp; omega
  rw [Q59]
  exact Q1bm p1 p2 o0 H i0 v0_1 v0_2 ho0_0 hc0
 | x0 :: r0, i0, v0_1, v0_2, hd, ho0_0 => by
  obtain ⟨hx0, hi0, hd'⟩ := Q11 hd
  have hc0 : (decide ((i0 : Int) < ((List.length (s_Kj p1 p2 4 o0).1.list) : Int))) = true := by simp; omega
  rw [Q59]
  exact Qwx p1 p2 o0 (fun r hr => Q18c p1 p2 o0 H x0 i0 v0_1 v0_2 hx0 hi0 ho0_0 hc0 hr) _ (Q124 p1 p2 o0 H r0 (i0 + 1) (s_Kg x0 (Decoder.mk v0_1)).2.failed (v0_2 ++ [(s_Kg x0 (Decoder.mk v0_1)).1]) hd' (by first | omega | (simp; omega)))
def Q1a0 (p1 : Val) (p2 : BA) (o0 : Decoder) : List Container × Decoder := ((dE Container.dec p1 p2).1, ft o0 (isM p1 && (dE Container.dec p1 p2).2))
theorem Q13o (p1 : Val) (p2 : BA) (o0 : Decoder) : ∀ (l : List Val) (i : Nat) (b : Bool) (a : List Container), Q59 p1 p2 o0 l i b a = (b || !(l.all fun x => (Container.dec x).2), a ++ l.map (fun x => (Container.dec x).1))
  | [], _, b, a => by rw [Q59]; simp
  | x :: l, i, b, a => by
    rw [Q59]
    refine (Q13o p1 p2 o0 l (i + 1) (b || !(Container.dec x).2) (a ++ [(Container.dec x).1])).trans ?_
    simp only [List.append_assoc, List.singleton_append, List.map_cons, List.all_cons, Bool.not_and, Bool.or_assoc]
theorem Q1s8 (p1 : Val) (p2 : BA) (o0 : Decoder) : Q1a0 p1 p2 o0 = (((Q59 p1 p2 o0 (s_Kj p1 p2 4 o0).1.list 0 (s_Kj p1 p2 4 o0).2.failed []).2, (Decoder.mk (Q59 p1 p2 o0 (s_Kj p1 p2 4 o0).1.list 0 (s_Kj p1 p2 4 o0).2.failed []).1))) := by
  rw [Q13o]
  unfold s_Kj Q1a0
  simp only [getL, Q3o]
  refine Prod.ext rfl ?_
  rw [Q6f o0.failed (isM p1) _ _ _ (Qfe (prt p1 p2)), Q3y]
  rfl
def Q1uu (p1 : Val) (p2 : BA) (o0 : Decoder) : En := .call 85 [.bx 0 0, .agg (Val.cells p1), .str p2, .fn 86 [.bx 0 0] []] [⟨1, 0, false, (Decoder.cells o0)⟩]
def Q1r3 (_p1 : Val) (_p2 : BA) (_o0 : Decoder) (q0 : List Container) (q1 : Decoder) : Rs := .ret (.sl (Container.rows q0)) [⟨1, 0, false, (Decoder.cells q1)⟩]
def Q1nu (p1 : Val) (p2 : BA) (o0 : Decoder) : Rs := Q1r3 p1 p2 o0 (Q1a0 p1 p2 o0).1 (Q1a0 p1 p2 o0).2
def Q1m7 (p1 : Val) : Prop := Val.Sm 1000000000 p1
theorem Q13k (p1 : Val) (p2 : BA) (o0 : Decoder) (H : Q1m7 p1) : (H_Kj p1) ∧ (Qbq p1 p2 o0) ∧ True := by
  have hl := Qf8 (Q3t H p2)
  refine ⟨H, ?_, trivial⟩
  unfold Qbq s_Kj
  simp only [getL]
  exact ⟨Nat.le_trans hl.1 (Nat.le_of_ble_eq_true rfl), hl.2, trivial⟩
theorem Q1t9 (p1 : Val) (p2 : BA) (o0 : Decoder) (H : Q1m7 p1) : Q7 G (Q1uu p1 p2 o0) (Q1nu p1 p2 o0) := by
 unfold Q1nu
 rw [Q1s8]
 have hl0 := Q124 p1 p2 o0 ((Q13k p1 p2 o0 H).2.1) (s_Kj p1 p2 4 o0).1.list 0 (s_Kj p1 p2 4 o0).2.failed [] (by simp) (by simp)
 obtain ⟨z0, zo0, hl0⟩ := hl0
 exact Q8 (fn := Ir.K16) rfl (h := [⟨1, 0, false, (Decoder.cells o0)⟩]) (vw := []) VOK.nil [hP 8 (Qh (Val.rows (s_Kj p1 p2 4 o0).1.list) (List.length (s_Kj p1 p2 4 o0).1.list) (Val.Q5 (s_Kj p1 p2 4 o0).1.list)), hS 0 true (Container.Q9 (Q59 p1 p2 o0 (s_Kj p1 p2 4 o0).1.list 0 (s_Kj p1 p2 4 o0).2.failed []).2 11 rfl), hQ (Container.Q5 (Q59 p1 p2 o0 (s_Kj p1 p2 4 o0).1.list 0 (s_Kj p1 p2 4 o0).2.failed []).2).symm] [aN (t_Kj p1 p2 4 o0 (Q13k p1 p2 o0 H).1), aV [(1, Container.rows (Q59 p1 p2 o0 (s_Kj p1 p2 4 o0).1.list 0 (s_Kj p1 p2 4 o0).2.failed []).2)] hl0] (by kernel_rfl)
def s_Kz (p1 : Val) (o0 : Decoder) : ByteArray × Decoder := ((xS p1).1, ft o0 (xS p1).2)
theorem e_Kz (p1 : Val) (o0 : Decoder) : s_Kz p1 o0 = (bif o0.failed then
    bif (p1.kind == 3) then
      (p1.s, (Decoder.mk true))
    else
      (eB, (Decoder.mk true))
  else
    bif (p1.kind == 3) then
      (p1.s, (Decoder.mk false))
    else
      (eB, (Decoder.mk (!(p1.kind == 0))))) := by
  obtain ⟨b⟩ := o0
  unfold s_Kz ft xS
  cases b <;> cases (p1.kind == 3) <;> cases (p1.kind == 0) <;> rfl
def c_Kz (p1 : Val) (o0 : Decoder) : En := .call 142 [.bx 0 0, .agg (Val.cells p1)] [⟨1, 0, false, (Decoder.cells o0)⟩]
def r_Kz (_p1 : Val) (_o0 : Decoder) (q0 : BA) (q1 : Decoder) : Rs := .ret (.str q0) [⟨1, 0, false, (Decoder.cells q1)⟩]
def a_Kz (p1 : Val) (o0 : Decoder) : Rs := r_Kz p1 o0 (s_Kz p1 o0).1 (s_Kz p1 o0).2
theorem t_Kz (p1 : Val) (o0 : Decoder) : Q7 G (c_Kz p1 o0) (a_Kz p1 o0) := by
 unfold a_Kz
 rw [e_Kz]
 cases h0 : o0.failed with
 | true =>
  cases h1 : (p1.kind == 3) with
  | true =>
   exact Q8 (fn := Ir.Kz) rfl (h := [⟨1, 0, false, (Decoder.cells o0)⟩]) (vw := []) VOK.nil [hP 6 (decR o0.failed true [0] h0), hP 15 (dec (!(p1.kind == 3)) false (by rw [h1]; rfl))] [] (by kernel_rfl)
  | false =>
   exact Q8 (fn := Ir.Kz) rfl (h := [⟨1, 0, false, (Decoder.cells o0)⟩]) (vw := []) VOK.nil [hP 6 (decR o0.failed true [0] h0), hP 15 (dec (!(p1.kind == 3)) true (by rw [h1]; rfl))] [] (by kernel_rfl)
 | false =>
  cases h1 : (p1.kind == 3) with
  | true =>
   exact Q8 (fn := Ir.Kz) rfl (h := [⟨1, 0, false, (Decoder.cells o0)⟩]) (vw := []) VOK.nil [hP 6 (decR o0.failed false [0] h0), hP 3 (dec (!(p1.kind == 3)) false (by rw [h1]; rfl)), hP 11 (dec (!(p1.kind == 3)) false (by rw [h1]; rfl))] [] (by kernel_rfl)
  | false =>
   exact Q8 (fn := Ir.Kz) rfl (h := [⟨1, 0, false, (Decoder.cells o0)⟩]) (vw := []) VOK.nil [hP 6 (decR o0.failed false [0] h0), hP 3 (dec (!(p1.kind == 3)) true (by rw [h1]; rfl)), hP 11 (dec (!(p1.kind == 3)) true (by rw [h1]; rfl))] [] (by kernel_rfl)
def Q5g (p1 : Val) (p2 : BA) (o0 : Decoder) : List Val → Nat → Bool → (List ByteArray) → Bool × (List ByteArray)
 | [], _i0, v0_1, v0_2 =>
  (v0_1, v0_2)
 | x0 :: r0, i0, v0_1, v0_2 =>
  Q5g p1 p2 o0 r0 (i0 + 1) (s_Kz x0 (Decoder.mk v0_1)).2.failed (v0_2 ++ [(s_Kz x0 (Decoder.mk v0_1)).1])
def Qxm (p1 : Val) (p2 : BA) (o0 : Decoder) (i0 : Nat) (_v0_1 : Bool) (v0_2 : List ByteArray) : List PV :=
  [.un, .un, .un, .fn 142 [.bx 0 0] []] ++ nuns 5 ++ [.ms 1 1 0 (List.length v0_2)] ++ nuns 6 ++ [.sl (Val.rows (s_Kj p1 p2 4 o0).1.list), .int .i64 ((List.length (s_Kj p1 p2 4 o0).1.list) : Int), .int .i64 (i0 : Int)] ++ nuns 11
def Qlw (_p1 : Val) (_p2 : BA) (_o0 : Decoder) (_i0 : Nat) (v0_1 : Bool) (v0_2 : List ByteArray) : List Ob :=
  [⟨1, 0, false, [.bool v0_1]⟩, ⟨1, 0, true, (Qj v0_2).flatten⟩]
def Qg2 (p1 : Val) (p2 : BA) (o0 : Decoder) (i0 : Nat) (v0_1 : Bool) (v0_2 : List ByteArray) : En := .loop 1 Ir.Qll Ir.Q1k5 (Qxm p1 p2 o0 i0 v0_1 v0_2) (Qlw p1 p2 o0 i0 v0_1 v0_2)
def Qre (_p1 : Val) (_p2 : BA) (_o0 : Decoder) (q0 : Bool) (q1 : List ByteArray) (z : Nat → PV) (_zo : Nat → List PV) : St :=
  ⟨zr z 0 9 ++ [.ms 1 1 0 (List.length q1)] ++ zr z 10 20, [(0, ⟨1, 0, false, [.bool q0]⟩), (1, ⟨1, 0, true, (Qj q1).flatten⟩)], 66⟩
theorem Q17f (p1 : Val) (p2 : BA) (o0 : Decoder) (i0 : Nat) (v0_1 : Bool) (v0_2 : List ByteArray) : VOK (Go.Pv.look (number 0 (Qlw p1 p2 o0 i0 v0_1 v0_2))) [(1, Qj v0_2)] := (VOK.cons (show Seen _ _ from Q3g (ob := ⟨1, 0, true, (Qj v0_2).flatten⟩) (Q75 v0_2 1 rfl)) VOK.nil)
def Qgl (p1 : Val) (p2 : BA) (o0 : Decoder) (e : En) (q : Bool × (List ByteArray)) : Prop := ∃ z zo, Q7 G e (.st (.exit 0) (Qre p1 p2 o0 q.1 q.2 z zo))
theorem Qwd (p1 : Val) (p2 : BA) (o0 : Decoder) {e e' : En} (h : ∀ r, Q7 G e r → Q7 G e' r) : ∀ q, Qgl p1 p2 o0 e q → Qgl p1 p2 o0 e' q
  | _, ⟨z, zo, hz⟩ => ⟨z, zo, h _ hz⟩
def Qcm (p1 : Val) (p2 : BA) (o0 : Decoder) : Prop := (List.length (s_Kj p1 p2 4 o0).1.list ≤ 137438953472) ∧ True
def Qpy (p1 : Val) (p2 : BA) (o0 : Decoder) (i0 : Nat) (_v0_1 : Bool) (_v0_2 : List ByteArray) : List PV :=
  [.un, .un, .un, .fn 142 [.bx 0 0] []] ++ nuns 12 ++ [.sl (Val.rows (s_Kj p1 p2 4 o0).1.list), .int .i64 ((List.length (s_Kj p1 p2 4 o0).1.list) : Int), .int .i64 (i0 : Int), .bool false]
def Qo7 (_p1 : Val) (_p2 : BA) (_o0 : Decoder) (_i0 : Nat) (_v0_1 : Bool) (_v0_2 : List ByteArray) : List (Nat × List PV) :=
  []
theorem Q1ax (p1 : Val) (p2 : BA) (o0 : Decoder) (_H : Qcm p1 p2 o0) (i0 : Nat) (v0_1 : Bool) (v0_2 : List ByteArray) (_ho0_0 : List.length v0_2 ≤ i0) (hc0 : (decide ((i0 : Int) < ((List.length (s_Kj p1 p2 4 o0).1.list) : Int))) = false) : Qgl p1 p2 o0 (Qg2 p1 p2 o0 i0 v0_1 v0_2) (v0_1, v0_2) := by
 exact ⟨(envF (Qpy p1 p2 o0 i0 v0_1 v0_2)), (zoF (Qo7 p1 p2 o0 i0 v0_1 v0_2)), Qg (Q17f p1 p2 o0 i0 v0_1 v0_2) (x := ((.exit 0), Qre p1 p2 o0 v0_1 v0_2 (envF (Qpy p1 p2 o0 i0 v0_1 v0_2)) (zoF (Qo7 p1 p2 o0 i0 v0_1 v0_2)))) [hB 0 hc0] [] (by kernel_rfl)⟩
theorem Q19m (p1 : Val) (p2 : BA) (o0 : Decoder) (H : Qcm p1 p2 o0) (x0 : Val) (i0 : Nat) (v0_1 : Bool) (v0_2 : List ByteArray) (hx0 : (s_Kj p1 p2 4 o0).1.list[i0]? = some x0) (hi0 : i0 < List.length (s_Kj p1 p2 4 o0).1.list) (ho0_0 : List.length v0_2 ≤ i0) (hc0 : (decide ((i0 : Int) < ((List.length (s_Kj p1 p2 4 o0).1.list) : Int))) = true) {r : Rs} (hr : Q7 G (Qg2 p1 p2 o0 (i0 + 1) (s_Kz x0 (Decoder.mk v0_1)).2.failed (v0_2 ++ [(s_Kz x0 (Decoder.mk v0_1)).1])) r) : Q7 G (Qg2 p1 p2 o0 i0 v0_1 v0_2) r := by
 have hB0 := H.1
 exact Qk (Q17f p1 p2 o0 i0 v0_1 v0_2) (y := (Qxm p1 p2 o0 (i0 + 1) (s_Kz x0 (Decoder.mk v0_1)).2.failed (v0_2 ++ [(s_Kz x0 (Decoder.mk v0_1)).1]), Qlw p1 p2 o0 (i0 + 1) (s_Kz x0 (Decoder.mk v0_1)).2.failed (v0_2 ++ [(s_Kz x0 (Decoder.mk v0_1)).1]))) [hB 0 hc0, hP 0 (Q1j 5 (Val.rows (s_Kj p1 p2 4 o0).1.list) i0 _ (Val.Qc hx0) rfl), hV 8 [(642, Qj (v0_2 ++ [(s_Kz x0 (Decoder.mk v0_1)).1]))] (Q3z 1 578 642 1 16 0 0 true (Qj v0_2) (Qj (v0_2 ++ [(s_Kz x0 (Decoder.mk v0_1)).1])) [.str (s_Kz x0 (Decoder.mk v0_1)).1] (List.length v0_2) (List.length (v0_2 ++ [(s_Kz x0 (Decoder.mk v0_1)).1])) rfl (Q1h v0_2).symm (Q1h (v0_2 ++ [(s_Kz x0 (Decoder.mk v0_1)).1])).symm (Q127 v0_2 (s_Kz x0 (Decoder.mk v0_1)).1) (Qmm v0_2) rfl (by omega)), hS 0 true (Q75 (v0_2 ++ [(s_Kz x0 (Decoder.mk v0_1)).1]) 1 rfl), hP 1 (Q22 i0 (by omega))] [aN (t_Kz x0 (Decoder.mk v0_1))] (by kernel_rfl) hr
theorem Qzu (p1 : Val) (p2 : BA) (o0 : Decoder) (H : Qcm p1 p2 o0) : ∀ (r0 : List Val) (i0 : Nat) (v0_1 : Bool) (v0_2 : List ByteArray), List.drop i0 (s_Kj p1 p2 4 o0).1.list = r0 → List.length v0_2 ≤ i0 → Qgl p1 p2 o0 (Qg2 p1 p2 o0 i0 v0_1 v0_2) (Q5g p1 p2 o0 r0 i0 v0_1 v0_2)
 | [], i0, v0_1, v0_2, hd, ho0_0 => by
  have hc0 : (decide ((i0 : Int) < ((List.length (s_Kj p1 p2 4 o0).1.list) : Int))) = false := by have := Q19 hd; simp; omega
  rw [Q5g]
  exact Q1ax p1 p2 o0 H i0 v0_1 v0_2 ho0_0 hc0
 | x0 :: r0, i0, v0_1, v0_2, hd, ho0_0 => by
  obtain ⟨hx0, hi0, hd'⟩ := Q11 hd
  have hc0 : (decide ((i0 : Int) < ((List.length (s_Kj p1 p2 4 o0).1.list) : Int))) = true := by simp; omega
  rw [Q5g]
  exact Qwd p1 p2 o0 (fun r hr => Q19m p1 p2 o0 H x0 i0 v0_1 v0_2 hx0 hi0 ho0_0 hc0 hr) _ (Qzu p1 p2 o0 H r0 (i0 + 1) (s_Kz x0 (Decoder.mk v0_1)).2.failed (v0_2 ++ [(s_Kz x0 (Decoder.mk v0_1)).1]) hd' (by first | omega | (simp; omega)))
def Q12o (p1 : Val) (p2 : BA) (o0 : Decoder) : List ByteArray × Decoder := ((dE xS p1 p2).1, ft o0 (isM p1 && (dE xS p1 p2).2))
theorem Q14x (p1 : Val) (p2 : BA) (o0 : Decoder) : ∀ (l : List Val) (i : Nat) (b : Bool) (a : List ByteArray), Q5g p1 p2 o0 l i b a = (b || !(l.all fun x => (xS x).2), a ++ l.map (fun x => (xS x).1))
  | [], _, b, a => by rw [Q5g]; simp
  | x :: l, i, b, a => by
    rw [Q5g]
    refine (Q14x p1 p2 o0 l (i + 1) (b || !(xS x).2) (a ++ [(xS x).1])).trans ?_
    simp only [List.append_assoc, List.singleton_append, List.map_cons, List.all_cons, Bool.not_and, Bool.or_assoc]
theorem Q1tz (p1 : Val) (p2 : BA) (o0 : Decoder) : Q12o p1 p2 o0 = (((Q5g p1 p2 o0 (s_Kj p1 p2 4 o0).1.list 0 (s_Kj p1 p2 4 o0).2.failed []).2, (Decoder.mk (Q5g p1 p2 o0 (s_Kj p1 p2 4 o0).1.list 0 (s_Kj p1 p2 4 o0).2.failed []).1))) := by
  rw [Q14x]
  unfold s_Kj Q12o
  simp only [getL, Q3o]
  refine Prod.ext rfl ?_
  rw [Q6f o0.failed (isM p1) _ _ _ (Qfe (prt p1 p2)), Q3y]
  rfl
def Q1tp (p1 : Val) (p2 : BA) (o0 : Decoder) : En := .call 141 [.bx 0 0, .agg (Val.cells p1), .str p2, .fn 142 [.bx 0 0] []] [⟨1, 0, false, (Decoder.cells o0)⟩]
def Q1xm (_p1 : Val) (_p2 : BA) (_o0 : Decoder) (q0 : List ByteArray) (q1 : Decoder) : Rs := .ret (.sl (Qj q0)) [⟨1, 0, false, (Decoder.cells q1)⟩]
def Q1pw (p1 : Val) (p2 : BA) (o0 : Decoder) : Rs := Q1xm p1 p2 o0 (Q12o p1 p2 o0).1 (Q12o p1 p2 o0).2
def Q1l7 (p1 : Val) : Prop := Val.Sm 1000000000 p1
theorem Q13m (p1 : Val) (p2 : BA) (o0 : Decoder) (H : Q1l7 p1) : (H_Kj p1) ∧ (Qcm p1 p2 o0) ∧ True := by
  have hl := Qf8 (Q3t H p2)
  refine ⟨H, ?_, trivial⟩
  unfold Qcm s_Kj
  simp only [getL]
  exact ⟨Nat.le_trans hl.1 (Nat.le_of_ble_eq_true rfl), trivial⟩
theorem Q1vo (p1 : Val) (p2 : BA) (o0 : Decoder) (H : Q1l7 p1) : Q7 G (Q1tp p1 p2 o0) (Q1pw p1 p2 o0) := by
 unfold Q1pw
 rw [Q1tz]
 have hl0 := Qzu p1 p2 o0 ((Q13m p1 p2 o0 H).2.1) (s_Kj p1 p2 4 o0).1.list 0 (s_Kj p1 p2 4 o0).2.failed [] (by simp) (by simp)
 obtain ⟨z0, zo0, hl0⟩ := hl0
 exact Q8 (fn := Ir.K13) rfl (h := [⟨1, 0, false, (Decoder.cells o0)⟩]) (vw := []) VOK.nil [hP 8 (Qh (Val.rows (s_Kj p1 p2 4 o0).1.list) (List.length (s_Kj p1 p2 4 o0).1.list) (Val.Q5 (s_Kj p1 p2 4 o0).1.list)), hS 0 true (Q75 (Q5g p1 p2 o0 (s_Kj p1 p2 4 o0).1.list 0 (s_Kj p1 p2 4 o0).2.failed []).2 1 rfl), hQ (Q1h (Q5g p1 p2 o0 (s_Kj p1 p2 4 o0).1.list 0 (s_Kj p1 p2 4 o0).2.failed []).2).symm] [aN (t_Kj p1 p2 4 o0 (Q13m p1 p2 o0 H).1), aV [(1, Qj (Q5g p1 p2 o0 (s_Kj p1 p2 4 o0).1.list 0 (s_Kj p1 p2 4 o0).2.failed []).2)] hl0] (by kernel_rfl)
def s_Kq (p1 : Val) (o0 : Decoder) : Requirement × Decoder := ((Requirement.dec p1).1, ft o0 (Requirement.dec p1).2)
theorem e_Kq (p1 : Val) (o0 : Decoder) : s_Kq p1 o0 = (((Requirement.mk (s_Kv p1 Qs (s_Kw p1 o0).2).1 (s_Kn p1 Q5j (s_Kv p1 Qs (s_Kw p1 o0).2).2).1 (Q12o p1 Q27 (s_Kn p1 Q5j (s_Kv p1 Qs (s_Kw p1 o0).2).2).2).1), (Q12o p1 Q27 (s_Kn p1 Q5j (s_Kv p1 Qs (s_Kw p1 o0).2).2).2).2)) := by
  simp only [s_Kw, s_Kn, s_Kv, Q12o, s_Kq, Requirement.dec, Qaq, Bool.and_assoc, Bool.and_left_comm, Bool.and_comm, Bool.and_self_left]
def c_Kq (p1 : Val) (o0 : Decoder) : En := .call 88 [.bx 0 0, .agg (Val.cells p1)] [⟨1, 0, false, (Decoder.cells o0)⟩]
def r_Kq (_p1 : Val) (_o0 : Decoder) (q0 : Requirement) (q1 : Decoder) : Rs := .ret (.agg (Requirement.cells q0)) [⟨1, 0, false, (Decoder.cells q1)⟩]
def a_Kq (p1 : Val) (o0 : Decoder) : Rs := r_Kq p1 o0 (s_Kq p1 o0).1 (s_Kq p1 o0).2
def H_Kq (p1 : Val) : Prop := Val.Sm 1000000000 p1
theorem Q12y (p1 : Val) (_o0 : Decoder) (H : H_Kq p1) : (H_Kv p1) ∧ (H_Kn p1) ∧ (Q1l7 p1) ∧ True := by
  repeat' with_reducible apply And.intro
  all_goals first | exact True.intro | exact H | exact Qas (Q3t H _)
theorem t_Kq (p1 : Val) (o0 : Decoder) (H : H_Kq p1) : Q7 G (c_Kq p1 o0) (a_Kq p1 o0) := by
 unfold a_Kq
 rw [e_Kq]
 exact Q8 (fn := Ir.Kq) rfl (h := [⟨1, 0, false, (Decoder.cells o0)⟩]) (vw := []) VOK.nil [] [aN (t_Kw p1 o0), aN (t_Kv p1 Qs (s_Kw p1 o0).2 (Q12y p1 o0 H).1), aN (t_Kn p1 Q5j (s_Kv p1 Qs (s_Kw p1 o0).2).2 (Q12y p1 o0 H).2.1), aN (Q1vo p1 Q27 (s_Kn p1 Q5j (s_Kv p1 Qs (s_Kw p1 o0).2).2).2 (Q12y p1 o0 H).2.2.1)] (by kernel_rfl)
def Q5b (p1 : Val) (p2 : BA) (o0 : Decoder) : List Val → Nat → Bool → (List Requirement) → Bool × (List Requirement)
 | [], _i0, v0_1, v0_2 =>
  (v0_1, v0_2)
 | x0 :: r0, i0, v0_1, v0_2 =>
  Q5b p1 p2 o0 r0 (i0 + 1) (s_Kq x0 (Decoder.mk v0_1)).2.failed (v0_2 ++ [(s_Kq x0 (Decoder.mk v0_1)).1])
def Qxv (p1 : Val) (p2 : BA) (o0 : Decoder) (i0 : Nat) (_v0_1 : Bool) (v0_2 : List Requirement) : List PV :=
  [.un, .un, .un, .fn 88 [.bx 0 0] []] ++ nuns 5 ++ [.ms 1 3 0 (List.length v0_2)] ++ nuns 6 ++ [.sl (Val.rows (s_Kj p1 p2 4 o0).1.list), .int .i64 ((List.length (s_Kj p1 p2 4 o0).1.list) : Int), .int .i64 (i0 : Int)] ++ nuns 11
def Qjh (_p1 : Val) (_p2 : BA) (_o0 : Decoder) (_i0 : Nat) (v0_1 : Bool) (v0_2 : List Requirement) : List Ob :=
  [⟨1, 0, false, [.bool v0_1]⟩, ⟨3, 0, true, (Requirement.rows v0_2).flatten⟩]
def Qh4 (p1 : Val) (p2 : BA) (o0 : Decoder) (i0 : Nat) (v0_1 : Bool) (v0_2 : List Requirement) : En := .loop 1 Ir.Qjr Ir.Q1kd (Qxv p1 p2 o0 i0 v0_1 v0_2) (Qjh p1 p2 o0 i0 v0_1 v0_2)
def Qsl (_p1 : Val) (_p2 : BA) (_o0 : Decoder) (q0 : Bool) (q1 : List Requirement) (z : Nat → PV) (_zo : Nat → List PV) : St :=
  ⟨zr z 0 9 ++ [.ms 1 3 0 (List.length q1)] ++ zr z 10 20, [(0, ⟨1, 0, false, [.bool q0]⟩), (1, ⟨3, 0, true, (Requirement.rows q1).flatten⟩)], 66⟩
theorem Q14s (p1 : Val) (p2 : BA) (o0 : Decoder) (i0 : Nat) (v0_1 : Bool) (v0_2 : List Requirement) : VOK (Go.Pv.look (number 0 (Qjh p1 p2 o0 i0 v0_1 v0_2))) [(1, Requirement.rows v0_2)] := (VOK.cons (show Seen _ _ from Q3g (ob := ⟨3, 0, true, (Requirement.rows v0_2).flatten⟩) (Requirement.Q9 v0_2 3 rfl)) VOK.nil)
def Qg1 (p1 : Val) (p2 : BA) (o0 : Decoder) (e : En) (q : Bool × (List Requirement)) : Prop := ∃ z zo, Q7 G e (.st (.exit 0) (Qsl p1 p2 o0 q.1 q.2 z zo))
theorem Qwr (p1 : Val) (p2 : BA) (o0 : Decoder) {e e' : En} (h : ∀ r, Q7 G e r → Q7 G e' r) : ∀ q, Qg1 p1 p2 o0 e q → Qg1 p1 p2 o0 e' q
  | _, ⟨z, zo, hz⟩ => ⟨z, zo, h _ hz⟩
def Qd4 (p1 : Val) (p2 : BA) (o0 : Decoder) : Prop := (List.length (s_Kj p1 p2 4 o0).1.list ≤ 137438953472) ∧ (∀ x0 ∈ (s_Kj p1 p2 4 o0).1.list, H_Kq x0) ∧ True
def Qsd (p1 : Val) (p2 : BA) (o0 : Decoder) (i0 : Nat) (_v0_1 : Bool) (_v0_2 : List Requirement) : List PV :=
  [.un, .un, .un, .fn 88 [.bx 0 0] []] ++ nuns 12 ++ [.sl (Val.rows (s_Kj p1 p2 4 o0).1.list), .int .i64 ((List.length (s_Kj p1 p2 4 o0).1.list) : Int), .int .i64 (i0 : Int), .bool false]
def Qm0 (_p1 : Val) (_p2 : BA) (_o0 : Decoder) (_i0 : Nat) (_v0_1 : Bool) (_v0_2 : List Requirement) : List (Nat × List PV) :=
  []
theorem Q1cc (p1 : Val) (p2 : BA) (o0 : Decoder) (_H : Qd4 p1 p2 o0) (i0 : Nat) (v0_1 : Bool) (v0_2 : List Requirement) (_ho0_0 : List.length v0_2 ≤ i0) (hc0 : (decide ((i0 : Int) < ((List.length (s_Kj p1 p2 4 o0).1.list) : Int))) = false) : Qg1 p1 p2 o0 (Qh4 p1 p2 o0 i0 v0_1 v0_2) (v0_1, v0_2) := by
 exact ⟨(envF (Qsd p1 p2 o0 i0 v0_1 v0_2)), (zoF (Qm0 p1 p2 o0 i0 v0_1 v0_2)), Qg (Q14s p1 p2 o0 i0 v0_1 v0_2) (x := ((.exit 0), Qsl p1 p2 o0 v0_1 v0_2 (envF (Qsd p1 p2 o0 i0 v0_1 v0_2)) (zoF (Qm0 p1 p2 o0 i0 v0_1 v0_2)))) [hB 0 hc0] [] (by kernel_rfl)⟩
theorem Q18e (p1 : Val) (p2 : BA) (o0 : Decoder) (H : Qd4 p1 p2 o0) (x0 : Val) (i0 : Nat) (v0_1 : Bool) (v0_2 : List Requirement) (hx0 : (s_Kj p1 p2 4 o0).1.list[i0]? = some x0) (hi0 : i0 < List.length (s_Kj p1 p2 4 o0).1.list) (ho0_0 : List.length v0_2 ≤ i0) (hc0 : (decide ((i0 : Int) < ((List.length (s_Kj p1 p2 4 o0).1.list) : Int))) = true) {r : Rs} (hr : Q7 G (Qh4 p1 p2 o0 (i0 + 1) (s_Kq x0 (Decoder.mk v0_1)).2.failed (v0_2 ++ [(s_Kq x0 (Decoder.mk v0_1)).1])) r) : Q7 G (Qh4 p1 p2 o0 i0 v0_1 v0_2) r := by
 have hB0 := H.1
 exact Qk (Q14s p1 p2 o0 i0 v0_1 v0_2) (y := (Qxv p1 p2 o0 (i0 + 1) (s_Kq x0 (Decoder.mk v0_1)).2.failed (v0_2 ++ [(s_Kq x0 (Decoder.mk v0_1)).1]), Qjh p1 p2 o0 (i0 + 1) (s_Kq x0 (Decoder.mk v0_1)).2.failed (v0_2 ++ [(s_Kq x0 (Decoder.mk v0_1)).1]))) [hB 0 hc0, hP 0 (Q1j 5 (Val.rows (s_Kj p1 p2 4 o0).1.list) i0 _ (Val.Qc hx0) rfl), hV 8 [(642, Requirement.rows (v0_2 ++ [(s_Kq x0 (Decoder.mk v0_1)).1]))] (Q3z 1 578 642 3 48 0 0 true (Requirement.rows v0_2) (Requirement.rows (v0_2 ++ [(s_Kq x0 (Decoder.mk v0_1)).1])) (Requirement.cells (s_Kq x0 (Decoder.mk v0_1)).1) (List.length v0_2) (List.length (v0_2 ++ [(s_Kq x0 (Decoder.mk v0_1)).1])) rfl (Requirement.Q5 v0_2).symm (Requirement.Q5 (v0_2 ++ [(s_Kq x0 (Decoder.mk v0_1)).1])).symm (Requirement.Q14 v0_2 (s_Kq x0 (Decoder.mk v0_1)).1) (Requirement.Qm v0_2) rfl (by omega)), hS 0 true (Requirement.Q9 (v0_2 ++ [(s_Kq x0 (Decoder.mk v0_1)).1]) 3 rfl), hP 1 (Q22 i0 (by omega))] [aN (t_Kq x0 (Decoder.mk v0_1) (H.2.1 x0 (Q2a hx0)))] (by kernel_rfl) hr
theorem Qxb (p1 : Val) (p2 : BA) (o0 : Decoder) (H : Qd4 p1 p2 o0) : ∀ (r0 : List Val) (i0 : Nat) (v0_1 : Bool) (v0_2 : List Requirement), List.drop i0 (s_Kj p1 p2 4 o0).1.list = r0 → List.length v0_2 ≤ i0 → Qg1 p1 p2 o0 (Qh4 p1 p2 o0 i0 v0_1 v0_2) (Q5b p1 p2 o0 r0 i0 v0_1 v0_2)
 | [], i0, v0_1, v0_2, hd, ho0_0 => by
  have hc0 : (decide ((i0 : Int) < ((List.length (s_Kj p1 p2 4 o0).1.list) : Int))) = false := by have := Q19 hd; simp; omega
  rw [Q5b]
  exact Q1cc p1 p2 o0 H i0 v0_1 v0_2 ho0_0 hc0
 | x0 :: r0, i0, v0_1, v0_2, hd, ho0_0 => by
  obtain ⟨hx0, hi0, hd'⟩ := Q11 hd
  have hc0 : (decide ((i0 : Int) < ((List.length (s_Kj p1 p2 4 o0).1.list) : Int))) = true := by simp; omega
  rw [Q5b]
  exact Qwr p1 p2 o0 (fun r hr => Q18e p1 p2 o0 H x0 i0 v0_1 v0_2 hx0 hi0 ho0_0 hc0 hr) _ (Qxb p1 p2 o0 H r0 (i0 + 1) (s_Kq x0 (Decoder.mk v0_1)).2.failed (v0_2 ++ [(s_Kq x0 (Decoder.mk v0_1)).1]) hd' (by first | omega | (simp; omega)))
def Q4p (p1 : Val) (p2 : BA) (o0 : Decoder) : List Requirement × Decoder := ((dE Requirement.dec p1 p2).1, ft o0 (isM p1 && (dE Requirement.dec p1 p2).2))
theorem Q17e (p1 : Val) (p2 : BA) (o0 : Decoder) : ∀ (l : List Val) (i : Nat) (b : Bool) (a : List Requirement), Q5b p1 p2 o0 l i b a = (b || !(l.all fun x => (Requirement.dec x).2), a ++ l.map (fun x => (Requirement.dec x).1))
  | [], _, b, a => by rw [Q5b]; simp
  | x :: l, i, b, a => by
    rw [Q5b]
    refine (Q17e p1 p2 o0 l (i + 1) (b || !(Requirement.dec x).2) (a ++ [(Requirement.dec x).1])).trans ?_
    simp only [List.append_assoc, List.singleton_append, List.map_cons, List.all_cons, Bool.not_and, Bool.or_assoc]
theorem Q1rz (p1 : Val) (p2 : BA) (o0 : Decoder) : Q4p p1 p2 o0 = (((Q5b p1 p2 o0 (s_Kj p1 p2 4 o0).1.list 0 (s_Kj p1 p2 4 o0).2.failed []).2, (Decoder.mk (Q5b p1 p2 o0 (s_Kj p1 p2 4 o0).1.list 0 (s_Kj p1 p2 4 o0).2.failed []).1))) := by
  rw [Q17e]
  unfold s_Kj Q4p
  simp only [getL, Q3o]
  refine Prod.ext rfl ?_
  rw [Q6f o0.failed (isM p1) _ _ _ (Qfe (prt p1 p2)), Q3y]
  rfl
def Q1v2 (p1 : Val) (p2 : BA) (o0 : Decoder) : En := .call 87 [.bx 0 0, .agg (Val.cells p1), .str p2, .fn 88 [.bx 0 0] []] [⟨1, 0, false, (Decoder.cells o0)⟩]
def Q1vb (_p1 : Val) (_p2 : BA) (_o0 : Decoder) (q0 : List Requirement) (q1 : Decoder) : Rs := .ret (.sl (Requirement.rows q0)) [⟨1, 0, false, (Decoder.cells q1)⟩]
def Q1o4 (p1 : Val) (p2 : BA) (o0 : Decoder) : Rs := Q1vb p1 p2 o0 (Q4p p1 p2 o0).1 (Q4p p1 p2 o0).2
def Q1b5 (p1 : Val) : Prop := Val.Sm 1000000000 p1
theorem Q13r (p1 : Val) (p2 : BA) (o0 : Decoder) (H : Q1b5 p1) : (H_Kj p1) ∧ (Qd4 p1 p2 o0) ∧ True := by
  have hl := Qf8 (Q3t H p2)
  refine ⟨H, ?_, trivial⟩
  unfold Qd4 s_Kj
  simp only [getL]
  exact ⟨Nat.le_trans hl.1 (Nat.le_of_ble_eq_true rfl), hl.2, trivial⟩
theorem Q1h8 (p1 : Val) (p2 : BA) (o0 : Decoder) (H : Q1b5 p1) : Q7 G (Q1v2 p1 p2 o0) (Q1o4 p1 p2 o0) := by
 unfold Q1o4
 rw [Q1rz]
 have hl0 := Qxb p1 p2 o0 ((Q13r p1 p2 o0 H).2.1) (s_Kj p1 p2 4 o0).1.list 0 (s_Kj p1 p2 4 o0).2.failed [] (by simp) (by simp)
 obtain ⟨z0, zo0, hl0⟩ := hl0
 exact Q8 (fn := Ir.K17) rfl (h := [⟨1, 0, false, (Decoder.cells o0)⟩]) (vw := []) VOK.nil [hP 8 (Qh (Val.rows (s_Kj p1 p2 4 o0).1.list) (List.length (s_Kj p1 p2 4 o0).1.list) (Val.Q5 (s_Kj p1 p2 4 o0).1.list)), hS 0 true (Requirement.Q9 (Q5b p1 p2 o0 (s_Kj p1 p2 4 o0).1.list 0 (s_Kj p1 p2 4 o0).2.failed []).2 3 rfl), hQ (Requirement.Q5 (Q5b p1 p2 o0 (s_Kj p1 p2 4 o0).1.list 0 (s_Kj p1 p2 4 o0).2.failed []).2).symm] [aN (t_Kj p1 p2 4 o0 (Q13r p1 p2 o0 H).1), aV [(1, Requirement.rows (Q5b p1 p2 o0 (s_Kj p1 p2 4 o0).1.list 0 (s_Kj p1 p2 4 o0).2.failed []).2)] hl0] (by kernel_rfl)
def s_Km (p1 : Val) (o0 : Decoder) : NodeTerm × Decoder := ((NodeTerm.dec p1).1, ft o0 (NodeTerm.dec p1).2)
theorem e_Km (p1 : Val) (o0 : Decoder) : s_Km p1 o0 = (((NodeTerm.mk (s_Ki p1 Qa (s_Kw p1 o0).2).1 (Q4p p1 Qb (s_Ki p1 Qa (s_Kw p1 o0).2).2).1 (s_Kn p1 Qw (Q4p p1 Qb (s_Ki p1 Qa (s_Kw p1 o0).2).2).2).1), (s_Kn p1 Qw (Q4p p1 Qb (s_Ki p1 Qa (s_Kw p1 o0).2).2).2).2)) := by
  simp only [s_Kw, s_Kn, s_Ki, Q4p, s_Km, NodeTerm.dec, Qaq, Bool.and_assoc, Bool.and_left_comm, Bool.and_self_left]
def c_Km (p1 : Val) (o0 : Decoder) : En := .call 90 [.bx 0 0, .agg (Val.cells p1)] [⟨1, 0, false, (Decoder.cells o0)⟩]
def r_Km (_p1 : Val) (_o0 : Decoder) (q0 : NodeTerm) (q1 : Decoder) : Rs := .ret (.agg (NodeTerm.cells q0)) [⟨1, 0, false, (Decoder.cells q1)⟩]
def a_Km (p1 : Val) (o0 : Decoder) : Rs := r_Km p1 o0 (s_Km p1 o0).1 (s_Km p1 o0).2
def H_Km (p1 : Val) : Prop := Val.Sm 1000000000 p1
theorem Q13d (p1 : Val) (_o0 : Decoder) (H : H_Km p1) : (H_Ki p1) ∧ (Q1b5 p1) ∧ (H_Kn p1) ∧ True := by
  repeat' with_reducible apply And.intro
  all_goals first | exact True.intro | exact H | exact Qas (Q3t H _)
theorem t_Km (p1 : Val) (o0 : Decoder) (H : H_Km p1) : Q7 G (c_Km p1 o0) (a_Km p1 o0) := by
 unfold a_Km
 rw [e_Km]
 exact Q8 (fn := Ir.Km) rfl (h := [⟨1, 0, false, (Decoder.cells o0)⟩]) (vw := []) VOK.nil [] [aN (t_Kw p1 o0), aN (t_Ki p1 Qa (s_Kw p1 o0).2 (Q13d p1 o0 H).1), aN (Q1h8 p1 Qb (s_Ki p1 Qa (s_Kw p1 o0).2).2 (Q13d p1 o0 H).2.1), aN (t_Kn p1 Qw (Q4p p1 Qb (s_Ki p1 Qa (s_Kw p1 o0).2).2).2 (Q13d p1 o0 H).2.2.1)] (by kernel_rfl)
def Q5h (p1 : Val) (p2 : BA) (o0 : Decoder) : List Val → Nat → Bool → (List NodeTerm) → Bool × (List NodeTerm)
 | [], _i0, v0_1, v0_2 =>
  (v0_1, v0_2)
 | x0 :: r0, i0, v0_1, v0_2 =>
  Q5h p1 p2 o0 r0 (i0 + 1) (s_Km x0 (Decoder.mk v0_1)).2.failed (v0_2 ++ [(s_Km x0 (Decoder.mk v0_1)).1])
def Qz2 (p1 : Val) (p2 : BA) (o0 : Decoder) (i0 : Nat) (_v0_1 : Bool) (v0_2 : List NodeTerm) : List PV :=
  [.un, .un, .un, .fn 90 [.bx 0 0] []] ++ nuns 5 ++ [.ms 1 3 0 (List.length v0_2)] ++ nuns 6 ++ [.sl (Val.rows (s_Kj p1 p2 4 o0).1.list), .int .i64 ((List.length (s_Kj p1 p2 4 o0).1.list) : Int), .int .i64 (i0 : Int)] ++ nuns 11
def Qmz (_p1 : Val) (_p2 : BA) (_o0 : Decoder) (_i0 : Nat) (v0_1 : Bool) (v0_2 : List NodeTerm) : List Ob :=
  [⟨1, 0, false, [.bool v0_1]⟩, ⟨3, 0, true, (NodeTerm.rows v0_2).flatten⟩]
def Qgv (p1 : Val) (p2 : BA) (o0 : Decoder) (i0 : Nat) (v0_1 : Bool) (v0_2 : List NodeTerm) : En := .loop 1 Ir.Qmh Ir.Q1is (Qz2 p1 p2 o0 i0 v0_1 v0_2) (Qmz p1 p2 o0 i0 v0_1 v0_2)
def Qq0 (_p1 : Val) (_p2 : BA) (_o0 : Decoder) (q0 : Bool) (q1 : List NodeTerm) (z : Nat → PV) (_zo : Nat → List PV) : St :=
  ⟨zr z 0 9 ++ [.ms 1 3 0 (List.length q1)] ++ zr z 10 20, [(0, ⟨1, 0, false, [.bool q0]⟩), (1, ⟨3, 0, true, (NodeTerm.rows q1).flatten⟩)], 66⟩
theorem Q16t (p1 : Val) (p2 : BA) (o0 : Decoder) (i0 : Nat) (v0_1 : Bool) (v0_2 : List NodeTerm) : VOK (Go.Pv.look (number 0 (Qmz p1 p2 o0 i0 v0_1 v0_2))) [(1, NodeTerm.rows v0_2)] := (VOK.cons (show Seen _ _ from Q3g (ob := ⟨3, 0, true, (NodeTerm.rows v0_2).flatten⟩) (NodeTerm.Q9 v0_2 3 rfl)) VOK.nil)
def Qh0 (p1 : Val) (p2 : BA) (o0 : Decoder) (e : En) (q : Bool × (List NodeTerm)) : Prop := ∃ z zo, Q7 G e (.st (.exit 0) (Qq0 p1 p2 o0 q.1 q.2 z zo))
theorem Qvz (p1 : Val) (p2 : BA) (o0 : Decoder) {e e' : En} (h : ∀ r, Q7 G e r → Q7 G e' r) : ∀ q, Qh0 p1 p2 o0 e q → Qh0 p1 p2 o0 e' q
  | _, ⟨z, zo, hz⟩ => ⟨z, zo, h _ hz⟩
def Qcp (p1 : Val) (p2 : BA) (o0 : Decoder) : Prop := (List.length (s_Kj p1 p2 4 o0).1.list ≤ 137438953472) ∧ (∀ x0 ∈ (s_Kj p1 p2 4 o0).1.list, H_Km x0) ∧ True
def Qp9 (p1 : Val) (p2 : BA) (o0 : Decoder) (i0 : Nat) (_v0_1 : Bool) (_v0_2 : List NodeTerm) : List PV :=
  [.un, .un, .un, .fn 90 [.bx 0 0] []] ++ nuns 12 ++ [.sl (Val.rows (s_Kj p1 p2 4 o0).1.list), .int .i64 ((List.length (s_Kj p1 p2 4 o0).1.list) : Int), .int .i64 (i0 : Int), .bool false]
def Qko (_p1 : Val) (_p2 : BA) (_o0 : Decoder) (_i0 : Nat) (_v0_1 : Bool) (_v0_2 : List NodeTerm) : List (Nat × List PV) :=
  []
theorem Q1c8 (p1 : Val) (p2 : BA) (o0 : Decoder) (_H : Qcp p1 p2 o0) (i0 : Nat) (v0_1 : Bool) (v0_2 : List NodeTerm) (_ho0_0 : List.length v0_2 ≤ i0) (hc0 : (decide ((i0 : Int) < ((List.length (s_Kj p1 p2 4 o0).1.list) : Int))) = false) : Qh0 p1 p2 o0 (Qgv p1 p2 o0 i0 v0_1 v0_2) (v0_1, v0_2) := by
 exact ⟨(envF (Qp9 p1 p2 o0 i0 v0_1 v0_2)), (zoF (Qko p1 p2 o0 i0 v0_1 v0_2)), Qg (Q16t p1 p2 o0 i0 v0_1 v0_2) (x := ((.exit 0), Qq0 p1 p2 o0 v0_1 v0_2 (envF (Qp9 p1 p2 o0 i0 v0_1 v0_2)) (zoF (Qko p1 p2 o0 i0 v0_1 v0_2)))) [hB 0 hc0] [] (by kernel_rfl)⟩
theorem Q1bc (p1 : Val) (p2 : BA) (o0 : Decoder) (H : Qcp p1 p2 o0) (x0 : Val) (i0 : Nat) (v0_1 : Bool) (v0_2 : List NodeTerm) (hx0 : (s_Kj p1 p2 4 o0).1.list[i0]? = some x0) (hi0 : i0 < List.length (s_Kj p1 p2 4 o0).1.list) (ho0_0 : List.length v0_2 ≤ i0) (hc0 : (decide ((i0 : Int) < ((List.length (s_Kj p1 p2 4 o0).1.list) : Int))) = true) {r : Rs} (hr : Q7 G (Qgv p1 p2 o0 (i0 + 1) (s_Km x0 (Decoder.mk v0_1)).2.failed (v0_2 ++ [(s_Km x0 (Decoder.mk v0_1)).1])) r) : Q7 G (Qgv p1 p2 o0 i0 v0_1 v0_2) r := by
 have hB0 := H.1
 exact Qk (Q16t p1 p2 o0 i0 v0_1 v0_2) (y := (Qz2 p1 p2 o0 (i0 + 1) (s_Km x0 (Decoder.mk v0_1)).2.failed (v0_2 ++ [(s_Km x0 (Decoder.mk v0_1)).1]), Qmz p1 p2 o0 (i0 + 1) (s_Km x0 (Decoder.mk v0_1)).2.failed (v0_2 ++ [(s_Km x0 (Decoder.mk v0_1)).1]))) [hB 0 hc0, hP 0 (Q1j 5 (Val.rows (s_Kj p1 p2 4 o0).1.list) i0 _ (Val.Qc hx0) rfl), hV 8 [(642, NodeTerm.rows (v0_2 ++ [(s_Km x0 (Decoder.mk v0_1)).1]))] (Q3z 1 578 642 3 40 0 0 true (NodeTerm.rows v0_2) (NodeTerm.rows (v0_2 ++ [(s_Km x0 (Decoder.mk v0_1)).1])) (NodeTerm.cells (s_Km x0 (Decoder.mk v0_1)).1) (List.length v0_2) (List.length (v0_2 ++ [(s_Km x0 (Decoder.mk v0_1)).1])) rfl (NodeTerm.Q5 v0_2).symm (NodeTerm.Q5 (v0_2 ++ [(s_Km x0 (Decoder.mk v0_1)).1])).symm (NodeTerm.Q14 v0_2 (s_Km x0 (Decoder.mk v0_1)).1) (NodeTerm.Qm v0_2) rfl (by omega)), hS 0 true (NodeTerm.Q9 (v0_2 ++ [(s_Km x0 (Decoder.mk v0_1)).1]) 3 rfl), hP 1 (Q22 i0 (by omega))] [aN (t_Km x0 (Decoder.mk v0_1) (H.2.1 x0 (Q2a hx0)))] (by kernel_rfl) hr
theorem Q102 (p1 : Val) (p2 : BA) (o0 : Decoder) (H : Qcp p1 p2 o0) : ∀ (r0 : List Val) (i0 : Nat) (v0_1 : Bool) (v0_2 : List NodeTerm), List.drop i0 (s_Kj p1 p2 4 o0).1.list = r0 → List.length v0_2 ≤ i0 → Qh0 p1 p2 o0 (Qgv p1 p2 o0 i0 v0_1 v0_2) (Q5h p1 p2 o0 r0 i0 v0_1 v0_2)
 | [], i0, v0_1, v0_2, hd, ho0_0 => by
  have hc0 : (decide ((i0 : Int) < ((List.length (s_Kj p1 p2 4 o0).1.list) : Int))) = false := by have := Q19 hd; simp; omega
  rw [Q5h]
  exact Q1c8 p1 p2 o0 H i0 v0_1 v0_2 ho0_0 hc0
 | x0 :: r0, i0, v0_1, v0_2, hd, ho0_0 => by
  obtain ⟨hx0, hi0, hd'⟩ := Q11 hd
  have hc0 : (decide ((i0 : Int) < ((List.length (s_Kj p1 p2 4 o0).1.list) : Int))) = true := by simp; omega
  rw [Q5h]
  exact Qvz p1 p2 o0 (fun r hr => Q1bc p1 p2 o0 H x0 i0 v0_1 v0_2 hx0 hi0 ho0_0 hc0 hr) _ (Q102 p1 p2 o0 H r0 (i0 + 1) (s_Km x0 (Decoder.mk v0_1)).2.failed (v0_2 ++ [(s_Km x0 (Decoder.mk v0_1)).1]) hd' (by first | omega | (simp; omega)))
def Qdr (p1 : Val) (p2 : BA) (o0 : Decoder) : List NodeTerm × Decoder := ((dE NodeTerm.dec p1 p2).1, ft o0 (isM p1 && (dE NodeTerm.dec p1 p2).2))
theorem Q17a (p1 : Val) (p2 : BA) (o0 : Decoder) : ∀ (l : List Val) (i : Nat) (b : Bool) (a : List NodeTerm), Q5h p1 p2 o0 l i b a = (b || !(l.all fun x => (NodeTerm.dec x).2), a ++ l.map (fun x => (NodeTerm.dec x).1))
  | [], _, b, a => by rw [Q5h]; simp
  | x :: l, i, b, a => by
    rw [Q5h]
    refine (Q17a p1 p2 o0 l (i + 1) (b || !(NodeTerm.dec x).2) (a ++ [(NodeTerm.dec x).1])).trans ?_
    simp only [List.append_assoc, List.singleton_append, List.map_cons, List.all_cons, Bool.not_and, Bool.or_assoc]
theorem Q1wq (p1 : Val) (p2 : BA) (o0 : Decoder) : Qdr p1 p2 o0 = (((Q5h p1 p2 o0 (s_Kj p1 p2 4 o0).1.list 0 (s_Kj p1 p2 4 o0).2.failed []).2, (Decoder.mk (Q5h p1 p2 o0 (s_Kj p1 p2 4 o0).1.list 0 (s_Kj p1 p2 4 o0).2.failed []).1))) := by
  rw [Q17a]
  unfold s_Kj Qdr
  simp only [getL, Q3o]
  refine Prod.ext rfl ?_
  rw [Q6f o0.failed (isM p1) _ _ _ (Qfe (prt p1 p2)), Q3y]
  rfl
def Q1s0 (p1 : Val) (p2 : BA) (o0 : Decoder) : En := .call 89 [.bx 0 0, .agg (Val.cells p1), .str p2, .fn 90 [.bx 0 0] []] [⟨1, 0, false, (Decoder.cells o0)⟩]
def Q1x2 (_p1 : Val) (_p2 : BA) (_o0 : Decoder) (q0 : List NodeTerm) (q1 : Decoder) : Rs := .ret (.sl (NodeTerm.rows q0)) [⟨1, 0, false, (Decoder.cells q1)⟩]
def Q1qd (p1 : Val) (p2 : BA) (o0 : Decoder) : Rs := Q1x2 p1 p2 o0 (Qdr p1 p2 o0).1 (Qdr p1 p2 o0).2
def Q1l3 (p1 : Val) : Prop := Val.Sm 1000000000 p1
theorem Q17g (p1 : Val) (p2 : BA) (o0 : Decoder) (H : Q1l3 p1) : (H_Kj p1) ∧ (Qcp p1 p2 o0) ∧ True := by
  have hl := Qf8 (Q3t H p2)
  refine ⟨H, ?_, trivial⟩
  unfold Qcp s_Kj
  simp only [getL]
  exact ⟨Nat.le_trans hl.1 (Nat.le_of_ble_eq_true rfl), hl.2, trivial⟩
theorem Q1wz (p1 : Val) (p2 : BA) (o0 : Decoder) (H : Q1l3 p1) : Q7 G (Q1s0 p1 p2 o0) (Q1qd p1 p2 o0) := by
 unfold Q1qd
 rw [Q1wq]
 have hl0 := Q102 p1 p2 o0 ((Q17g p1 p2 o0 H).2.1) (s_Kj p1 p2 4 o0).1.list 0 (s_Kj p1 p2 4 o0).2.failed [] (by simp) (by simp)
 obtain ⟨z0, zo0, hl0⟩ := hl0
 exact Q8 (fn := Ir.K18) rfl (h := [⟨1, 0, false, (Decoder.cells o0)⟩]) (vw := []) VOK.nil [hP 8 (Qh (Val.rows (s_Kj p1 p2 4 o0).1.list) (List.length (s_Kj p1 p2 4 o0).1.list) (Val.Q5 (s_Kj p1 p2 4 o0).1.list)), hS 0 true (NodeTerm.Q9 (Q5h p1 p2 o0 (s_Kj p1 p2 4 o0).1.list 0 (s_Kj p1 p2 4 o0).2.failed []).2 3 rfl), hQ (NodeTerm.Q5 (Q5h p1 p2 o0 (s_Kj p1 p2 4 o0).1.list 0 (s_Kj p1 p2 4 o0).2.failed []).2).symm] [aN (t_Kj p1 p2 4 o0 (Q17g p1 p2 o0 H).1), aV [(1, NodeTerm.rows (Q5h p1 p2 o0 (s_Kj p1 p2 4 o0).1.list 0 (s_Kj p1 p2 4 o0).2.failed []).2)] hl0] (by kernel_rfl)
def s_Ko (p1 : Val) (o0 : Decoder) : PodTerm × Decoder := ((PodTerm.dec p1).1, ft o0 (PodTerm.dec p1).2)
theorem e_Ko (p1 : Val) (o0 : Decoder) : s_Ko p1 o0 = (((PodTerm.mk (s_Ki p1 Qa (s_Kw p1 o0).2).1 (s_Ki p1 Q2l (s_Ki p1 Qa (s_Kw p1 o0).2).2).1 (Q4p p1 Qb (s_Ki p1 Q2l (s_Ki p1 Qa (s_Kw p1 o0).2).2).2).1 (s_Kv p1 Ql (Q4p p1 Qb (s_Ki p1 Q2l (s_Ki p1 Qa (s_Kw p1 o0).2).2).2).2).1 (s_Kn p1 Qw (s_Kv p1 Ql (Q4p p1 Qb (s_Ki p1 Q2l (s_Ki p1 Qa (s_Kw p1 o0).2).2).2).2).2).1), (s_Kn p1 Qw (s_Kv p1 Ql (Q4p p1 Qb (s_Ki p1 Q2l (s_Ki p1 Qa (s_Kw p1 o0).2).2).2).2).2).2)) := by
  simp only [s_Kw, s_Kn, s_Kv, s_Ki, Q4p, s_Ko, PodTerm.dec, Qaq, Bool.and_assoc, Bool.and_left_comm, Bool.and_comm, Bool.and_self_left]
def c_Ko (p1 : Val) (o0 : Decoder) : En := .call 92 [.bx 0 0, .agg (Val.cells p1)] [⟨1, 0, false, (Decoder.cells o0)⟩]
def r_Ko (_p1 : Val) (_o0 : Decoder) (q0 : PodTerm) (q1 : Decoder) : Rs := .ret (.agg (PodTerm.cells q0)) [⟨1, 0, false, (Decoder.cells q1)⟩]
def a_Ko (p1 : Val) (o0 : Decoder) : Rs := r_Ko p1 o0 (s_Ko p1 o0).1 (s_Ko p1 o0).2
def H_Ko (p1 : Val) : Prop := Val.Sm 1000000000 p1
theorem Qnr (p1 : Val) (_o0 : Decoder) (H : H_Ko p1) : (H_Ki p1) ∧ (Q1b5 p1) ∧ (H_Kv p1) ∧ (H_Kn p1) ∧ True := by
  repeat' with_reducible apply And.intro
  all_goals first | exact True.intro | exact H | exact Qas (Q3t H _)
theorem t_Ko (p1 : Val) (o0 : Decoder) (H : H_Ko p1) : Q7 G (c_Ko p1 o0) (a_Ko p1 o0) := by
 unfold a_Ko
 rw [e_Ko]
 exact Q8 (fn := Ir.Ko) rfl (h := [⟨1, 0, false, (Decoder.cells o0)⟩]) (vw := []) VOK.nil [] [aN (t_Kw p1 o0), aN (t_Ki p1 Qa (s_Kw p1 o0).2 (Qnr p1 o0 H).1), aN (t_Ki p1 Q2l (s_Ki p1 Qa (s_Kw p1 o0).2).2 (Qnr p1 o0 H).1), aN (Q1h8 p1 Qb (s_Ki p1 Q2l (s_Ki p1 Qa (s_Kw p1 o0).2).2).2 (Qnr p1 o0 H).2.1), aN (t_Kv p1 Ql (Q4p p1 Qb (s_Ki p1 Q2l (s_Ki p1 Qa (s_Kw p1 o0).2).2).2).2 (Qnr p1 o0 H).2.2.1), aN (t_Kn p1 Qw (s_Kv p1 Ql (Q4p p1 Qb (s_Ki p1 Q2l (s_Ki p1 Qa (s_Kw p1 o0).2).2).2).2).2 (Qnr p1 o0 H).2.2.2.1)] (by kernel_rfl)
def Q58 (p1 : Val) (p2 : BA) (o0 : Decoder) : List Val → Nat → Bool → (List PodTerm) → Bool × (List PodTerm)
 | [], _i0, v0_1, v0_2 =>
  (v0_1, v0_2)
 | x0 :: r0, i0, v0_1, v0_2 =>
  Q58 p1 p2 o0 r0 (i0 + 1) (s_Ko x0 (Decoder.mk v0_1)).2.failed (v0_2 ++ [(s_Ko x0 (Decoder.mk v0_1)).1])
def Qyy (p1 : Val) (p2 : BA) (o0 : Decoder) (i0 : Nat) (_v0_1 : Bool) (v0_2 : List PodTerm) : List PV :=
  [.un, .un, .un, .fn 92 [.bx 0 0] []] ++ nuns 5 ++ [.ms 1 5 0 (List.length v0_2)] ++ nuns 6 ++ [.sl (Val.rows (s_Kj p1 p2 4 o0).1.list), .int .i64 ((List.length (s_Kj p1 p2 4 o0).1.list) : Int), .int .i64 (i0 : Int)] ++ nuns 11
def Qot (_p1 : Val) (_p2 : BA) (_o0 : Decoder) (_i0 : Nat) (v0_1 : Bool) (v0_2 : List PodTerm) : List Ob :=
  [⟨1, 0, false, [.bool v0_1]⟩, ⟨5, 0, true, (PodTerm.rows v0_2).flatten⟩]
def Qhq (p1 : Val) (p2 : BA) (o0 : Decoder) (i0 : Nat) (v0_1 : Bool) (v0_2 : List PodTerm) : En := .loop 1 Ir.Qiv Ir.Q1ip (Qyy p1 p2 o0 i0 v0_1 v0_2) (Qot p1 p2 o0 i0 v0_1 v0_2)
def Qro (_p1 : Val) (_p2 : BA) (_o0 : Decoder) (q0 : Bool) (q1 : List PodTerm) (z : Nat → PV) (_zo : Nat → List PV) : St :=
  ⟨zr z 0 9 ++ [.ms 1 5 0 (List.length q1)] ++ zr z 10 20, [(0, ⟨1, 0, false, [.bool q0]⟩), (1, ⟨5, 0, true, (PodTerm.rows q1).flatten⟩)], 66⟩
theorem Q15t (p1 : Val) (p2 : BA) (o0 : Decoder) (i0 : Nat) (v0_1 : Bool) (v0_2 : List PodTerm) : VOK (Go.Pv.look (number 0 (Qot p1 p2 o0 i0 v0_1 v0_2))) [(1, PodTerm.rows v0_2)] := (VOK.cons (show Seen _ _ from Q3g (ob := ⟨5, 0, true, (PodTerm.rows v0_2).flatten⟩) (PodTerm.Q9 v0_2 5 rfl)) VOK.nil)
def Qgo (p1 : Val) (p2 : BA) (o0 : Decoder) (e : En) (q : Bool × (List PodTerm)) : Prop := ∃ z zo, Q7 G e (.st (.exit 0) (Qro p1 p2 o0 q.1 q.2 z zo))
theorem Qw9 (p1 : Val) (p2 : BA) (o0 : Decoder) {e e' : En} (h : ∀ r, Q7 G e r → Q7 G e' r) : ∀ q, Qgo p1 p2 o0 e q → Qgo p1 p2 o0 e' q
  | _, ⟨z, zo, hz⟩ => ⟨z, zo, h _ hz⟩
def Qcj (p1 : Val) (p2 : BA) (o0 : Decoder) : Prop := (List.length (s_Kj p1 p2 4 o0).1.list ≤ 137438953472) ∧ (∀ x0 ∈ (s_Kj p1 p2 4 o0).1.list, H_Ko x0) ∧ True
def Qsw (p1 : Val) (p2 : BA) (o0 : Decoder) (i0 : Nat) (_v0_1 : Bool) (_v0_2 : List PodTerm) : List PV :=
  [.un, .un, .un, .fn 92 [.bx 0 0] []] ++ nuns 12 ++ [.sl (Val.rows (s_Kj p1 p2 4 o0).1.list), .int .i64 ((List.length (s_Kj p1 p2 4 o0).1.list) : Int), .int .i64 (i0 : Int), .bool false]
def Qld (_p1 : Val) (_p2 : BA) (_o0 : Decoder) (_i0 : Nat) (_v0_1 : Bool) (_v0_2 : List PodTerm) : List (Nat × List PV) :=
  []
theorem Q1c7 (p1 : Val) (p2 : BA) (o0 : Decoder) (_H : Qcj p1 p2 o0) (i0 : Nat) (v0_1 : Bool) (v0_2 : List PodTerm) (_ho0_0 : List.length v0_2 ≤ i0) (hc0 : (decide ((i0 : Int) < ((List.length (s_Kj p1 p2 4 o0).1.list) : Int))) = false) : Qgo p1 p2 o0 (Qhq p1 p2 o0 i0 v0_1 v0_2) (v0_1, v0_2) := by
 exact ⟨(envF (Qsw p1 p2 o0 i0 v0_1 v0_2)), (zoF (Qld p1 p2 o0 i0 v0_1 v0_2)), Qg (Q15t p1 p2 o0 i0 v0_1 v0_2) (x := ((.exit 0), Qro p1 p2 o0 v0_1 v0_2 (envF (Qsw p1 p2 o0 i0 v0_1 v0_2)) (zoF (Qld p1 p2 o0 i0 v0_1 v0_2)))) [hB 0 hc0] [] (by kernel_rfl)⟩
theorem Q1ce (p1 : Val) (p2 : BA) (o0 : Decoder) (H : Qcj p1 p2 o0) (x0 : Val) (i0 : Nat) (v0_1 : Bool) (v0_2 : List PodTerm) (hx0 : (s_Kj p1 p2 4 o0).1.list[i0]? = some x0) (hi0 : i0 < List.length (s_Kj p1 p2 4 o0).1.list) (ho0_0 : List.length v0_2 ≤ i0) (hc0 : (decide ((i0 : Int) < ((List.length (s_Kj p1 p2 4 o0).1.list) : Int))) = true) {r : Rs} (hr : Q7 G (Qhq p1 p2 o0 (i0 + 1) (s_Ko x0 (Decoder.mk v0_1)).2.failed (v0_2 ++ [(s_Ko x0 (Decoder.mk v0_1)).1])) r) : Q7 G (Qhq p1 p2 o0 i0 v0_1 v0_2) r := by
 have hB0 := H.1
 exact Qk (Q15t p1 p2 o0 i0 v0_1 v0_2) (y := (Qyy p1 p2 o0 (i0 + 1) (s_Ko x0 (Decoder.mk v0_1)).2.failed (v0_2 ++ [(s_Ko x0 (Decoder.mk v0_1)).1]), Qot p1 p2 o0 (i0 + 1) (s_Ko x0 (Decoder.mk v0_1)).2.failed (v0_2 ++ [(s_Ko x0 (Decoder.mk v0_1)).1]))) [hB 0 hc0, hP 0 (Q1j 5 (Val.rows (s_Kj p1 p2 4 o0).1.list) i0 _ (Val.Qc hx0) rfl), hV 8 [(642, PodTerm.rows (v0_2 ++ [(s_Ko x0 (Decoder.mk v0_1)).1]))] (Q3z 1 578 642 5 56 0 0 true (PodTerm.rows v0_2) (PodTerm.rows (v0_2 ++ [(s_Ko x0 (Decoder.mk v0_1)).1])) (PodTerm.cells (s_Ko x0 (Decoder.mk v0_1)).1) (List.length v0_2) (List.length (v0_2 ++ [(s_Ko x0 (Decoder.mk v0_1)).1])) rfl (PodTerm.Q5 v0_2).symm (PodTerm.Q5 (v0_2 ++ [(s_Ko x0 (Decoder.mk v0_1)).1])).symm (PodTerm.Q14 v0_2 (s_Ko x0 (Decoder.mk v0_1)).1) (PodTerm.Qm v0_2) rfl (by omega)), hS 0 true (PodTerm.Q9 (v0_2 ++ [(s_Ko x0 (Decoder.mk v0_1)).1]) 5 rfl), hP 1 (Q22 i0 (by omega))] [aN (t_Ko x0 (Decoder.mk v0_1) (H.2.1 x0 (Q2a hx0)))] (by kernel_rfl) hr
theorem Qxx (p1 : Val) (p2 : BA) (o0 : Decoder) (H : Qcj p1 p2 o0) : ∀ (r0 : List Val) (i0 : Nat) (v0_1 : Bool) (v0_2 : List PodTerm), List.drop i0 (s_Kj p1 p2 4 o0).1.list = r0 → List.length v0_2 ≤ i0 → Qgo p1 p2 o0 (Qhq p1 p2 o0 i0 v0_1 v0_2) (Q58 p1 p2 o0 r0 i0 v0_1 v0_2)
 | [], i0, v0_1, v0_2, hd, ho0_0 => by
  have hc0 : (decide ((i0 : Int) < ((List.length (s_Kj p1 p2 4 o0).1.list) : Int))) = false := by have := Q19 hd; simp; omega
  rw [Q58]
  exact Q1c7 p1 p2 o0 H i0 v0_1 v0_2 ho0_0 hc0
 | x0 :: r0, i0, v0_1, v0_2, hd, ho0_0 => by
  obtain ⟨hx0, hi0, hd'⟩ := Q11 hd
  have hc0 : (decide ((i0 : Int) < ((List.length (s_Kj p1 p2 4 o0).1.list) : Int))) = true := by simp; omega
  rw [Q58]
  exact Qw9 p1 p2 o0 (fun r hr => Q1ce p1 p2 o0 H x0 i0 v0_1 v0_2 hx0 hi0 ho0_0 hc0 hr) _ (Qxx p1 p2 o0 H r0 (i0 + 1) (s_Ko x0 (Decoder.mk v0_1)).2.failed (v0_2 ++ [(s_Ko x0 (Decoder.mk v0_1)).1]) hd' (by first | omega | (simp; omega)))
def Qjq (p1 : Val) (p2 : BA) (o0 : Decoder) : List PodTerm × Decoder := ((dE PodTerm.dec p1 p2).1, ft o0 (isM p1 && (dE PodTerm.dec p1 p2).2))
theorem Q14y (p1 : Val) (p2 : BA) (o0 : Decoder) : ∀ (l : List Val) (i : Nat) (b : Bool) (a : List PodTerm), Q58 p1 p2 o0 l i b a = (b || !(l.all fun x => (PodTerm.dec x).2), a ++ l.map (fun x => (PodTerm.dec x).1))
  | [], _, b, a => by rw [Q58]; simp
  | x :: l, i, b, a => by
    rw [Q58]
    refine (Q14y p1 p2 o0 l (i + 1) (b || !(PodTerm.dec x).2) (a ++ [(PodTerm.dec x).1])).trans ?_
    simp only [List.append_assoc, List.singleton_append, List.map_cons, List.all_cons, Bool.not_and, Bool.or_assoc]
theorem Q1t2 (p1 : Val) (p2 : BA) (o0 : Decoder) : Qjq p1 p2 o0 = (((Q58 p1 p2 o0 (s_Kj p1 p2 4 o0).1.list 0 (s_Kj p1 p2 4 o0).2.failed []).2, (Decoder.mk (Q58 p1 p2 o0 (s_Kj p1 p2 4 o0).1.list 0 (s_Kj p1 p2 4 o0).2.failed []).1))) := by
  rw [Q14y]
  unfold s_Kj Qjq
  simp only [getL, Q3o]
  refine Prod.ext rfl ?_
  rw [Q6f o0.failed (isM p1) _ _ _ (Qfe (prt p1 p2)), Q3y]
  rfl
def Q1v4 (p1 : Val) (p2 : BA) (o0 : Decoder) : En := .call 91 [.bx 0 0, .agg (Val.cells p1), .str p2, .fn 92 [.bx 0 0] []] [⟨1, 0, false, (Decoder.cells o0)⟩]
def Q1rm (_p1 : Val) (_p2 : BA) (_o0 : Decoder) (q0 : List PodTerm) (q1 : Decoder) : Rs := .ret (.sl (PodTerm.rows q0)) [⟨1, 0, false, (Decoder.cells q1)⟩]
def Q1p7 (p1 : Val) (p2 : BA) (o0 : Decoder) : Rs := Q1rm p1 p2 o0 (Qjq p1 p2 o0).1 (Qjq p1 p2 o0).2
def Q1ly (p1 : Val) : Prop := Val.Sm 1000000000 p1
theorem Q179 (p1 : Val) (p2 : BA) (o0 : Decoder) (H : Q1ly p1) : (H_Kj p1) ∧ (Qcj p1 p2 o0) ∧ True := by
  have hl := Qf8 (Q3t H p2)
  refine ⟨H, ?_, trivial⟩
  unfold Qcj s_Kj
  simp only [getL]
  exact ⟨Nat.le_trans hl.1 (Nat.le_of_ble_eq_true rfl), hl.2, trivial⟩
theorem Q1sr (p1 : Val) (p2 : BA) (o0 : Decoder) (H : Q1ly p1) : Q7 G (Q1v4 p1 p2 o0) (Q1p7 p1 p2 o0) := by
 unfold Q1p7
 rw [Q1t2]
 have hl0 := Qxx p1 p2 o0 ((Q179 p1 p2 o0 H).2.1) (s_Kj p1 p2 4 o0).1.list 0 (s_Kj p1 p2 4 o0).2.failed [] (by simp) (by simp)
 obtain ⟨z0, zo0, hl0⟩ := hl0
 exact Q8 (fn := Ir.K19) rfl (h := [⟨1, 0, false, (Decoder.cells o0)⟩]) (vw := []) VOK.nil [hP 8 (Qh (Val.rows (s_Kj p1 p2 4 o0).1.list) (List.length (s_Kj p1 p2 4 o0).1.list) (Val.Q5 (s_Kj p1 p2 4 o0).1.list)), hS 0 true (PodTerm.Q9 (Q58 p1 p2 o0 (s_Kj p1 p2 4 o0).1.list 0 (s_Kj p1 p2 4 o0).2.failed []).2 5 rfl), hQ (PodTerm.Q5 (Q58 p1 p2 o0 (s_Kj p1 p2 4 o0).1.list 0 (s_Kj p1 p2 4 o0).2.failed []).2).symm] [aN (t_Kj p1 p2 4 o0 (Q179 p1 p2 o0 H).1), aV [(1, PodTerm.rows (Q58 p1 p2 o0 (s_Kj p1 p2 4 o0).1.list 0 (s_Kj p1 p2 4 o0).2.failed []).2)] hl0] (by kernel_rfl)
def s_Kt (p1 : Val) (o0 : Decoder) : SpreadRule × Decoder := ((SpreadRule.dec p1).1, ft o0 (SpreadRule.dec p1).2)
theorem e_Kt (p1 : Val) (o0 : Decoder) : s_Kt p1 o0 = (((SpreadRule.mk (s_Kn p1 Q1i (s_Kw p1 o0).2).1 (s_Kv p1 Ql (s_Kn p1 Q1i (s_Kw p1 o0).2).2).1 (Q4p p1 Qb (s_Kv p1 Ql (s_Kn p1 Q1i (s_Kw p1 o0).2).2).2).1 (s_Ki p1 Qa (Q4p p1 Qb (s_Kv p1 Ql (s_Kn p1 Q1i (s_Kw p1 o0).2).2).2).2).1), (s_Ki p1 Qa (Q4p p1 Qb (s_Kv p1 Ql (s_Kn p1 Q1i (s_Kw p1 o0).2).2).2).2).2)) := by
  simp only [s_Kw, s_Kn, s_Kv, s_Ki, Q4p, s_Kt, SpreadRule.dec, Qaq, Bool.and_assoc, Bool.and_left_comm, Bool.and_comm, Bool.and_self_left]
def c_Kt (p1 : Val) (o0 : Decoder) : En := .call 94 [.bx 0 0, .agg (Val.cells p1)] [⟨1, 0, false, (Decoder.cells o0)⟩]
def r_Kt (_p1 : Val) (_o0 : Decoder) (q0 : SpreadRule) (q1 : Decoder) : Rs := .ret (.agg (SpreadRule.cells q0)) [⟨1, 0, false, (Decoder.cells q1)⟩]
def a_Kt (p1 : Val) (o0 : Decoder) : Rs := r_Kt p1 o0 (s_Kt p1 o0).1 (s_Kt p1 o0).2
def H_Kt (p1 : Val) : Prop := Val.Sm 1000000000 p1
theorem Qut (p1 : Val) (_o0 : Decoder) (H : H_Kt p1) : (H_Kn p1) ∧ (H_Kv p1) ∧ (Q1b5 p1) ∧ (H_Ki p1) ∧ True := by
  repeat' with_reducible apply And.intro
  all_goals first | exact True.intro | exact H | exact Qas (Q3t H _)
theorem t_Kt (p1 : Val) (o0 : Decoder) (H : H_Kt p1) : Q7 G (c_Kt p1 o0) (a_Kt p1 o0) := by
 unfold a_Kt
 rw [e_Kt]
 exact Q8 (fn := Ir.Kt) rfl (h := [⟨1, 0, false, (Decoder.cells o0)⟩]) (vw := []) VOK.nil [] [aN (t_Kw p1 o0), aN (t_Kn p1 Q1i (s_Kw p1 o0).2 (Qut p1 o0 H).1), aN (t_Kv p1 Ql (s_Kn p1 Q1i (s_Kw p1 o0).2).2 (Qut p1 o0 H).2.1), aN (Q1h8 p1 Qb (s_Kv p1 Ql (s_Kn p1 Q1i (s_Kw p1 o0).2).2).2 (Qut p1 o0 H).2.2.1), aN (t_Ki p1 Qa (Q4p p1 Qb (s_Kv p1 Ql (s_Kn p1 Q1i (s_Kw p1 o0).2).2).2).2 (Qut p1 o0 H).2.2.2.1)] (by kernel_rfl)
def Q50 (p1 : Val) (p2 : BA) (o0 : Decoder) : List Val → Nat → Bool → (List SpreadRule) → Bool × (List SpreadRule)
 | [], _i0, v0_1, v0_2 =>
  (v0_1, v0_2)
 | x0 :: r0, i0, v0_1, v0_2 =>
  Q50 p1 p2 o0 r0 (i0 + 1) (s_Kt x0 (Decoder.mk v0_1)).2.failed (v0_2 ++ [(s_Kt x0 (Decoder.mk v0_1)).1])
def Qyc (p1 : Val) (p2 : BA) (o0 : Decoder) (i0 : Nat) (_v0_1 : Bool) (v0_2 : List SpreadRule) : List PV :=
  [.un, .un, .un, .fn 94 [.bx 0 0] []] ++ nuns 5 ++ [.ms 1 4 0 (List.length v0_2)] ++ nuns 6 ++ [.sl (Val.rows (s_Kj p1 p2 4 o0).1.list), .int .i64 ((List.length (s_Kj p1 p2 4 o0).1.list) : Int), .int .i64 (i0 : Int)] ++ nuns 11
def Qmg (_p1 : Val) (_p2 : BA) (_o0 : Decoder) (_i0 : Nat) (v0_1 : Bool) (v0_2 : List SpreadRule) : List Ob :=
  [⟨1, 0, false, [.bool v0_1]⟩, ⟨4, 0, true, (SpreadRule.rows v0_2).flatten⟩]
def Qfn (p1 : Val) (p2 : BA) (o0 : Decoder) (i0 : Nat) (v0_1 : Bool) (v0_2 : List SpreadRule) : En := .loop 1 Ir.Qog Ir.Q1jx (Qyc p1 p2 o0 i0 v0_1 v0_2) (Qmg p1 p2 o0 i0 v0_1 v0_2)
def Qpt (_p1 : Val) (_p2 : BA) (_o0 : Decoder) (q0 : Bool) (q1 : List SpreadRule) (z : Nat → PV) (_zo : Nat → List PV) : St :=
  ⟨zr z 0 9 ++ [.ms 1 4 0 (List.length q1)] ++ zr z 10 20, [(0, ⟨1, 0, false, [.bool q0]⟩), (1, ⟨4, 0, true, (SpreadRule.rows q1).flatten⟩)], 66⟩
theorem Q14g (p1 : Val) (p2 : BA) (o0 : Decoder) (i0 : Nat) (v0_1 : Bool) (v0_2 : List SpreadRule) : VOK (Go.Pv.look (number 0 (Qmg p1 p2 o0 i0 v0_1 v0_2))) [(1, SpreadRule.rows v0_2)] := (VOK.cons (show Seen _ _ from Q3g (ob := ⟨4, 0, true, (SpreadRule.rows v0_2).flatten⟩) (SpreadRule.Q9 v0_2 4 rfl)) VOK.nil)
def Qhy (p1 : Val) (p2 : BA) (o0 : Decoder) (e : En) (q : Bool × (List SpreadRule)) : Prop := ∃ z zo, Q7 G e (.st (.exit 0) (Qpt p1 p2 o0 q.1 q.2 z zo))
theorem Qv4 (p1 : Val) (p2 : BA) (o0 : Decoder) {e e' : En} (h : ∀ r, Q7 G e r → Q7 G e' r) : ∀ q, Qhy p1 p2 o0 e q → Qhy p1 p2 o0 e' q
  | _, ⟨z, zo, hz⟩ => ⟨z, zo, h _ hz⟩
def Qd5 (p1 : Val) (p2 : BA) (o0 : Decoder) : Prop := (List.length (s_Kj p1 p2 4 o0).1.list ≤ 137438953472) ∧ (∀ x0 ∈ (s_Kj p1 p2 4 o0).1.list, H_Kt x0) ∧ True
def Qpg (p1 : Val) (p2 : BA) (o0 : Decoder) (i0 : Nat) (_v0_1 : Bool) (_v0_2 : List SpreadRule) : List PV :=
  [.un, .un, .un, .fn 94 [.bx 0 0] []] ++ nuns 12 ++ [.sl (Val.rows (s_Kj p1 p2 4 o0).1.list), .int .i64 ((List.length (s_Kj p1 p2 4 o0).1.list) : Int), .int .i64 (i0 : Int), .bool false]
def Qo8 (_p1 : Val) (_p2 : BA) (_o0 : Decoder) (_i0 : Nat) (_v0_1 : Bool) (_v0_2 : List SpreadRule) : List (Nat × List PV) :=
  []
theorem Q17n (p1 : Val) (p2 : BA) (o0 : Decoder) (_H : Qd5 p1 p2 o0) (i0 : Nat) (v0_1 : Bool) (v0_2 : List SpreadRule) (_ho0_0 : List.length v0_2 ≤ i0) (hc0 : (decide ((i0 : Int) < ((List.length (s_Kj p1 p2 4 o0).1.list) : Int))) = false) : Qhy p1 p2 o0 (Qfn p1 p2 o0 i0 v0_1 v0_2) (v0_1, v0_2) := by
 exact ⟨(envF (Qpg p1 p2 o0 i0 v0_1 v0_2)), (zoF (Qo8 p1 p2 o0 i0 v0_1 v0_2)), Qg (Q14g p1 p2 o0 i0 v0_1 v0_2) (x := ((.exit 0), Qpt p1 p2 o0 v0_1 v0_2 (envF (Qpg p1 p2 o0 i0 v0_1 v0_2)) (zoF (Qo8 p1 p2 o0 i0 v0_1 v0_2)))) [hB 0 hc0] [] (by kernel_rfl)⟩
theorem Q19f (p1 : Val) (p2 : BA) (o0 : Decoder) (H : Qd5 p1 p2 o0) (x0 : Val) (i0 : Nat) (v0_1 : Bool) (v0_2 : List SpreadRule) (hx0 : (s_Kj p1 p2 4 o0).1.list[i0]? = some x0) (hi0 : i0 < List.length (s_Kj p1 p2 4 o0).1.list) (ho0_0 : List.length v0_2 ≤ i0) (hc0 : (decide ((i0 : Int) < ((List.length (s_Kj p1 p2 4 o0).1.list) : Int))) = true) {r : Rs} (hr : Q7 G (Qfn p1 p2 o0 (i0 + 1) (s_Kt x0 (Decoder.mk v0_1)).2.failed (v0_2 ++ [(s_Kt x0 (Decoder.mk v0_1)).1])) r) : Q7 G (Qfn p1 p2 o0 i0 v0_1 v0_2) r := by
 have hB0 := H.1
 exact Qk (Q14g p1 p2 o0 i0 v0_1 v0_2) (y := (Qyc p1 p2 o0 (i0 + 1) (s_Kt x0 (Decoder.mk v0_1)).2.failed (v0_2 ++ [(s_Kt x0 (Decoder.mk v0_1)).1]), Qmg p1 p2 o0 (i0 + 1) (s_Kt x0 (Decoder.mk v0_1)).2.failed (v0_2 ++ [(s_Kt x0 (Decoder.mk v0_1)).1]))) [hB 0 hc0, hP 0 (Q1j 5 (Val.rows (s_Kj p1 p2 4 o0).1.list) i0 _ (Val.Qc hx0) rfl), hV 8 [(642, SpreadRule.rows (v0_2 ++ [(s_Kt x0 (Decoder.mk v0_1)).1]))] (Q3z 1 578 642 4 56 0 0 true (SpreadRule.rows v0_2) (SpreadRule.rows (v0_2 ++ [(s_Kt x0 (Decoder.mk v0_1)).1])) (SpreadRule.cells (s_Kt x0 (Decoder.mk v0_1)).1) (List.length v0_2) (List.length (v0_2 ++ [(s_Kt x0 (Decoder.mk v0_1)).1])) rfl (SpreadRule.Q5 v0_2).symm (SpreadRule.Q5 (v0_2 ++ [(s_Kt x0 (Decoder.mk v0_1)).1])).symm (SpreadRule.Q14 v0_2 (s_Kt x0 (Decoder.mk v0_1)).1) (SpreadRule.Qm v0_2) rfl (by omega)), hS 0 true (SpreadRule.Q9 (v0_2 ++ [(s_Kt x0 (Decoder.mk v0_1)).1]) 4 rfl), hP 1 (Q22 i0 (by omega))] [aN (t_Kt x0 (Decoder.mk v0_1) (H.2.1 x0 (Q2a hx0)))] (by kernel_rfl) hr
theorem Qxs (p1 : Val) (p2 : BA) (o0 : Decoder) (H : Qd5 p1 p2 o0) : ∀ (r0 : List Val) (i0 : Nat) (v0_1 : Bool) (v0_2 : List SpreadRule), List.drop i0 (s_Kj p1 p2 4 o0).1.list = r0 → List.length v0_2 ≤ i0 → Qhy p1 p2 o0 (Qfn p1 p2 o0 i0 v0_1 v0_2) (Q50 p1 p2 o0 r0 i0 v0_1 v0_2)
 | [], i0, v0_1, v0_2, hd, ho0_0 => by
  have hc0 : (decide ((i0 : Int) < ((List.length (s_Kj p1 p2 4 o0).1.list) : Int))) = false := by have := Q19 hd; simp; omega
  rw [Q50]
  exact Q17n p1 p2 o0 H i0 v0_1 v0_2 ho0_0 hc0
 | x0 :: r0, i0, v0_1, v0_2, hd, ho0_0 => by
  obtain ⟨hx0, hi0, hd'⟩ := Q11 hd
  have hc0 : (decide ((i0 : Int) < ((List.length (s_Kj p1 p2 4 o0).1.list) : Int))) = true := by simp; omega
  rw [Q50]
  exact Qv4 p1 p2 o0 (fun r hr => Q19f p1 p2 o0 H x0 i0 v0_1 v0_2 hx0 hi0 ho0_0 hc0 hr) _ (Qxs p1 p2 o0 H r0 (i0 + 1) (s_Kt x0 (Decoder.mk v0_1)).2.failed (v0_2 ++ [(s_Kt x0 (Decoder.mk v0_1)).1]) hd' (by first | omega | (simp; omega)))
def Qu4 (p1 : Val) (p2 : BA) (o0 : Decoder) : List SpreadRule × Decoder := ((dE SpreadRule.dec p1 p2).1, ft o0 (isM p1 && (dE SpreadRule.dec p1 p2).2))
theorem Q17c (p1 : Val) (p2 : BA) (o0 : Decoder) : ∀ (l : List Val) (i : Nat) (b : Bool) (a : List SpreadRule), Q50 p1 p2 o0 l i b a = (b || !(l.all fun x => (SpreadRule.dec x).2), a ++ l.map (fun x => (SpreadRule.dec x).1))
  | [], _, b, a => by rw [Q50]; simp
  | x :: l, i, b, a => by
    rw [Q50]
    refine (Q17c p1 p2 o0 l (i + 1) (b || !(SpreadRule.dec x).2) (a ++ [(SpreadRule.dec x).1])).trans ?_
    simp only [List.append_assoc, List.singleton_append, List.map_cons, List.all_cons, Bool.not_and, Bool.or_assoc]
theorem Q1sc (p1 : Val) (p2 : BA) (o0 : Decoder) : Qu4 p1 p2 o0 = (((Q50 p1 p2 o0 (s_Kj p1 p2 4 o0).1.list 0 (s_Kj p1 p2 4 o0).2.failed []).2, (Decoder.mk (Q50 p1 p2 o0 (s_Kj p1 p2 4 o0).1.list 0 (s_Kj p1 p2 4 o0).2.failed []).1))) := by
  rw [Q17c]
  unfold s_Kj Qu4
  simp only [getL, Q3o]
  refine Prod.ext rfl ?_
  rw [Q6f o0.failed (isM p1) _ _ _ (Qfe (prt p1 p2)), Q3y]
  rfl
def Q1vv (p1 : Val) (p2 : BA) (o0 : Decoder) : En := .call 93 [.bx 0 0, .agg (Val.cells p1), .str p2, .fn 94 [.bx 0 0] []] [⟨1, 0, false, (Decoder.cells o0)⟩]
def Q1rk (_p1 : Val) (_p2 : BA) (_o0 : Decoder) (q0 : List SpreadRule) (q1 : Decoder) : Rs := .ret (.sl (SpreadRule.rows q0)) [⟨1, 0, false, (Decoder.cells q1)⟩]
def Q1nt (p1 : Val) (p2 : BA) (o0 : Decoder) : Rs := Q1rk p1 p2 o0 (Qu4 p1 p2 o0).1 (Qu4 p1 p2 o0).2
def Q1kx (p1 : Val) : Prop := Val.Sm 1000000000 p1
theorem Q146 (p1 : Val) (p2 : BA) (o0 : Decoder) (H : Q1kx p1) : (H_Kj p1) ∧ (Qd5 p1 p2 o0) ∧ True := by
  have hl := Qf8 (Q3t H p2)
  refine ⟨H, ?_, trivial⟩
  unfold Qd5 s_Kj
  simp only [getL]
  exact ⟨Nat.le_trans hl.1 (Nat.le_of_ble_eq_true rfl), hl.2, trivial⟩
theorem Q1ul (p1 : Val) (p2 : BA) (o0 : Decoder) (H : Q1kx p1) : Q7 G (Q1vv p1 p2 o0) (Q1nt p1 p2 o0) := by
 unfold Q1nt
 rw [Q1sc]
 have hl0 := Qxs p1 p2 o0 ((Q146 p1 p2 o0 H).2.1) (s_Kj p1 p2 4 o0).1.list 0 (s_Kj p1 p2 4 o0).2.failed [] (by simp) (by simp)
 obtain ⟨z0, zo0, hl0⟩ := hl0
 exact Q8 (fn := Ir.K1a) rfl (h := [⟨1, 0, false, (Decoder.cells o0)⟩]) (vw := []) VOK.nil [hP 8 (Qh (Val.rows (s_Kj p1 p2 4 o0).1.list) (List.length (s_Kj p1 p2 4 o0).1.list) (Val.Q5 (s_Kj p1 p2 4 o0).1.list)), hS 0 true (SpreadRule.Q9 (Q50 p1 p2 o0 (s_Kj p1 p2 4 o0).1.list 0 (s_Kj p1 p2 4 o0).2.failed []).2 4 rfl), hQ (SpreadRule.Q5 (Q50 p1 p2 o0 (s_Kj p1 p2 4 o0).1.list 0 (s_Kj p1 p2 4 o0).2.failed []).2).symm] [aN (t_Kj p1 p2 4 o0 (Q146 p1 p2 o0 H).1), aV [(1, SpreadRule.rows (Q50 p1 p2 o0 (s_Kj p1 p2 4 o0).1.list 0 (s_Kj p1 p2 4 o0).2.failed []).2)] hl0] (by kernel_rfl)
def Q7r (p1 : Val) (o0 : Decoder) : Toleration × Decoder := ((Toleration.dec p1).1, ft o0 (Toleration.dec p1).2)
theorem Q1vr (p1 : Val) (o0 : Decoder) : Q7r p1 o0 = (((Toleration.mk (s_Kv p1 Qs (s_Kw p1 o0).2).1 (s_Kv p1 Qn (s_Kv p1 Qs (s_Kw p1 o0).2).2).1 (s_Ki p1 Q1v (s_Kv p1 Qn (s_Kv p1 Qs (s_Kw p1 o0).2).2).2).1 (s_Kn p1 Qu (s_Ki p1 Q1v (s_Kv p1 Qn (s_Kv p1 Qs (s_Kw p1 o0).2).2).2).2).1 (s_Kn p1 Q1r (s_Kn p1 Qu (s_Ki p1 Q1v (s_Kv p1 Qn (s_Kv p1 Qs (s_Kw p1 o0).2).2).2).2).2).1), (s_Kn p1 Q1r (s_Kn p1 Qu (s_Ki p1 Q1v (s_Kv p1 Qn (s_Kv p1 Qs (s_Kw p1 o0).2).2).2).2).2).2)) := by
  simp only [s_Kw, s_Kn, s_Kv, s_Ki, Q7r, Toleration.dec, Qaq, Bool.and_assoc, Bool.and_left_comm, Bool.and_comm, Bool.and_self_left]
def Q1wd (p1 : Val) (o0 : Decoder) : En := .call 96 [.bx 0 0, .agg (Val.cells p1)] [⟨1, 0, false, (Decoder.cells o0)⟩]
def Q1so (_p1 : Val) (_o0 : Decoder) (q0 : Toleration) (q1 : Decoder) : Rs := .ret (.agg (Toleration.cells q0)) [⟨1, 0, false, (Decoder.cells q1)⟩]
def Q1o8 (p1 : Val) (o0 : Decoder) : Rs := Q1so p1 o0 (Q7r p1 o0).1 (Q7r p1 o0).2
def Q1mw (p1 : Val) : Prop := Val.Sm 1000000000 p1
theorem Qdh (p1 : Val) (_o0 : Decoder) (H : Q1mw p1) : (H_Kv p1) ∧ (H_Ki p1) ∧ (H_Kn p1) ∧ True := by
  repeat' with_reducible apply And.intro
  all_goals first | exact True.intro | exact H | exact Qas (Q3t H _)
theorem Q1ti (p1 : Val) (o0 : Decoder) (H : Q1mw p1) : Q7 G (Q1wd p1 o0) (Q1o8 p1 o0) := by
 unfold Q1o8
 rw [Q1vr]
 exact Q8 (fn := Ir.K10) rfl (h := [⟨1, 0, false, (Decoder.cells o0)⟩]) (vw := []) VOK.nil [] [aN (t_Kw p1 o0), aN (t_Kv p1 Qs (s_Kw p1 o0).2 (Qdh p1 o0 H).1), aN (t_Kv p1 Qn (s_Kv p1 Qs (s_Kw p1 o0).2).2 (Qdh p1 o0 H).1), aN (t_Ki p1 Q1v (s_Kv p1 Qn (s_Kv p1 Qs (s_Kw p1 o0).2).2).2 (Qdh p1 o0 H).2.1), aN (t_Kn p1 Qu (s_Ki p1 Q1v (s_Kv p1 Qn (s_Kv p1 Qs (s_Kw p1 o0).2).2).2).2 (Qdh p1 o0 H).2.2.1), aN (t_Kn p1 Q1r (s_Kn p1 Qu (s_Ki p1 Q1v (s_Kv p1 Qn (s_Kv p1 Qs (s_Kw p1 o0).2).2).2).2).2 (Qdh p1 o0 H).2.2.1)] (by kernel_rfl)
def Q5e (p1 : Val) (p2 : BA) (o0 : Decoder) : List Val → Nat → Bool → (List Toleration) → Bool × (List Toleration)
 | [], _i0, v0_1, v0_2 =>
  (v0_1, v0_2)
 | x0 :: r0, i0, v0_1, v0_2 =>
  Q5e p1 p2 o0 r0 (i0 + 1) (Q7r x0 (Decoder.mk v0_1)).2.failed (v0_2 ++ [(Q7r x0 (Decoder.mk v0_1)).1])
def Qy6 (p1 : Val) (p2 : BA) (o0 : Decoder) (i0 : Nat) (_v0_1 : Bool) (v0_2 : List Toleration) : List PV :=
  [.un, .un, .un, .fn 96 [.bx 0 0] []] ++ nuns 5 ++ [.ms 1 5 0 (List.length v0_2)] ++ nuns 6 ++ [.sl (Val.rows (s_Kj p1 p2 4 o0).1.list), .int .i64 ((List.length (s_Kj p1 p2 4 o0).1.list) : Int), .int .i64 (i0 : Int)] ++ nuns 11
def Qnm (_p1 : Val) (_p2 : BA) (_o0 : Decoder) (_i0 : Nat) (v0_1 : Bool) (v0_2 : List Toleration) : List Ob :=
  [⟨1, 0, false, [.bool v0_1]⟩, ⟨5, 0, true, (Toleration.rows v0_2).flatten⟩]
def Qiq (p1 : Val) (p2 : BA) (o0 : Decoder) (i0 : Nat) (v0_1 : Bool) (v0_2 : List Toleration) : En := .loop 1 Ir.Ql8 Ir.Q1iq (Qy6 p1 p2 o0 i0 v0_1 v0_2) (Qnm p1 p2 o0 i0 v0_1 v0_2)
def Qr1 (_p1 : Val) (_p2 : BA) (_o0 : Decoder) (q0 : Bool) (q1 : List Toleration) (z : Nat → PV) (_zo : Nat → List PV) : St :=
  ⟨zr z 0 9 ++ [.ms 1 5 0 (List.length q1)] ++ zr z 10 20, [(0, ⟨1, 0, false, [.bool q0]⟩), (1, ⟨5, 0, true, (Toleration.rows q1).flatten⟩)], 66⟩
theorem Q162 (p1 : Val) (p2 : BA) (o0 : Decoder) (i0 : Nat) (v0_1 : Bool) (v0_2 : List Toleration) : VOK (Go.Pv.look (number 0 (Qnm p1 p2 o0 i0 v0_1 v0_2))) [(1, Toleration.rows v0_2)] := (VOK.cons (show Seen _ _ from Q3g (ob := ⟨5, 0, true, (Toleration.rows v0_2).flatten⟩) (Toleration.Q9 v0_2 5 rfl)) VOK.nil)
def Qgm (p1 : Val) (p2 : BA) (o0 : Decoder) (e : En) (q : Bool × (List Toleration)) : Prop := ∃ z zo, Q7 G e (.st (.exit 0) (Qr1 p1 p2 o0 q.1 q.2 z zo))
theorem Qwz (p1 : Val) (p2 : BA) (o0 : Decoder) {e e' : En} (h : ∀ r, Q7 G e r → Q7 G e' r) : ∀ q, Qgm p1 p2 o0 e q → Qgm p1 p2 o0 e' q
  | _, ⟨z, zo, hz⟩ => ⟨z, zo, h _ hz⟩
def Qcd (p1 : Val) (p2 : BA) (o0 : Decoder) : Prop := (List.length (s_Kj p1 p2 4 o0).1.list ≤ 137438953472) ∧ (∀ x0 ∈ (s_Kj p1 p2 4 o0).1.list, Q1mw x0) ∧ True
def Qpn (p1 : Val) (p2 : BA) (o0 : Decoder) (i0 : Nat) (_v0_1 : Bool) (_v0_2 : List Toleration) : List PV :=
  [.un, .un, .un, .fn 96 [.bx 0 0] []] ++ nuns 12 ++ [.sl (Val.rows (s_Kj p1 p2 4 o0).1.list), .int .i64 ((List.length (s_Kj p1 p2 4 o0).1.list) : Int), .int .i64 (i0 : Int), .bool false]
def Qjd (_p1 : Val) (_p2 : BA) (_o0 : Decoder) (_i0 : Nat) (_v0_1 : Bool) (_v0_2 : List Toleration) : List (Nat × List PV) :=
  []
theorem Q1ch (p1 : Val) (p2 : BA) (o0 : Decoder) (_H : Qcd p1 p2 o0) (i0 : Nat) (v0_1 : Bool) (v0_2 : List Toleration) (_ho0_0 : List.length v0_2 ≤ i0) (hc0 : (decide ((i0 : Int) < ((List.length (s_Kj p1 p2 4 o0).1.list) : Int))) = false) : Qgm p1 p2 o0 (Qiq p1 p2 o0 i0 v0_1 v0_2) (v0_1, v0_2) := by
 exact ⟨(envF (Qpn p1 p2 o0 i0 v0_1 v0_2)), (zoF (Qjd p1 p2 o0 i0 v0_1 v0_2)), Qg (Q162 p1 p2 o0 i0 v0_1 v0_2) (x := ((.exit 0), Qr1 p1 p2 o0 v0_1 v0_2 (envF (Qpn p1 p2 o0 i0 v0_1 v0_2)) (zoF (Qjd p1 p2 o0 i0 v0_1 v0_2)))) [hB 0 hc0] [] (by kernel_rfl)⟩
theorem Q1aj (p1 : Val) (p2 : BA) (o0 : Decoder) (H : Qcd p1 p2 o0) (x0 : Val) (i0 : Nat) (v0_1 : Bool) (v0_2 : List Toleration) (hx0 : (s_Kj p1 p2 4 o0).1.list[i0]? = some x0) (hi0 : i0 < List.length (s_Kj p1 p2 4 o0).1.list) (ho0_0 : List.length v0_2 ≤ i0) (hc0 : (decide ((i0 : Int) < ((List.length (s_Kj p1 p2 4 o0).1.list) : Int))) = true) {r : Rs} (hr : Q7 G (Qiq p1 p2 o0 (i0 + 1) (Q7r x0 (Decoder.mk v0_1)).2.failed (v0_2 ++ [(Q7r x0 (Decoder.mk v0_1)).1])) r) : Q7 G (Qiq p1 p2 o0 i0 v0_1 v0_2) r := by
 have hB0 := H.1
 exact Qk (Q162 p1 p2 o0 i0 v0_1 v0_2) (y := (Qy6 p1 p2 o0 (i0 + 1) (Q7r x0 (Decoder.mk v0_1)).2.failed (v0_2 ++ [(Q7r x0 (Decoder.mk v0_1)).1]), Qnm p1 p2 o0 (i0 + 1) (Q7r x0 (Decoder.mk v0_1)).2.failed (v0_2 ++ [(Q7r x0 (Decoder.mk v0_1)).1]))) [hB 0 hc0, hP 0 (Q1j 5 (Val.rows (s_Kj p1 p2 4 o0).1.list) i0 _ (Val.Qc hx0) rfl), hV 8 [(642, Toleration.rows (v0_2 ++ [(Q7r x0 (Decoder.mk v0_1)).1]))] (Q3z 1 578 642 5 56 0 0 true (Toleration.rows v0_2) (Toleration.rows (v0_2 ++ [(Q7r x0 (Decoder.mk v0_1)).1])) (Toleration.cells (Q7r x0 (Decoder.mk v0_1)).1) (List.length v0_2) (List.length (v0_2 ++ [(Q7r x0 (Decoder.mk v0_1)).1])) rfl (Toleration.Q5 v0_2).symm (Toleration.Q5 (v0_2 ++ [(Q7r x0 (Decoder.mk v0_1)).1])).symm (Toleration.Q14 v0_2 (Q7r x0 (Decoder.mk v0_1)).1) (Toleration.Qm v0_2) rfl (by omega)), hS 0 true (Toleration.Q9 (v0_2 ++ [(Q7r x0 (Decoder.mk v0_1)).1]) 5 rfl), hP 1 (Q22 i0 (by omega))] [aN (Q1ti x0 (Decoder.mk v0_1) (H.2.1 x0 (Q2a hx0)))] (by kernel_rfl) hr
theorem Qzo (p1 : Val) (p2 : BA) (o0 : Decoder) (H : Qcd p1 p2 o0) : ∀ (r0 : List Val) (i0 : Nat) (v0_1 : Bool) (v0_2 : List Toleration), List.drop i0 (s_Kj p1 p2 4 o0).1.list = r0 → List.length v0_2 ≤ i0 → Qgm p1 p2 o0 (Qiq p1 p2 o0 i0 v0_1 v0_2) (Q5e p1 p2 o0 r0 i0 v0_1 v0_2)
 | [], i0, v0_1, v0_2, hd, ho0_0 => by
  have hc0 : (decide ((i0 : Int) < ((List.length (s_Kj p1 p2 4 o0).1.list) : Int))) = false := by have := Q19 hd; simp; omega
  rw [Q5e]
  exact Q1ch p1 p2 o0 H i0 v0_1 v0_2 ho0_0 hc0
 | x0 :: r0, i0, v0_1, v0_2, hd, ho0_0 => by
  obtain ⟨hx0, hi0, hd'⟩ := Q11 hd
  have hc0 : (decide ((i0 : Int) < ((List.length (s_Kj p1 p2 4 o0).1.list) : Int))) = true := by simp; omega
  rw [Q5e]
  exact Qwz p1 p2 o0 (fun r hr => Q1aj p1 p2 o0 H x0 i0 v0_1 v0_2 hx0 hi0 ho0_0 hc0 hr) _ (Qzo p1 p2 o0 H r0 (i0 + 1) (Q7r x0 (Decoder.mk v0_1)).2.failed (v0_2 ++ [(Q7r x0 (Decoder.mk v0_1)).1]) hd' (by first | omega | (simp; omega)))
def Q139 (p1 : Val) (p2 : BA) (o0 : Decoder) : List Toleration × Decoder := ((dE Toleration.dec p1 p2).1, ft o0 (isM p1 && (dE Toleration.dec p1 p2).2))
theorem Q169 (p1 : Val) (p2 : BA) (o0 : Decoder) : ∀ (l : List Val) (i : Nat) (b : Bool) (a : List Toleration), Q5e p1 p2 o0 l i b a = (b || !(l.all fun x => (Toleration.dec x).2), a ++ l.map (fun x => (Toleration.dec x).1))
  | [], _, b, a => by rw [Q5e]; simp
  | x :: l, i, b, a => by
    rw [Q5e]
    refine (Q169 p1 p2 o0 l (i + 1) (b || !(Toleration.dec x).2) (a ++ [(Toleration.dec x).1])).trans ?_
    simp only [List.append_assoc, List.singleton_append, List.map_cons, List.all_cons, Bool.not_and, Bool.or_assoc]
theorem Q1us (p1 : Val) (p2 : BA) (o0 : Decoder) : Q139 p1 p2 o0 = (((Q5e p1 p2 o0 (s_Kj p1 p2 4 o0).1.list 0 (s_Kj p1 p2 4 o0).2.failed []).2, (Decoder.mk (Q5e p1 p2 o0 (s_Kj p1 p2 4 o0).1.list 0 (s_Kj p1 p2 4 o0).2.failed []).1))) := by
  rw [Q169]
  unfold s_Kj Q139
  simp only [getL, Q3o]
  refine Prod.ext rfl ?_
  rw [Q6f o0.failed (isM p1) _ _ _ (Qfe (prt p1 p2)), Q3y]
  rfl
def Q1sy (p1 : Val) (p2 : BA) (o0 : Decoder) : En := .call 95 [.bx 0 0, .agg (Val.cells p1), .str p2, .fn 96 [.bx 0 0] []] [⟨1, 0, false, (Decoder.cells o0)⟩]
def Q1sb (_p1 : Val) (_p2 : BA) (_o0 : Decoder) (q0 : List Toleration) (q1 : Decoder) : Rs := .ret (.sl (Toleration.rows q0)) [⟨1, 0, false, (Decoder.cells q1)⟩]
def Q1qq (p1 : Val) (p2 : BA) (o0 : Decoder) : Rs := Q1sb p1 p2 o0 (Q139 p1 p2 o0).1 (Q139 p1 p2 o0).2
def Q1mp (p1 : Val) : Prop := Val.Sm 1000000000 p1
theorem Q13i (p1 : Val) (p2 : BA) (o0 : Decoder) (H : Q1mp p1) : (H_Kj p1) ∧ (Qcd p1 p2 o0) ∧ True := by
  have hl := Qf8 (Q3t H p2)
  refine ⟨H, ?_, trivial⟩
  unfold Qcd s_Kj
  simp only [getL]
  exact ⟨Nat.le_trans hl.1 (Nat.le_of_ble_eq_true rfl), hl.2, trivial⟩
theorem Q1tq (p1 : Val) (p2 : BA) (o0 : Decoder) (H : Q1mp p1) : Q7 G (Q1sy p1 p2 o0) (Q1qq p1 p2 o0) := by
 unfold Q1qq
 rw [Q1us]
 have hl0 := Qzo p1 p2 o0 ((Q13i p1 p2 o0 H).2.1) (s_Kj p1 p2 4 o0).1.list 0 (s_Kj p1 p2 4 o0).2.failed [] (by simp) (by simp)
 obtain ⟨z0, zo0, hl0⟩ := hl0
 exact Q8 (fn := Ir.K1b) rfl (h := [⟨1, 0, false, (Decoder.cells o0)⟩]) (vw := []) VOK.nil [hP 8 (Qh (Val.rows (s_Kj p1 p2 4 o0).1.list) (List.length (s_Kj p1 p2 4 o0).1.list) (Val.Q5 (s_Kj p1 p2 4 o0).1.list)), hS 0 true (Toleration.Q9 (Q5e p1 p2 o0 (s_Kj p1 p2 4 o0).1.list 0 (s_Kj p1 p2 4 o0).2.failed []).2 5 rfl), hQ (Toleration.Q5 (Q5e p1 p2 o0 (s_Kj p1 p2 4 o0).1.list 0 (s_Kj p1 p2 4 o0).2.failed []).2).symm] [aN (t_Kj p1 p2 4 o0 (Q13i p1 p2 o0 H).1), aV [(1, Toleration.rows (Q5e p1 p2 o0 (s_Kj p1 p2 4 o0).1.list 0 (s_Kj p1 p2 4 o0).2.failed []).2)] hl0] (by kernel_rfl)
def s_Ks (p1 : Val) (o0 : Decoder) : PodSpec × Decoder := ((PodSpec.dec p1).1, ft o0 (PodSpec.dec p1).2)
abbrev M3 (o0 : Decoder) (p1 : Val) := (Q1a0 p1 Qt (s_Kn p1 Q3j (s_Kn p1 Q2j (s_Kn p1 Q23 (s_Kv p1 Q3e (s_Kw p1 o0).2).2).2).2).2)
theorem e_Ks (p1 : Val) (o0 : Decoder) : s_Ks p1 o0 = (((PodSpec.mk (s_Kv p1 Q3e (s_Kw p1 o0).2).1 (s_Kn p1 Q23 (s_Kv p1 Q3e (s_Kw p1 o0).2).2).1 (s_Kn p1 Q2j (s_Kn p1 Q23 (s_Kv p1 Q3e (s_Kw p1 o0).2).2).2).1 (s_Kn p1 Q3j (s_Kn p1 Q2j (s_Kn p1 Q23 (s_Kv p1 Q3e (s_Kw p1 o0).2).2).2).2).1 (M3 o0 p1).1 (Q4p p1 Q12 (M3 o0 p1).2).1 (Qdr p1 Q1n (Q4p p1 Q12 (M3 o0 p1).2).2).1 (Qjq p1 Q28 (Qdr p1 Q1n (Q4p p1 Q12 (M3 o0 p1).2).2).2).1 (Qu4 p1 Q30 (Qjq p1 Q28 (Qdr p1 Q1n (Q4p p1 Q12 (M3 o0 p1).2).2).2).2).1 (Q139 p1 Q1x (Qu4 p1 Q30 (Qjq p1 Q28 (Qdr p1 Q1n (Q4p p1 Q12 (M3 o0 p1).2).2).2).2).2).1), (Q139 p1 Q1x (Qu4 p1 Q30 (Qjq p1 Q28 (Qdr p1 Q1n (Q4p p1 Q12 (M3 o0 p1).2).2).2).2).2).2)) := by
  simp only [s_Kw, s_Kn, s_Kv, Q1a0, Qdr, Qjq, Q4p, Qu4, Q139, s_Ks, PodSpec.dec, Qaq, Bool.and_assoc, Bool.and_left_comm, Bool.and_comm, Bool.and_self_left]
def c_Ks (p1 : Val) (o0 : Decoder) : En := .call 32 [.bx 0 0, .agg (Val.cells p1)] [⟨1, 0, false, (Decoder.cells o0)⟩]
def r_Ks (_p1 : Val) (_o0 : Decoder) (q0 : PodSpec) (q1 : Decoder) : Rs := .ret (.agg (PodSpec.cells q0)) [⟨1, 0, false, (Decoder.cells q1)⟩]
def a_Ks (p1 : Val) (o0 : Decoder) : Rs := r_Ks p1 o0 (s_Ks p1 o0).1 (s_Ks p1 o0).2
def H_Ks (p1 : Val) : Prop := Val.Sm 1000000000 p1
theorem Q7t (p1 : Val) (_o0 : Decoder) (H : H_Ks p1) : (H_Kv p1) ∧ (H_Kn p1) ∧ (Q1m7 p1) ∧ (Q1b5 p1) ∧ (Q1l3 p1) ∧ (Q1ly p1) ∧ (Q1kx p1) ∧ (Q1mp p1) ∧ True := by
  repeat' with_reducible apply And.intro
  all_goals first | exact True.intro | exact H | exact Qas (Q3t H _)
theorem t_Ks (p1 : Val) (o0 : Decoder) (H : H_Ks p1) : Q7 G (c_Ks p1 o0) (a_Ks p1 o0) := by
 unfold a_Ks
 rw [e_Ks]
 exact Q8 (fn := Ir.Ks) rfl (h := [⟨1, 0, false, (Decoder.cells o0)⟩]) (vw := []) VOK.nil [] [aN (t_Kw p1 o0), aN (t_Kv p1 Q3e (s_Kw p1 o0).2 (Q7t p1 o0 H).1), aN (t_Kn p1 Q23 (s_Kv p1 Q3e (s_Kw p1 o0).2).2 (Q7t p1 o0 H).2.1), aN (t_Kn p1 Q2j (s_Kn p1 Q23 (s_Kv p1 Q3e (s_Kw p1 o0).2).2).2 (Q7t p1 o0 H).2.1), aN (t_Kn p1 Q3j (s_Kn p1 Q2j (s_Kn p1 Q23 (s_Kv p1 Q3e (s_Kw p1 o0).2).2).2).2 (Q7t p1 o0 H).2.1), aN (Q1t9 p1 Qt (s_Kn p1 Q3j (s_Kn p1 Q2j (s_Kn p1 Q23 (s_Kv p1 Q3e (s_Kw p1 o0).2).2).2).2).2 (Q7t p1 o0 H).2.2.1), aN (Q1h8 p1 Q12 (M3 o0 p1).2 (Q7t p1 o0 H).2.2.2.1), aN (Q1wz p1 Q1n (Q4p p1 Q12 (M3 o0 p1).2).2 (Q7t p1 o0 H).2.2.2.2.1), aN (Q1sr p1 Q28 (Qdr p1 Q1n (Q4p p1 Q12 (M3 o0 p1).2).2).2 (Q7t p1 o0 H).2.2.2.2.2.1), aN (Q1ul p1 Q30 (Qjq p1 Q28 (Qdr p1 Q1n (Q4p p1 Q12 (M3 o0 p1).2).2).2).2 (Q7t p1 o0 H).2.2.2.2.2.2.1), aN (Q1tq p1 Q1x (Qu4 p1 Q30 (Qjq p1 Q28 (Qdr p1 Q1n (Q4p p1 Q12 (M3 o0 p1).2).2).2).2).2 (Q7t p1 o0 H).2.2.2.2.2.2.2.1)] (by kernel_rfl)
def s_Kh (p1 : Val) (o0 : Decoder) : ContainerStatus × Decoder := ((ContainerStatus.dec p1).1, ft o0 (ContainerStatus.dec p1).2)
theorem e_Kh (p1 : Val) (o0 : Decoder) : s_Kh p1 o0 = (((ContainerStatus.mk (s_Kv p1 Qp (s_Kw p1 o0).2).1 (s_Kn p1 Q1w (s_Kv p1 Qp (s_Kw p1 o0).2).2).1 (s_Kn p1 Q16 (s_Kn p1 Q1w (s_Kv p1 Qp (s_Kw p1 o0).2).2).2).1 (s_Kn p1 Q18 (s_Kn p1 Q16 (s_Kn p1 Q1w (s_Kv p1 Qp (s_Kw p1 o0).2).2).2).2).1 (s_Kn p1 Q10 (s_Kn p1 Q18 (s_Kn p1 Q16 (s_Kn p1 Q1w (s_Kv p1 Qp (s_Kw p1 o0).2).2).2).2).2).1 (s_Ki p1 Qi (s_Kn p1 Q10 (s_Kn p1 Q18 (s_Kn p1 Q16 (s_Kn p1 Q1w (s_Kv p1 Qp (s_Kw p1 o0).2).2).2).2).2).2).1 (s_Ki p1 Qx (s_Ki p1 Qi (s_Kn p1 Q10 (s_Kn p1 Q18 (s_Kn p1 Q16 (s_Kn p1 Q1w (s_Kv p1 Qp (s_Kw p1 o0).2).2).2).2).2).2).2).1), (s_Ki p1 Qx (s_Ki p1 Qi (s_Kn p1 Q10 (s_Kn p1 Q18 (s_Kn p1 Q16 (s_Kn p1 Q1w (s_Kv p1 Qp (s_Kw p1 o0).2).2).2).2).2).2).2).2)) := by
  simp only [s_Kw, s_Kn, s_Kv, s_Ki, s_Kh, ContainerStatus.dec, Qaq, Bool.and_assoc, Bool.and_left_comm, Bool.and_comm, Bool.and_self_left]
def c_Kh (p1 : Val) (o0 : Decoder) : En := .call 98 [.bx 0 0, .agg (Val.cells p1)] [⟨1, 0, false, (Decoder.cells o0)⟩]
def r_Kh (_p1 : Val) (_o0 : Decoder) (q0 : ContainerStatus) (q1 : Decoder) : Rs := .ret (.agg (ContainerStatus.cells q0)) [⟨1, 0, false, (Decoder.cells q1)⟩]
def a_Kh (p1 : Val) (o0 : Decoder) : Rs := r_Kh p1 o0 (s_Kh p1 o0).1 (s_Kh p1 o0).2
def H_Kh (p1 : Val) : Prop := Val.Sm 1000000000 p1
theorem Qbm (p1 : Val) (_o0 : Decoder) (H : H_Kh p1) : (H_Kv p1) ∧ (H_Kn p1) ∧ (H_Ki p1) ∧ True := by
  repeat' with_reducible apply And.intro
  all_goals first | exact True.intro | exact H | exact Qas (Q3t H _)
theorem t_Kh (p1 : Val) (o0 : Decoder) (H : H_Kh p1) : Q7 G (c_Kh p1 o0) (a_Kh p1 o0) := by
 unfold a_Kh
 rw [e_Kh]
 exact Q8 (fn := Ir.Kh) rfl (h := [⟨1, 0, false, (Decoder.cells o0)⟩]) (vw := []) VOK.nil [] [aN (t_Kw p1 o0), aN (t_Kv p1 Qp (s_Kw p1 o0).2 (Qbm p1 o0 H).1), aN (t_Kn p1 Q1w (s_Kv p1 Qp (s_Kw p1 o0).2).2 (Qbm p1 o0 H).2.1), aN (t_Kn p1 Q16 (s_Kn p1 Q1w (s_Kv p1 Qp (s_Kw p1 o0).2).2).2 (Qbm p1 o0 H).2.1), aN (t_Kn p1 Q18 (s_Kn p1 Q16 (s_Kn p1 Q1w (s_Kv p1 Qp (s_Kw p1 o0).2).2).2).2 (Qbm p1 o0 H).2.1), aN (t_Kn p1 Q10 (s_Kn p1 Q18 (s_Kn p1 Q16 (s_Kn p1 Q1w (s_Kv p1 Qp (s_Kw p1 o0).2).2).2).2).2 (Qbm p1 o0 H).2.1), aN (t_Ki p1 Qi (s_Kn p1 Q10 (s_Kn p1 Q18 (s_Kn p1 Q16 (s_Kn p1 Q1w (s_Kv p1 Qp (s_Kw p1 o0).2).2).2).2).2).2 (Qbm p1 o0 H).2.2.1), aN (t_Ki p1 Qx (s_Ki p1 Qi (s_Kn p1 Q10 (s_Kn p1 Q18 (s_Kn p1 Q16 (s_Kn p1 Q1w (s_Kv p1 Qp (s_Kw p1 o0).2).2).2).2).2).2).2 (Qbm p1 o0 H).2.2.1)] (by kernel_rfl)
def Q5f (p1 : Val) (p2 : BA) (o0 : Decoder) : List Val → Nat → Bool → (List ContainerStatus) → Bool × (List ContainerStatus)
 | [], _i0, v0_1, v0_2 =>
  (v0_1, v0_2)
 | x0 :: r0, i0, v0_1, v0_2 =>
  Q5f p1 p2 o0 r0 (i0 + 1) (s_Kh x0 (Decoder.mk v0_1)).2.failed (v0_2 ++ [(s_Kh x0 (Decoder.mk v0_1)).1])
def Q10s (p1 : Val) (p2 : BA) (o0 : Decoder) (i0 : Nat) (_v0_1 : Bool) (v0_2 : List ContainerStatus) : List PV :=
  [.un, .un, .un, .fn 98 [.bx 0 0] []] ++ nuns 5 ++ [.ms 1 7 0 (List.length v0_2)] ++ nuns 6 ++ [.sl (Val.rows (s_Kj p1 p2 4 o0).1.list), .int .i64 ((List.length (s_Kj p1 p2 4 o0).1.list) : Int), .int .i64 (i0 : Int)] ++ nuns 11
def Qmt (_p1 : Val) (_p2 : BA) (_o0 : Decoder) (_i0 : Nat) (v0_1 : Bool) (v0_2 : List ContainerStatus) : List Ob :=
  [⟨1, 0, false, [.bool v0_1]⟩, ⟨7, 0, true, (ContainerStatus.rows v0_2).flatten⟩]
def Qfp (p1 : Val) (p2 : BA) (o0 : Decoder) (i0 : Nat) (v0_1 : Bool) (v0_2 : List ContainerStatus) : En := .loop 1 Ir.Qjs Ir.Q1j7 (Q10s p1 p2 o0 i0 v0_1 v0_2) (Qmt p1 p2 o0 i0 v0_1 v0_2)
def Qr0 (_p1 : Val) (_p2 : BA) (_o0 : Decoder) (q0 : Bool) (q1 : List ContainerStatus) (z : Nat → PV) (_zo : Nat → List PV) : St :=
  ⟨zr z 0 9 ++ [.ms 1 7 0 (List.length q1)] ++ zr z 10 20, [(0, ⟨1, 0, false, [.bool q0]⟩), (1, ⟨7, 0, true, (ContainerStatus.rows q1).flatten⟩)], 66⟩
theorem Q16j (p1 : Val) (p2 : BA) (o0 : Decoder) (i0 : Nat) (v0_1 : Bool) (v0_2 : List ContainerStatus) : VOK (Go.Pv.look (number 0 (Qmt p1 p2 o0 i0 v0_1 v0_2))) [(1, ContainerStatus.rows v0_2)] := (VOK.cons (show Seen _ _ from Q3g (ob := ⟨7, 0, true, (ContainerStatus.rows v0_2).flatten⟩) (ContainerStatus.Q9 v0_2 7 rfl)) VOK.nil)
def Qg7 (p1 : Val) (p2 : BA) (o0 : Decoder) (e : En) (q : Bool × (List ContainerStatus)) : Prop := ∃ z zo, Q7 G e (.st (.exit 0) (Qr0 p1 p2 o0 q.1 q.2 z zo))
theorem Qwa (p1 : Val) (p2 : BA) (o0 : Decoder) {e e' : En} (h : ∀ r, Q7 G e r → Q7 G e' r) : ∀ q, Qg7 p1 p2 o0 e q → Qg7 p1 p2 o0 e' q
  | _, ⟨z, zo, hz⟩ => ⟨z, zo, h _ hz⟩
def Qc2 (p1 : Val) (p2 : BA) (o0 : Decoder) : Prop := (List.length (s_Kj p1 p2 4 o0).1.list ≤ 137438953472) ∧ (∀ x0 ∈ (s_Kj p1 p2 4 o0).1.list, H_Kh x0) ∧ True
def Qq7 (p1 : Val) (p2 : BA) (o0 : Decoder) (i0 : Nat) (_v0_1 : Bool) (_v0_2 : List ContainerStatus) : List PV :=
  [.un, .un, .un, .fn 98 [.bx 0 0] []] ++ nuns 12 ++ [.sl (Val.rows (s_Kj p1 p2 4 o0).1.list), .int .i64 ((List.length (s_Kj p1 p2 4 o0).1.list) : Int), .int .i64 (i0 : Int), .bool false]
def Qly (_p1 : Val) (_p2 : BA) (_o0 : Decoder) (_i0 : Nat) (_v0_1 : Bool) (_v0_2 : List ContainerStatus) : List (Nat × List PV) :=
  []
theorem Q17x (p1 : Val) (p2 : BA) (o0 : Decoder) (_H : Qc2 p1 p2 o0) (i0 : Nat) (v0_1 : Bool) (v0_2 : List ContainerStatus) (_ho0_0 : List.length v0_2 ≤ i0) (hc0 : (decide ((i0 : Int) < ((List.length (s_Kj p1 p2 4 o0).1.list) : Int))) = false) : Qg7 p1 p2 o0 (Qfp p1 p2 o0 i0 v0_1 v0_2) (v0_1, v0_2) := by
 exact ⟨(envF (Qq7 p1 p2 o0 i0 v0_1 v0_2)), (zoF (Qly p1 p2 o0 i0 v0_1 v0_2)), Qg (Q16j p1 p2 o0 i0 v0_1 v0_2) (x := ((.exit 0), Qr0 p1 p2 o0 v0_1 v0_2 (envF (Qq7 p1 p2 o0 i0 v0_1 v0_2)) (zoF (Qly p1 p2 o0 i0 v0_1 v0_2)))) [hB 0 hc0] [] (by kernel_rfl)⟩
theorem Q18o (p1 : Val) (p2 : BA) (o0 : Decoder) (H : Qc2 p1 p2 o0) (x0 : Val) (i0 : Nat) (v0_1 : Bool) (v0_2 : List ContainerStatus) (hx0 : (s_Kj p1 p2 4 o0).1.list[i0]? = some x0) (hi0 : i0 < List.length (s_Kj p1 p2 4 o0).1.list) (ho0_0 : List.length v0_2 ≤ i0) (hc0 : (decide ((i0 : Int) < ((List.length (s_Kj p1 p2 4 o0).1.list) : Int))) = true) {r : Rs} (hr : Q7 G (Qfp p1 p2 o0 (i0 + 1) (s_Kh x0 (Decoder.mk v0_1)).2.failed (v0_2 ++ [(s_Kh x0 (Decoder.mk v0_1)).1])) r) : Q7 G (Qfp p1 p2 o0 i0 v0_1 v0_2) r := by
 have hB0 := H.1
 exact Qk (Q16j p1 p2 o0 i0 v0_1 v0_2) (y := (Q10s p1 p2 o0 (i0 + 1) (s_Kh x0 (Decoder.mk v0_1)).2.failed (v0_2 ++ [(s_Kh x0 (Decoder.mk v0_1)).1]), Qmt p1 p2 o0 (i0 + 1) (s_Kh x0 (Decoder.mk v0_1)).2.failed (v0_2 ++ [(s_Kh x0 (Decoder.mk v0_1)).1]))) [hB 0 hc0, hP 0 (Q1j 5 (Val.rows (s_Kj p1 p2 4 o0).1.list) i0 _ (Val.Qc hx0) rfl), hV 8 [(642, ContainerStatus.rows (v0_2 ++ [(s_Kh x0 (Decoder.mk v0_1)).1]))] (Q3z 1 578 642 7 56 0 0 true (ContainerStatus.rows v0_2) (ContainerStatus.rows (v0_2 ++ [(s_Kh x0 (Decoder.mk v0_1)).1])) (ContainerStatus.cells (s_Kh x0 (Decoder.mk v0_1)).1) (List.length v0_2) (List.length (v0_2 ++ [(s_Kh x0 (Decoder.mk v0_1)).1])) rfl (ContainerStatus.Q5 v0_2).symm (ContainerStatus.Q5 (v0_2 ++ [(s_Kh x0 (Decoder.mk v0_1)).1])).symm (ContainerStatus.Q14 v0_2 (s_Kh x0 (Decoder.mk v0_1)).1) (ContainerStatus.Qm v0_2) rfl (by omega)), hS 0 true (ContainerStatus.Q9 (v0_2 ++ [(s_Kh x0 (Decoder.mk v0_1)).1]) 7 rfl), hP 1 (Q22 i0 (by omega))] [aN (t_Kh x0 (Decoder.mk v0_1) (H.2.1 x0 (Q2a hx0)))] (by kernel_rfl) hr
theorem Qz6 (p1 : Val) (p2 : BA) (o0 : Decoder) (H : Qc2 p1 p2 o0) : ∀ (r0 : List Val) (i0 : Nat) (v0_1 : Bool) (v0_2 : List ContainerStatus), List.drop i0 (s_Kj p1 p2 4 o0).1.list = r0 → List.length v0_2 ≤ i0 → Qg7 p1 p2 o0 (Qfp p1 p2 o0 i0 v0_1 v0_2) (Q5f p1 p2 o0 r0 i0 v0_1 v0_2)
 | [], i0, v0_1, v0_2, hd, ho0_0 => by
  have hc0 : (decide ((i0 : Int) < ((List.length (s_Kj p1 p2 4 o0).1.list) : Int))) = false := by have := Q19 hd; simp; omega
  rw [Q5f]
  exact Q17x p1 p2 o0 H i0 v0_1 v0_2 ho0_0 hc0
 | x0 :: r0, i0, v0_1, v0_2, hd, ho0_0 => by
  obtain ⟨hx0, hi0, hd'⟩ := Q11 hd
  have hc0 : (decide ((i0 : Int) < ((List.length (s_Kj p1 p2 4 o0).1.list) : Int))) = true := by simp; omega
  rw [Q5f]
  exact Qwa p1 p2 o0 (fun r hr => Q18o p1 p2 o0 H x0 i0 v0_1 v0_2 hx0 hi0 ho0_0 hc0 hr) _ (Qz6 p1 p2 o0 H r0 (i0 + 1) (s_Kh x0 (Decoder.mk v0_1)).2.failed (v0_2 ++ [(s_Kh x0 (Decoder.mk v0_1)).1]) hd' (by first | omega | (simp; omega)))
def Qei (p1 : Val) (p2 : BA) (o0 : Decoder) : List ContainerStatus × Decoder := ((dE ContainerStatus.dec p1 p2).1, ft o0 (isM p1 && (dE ContainerStatus.dec p1 p2).2))
theorem Q17j (p1 : Val) (p2 : BA) (o0 : Decoder) : ∀ (l : List Val) (i : Nat) (b : Bool) (a : List ContainerStatus), Q5f p1 p2 o0 l i b a = (b || !(l.all fun x => (ContainerStatus.dec x).2), a ++ l.map (fun x => (ContainerStatus.dec x).1))
  | [], _, b, a => by rw [Q5f]; simp
  | x :: l, i, b, a => by
    rw [Q5f]
    refine (Q17j p1 p2 o0 l (i + 1) (b || !(ContainerStatus.dec x).2) (a ++ [(ContainerStatus.dec x).1])).trans ?_
    simp only [List.append_assoc, List.singleton_append, List.map_cons, List.all_cons, Bool.not_and, Bool.or_assoc]
theorem Q1wc (p1 : Val) (p2 : BA) (o0 : Decoder) : Qei p1 p2 o0 = (((Q5f p1 p2 o0 (s_Kj p1 p2 4 o0).1.list 0 (s_Kj p1 p2 4 o0).2.failed []).2, (Decoder.mk (Q5f p1 p2 o0 (s_Kj p1 p2 4 o0).1.list 0 (s_Kj p1 p2 4 o0).2.failed []).1))) := by
  rw [Q17j]
  unfold s_Kj Qei
  simp only [getL, Q3o]
  refine Prod.ext rfl ?_
  rw [Q6f o0.failed (isM p1) _ _ _ (Qfe (prt p1 p2)), Q3y]
  rfl
def Q1x4 (p1 : Val) (p2 : BA) (o0 : Decoder) : En := .call 97 [.bx 0 0, .agg (Val.cells p1), .str p2, .fn 98 [.bx 0 0] []] [⟨1, 0, false, (Decoder.cells o0)⟩]
def Q1su (_p1 : Val) (_p2 : BA) (_o0 : Decoder) (q0 : List ContainerStatus) (q1 : Decoder) : Rs := .ret (.sl (ContainerStatus.rows q0)) [⟨1, 0, false, (Decoder.cells q1)⟩]
def Q1oi (p1 : Val) (p2 : BA) (o0 : Decoder) : Rs := Q1su p1 p2 o0 (Qei p1 p2 o0).1 (Qei p1 p2 o0).2
def Q1m9 (p1 : Val) : Prop := Val.Sm 1000000000 p1
theorem Q161 (p1 : Val) (p2 : BA) (o0 : Decoder) (H : Q1m9 p1) : (H_Kj p1) ∧ (Qc2 p1 p2 o0) ∧ True := by
  have hl := Qf8 (Q3t H p2)
  refine ⟨H, ?_, trivial⟩
  unfold Qc2 s_Kj
  simp only [getL]
  exact ⟨Nat.le_trans hl.1 (Nat.le_of_ble_eq_true rfl), hl.2, trivial⟩
theorem Q1xe (p1 : Val) (p2 : BA) (o0 : Decoder) (H : Q1m9 p1) : Q7 G (Q1x4 p1 p2 o0) (Q1oi p1 p2 o0) := by
 unfold Q1oi
 rw [Q1wc]
 have hl0 := Qz6 p1 p2 o0 ((Q161 p1 p2 o0 H).2.1) (s_Kj p1 p2 4 o0).1.list 0 (s_Kj p1 p2 4 o0).2.failed [] (by simp) (by simp)
 obtain ⟨z0, zo0, hl0⟩ := hl0
 exact Q8 (fn := Ir.K1c) rfl (h := [⟨1, 0, false, (Decoder.cells o0)⟩]) (vw := []) VOK.nil [hP 8 (Qh (Val.rows (s_Kj p1 p2 4 o0).1.list) (List.length (s_Kj p1 p2 4 o0).1.list) (Val.Q5 (s_Kj p1 p2 4 o0).1.list)), hS 0 true (ContainerStatus.Q9 (Q5f p1 p2 o0 (s_Kj p1 p2 4 o0).1.list 0 (s_Kj p1 p2 4 o0).2.failed []).2 7 rfl), hQ (ContainerStatus.Q5 (Q5f p1 p2 o0 (s_Kj p1 p2 4 o0).1.list 0 (s_Kj p1 p2 4 o0).2.failed []).2).symm] [aN (t_Kj p1 p2 4 o0 (Q161 p1 p2 o0 H).1), aV [(1, ContainerStatus.rows (Q5f p1 p2 o0 (s_Kj p1 p2 4 o0).1.list 0 (s_Kj p1 p2 4 o0).2.failed []).2)] hl0] (by kernel_rfl)
def s_Ku (p1 : Val) (o0 : Decoder) : PodStatus × Decoder := ((PodStatus.dec p1).1, ft o0 (PodStatus.dec p1).2)
abbrev M4 (o0 : Decoder) (p1 : Val) := (s_Kn p1 Q2p (s_Kn p1 Qx (s_Kn p1 Q1o (s_Ki p1 Qi (s_Kn p1 Q2w (s_Kw p1 o0).2).2).2).2).2)
theorem e_Ku (p1 : Val) (o0 : Decoder) : s_Ku p1 o0 = (((PodStatus.mk (s_Kn p1 Q2w (s_Kw p1 o0).2).1 (s_Ki p1 Qi (s_Kn p1 Q2w (s_Kw p1 o0).2).2).1 (s_Kn p1 Q1o (s_Ki p1 Qi (s_Kn p1 Q2w (s_Kw p1 o0).2).2).2).1 (s_Kn p1 Qx (s_Kn p1 Q1o (s_Ki p1 Qi (s_Kn p1 Q2w (s_Kw p1 o0).2).2).2).2).1 (M4 o0 p1).1 (Qei p1 Qt (M4 o0 p1).2).1 (s_Kn p1 Q2g (Qei p1 Qt (M4 o0 p1).2).2).1 (s_Kv p1 Q24 (s_Kn p1 Q2g (Qei p1 Qt (M4 o0 p1).2).2).2).1 (s_Kv p1 Q38 (s_Kv p1 Q24 (s_Kn p1 Q2g (Qei p1 Qt (M4 o0 p1).2).2).2).2).1), (s_Kv p1 Q38 (s_Kv p1 Q24 (s_Kn p1 Q2g (Qei p1 Qt (M4 o0 p1).2).2).2).2).2)) := by
  simp only [s_Kw, s_Kn, s_Kv, s_Ki, Qei, s_Ku, PodStatus.dec, Qaq, Bool.and_assoc, Bool.and_left_comm, Bool.and_comm, Bool.and_self_left]
def c_Ku (p1 : Val) (o0 : Decoder) : En := .call 33 [.bx 0 0, .agg (Val.cells p1)] [⟨1, 0, false, (Decoder.cells o0)⟩]
def r_Ku (_p1 : Val) (_o0 : Decoder) (q0 : PodStatus) (q1 : Decoder) : Rs := .ret (.agg (PodStatus.cells q0)) [⟨1, 0, false, (Decoder.cells q1)⟩]
def a_Ku (p1 : Val) (o0 : Decoder) : Rs := r_Ku p1 o0 (s_Ku p1 o0).1 (s_Ku p1 o0).2
def H_Ku (p1 : Val) : Prop := Val.Sm 1000000000 p1
theorem Q8t (p1 : Val) (_o0 : Decoder) (H : H_Ku p1) : (H_Kn p1) ∧ (H_Ki p1) ∧ (Q1m9 p1) ∧ (H_Kv p1) ∧ True := by
  repeat' with_reducible apply And.intro
  all_goals first | exact True.intro | exact H | exact Qas (Q3t H _)
theorem t_Ku (p1 : Val) (o0 : Decoder) (H : H_Ku p1) : Q7 G (c_Ku p1 o0) (a_Ku p1 o0) := by
 unfold a_Ku
 rw [e_Ku]
 exact Q8 (fn := Ir.Ku) rfl (h := [⟨1, 0, false, (Decoder.cells o0)⟩]) (vw := []) VOK.nil [] [aN (t_Kw p1 o0), aN (t_Kn p1 Q2w (s_Kw p1 o0).2 (Q8t p1 o0 H).1), aN (t_Ki p1 Qi (s_Kn p1 Q2w (s_Kw p1 o0).2).2 (Q8t p1 o0 H).2.1), aN (t_Kn p1 Q1o (s_Ki p1 Qi (s_Kn p1 Q2w (s_Kw p1 o0).2).2).2 (Q8t p1 o0 H).1), aN (t_Kn p1 Qx (s_Kn p1 Q1o (s_Ki p1 Qi (s_Kn p1 Q2w (s_Kw p1 o0).2).2).2).2 (Q8t p1 o0 H).1), aN (t_Kn p1 Q2p (s_Kn p1 Qx (s_Kn p1 Q1o (s_Ki p1 Qi (s_Kn p1 Q2w (s_Kw p1 o0).2).2).2).2).2 (Q8t p1 o0 H).1), aN (Q1xe p1 Qt (M4 o0 p1).2 (Q8t p1 o0 H).2.2.1), aN (t_Kn p1 Q2g (Qei p1 Qt (M4 o0 p1).2).2 (Q8t p1 o0 H).1), aN (t_Kv p1 Q24 (s_Kn p1 Q2g (Qei p1 Qt (M4 o0 p1).2).2).2 (Q8t p1 o0 H).2.2.2.1), aN (t_Kv p1 Q38 (s_Kv p1 Q24 (s_Kn p1 Q2g (Qei p1 Qt (M4 o0 p1).2).2).2).2 (Q8t p1 o0 H).2.2.2.1)] (by kernel_rfl)
def s_Ky (p1 : Val) (o0 : Decoder) : Taint × Decoder := ((Taint.dec p1).1, ft o0 (Taint.dec p1).2)
theorem e_Ky (p1 : Val) (o0 : Decoder) : s_Ky p1 o0 = (((Taint.mk (s_Kv p1 Qs (s_Kw p1 o0).2).1 (s_Kv p1 Qn (s_Kv p1 Qs (s_Kw p1 o0).2).2).1 (s_Kn p1 Qu (s_Kv p1 Qn (s_Kv p1 Qs (s_Kw p1 o0).2).2).2).1 (s_Kn p1 Q10 (s_Kn p1 Qu (s_Kv p1 Qn (s_Kv p1 Qs (s_Kw p1 o0).2).2).2).2).1), (s_Kn p1 Q10 (s_Kn p1 Qu (s_Kv p1 Qn (s_Kv p1 Qs (s_Kw p1 o0).2).2).2).2).2)) := by
  simp only [s_Kw, s_Kn, s_Kv, s_Ky, Taint.dec, Qaq, Bool.and_assoc, Bool.and_left_comm, Bool.and_comm, Bool.and_self_left]
def c_Ky (p1 : Val) (o0 : Decoder) : En := .call 42 [.bx 0 0, .agg (Val.cells p1)] [⟨1, 0, false, (Decoder.cells o0)⟩]
def r_Ky (_p1 : Val) (_o0 : Decoder) (q0 : Taint) (q1 : Decoder) : Rs := .ret (.agg (Taint.cells q0)) [⟨1, 0, false, (Decoder.cells q1)⟩]
def a_Ky (p1 : Val) (o0 : Decoder) : Rs := r_Ky p1 o0 (s_Ky p1 o0).1 (s_Ky p1 o0).2
def H_Ky (p1 : Val) : Prop := Val.Sm 1000000000 p1
theorem Qux (p1 : Val) (_o0 : Decoder) (H : H_Ky p1) : (H_Kv p1) ∧ (H_Kn p1) ∧ True := by
  repeat' with_reducible apply And.intro
  all_goals first | exact True.intro | exact H | exact Qas (Q3t H _)
theorem t_Ky (p1 : Val) (o0 : Decoder) (H : H_Ky p1) : Q7 G (c_Ky p1 o0) (a_Ky p1 o0) := by
 unfold a_Ky
 rw [e_Ky]
 exact Q8 (fn := Ir.Ky) rfl (h := [⟨1, 0, false, (Decoder.cells o0)⟩]) (vw := []) VOK.nil [] [aN (t_Kw p1 o0), aN (t_Kv p1 Qs (s_Kw p1 o0).2 (Qux p1 o0 H).1), aN (t_Kv p1 Qn (s_Kv p1 Qs (s_Kw p1 o0).2).2 (Qux p1 o0 H).1), aN (t_Kn p1 Qu (s_Kv p1 Qn (s_Kv p1 Qs (s_Kw p1 o0).2).2).2 (Qux p1 o0 H).2.1), aN (t_Kn p1 Q10 (s_Kn p1 Qu (s_Kv p1 Qn (s_Kv p1 Qs (s_Kw p1 o0).2).2).2).2 (Qux p1 o0 H).2.1)] (by kernel_rfl)
def s_Kk (p1 : Val) (o0 : Decoder) : Image × Decoder := ((Image.dec p1).1, ft o0 (Image.dec p1).2)
theorem e_Kk (p1 : Val) (o0 : Decoder) : s_Kk p1 o0 = (((Image.mk (s_Kv p1 Qp (s_Kw p1 o0).2).1 (s_Kn p1 Q2s (s_Kv p1 Qp (s_Kw p1 o0).2).2).1 (s_Kn p1 Q2z (s_Kn p1 Q2s (s_Kv p1 Qp (s_Kw p1 o0).2).2).2).1), (s_Kn p1 Q2z (s_Kn p1 Q2s (s_Kv p1 Qp (s_Kw p1 o0).2).2).2).2)) := by
  simp only [s_Kw, s_Kn, s_Kv, s_Kk, Image.dec, Qaq, Bool.and_assoc, Bool.and_left_comm, Bool.and_comm, Bool.and_self_left]
def c_Kk (p1 : Val) (o0 : Decoder) : En := .call 44 [.bx 0 0, .agg (Val.cells p1)] [⟨1, 0, false, (Decoder.cells o0)⟩]
def r_Kk (_p1 : Val) (_o0 : Decoder) (q0 : Image) (q1 : Decoder) : Rs := .ret (.agg (Image.cells q0)) [⟨1, 0, false, (Decoder.cells q1)⟩]
def a_Kk (p1 : Val) (o0 : Decoder) : Rs := r_Kk p1 o0 (s_Kk p1 o0).1 (s_Kk p1 o0).2
def H_Kk (p1 : Val) : Prop := Val.Sm 1000000000 p1
theorem Q12i (p1 : Val) (_o0 : Decoder) (H : H_Kk p1) : (H_Kv p1) ∧ (H_Kn p1) ∧ True := by
  repeat' with_reducible apply And.intro
  all_goals first | exact True.intro | exact H | exact Qas (Q3t H _)
theorem t_Kk (p1 : Val) (o0 : Decoder) (H : H_Kk p1) : Q7 G (c_Kk p1 o0) (a_Kk p1 o0) := by
 unfold a_Kk
 rw [e_Kk]
 exact Q8 (fn := Ir.Kk) rfl (h := [⟨1, 0, false, (Decoder.cells o0)⟩]) (vw := []) VOK.nil [] [aN (t_Kw p1 o0), aN (t_Kv p1 Qp (s_Kw p1 o0).2 (Q12i p1 o0 H).1), aN (t_Kn p1 Q2s (s_Kv p1 Qp (s_Kw p1 o0).2).2 (Q12i p1 o0 H).2.1), aN (t_Kn p1 Q2z (s_Kn p1 Q2s (s_Kv p1 Qp (s_Kw p1 o0).2).2).2 (Q12i p1 o0 H).2.1)] (by kernel_rfl)
def s_Kl (p1 : Val) (o0 : Decoder) : Label × Decoder := ((Label.dec p1).1, ft o0 (Label.dec p1).2)
theorem e_Kl (p1 : Val) (o0 : Decoder) : s_Kl p1 o0 = (((Label.mk (s_Kv p1 Qs (s_Kw p1 o0).2).1 (s_Kv p1 Qn (s_Kv p1 Qs (s_Kw p1 o0).2).2).1), (s_Kv p1 Qn (s_Kv p1 Qs (s_Kw p1 o0).2).2).2)) := by
  simp only [s_Kw, s_Kv, s_Kl, Label.dec, Qaq, Bool.and_assoc, Bool.and_left_comm, Bool.and_self_left]
def c_Kl (p1 : Val) (o0 : Decoder) : En := .call 52 [.bx 0 0, .agg (Val.cells p1)] [⟨1, 0, false, (Decoder.cells o0)⟩]
def r_Kl (_p1 : Val) (_o0 : Decoder) (q0 : Label) (q1 : Decoder) : Rs := .ret (.agg (Label.cells q0)) [⟨1, 0, false, (Decoder.cells q1)⟩]
def a_Kl (p1 : Val) (o0 : Decoder) : Rs := r_Kl p1 o0 (s_Kl p1 o0).1 (s_Kl p1 o0).2
def H_Kl (p1 : Val) : Prop := Val.Sm 1000000000 p1
theorem Q1g4 (p1 : Val) (_o0 : Decoder) (H : H_Kl p1) : (H_Kv p1) ∧ True := by
  repeat' with_reducible apply And.intro
  all_goals first | exact True.intro | exact H | exact Qas (Q3t H _)
theorem t_Kl (p1 : Val) (o0 : Decoder) (H : H_Kl p1) : Q7 G (c_Kl p1 o0) (a_Kl p1 o0) := by
 unfold a_Kl
 rw [e_Kl]
 exact Q8 (fn := Ir.Kl) rfl (h := [⟨1, 0, false, (Decoder.cells o0)⟩]) (vw := []) VOK.nil [] [aN (t_Kw p1 o0), aN (t_Kv p1 Qs (s_Kw p1 o0).2 (Q1g4 p1 o0 H).1), aN (t_Kv p1 Qn (s_Kv p1 Qs (s_Kw p1 o0).2).2 (Q1g4 p1 o0 H).1)] (by kernel_rfl)
end Go.Proofs.YtiflaadeikaghaaGreat
end

