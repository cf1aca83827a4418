/- Texts of the claim, merged by a program; what the statement does not reach is left out. -/
import Derived.Test.YtimjjohlpnkacaaGreatBWorkcodecJobs4

section
/- What the encoders of templates compute (printed by a program). -/
namespace Go.Proofs.YtimjjohlpnkacaaGreat
open Go.Pv
def Q2w (p0 : BA) : Val :=
 (Val.mk 3 0 p0 [] [])
def Q1xj (p0 : BA) : En := .call 193 [.str p0] []
def Q1pe (p0 : BA) : Rs := .ret (.agg (Val.cells (Q2w p0))) []
theorem Qec (p0 : BA) : Q5 G (Q1xj p0) (Q1pe p0) := by
 unfold Q1pe Q2w
 exact Q6 (fn := Ir.K52) rfl VOK.nil [] [] (by kernel_rfl)
def Qv (p0 : BA) (p1 : Val) : Fld :=
 (Fld.mk p0 p1)
def Q1wg (p0 : BA) (p1 : Val) : En := .call 226 [.str p0, .agg (Val.cells p1)] []
def Q1o8 (p0 : BA) (p1 : Val) : Rs := .ret (.agg (Fld.cells (Qv p0 p1))) []
theorem Q3j (p0 : BA) (p1 : Val) : Q5 G (Q1wg p0 p1) (Q1o8 p0 p1) := by
 unfold Q1o8 Qv
 exact Q6 (fn := Ir.K1b) rfl VOK.nil [] [] (by kernel_rfl)
def Qb9 (p0 : Label) : Val := Label.enc p0
theorem Q1yb (p0 : Label) : Qb9 p0 = ((Q57 ([(Qv Q15 (Q2w p0.key)), (Qv Q13 (Q2w p0.value))]))) := by
  exact Eq.symm (Q5r (by exact Nat.le_of_ble_eq_true rfl) (by kernel_rfl))
def Q1w7 (p0 : Label) : En := .call 228 [.agg (Label.cells p0)] []
def Q1nz (p0 : Label) : Rs := .ret (.agg (Val.cells (Qb9 p0))) []
def Q1hu (p0 : Label) : Prop := Label.sm p0
theorem Q1e8 (p0 : Label) (H : Q1hu p0) : (Q90 ([(Qv Q15 (Q2w p0.key)), (Qv Q13 (Q2w p0.value))])) ∧ True := by
  repeat' with_reducible apply And.intro
  all_goals first | exact True.intro | exact H | exact H.1 | exact H.2.1 | exact H.2.2.1 | exact H.2.2.2.1 | exact H.2.2.2.2.1 | exact H.2.2.2.2.2.1 | exact H.2.2.2.2.2.2.1 | exact H.2.2.2.2.2.2.2.1 | exact H.2.2.2.2.2.2.2.2.1 | exact H.2.2.2.2.2.2.2.2.2.1 | exact H.2.2.2.2.2.2.2.2.2.2.1 | exact H.2.2.2.2.2.2.2.2.2.2.2.1 | exact Qam (by exact Nat.le_of_ble_eq_true rfl) (Label.Q2m H).all.2.2.2
theorem Q214 (p0 : Label) (H : Q1hu p0) : Q5 G (Q1w7 p0) (Q1nz p0) := by
 unfold Q1nz
 rw [Q1yb]
 exact Q6 (fn := Ir.K12) rfl VOK.nil [] [aN (Qec p0.key), aN (Q3j Q15 (Q2w p0.key)), aN (Qec p0.value), aN (Q3j Q13 (Q2w p0.value)), aN (Q59 (e' := .call 78 [.sl [(Fld.cells (Qv Q15 (Q2w p0.key))), (Fld.cells (Qv Q13 (Q2w p0.value)))]] []) (Qbh ([(Qv Q15 (Q2w p0.key)), (Qv Q13 (Q2w p0.value))]) (Q1e8 p0 H).1) (by simp only [Qae, Fld.Q12, Fld.Q1n]))] (by kernel_rfl)
def Q4a (p0 : List Label) : List Label → Nat → (List Val) → List Val
 | [], _i0, v0_1 =>
  v0_1
 | x0 :: r0, i0, v0_1 =>
  Q4a p0 r0 (i0 + 1) (v0_1 ++ [(Qb9 x0)])
theorem Qu8 (p0 : List Label) : ∀ (l : List Label) (i : Nat) (a : List Val), Q4a p0 l i a = a ++ l.map (fun x0 => (Qb9 x0))
  | [], _, _ => by simp [Q4a]
  | x :: r, i, a => by rw [Q4a, Qu8 p0 r]; simp
def Qv6 (p0 : List Label) (i0 : Nat) (v0_1 : List Val) : List PV :=
  [.un, .fn 228 [] [], .un, .un, .bx 0 0, .ms 1 5 0 (List.length v0_1), .un, .un, .sl (Label.rows p0), .int .i64 ((List.length p0) : Int), .int .i64 (i0 : Int)] ++ nuns 12
def Qhh (_p0 : List Label) (_i0 : Nat) (v0_1 : List Val) : List Ob :=
  [⟨5, 0, true, [.int .i64 0, .int .i64 0, .str eB, .ms 2 5 0 0, .ms 3 6 0 0]⟩, ⟨5, 0, true, (Val.rows v0_1).flatten⟩, ⟨5, 0, true, []⟩, ⟨6, 0, true, []⟩]
def Qee (p0 : List Label) (i0 : Nat) (v0_1 : List Val) : En := .loop 0 Ir.Qil Ir.Q1g1 (Qv6 p0 i0 v0_1) (Qhh p0 i0 v0_1)
def Qnn (_p0 : List Label) (q0 : List Val) (z : Nat → PV) (_zo : Nat → List PV) : St :=
  ⟨[z 0, z 1, z 2, z 3, .bx 0 0, .ms 1 5 0 (List.length q0)] ++ zr z 6 17, [(0, ⟨5, 0, true, [.int .i64 0, .int .i64 0, .str eB, .ms 2 5 0 0, .ms 3 6 0 0]⟩), (1, ⟨5, 0, true, (Val.rows q0).flatten⟩), (2, ⟨5, 0, true, []⟩), (3, ⟨6, 0, true, []⟩)], 68⟩
theorem Q122 (p0 : List Label) (i0 : Nat) (v0_1 : List Val) : VOK (Go.Pv.look (number 0 (Qhh p0 i0 v0_1))) [(1, Val.rows v0_1)] := (VOK.cons (show Seen _ _ from Q3i (ob := ⟨5, 0, true, (Val.rows v0_1).flatten⟩) (Val.Q7 v0_1 5 rfl)) VOK.nil)
def Qg8 (p0 : List Label) (e : En) (q : List Val) : Prop := ∃ z zo, Q5 G e (.st (.exit 0) (Qnn p0 q z zo))
theorem Qsa (p0 : List Label) {e e' : En} (h : ∀ r, Q5 G e r → Q5 G e' r) : ∀ q, Qg8 p0 e q → Qg8 p0 e' q
  | _, ⟨z, zo, hz⟩ => ⟨z, zo, h _ hz⟩
def Qfd (p0 : List Label) : Prop := (List.length p0 ≤ 137438953472) ∧ (∀ x0 ∈ p0, Q1hu x0) ∧ True
def Qp4 (p0 : List Label) (i0 : Nat) (_v0_1 : List Val) : List PV :=
  [.un, .fn 228 [] []] ++ nuns 6 ++ [.sl (Label.rows p0), .int .i64 ((List.length p0) : Int), .int .i64 (i0 : Int), .bool false]
def Qk4 (_p0 : List Label) (_i0 : Nat) (_v0_1 : List Val) : List (Nat × List PV) :=
  []
theorem Q18d (p0 : List Label) (_H : Qfd p0) (i0 : Nat) (v0_1 : List Val) (_ho0_0 : List.length v0_1 ≤ i0) (hc0 : (decide ((i0 : Int) < ((List.length p0) : Int))) = false) : Qg8 p0 (Qee p0 i0 v0_1) v0_1 := by
 exact ⟨(envF (Qp4 p0 i0 v0_1)), (zoF (Qk4 p0 i0 v0_1)), Qj (Q122 p0 i0 v0_1) (x := ((.exit 0), Qnn p0 v0_1 (envF (Qp4 p0 i0 v0_1)) (zoF (Qk4 p0 i0 v0_1)))) [hB 0 hc0] [] (by kernel_rfl)⟩
theorem Q165 (p0 : List Label) (H : Qfd p0) (x0 : Label) (i0 : Nat) (v0_1 : List Val) (hx0 : p0[i0]? = some x0) (hi0 : i0 < List.length p0) (ho0_0 : List.length v0_1 ≤ i0) (hc0 : (decide ((i0 : Int) < ((List.length p0) : Int))) = true) {r : Rs} (hr : Q5 G (Qee p0 (i0 + 1) (v0_1 ++ [(Qb9 x0)])) r) : Q5 G (Qee p0 i0 v0_1) r := by
 have hB0 := H.1
 exact Qd (Q122 p0 i0 v0_1) (y := (Qv6 p0 (i0 + 1) (v0_1 ++ [(Qb9 x0)]), Qhh p0 (i0 + 1) (v0_1 ++ [(Qb9 x0)]))) [hB 0 hc0, hP 0 (Q2g 2 (Label.rows p0) i0 _ (Label.Qe hx0) rfl), hV 8 [(644, Val.rows (v0_1 ++ [(Qb9 x0)]))] (Q3x 1 580 644 5 80 0 0 true (Val.rows v0_1) (Val.rows (v0_1 ++ [(Qb9 x0)])) (Val.cells (Qb9 x0)) (List.length v0_1) (List.length (v0_1 ++ [(Qb9 x0)])) rfl (Val.Q0 v0_1).symm (Val.Q0 (v0_1 ++ [(Qb9 x0)])).symm (Val.Q1q v0_1 (Qb9 x0)) (Val.Ql v0_1) rfl (by omega)), hS 0 true (Val.Q7 (v0_1 ++ [(Qb9 x0)]) 5 rfl), hP 1 (Q28 i0 (by omega))] [aN (Q214 x0 (H.2.1 x0 (Q2o hx0)))] (by kernel_rfl) hr
theorem Qya (p0 : List Label) (H : Qfd p0) : ∀ (r0 : List Label) (i0 : Nat) (v0_1 : List Val), List.drop i0 p0 = r0 → List.length v0_1 ≤ i0 → Qg8 p0 (Qee p0 i0 v0_1) (Q4a p0 r0 i0 v0_1)
 | [], i0, v0_1, hd, ho0_0 => by
  have hc0 : (decide ((i0 : Int) < ((List.length p0) : Int))) = false := by have := Q1o hd; simp; omega
  rw [Q4a]
  exact Q18d p0 H i0 v0_1 ho0_0 hc0
 | x0 :: r0, i0, v0_1, hd, ho0_0 => by
  obtain ⟨hx0, hi0, hd'⟩ := Q1i hd
  have hc0 : (decide ((i0 : Int) < ((List.length p0) : Int))) = true := by simp; omega
  rw [Q4a]
  exact Qsa p0 (fun r hr => Q165 p0 H x0 i0 v0_1 hx0 hi0 ho0_0 hc0 hr) _ (Qya p0 H r0 (i0 + 1) (v0_1 ++ [(Qb9 x0)]) hd' (by first | omega | (simp; omega)))
def Q5y (p0 : List Label) : Val := vL (p0.map Label.enc)
theorem Q15i (p0 : List Label) : Q5y p0 = ((Qml (Q4a p0 p0 0 []))) := by
  rw [Qu8]
  rfl
def Q152 (p0 : List Label) : En := .call 227 [.sl (Label.rows p0), .fn 228 [] []] []
def Qqi (p0 : List Label) : Rs := .ret (.agg (Val.cells (Q5y p0))) []
def Qcw (p0 : List Label) : Prop := LSm Label.sm p0
theorem Qc7 (p0 : List Label) (H : Qcw p0) : (Qfd p0) ∧ (Qmv (Q4a p0 p0 0 [])) ∧ True := by
  refine ⟨⟨Nat.le_trans H.1 (Nat.le_of_ble_eq_true rfl), H.2, trivial⟩, ⟨?_, trivial⟩, trivial⟩
  rw [Qu8]
  exact Q3d (fun _ h => Label.Q2m h) H
theorem Q17u (p0 : List Label) (H : Qcw p0) : Q5 G (Q152 p0) (Qqi p0) := by
 unfold Qqi
 rw [Q15i]
 have hl0 := Qya p0 ((Qc7 p0 H).1) p0 0 [] (by simp) (by simp)
 obtain ⟨z0, zo0, hl0⟩ := hl0
 exact Q6 (fn := Ir.K1c) rfl VOK.nil [hP 3 (Qw (Label.rows p0) (List.length p0) (Label.Q0 p0)), hS 0 true (Val.Q7 (Q4a p0 p0 0 []) 5 rfl), hQ (Val.Q0 (Q4a p0 p0 0 [])).symm] [aV [(1, Val.rows (Q4a p0 p0 0 []))] hl0, aN (Quz (Q4a p0 p0 0 []) (Qc7 p0 H).2.1)] (by kernel_rfl)
def Q27 (p0 : Int) : Val :=
 (Val.mk 2 p0 eB [] [])
def Q1xg (p0 : Int) : En := .call 109 [.int .i64 p0] []
def Q1pa (p0 : Int) : Rs := .ret (.agg (Val.cells (Q27 p0))) []
theorem Q8x (p0 : Int) : Q5 G (Q1xg p0) (Q1pa p0) := by
 unfold Q1pa Q27
 exact Q6 (fn := Ir.K4y) rfl VOK.nil [] [] (by kernel_rfl)
def Qe9 (p0 : Resources) : Val := Resources.enc p0
theorem Q1yg (p0 : Resources) : Qe9 p0 = ((Q57 ([(Qv Q4t (Q27 p0.cPU)), (Qv Q46 (Q27 p0.disk)), (Qv Q34 (Q27 p0.memory))]))) := by
  exact Eq.symm (Q5r (by exact Nat.le_of_ble_eq_true rfl) (by kernel_rfl))
def Q1wc (p0 : Resources) : En := .call 282 [.agg (Resources.cells p0)] []
def Q1o4 (p0 : Resources) : Rs := .ret (.agg (Val.cells (Qe9 p0))) []
def Q1di (p0 : Resources) : Prop := Resources.sm p0
theorem Q1ea (p0 : Resources) (H : Q1di p0) : (Q90 ([(Qv Q4t (Q27 p0.cPU)), (Qv Q46 (Q27 p0.disk)), (Qv Q34 (Q27 p0.memory))])) ∧ True := by
  repeat' with_reducible apply And.intro
  all_goals first | exact True.intro | exact H | exact H.1 | exact H.2.1 | exact H.2.2.1 | exact H.2.2.2.1 | exact H.2.2.2.2.1 | exact H.2.2.2.2.2.1 | exact H.2.2.2.2.2.2.1 | exact H.2.2.2.2.2.2.2.1 | exact H.2.2.2.2.2.2.2.2.1 | exact H.2.2.2.2.2.2.2.2.2.1 | exact H.2.2.2.2.2.2.2.2.2.2.1 | exact H.2.2.2.2.2.2.2.2.2.2.2.1 | exact Qam (by exact Nat.le_of_ble_eq_true rfl) (Resources.Q2m H).all.2.2.2
theorem Q1rd (p0 : Resources) (H : Q1di p0) : Q5 G (Q1wc p0) (Q1o4 p0) := by
 unfold Q1o4
 rw [Q1yg]
 exact Q6 (fn := Ir.K17) rfl VOK.nil [] [aN (Q8x p0.cPU), aN (Q3j Q4t (Q27 p0.cPU)), aN (Q8x p0.disk), aN (Q3j Q46 (Q27 p0.disk)), aN (Q8x p0.memory), aN (Q3j Q34 (Q27 p0.memory)), aN (Q59 (e' := .call 78 [.sl [(Fld.cells (Qv Q4t (Q27 p0.cPU))), (Fld.cells (Qv Q46 (Q27 p0.disk))), (Fld.cells (Qv Q34 (Q27 p0.memory)))]] []) (Qbh ([(Qv Q4t (Q27 p0.cPU)), (Qv Q46 (Q27 p0.disk)), (Qv Q34 (Q27 p0.memory))]) (Q1ea p0 H).1) (by simp only [Qae, Fld.Q12, Fld.Q1n]))] (by kernel_rfl)
def Qbc (p0 : Probe) : Val := Probe.enc p0
theorem Q1ye (p0 : Probe) : Qbc p0 = ((Q57 ([(Qv Q2d (Q27 p0.delay)), (Qv Q22 (Q27 p0.failure)), (Qv Q26 (Q27 p0.period)), (Qv Q1w (Q27 p0.success))]))) := by
  exact Eq.symm (Q5r (by exact Nat.le_of_ble_eq_true rfl) (by kernel_rfl))
def Q1wa (p0 : Probe) : En := .call 284 [.agg (Probe.cells p0)] []
def Q1o2 (p0 : Probe) : Rs := .ret (.agg (Val.cells (Qbc p0))) []
def Q1hx (p0 : Probe) : Prop := Probe.sm p0
theorem Q1e9 (p0 : Probe) (H : Q1hx p0) : (Q90 ([(Qv Q2d (Q27 p0.delay)), (Qv Q22 (Q27 p0.failure)), (Qv Q26 (Q27 p0.period)), (Qv Q1w (Q27 p0.success))])) ∧ True := by
  repeat' with_reducible apply And.intro
  all_goals first | exact True.intro | exact H | exact H.1 | exact H.2.1 | exact H.2.2.1 | exact H.2.2.2.1 | exact H.2.2.2.2.1 | exact H.2.2.2.2.2.1 | exact H.2.2.2.2.2.2.1 | exact H.2.2.2.2.2.2.2.1 | exact H.2.2.2.2.2.2.2.2.1 | exact H.2.2.2.2.2.2.2.2.2.1 | exact H.2.2.2.2.2.2.2.2.2.2.1 | exact H.2.2.2.2.2.2.2.2.2.2.2.1 | exact Qam (by exact Nat.le_of_ble_eq_true rfl) (Probe.Q2m H).all.2.2.2
theorem Q217 (p0 : Probe) (H : Q1hx p0) : Q5 G (Q1wa p0) (Q1o2 p0) := by
 unfold Q1o2
 rw [Q1ye]
 exact Q6 (fn := Ir.K15) rfl VOK.nil [] [aN (Q8x p0.delay), aN (Q3j Q2d (Q27 p0.delay)), aN (Q8x p0.failure), aN (Q3j Q22 (Q27 p0.failure)), aN (Q8x p0.period), aN (Q3j Q26 (Q27 p0.period)), aN (Q8x p0.success), aN (Q3j Q1w (Q27 p0.success)), aN (Q59 (e' := .call 78 [.sl [(Fld.cells (Qv Q2d (Q27 p0.delay))), (Fld.cells (Qv Q22 (Q27 p0.failure))), (Fld.cells (Qv Q26 (Q27 p0.period))), (Fld.cells (Qv Q1w (Q27 p0.success)))]] []) (Qbh ([(Qv Q2d (Q27 p0.delay)), (Qv Q22 (Q27 p0.failure)), (Qv Q26 (Q27 p0.period)), (Qv Q1w (Q27 p0.success))]) (Q1e9 p0 H).1) (by simp only [Qae, Fld.Q12, Fld.Q1n]))] (by kernel_rfl)
def Q4h (p0 : List Probe) : List Probe → Nat → (List Val) → List Val
 | [], _i0, v0_1 =>
  v0_1
 | x0 :: r0, i0, v0_1 =>
  Q4h p0 r0 (i0 + 1) (v0_1 ++ [(Qbc x0)])
theorem Qug (p0 : List Probe) : ∀ (l : List Probe) (i : Nat) (a : List Val), Q4h p0 l i a = a ++ l.map (fun x0 => (Qbc x0))
  | [], _, _ => by simp [Q4h]
  | x :: r, i, a => by rw [Q4h, Qug p0 r]; simp
def Qvd (p0 : List Probe) (i0 : Nat) (v0_1 : List Val) : List PV :=
  [.un, .fn 284 [] [], .un, .un, .bx 0 0, .ms 1 5 0 (List.length v0_1), .un, .un, .sl (Probe.rows p0), .int .i64 ((List.length p0) : Int), .int .i64 (i0 : Int)] ++ nuns 12
def Qho (_p0 : List Probe) (_i0 : Nat) (v0_1 : List Val) : List Ob :=
  [⟨5, 0, true, [.int .i64 0, .int .i64 0, .str eB, .ms 2 5 0 0, .ms 3 6 0 0]⟩, ⟨5, 0, true, (Val.rows v0_1).flatten⟩, ⟨5, 0, true, []⟩, ⟨6, 0, true, []⟩]
def Qel (p0 : List Probe) (i0 : Nat) (v0_1 : List Val) : En := .loop 0 Ir.Qis Ir.Q1g8 (Qvd p0 i0 v0_1) (Qho p0 i0 v0_1)
def Qnu (_p0 : List Probe) (q0 : List Val) (z : Nat → PV) (_zo : Nat → List PV) : St :=
  ⟨[z 0, z 1, z 2, z 3, .bx 0 0, .ms 1 5 0 (List.length q0)] ++ zr z 6 17, [(0, ⟨5, 0, true, [.int .i64 0, .int .i64 0, .str eB, .ms 2 5 0 0, .ms 3 6 0 0]⟩), (1, ⟨5, 0, true, (Val.rows q0).flatten⟩), (2, ⟨5, 0, true, []⟩), (3, ⟨6, 0, true, []⟩)], 68⟩
theorem Q129 (p0 : List Probe) (i0 : Nat) (v0_1 : List Val) : VOK (Go.Pv.look (number 0 (Qho p0 i0 v0_1))) [(1, Val.rows v0_1)] := (VOK.cons (show Seen _ _ from Q3i (ob := ⟨5, 0, true, (Val.rows v0_1).flatten⟩) (Val.Q7 v0_1 5 rfl)) VOK.nil)
def Qgf (p0 : List Probe) (e : En) (q : List Val) : Prop := ∃ z zo, Q5 G e (.st (.exit 0) (Qnu p0 q z zo))
theorem Qsh (p0 : List Probe) {e e' : En} (h : ∀ r, Q5 G e r → Q5 G e' r) : ∀ q, Qgf p0 e q → Qgf p0 e' q
  | _, ⟨z, zo, hz⟩ => ⟨z, zo, h _ hz⟩
def Qfk (p0 : List Probe) : Prop := (List.length p0 ≤ 137438953472) ∧ (∀ x0 ∈ p0, Q1hx x0) ∧ True
def Qpb (p0 : List Probe) (i0 : Nat) (_v0_1 : List Val) : List PV :=
  [.un, .fn 284 [] []] ++ nuns 6 ++ [.sl (Probe.rows p0), .int .i64 ((List.length p0) : Int), .int .i64 (i0 : Int), .bool false]
def Qkb (_p0 : List Probe) (_i0 : Nat) (_v0_1 : List Val) : List (Nat × List PV) :=
  []
theorem Q18k (p0 : List Probe) (_H : Qfk p0) (i0 : Nat) (v0_1 : List Val) (_ho0_0 : List.length v0_1 ≤ i0) (hc0 : (decide ((i0 : Int) < ((List.length p0) : Int))) = false) : Qgf p0 (Qel p0 i0 v0_1) v0_1 := by
 exact ⟨(envF (Qpb p0 i0 v0_1)), (zoF (Qkb p0 i0 v0_1)), Qj (Q129 p0 i0 v0_1) (x := ((.exit 0), Qnu p0 v0_1 (envF (Qpb p0 i0 v0_1)) (zoF (Qkb p0 i0 v0_1)))) [hB 0 hc0] [] (by kernel_rfl)⟩
theorem Q16c (p0 : List Probe) (H : Qfk p0) (x0 : Probe) (i0 : Nat) (v0_1 : List Val) (hx0 : p0[i0]? = some x0) (hi0 : i0 < List.length p0) (ho0_0 : List.length v0_1 ≤ i0) (hc0 : (decide ((i0 : Int) < ((List.length p0) : Int))) = true) {r : Rs} (hr : Q5 G (Qel p0 (i0 + 1) (v0_1 ++ [(Qbc x0)])) r) : Q5 G (Qel p0 i0 v0_1) r := by
 have hB0 := H.1
 exact Qd (Q129 p0 i0 v0_1) (y := (Qvd p0 (i0 + 1) (v0_1 ++ [(Qbc x0)]), Qho p0 (i0 + 1) (v0_1 ++ [(Qbc x0)]))) [hB 0 hc0, hP 0 (Q2g 4 (Probe.rows p0) i0 _ (Probe.Qe hx0) rfl), hV 8 [(644, Val.rows (v0_1 ++ [(Qbc x0)]))] (Q3x 1 580 644 5 80 0 0 true (Val.rows v0_1) (Val.rows (v0_1 ++ [(Qbc x0)])) (Val.cells (Qbc x0)) (List.length v0_1) (List.length (v0_1 ++ [(Qbc x0)])) rfl (Val.Q0 v0_1).symm (Val.Q0 (v0_1 ++ [(Qbc x0)])).symm (Val.Q1q v0_1 (Qbc x0)) (Val.Ql v0_1) rfl (by omega)), hS 0 true (Val.Q7 (v0_1 ++ [(Qbc x0)]) 5 rfl), hP 1 (Q28 i0 (by omega))] [aN (Q217 x0 (H.2.1 x0 (Q2o hx0)))] (by kernel_rfl) hr
theorem Qyh (p0 : List Probe) (H : Qfk p0) : ∀ (r0 : List Probe) (i0 : Nat) (v0_1 : List Val), List.drop i0 p0 = r0 → List.length v0_1 ≤ i0 → Qgf p0 (Qel p0 i0 v0_1) (Q4h p0 r0 i0 v0_1)
 | [], i0, v0_1, hd, ho0_0 => by
  have hc0 : (decide ((i0 : Int) < ((List.length p0) : Int))) = false := by have := Q1o hd; simp; omega
  rw [Q4h]
  exact Q18k p0 H i0 v0_1 ho0_0 hc0
 | x0 :: r0, i0, v0_1, hd, ho0_0 => by
  obtain ⟨hx0, hi0, hd'⟩ := Q1i hd
  have hc0 : (decide ((i0 : Int) < ((List.length p0) : Int))) = true := by simp; omega
  rw [Q4h]
  exact Qsh p0 (fun r hr => Q16c p0 H x0 i0 v0_1 hx0 hi0 ho0_0 hc0 hr) _ (Qyh p0 H r0 (i0 + 1) (v0_1 ++ [(Qbc x0)]) hd' (by first | omega | (simp; omega)))
def Q2z (p0 : List Probe) : Val := vL (p0.map Probe.enc)
theorem Q15p (p0 : List Probe) : Q2z p0 = ((Qml (Q4h p0 p0 0 []))) := by
  rw [Qug]
  rfl
def Q159 (p0 : List Probe) : En := .call 283 [.sl (Probe.rows p0), .fn 284 [] []] []
def Qqp (p0 : List Probe) : Rs := .ret (.agg (Val.cells (Q2z p0))) []
def Q7t (p0 : List Probe) : Prop := LSm Probe.sm p0
theorem Qce (p0 : List Probe) (H : Q7t p0) : (Qfk p0) ∧ (Qmv (Q4h p0 p0 0 [])) ∧ True := by
  refine ⟨⟨Nat.le_trans H.1 (Nat.le_of_ble_eq_true rfl), H.2, trivial⟩, ⟨?_, trivial⟩, trivial⟩
  rw [Qug]
  exact Q3d (fun _ h => Probe.Q2m h) H
theorem Qdq (p0 : List Probe) (H : Q7t p0) : Q5 G (Q159 p0) (Qqp p0) := by
 unfold Qqp
 rw [Q15p]
 have hl0 := Qyh p0 ((Qce p0 H).1) p0 0 [] (by simp) (by simp)
 obtain ⟨z0, zo0, hl0⟩ := hl0
 exact Q6 (fn := Ir.K1j) rfl VOK.nil [hP 3 (Qw (Probe.rows p0) (List.length p0) (Probe.Q0 p0)), hS 0 true (Val.Q7 (Q4h p0 p0 0 []) 5 rfl), hQ (Val.Q0 (Q4h p0 p0 0 [])).symm] [aV [(1, Val.rows (Q4h p0 p0 0 []))] hl0, aN (Quz (Q4h p0 p0 0 []) (Qce p0 H).2.1)] (by kernel_rfl)
def Qb8 (p0 : Container) : Val := Container.enc p0
theorem Q1ya (p0 : Container) : Qb8 p0 = ((Q57 ([(Qv Qx (Q2w p0.image)), (Qv Q1r (Qe9 p0.limit)), (Qv Q2y (Q2z p0.live)), (Qv Q11 (Q2w p0.name)), (Qv Q2b (Q2z p0.ready)), (Qv Qh (Qe9 p0.request)), (Qv Q24 (Q2z p0.startup))]))) := by
  exact Eq.symm (Q5r (by exact Nat.le_of_ble_eq_true rfl) (by kernel_rfl))
def Q1w6 (p0 : Container) : En := .call 258 [.agg (Container.cells p0)] []
def Q1ny (p0 : Container) : Rs := .ret (.agg (Val.cells (Qb8 p0))) []
def Q1ht (p0 : Container) : Prop := Container.sm p0
theorem Qa7 (p0 : Container) (H : Q1ht p0) : (Q1di p0.limit) ∧ (Q7t p0.live) ∧ (Q7t p0.ready) ∧ (Q1di p0.request) ∧ (Q7t p0.startup) ∧ (Q90 ([(Qv Qx (Q2w p0.image)), (Qv Q1r (Qe9 p0.limit)), (Qv Q2y (Q2z p0.live)), (Qv Q11 (Q2w p0.name)), (Qv Q2b (Q2z p0.ready)), (Qv Qh (Qe9 p0.request)), (Qv Q24 (Q2z p0.startup))])) ∧ True := by
  repeat' with_reducible apply And.intro
  all_goals first | exact True.intro | exact H | exact H.1 | exact H.2.1 | exact H.2.2.1 | exact H.2.2.2.1 | exact H.2.2.2.2.1 | exact H.2.2.2.2.2.1 | exact H.2.2.2.2.2.2.1 | exact H.2.2.2.2.2.2.2.1 | exact H.2.2.2.2.2.2.2.2.1 | exact H.2.2.2.2.2.2.2.2.2.1 | exact H.2.2.2.2.2.2.2.2.2.2.1 | exact H.2.2.2.2.2.2.2.2.2.2.2.1 | exact Qam (by exact Nat.le_of_ble_eq_true rfl) (Container.Q2m H).all.2.2.2
theorem Q213 (p0 : Container) (H : Q1ht p0) : Q5 G (Q1w6 p0) (Q1ny p0) := by
 unfold Q1ny
 rw [Q1ya]
 exact Q6 (fn := Ir.K11) rfl VOK.nil [] [aN (Qec p0.image), aN (Q3j Qx (Q2w p0.image)), aN (Q1rd p0.limit (Qa7 p0 H).1), aN (Q3j Q1r (Qe9 p0.limit)), aN (Qdq p0.live (Qa7 p0 H).2.1), aN (Q3j Q2y (Q2z p0.live)), aN (Qec p0.name), aN (Q3j Q11 (Q2w p0.name)), aN (Qdq p0.ready (Qa7 p0 H).2.2.1), aN (Q3j Q2b (Q2z p0.ready)), aN (Q1rd p0.request (Qa7 p0 H).2.2.2.1), aN (Q3j Qh (Qe9 p0.request)), aN (Qdq p0.startup (Qa7 p0 H).2.2.2.2.1), aN (Q3j Q24 (Q2z p0.startup)), aN (Q59 (e' := .call 78 [.sl [(Fld.cells (Qv Qx (Q2w p0.image))), (Fld.cells (Qv Q1r (Qe9 p0.limit))), (Fld.cells (Qv Q2y (Q2z p0.live))), (Fld.cells (Qv Q11 (Q2w p0.name))), (Fld.cells (Qv Q2b (Q2z p0.ready))), (Fld.cells (Qv Qh (Qe9 p0.request))), (Fld.cells (Qv Q24 (Q2z p0.startup)))]] []) (Qbh ([(Qv Qx (Q2w p0.image)), (Qv Q1r (Qe9 p0.limit)), (Qv Q2y (Q2z p0.live)), (Qv Q11 (Q2w p0.name)), (Qv Q2b (Q2z p0.ready)), (Qv Qh (Qe9 p0.request)), (Qv Q24 (Q2z p0.startup))]) (Qa7 p0 H).2.2.2.2.2.1) (by simp only [Qae, Fld.Q12, Fld.Q1n]))] (by kernel_rfl)
def Q4b (p0 : List Container) : List Container → Nat → (List Val) → List Val
 | [], _i0, v0_1 =>
  v0_1
 | x0 :: r0, i0, v0_1 =>
  Q4b p0 r0 (i0 + 1) (v0_1 ++ [(Qb8 x0)])
theorem Qu9 (p0 : List Container) : ∀ (l : List Container) (i : Nat) (a : List Val), Q4b p0 l i a = a ++ l.map (fun x0 => (Qb8 x0))
  | [], _, _ => by simp [Q4b]
  | x :: r, i, a => by rw [Q4b, Qu9 p0 r]; simp
def Qv7 (p0 : List Container) (i0 : Nat) (v0_1 : List Val) : List PV :=
  [.un, .fn 258 [] [], .un, .un, .bx 0 0, .ms 1 5 0 (List.length v0_1), .un, .un, .sl (Container.rows p0), .int .i64 ((List.length p0) : Int), .int .i64 (i0 : Int)] ++ nuns 12
def Qhi (_p0 : List Container) (_i0 : Nat) (v0_1 : List Val) : List Ob :=
  [⟨5, 0, true, [.int .i64 0, .int .i64 0, .str eB, .ms 2 5 0 0, .ms 3 6 0 0]⟩, ⟨5, 0, true, (Val.rows v0_1).flatten⟩, ⟨5, 0, true, []⟩, ⟨6, 0, true, []⟩]
def Qef (p0 : List Container) (i0 : Nat) (v0_1 : List Val) : En := .loop 0 Ir.Qim Ir.Q1g2 (Qv7 p0 i0 v0_1) (Qhi p0 i0 v0_1)
def Qno (_p0 : List Container) (q0 : List Val) (z : Nat → PV) (_zo : Nat → List PV) : St :=
  ⟨[z 0, z 1, z 2, z 3, .bx 0 0, .ms 1 5 0 (List.length q0)] ++ zr z 6 17, [(0, ⟨5, 0, true, [.int .i64 0, .int .i64 0, .str eB, .ms 2 5 0 0, .ms 3 6 0 0]⟩), (1, ⟨5, 0, true, (Val.rows q0).flatten⟩), (2, ⟨5, 0, true, []⟩), (3, ⟨6, 0, true, []⟩)], 68⟩
theorem Q123 (p0 : List Container) (i0 : Nat) (v0_1 : List Val) : VOK (Go.Pv.look (number 0 (Qhi p0 i0 v0_1))) [(1, Val.rows v0_1)] := (VOK.cons (show Seen _ _ from Q3i (ob := ⟨5, 0, true, (Val.rows v0_1).flatten⟩) (Val.Q7 v0_1 5 rfl)) VOK.nil)
def Qg9 (p0 : List Container) (e : En) (q : List Val) : Prop := ∃ z zo, Q5 G e (.st (.exit 0) (Qno p0 q z zo))
theorem Qsb (p0 : List Container) {e e' : En} (h : ∀ r, Q5 G e r → Q5 G e' r) : ∀ q, Qg9 p0 e q → Qg9 p0 e' q
  | _, ⟨z, zo, hz⟩ => ⟨z, zo, h _ hz⟩
def Qfe (p0 : List Container) : Prop := (List.length p0 ≤ 137438953472) ∧ (∀ x0 ∈ p0, Q1ht x0) ∧ True
def Qp5 (p0 : List Container) (i0 : Nat) (_v0_1 : List Val) : List PV :=
  [.un, .fn 258 [] []] ++ nuns 6 ++ [.sl (Container.rows p0), .int .i64 ((List.length p0) : Int), .int .i64 (i0 : Int), .bool false]
def Qk5 (_p0 : List Container) (_i0 : Nat) (_v0_1 : List Val) : List (Nat × List PV) :=
  []
theorem Q18e (p0 : List Container) (_H : Qfe p0) (i0 : Nat) (v0_1 : List Val) (_ho0_0 : List.length v0_1 ≤ i0) (hc0 : (decide ((i0 : Int) < ((List.length p0) : Int))) = false) : Qg9 p0 (Qef p0 i0 v0_1) v0_1 := by
 exact ⟨(envF (Qp5 p0 i0 v0_1)), (zoF (Qk5 p0 i0 v0_1)), Qj (Q123 p0 i0 v0_1) (x := ((.exit 0), Qno p0 v0_1 (envF (Qp5 p0 i0 v0_1)) (zoF (Qk5 p0 i0 v0_1)))) [hB 0 hc0] [] (by kernel_rfl)⟩
theorem Q166 (p0 : List Container) (H : Qfe p0) (x0 : Container) (i0 : Nat) (v0_1 : List Val) (hx0 : p0[i0]? = some x0) (hi0 : i0 < List.length p0) (ho0_0 : List.length v0_1 ≤ i0) (hc0 : (decide ((i0 : Int) < ((List.length p0) : Int))) = true) {r : Rs} (hr : Q5 G (Qef p0 (i0 + 1) (v0_1 ++ [(Qb8 x0)])) r) : Q5 G (Qef p0 i0 v0_1) r := by
 have hB0 := H.1
 exact Qd (Q123 p0 i0 v0_1) (y := (Qv7 p0 (i0 + 1) (v0_1 ++ [(Qb8 x0)]), Qhi p0 (i0 + 1) (v0_1 ++ [(Qb8 x0)]))) [hB 0 hc0, hP 0 (Q2g 11 (Container.rows p0) i0 _ (Container.Qe hx0) rfl), hV 8 [(644, Val.rows (v0_1 ++ [(Qb8 x0)]))] (Q3x 1 580 644 5 80 0 0 true (Val.rows v0_1) (Val.rows (v0_1 ++ [(Qb8 x0)])) (Val.cells (Qb8 x0)) (List.length v0_1) (List.length (v0_1 ++ [(Qb8 x0)])) rfl (Val.Q0 v0_1).symm (Val.Q0 (v0_1 ++ [(Qb8 x0)])).symm (Val.Q1q v0_1 (Qb8 x0)) (Val.Ql v0_1) rfl (by omega)), hS 0 true (Val.Q7 (v0_1 ++ [(Qb8 x0)]) 5 rfl), hP 1 (Q28 i0 (by omega))] [aN (Q213 x0 (H.2.1 x0 (Q2o hx0)))] (by kernel_rfl) hr
theorem Qyb (p0 : List Container) (H : Qfe p0) : ∀ (r0 : List Container) (i0 : Nat) (v0_1 : List Val), List.drop i0 p0 = r0 → List.length v0_1 ≤ i0 → Qg9 p0 (Qef p0 i0 v0_1) (Q4b p0 r0 i0 v0_1)
 | [], i0, v0_1, hd, ho0_0 => by
  have hc0 : (decide ((i0 : Int) < ((List.length p0) : Int))) = false := by have := Q1o hd; simp; omega
  rw [Q4b]
  exact Q18e p0 H i0 v0_1 ho0_0 hc0
 | x0 :: r0, i0, v0_1, hd, ho0_0 => by
  obtain ⟨hx0, hi0, hd'⟩ := Q1i hd
  have hc0 : (decide ((i0 : Int) < ((List.length p0) : Int))) = true := by simp; omega
  rw [Q4b]
  exact Qsb p0 (fun r hr => Q166 p0 H x0 i0 v0_1 hx0 hi0 ho0_0 hc0 hr) _ (Qyb p0 H r0 (i0 + 1) (v0_1 ++ [(Qb8 x0)]) hd' (by first | omega | (simp; omega)))
def Q5z (p0 : List Container) : Val := vL (p0.map Container.enc)
theorem Q15j (p0 : List Container) : Q5z p0 = ((Qml (Q4b p0 p0 0 []))) := by
  rw [Qu9]
  rfl
def Q153 (p0 : List Container) : En := .call 257 [.sl (Container.rows p0), .fn 258 [] []] []
def Qqj (p0 : List Container) : Rs := .ret (.agg (Val.cells (Q5z p0))) []
def Qcx (p0 : List Container) : Prop := LSm Container.sm p0
theorem Qc8 (p0 : List Container) (H : Qcx p0) : (Qfe p0) ∧ (Qmv (Q4b p0 p0 0 [])) ∧ True := by
  refine ⟨⟨Nat.le_trans H.1 (Nat.le_of_ble_eq_true rfl), H.2, trivial⟩, ⟨?_, trivial⟩, trivial⟩
  rw [Qu9]
  exact Q3d (fun _ h => Container.Q2m h) H
theorem Q17v (p0 : List Container) (H : Qcx p0) : Q5 G (Q153 p0) (Qqj p0) := by
 unfold Qqj
 rw [Q15j]
 have hl0 := Qyb p0 ((Qc8 p0 H).1) p0 0 [] (by simp) (by simp)
 obtain ⟨z0, zo0, hl0⟩ := hl0
 exact Q6 (fn := Ir.K1d) rfl VOK.nil [hP 3 (Qw (Container.rows p0) (List.length p0) (Container.Q0 p0)), hS 0 true (Val.Q7 (Q4b p0 p0 0 []) 5 rfl), hQ (Val.Q0 (Q4b p0 p0 0 [])).symm] [aV [(1, Val.rows (Q4b p0 p0 0 []))] hl0, aN (Quz (Q4b p0 p0 0 []) (Qc8 p0 H).2.1)] (by kernel_rfl)
def Q4i (p0 : List ByteArray) : List ByteArray → Nat → (List Val) → List Val
 | [], _i0, v0_1 =>
  v0_1
 | x0 :: r0, i0, v0_1 =>
  Q4i p0 r0 (i0 + 1) (v0_1 ++ [(Q2w x0)])
theorem Quh (p0 : List ByteArray) : ∀ (l : List ByteArray) (i : Nat) (a : List Val), Q4i p0 l i a = a ++ l.map (fun x0 => (Q2w x0))
  | [], _, _ => by simp [Q4i]
  | x :: r, i, a => by rw [Q4i, Quh p0 r]; simp
def Qve (p0 : List ByteArray) (i0 : Nat) (v0_1 : List Val) : List PV :=
  [.un, .fn 193 [] [], .un, .un, .bx 0 0, .ms 1 5 0 (List.length v0_1), .un, .un, .sl (Qu p0), .int .i64 ((List.length p0) : Int), .int .i64 (i0 : Int)] ++ nuns 12
def Qhp (_p0 : List ByteArray) (_i0 : Nat) (v0_1 : List Val) : List Ob :=
  [⟨5, 0, true, [.int .i64 0, .int .i64 0, .str eB, .ms 2 5 0 0, .ms 3 6 0 0]⟩, ⟨5, 0, true, (Val.rows v0_1).flatten⟩, ⟨5, 0, true, []⟩, ⟨6, 0, true, []⟩]
def Qem (p0 : List ByteArray) (i0 : Nat) (v0_1 : List Val) : En := .loop 0 Ir.Qit Ir.Q1g9 (Qve p0 i0 v0_1) (Qhp p0 i0 v0_1)
def Qnv (_p0 : List ByteArray) (q0 : List Val) (z : Nat → PV) (_zo : Nat → List PV) : St :=
  ⟨[z 0, z 1, z 2, z 3, .bx 0 0, .ms 1 5 0 (List.length q0)] ++ zr z 6 17, [(0, ⟨5, 0, true, [.int .i64 0, .int .i64 0, .str eB, .ms 2 5 0 0, .ms 3 6 0 0]⟩), (1, ⟨5, 0, true, (Val.rows q0).flatten⟩), (2, ⟨5, 0, true, []⟩), (3, ⟨6, 0, true, []⟩)], 68⟩
theorem Q12a (p0 : List ByteArray) (i0 : Nat) (v0_1 : List Val) : VOK (Go.Pv.look (number 0 (Qhp p0 i0 v0_1))) [(1, Val.rows v0_1)] := (VOK.cons (show Seen _ _ from Q3i (ob := ⟨5, 0, true, (Val.rows v0_1).flatten⟩) (Val.Q7 v0_1 5 rfl)) VOK.nil)
def Qgg (p0 : List ByteArray) (e : En) (q : List Val) : Prop := ∃ z zo, Q5 G e (.st (.exit 0) (Qnv p0 q z zo))
theorem Qsi (p0 : List ByteArray) {e e' : En} (h : ∀ r, Q5 G e r → Q5 G e' r) : ∀ q, Qgg p0 e q → Qgg p0 e' q
  | _, ⟨z, zo, hz⟩ => ⟨z, zo, h _ hz⟩
def Qfl (p0 : List ByteArray) : Prop := (List.length p0 ≤ 137438953472) ∧ True
def Qpc (p0 : List ByteArray) (i0 : Nat) (_v0_1 : List Val) : List PV :=
  [.un, .fn 193 [] []] ++ nuns 6 ++ [.sl (Qu p0), .int .i64 ((List.length p0) : Int), .int .i64 (i0 : Int), .bool false]
def Qkc (_p0 : List ByteArray) (_i0 : Nat) (_v0_1 : List Val) : List (Nat × List PV) :=
  []
theorem Q18l (p0 : List ByteArray) (_H : Qfl p0) (i0 : Nat) (v0_1 : List Val) (_ho0_0 : List.length v0_1 ≤ i0) (hc0 : (decide ((i0 : Int) < ((List.length p0) : Int))) = false) : Qgg p0 (Qem p0 i0 v0_1) v0_1 := by
 exact ⟨(envF (Qpc p0 i0 v0_1)), (zoF (Qkc p0 i0 v0_1)), Qj (Q12a p0 i0 v0_1) (x := ((.exit 0), Qnv p0 v0_1 (envF (Qpc p0 i0 v0_1)) (zoF (Qkc p0 i0 v0_1)))) [hB 0 hc0] [] (by kernel_rfl)⟩
theorem Q16d (p0 : List ByteArray) (H : Qfl p0) (x0 : BA) (i0 : Nat) (v0_1 : List Val) (hx0 : p0[i0]? = some x0) (hi0 : i0 < List.length p0) (ho0_0 : List.length v0_1 ≤ i0) (hc0 : (decide ((i0 : Int) < ((List.length p0) : Int))) = true) {r : Rs} (hr : Q5 G (Qem p0 (i0 + 1) (v0_1 ++ [(Q2w x0)])) r) : Q5 G (Qem p0 i0 v0_1) r := by
 have hB0 := H.1
 exact Qd (Q12a p0 i0 v0_1) (y := (Qve p0 (i0 + 1) (v0_1 ++ [(Q2w x0)]), Qhp p0 (i0 + 1) (v0_1 ++ [(Q2w x0)]))) [hB 0 hc0, hP 0 (Q2g 1 (Qu p0) i0 _ (Qaa hx0) rfl), hV 7 [(580, Val.rows (v0_1 ++ [(Q2w x0)]))] (Q3x 1 516 580 5 80 0 0 true (Val.rows v0_1) (Val.rows (v0_1 ++ [(Q2w x0)])) (Val.cells (Q2w x0)) (List.length v0_1) (List.length (v0_1 ++ [(Q2w x0)])) rfl (Val.Q0 v0_1).symm (Val.Q0 (v0_1 ++ [(Q2w x0)])).symm (Val.Q1q v0_1 (Q2w x0)) (Val.Ql v0_1) rfl (by omega)), hS 0 true (Val.Q7 (v0_1 ++ [(Q2w x0)]) 5 rfl), hP 1 (Q28 i0 (by omega))] [aN (Qec x0)] (by kernel_rfl) hr
theorem Qyi (p0 : List ByteArray) (H : Qfl p0) : ∀ (r0 : List ByteArray) (i0 : Nat) (v0_1 : List Val), List.drop i0 p0 = r0 → List.length v0_1 ≤ i0 → Qgg p0 (Qem p0 i0 v0_1) (Q4i p0 r0 i0 v0_1)
 | [], i0, v0_1, hd, ho0_0 => by
  have hc0 : (decide ((i0 : Int) < ((List.length p0) : Int))) = false := by have := Q1o hd; simp; omega
  rw [Q4i]
  exact Q18l p0 H i0 v0_1 ho0_0 hc0
 | x0 :: r0, i0, v0_1, hd, ho0_0 => by
  obtain ⟨hx0, hi0, hd'⟩ := Q1i hd
  have hc0 : (decide ((i0 : Int) < ((List.length p0) : Int))) = true := by simp; omega
  rw [Q4i]
  exact Qsi p0 (fun r hr => Q16d p0 H x0 i0 v0_1 hx0 hi0 ho0_0 hc0 hr) _ (Qyi p0 H r0 (i0 + 1) (v0_1 ++ [(Q2w x0)]) hd' (by first | omega | (simp; omega)))
def Q64 (p0 : List ByteArray) : Val := vL (p0.map vS)
theorem Q15q (p0 : List ByteArray) : Q64 p0 = ((Qml (Q4i p0 p0 0 []))) := by
  rw [Quh]
  rfl
def Q15a (p0 : List ByteArray) : En := .call 285 [.sl (Qu p0), .fn 193 [] []] []
def Qqq (p0 : List ByteArray) : Rs := .ret (.agg (Val.cells (Q64 p0))) []
def Qd2 (p0 : List ByteArray) : Prop := LSm (fun _ : ByteArray => True) p0
theorem Qcf (p0 : List ByteArray) (H : Qd2 p0) : (Qfl p0) ∧ (Qmv (Q4i p0 p0 0 [])) ∧ True := by
  refine ⟨⟨Nat.le_trans H.1 (Nat.le_of_ble_eq_true rfl), trivial⟩, ⟨?_, trivial⟩, trivial⟩
  rw [Quh]
  exact Q3d (fun _ _ => Val.Sm.leaf _ _ _) H
theorem Q180 (p0 : List ByteArray) (H : Qd2 p0) : Q5 G (Q15a p0) (Qqq p0) := by
 unfold Qqq
 rw [Q15q]
 have hl0 := Qyi p0 ((Qcf p0 H).1) p0 0 [] (by simp) (by simp)
 obtain ⟨z0, zo0, hl0⟩ := hl0
 exact Q6 (fn := Ir.K1k) rfl VOK.nil [hP 3 (Qw (Qu p0) (List.length p0) (Q2u p0)), hS 0 true (Val.Q7 (Q4i p0 p0 0 []) 5 rfl), hQ (Val.Q0 (Q4i p0 p0 0 [])).symm] [aV [(1, Val.rows (Q4i p0 p0 0 []))] hl0, aN (Quz (Q4i p0 p0 0 []) (Qcf p0 H).2.1)] (by kernel_rfl)
def Qbd (p0 : Requirement) : Val := Requirement.enc p0
theorem Q1yf (p0 : Requirement) : Qbd p0 = ((Q57 ([(Qv Q15 (Q2w p0.key)), (Qv Q51 (Q27 p0.op)), (Qv Q2c (Q64 p0.values))]))) := by
  exact Eq.symm (Q5r (by exact Nat.le_of_ble_eq_true rfl) (by kernel_rfl))
def Q1wb (p0 : Requirement) : En := .call 260 [.agg (Requirement.cells p0)] []
def Q1o3 (p0 : Requirement) : Rs := .ret (.agg (Val.cells (Qbd p0))) []
def Q1hy (p0 : Requirement) : Prop := Requirement.sm p0
theorem Q138 (p0 : Requirement) (H : Q1hy p0) : (Qd2 p0.values) ∧ (Q90 ([(Qv Q15 (Q2w p0.key)), (Qv Q51 (Q27 p0.op)), (Qv Q2c (Q64 p0.values))])) ∧ True := by
  repeat' with_reducible apply And.intro
  all_goals first | exact True.intro | exact H | exact H.1 | exact H.2.1 | exact H.2.2.1 | exact H.2.2.2.1 | exact H.2.2.2.2.1 | exact H.2.2.2.2.2.1 | exact H.2.2.2.2.2.2.1 | exact H.2.2.2.2.2.2.2.1 | exact H.2.2.2.2.2.2.2.2.1 | exact H.2.2.2.2.2.2.2.2.2.1 | exact H.2.2.2.2.2.2.2.2.2.2.1 | exact H.2.2.2.2.2.2.2.2.2.2.2.1 | exact Qam (by exact Nat.le_of_ble_eq_true rfl) (Requirement.Q2m H).all.2.2.2
theorem Q218 (p0 : Requirement) (H : Q1hy p0) : Q5 G (Q1wb p0) (Q1o3 p0) := by
 unfold Q1o3
 rw [Q1yf]
 exact Q6 (fn := Ir.K16) rfl VOK.nil [] [aN (Qec p0.key), aN (Q3j Q15 (Q2w p0.key)), aN (Q8x p0.op), aN (Q3j Q51 (Q27 p0.op)), aN (Q180 p0.values (Q138 p0 H).1), aN (Q3j Q2c (Q64 p0.values)), aN (Q59 (e' := .call 78 [.sl [(Fld.cells (Qv Q15 (Q2w p0.key))), (Fld.cells (Qv Q51 (Q27 p0.op))), (Fld.cells (Qv Q2c (Q64 p0.values)))]] []) (Qbh ([(Qv Q15 (Q2w p0.key)), (Qv Q51 (Q27 p0.op)), (Qv Q2c (Q64 p0.values))]) (Q138 p0 H).2.1) (by simp only [Qae, Fld.Q12, Fld.Q1n]))] (by kernel_rfl)
def Q4c (p0 : List Requirement) : List Requirement → Nat → (List Val) → List Val
 | [], _i0, v0_1 =>
  v0_1
 | x0 :: r0, i0, v0_1 =>
  Q4c p0 r0 (i0 + 1) (v0_1 ++ [(Qbd x0)])
theorem Qub (p0 : List Requirement) : ∀ (l : List Requirement) (i : Nat) (a : List Val), Q4c p0 l i a = a ++ l.map (fun x0 => (Qbd x0))
  | [], _, _ => by simp [Q4c]
  | x :: r, i, a => by rw [Q4c, Qub p0 r]; simp
def Qv8 (p0 : List Requirement) (i0 : Nat) (v0_1 : List Val) : List PV :=
  [.un, .fn 260 [] [], .un, .un, .bx 0 0, .ms 1 5 0 (List.length v0_1), .un, .un, .sl (Requirement.rows p0), .int .i64 ((List.length p0) : Int), .int .i64 (i0 : Int)] ++ nuns 12
def Qhj (_p0 : List Requirement) (_i0 : Nat) (v0_1 : List Val) : List Ob :=
  [⟨5, 0, true, [.int .i64 0, .int .i64 0, .str eB, .ms 2 5 0 0, .ms 3 6 0 0]⟩, ⟨5, 0, true, (Val.rows v0_1).flatten⟩, ⟨5, 0, true, []⟩, ⟨6, 0, true, []⟩]
def Qeg (p0 : List Requirement) (i0 : Nat) (v0_1 : List Val) : En := .loop 0 Ir.Qin Ir.Q1g3 (Qv8 p0 i0 v0_1) (Qhj p0 i0 v0_1)
def Qnp (_p0 : List Requirement) (q0 : List Val) (z : Nat → PV) (_zo : Nat → List PV) : St :=
  ⟨[z 0, z 1, z 2, z 3, .bx 0 0, .ms 1 5 0 (List.length q0)] ++ zr z 6 17, [(0, ⟨5, 0, true, [.int .i64 0, .int .i64 0, .str eB, .ms 2 5 0 0, .ms 3 6 0 0]⟩), (1, ⟨5, 0, true, (Val.rows q0).flatten⟩), (2, ⟨5, 0, true, []⟩), (3, ⟨6, 0, true, []⟩)], 68⟩
theorem Q124 (p0 : List Requirement) (i0 : Nat) (v0_1 : List Val) : VOK (Go.Pv.look (number 0 (Qhj p0 i0 v0_1))) [(1, Val.rows v0_1)] := (VOK.cons (show Seen _ _ from Q3i (ob := ⟨5, 0, true, (Val.rows v0_1).flatten⟩) (Val.Q7 v0_1 5 rfl)) VOK.nil)
def Qga (p0 : List Requirement) (e : En) (q : List Val) : Prop := ∃ z zo, Q5 G e (.st (.exit 0) (Qnp p0 q z zo))
theorem Qsc (p0 : List Requirement) {e e' : En} (h : ∀ r, Q5 G e r → Q5 G e' r) : ∀ q, Qga p0 e q → Qga p0 e' q
  | _, ⟨z, zo, hz⟩ => ⟨z, zo, h _ hz⟩
def Qff (p0 : List Requirement) : Prop := (List.length p0 ≤ 137438953472) ∧ (∀ x0 ∈ p0, Q1hy x0) ∧ True
def Qp6 (p0 : List Requirement) (i0 : Nat) (_v0_1 : List Val) : List PV :=
  [.un, .fn 260 [] []] ++ nuns 6 ++ [.sl (Requirement.rows p0), .int .i64 ((List.length p0) : Int), .int .i64 (i0 : Int), .bool false]
def Qk6 (_p0 : List Requirement) (_i0 : Nat) (_v0_1 : List Val) : List (Nat × List PV) :=
  []
theorem Q18f (p0 : List Requirement) (_H : Qff p0) (i0 : Nat) (v0_1 : List Val) (_ho0_0 : List.length v0_1 ≤ i0) (hc0 : (decide ((i0 : Int) < ((List.length p0) : Int))) = false) : Qga p0 (Qeg p0 i0 v0_1) v0_1 := by
 exact ⟨(envF (Qp6 p0 i0 v0_1)), (zoF (Qk6 p0 i0 v0_1)), Qj (Q124 p0 i0 v0_1) (x := ((.exit 0), Qnp p0 v0_1 (envF (Qp6 p0 i0 v0_1)) (zoF (Qk6 p0 i0 v0_1)))) [hB 0 hc0] [] (by kernel_rfl)⟩
theorem Q167 (p0 : List Requirement) (H : Qff p0) (x0 : Requirement) (i0 : Nat) (v0_1 : List Val) (hx0 : p0[i0]? = some x0) (hi0 : i0 < List.length p0) (ho0_0 : List.length v0_1 ≤ i0) (hc0 : (decide ((i0 : Int) < ((List.length p0) : Int))) = true) {r : Rs} (hr : Q5 G (Qeg p0 (i0 + 1) (v0_1 ++ [(Qbd x0)])) r) : Q5 G (Qeg p0 i0 v0_1) r := by
 have hB0 := H.1
 exact Qd (Q124 p0 i0 v0_1) (y := (Qv8 p0 (i0 + 1) (v0_1 ++ [(Qbd x0)]), Qhj p0 (i0 + 1) (v0_1 ++ [(Qbd x0)]))) [hB 0 hc0, hP 0 (Q2g 3 (Requirement.rows p0) i0 _ (Requirement.Qe hx0) rfl), hV 8 [(644, Val.rows (v0_1 ++ [(Qbd x0)]))] (Q3x 1 580 644 5 80 0 0 true (Val.rows v0_1) (Val.rows (v0_1 ++ [(Qbd x0)])) (Val.cells (Qbd x0)) (List.length v0_1) (List.length (v0_1 ++ [(Qbd x0)])) rfl (Val.Q0 v0_1).symm (Val.Q0 (v0_1 ++ [(Qbd x0)])).symm (Val.Q1q v0_1 (Qbd x0)) (Val.Ql v0_1) rfl (by omega)), hS 0 true (Val.Q7 (v0_1 ++ [(Qbd x0)]) 5 rfl), hP 1 (Q28 i0 (by omega))] [aN (Q218 x0 (H.2.1 x0 (Q2o hx0)))] (by kernel_rfl) hr
theorem Qyc (p0 : List Requirement) (H : Qff p0) : ∀ (r0 : List Requirement) (i0 : Nat) (v0_1 : List Val), List.drop i0 p0 = r0 → List.length v0_1 ≤ i0 → Qga p0 (Qeg p0 i0 v0_1) (Q4c p0 r0 i0 v0_1)
 | [], i0, v0_1, hd, ho0_0 => by
  have hc0 : (decide ((i0 : Int) < ((List.length p0) : Int))) = false := by have := Q1o hd; simp; omega
  rw [Q4c]
  exact Q18f p0 H i0 v0_1 ho0_0 hc0
 | x0 :: r0, i0, v0_1, hd, ho0_0 => by
  obtain ⟨hx0, hi0, hd'⟩ := Q1i hd
  have hc0 : (decide ((i0 : Int) < ((List.length p0) : Int))) = true := by simp; omega
  rw [Q4c]
  exact Qsc p0 (fun r hr => Q167 p0 H x0 i0 v0_1 hx0 hi0 ho0_0 hc0 hr) _ (Qyc p0 H r0 (i0 + 1) (v0_1 ++ [(Qbd x0)]) hd' (by first | omega | (simp; omega)))
def Q2j (p0 : List Requirement) : Val := vL (p0.map Requirement.enc)
theorem Q15k (p0 : List Requirement) : Q2j p0 = ((Qml (Q4c p0 p0 0 []))) := by
  rw [Qub]
  rfl
def Q154 (p0 : List Requirement) : En := .call 259 [.sl (Requirement.rows p0), .fn 260 [] []] []
def Qqk (p0 : List Requirement) : Rs := .ret (.agg (Val.cells (Q2j p0))) []
def Q6r (p0 : List Requirement) : Prop := LSm Requirement.sm p0
theorem Qc9 (p0 : List Requirement) (H : Q6r p0) : (Qff p0) ∧ (Qmv (Q4c p0 p0 0 [])) ∧ True := by
  refine ⟨⟨Nat.le_trans H.1 (Nat.le_of_ble_eq_true rfl), H.2, trivial⟩, ⟨?_, trivial⟩, trivial⟩
  rw [Qub]
  exact Q3d (fun _ h => Requirement.Q2m h) H
theorem Qab (p0 : List Requirement) (H : Q6r p0) : Q5 G (Q154 p0) (Qqk p0) := by
 unfold Qqk
 rw [Q15k]
 have hl0 := Qyc p0 ((Qc9 p0 H).1) p0 0 [] (by simp) (by simp)
 obtain ⟨z0, zo0, hl0⟩ := hl0
 exact Q6 (fn := Ir.K1e) rfl VOK.nil [hP 3 (Qw (Requirement.rows p0) (List.length p0) (Requirement.Q0 p0)), hS 0 true (Val.Q7 (Q4c p0 p0 0 []) 5 rfl), hQ (Val.Q0 (Q4c p0 p0 0 [])).symm] [aV [(1, Val.rows (Q4c p0 p0 0 []))] hl0, aN (Quz (Q4c p0 p0 0 []) (Qc9 p0 H).2.1)] (by kernel_rfl)
def Q5q (p0 : Bool) : Val := vB p0
theorem Q1z5 (p0 : Bool) : Q5q p0 = (bif p0 then
    (Val.mk 1 1 eB [] [])
  else
    (Val.mk 1 0 eB [] [])) := by
  cases p0 <;> rfl
def Q1xe (p0 : Bool) : En := .call 192 [.bool p0] []
def Q1p8 (p0 : Bool) : Rs := .ret (.agg (Val.cells (Q5q p0))) []
theorem Q184 (p0 : Bool) : Q5 G (Q1xe p0) (Q1p8 p0) := by
 unfold Q1p8
 rw [Q1z5]
 cases h0 : p0 with
 | true =>
  exact Q6 (fn := Ir.K4w) rfl VOK.nil [] [] (by kernel_rfl)
 | false =>
  exact Q6 (fn := Ir.K4w) rfl VOK.nil [] [] (by kernel_rfl)
def Qba (p0 : NodeTerm) : Val := NodeTerm.enc p0
theorem Q1yc (p0 : NodeTerm) : Qba p0 = ((Q57 ([(Qv Q9 (Q5q p0.required)), (Qv Q8 (Q2j p0.selector)), (Qv Q10 (Q27 p0.weight))]))) := by
  exact Eq.symm (Q5r (by exact Nat.le_of_ble_eq_true rfl) (by kernel_rfl))
def Q1w8 (p0 : NodeTerm) : En := .call 262 [.agg (NodeTerm.cells p0)] []
def Q1o0 (p0 : NodeTerm) : Rs := .ret (.agg (Val.cells (Qba p0))) []
def Q1hv (p0 : NodeTerm) : Prop := NodeTerm.sm p0
theorem Q136 (p0 : NodeTerm) (H : Q1hv p0) : (Q6r p0.selector) ∧ (Q90 ([(Qv Q9 (Q5q p0.required)), (Qv Q8 (Q2j p0.selector)), (Qv Q10 (Q27 p0.weight))])) ∧ True := by
  repeat' with_reducible apply And.intro
  all_goals first | exact True.intro | exact H | exact H.1 | exact H.2.1 | exact H.2.2.1 | exact H.2.2.2.1 | exact H.2.2.2.2.1 | exact H.2.2.2.2.2.1 | exact H.2.2.2.2.2.2.1 | exact H.2.2.2.2.2.2.2.1 | exact H.2.2.2.2.2.2.2.2.1 | exact H.2.2.2.2.2.2.2.2.2.1 | exact H.2.2.2.2.2.2.2.2.2.2.1 | exact H.2.2.2.2.2.2.2.2.2.2.2.1 | exact Qam (by exact Nat.le_of_ble_eq_true rfl) (NodeTerm.Q2m H).all.2.2.2
theorem Q215 (p0 : NodeTerm) (H : Q1hv p0) : Q5 G (Q1w8 p0) (Q1o0 p0) := by
 unfold Q1o0
 rw [Q1yc]
 exact Q6 (fn := Ir.K13) rfl VOK.nil [] [aN (Q184 p0.required), aN (Q3j Q9 (Q5q p0.required)), aN (Qab p0.selector (Q136 p0 H).1), aN (Q3j Q8 (Q2j p0.selector)), aN (Q8x p0.weight), aN (Q3j Q10 (Q27 p0.weight)), aN (Q59 (e' := .call 78 [.sl [(Fld.cells (Qv Q9 (Q5q p0.required))), (Fld.cells (Qv Q8 (Q2j p0.selector))), (Fld.cells (Qv Q10 (Q27 p0.weight)))]] []) (Qbh ([(Qv Q9 (Q5q p0.required)), (Qv Q8 (Q2j p0.selector)), (Qv Q10 (Q27 p0.weight))]) (Q136 p0 H).2.1) (by simp only [Qae, Fld.Q12, Fld.Q1n]))] (by kernel_rfl)
def Q4d (p0 : List NodeTerm) : List NodeTerm → Nat → (List Val) → List Val
 | [], _i0, v0_1 =>
  v0_1
 | x0 :: r0, i0, v0_1 =>
  Q4d p0 r0 (i0 + 1) (v0_1 ++ [(Qba x0)])
theorem Quc (p0 : List NodeTerm) : ∀ (l : List NodeTerm) (i : Nat) (a : List Val), Q4d p0 l i a = a ++ l.map (fun x0 => (Qba x0))
  | [], _, _ => by simp [Q4d]
  | x :: r, i, a => by rw [Q4d, Quc p0 r]; simp
def Qv9 (p0 : List NodeTerm) (i0 : Nat) (v0_1 : List Val) : List PV :=
  [.un, .fn 262 [] [], .un, .un, .bx 0 0, .ms 1 5 0 (List.length v0_1), .un, .un, .sl (NodeTerm.rows p0), .int .i64 ((List.length p0) : Int), .int .i64 (i0 : Int)] ++ nuns 12
def Qhk (_p0 : List NodeTerm) (_i0 : Nat) (v0_1 : List Val) : List Ob :=
  [⟨5, 0, true, [.int .i64 0, .int .i64 0, .str eB, .ms 2 5 0 0, .ms 3 6 0 0]⟩, ⟨5, 0, true, (Val.rows v0_1).flatten⟩, ⟨5, 0, true, []⟩, ⟨6, 0, true, []⟩]
def Qeh (p0 : List NodeTerm) (i0 : Nat) (v0_1 : List Val) : En := .loop 0 Ir.Qio Ir.Q1g4 (Qv9 p0 i0 v0_1) (Qhk p0 i0 v0_1)
def Qnq (_p0 : List NodeTerm) (q0 : List Val) (z : Nat → PV) (_zo : Nat → List PV) : St :=
  ⟨[z 0, z 1, z 2, z 3, .bx 0 0, .ms 1 5 0 (List.length q0)] ++ zr z 6 17, [(0, ⟨5, 0, true, [.int .i64 0, .int .i64 0, .str eB, .ms 2 5 0 0, .ms 3 6 0 0]⟩), (1, ⟨5, 0, true, (Val.rows q0).flatten⟩), (2, ⟨5, 0, true, []⟩), (3, ⟨6, 0, true, []⟩)], 68⟩
theorem Q125 (p0 : List NodeTerm) (i0 : Nat) (v0_1 : List Val) : VOK (Go.Pv.look (number 0 (Qhk p0 i0 v0_1))) [(1, Val.rows v0_1)] := (VOK.cons (show Seen _ _ from Q3i (ob := ⟨5, 0, true, (Val.rows v0_1).flatten⟩) (Val.Q7 v0_1 5 rfl)) VOK.nil)
def Qgb (p0 : List NodeTerm) (e : En) (q : List Val) : Prop := ∃ z zo, Q5 G e (.st (.exit 0) (Qnq p0 q z zo))
theorem Qsd (p0 : List NodeTerm) {e e' : En} (h : ∀ r, Q5 G e r → Q5 G e' r) : ∀ q, Qgb p0 e q → Qgb p0 e' q
  | _, ⟨z, zo, hz⟩ => ⟨z, zo, h _ hz⟩
def Qfg (p0 : List NodeTerm) : Prop := (List.length p0 ≤ 137438953472) ∧ (∀ x0 ∈ p0, Q1hv x0) ∧ True
def Qp7 (p0 : List NodeTerm) (i0 : Nat) (_v0_1 : List Val) : List PV :=
  [.un, .fn 262 [] []] ++ nuns 6 ++ [.sl (NodeTerm.rows p0), .int .i64 ((List.length p0) : Int), .int .i64 (i0 : Int), .bool false]
def Qk7 (_p0 : List NodeTerm) (_i0 : Nat) (_v0_1 : List Val) : List (Nat × List PV) :=
  []
theorem Q18g (p0 : List NodeTerm) (_H : Qfg p0) (i0 : Nat) (v0_1 : List Val) (_ho0_0 : List.length v0_1 ≤ i0) (hc0 : (decide ((i0 : Int) < ((List.length p0) : Int))) = false) : Qgb p0 (Qeh p0 i0 v0_1) v0_1 := by
 exact ⟨(envF (Qp7 p0 i0 v0_1)), (zoF (Qk7 p0 i0 v0_1)), Qj (Q125 p0 i0 v0_1) (x := ((.exit 0), Qnq p0 v0_1 (envF (Qp7 p0 i0 v0_1)) (zoF (Qk7 p0 i0 v0_1)))) [hB 0 hc0] [] (by kernel_rfl)⟩
theorem Q168 (p0 : List NodeTerm) (H : Qfg p0) (x0 : NodeTerm) (i0 : Nat) (v0_1 : List Val) (hx0 : p0[i0]? = some x0) (hi0 : i0 < List.length p0) (ho0_0 : List.length v0_1 ≤ i0) (hc0 : (decide ((i0 : Int) < ((List.length p0) : Int))) = true) {r : Rs} (hr : Q5 G (Qeh p0 (i0 + 1) (v0_1 ++ [(Qba x0)])) r) : Q5 G (Qeh p0 i0 v0_1) r := by
 have hB0 := H.1
 exact Qd (Q125 p0 i0 v0_1) (y := (Qv9 p0 (i0 + 1) (v0_1 ++ [(Qba x0)]), Qhk p0 (i0 + 1) (v0_1 ++ [(Qba x0)]))) [hB 0 hc0, hP 0 (Q2g 3 (NodeTerm.rows p0) i0 _ (NodeTerm.Qe hx0) rfl), hV 8 [(644, Val.rows (v0_1 ++ [(Qba x0)]))] (Q3x 1 580 644 5 80 0 0 true (Val.rows v0_1) (Val.rows (v0_1 ++ [(Qba x0)])) (Val.cells (Qba x0)) (List.length v0_1) (List.length (v0_1 ++ [(Qba x0)])) rfl (Val.Q0 v0_1).symm (Val.Q0 (v0_1 ++ [(Qba x0)])).symm (Val.Q1q v0_1 (Qba x0)) (Val.Ql v0_1) rfl (by omega)), hS 0 true (Val.Q7 (v0_1 ++ [(Qba x0)]) 5 rfl), hP 1 (Q28 i0 (by omega))] [aN (Q215 x0 (H.2.1 x0 (Q2o hx0)))] (by kernel_rfl) hr
theorem Qyd (p0 : List NodeTerm) (H : Qfg p0) : ∀ (r0 : List NodeTerm) (i0 : Nat) (v0_1 : List Val), List.drop i0 p0 = r0 → List.length v0_1 ≤ i0 → Qgb p0 (Qeh p0 i0 v0_1) (Q4d p0 r0 i0 v0_1)
 | [], i0, v0_1, hd, ho0_0 => by
  have hc0 : (decide ((i0 : Int) < ((List.length p0) : Int))) = false := by have := Q1o hd; simp; omega
  rw [Q4d]
  exact Q18g p0 H i0 v0_1 ho0_0 hc0
 | x0 :: r0, i0, v0_1, hd, ho0_0 => by
  obtain ⟨hx0, hi0, hd'⟩ := Q1i hd
  have hc0 : (decide ((i0 : Int) < ((List.length p0) : Int))) = true := by simp; omega
  rw [Q4d]
  exact Qsd p0 (fun r hr => Q168 p0 H x0 i0 v0_1 hx0 hi0 ho0_0 hc0 hr) _ (Qyd p0 H r0 (i0 + 1) (v0_1 ++ [(Qba x0)]) hd' (by first | omega | (simp; omega)))
def Q60 (p0 : List NodeTerm) : Val := vL (p0.map NodeTerm.enc)
theorem Q15l (p0 : List NodeTerm) : Q60 p0 = ((Qml (Q4d p0 p0 0 []))) := by
  rw [Quc]
  rfl
def Q155 (p0 : List NodeTerm) : En := .call 261 [.sl (NodeTerm.rows p0), .fn 262 [] []] []
def Qql (p0 : List NodeTerm) : Rs := .ret (.agg (Val.cells (Q60 p0))) []
def Qcy (p0 : List NodeTerm) : Prop := LSm NodeTerm.sm p0
theorem Qca (p0 : List NodeTerm) (H : Qcy p0) : (Qfg p0) ∧ (Qmv (Q4d p0 p0 0 [])) ∧ True := by
  refine ⟨⟨Nat.le_trans H.1 (Nat.le_of_ble_eq_true rfl), H.2, trivial⟩, ⟨?_, trivial⟩, trivial⟩
  rw [Quc]
  exact Q3d (fun _ h => NodeTerm.Q2m h) H
theorem Q17w (p0 : List NodeTerm) (H : Qcy p0) : Q5 G (Q155 p0) (Qql p0) := by
 unfold Qql
 rw [Q15l]
 have hl0 := Qyd p0 ((Qca p0 H).1) p0 0 [] (by simp) (by simp)
 obtain ⟨z0, zo0, hl0⟩ := hl0
 exact Q6 (fn := Ir.K1f) rfl VOK.nil [hP 3 (Qw (NodeTerm.rows p0) (List.length p0) (NodeTerm.Q0 p0)), hS 0 true (Val.Q7 (Q4d p0 p0 0 []) 5 rfl), hQ (Val.Q0 (Q4d p0 p0 0 [])).symm] [aV [(1, Val.rows (Q4d p0 p0 0 []))] hl0, aN (Quz (Q4d p0 p0 0 []) (Qca p0 H).2.1)] (by kernel_rfl)
def Qbb (p0 : PodTerm) : Val := PodTerm.enc p0
theorem Q1yd (p0 : PodTerm) : Qbb p0 = ((Q57 ([(Qv Q2t (Q5q p0.anti)), (Qv Q9 (Q5q p0.required)), (Qv Q8 (Q2j p0.selector)), (Qv Qi (Q2w p0.topology)), (Qv Q10 (Q27 p0.weight))]))) := by
  exact Eq.symm (Q5r (by exact Nat.le_of_ble_eq_true rfl) (by kernel_rfl))
def Q1w9 (p0 : PodTerm) : En := .call 264 [.agg (PodTerm.cells p0)] []
def Q1o1 (p0 : PodTerm) : Rs := .ret (.agg (Val.cells (Qbb p0))) []
def Q1hw (p0 : PodTerm) : Prop := PodTerm.sm p0
theorem Q137 (p0 : PodTerm) (H : Q1hw p0) : (Q6r p0.selector) ∧ (Q90 ([(Qv Q2t (Q5q p0.anti)), (Qv Q9 (Q5q p0.required)), (Qv Q8 (Q2j p0.selector)), (Qv Qi (Q2w p0.topology)), (Qv Q10 (Q27 p0.weight))])) ∧ True := by
  repeat' with_reducible apply And.intro
  all_goals first | exact True.intro | exact H | exact H.1 | exact H.2.1 | exact H.2.2.1 | exact H.2.2.2.1 | exact H.2.2.2.2.1 | exact H.2.2.2.2.2.1 | exact H.2.2.2.2.2.2.1 | exact H.2.2.2.2.2.2.2.1 | exact H.2.2.2.2.2.2.2.2.1 | exact H.2.2.2.2.2.2.2.2.2.1 | exact H.2.2.2.2.2.2.2.2.2.2.1 | exact H.2.2.2.2.2.2.2.2.2.2.2.1 | exact Qam (by exact Nat.le_of_ble_eq_true rfl) (PodTerm.Q2m H).all.2.2.2
theorem Q216 (p0 : PodTerm) (H : Q1hw p0) : Q5 G (Q1w9 p0) (Q1o1 p0) := by
 unfold Q1o1
 rw [Q1yd]
 exact Q6 (fn := Ir.K14) rfl VOK.nil [] [aN (Q184 p0.anti), aN (Q3j Q2t (Q5q p0.anti)), aN (Q184 p0.required), aN (Q3j Q9 (Q5q p0.required)), aN (Qab p0.selector (Q137 p0 H).1), aN (Q3j Q8 (Q2j p0.selector)), aN (Qec p0.topology), aN (Q3j Qi (Q2w p0.topology)), aN (Q8x p0.weight), aN (Q3j Q10 (Q27 p0.weight)), aN (Q59 (e' := .call 78 [.sl [(Fld.cells (Qv Q2t (Q5q p0.anti))), (Fld.cells (Qv Q9 (Q5q p0.required))), (Fld.cells (Qv Q8 (Q2j p0.selector))), (Fld.cells (Qv Qi (Q2w p0.topology))), (Fld.cells (Qv Q10 (Q27 p0.weight)))]] []) (Qbh ([(Qv Q2t (Q5q p0.anti)), (Qv Q9 (Q5q p0.required)), (Qv Q8 (Q2j p0.selector)), (Qv Qi (Q2w p0.topology)), (Qv Q10 (Q27 p0.weight))]) (Q137 p0 H).2.1) (by simp only [Qae, Fld.Q12, Fld.Q1n]))] (by kernel_rfl)
def Q4e (p0 : List PodTerm) : List PodTerm → Nat → (List Val) → List Val
 | [], _i0, v0_1 =>
  v0_1
 | x0 :: r0, i0, v0_1 =>
  Q4e p0 r0 (i0 + 1) (v0_1 ++ [(Qbb x0)])
theorem Qud (p0 : List PodTerm) : ∀ (l : List PodTerm) (i : Nat) (a : List Val), Q4e p0 l i a = a ++ l.map (fun x0 => (Qbb x0))
  | [], _, _ => by simp [Q4e]
  | x :: r, i, a => by rw [Q4e, Qud p0 r]; simp
def Qva (p0 : List PodTerm) (i0 : Nat) (v0_1 : List Val) : List PV :=
  [.un, .fn 264 [] [], .un, .un, .bx 0 0, .ms 1 5 0 (List.length v0_1), .un, .un, .sl (PodTerm.rows p0), .int .i64 ((List.length p0) : Int), .int .i64 (i0 : Int)] ++ nuns 12
def Qhl (_p0 : List PodTerm) (_i0 : Nat) (v0_1 : List Val) : List Ob :=
  [⟨5, 0, true, [.int .i64 0, .int .i64 0, .str eB, .ms 2 5 0 0, .ms 3 6 0 0]⟩, ⟨5, 0, true, (Val.rows v0_1).flatten⟩, ⟨5, 0, true, []⟩, ⟨6, 0, true, []⟩]
def Qei (p0 : List PodTerm) (i0 : Nat) (v0_1 : List Val) : En := .loop 0 Ir.Qip Ir.Q1g5 (Qva p0 i0 v0_1) (Qhl p0 i0 v0_1)
def Qnr (_p0 : List PodTerm) (q0 : List Val) (z : Nat → PV) (_zo : Nat → List PV) : St :=
  ⟨[z 0, z 1, z 2, z 3, .bx 0 0, .ms 1 5 0 (List.length q0)] ++ zr z 6 17, [(0, ⟨5, 0, true, [.int .i64 0, .int .i64 0, .str eB, .ms 2 5 0 0, .ms 3 6 0 0]⟩), (1, ⟨5, 0, true, (Val.rows q0).flatten⟩), (2, ⟨5, 0, true, []⟩), (3, ⟨6, 0, true, []⟩)], 68⟩
theorem Q126 (p0 : List PodTerm) (i0 : Nat) (v0_1 : List Val) : VOK (Go.Pv.look (number 0 (Qhl p0 i0 v0_1))) [(1, Val.rows v0_1)] := (VOK.cons (show Seen _ _ from Q3i (ob := ⟨5, 0, true, (Val.rows v0_1).flatten⟩) (Val.Q7 v0_1 5 rfl)) VOK.nil)
def Qgc (p0 : List PodTerm) (e : En) (q : List Val) : Prop := ∃ z zo, Q5 G e (.st (.exit 0) (Qnr p0 q z zo))
theorem Qse (p0 : List PodTerm) {e e' : En} (h : ∀ r, Q5 G e r → Q5 G e' r) : ∀ q, Qgc p0 e q → Qgc p0 e' q
  | _, ⟨z, zo, hz⟩ => ⟨z, zo, h _ hz⟩
def Qfh (p0 : List PodTerm) : Prop := (List.length p0 ≤ 137438953472) ∧ (∀ x0 ∈ p0, Q1hw x0) ∧ True
def Qp8 (p0 : List PodTerm) (i0 : Nat) (_v0_1 : List Val) : List PV :=
  [.un, .fn 264 [] []] ++ nuns 6 ++ [.sl (PodTerm.rows p0), .int .i64 ((List.length p0) : Int), .int .i64 (i0 : Int), .bool false]
def Qk8 (_p0 : List PodTerm) (_i0 : Nat) (_v0_1 : List Val) : List (Nat × List PV) :=
  []
theorem Q18h (p0 : List PodTerm) (_H : Qfh p0) (i0 : Nat) (v0_1 : List Val) (_ho0_0 : List.length v0_1 ≤ i0) (hc0 : (decide ((i0 : Int) < ((List.length p0) : Int))) = false) : Qgc p0 (Qei p0 i0 v0_1) v0_1 := by
 exact ⟨(envF (Qp8 p0 i0 v0_1)), (zoF (Qk8 p0 i0 v0_1)), Qj (Q126 p0 i0 v0_1) (x := ((.exit 0), Qnr p0 v0_1 (envF (Qp8 p0 i0 v0_1)) (zoF (Qk8 p0 i0 v0_1)))) [hB 0 hc0] [] (by kernel_rfl)⟩
theorem Q169 (p0 : List PodTerm) (H : Qfh p0) (x0 : PodTerm) (i0 : Nat) (v0_1 : List Val) (hx0 : p0[i0]? = some x0) (hi0 : i0 < List.length p0) (ho0_0 : List.length v0_1 ≤ i0) (hc0 : (decide ((i0 : Int) < ((List.length p0) : Int))) = true) {r : Rs} (hr : Q5 G (Qei p0 (i0 + 1) (v0_1 ++ [(Qbb x0)])) r) : Q5 G (Qei p0 i0 v0_1) r := by
 have hB0 := H.1
 exact Qd (Q126 p0 i0 v0_1) (y := (Qva p0 (i0 + 1) (v0_1 ++ [(Qbb x0)]), Qhl p0 (i0 + 1) (v0_1 ++ [(Qbb x0)]))) [hB 0 hc0, hP 0 (Q2g 5 (PodTerm.rows p0) i0 _ (PodTerm.Qe hx0) rfl), hV 8 [(644, Val.rows (v0_1 ++ [(Qbb x0)]))] (Q3x 1 580 644 5 80 0 0 true (Val.rows v0_1) (Val.rows (v0_1 ++ [(Qbb x0)])) (Val.cells (Qbb x0)) (List.length v0_1) (List.length (v0_1 ++ [(Qbb x0)])) rfl (Val.Q0 v0_1).symm (Val.Q0 (v0_1 ++ [(Qbb x0)])).symm (Val.Q1q v0_1 (Qbb x0)) (Val.Ql v0_1) rfl (by omega)), hS 0 true (Val.Q7 (v0_1 ++ [(Qbb x0)]) 5 rfl), hP 1 (Q28 i0 (by omega))] [aN (Q216 x0 (H.2.1 x0 (Q2o hx0)))] (by kernel_rfl) hr
theorem Qye (p0 : List PodTerm) (H : Qfh p0) : ∀ (r0 : List PodTerm) (i0 : Nat) (v0_1 : List Val), List.drop i0 p0 = r0 → List.length v0_1 ≤ i0 → Qgc p0 (Qei p0 i0 v0_1) (Q4e p0 r0 i0 v0_1)
 | [], i0, v0_1, hd, ho0_0 => by
  have hc0 : (decide ((i0 : Int) < ((List.length p0) : Int))) = false := by have := Q1o hd; simp; omega
  rw [Q4e]
  exact Q18h p0 H i0 v0_1 ho0_0 hc0
 | x0 :: r0, i0, v0_1, hd, ho0_0 => by
  obtain ⟨hx0, hi0, hd'⟩ := Q1i hd
  have hc0 : (decide ((i0 : Int) < ((List.length p0) : Int))) = true := by simp; omega
  rw [Q4e]
  exact Qse p0 (fun r hr => Q169 p0 H x0 i0 v0_1 hx0 hi0 ho0_0 hc0 hr) _ (Qye p0 H r0 (i0 + 1) (v0_1 ++ [(Qbb x0)]) hd' (by first | omega | (simp; omega)))
def Q61 (p0 : List PodTerm) : Val := vL (p0.map PodTerm.enc)
theorem Q15m (p0 : List PodTerm) : Q61 p0 = ((Qml (Q4e p0 p0 0 []))) := by
  rw [Qud]
  rfl
def Q156 (p0 : List PodTerm) : En := .call 263 [.sl (PodTerm.rows p0), .fn 264 [] []] []
def Qqm (p0 : List PodTerm) : Rs := .ret (.agg (Val.cells (Q61 p0))) []
def Qcz (p0 : List PodTerm) : Prop := LSm PodTerm.sm p0
theorem Qcb (p0 : List PodTerm) (H : Qcz p0) : (Qfh p0) ∧ (Qmv (Q4e p0 p0 0 [])) ∧ True := by
  refine ⟨⟨Nat.le_trans H.1 (Nat.le_of_ble_eq_true rfl), H.2, trivial⟩, ⟨?_, trivial⟩, trivial⟩
  rw [Qud]
  exact Q3d (fun _ h => PodTerm.Q2m h) H
theorem Q17x (p0 : List PodTerm) (H : Qcz p0) : Q5 G (Q156 p0) (Qqm p0) := by
 unfold Qqm
 rw [Q15m]
 have hl0 := Qye p0 ((Qcb p0 H).1) p0 0 [] (by simp) (by simp)
 obtain ⟨z0, zo0, hl0⟩ := hl0
 exact Q6 (fn := Ir.K1g) rfl VOK.nil [hP 3 (Qw (PodTerm.rows p0) (List.length p0) (PodTerm.Q0 p0)), hS 0 true (Val.Q7 (Q4e p0 p0 0 []) 5 rfl), hQ (Val.Q0 (Q4e p0 p0 0 [])).symm] [aV [(1, Val.rows (Q4e p0 p0 0 []))] hl0, aN (Quz (Q4e p0 p0 0 []) (Qcb p0 H).2.1)] (by kernel_rfl)
def Qbe (p0 : SpreadRule) : Val := SpreadRule.enc p0
theorem Q1yi (p0 : SpreadRule) : Qbe p0 = ((Q57 ([(Qv Q1p (Q27 p0.maxSkew)), (Qv Q9 (Q5q p0.required)), (Qv Q8 (Q2j p0.selector)), (Qv Qi (Q2w p0.topology))]))) := by
  exact Eq.symm (Q5r (by exact Nat.le_of_ble_eq_true rfl) (by kernel_rfl))
def Q1we (p0 : SpreadRule) : En := .call 266 [.agg (SpreadRule.cells p0)] []
def Q1o6 (p0 : SpreadRule) : Rs := .ret (.agg (Val.cells (Qbe p0))) []
def Q1i0 (p0 : SpreadRule) : Prop := SpreadRule.sm p0
theorem Q139 (p0 : SpreadRule) (H : Q1i0 p0) : (Q6r p0.selector) ∧ (Q90 ([(Qv Q1p (Q27 p0.maxSkew)), (Qv Q9 (Q5q p0.required)), (Qv Q8 (Q2j p0.selector)), (Qv Qi (Q2w p0.topology))])) ∧ True := by
  repeat' with_reducible apply And.intro
  all_goals first | exact True.intro | exact H | exact H.1 | exact H.2.1 | exact H.2.2.1 | exact H.2.2.2.1 | exact H.2.2.2.2.1 | exact H.2.2.2.2.2.1 | exact H.2.2.2.2.2.2.1 | exact H.2.2.2.2.2.2.2.1 | exact H.2.2.2.2.2.2.2.2.1 | exact H.2.2.2.2.2.2.2.2.2.1 | exact H.2.2.2.2.2.2.2.2.2.2.1 | exact H.2.2.2.2.2.2.2.2.2.2.2.1 | exact Qam (by exact Nat.le_of_ble_eq_true rfl) (SpreadRule.Q2m H).all.2.2.2
theorem Q21a (p0 : SpreadRule) (H : Q1i0 p0) : Q5 G (Q1we p0) (Q1o6 p0) := by
 unfold Q1o6
 rw [Q1yi]
 exact Q6 (fn := Ir.K19) rfl VOK.nil [] [aN (Q8x p0.maxSkew), aN (Q3j Q1p (Q27 p0.maxSkew)), aN (Q184 p0.required), aN (Q3j Q9 (Q5q p0.required)), aN (Qab p0.selector (Q139 p0 H).1), aN (Q3j Q8 (Q2j p0.selector)), aN (Qec p0.topology), aN (Q3j Qi (Q2w p0.topology)), aN (Q59 (e' := .call 78 [.sl [(Fld.cells (Qv Q1p (Q27 p0.maxSkew))), (Fld.cells (Qv Q9 (Q5q p0.required))), (Fld.cells (Qv Q8 (Q2j p0.selector))), (Fld.cells (Qv Qi (Q2w p0.topology)))]] []) (Qbh ([(Qv Q1p (Q27 p0.maxSkew)), (Qv Q9 (Q5q p0.required)), (Qv Q8 (Q2j p0.selector)), (Qv Qi (Q2w p0.topology))]) (Q139 p0 H).2.1) (by simp only [Qae, Fld.Q12, Fld.Q1n]))] (by kernel_rfl)
def Q4f (p0 : List SpreadRule) : List SpreadRule → Nat → (List Val) → List Val
 | [], _i0, v0_1 =>
  v0_1
 | x0 :: r0, i0, v0_1 =>
  Q4f p0 r0 (i0 + 1) (v0_1 ++ [(Qbe x0)])
theorem Que (p0 : List SpreadRule) : ∀ (l : List SpreadRule) (i : Nat) (a : List Val), Q4f p0 l i a = a ++ l.map (fun x0 => (Qbe x0))
  | [], _, _ => by simp [Q4f]
  | x :: r, i, a => by rw [Q4f, Que p0 r]; simp
def Qvb (p0 : List SpreadRule) (i0 : Nat) (v0_1 : List Val) : List PV :=
  [.un, .fn 266 [] [], .un, .un, .bx 0 0, .ms 1 5 0 (List.length v0_1), .un, .un, .sl (SpreadRule.rows p0), .int .i64 ((List.length p0) : Int), .int .i64 (i0 : Int)] ++ nuns 12
def Qhm (_p0 : List SpreadRule) (_i0 : Nat) (v0_1 : List Val) : List Ob :=
  [⟨5, 0, true, [.int .i64 0, .int .i64 0, .str eB, .ms 2 5 0 0, .ms 3 6 0 0]⟩, ⟨5, 0, true, (Val.rows v0_1).flatten⟩, ⟨5, 0, true, []⟩, ⟨6, 0, true, []⟩]
def Qej (p0 : List SpreadRule) (i0 : Nat) (v0_1 : List Val) : En := .loop 0 Ir.Qiq Ir.Q1g6 (Qvb p0 i0 v0_1) (Qhm p0 i0 v0_1)
def Qns (_p0 : List SpreadRule) (q0 : List Val) (z : Nat → PV) (_zo : Nat → List PV) : St :=
  ⟨[z 0, z 1, z 2, z 3, .bx 0 0, .ms 1 5 0 (List.length q0)] ++ zr z 6 17, [(0, ⟨5, 0, true, [.int .i64 0, .int .i64 0, .str eB, .ms 2 5 0 0, .ms 3 6 0 0]⟩), (1, ⟨5, 0, true, (Val.rows q0).flatten⟩), (2, ⟨5, 0, true, []⟩), (3, ⟨6, 0, true, []⟩)], 68⟩
theorem Q127 (p0 : List SpreadRule) (i0 : Nat) (v0_1 : List Val) : VOK (Go.Pv.look (number 0 (Qhm p0 i0 v0_1))) [(1, Val.rows v0_1)] := (VOK.cons (show Seen _ _ from Q3i (ob := ⟨5, 0, true, (Val.rows v0_1).flatten⟩) (Val.Q7 v0_1 5 rfl)) VOK.nil)
def Qgd (p0 : List SpreadRule) (e : En) (q : List Val) : Prop := ∃ z zo, Q5 G e (.st (.exit 0) (Qns p0 q z zo))
theorem Qsf (p0 : List SpreadRule) {e e' : En} (h : ∀ r, Q5 G e r → Q5 G e' r) : ∀ q, Qgd p0 e q → Qgd p0 e' q
  | _, ⟨z, zo, hz⟩ => ⟨z, zo, h _ hz⟩
def Qfi (p0 : List SpreadRule) : Prop := (List.length p0 ≤ 137438953472) ∧ (∀ x0 ∈ p0, Q1i0 x0) ∧ True
def Qp9 (p0 : List SpreadRule) (i0 : Nat) (_v0_1 : List Val) : List PV :=
  [.un, .fn 266 [] []] ++ nuns 6 ++ [.sl (SpreadRule.rows p0), .int .i64 ((List.length p0) : Int), .int .i64 (i0 : Int), .bool false]
def Qk9 (_p0 : List SpreadRule) (_i0 : Nat) (_v0_1 : List Val) : List (Nat × List PV) :=
  []
theorem Q18i (p0 : List SpreadRule) (_H : Qfi p0) (i0 : Nat) (v0_1 : List Val) (_ho0_0 : List.length v0_1 ≤ i0) (hc0 : (decide ((i0 : Int) < ((List.length p0) : Int))) = false) : Qgd p0 (Qej p0 i0 v0_1) v0_1 := by
 exact ⟨(envF (Qp9 p0 i0 v0_1)), (zoF (Qk9 p0 i0 v0_1)), Qj (Q127 p0 i0 v0_1) (x := ((.exit 0), Qns p0 v0_1 (envF (Qp9 p0 i0 v0_1)) (zoF (Qk9 p0 i0 v0_1)))) [hB 0 hc0] [] (by kernel_rfl)⟩
theorem Q16a (p0 : List SpreadRule) (H : Qfi p0) (x0 : SpreadRule) (i0 : Nat) (v0_1 : List Val) (hx0 : p0[i0]? = some x0) (hi0 : i0 < List.length p0) (ho0_0 : List.length v0_1 ≤ i0) (hc0 : (decide ((i0 : Int) < ((List.length p0) : Int))) = true) {r : Rs} (hr : Q5 G (Qej p0 (i0 + 1) (v0_1 ++ [(Qbe x0)])) r) : Q5 G (Qej p0 i0 v0_1) r := by
 have hB0 := H.1
 exact Qd (Q127 p0 i0 v0_1) (y := (Qvb p0 (i0 + 1) (v0_1 ++ [(Qbe x0)]), Qhm p0 (i0 + 1) (v0_1 ++ [(Qbe x0)]))) [hB 0 hc0, hP 0 (Q2g 4 (SpreadRule.rows p0) i0 _ (SpreadRule.Qe hx0) rfl), hV 8 [(644, Val.rows (v0_1 ++ [(Qbe x0)]))] (Q3x 1 580 644 5 80 0 0 true (Val.rows v0_1) (Val.rows (v0_1 ++ [(Qbe x0)])) (Val.cells (Qbe x0)) (List.length v0_1) (List.length (v0_1 ++ [(Qbe x0)])) rfl (Val.Q0 v0_1).symm (Val.Q0 (v0_1 ++ [(Qbe x0)])).symm (Val.Q1q v0_1 (Qbe x0)) (Val.Ql v0_1) rfl (by omega)), hS 0 true (Val.Q7 (v0_1 ++ [(Qbe x0)]) 5 rfl), hP 1 (Q28 i0 (by omega))] [aN (Q21a x0 (H.2.1 x0 (Q2o hx0)))] (by kernel_rfl) hr
theorem Qyf (p0 : List SpreadRule) (H : Qfi p0) : ∀ (r0 : List SpreadRule) (i0 : Nat) (v0_1 : List Val), List.drop i0 p0 = r0 → List.length v0_1 ≤ i0 → Qgd p0 (Qej p0 i0 v0_1) (Q4f p0 r0 i0 v0_1)
 | [], i0, v0_1, hd, ho0_0 => by
  have hc0 : (decide ((i0 : Int) < ((List.length p0) : Int))) = false := by have := Q1o hd; simp; omega
  rw [Q4f]
  exact Q18i p0 H i0 v0_1 ho0_0 hc0
 | x0 :: r0, i0, v0_1, hd, ho0_0 => by
  obtain ⟨hx0, hi0, hd'⟩ := Q1i hd
  have hc0 : (decide ((i0 : Int) < ((List.length p0) : Int))) = true := by simp; omega
  rw [Q4f]
  exact Qsf p0 (fun r hr => Q16a p0 H x0 i0 v0_1 hx0 hi0 ho0_0 hc0 hr) _ (Qyf p0 H r0 (i0 + 1) (v0_1 ++ [(Qbe x0)]) hd' (by first | omega | (simp; omega)))
def Q62 (p0 : List SpreadRule) : Val := vL (p0.map SpreadRule.enc)
theorem Q15n (p0 : List SpreadRule) : Q62 p0 = ((Qml (Q4f p0 p0 0 []))) := by
  rw [Que]
  rfl
def Q157 (p0 : List SpreadRule) : En := .call 265 [.sl (SpreadRule.rows p0), .fn 266 [] []] []
def Qqn (p0 : List SpreadRule) : Rs := .ret (.agg (Val.cells (Q62 p0))) []
def Qd0 (p0 : List SpreadRule) : Prop := LSm SpreadRule.sm p0
theorem Qcc (p0 : List SpreadRule) (H : Qd0 p0) : (Qfi p0) ∧ (Qmv (Q4f p0 p0 0 [])) ∧ True := by
  refine ⟨⟨Nat.le_trans H.1 (Nat.le_of_ble_eq_true rfl), H.2, trivial⟩, ⟨?_, trivial⟩, trivial⟩
  rw [Que]
  exact Q3d (fun _ h => SpreadRule.Q2m h) H
theorem Q17y (p0 : List SpreadRule) (H : Qd0 p0) : Q5 G (Q157 p0) (Qqn p0) := by
 unfold Qqn
 rw [Q15n]
 have hl0 := Qyf p0 ((Qcc p0 H).1) p0 0 [] (by simp) (by simp)
 obtain ⟨z0, zo0, hl0⟩ := hl0
 exact Q6 (fn := Ir.K1h) rfl VOK.nil [hP 3 (Qw (SpreadRule.rows p0) (List.length p0) (SpreadRule.Q0 p0)), hS 0 true (Val.Q7 (Q4f p0 p0 0 []) 5 rfl), hQ (Val.Q0 (Q4f p0 p0 0 [])).symm] [aV [(1, Val.rows (Q4f p0 p0 0 []))] hl0, aN (Quz (Q4f p0 p0 0 []) (Qcc p0 H).2.1)] (by kernel_rfl)
def Qbf (p0 : Toleration) : Val := Toleration.enc p0
theorem Q1yj (p0 : Toleration) : Qbf p0 = ((Q57 ([(Qv Q2a (Q27 p0.effect)), (Qv Q25 (Q5q p0.exists_)), (Qv Q15 (Q2w p0.key)), (Qv Q23 (Q27 p0.seconds)), (Qv Q13 (Q2w p0.value))]))) := by
  exact Eq.symm (Q5r (by exact Nat.le_of_ble_eq_true rfl) (by kernel_rfl))
def Q1wf (p0 : Toleration) : En := .call 268 [.agg (Toleration.cells p0)] []
def Q1o7 (p0 : Toleration) : Rs := .ret (.agg (Val.cells (Qbf p0))) []
def Q1i1 (p0 : Toleration) : Prop := Toleration.sm p0
theorem Q1eb (p0 : Toleration) (H : Q1i1 p0) : (Q90 ([(Qv Q2a (Q27 p0.effect)), (Qv Q25 (Q5q p0.exists_)), (Qv Q15 (Q2w p0.key)), (Qv Q23 (Q27 p0.seconds)), (Qv Q13 (Q2w p0.value))])) ∧ True := by
  repeat' with_reducible apply And.intro
  all_goals first | exact True.intro | exact H | exact H.1 | exact H.2.1 | exact H.2.2.1 | exact H.2.2.2.1 | exact H.2.2.2.2.1 | exact H.2.2.2.2.2.1 | exact H.2.2.2.2.2.2.1 | exact H.2.2.2.2.2.2.2.1 | exact H.2.2.2.2.2.2.2.2.1 | exact H.2.2.2.2.2.2.2.2.2.1 | exact H.2.2.2.2.2.2.2.2.2.2.1 | exact H.2.2.2.2.2.2.2.2.2.2.2.1 | exact Qam (by exact Nat.le_of_ble_eq_true rfl) (Toleration.Q2m H).all.2.2.2
theorem Q21b (p0 : Toleration) (H : Q1i1 p0) : Q5 G (Q1wf p0) (Q1o7 p0) := by
 unfold Q1o7
 rw [Q1yj]
 exact Q6 (fn := Ir.K1a) rfl VOK.nil [] [aN (Q8x p0.effect), aN (Q3j Q2a (Q27 p0.effect)), aN (Q184 p0.exists_), aN (Q3j Q25 (Q5q p0.exists_)), aN (Qec p0.key), aN (Q3j Q15 (Q2w p0.key)), aN (Q8x p0.seconds), aN (Q3j Q23 (Q27 p0.seconds)), aN (Qec p0.value), aN (Q3j Q13 (Q2w p0.value)), aN (Q59 (e' := .call 78 [.sl [(Fld.cells (Qv Q2a (Q27 p0.effect))), (Fld.cells (Qv Q25 (Q5q p0.exists_))), (Fld.cells (Qv Q15 (Q2w p0.key))), (Fld.cells (Qv Q23 (Q27 p0.seconds))), (Fld.cells (Qv Q13 (Q2w p0.value)))]] []) (Qbh ([(Qv Q2a (Q27 p0.effect)), (Qv Q25 (Q5q p0.exists_)), (Qv Q15 (Q2w p0.key)), (Qv Q23 (Q27 p0.seconds)), (Qv Q13 (Q2w p0.value))]) (Q1eb p0 H).1) (by simp only [Qae, Fld.Q12, Fld.Q1n]))] (by kernel_rfl)
def Q4g (p0 : List Toleration) : List Toleration → Nat → (List Val) → List Val
 | [], _i0, v0_1 =>
  v0_1
 | x0 :: r0, i0, v0_1 =>
  Q4g p0 r0 (i0 + 1) (v0_1 ++ [(Qbf x0)])
theorem Quf (p0 : List Toleration) : ∀ (l : List Toleration) (i : Nat) (a : List Val), Q4g p0 l i a = a ++ l.map (fun x0 => (Qbf x0))
  | [], _, _ => by simp [Q4g]
  | x :: r, i, a => by rw [Q4g, Quf p0 r]; simp
def Qvc (p0 : List Toleration) (i0 : Nat) (v0_1 : List Val) : List PV :=
  [.un, .fn 268 [] [], .un, .un, .bx 0 0, .ms 1 5 0 (List.length v0_1), .un, .un, .sl (Toleration.rows p0), .int .i64 ((List.length p0) : Int), .int .i64 (i0 : Int)] ++ nuns 12
def Qhn (_p0 : List Toleration) (_i0 : Nat) (v0_1 : List Val) : List Ob :=
  [⟨5, 0, true, [.int .i64 0, .int .i64 0, .str eB, .ms 2 5 0 0, .ms 3 6 0 0]⟩, ⟨5, 0, true, (Val.rows v0_1).flatten⟩, ⟨5, 0, true, []⟩, ⟨6, 0, true, []⟩]
def Qek (p0 : List Toleration) (i0 : Nat) (v0_1 : List Val) : En := .loop 0 Ir.Qir Ir.Q1g7 (Qvc p0 i0 v0_1) (Qhn p0 i0 v0_1)
def Qnt (_p0 : List Toleration) (q0 : List Val) (z : Nat → PV) (_zo : Nat → List PV) : St :=
  ⟨[z 0, z 1, z 2, z 3, .bx 0 0, .ms 1 5 0 (List.length q0)] ++ zr z 6 17, [(0, ⟨5, 0, true, [.int .i64 0, .int .i64 0, .str eB, .ms 2 5 0 0, .ms 3 6 0 0]⟩), (1, ⟨5, 0, true, (Val.rows q0).flatten⟩), (2, ⟨5, 0, true, []⟩), (3, ⟨6, 0, true, []⟩)], 68⟩
theorem Q128 (p0 : List Toleration) (i0 : Nat) (v0_1 : List Val) : VOK (Go.Pv.look (number 0 (Qhn p0 i0 v0_1))) [(1, Val.rows v0_1)] := (VOK.cons (show Seen _ _ from Q3i (ob := ⟨5, 0, true, (Val.rows v0_1).flatten⟩) (Val.Q7 v0_1 5 rfl)) VOK.nil)
def Qge (p0 : List Toleration) (e : En) (q : List Val) : Prop := ∃ z zo, Q5 G e (.st (.exit 0) (Qnt p0 q z zo))
theorem Qsg (p0 : List Toleration) {e e' : En} (h : ∀ r, Q5 G e r → Q5 G e' r) : ∀ q, Qge p0 e q → Qge p0 e' q
  | _, ⟨z, zo, hz⟩ => ⟨z, zo, h _ hz⟩
def Qfj (p0 : List Toleration) : Prop := (List.length p0 ≤ 137438953472) ∧ (∀ x0 ∈ p0, Q1i1 x0) ∧ True
def Qpa (p0 : List Toleration) (i0 : Nat) (_v0_1 : List Val) : List PV :=
  [.un, .fn 268 [] []] ++ nuns 6 ++ [.sl (Toleration.rows p0), .int .i64 ((List.length p0) : Int), .int .i64 (i0 : Int), .bool false]
def Qka (_p0 : List Toleration) (_i0 : Nat) (_v0_1 : List Val) : List (Nat × List PV) :=
  []
theorem Q18j (p0 : List Toleration) (_H : Qfj p0) (i0 : Nat) (v0_1 : List Val) (_ho0_0 : List.length v0_1 ≤ i0) (hc0 : (decide ((i0 : Int) < ((List.length p0) : Int))) = false) : Qge p0 (Qek p0 i0 v0_1) v0_1 := by
 exact ⟨(envF (Qpa p0 i0 v0_1)), (zoF (Qka p0 i0 v0_1)), Qj (Q128 p0 i0 v0_1) (x := ((.exit 0), Qnt p0 v0_1 (envF (Qpa p0 i0 v0_1)) (zoF (Qka p0 i0 v0_1)))) [hB 0 hc0] [] (by kernel_rfl)⟩
theorem Q16b (p0 : List Toleration) (H : Qfj p0) (x0 : Toleration) (i0 : Nat) (v0_1 : List Val) (hx0 : p0[i0]? = some x0) (hi0 : i0 < List.length p0) (ho0_0 : List.length v0_1 ≤ i0) (hc0 : (decide ((i0 : Int) < ((List.length p0) : Int))) = true) {r : Rs} (hr : Q5 G (Qek p0 (i0 + 1) (v0_1 ++ [(Qbf x0)])) r) : Q5 G (Qek p0 i0 v0_1) r := by
 have hB0 := H.1
 exact Qd (Q128 p0 i0 v0_1) (y := (Qvc p0 (i0 + 1) (v0_1 ++ [(Qbf x0)]), Qhn p0 (i0 + 1) (v0_1 ++ [(Qbf x0)]))) [hB 0 hc0, hP 0 (Q2g 5 (Toleration.rows p0) i0 _ (Toleration.Qe hx0) rfl), hV 8 [(644, Val.rows (v0_1 ++ [(Qbf x0)]))] (Q3x 1 580 644 5 80 0 0 true (Val.rows v0_1) (Val.rows (v0_1 ++ [(Qbf x0)])) (Val.cells (Qbf x0)) (List.length v0_1) (List.length (v0_1 ++ [(Qbf x0)])) rfl (Val.Q0 v0_1).symm (Val.Q0 (v0_1 ++ [(Qbf x0)])).symm (Val.Q1q v0_1 (Qbf x0)) (Val.Ql v0_1) rfl (by omega)), hS 0 true (Val.Q7 (v0_1 ++ [(Qbf x0)]) 5 rfl), hP 1 (Q28 i0 (by omega))] [aN (Q21b x0 (H.2.1 x0 (Q2o hx0)))] (by kernel_rfl) hr
theorem Qyg (p0 : List Toleration) (H : Qfj p0) : ∀ (r0 : List Toleration) (i0 : Nat) (v0_1 : List Val), List.drop i0 p0 = r0 → List.length v0_1 ≤ i0 → Qge p0 (Qek p0 i0 v0_1) (Q4g p0 r0 i0 v0_1)
 | [], i0, v0_1, hd, ho0_0 => by
  have hc0 : (decide ((i0 : Int) < ((List.length p0) : Int))) = false := by have := Q1o hd; simp; omega
  rw [Q4g]
  exact Q18j p0 H i0 v0_1 ho0_0 hc0
 | x0 :: r0, i0, v0_1, hd, ho0_0 => by
  obtain ⟨hx0, hi0, hd'⟩ := Q1i hd
  have hc0 : (decide ((i0 : Int) < ((List.length p0) : Int))) = true := by simp; omega
  rw [Q4g]
  exact Qsg p0 (fun r hr => Q16b p0 H x0 i0 v0_1 hx0 hi0 ho0_0 hc0 hr) _ (Qyg p0 H r0 (i0 + 1) (v0_1 ++ [(Qbf x0)]) hd' (by first | omega | (simp; omega)))
def Q63 (p0 : List Toleration) : Val := vL (p0.map Toleration.enc)
theorem Q15o (p0 : List Toleration) : Q63 p0 = ((Qml (Q4g p0 p0 0 []))) := by
  rw [Quf]
  rfl
def Q158 (p0 : List Toleration) : En := .call 267 [.sl (Toleration.rows p0), .fn 268 [] []] []
def Qqo (p0 : List Toleration) : Rs := .ret (.agg (Val.cells (Q63 p0))) []
def Qd1 (p0 : List Toleration) : Prop := LSm Toleration.sm p0
theorem Qcd (p0 : List Toleration) (H : Qd1 p0) : (Qfj p0) ∧ (Qmv (Q4g p0 p0 0 [])) ∧ True := by
  refine ⟨⟨Nat.le_trans H.1 (Nat.le_of_ble_eq_true rfl), H.2, trivial⟩, ⟨?_, trivial⟩, trivial⟩
  rw [Quf]
  exact Q3d (fun _ h => Toleration.Q2m h) H
theorem Q17z (p0 : List Toleration) (H : Qd1 p0) : Q5 G (Q158 p0) (Qqo p0) := by
 unfold Qqo
 rw [Q15o]
 have hl0 := Qyg p0 ((Qcd p0 H).1) p0 0 [] (by simp) (by simp)
 obtain ⟨z0, zo0, hl0⟩ := hl0
 exact Q6 (fn := Ir.K1i) rfl VOK.nil [hP 3 (Qw (Toleration.rows p0) (List.length p0) (Toleration.Q0 p0)), hS 0 true (Val.Q7 (Q4g p0 p0 0 []) 5 rfl), hQ (Val.Q0 (Q4g p0 p0 0 [])).symm] [aV [(1, Val.rows (Q4g p0 p0 0 []))] hl0, aN (Quz (Q4g p0 p0 0 []) (Qcd p0 H).2.1)] (by kernel_rfl)
def Q118 (p0 : PodSpec) : Val := PodSpec.enc p0
theorem Q1yh (p0 : PodSpec) : Q118 p0 = ((Q57 ([(Qv Q1g (Q5z p0.containers)), (Qv Q2r (Q27 p0.grace)), (Qv Q2p (Q2w p0.node)), (Qv Q18 (Q2j p0.nodeSelector)), (Qv Q1y (Q60 p0.nodeTerms)), (Qv Q2h (Q61 p0.podTerms)), (Qv Q1h (Q27 p0.priority)), (Qv Q1v (Q27 p0.restart)), (Qv Q36 (Q62 p0.spread)), (Qv Q29 (Q63 p0.tolerations))]))) := by
  exact Eq.symm (Q5r (by exact Nat.le_of_ble_eq_true rfl) (by kernel_rfl))
def Q1wd (p0 : PodSpec) : En := .call 229 [.agg (PodSpec.cells p0)] []
def Q1o5 (p0 : PodSpec) : Rs := .ret (.agg (Val.cells (Q118 p0))) []
def Q1hz (p0 : PodSpec) : Prop := PodSpec.sm p0
theorem Q8k (p0 : PodSpec) (H : Q1hz p0) : (Qcx p0.containers) ∧ (Q6r p0.nodeSelector) ∧ (Qcy p0.nodeTerms) ∧ (Qcz p0.podTerms) ∧ (Qd0 p0.spread) ∧ (Qd1 p0.tolerations) ∧ (Q90 ([(Qv Q1g (Q5z p0.containers)), (Qv Q2r (Q27 p0.grace)), (Qv Q2p (Q2w p0.node)), (Qv Q18 (Q2j p0.nodeSelector)), (Qv Q1y (Q60 p0.nodeTerms)), (Qv Q2h (Q61 p0.podTerms)), (Qv Q1h (Q27 p0.priority)), (Qv Q1v (Q27 p0.restart)), (Qv Q36 (Q62 p0.spread)), (Qv Q29 (Q63 p0.tolerations))])) ∧ True := by
  repeat' with_reducible apply And.intro
  all_goals first | exact True.intro | exact H | exact H.1 | exact H.2.1 | exact H.2.2.1 | exact H.2.2.2.1 | exact H.2.2.2.2.1 | exact H.2.2.2.2.2.1 | exact H.2.2.2.2.2.2.1 | exact H.2.2.2.2.2.2.2.1 | exact H.2.2.2.2.2.2.2.2.1 | exact H.2.2.2.2.2.2.2.2.2.1 | exact H.2.2.2.2.2.2.2.2.2.2.1 | exact H.2.2.2.2.2.2.2.2.2.2.2.1 | exact Qam (by exact Nat.le_of_ble_eq_true rfl) (PodSpec.Q2m H).all.2.2.2
theorem Q219 (p0 : PodSpec) (H : Q1hz p0) : Q5 G (Q1wd p0) (Q1o5 p0) := by
 unfold Q1o5
 rw [Q1yh]
 exact Q6 (fn := Ir.K18) rfl VOK.nil [] [aN (Q17v p0.containers (Q8k p0 H).1), aN (Q3j Q1g (Q5z p0.containers)), aN (Q8x p0.grace), aN (Q3j Q2r (Q27 p0.grace)), aN (Qec p0.node), aN (Q3j Q2p (Q2w p0.node)), aN (Qab p0.nodeSelector (Q8k p0 H).2.1), aN (Q3j Q18 (Q2j p0.nodeSelector)), aN (Q17w p0.nodeTerms (Q8k p0 H).2.2.1), aN (Q3j Q1y (Q60 p0.nodeTerms)), aN (Q17x p0.podTerms (Q8k p0 H).2.2.2.1), aN (Q3j Q2h (Q61 p0.podTerms)), aN (Q8x p0.priority), aN (Q3j Q1h (Q27 p0.priority)), aN (Q8x p0.restart), aN (Q3j Q1v (Q27 p0.restart)), aN (Q17y p0.spread (Q8k p0 H).2.2.2.2.1), aN (Q3j Q36 (Q62 p0.spread)), aN (Q17z p0.tolerations (Q8k p0 H).2.2.2.2.2.1), aN (Q3j Q29 (Q63 p0.tolerations)), aN (Q59 (e' := .call 78 [.sl [(Fld.cells (Qv Q1g (Q5z p0.containers))), (Fld.cells (Qv Q2r (Q27 p0.grace))), (Fld.cells (Qv Q2p (Q2w p0.node))), (Fld.cells (Qv Q18 (Q2j p0.nodeSelector))), (Fld.cells (Qv Q1y (Q60 p0.nodeTerms))), (Fld.cells (Qv Q2h (Q61 p0.podTerms))), (Fld.cells (Qv Q1h (Q27 p0.priority))), (Fld.cells (Qv Q1v (Q27 p0.restart))), (Fld.cells (Qv Q36 (Q62 p0.spread))), (Fld.cells (Qv Q29 (Q63 p0.tolerations)))]] []) (Qbh ([(Qv Q1g (Q5z p0.containers)), (Qv Q2r (Q27 p0.grace)), (Qv Q2p (Q2w p0.node)), (Qv Q18 (Q2j p0.nodeSelector)), (Qv Q1y (Q60 p0.nodeTerms)), (Qv Q2h (Q61 p0.podTerms)), (Qv Q1h (Q27 p0.priority)), (Qv Q1v (Q27 p0.restart)), (Qv Q36 (Q62 p0.spread)), (Qv Q29 (Q63 p0.tolerations))]) (Q8k p0 H).2.2.2.2.2.2.1) (by simp only [Qae, Fld.Q12, Fld.Q1n]))] (by kernel_rfl)
def s_K9 (p0 : Template) : Val := Template.enc p0
theorem e_K9 (p0 : Template) : s_K9 p0 = ((Q57 ([(Qv Q21 (Q5y p0.labels)), (Qv Q32 (Q118 p0.spec))]))) := by
  exact Eq.symm (Q5r (by exact Nat.le_of_ble_eq_true rfl) (by kernel_rfl))
def c_K9 (p0 : Template) : En := .call 191 [.agg (Template.cells p0)] []
def a_K9 (p0 : Template) : Rs := .ret (.agg (Val.cells (s_K9 p0))) []
def H_K9 (p0 : Template) : Prop := Template.sm p0
theorem Q10h (p0 : Template) (H : H_K9 p0) : (Qcw p0.labels) ∧ (Q1hz p0.spec) ∧ (Q90 ([(Qv Q21 (Q5y p0.labels)), (Qv Q32 (Q118 p0.spec))])) ∧ True := by
  repeat' with_reducible apply And.intro
  all_goals first | exact True.intro | exact H | exact H.1 | exact H.2.1 | exact H.2.2.1 | exact H.2.2.2.1 | exact H.2.2.2.2.1 | exact H.2.2.2.2.2.1 | exact H.2.2.2.2.2.2.1 | exact H.2.2.2.2.2.2.2.1 | exact H.2.2.2.2.2.2.2.2.1 | exact H.2.2.2.2.2.2.2.2.2.1 | exact H.2.2.2.2.2.2.2.2.2.2.1 | exact H.2.2.2.2.2.2.2.2.2.2.2.1 | exact Qam (by exact Nat.le_of_ble_eq_true rfl) (Template.Q2m H).all.2.2.2
theorem t_K9 (p0 : Template) (H : H_K9 p0) : Q5 G (c_K9 p0) (a_K9 p0) := by
 unfold a_K9
 rw [e_K9]
 exact Q6 (fn := Ir.K9) rfl VOK.nil [] [aN (Q17u p0.labels (Q10h p0 H).1), aN (Q3j Q21 (Q5y p0.labels)), aN (Q219 p0.spec (Q10h p0 H).2.1), aN (Q3j Q32 (Q118 p0.spec)), aN (Q59 (e' := .call 78 [.sl [(Fld.cells (Qv Q21 (Q5y p0.labels))), (Fld.cells (Qv Q32 (Q118 p0.spec)))]] []) (Qbh ([(Qv Q21 (Q5y p0.labels)), (Qv Q32 (Q118 p0.spec))]) (Q10h p0 H).2.2.1) (by simp only [Qae, Fld.Q12, Fld.Q1n]))] (by kernel_rfl)
end Go.Proofs.YtimjjohlpnkacaaGreat
end

section
/- What the program's encoders compute (printed by a program). -/
namespace Go.Proofs.YtimjjohlpnkacaaGreat
open Go.Pv
def Q17s (p0 : BA) (p1 : Meta) (p2 : Val) (p3 : Val) : Object :=
 (Object.mk (Meta.mk p0 p1.namespace_ p1.name p1.uid p1.version p1.generation p1.created p1.deleting p1.deleteAt p1.labels p1.owners p1.finalizers p1.managers) p2 p3)
def Q1y1 (p0 : BA) (p1 : Meta) (p2 : Val) (p3 : Val) : En := .call 85 [.str p0, .agg (Meta.cells p1), .agg (Val.cells p2), .agg (Val.cells p3)] []
def Q1pw (p0 : BA) (p1 : Meta) (p2 : Val) (p3 : Val) : Rs := .ret (.agg (Object.cells (Q17s p0 p1 p2 p3))) []
def Q1im (_p0 : BA) (p1 : Meta) (_p2 : Val) (_p3 : Val) : Prop := (Qs2 p1) ∧ True
theorem Q1rp (p0 : BA) (p1 : Meta) (p2 : Val) (p3 : Val) (H : Q1im p0 p1 p2 p3) : Q5 G (Q1y1 p0 p1 p2 p3) (Q1pw p0 p1 p2 p3) := by
 unfold Q1pw Q17s
 exact Q6 (fn := Ir.K76) rfl VOK.nil [] [aN (Q1jy p1 H.1)] (by kernel_rfl)
theorem Q1qn {k : ByteArray} {m : Meta} {a b p q : List Fld} (ha : a.length ≤ 20) (hb : b.length ≤ 20) (h1 : mapOf a = p) (h2 : mapOf b = q) : Q17s k m (Q57 a) (Q57 b) = ⟨{ m with kind := k }, vM p, vM q⟩ := by
  rw [Qv1 ha h1, Qv1 hb h2]
  rfl
theorem Q1qo {k : ByteArray} {m : Meta} {b q : List Fld} {t : Val} (hb : b.length ≤ 20) (h2 : mapOf b = q) : Q17s k m t (Q57 b) = ⟨{ m with kind := k }, t, vM q⟩ := by
  rw [Qv1 hb h2]
  rfl
def Q8w (p0 : BA) (p1 : Val) : Fld := .mk p0 p1
theorem Q1zp (p0 : BA) (p1 : Val) : Q8w p0 p1 = ((Fld.mk p0 p1)) := by
  rfl
def Q1y3 (p0 : BA) (p1 : Val) : En := .call 83 [.str p0, .agg (Val.cells p1)] []
def Q1py (p0 : BA) (p1 : Val) : Rs := .ret (.agg (Fld.cells (Q8w p0 p1))) []
theorem Q186 (p0 : BA) (p1 : Val) : Q5 G (Q1y3 p0 p1) (Q1py p0 p1) := by
 unfold Q1py
 rw [Q1zp]
 exact Q6 (fn := Ir.K78) rfl VOK.nil [] [] (by kernel_rfl)
def Q2l (p0 : BA) (p1 : Int) : Fld := .mk p0 (vN p1)
theorem Q1zn (p0 : BA) (p1 : Int) : Q2l p0 p1 = ((Q8w p0 (Q27 p1))) := by
  rfl
def Q1y0 (p0 : BA) (p1 : Int) : En := .call 79 [.str p0, .int .i64 p1] []
def Q1pv (p0 : BA) (p1 : Int) : Rs := .ret (.agg (Fld.cells (Q2l p0 p1))) []
theorem Qcu (p0 : BA) (p1 : Int) : Q5 G (Q1y0 p0 p1) (Q1pv p0 p1) := by
 unfold Q1pv
 rw [Q1zn]
 exact Q6 (fn := Ir.K75) rfl VOK.nil [] [aN (Q8x p1), aN (Q186 p0 (Q27 p1))] (by kernel_rfl)
def Qzw (p0 : BA) (p1 : BA) : Fld := .mk p0 (vS p1)
theorem Q1zq (p0 : BA) (p1 : BA) : Qzw p0 p1 = ((Q8w p0 (Q2w p1))) := by
  rfl
def Q1y6 (p0 : BA) (p1 : BA) : En := .call 95 [.str p0, .str p1] []
def Q1q1 (p0 : BA) (p1 : BA) : Rs := .ret (.agg (Fld.cells (Qzw p0 p1))) []
theorem Q225 (p0 : BA) (p1 : BA) : Q5 G (Q1y6 p0 p1) (Q1q1 p0 p1) := by
 unfold Q1q1
 rw [Q1zq]
 exact Q6 (fn := Ir.K7m) rfl VOK.nil [] [aN (Qec p1), aN (Q186 p0 (Q2w p1))] (by kernel_rfl)
def Q17t (p0 : Template) : Fld := .mk Qz (Template.enc p0)
theorem Q1zr (p0 : Template) : Q17t p0 = ((Q8w Qz (s_K9 p0))) := by
  rfl
def Q1y7 (p0 : Template) : En := .call 81 [.agg (Template.cells p0)] []
def Q1q2 (p0 : Template) : Rs := .ret (.agg (Fld.cells (Q17t p0))) []
def Q1in (p0 : Template) : Prop := Template.sm p0
theorem Q1eu (p0 : Template) (H : Q1in p0) : (H_K9 p0) ∧ True := by
  repeat' with_reducible apply And.intro
  all_goals first | exact True.intro | exact H
theorem Q226 (p0 : Template) (H : Q1in p0) : Q5 G (Q1y7 p0) (Q1q2 p0) := by
 unfold Q1q2
 rw [Q1zr]
 exact Q6 (fn := Ir.K7n) rfl VOK.nil [] [aN (t_K9 p0 (Q1eu p0 H).1), aN (Q186 Qz (s_K9 p0))] (by kernel_rfl)
def Qag (p0 : BA) (p1 : Bool) : Fld := .mk p0 (vB p1)
theorem Q1zs (p0 : BA) (p1 : Bool) : Qag p0 p1 = ((Q8w p0 (Q5q p1))) := by
  rfl
def Q1y8 (p0 : BA) (p1 : Bool) : En := .call 82 [.str p0, .bool p1] []
def Q1q3 (p0 : BA) (p1 : Bool) : Rs := .ret (.agg (Fld.cells (Qag p0 p1))) []
theorem Q1k0 (p0 : BA) (p1 : Bool) : Q5 G (Q1y8 p0 p1) (Q1q3 p0 p1) := by
 unfold Q1q3
 rw [Q1zs]
 exact Q6 (fn := Ir.K7o) rfl VOK.nil [] [aN (Q184 p1), aN (Q186 p0 (Q5q p1))] (by kernel_rfl)
def Q5m (p0 : List Int) : List Int → Nat → (List Val) → List Val
 | [], _i0, v0_1 =>
  v0_1
 | x0 :: r0, i0, v0_1 =>
  Q5m p0 r0 (i0 + 1) (v0_1 ++ [(Q27 x0)])
theorem Q14n (p0 : List Int) : ∀ (l : List Int) (i : Nat) (a : List Val), Q5m p0 l i a = a ++ l.map (fun x0 => (Q27 x0))
  | [], _, _ => by simp [Q5m]
  | x :: r, i, a => by rw [Q5m, Q14n p0 r]; simp
def Qw9 (p0 : List Int) (i0 : Nat) (v0_1 : List Val) : List PV :=
  [.un, .fn 109 [] [], .un, .un, .bx 0 0, .ms 1 5 0 (List.length v0_1), .un, .un, .sl (Q2n p0), .int .i64 ((List.length p0) : Int), .int .i64 (i0 : Int)] ++ nuns 12
def Qia (_p0 : List Int) (_i0 : Nat) (v0_1 : List Val) : List Ob :=
  [⟨5, 0, true, [.int .i64 0, .int .i64 0, .str eB, .ms 2 5 0 0, .ms 3 6 0 0]⟩, ⟨5, 0, true, (Val.rows v0_1).flatten⟩, ⟨5, 0, true, []⟩, ⟨6, 0, true, []⟩]
def Qfc (p0 : List Int) (i0 : Nat) (v0_1 : List Val) : En := .loop 0 Ir.Qjs Ir.Q1h8 (Qw9 p0 i0 v0_1) (Qia p0 i0 v0_1)
def Qos (_p0 : List Int) (q0 : List Val) (z : Nat → PV) (_zo : Nat → List PV) : St :=
  ⟨[z 0, z 1, z 2, z 3, .bx 0 0, .ms 1 5 0 (List.length q0)] ++ zr z 6 17, [(0, ⟨5, 0, true, [.int .i64 0, .int .i64 0, .str eB, .ms 2 5 0 0, .ms 3 6 0 0]⟩), (1, ⟨5, 0, true, (Val.rows q0).flatten⟩), (2, ⟨5, 0, true, []⟩), (3, ⟨6, 0, true, []⟩)], 68⟩
theorem Q12t (p0 : List Int) (i0 : Nat) (v0_1 : List Val) : VOK (Go.Pv.look (number 0 (Qia p0 i0 v0_1))) [(1, Val.rows v0_1)] := (VOK.cons (show Seen _ _ from Q3i (ob := ⟨5, 0, true, (Val.rows v0_1).flatten⟩) (Val.Q7 v0_1 5 rfl)) VOK.nil)
def Qh0 (p0 : List Int) (e : En) (q : List Val) : Prop := ∃ z zo, Q5 G e (.st (.exit 0) (Qos p0 q z zo))
theorem Qtd (p0 : List Int) {e e' : En} (h : ∀ r, Q5 G e r → Q5 G e' r) : ∀ q, Qh0 p0 e q → Qh0 p0 e' q
  | _, ⟨z, zo, hz⟩ => ⟨z, zo, h _ hz⟩
def Qg6 (p0 : List Int) : Prop := (List.length p0 ≤ 137438953472) ∧ True
def Qqh (p0 : List Int) (i0 : Nat) (_v0_1 : List Val) : List PV :=
  [.un, .fn 109 [] []] ++ nuns 6 ++ [.sl (Q2n p0), .int .i64 ((List.length p0) : Int), .int .i64 (i0 : Int), .bool false]
def Qlh (_p0 : List Int) (_i0 : Nat) (_v0_1 : List Val) : List (Nat × List PV) :=
  []
theorem Q19q (p0 : List Int) (_H : Qg6 p0) (i0 : Nat) (v0_1 : List Val) (_ho0_0 : List.length v0_1 ≤ i0) (hc0 : (decide ((i0 : Int) < ((List.length p0) : Int))) = false) : Qh0 p0 (Qfc p0 i0 v0_1) v0_1 := by
 exact ⟨(envF (Qqh p0 i0 v0_1)), (zoF (Qlh p0 i0 v0_1)), Qj (Q12t p0 i0 v0_1) (x := ((.exit 0), Qos p0 v0_1 (envF (Qqh p0 i0 v0_1)) (zoF (Qlh p0 i0 v0_1)))) [hB 0 hc0] [] (by kernel_rfl)⟩
theorem Q17j (p0 : List Int) (H : Qg6 p0) (x0 : Int) (i0 : Nat) (v0_1 : List Val) (hx0 : p0[i0]? = some x0) (hi0 : i0 < List.length p0) (ho0_0 : List.length v0_1 ≤ i0) (hc0 : (decide ((i0 : Int) < ((List.length p0) : Int))) = true) {r : Rs} (hr : Q5 G (Qfc p0 (i0 + 1) (v0_1 ++ [(Q27 x0)])) r) : Q5 G (Qfc p0 i0 v0_1) r := by
 have hB0 := H.1
 exact Qd (Q12t p0 i0 v0_1) (y := (Qw9 p0 (i0 + 1) (v0_1 ++ [(Q27 x0)]), Qia p0 (i0 + 1) (v0_1 ++ [(Q27 x0)]))) [hB 0 hc0, hP 0 (Q2g 1 (Q2n p0) i0 _ (Qr3 hx0) rfl), hV 7 [(580, Val.rows (v0_1 ++ [(Q27 x0)]))] (Q3x 1 516 580 5 80 0 0 true (Val.rows v0_1) (Val.rows (v0_1 ++ [(Q27 x0)])) (Val.cells (Q27 x0)) (List.length v0_1) (List.length (v0_1 ++ [(Q27 x0)])) rfl (Val.Q0 v0_1).symm (Val.Q0 (v0_1 ++ [(Q27 x0)])).symm (Val.Q1q v0_1 (Q27 x0)) (Val.Ql v0_1) rfl (by omega)), hS 0 true (Val.Q7 (v0_1 ++ [(Q27 x0)]) 5 rfl), hP 1 (Q28 i0 (by omega))] [aN (Q8x x0)] (by kernel_rfl) hr
theorem Qzd (p0 : List Int) (H : Qg6 p0) : ∀ (r0 : List Int) (i0 : Nat) (v0_1 : List Val), List.drop i0 p0 = r0 → List.length v0_1 ≤ i0 → Qh0 p0 (Qfc p0 i0 v0_1) (Q5m p0 r0 i0 v0_1)
 | [], i0, v0_1, hd, ho0_0 => by
  have hc0 : (decide ((i0 : Int) < ((List.length p0) : Int))) = false := by have := Q1o hd; simp; omega
  rw [Q5m]
  exact Q19q p0 H i0 v0_1 ho0_0 hc0
 | x0 :: r0, i0, v0_1, hd, ho0_0 => by
  obtain ⟨hx0, hi0, hd'⟩ := Q1i hd
  have hc0 : (decide ((i0 : Int) < ((List.length p0) : Int))) = true := by simp; omega
  rw [Q5m]
  exact Qtd p0 (fun r hr => Q17j p0 H x0 i0 v0_1 hx0 hi0 ho0_0 hc0 hr) _ (Qzd p0 H r0 (i0 + 1) (v0_1 ++ [(Q27 x0)]) hd' (by first | omega | (simp; omega)))
def Q4l (p0 : List Int) : Val := vL (p0.map vN)
theorem Q15r (p0 : List Int) : Q4l p0 = ((Val.mk 4 0 eB (Q5m p0 p0 0 []) [])) := by
  rw [Q14n]
  rfl
def Q15e (p0 : List Int) : En := .call 108 [.sl (Q2n p0), .fn 109 [] []] []
def Qqu (p0 : List Int) : Rs := .ret (.agg (Val.cells (Q4l p0))) []
def Qd3 (p0 : List Int) : Prop := LSm (fun _ : Int => True) p0
theorem Qu1 (p0 : List Int) (H : Qd3 p0) : (Qg6 p0) ∧ True := by
  exact ⟨⟨Nat.le_trans H.1 (Nat.le_of_ble_eq_true rfl), trivial⟩, trivial⟩
theorem Q185 (p0 : List Int) (H : Qd3 p0) : Q5 G (Q15e p0) (Qqu p0) := by
 unfold Qqu
 rw [Q15r]
 have hl0 := Qzd p0 ((Qu1 p0 H).1) p0 0 [] (by simp) (by simp)
 obtain ⟨z0, zo0, hl0⟩ := hl0
 exact Q6 (fn := Ir.K6z) rfl VOK.nil [hP 3 (Qw (Q2n p0) (List.length p0) (Q55 p0)), hS 0 true (Val.Q7 (Q5m p0 p0 0 []) 5 rfl), hQ (Val.Q0 (Q5m p0 p0 0 [])).symm] [aV [(1, Val.rows (Q5m p0 p0 0 []))] hl0] (by kernel_rfl)
def Qea (p0 : Job) : Val := JobS.enc p0
theorem Q1zm (p0 : Job) : Qea p0 = ((Q57 ([(Q2l Qn p0.completions), (Q2l Qr p0.parallelism), (Q2l Q1m p0.retries), (Q2l Q1f p0.deadline), (Qag Q1t p0.indexed), (Qag Qa p0.suspended), (Q17t p0.template)]))) := by
  exact Eq.symm (Qv1 (by exact Nat.le_of_ble_eq_true rfl) (by kernel_rfl))
def Q1xz (p0 : Job) : En := .call 110 [.agg (Job.cells p0)] []
def Q1pu (p0 : Job) : Rs := .ret (.agg (Val.cells (Qea p0))) []
def Q1dr (p0 : Job) : Prop := JobS.sm p0
theorem Q13j (p0 : Job) (H : Q1dr p0) : (Q1in p0.template) ∧ (Q90 ([(Q2l Qn p0.completions), (Q2l Qr p0.parallelism), (Q2l Q1m p0.retries), (Q2l Q1f p0.deadline), (Qag Q1t p0.indexed), (Qag Qa p0.suspended), (Q17t p0.template)])) ∧ True := by
  exact ⟨(by first | exact True.intro | exact H | exact H.1), Qam (by exact Nat.le_of_ble_eq_true rfl) (List.forall_mem_cons.2 ⟨Val.Sm.leaf _ _ _, List.forall_mem_cons.2 ⟨Val.Sm.leaf _ _ _, List.forall_mem_cons.2 ⟨Val.Sm.leaf _ _ _, List.forall_mem_cons.2 ⟨Val.Sm.leaf _ _ _, List.forall_mem_cons.2 ⟨Val.Sm.leaf _ _ _, List.forall_mem_cons.2 ⟨Val.Sm.leaf _ _ _, List.forall_mem_cons.2 ⟨Template.Q2m H.1, List.forall_mem_nil _⟩⟩⟩⟩⟩⟩⟩), trivial⟩
theorem Q1ro (p0 : Job) (H : Q1dr p0) : Q5 G (Q1xz p0) (Q1pu p0) := by
 unfold Q1pu
 rw [Q1zm]
 exact Q6 (fn := Ir.K6t) rfl VOK.nil [] [aN (Qcu Qn p0.completions), aN (Qcu Qr p0.parallelism), aN (Qcu Q1m p0.retries), aN (Qcu Q1f p0.deadline), aN (Q1k0 Q1t p0.indexed), aN (Q1k0 Qa p0.suspended), aN (Q226 p0.template (Q13j p0 H).1), aN (Q59 (e' := .call 78 [.sl [(Fld.cells (Q2l Qn p0.completions)), (Fld.cells (Q2l Qr p0.parallelism)), (Fld.cells (Q2l Q1m p0.retries)), (Fld.cells (Q2l Q1f p0.deadline)), (Fld.cells (Qag Q1t p0.indexed)), (Fld.cells (Qag Qa p0.suspended)), (Fld.cells (Q17t p0.template))]] []) (Qbh ([(Q2l Qn p0.completions), (Q2l Qr p0.parallelism), (Q2l Q1m p0.retries), (Q2l Q1f p0.deadline), (Qag Q1t p0.indexed), (Qag Qa p0.suspended), (Q17t p0.template)]) (Q13j p0 H).2.1) (by simp only [Qae, Fld.Q12, Fld.Q1n]))] (by kernel_rfl)
def Quv (p0 : Job) : Object := Job.obj p0
theorem Q1z8 (p0 : Job) : Quv p0 = ((Q17s Q1x p0.meta_ (Qea p0) (Q57 ([(Q2l Q16 p0.active), (Q2l Qp p0.succeeded), (Q2l Q1c p0.failed), (Q2l Q1d p0.started), (Q2l Q1b p0.finished), (Q8w Q31 (Q4l p0.done)), (Q2l Q2i p0.result)])))) := by
  exact Eq.symm (Q1qo (by exact Nat.le_of_ble_eq_true rfl) (by kernel_rfl))
def Q1xl (p0 : Job) : En := .call 24 [.agg (Job.cells p0)] []
def Q1pg (p0 : Job) : Rs := .ret (.agg (Object.cells (Quv p0))) []
def Q1dm (p0 : Job) : Prop := Qs2 p0.meta_ ∧ Job.sm p0
theorem Qh8 (p0 : Job) (H : Q1dm p0) : (Qd3 p0.done) ∧ (Q90 ([(Q2l Q16 p0.active), (Q2l Qp p0.succeeded), (Q2l Q1c p0.failed), (Q2l Q1d p0.started), (Q2l Q1b p0.finished), (Q8w Q31 (Q4l p0.done)), (Q2l Q2i p0.result)])) ∧ (Q1dr p0) ∧ (Q1im Q1x p0.meta_ (Qea p0) (Q57 ([(Q2l Q16 p0.active), (Q2l Qp p0.succeeded), (Q2l Q1c p0.failed), (Q2l Q1d p0.started), (Q2l Q1b p0.finished), (Q8w Q31 (Q4l p0.done)), (Q2l Q2i p0.result)]))) ∧ True := by
  exact ⟨(by first | exact True.intro | exact H.1 | exact ⟨H.1, trivial⟩ | exact H.2 | exact H.2.1 | exact H.2.2.1 | exact ⟨H.2.1, trivial⟩), Qam (by exact Nat.le_of_ble_eq_true rfl) (List.forall_mem_cons.2 ⟨Val.Sm.leaf _ _ _, List.forall_mem_cons.2 ⟨Val.Sm.leaf _ _ _, List.forall_mem_cons.2 ⟨Val.Sm.leaf _ _ _, List.forall_mem_cons.2 ⟨Val.Sm.leaf _ _ _, List.forall_mem_cons.2 ⟨Val.Sm.leaf _ _ _, List.forall_mem_cons.2 ⟨Q3d (fun _ h => Val.Sm.leaf _ _ _) H.2.2.1, List.forall_mem_cons.2 ⟨Val.Sm.leaf _ _ _, List.forall_mem_nil _⟩⟩⟩⟩⟩⟩⟩), (by first | exact True.intro | exact H.1 | exact ⟨H.1, trivial⟩ | exact H.2 | exact H.2.1 | exact H.2.2.1 | exact ⟨H.2.1, trivial⟩), (by first | exact True.intro | exact H.1 | exact ⟨H.1, trivial⟩ | exact H.2 | exact H.2.1 | exact H.2.2.1 | exact ⟨H.2.1, trivial⟩), trivial⟩
theorem Q1rm (p0 : Job) (H : Q1dm p0) : Q5 G (Q1xl p0) (Q1pg p0) := by
 unfold Q1pg
 rw [Q1z8]
 exact Q6 (fn := Ir.K5c) rfl VOK.nil [] [aN (Qcu Q16 p0.active), aN (Qcu Qp p0.succeeded), aN (Qcu Q1c p0.failed), aN (Qcu Q1d p0.started), aN (Qcu Q1b p0.finished), aN (Q185 p0.done (Qh8 p0 H).1), aN (Q186 Q31 (Q4l p0.done)), aN (Qcu Q2i p0.result), aN (Q59 (e' := .call 78 [.sl [(Fld.cells (Q2l Q16 p0.active)), (Fld.cells (Q2l Qp p0.succeeded)), (Fld.cells (Q2l Q1c p0.failed)), (Fld.cells (Q2l Q1d p0.started)), (Fld.cells (Q2l Q1b p0.finished)), (Fld.cells (Q8w Q31 (Q4l p0.done))), (Fld.cells (Q2l Q2i p0.result))]] []) (Qbh ([(Q2l Q16 p0.active), (Q2l Qp p0.succeeded), (Q2l Q1c p0.failed), (Q2l Q1d p0.started), (Q2l Q1b p0.finished), (Q8w Q31 (Q4l p0.done)), (Q2l Q2i p0.result)]) (Qh8 p0 H).2.1) (by simp only [Qae, Fld.Q12, Fld.Q1n])), aN (Q1ro p0 (Qh8 p0 H).2.2.1), aN (Q1rp Q1x p0.meta_ (Qea p0) (Q57 ([(Q2l Q16 p0.active), (Q2l Qp p0.succeeded), (Q2l Q1c p0.failed), (Q2l Q1d p0.started), (Q2l Q1b p0.finished), (Q8w Q31 (Q4l p0.done)), (Q2l Q2i p0.result)])) (Qh8 p0 H).2.2.2.1)] (by kernel_rfl)
def Quu (p0 : CronJob) : Object := CronJob.obj p0
theorem Q1z7 (p0 : CronJob) : Quu p0 = ((Q17s Qq p0.meta_ (Q57 ([(Qzw Qf p0.schedule), (Q2l Qy p0.policy), (Q2l Qb p0.startWithin), (Q2l Qs p0.keepDone), (Qag Qa p0.suspended), (Q8w Q2x (Qea p0.job))])) (Q57 ([(Q2l Q35 p0.last)])))) := by
  exact Eq.symm (Q1qn (by exact Nat.le_of_ble_eq_true rfl) (by exact Nat.le_of_ble_eq_true rfl) (by kernel_rfl) (by kernel_rfl))
def Q1xk (p0 : CronJob) : En := .call 54 [.agg (CronJob.cells p0)] []
def Q1pf (p0 : CronJob) : Rs := .ret (.agg (Object.cells (Quu p0))) []
def Q1dl (p0 : CronJob) : Prop := Qs2 p0.meta_ ∧ CronJob.sm p0
theorem Qh7 (p0 : CronJob) (H : Q1dl p0) : (Q1dr p0.job) ∧ (Q90 ([(Qzw Qf p0.schedule), (Q2l Qy p0.policy), (Q2l Qb p0.startWithin), (Q2l Qs p0.keepDone), (Qag Qa p0.suspended), (Q8w Q2x (Qea p0.job))])) ∧ (Q90 ([(Q2l Q35 p0.last)])) ∧ (Q1im Qq p0.meta_ (Q57 ([(Qzw Qf p0.schedule), (Q2l Qy p0.policy), (Q2l Qb p0.startWithin), (Q2l Qs p0.keepDone), (Qag Qa p0.suspended), (Q8w Q2x (Qea p0.job))])) (Q57 ([(Q2l Q35 p0.last)]))) ∧ True := by
  exact ⟨(by first | exact True.intro | exact H.1 | exact ⟨H.1, trivial⟩ | exact H.2 | exact H.2.1), Qam (by exact Nat.le_of_ble_eq_true rfl) (List.forall_mem_cons.2 ⟨Val.Sm.leaf _ _ _, List.forall_mem_cons.2 ⟨Val.Sm.leaf _ _ _, List.forall_mem_cons.2 ⟨Val.Sm.leaf _ _ _, List.forall_mem_cons.2 ⟨Val.Sm.leaf _ _ _, List.forall_mem_cons.2 ⟨Val.Sm.leaf _ _ _, List.forall_mem_cons.2 ⟨JobS.Q2m H.2.1, List.forall_mem_nil _⟩⟩⟩⟩⟩⟩), Qam (by exact Nat.le_of_ble_eq_true rfl) (List.forall_mem_cons.2 ⟨Val.Sm.leaf _ _ _, List.forall_mem_nil _⟩), (by first | exact True.intro | exact H.1 | exact ⟨H.1, trivial⟩ | exact H.2 | exact H.2.1), trivial⟩
theorem Q1rl (p0 : CronJob) (H : Q1dl p0) : Q5 G (Q1xk p0) (Q1pf p0) := by
 unfold Q1pf
 rw [Q1z7]
 exact Q6 (fn := Ir.K59) rfl VOK.nil [] [aN (Q225 Qf p0.schedule), aN (Qcu Qy p0.policy), aN (Qcu Qb p0.startWithin), aN (Qcu Qs p0.keepDone), aN (Q1k0 Qa p0.suspended), aN (Q1ro p0.job (Qh7 p0 H).1), aN (Q186 Q2x (Qea p0.job)), aN (Q59 (e' := .call 78 [.sl [(Fld.cells (Qzw Qf p0.schedule)), (Fld.cells (Q2l Qy p0.policy)), (Fld.cells (Q2l Qb p0.startWithin)), (Fld.cells (Q2l Qs p0.keepDone)), (Fld.cells (Qag Qa p0.suspended)), (Fld.cells (Q8w Q2x (Qea p0.job)))]] []) (Qbh ([(Qzw Qf p0.schedule), (Q2l Qy p0.policy), (Q2l Qb p0.startWithin), (Q2l Qs p0.keepDone), (Qag Qa p0.suspended), (Q8w Q2x (Qea p0.job))]) (Qh7 p0 H).2.1) (by simp only [Qae, Fld.Q12, Fld.Q1n])), aN (Qcu Q35 p0.last), aN (Q59 (e' := .call 78 [.sl [(Fld.cells (Q2l Q35 p0.last))]] []) (Qbh ([(Q2l Q35 p0.last)]) (Qh7 p0 H).2.2.1) (by simp only [Qae, Fld.Q12, Fld.Q1n])), aN (Q1rp Qq p0.meta_ (Q57 ([(Qzw Qf p0.schedule), (Q2l Qy p0.policy), (Q2l Qb p0.startWithin), (Q2l Qs p0.keepDone), (Qag Qa p0.suspended), (Q8w Q2x (Qea p0.job))])) (Q57 ([(Q2l Q35 p0.last)])) (Qh7 p0 H).2.2.2.1)] (by kernel_rfl)
end Go.Proofs.YtimjjohlpnkacaaGreat
end

