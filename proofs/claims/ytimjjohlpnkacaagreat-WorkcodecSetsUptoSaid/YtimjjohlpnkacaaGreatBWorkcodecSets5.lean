/- Texts of the claim, merged by a program; what the statement does not reach is left out. -/
import Derived.Test.YtimjjohlpnkacaaGreatBWorkcodecSets4

section
/- What the encoders of templates compute (printed by a program). -/
namespace Go.Proofs.YtimjjohlpnkacaaGreat
open Go.Pv
def Q2h (p0 : BA) : Val :=
 (Val.mk 3 0 p0 [] [])
def Q1xk (p0 : BA) : En := .call 193 [.str p0] []
def Q1ou (p0 : BA) : Rs := .ret (.agg (Val.cells (Q2h p0))) []
theorem Qe0 (p0 : BA) : Q7 G (Q1xk p0) (Q1ou p0) := by
 unfold Q1ou Q2h
 exact Q8 (fn := Ir.K52) rfl VOK.nil [] [] (by kernel_rfl)
def Qw (p0 : BA) (p1 : Val) : Fld :=
 (Fld.mk p0 p1)
def Q1wh (p0 : BA) (p1 : Val) : En := .call 226 [.str p0, .agg (Val.cells p1)] []
def Q1np (p0 : BA) (p1 : Val) : Rs := .ret (.agg (Fld.cells (Qw p0 p1))) []
theorem Q3g (p0 : BA) (p1 : Val) : Q7 G (Q1wh p0 p1) (Q1np p0 p1) := by
 unfold Q1np Qw
 exact Q8 (fn := Ir.K1b) rfl VOK.nil [] [] (by kernel_rfl)
def Qbe (p0 : Label) : Val := Label.enc p0
theorem Q1ym (p0 : Label) : Qbe p0 = ((Q50 ([(Qw Qz (Q2h p0.key)), (Qw Q13 (Q2h p0.value))]))) := by
  exact Eq.symm (Q5i (by exact Nat.le_of_ble_eq_true rfl) (by kernel_rfl))
def Q1w8 (p0 : Label) : En := .call 228 [.agg (Label.cells p0)] []
def Q1ng (p0 : Label) : Rs := .ret (.agg (Val.cells (Qbe p0))) []
def Q1hc (p0 : Label) : Prop := Label.sm p0
theorem Q1dw (p0 : Label) (H : Q1hc p0) : (Q8e ([(Qw Qz (Q2h p0.key)), (Qw Q13 (Q2h p0.value))])) ∧ True := by
  repeat' with_reducible apply And.intro
  all_goals first | exact True.intro | exact H | exact H.1 | exact H.2.1 | exact H.2.2.1 | exact H.2.2.2.1 | exact H.2.2.2.2.1 | exact H.2.2.2.2.2.1 | exact H.2.2.2.2.2.2.1 | exact H.2.2.2.2.2.2.2.1 | exact H.2.2.2.2.2.2.2.2.1 | exact H.2.2.2.2.2.2.2.2.2.1 | exact H.2.2.2.2.2.2.2.2.2.2.1 | exact H.2.2.2.2.2.2.2.2.2.2.2.1 | exact Q96 (by exact Nat.le_of_ble_eq_true rfl) (Label.Q24 H).all.2.2.2
theorem Q214 (p0 : Label) (H : Q1hc p0) : Q7 G (Q1w8 p0) (Q1ng p0) := by
 unfold Q1ng
 rw [Q1ym]
 exact Q8 (fn := Ir.K12) rfl VOK.nil [] [aN (Qe0 p0.key), aN (Q3g Qz (Q2h p0.key)), aN (Qe0 p0.value), aN (Q3g Q13 (Q2h p0.value)), aN (Q4j (e' := .call 78 [.sl [(Fld.cells (Qw Qz (Q2h p0.key))), (Fld.cells (Qw Q13 (Q2h p0.value)))]] []) (Q9v ([(Qw Qz (Q2h p0.key)), (Qw Q13 (Q2h p0.value))]) (Q1dw p0 H).1) (by simp only [Q90, Fld.Qy, Fld.Q1b]))] (by kernel_rfl)
def Q43 (p0 : List Label) : List Label → Nat → (List Val) → List Val
 | [], _i0, v0_1 =>
  v0_1
 | x0 :: r0, i0, v0_1 =>
  Q43 p0 r0 (i0 + 1) (v0_1 ++ [(Qbe x0)])
theorem Qu1 (p0 : List Label) : ∀ (l : List Label) (i : Nat) (a : List Val), Q43 p0 l i a = a ++ l.map (fun x0 => (Qbe x0))
  | [], _, _ => by simp [Q43]
  | x :: r, i, a => by rw [Q43, Qu1 p0 r]; simp
def Qv2 (p0 : List Label) (i0 : Nat) (v0_1 : List Val) : List PV :=
  [.un, .fn 228 [] [], .un, .un, .bx 0 0, .ms 1 5 0 (List.length v0_1), .un, .un, .sl (Label.rows p0), .int .i64 ((List.length p0) : Int), .int .i64 (i0 : Int)] ++ nuns 12
def Qho (_p0 : List Label) (_i0 : Nat) (v0_1 : List Val) : List Ob :=
  [⟨5, 0, true, [.int .i64 0, .int .i64 0, .str eB, .ms 2 5 0 0, .ms 3 6 0 0]⟩, ⟨5, 0, true, (Val.rows v0_1).flatten⟩, ⟨5, 0, true, []⟩, ⟨6, 0, true, []⟩]
def Qet (p0 : List Label) (i0 : Nat) (v0_1 : List Val) : En := .loop 0 Ir.Qis Ir.Q1fr (Qv2 p0 i0 v0_1) (Qho p0 i0 v0_1)
def Qno (_p0 : List Label) (q0 : List Val) (z : Nat → PV) (_zo : Nat → List PV) : St :=
  ⟨[z 0, z 1, z 2, z 3, .bx 0 0, .ms 1 5 0 (List.length q0)] ++ zr z 6 17, [(0, ⟨5, 0, true, [.int .i64 0, .int .i64 0, .str eB, .ms 2 5 0 0, .ms 3 6 0 0]⟩), (1, ⟨5, 0, true, (Val.rows q0).flatten⟩), (2, ⟨5, 0, true, []⟩), (3, ⟨6, 0, true, []⟩)], 68⟩
theorem Q11s (p0 : List Label) (i0 : Nat) (v0_1 : List Val) : VOK (Go.Pv.look (number 0 (Qho p0 i0 v0_1))) [(1, Val.rows v0_1)] := (VOK.cons (show Seen _ _ from Q3k (ob := ⟨5, 0, true, (Val.rows v0_1).flatten⟩) (Val.Qb v0_1 5 rfl)) VOK.nil)
def Qgj (p0 : List Label) (e : En) (q : List Val) : Prop := ∃ z zo, Q7 G e (.st (.exit 0) (Qno p0 q z zo))
theorem Qs5 (p0 : List Label) {e e' : En} (h : ∀ r, Q7 G e r → Q7 G e' r) : ∀ q, Qgj p0 e q → Qgj p0 e' q
  | _, ⟨z, zo, hz⟩ => ⟨z, zo, h _ hz⟩
def Qfq (p0 : List Label) : Prop := (List.length p0 ≤ 137438953472) ∧ (∀ x0 ∈ p0, Q1hc x0) ∧ True
def Qp2 (p0 : List Label) (i0 : Nat) (_v0_1 : List Val) : List PV :=
  [.un, .fn 228 [] []] ++ nuns 6 ++ [.sl (Label.rows p0), .int .i64 ((List.length p0) : Int), .int .i64 (i0 : Int), .bool false]
def Qk8 (_p0 : List Label) (_i0 : Nat) (_v0_1 : List Val) : List (Nat × List PV) :=
  []
theorem Q17x (p0 : List Label) (_H : Qfq p0) (i0 : Nat) (v0_1 : List Val) (_ho0_0 : List.length v0_1 ≤ i0) (hc0 : (decide ((i0 : Int) < ((List.length p0) : Int))) = false) : Qgj p0 (Qet p0 i0 v0_1) v0_1 := by
 exact ⟨(envF (Qp2 p0 i0 v0_1)), (zoF (Qk8 p0 i0 v0_1)), Qm (Q11s p0 i0 v0_1) (x := ((.exit 0), Qno p0 v0_1 (envF (Qp2 p0 i0 v0_1)) (zoF (Qk8 p0 i0 v0_1)))) [hB 0 hc0] [] (by kernel_rfl)⟩
theorem Q15w (p0 : List Label) (H : Qfq p0) (x0 : Label) (i0 : Nat) (v0_1 : List Val) (hx0 : p0[i0]? = some x0) (hi0 : i0 < List.length p0) (ho0_0 : List.length v0_1 ≤ i0) (hc0 : (decide ((i0 : Int) < ((List.length p0) : Int))) = true) {r : Rs} (hr : Q7 G (Qet p0 (i0 + 1) (v0_1 ++ [(Qbe x0)])) r) : Q7 G (Qet p0 i0 v0_1) r := by
 have hB0 := H.1
 exact Ql (Q11s p0 i0 v0_1) (y := (Qv2 p0 (i0 + 1) (v0_1 ++ [(Qbe x0)]), Qho p0 (i0 + 1) (v0_1 ++ [(Qbe x0)]))) [hB 0 hc0, hP 0 (Q2s 2 (Label.rows p0) i0 _ (Label.Qo hx0) rfl), hV 8 [(644, Val.rows (v0_1 ++ [(Qbe x0)]))] (Q42 1 580 644 5 80 0 0 true (Val.rows v0_1) (Val.rows (v0_1 ++ [(Qbe x0)])) (Val.cells (Qbe x0)) (List.length v0_1) (List.length (v0_1 ++ [(Qbe x0)])) rfl (Val.Q9 v0_1).symm (Val.Q9 (v0_1 ++ [(Qbe x0)])).symm (Val.Q1t v0_1 (Qbe x0)) (Val.Qu v0_1) rfl (by omega)), hS 0 true (Val.Qb (v0_1 ++ [(Qbe x0)]) 5 rfl), hP 1 (Q2g i0 (by omega))] [aN (Q214 x0 (H.2.1 x0 (Q2l hx0)))] (by kernel_rfl) hr
theorem Qxz (p0 : List Label) (H : Qfq p0) : ∀ (r0 : List Label) (i0 : Nat) (v0_1 : List Val), List.drop i0 p0 = r0 → List.length v0_1 ≤ i0 → Qgj p0 (Qet p0 i0 v0_1) (Q43 p0 r0 i0 v0_1)
 | [], i0, v0_1, hd, ho0_0 => by
  have hc0 : (decide ((i0 : Int) < ((List.length p0) : Int))) = false := by have := Q1m hd; simp; omega
  rw [Q43]
  exact Q17x p0 H i0 v0_1 ho0_0 hc0
 | x0 :: r0, i0, v0_1, hd, ho0_0 => by
  obtain ⟨hx0, hi0, hd'⟩ := Q1k hd
  have hc0 : (decide ((i0 : Int) < ((List.length p0) : Int))) = true := by simp; omega
  rw [Q43]
  exact Qs5 p0 (fun r hr => Q15w p0 H x0 i0 v0_1 hx0 hi0 ho0_0 hc0 hr) _ (Qxz p0 H r0 (i0 + 1) (v0_1 ++ [(Qbe x0)]) hd' (by first | omega | (simp; omega)))
def Q5p (p0 : List Label) : Val := vL (p0.map Label.enc)
theorem Q159 (p0 : List Label) : Q5p p0 = ((Qmm (Q43 p0 p0 0 []))) := by
  rw [Qu1]
  rfl
def Q14s (p0 : List Label) : En := .call 227 [.sl (Label.rows p0), .fn 228 [] []] []
def Qqd (p0 : List Label) : Rs := .ret (.agg (Val.cells (Q5p p0))) []
def Qd5 (p0 : List Label) : Prop := LSm Label.sm p0
theorem Qci (p0 : List Label) (H : Qd5 p0) : (Qfq p0) ∧ (Qn1 (Q43 p0 p0 0 [])) ∧ True := by
  refine ⟨⟨Nat.le_trans H.1 (Nat.le_of_ble_eq_true rfl), H.2, trivial⟩, ⟨?_, trivial⟩, trivial⟩
  rw [Qu1]
  exact Q2x (fun _ h => Label.Q24 h) H
theorem Q17e (p0 : List Label) (H : Qd5 p0) : Q7 G (Q14s p0) (Qqd p0) := by
 unfold Qqd
 rw [Q159]
 have hl0 := Qxz p0 ((Qci p0 H).1) p0 0 [] (by simp) (by simp)
 obtain ⟨z0, zo0, hl0⟩ := hl0
 exact Q8 (fn := Ir.K1c) rfl VOK.nil [hP 3 (Q11 (Label.rows p0) (List.length p0) (Label.Q9 p0)), hS 0 true (Val.Qb (Q43 p0 p0 0 []) 5 rfl), hQ (Val.Q9 (Q43 p0 p0 0 [])).symm] [aV [(1, Val.rows (Q43 p0 p0 0 []))] hl0, aN (Qus (Q43 p0 p0 0 []) (Qci p0 H).2.1)] (by kernel_rfl)
def Q2c (p0 : Int) : Val :=
 (Val.mk 2 p0 eB [] [])
def Q1xh (p0 : Int) : En := .call 109 [.int .i64 p0] []
def Q1oq (p0 : Int) : Rs := .ret (.agg (Val.cells (Q2c p0))) []
theorem Q9u (p0 : Int) : Q7 G (Q1xh p0) (Q1oq p0) := by
 unfold Q1oq Q2c
 exact Q8 (fn := Ir.K4y) rfl VOK.nil [] [] (by kernel_rfl)
def Qen (p0 : Resources) : Val := Resources.enc p0
theorem Q1yr (p0 : Resources) : Qen p0 = ((Q50 ([(Qw Q4y (Q2c p0.cPU)), (Qw Q4i (Q2c p0.disk)), (Qw Q32 (Q2c p0.memory))]))) := by
  exact Eq.symm (Q5i (by exact Nat.le_of_ble_eq_true rfl) (by kernel_rfl))
def Q1wd (p0 : Resources) : En := .call 282 [.agg (Resources.cells p0)] []
def Q1nl (p0 : Resources) : Rs := .ret (.agg (Val.cells (Qen p0))) []
def Q1d8 (p0 : Resources) : Prop := Resources.sm p0
theorem Q1dy (p0 : Resources) (H : Q1d8 p0) : (Q8e ([(Qw Q4y (Q2c p0.cPU)), (Qw Q4i (Q2c p0.disk)), (Qw Q32 (Q2c p0.memory))])) ∧ True := by
  repeat' with_reducible apply And.intro
  all_goals first | exact True.intro | exact H | exact H.1 | exact H.2.1 | exact H.2.2.1 | exact H.2.2.2.1 | exact H.2.2.2.2.1 | exact H.2.2.2.2.2.1 | exact H.2.2.2.2.2.2.1 | exact H.2.2.2.2.2.2.2.1 | exact H.2.2.2.2.2.2.2.2.1 | exact H.2.2.2.2.2.2.2.2.2.1 | exact H.2.2.2.2.2.2.2.2.2.2.1 | exact H.2.2.2.2.2.2.2.2.2.2.2.1 | exact Q96 (by exact Nat.le_of_ble_eq_true rfl) (Resources.Q24 H).all.2.2.2
theorem Q1r6 (p0 : Resources) (H : Q1d8 p0) : Q7 G (Q1wd p0) (Q1nl p0) := by
 unfold Q1nl
 rw [Q1yr]
 exact Q8 (fn := Ir.K17) rfl VOK.nil [] [aN (Q9u p0.cPU), aN (Q3g Q4y (Q2c p0.cPU)), aN (Q9u p0.disk), aN (Q3g Q4i (Q2c p0.disk)), aN (Q9u p0.memory), aN (Q3g Q32 (Q2c p0.memory)), aN (Q4j (e' := .call 78 [.sl [(Fld.cells (Qw Q4y (Q2c p0.cPU))), (Fld.cells (Qw Q4i (Q2c p0.disk))), (Fld.cells (Qw Q32 (Q2c p0.memory)))]] []) (Q9v ([(Qw Q4y (Q2c p0.cPU)), (Qw Q4i (Q2c p0.disk)), (Qw Q32 (Q2c p0.memory))]) (Q1dy p0 H).1) (by simp only [Q90, Fld.Qy, Fld.Q1b]))] (by kernel_rfl)
def Qbh (p0 : Probe) : Val := Probe.enc p0
theorem Q1yp (p0 : Probe) : Qbh p0 = ((Q50 ([(Qw Q29 (Q2c p0.delay)), (Qw Q1y (Q2c p0.failure)), (Qw Q23 (Q2c p0.period)), (Qw Q1s (Q2c p0.success))]))) := by
  exact Eq.symm (Q5i (by exact Nat.le_of_ble_eq_true rfl) (by kernel_rfl))
def Q1wb (p0 : Probe) : En := .call 284 [.agg (Probe.cells p0)] []
def Q1nj (p0 : Probe) : Rs := .ret (.agg (Val.cells (Qbh p0))) []
def Q1hf (p0 : Probe) : Prop := Probe.sm p0
theorem Q1dx (p0 : Probe) (H : Q1hf p0) : (Q8e ([(Qw Q29 (Q2c p0.delay)), (Qw Q1y (Q2c p0.failure)), (Qw Q23 (Q2c p0.period)), (Qw Q1s (Q2c p0.success))])) ∧ True := by
  repeat' with_reducible apply And.intro
  all_goals first | exact True.intro | exact H | exact H.1 | exact H.2.1 | exact H.2.2.1 | exact H.2.2.2.1 | exact H.2.2.2.2.1 | exact H.2.2.2.2.2.1 | exact H.2.2.2.2.2.2.1 | exact H.2.2.2.2.2.2.2.1 | exact H.2.2.2.2.2.2.2.2.1 | exact H.2.2.2.2.2.2.2.2.2.1 | exact H.2.2.2.2.2.2.2.2.2.2.1 | exact H.2.2.2.2.2.2.2.2.2.2.2.1 | exact Q96 (by exact Nat.le_of_ble_eq_true rfl) (Probe.Q24 H).all.2.2.2
theorem Q217 (p0 : Probe) (H : Q1hf p0) : Q7 G (Q1wb p0) (Q1nj p0) := by
 unfold Q1nj
 rw [Q1yp]
 exact Q8 (fn := Ir.K15) rfl VOK.nil [] [aN (Q9u p0.delay), aN (Q3g Q29 (Q2c p0.delay)), aN (Q9u p0.failure), aN (Q3g Q1y (Q2c p0.failure)), aN (Q9u p0.period), aN (Q3g Q23 (Q2c p0.period)), aN (Q9u p0.success), aN (Q3g Q1s (Q2c p0.success)), aN (Q4j (e' := .call 78 [.sl [(Fld.cells (Qw Q29 (Q2c p0.delay))), (Fld.cells (Qw Q1y (Q2c p0.failure))), (Fld.cells (Qw Q23 (Q2c p0.period))), (Fld.cells (Qw Q1s (Q2c p0.success)))]] []) (Q9v ([(Qw Q29 (Q2c p0.delay)), (Qw Q1y (Q2c p0.failure)), (Qw Q23 (Q2c p0.period)), (Qw Q1s (Q2c p0.success))]) (Q1dx p0 H).1) (by simp only [Q90, Fld.Qy, Fld.Q1b]))] (by kernel_rfl)
def Q4a (p0 : List Probe) : List Probe → Nat → (List Val) → List Val
 | [], _i0, v0_1 =>
  v0_1
 | x0 :: r0, i0, v0_1 =>
  Q4a p0 r0 (i0 + 1) (v0_1 ++ [(Qbh x0)])
theorem Qu8 (p0 : List Probe) : ∀ (l : List Probe) (i : Nat) (a : List Val), Q4a p0 l i a = a ++ l.map (fun x0 => (Qbh x0))
  | [], _, _ => by simp [Q4a]
  | x :: r, i, a => by rw [Q4a, Qu8 p0 r]; simp
def Qv9 (p0 : List Probe) (i0 : Nat) (v0_1 : List Val) : List PV :=
  [.un, .fn 284 [] [], .un, .un, .bx 0 0, .ms 1 5 0 (List.length v0_1), .un, .un, .sl (Probe.rows p0), .int .i64 ((List.length p0) : Int), .int .i64 (i0 : Int)] ++ nuns 12
def Qhv (_p0 : List Probe) (_i0 : Nat) (v0_1 : List Val) : List Ob :=
  [⟨5, 0, true, [.int .i64 0, .int .i64 0, .str eB, .ms 2 5 0 0, .ms 3 6 0 0]⟩, ⟨5, 0, true, (Val.rows v0_1).flatten⟩, ⟨5, 0, true, []⟩, ⟨6, 0, true, []⟩]
def Qf0 (p0 : List Probe) (i0 : Nat) (v0_1 : List Val) : En := .loop 0 Ir.Qiz Ir.Q1fy (Qv9 p0 i0 v0_1) (Qhv p0 i0 v0_1)
def Qnv (_p0 : List Probe) (q0 : List Val) (z : Nat → PV) (_zo : Nat → List PV) : St :=
  ⟨[z 0, z 1, z 2, z 3, .bx 0 0, .ms 1 5 0 (List.length q0)] ++ zr z 6 17, [(0, ⟨5, 0, true, [.int .i64 0, .int .i64 0, .str eB, .ms 2 5 0 0, .ms 3 6 0 0]⟩), (1, ⟨5, 0, true, (Val.rows q0).flatten⟩), (2, ⟨5, 0, true, []⟩), (3, ⟨6, 0, true, []⟩)], 68⟩
theorem Q11z (p0 : List Probe) (i0 : Nat) (v0_1 : List Val) : VOK (Go.Pv.look (number 0 (Qhv p0 i0 v0_1))) [(1, Val.rows v0_1)] := (VOK.cons (show Seen _ _ from Q3k (ob := ⟨5, 0, true, (Val.rows v0_1).flatten⟩) (Val.Qb v0_1 5 rfl)) VOK.nil)
def Qgq (p0 : List Probe) (e : En) (q : List Val) : Prop := ∃ z zo, Q7 G e (.st (.exit 0) (Qnv p0 q z zo))
theorem Qsc (p0 : List Probe) {e e' : En} (h : ∀ r, Q7 G e r → Q7 G e' r) : ∀ q, Qgq p0 e q → Qgq p0 e' q
  | _, ⟨z, zo, hz⟩ => ⟨z, zo, h _ hz⟩
def Qfx (p0 : List Probe) : Prop := (List.length p0 ≤ 137438953472) ∧ (∀ x0 ∈ p0, Q1hf x0) ∧ True
def Qp9 (p0 : List Probe) (i0 : Nat) (_v0_1 : List Val) : List PV :=
  [.un, .fn 284 [] []] ++ nuns 6 ++ [.sl (Probe.rows p0), .int .i64 ((List.length p0) : Int), .int .i64 (i0 : Int), .bool false]
def Qkf (_p0 : List Probe) (_i0 : Nat) (_v0_1 : List Val) : List (Nat × List PV) :=
  []
theorem Q184 (p0 : List Probe) (_H : Qfx p0) (i0 : Nat) (v0_1 : List Val) (_ho0_0 : List.length v0_1 ≤ i0) (hc0 : (decide ((i0 : Int) < ((List.length p0) : Int))) = false) : Qgq p0 (Qf0 p0 i0 v0_1) v0_1 := by
 exact ⟨(envF (Qp9 p0 i0 v0_1)), (zoF (Qkf p0 i0 v0_1)), Qm (Q11z p0 i0 v0_1) (x := ((.exit 0), Qnv p0 v0_1 (envF (Qp9 p0 i0 v0_1)) (zoF (Qkf p0 i0 v0_1)))) [hB 0 hc0] [] (by kernel_rfl)⟩
theorem Q163 (p0 : List Probe) (H : Qfx p0) (x0 : Probe) (i0 : Nat) (v0_1 : List Val) (hx0 : p0[i0]? = some x0) (hi0 : i0 < List.length p0) (ho0_0 : List.length v0_1 ≤ i0) (hc0 : (decide ((i0 : Int) < ((List.length p0) : Int))) = true) {r : Rs} (hr : Q7 G (Qf0 p0 (i0 + 1) (v0_1 ++ [(Qbh x0)])) r) : Q7 G (Qf0 p0 i0 v0_1) r := by
 have hB0 := H.1
 exact Ql (Q11z p0 i0 v0_1) (y := (Qv9 p0 (i0 + 1) (v0_1 ++ [(Qbh x0)]), Qhv p0 (i0 + 1) (v0_1 ++ [(Qbh x0)]))) [hB 0 hc0, hP 0 (Q2s 4 (Probe.rows p0) i0 _ (Probe.Qo hx0) rfl), hV 8 [(644, Val.rows (v0_1 ++ [(Qbh x0)]))] (Q42 1 580 644 5 80 0 0 true (Val.rows v0_1) (Val.rows (v0_1 ++ [(Qbh x0)])) (Val.cells (Qbh x0)) (List.length v0_1) (List.length (v0_1 ++ [(Qbh x0)])) rfl (Val.Q9 v0_1).symm (Val.Q9 (v0_1 ++ [(Qbh x0)])).symm (Val.Q1t v0_1 (Qbh x0)) (Val.Qu v0_1) rfl (by omega)), hS 0 true (Val.Qb (v0_1 ++ [(Qbh x0)]) 5 rfl), hP 1 (Q2g i0 (by omega))] [aN (Q217 x0 (H.2.1 x0 (Q2l hx0)))] (by kernel_rfl) hr
theorem Qy6 (p0 : List Probe) (H : Qfx p0) : ∀ (r0 : List Probe) (i0 : Nat) (v0_1 : List Val), List.drop i0 p0 = r0 → List.length v0_1 ≤ i0 → Qgq p0 (Qf0 p0 i0 v0_1) (Q4a p0 r0 i0 v0_1)
 | [], i0, v0_1, hd, ho0_0 => by
  have hc0 : (decide ((i0 : Int) < ((List.length p0) : Int))) = false := by have := Q1m hd; simp; omega
  rw [Q4a]
  exact Q184 p0 H i0 v0_1 ho0_0 hc0
 | x0 :: r0, i0, v0_1, hd, ho0_0 => by
  obtain ⟨hx0, hi0, hd'⟩ := Q1k hd
  have hc0 : (decide ((i0 : Int) < ((List.length p0) : Int))) = true := by simp; omega
  rw [Q4a]
  exact Qsc p0 (fun r hr => Q163 p0 H x0 i0 v0_1 hx0 hi0 ho0_0 hc0 hr) _ (Qy6 p0 H r0 (i0 + 1) (v0_1 ++ [(Qbh x0)]) hd' (by first | omega | (simp; omega)))
def Q2v (p0 : List Probe) : Val := vL (p0.map Probe.enc)
theorem Q15g (p0 : List Probe) : Q2v p0 = ((Qmm (Q4a p0 p0 0 []))) := by
  rw [Qu8]
  rfl
def Q14z (p0 : List Probe) : En := .call 283 [.sl (Probe.rows p0), .fn 284 [] []] []
def Qqk (p0 : List Probe) : Rs := .ret (.agg (Val.cells (Q2v p0))) []
def Q7s (p0 : List Probe) : Prop := LSm Probe.sm p0
theorem Qcp (p0 : List Probe) (H : Q7s p0) : (Qfx p0) ∧ (Qn1 (Q4a p0 p0 0 [])) ∧ True := by
  refine ⟨⟨Nat.le_trans H.1 (Nat.le_of_ble_eq_true rfl), H.2, trivial⟩, ⟨?_, trivial⟩, trivial⟩
  rw [Qu8]
  exact Q2x (fun _ h => Probe.Q24 h) H
theorem Qdz (p0 : List Probe) (H : Q7s p0) : Q7 G (Q14z p0) (Qqk p0) := by
 unfold Qqk
 rw [Q15g]
 have hl0 := Qy6 p0 ((Qcp p0 H).1) p0 0 [] (by simp) (by simp)
 obtain ⟨z0, zo0, hl0⟩ := hl0
 exact Q8 (fn := Ir.K1j) rfl VOK.nil [hP 3 (Q11 (Probe.rows p0) (List.length p0) (Probe.Q9 p0)), hS 0 true (Val.Qb (Q4a p0 p0 0 []) 5 rfl), hQ (Val.Q9 (Q4a p0 p0 0 [])).symm] [aV [(1, Val.rows (Q4a p0 p0 0 []))] hl0, aN (Qus (Q4a p0 p0 0 []) (Qcp p0 H).2.1)] (by kernel_rfl)
def Qbd (p0 : Container) : Val := Container.enc p0
theorem Q1yl (p0 : Container) : Qbd p0 = ((Q50 ([(Qw Qx (Q2h p0.image)), (Qw Q1n (Qen p0.limit)), (Qw Q2u (Q2v p0.live)), (Qw Q12 (Q2h p0.name)), (Qw Q1c (Q2v p0.ready)), (Qw Qj (Qen p0.request)), (Qw Q20 (Q2v p0.startup))]))) := by
  exact Eq.symm (Q5i (by exact Nat.le_of_ble_eq_true rfl) (by kernel_rfl))
def Q1w7 (p0 : Container) : En := .call 258 [.agg (Container.cells p0)] []
def Q1nf (p0 : Container) : Rs := .ret (.agg (Val.cells (Qbd p0))) []
def Q1hb (p0 : Container) : Prop := Container.sm p0
theorem Qag (p0 : Container) (H : Q1hb p0) : (Q1d8 p0.limit) ∧ (Q7s p0.live) ∧ (Q7s p0.ready) ∧ (Q1d8 p0.request) ∧ (Q7s p0.startup) ∧ (Q8e ([(Qw Qx (Q2h p0.image)), (Qw Q1n (Qen p0.limit)), (Qw Q2u (Q2v p0.live)), (Qw Q12 (Q2h p0.name)), (Qw Q1c (Q2v p0.ready)), (Qw Qj (Qen p0.request)), (Qw Q20 (Q2v p0.startup))])) ∧ True := by
  repeat' with_reducible apply And.intro
  all_goals first | exact True.intro | exact H | exact H.1 | exact H.2.1 | exact H.2.2.1 | exact H.2.2.2.1 | exact H.2.2.2.2.1 | exact H.2.2.2.2.2.1 | exact H.2.2.2.2.2.2.1 | exact H.2.2.2.2.2.2.2.1 | exact H.2.2.2.2.2.2.2.2.1 | exact H.2.2.2.2.2.2.2.2.2.1 | exact H.2.2.2.2.2.2.2.2.2.2.1 | exact H.2.2.2.2.2.2.2.2.2.2.2.1 | exact Q96 (by exact Nat.le_of_ble_eq_true rfl) (Container.Q24 H).all.2.2.2
theorem Q213 (p0 : Container) (H : Q1hb p0) : Q7 G (Q1w7 p0) (Q1nf p0) := by
 unfold Q1nf
 rw [Q1yl]
 exact Q8 (fn := Ir.K11) rfl VOK.nil [] [aN (Qe0 p0.image), aN (Q3g Qx (Q2h p0.image)), aN (Q1r6 p0.limit (Qag p0 H).1), aN (Q3g Q1n (Qen p0.limit)), aN (Qdz p0.live (Qag p0 H).2.1), aN (Q3g Q2u (Q2v p0.live)), aN (Qe0 p0.name), aN (Q3g Q12 (Q2h p0.name)), aN (Qdz p0.ready (Qag p0 H).2.2.1), aN (Q3g Q1c (Q2v p0.ready)), aN (Q1r6 p0.request (Qag p0 H).2.2.2.1), aN (Q3g Qj (Qen p0.request)), aN (Qdz p0.startup (Qag p0 H).2.2.2.2.1), aN (Q3g Q20 (Q2v p0.startup)), aN (Q4j (e' := .call 78 [.sl [(Fld.cells (Qw Qx (Q2h p0.image))), (Fld.cells (Qw Q1n (Qen p0.limit))), (Fld.cells (Qw Q2u (Q2v p0.live))), (Fld.cells (Qw Q12 (Q2h p0.name))), (Fld.cells (Qw Q1c (Q2v p0.ready))), (Fld.cells (Qw Qj (Qen p0.request))), (Fld.cells (Qw Q20 (Q2v p0.startup)))]] []) (Q9v ([(Qw Qx (Q2h p0.image)), (Qw Q1n (Qen p0.limit)), (Qw Q2u (Q2v p0.live)), (Qw Q12 (Q2h p0.name)), (Qw Q1c (Q2v p0.ready)), (Qw Qj (Qen p0.request)), (Qw Q20 (Q2v p0.startup))]) (Qag p0 H).2.2.2.2.2.1) (by simp only [Q90, Fld.Qy, Fld.Q1b]))] (by kernel_rfl)
def Q44 (p0 : List Container) : List Container → Nat → (List Val) → List Val
 | [], _i0, v0_1 =>
  v0_1
 | x0 :: r0, i0, v0_1 =>
  Q44 p0 r0 (i0 + 1) (v0_1 ++ [(Qbd x0)])
theorem Qu2 (p0 : List Container) : ∀ (l : List Container) (i : Nat) (a : List Val), Q44 p0 l i a = a ++ l.map (fun x0 => (Qbd x0))
  | [], _, _ => by simp [Q44]
  | x :: r, i, a => by rw [Q44, Qu2 p0 r]; simp
def Qv3 (p0 : List Container) (i0 : Nat) (v0_1 : List Val) : List PV :=
  [.un, .fn 258 [] [], .un, .un, .bx 0 0, .ms 1 5 0 (List.length v0_1), .un, .un, .sl (Container.rows p0), .int .i64 ((List.length p0) : Int), .int .i64 (i0 : Int)] ++ nuns 12
def Qhp (_p0 : List Container) (_i0 : Nat) (v0_1 : List Val) : List Ob :=
  [⟨5, 0, true, [.int .i64 0, .int .i64 0, .str eB, .ms 2 5 0 0, .ms 3 6 0 0]⟩, ⟨5, 0, true, (Val.rows v0_1).flatten⟩, ⟨5, 0, true, []⟩, ⟨6, 0, true, []⟩]
def Qeu (p0 : List Container) (i0 : Nat) (v0_1 : List Val) : En := .loop 0 Ir.Qit Ir.Q1fs (Qv3 p0 i0 v0_1) (Qhp p0 i0 v0_1)
def Qnp (_p0 : List Container) (q0 : List Val) (z : Nat → PV) (_zo : Nat → List PV) : St :=
  ⟨[z 0, z 1, z 2, z 3, .bx 0 0, .ms 1 5 0 (List.length q0)] ++ zr z 6 17, [(0, ⟨5, 0, true, [.int .i64 0, .int .i64 0, .str eB, .ms 2 5 0 0, .ms 3 6 0 0]⟩), (1, ⟨5, 0, true, (Val.rows q0).flatten⟩), (2, ⟨5, 0, true, []⟩), (3, ⟨6, 0, true, []⟩)], 68⟩
theorem Q11t (p0 : List Container) (i0 : Nat) (v0_1 : List Val) : VOK (Go.Pv.look (number 0 (Qhp p0 i0 v0_1))) [(1, Val.rows v0_1)] := (VOK.cons (show Seen _ _ from Q3k (ob := ⟨5, 0, true, (Val.rows v0_1).flatten⟩) (Val.Qb v0_1 5 rfl)) VOK.nil)
def Qgk (p0 : List Container) (e : En) (q : List Val) : Prop := ∃ z zo, Q7 G e (.st (.exit 0) (Qnp p0 q z zo))
theorem Qs6 (p0 : List Container) {e e' : En} (h : ∀ r, Q7 G e r → Q7 G e' r) : ∀ q, Qgk p0 e q → Qgk p0 e' q
  | _, ⟨z, zo, hz⟩ => ⟨z, zo, h _ hz⟩
def Qfr (p0 : List Container) : Prop := (List.length p0 ≤ 137438953472) ∧ (∀ x0 ∈ p0, Q1hb x0) ∧ True
def Qp3 (p0 : List Container) (i0 : Nat) (_v0_1 : List Val) : List PV :=
  [.un, .fn 258 [] []] ++ nuns 6 ++ [.sl (Container.rows p0), .int .i64 ((List.length p0) : Int), .int .i64 (i0 : Int), .bool false]
def Qk9 (_p0 : List Container) (_i0 : Nat) (_v0_1 : List Val) : List (Nat × List PV) :=
  []
theorem Q17y (p0 : List Container) (_H : Qfr p0) (i0 : Nat) (v0_1 : List Val) (_ho0_0 : List.length v0_1 ≤ i0) (hc0 : (decide ((i0 : Int) < ((List.length p0) : Int))) = false) : Qgk p0 (Qeu p0 i0 v0_1) v0_1 := by
 exact ⟨(envF (Qp3 p0 i0 v0_1)), (zoF (Qk9 p0 i0 v0_1)), Qm (Q11t p0 i0 v0_1) (x := ((.exit 0), Qnp p0 v0_1 (envF (Qp3 p0 i0 v0_1)) (zoF (Qk9 p0 i0 v0_1)))) [hB 0 hc0] [] (by kernel_rfl)⟩
theorem Q15x (p0 : List Container) (H : Qfr p0) (x0 : Container) (i0 : Nat) (v0_1 : List Val) (hx0 : p0[i0]? = some x0) (hi0 : i0 < List.length p0) (ho0_0 : List.length v0_1 ≤ i0) (hc0 : (decide ((i0 : Int) < ((List.length p0) : Int))) = true) {r : Rs} (hr : Q7 G (Qeu p0 (i0 + 1) (v0_1 ++ [(Qbd x0)])) r) : Q7 G (Qeu p0 i0 v0_1) r := by
 have hB0 := H.1
 exact Ql (Q11t p0 i0 v0_1) (y := (Qv3 p0 (i0 + 1) (v0_1 ++ [(Qbd x0)]), Qhp p0 (i0 + 1) (v0_1 ++ [(Qbd x0)]))) [hB 0 hc0, hP 0 (Q2s 11 (Container.rows p0) i0 _ (Container.Qo hx0) rfl), hV 8 [(644, Val.rows (v0_1 ++ [(Qbd x0)]))] (Q42 1 580 644 5 80 0 0 true (Val.rows v0_1) (Val.rows (v0_1 ++ [(Qbd x0)])) (Val.cells (Qbd x0)) (List.length v0_1) (List.length (v0_1 ++ [(Qbd x0)])) rfl (Val.Q9 v0_1).symm (Val.Q9 (v0_1 ++ [(Qbd x0)])).symm (Val.Q1t v0_1 (Qbd x0)) (Val.Qu v0_1) rfl (by omega)), hS 0 true (Val.Qb (v0_1 ++ [(Qbd x0)]) 5 rfl), hP 1 (Q2g i0 (by omega))] [aN (Q213 x0 (H.2.1 x0 (Q2l hx0)))] (by kernel_rfl) hr
theorem Qy0 (p0 : List Container) (H : Qfr p0) : ∀ (r0 : List Container) (i0 : Nat) (v0_1 : List Val), List.drop i0 p0 = r0 → List.length v0_1 ≤ i0 → Qgk p0 (Qeu p0 i0 v0_1) (Q44 p0 r0 i0 v0_1)
 | [], i0, v0_1, hd, ho0_0 => by
  have hc0 : (decide ((i0 : Int) < ((List.length p0) : Int))) = false := by have := Q1m hd; simp; omega
  rw [Q44]
  exact Q17y p0 H i0 v0_1 ho0_0 hc0
 | x0 :: r0, i0, v0_1, hd, ho0_0 => by
  obtain ⟨hx0, hi0, hd'⟩ := Q1k hd
  have hc0 : (decide ((i0 : Int) < ((List.length p0) : Int))) = true := by simp; omega
  rw [Q44]
  exact Qs6 p0 (fun r hr => Q15x p0 H x0 i0 v0_1 hx0 hi0 ho0_0 hc0 hr) _ (Qy0 p0 H r0 (i0 + 1) (v0_1 ++ [(Qbd x0)]) hd' (by first | omega | (simp; omega)))
def Q5q (p0 : List Container) : Val := vL (p0.map Container.enc)
theorem Q15a (p0 : List Container) : Q5q p0 = ((Qmm (Q44 p0 p0 0 []))) := by
  rw [Qu2]
  rfl
def Q14t (p0 : List Container) : En := .call 257 [.sl (Container.rows p0), .fn 258 [] []] []
def Qqe (p0 : List Container) : Rs := .ret (.agg (Val.cells (Q5q p0))) []
def Qd6 (p0 : List Container) : Prop := LSm Container.sm p0
theorem Qcj (p0 : List Container) (H : Qd6 p0) : (Qfr p0) ∧ (Qn1 (Q44 p0 p0 0 [])) ∧ True := by
  refine ⟨⟨Nat.le_trans H.1 (Nat.le_of_ble_eq_true rfl), H.2, trivial⟩, ⟨?_, trivial⟩, trivial⟩
  rw [Qu2]
  exact Q2x (fun _ h => Container.Q24 h) H
theorem Q17f (p0 : List Container) (H : Qd6 p0) : Q7 G (Q14t p0) (Qqe p0) := by
 unfold Qqe
 rw [Q15a]
 have hl0 := Qy0 p0 ((Qcj p0 H).1) p0 0 [] (by simp) (by simp)
 obtain ⟨z0, zo0, hl0⟩ := hl0
 exact Q8 (fn := Ir.K1d) rfl VOK.nil [hP 3 (Q11 (Container.rows p0) (List.length p0) (Container.Q9 p0)), hS 0 true (Val.Qb (Q44 p0 p0 0 []) 5 rfl), hQ (Val.Q9 (Q44 p0 p0 0 [])).symm] [aV [(1, Val.rows (Q44 p0 p0 0 []))] hl0, aN (Qus (Q44 p0 p0 0 []) (Qcj p0 H).2.1)] (by kernel_rfl)
def Q4b (p0 : List ByteArray) : List ByteArray → Nat → (List Val) → List Val
 | [], _i0, v0_1 =>
  v0_1
 | x0 :: r0, i0, v0_1 =>
  Q4b p0 r0 (i0 + 1) (v0_1 ++ [(Q2h x0)])
theorem Qu9 (p0 : List ByteArray) : ∀ (l : List ByteArray) (i : Nat) (a : List Val), Q4b p0 l i a = a ++ l.map (fun x0 => (Q2h x0))
  | [], _, _ => by simp [Q4b]
  | x :: r, i, a => by rw [Q4b, Qu9 p0 r]; simp
def Qva (p0 : List ByteArray) (i0 : Nat) (v0_1 : List Val) : List PV :=
  [.un, .fn 193 [] [], .un, .un, .bx 0 0, .ms 1 5 0 (List.length v0_1), .un, .un, .sl (Qn p0), .int .i64 ((List.length p0) : Int), .int .i64 (i0 : Int)] ++ nuns 12
def Qhw (_p0 : List ByteArray) (_i0 : Nat) (v0_1 : List Val) : List Ob :=
  [⟨5, 0, true, [.int .i64 0, .int .i64 0, .str eB, .ms 2 5 0 0, .ms 3 6 0 0]⟩, ⟨5, 0, true, (Val.rows v0_1).flatten⟩, ⟨5, 0, true, []⟩, ⟨6, 0, true, []⟩]
def Qf1 (p0 : List ByteArray) (i0 : Nat) (v0_1 : List Val) : En := .loop 0 Ir.Qj0 Ir.Q1fz (Qva p0 i0 v0_1) (Qhw p0 i0 v0_1)
def Qnw (_p0 : List ByteArray) (q0 : List Val) (z : Nat → PV) (_zo : Nat → List PV) : St :=
  ⟨[z 0, z 1, z 2, z 3, .bx 0 0, .ms 1 5 0 (List.length q0)] ++ zr z 6 17, [(0, ⟨5, 0, true, [.int .i64 0, .int .i64 0, .str eB, .ms 2 5 0 0, .ms 3 6 0 0]⟩), (1, ⟨5, 0, true, (Val.rows q0).flatten⟩), (2, ⟨5, 0, true, []⟩), (3, ⟨6, 0, true, []⟩)], 68⟩
theorem Q120 (p0 : List ByteArray) (i0 : Nat) (v0_1 : List Val) : VOK (Go.Pv.look (number 0 (Qhw p0 i0 v0_1))) [(1, Val.rows v0_1)] := (VOK.cons (show Seen _ _ from Q3k (ob := ⟨5, 0, true, (Val.rows v0_1).flatten⟩) (Val.Qb v0_1 5 rfl)) VOK.nil)
def Qgr (p0 : List ByteArray) (e : En) (q : List Val) : Prop := ∃ z zo, Q7 G e (.st (.exit 0) (Qnw p0 q z zo))
theorem Qsd (p0 : List ByteArray) {e e' : En} (h : ∀ r, Q7 G e r → Q7 G e' r) : ∀ q, Qgr p0 e q → Qgr p0 e' q
  | _, ⟨z, zo, hz⟩ => ⟨z, zo, h _ hz⟩
def Qfy (p0 : List ByteArray) : Prop := (List.length p0 ≤ 137438953472) ∧ True
def Qpa (p0 : List ByteArray) (i0 : Nat) (_v0_1 : List Val) : List PV :=
  [.un, .fn 193 [] []] ++ nuns 6 ++ [.sl (Qn p0), .int .i64 ((List.length p0) : Int), .int .i64 (i0 : Int), .bool false]
def Qkg (_p0 : List ByteArray) (_i0 : Nat) (_v0_1 : List Val) : List (Nat × List PV) :=
  []
theorem Q185 (p0 : List ByteArray) (_H : Qfy p0) (i0 : Nat) (v0_1 : List Val) (_ho0_0 : List.length v0_1 ≤ i0) (hc0 : (decide ((i0 : Int) < ((List.length p0) : Int))) = false) : Qgr p0 (Qf1 p0 i0 v0_1) v0_1 := by
 exact ⟨(envF (Qpa p0 i0 v0_1)), (zoF (Qkg p0 i0 v0_1)), Qm (Q120 p0 i0 v0_1) (x := ((.exit 0), Qnw p0 v0_1 (envF (Qpa p0 i0 v0_1)) (zoF (Qkg p0 i0 v0_1)))) [hB 0 hc0] [] (by kernel_rfl)⟩
theorem Q164 (p0 : List ByteArray) (H : Qfy p0) (x0 : BA) (i0 : Nat) (v0_1 : List Val) (hx0 : p0[i0]? = some x0) (hi0 : i0 < List.length p0) (ho0_0 : List.length v0_1 ≤ i0) (hc0 : (decide ((i0 : Int) < ((List.length p0) : Int))) = true) {r : Rs} (hr : Q7 G (Qf1 p0 (i0 + 1) (v0_1 ++ [(Q2h x0)])) r) : Q7 G (Qf1 p0 i0 v0_1) r := by
 have hB0 := H.1
 exact Ql (Q120 p0 i0 v0_1) (y := (Qva p0 (i0 + 1) (v0_1 ++ [(Q2h x0)]), Qhw p0 (i0 + 1) (v0_1 ++ [(Q2h x0)]))) [hB 0 hc0, hP 0 (Q2s 1 (Qn p0) i0 _ (Q88 hx0) rfl), hV 7 [(580, Val.rows (v0_1 ++ [(Q2h x0)]))] (Q42 1 516 580 5 80 0 0 true (Val.rows v0_1) (Val.rows (v0_1 ++ [(Q2h x0)])) (Val.cells (Q2h x0)) (List.length v0_1) (List.length (v0_1 ++ [(Q2h x0)])) rfl (Val.Q9 v0_1).symm (Val.Q9 (v0_1 ++ [(Q2h x0)])).symm (Val.Q1t v0_1 (Q2h x0)) (Val.Qu v0_1) rfl (by omega)), hS 0 true (Val.Qb (v0_1 ++ [(Q2h x0)]) 5 rfl), hP 1 (Q2g i0 (by omega))] [aN (Qe0 x0)] (by kernel_rfl) hr
theorem Qy7 (p0 : List ByteArray) (H : Qfy p0) : ∀ (r0 : List ByteArray) (i0 : Nat) (v0_1 : List Val), List.drop i0 p0 = r0 → List.length v0_1 ≤ i0 → Qgr p0 (Qf1 p0 i0 v0_1) (Q4b p0 r0 i0 v0_1)
 | [], i0, v0_1, hd, ho0_0 => by
  have hc0 : (decide ((i0 : Int) < ((List.length p0) : Int))) = false := by have := Q1m hd; simp; omega
  rw [Q4b]
  exact Q185 p0 H i0 v0_1 ho0_0 hc0
 | x0 :: r0, i0, v0_1, hd, ho0_0 => by
  obtain ⟨hx0, hi0, hd'⟩ := Q1k hd
  have hc0 : (decide ((i0 : Int) < ((List.length p0) : Int))) = true := by simp; omega
  rw [Q4b]
  exact Qsd p0 (fun r hr => Q164 p0 H x0 i0 v0_1 hx0 hi0 ho0_0 hc0 hr) _ (Qy7 p0 H r0 (i0 + 1) (v0_1 ++ [(Q2h x0)]) hd' (by first | omega | (simp; omega)))
def Q5v (p0 : List ByteArray) : Val := vL (p0.map vS)
theorem Q15h (p0 : List ByteArray) : Q5v p0 = ((Qmm (Q4b p0 p0 0 []))) := by
  rw [Qu9]
  rfl
def Q150 (p0 : List ByteArray) : En := .call 285 [.sl (Qn p0), .fn 193 [] []] []
def Qql (p0 : List ByteArray) : Rs := .ret (.agg (Val.cells (Q5v p0))) []
def Qdb (p0 : List ByteArray) : Prop := LSm (fun _ : ByteArray => True) p0
theorem Qcq (p0 : List ByteArray) (H : Qdb p0) : (Qfy p0) ∧ (Qn1 (Q4b p0 p0 0 [])) ∧ True := by
  refine ⟨⟨Nat.le_trans H.1 (Nat.le_of_ble_eq_true rfl), trivial⟩, ⟨?_, trivial⟩, trivial⟩
  rw [Qu9]
  exact Q2x (fun _ _ => Val.Sm.leaf _ _ _) H
theorem Q17k (p0 : List ByteArray) (H : Qdb p0) : Q7 G (Q150 p0) (Qql p0) := by
 unfold Qql
 rw [Q15h]
 have hl0 := Qy7 p0 ((Qcq p0 H).1) p0 0 [] (by simp) (by simp)
 obtain ⟨z0, zo0, hl0⟩ := hl0
 exact Q8 (fn := Ir.K1k) rfl VOK.nil [hP 3 (Q11 (Qn p0) (List.length p0) (Q2f p0)), hS 0 true (Val.Qb (Q4b p0 p0 0 []) 5 rfl), hQ (Val.Q9 (Q4b p0 p0 0 [])).symm] [aV [(1, Val.rows (Q4b p0 p0 0 []))] hl0, aN (Qus (Q4b p0 p0 0 []) (Qcq p0 H).2.1)] (by kernel_rfl)
def Qbi (p0 : Requirement) : Val := Requirement.enc p0
theorem Q1yq (p0 : Requirement) : Qbi p0 = ((Q50 ([(Qw Qz (Q2h p0.key)), (Qw Q3w (Q2c p0.op)), (Qw Q1g (Q5v p0.values))]))) := by
  exact Eq.symm (Q5i (by exact Nat.le_of_ble_eq_true rfl) (by kernel_rfl))
def Q1wc (p0 : Requirement) : En := .call 260 [.agg (Requirement.cells p0)] []
def Q1nk (p0 : Requirement) : Rs := .ret (.agg (Val.cells (Qbi p0))) []
def Q1hg (p0 : Requirement) : Prop := Requirement.sm p0
theorem Q12x (p0 : Requirement) (H : Q1hg p0) : (Qdb p0.values) ∧ (Q8e ([(Qw Qz (Q2h p0.key)), (Qw Q3w (Q2c p0.op)), (Qw Q1g (Q5v p0.values))])) ∧ True := by
  repeat' with_reducible apply And.intro
  all_goals first | exact True.intro | exact H | exact H.1 | exact H.2.1 | exact H.2.2.1 | exact H.2.2.2.1 | exact H.2.2.2.2.1 | exact H.2.2.2.2.2.1 | exact H.2.2.2.2.2.2.1 | exact H.2.2.2.2.2.2.2.1 | exact H.2.2.2.2.2.2.2.2.1 | exact H.2.2.2.2.2.2.2.2.2.1 | exact H.2.2.2.2.2.2.2.2.2.2.1 | exact H.2.2.2.2.2.2.2.2.2.2.2.1 | exact Q96 (by exact Nat.le_of_ble_eq_true rfl) (Requirement.Q24 H).all.2.2.2
theorem Q218 (p0 : Requirement) (H : Q1hg p0) : Q7 G (Q1wc p0) (Q1nk p0) := by
 unfold Q1nk
 rw [Q1yq]
 exact Q8 (fn := Ir.K16) rfl VOK.nil [] [aN (Qe0 p0.key), aN (Q3g Qz (Q2h p0.key)), aN (Q9u p0.op), aN (Q3g Q3w (Q2c p0.op)), aN (Q17k p0.values (Q12x p0 H).1), aN (Q3g Q1g (Q5v p0.values)), aN (Q4j (e' := .call 78 [.sl [(Fld.cells (Qw Qz (Q2h p0.key))), (Fld.cells (Qw Q3w (Q2c p0.op))), (Fld.cells (Qw Q1g (Q5v p0.values)))]] []) (Q9v ([(Qw Qz (Q2h p0.key)), (Qw Q3w (Q2c p0.op)), (Qw Q1g (Q5v p0.values))]) (Q12x p0 H).2.1) (by simp only [Q90, Fld.Qy, Fld.Q1b]))] (by kernel_rfl)
def Q45 (p0 : List Requirement) : List Requirement → Nat → (List Val) → List Val
 | [], _i0, v0_1 =>
  v0_1
 | x0 :: r0, i0, v0_1 =>
  Q45 p0 r0 (i0 + 1) (v0_1 ++ [(Qbi x0)])
theorem Qu3 (p0 : List Requirement) : ∀ (l : List Requirement) (i : Nat) (a : List Val), Q45 p0 l i a = a ++ l.map (fun x0 => (Qbi x0))
  | [], _, _ => by simp [Q45]
  | x :: r, i, a => by rw [Q45, Qu3 p0 r]; simp
def Qv4 (p0 : List Requirement) (i0 : Nat) (v0_1 : List Val) : List PV :=
  [.un, .fn 260 [] [], .un, .un, .bx 0 0, .ms 1 5 0 (List.length v0_1), .un, .un, .sl (Requirement.rows p0), .int .i64 ((List.length p0) : Int), .int .i64 (i0 : Int)] ++ nuns 12
def Qhq (_p0 : List Requirement) (_i0 : Nat) (v0_1 : List Val) : List Ob :=
  [⟨5, 0, true, [.int .i64 0, .int .i64 0, .str eB, .ms 2 5 0 0, .ms 3 6 0 0]⟩, ⟨5, 0, true, (Val.rows v0_1).flatten⟩, ⟨5, 0, true, []⟩, ⟨6, 0, true, []⟩]
def Qev (p0 : List Requirement) (i0 : Nat) (v0_1 : List Val) : En := .loop 0 Ir.Qiu Ir.Q1ft (Qv4 p0 i0 v0_1) (Qhq p0 i0 v0_1)
def Qnq (_p0 : List Requirement) (q0 : List Val) (z : Nat → PV) (_zo : Nat → List PV) : St :=
  ⟨[z 0, z 1, z 2, z 3, .bx 0 0, .ms 1 5 0 (List.length q0)] ++ zr z 6 17, [(0, ⟨5, 0, true, [.int .i64 0, .int .i64 0, .str eB, .ms 2 5 0 0, .ms 3 6 0 0]⟩), (1, ⟨5, 0, true, (Val.rows q0).flatten⟩), (2, ⟨5, 0, true, []⟩), (3, ⟨6, 0, true, []⟩)], 68⟩
theorem Q11u (p0 : List Requirement) (i0 : Nat) (v0_1 : List Val) : VOK (Go.Pv.look (number 0 (Qhq p0 i0 v0_1))) [(1, Val.rows v0_1)] := (VOK.cons (show Seen _ _ from Q3k (ob := ⟨5, 0, true, (Val.rows v0_1).flatten⟩) (Val.Qb v0_1 5 rfl)) VOK.nil)
def Qgl (p0 : List Requirement) (e : En) (q : List Val) : Prop := ∃ z zo, Q7 G e (.st (.exit 0) (Qnq p0 q z zo))
theorem Qs7 (p0 : List Requirement) {e e' : En} (h : ∀ r, Q7 G e r → Q7 G e' r) : ∀ q, Qgl p0 e q → Qgl p0 e' q
  | _, ⟨z, zo, hz⟩ => ⟨z, zo, h _ hz⟩
def Qfs (p0 : List Requirement) : Prop := (List.length p0 ≤ 137438953472) ∧ (∀ x0 ∈ p0, Q1hg x0) ∧ True
def Qp4 (p0 : List Requirement) (i0 : Nat) (_v0_1 : List Val) : List PV :=
  [.un, .fn 260 [] []] ++ nuns 6 ++ [.sl (Requirement.rows p0), .int .i64 ((List.length p0) : Int), .int .i64 (i0 : Int), .bool false]
def Qka (_p0 : List Requirement) (_i0 : Nat) (_v0_1 : List Val) : List (Nat × List PV) :=
  []
theorem Q17z (p0 : List Requirement) (_H : Qfs p0) (i0 : Nat) (v0_1 : List Val) (_ho0_0 : List.length v0_1 ≤ i0) (hc0 : (decide ((i0 : Int) < ((List.length p0) : Int))) = false) : Qgl p0 (Qev p0 i0 v0_1) v0_1 := by
 exact ⟨(envF (Qp4 p0 i0 v0_1)), (zoF (Qka p0 i0 v0_1)), Qm (Q11u p0 i0 v0_1) (x := ((.exit 0), Qnq p0 v0_1 (envF (Qp4 p0 i0 v0_1)) (zoF (Qka p0 i0 v0_1)))) [hB 0 hc0] [] (by kernel_rfl)⟩
theorem Q15y (p0 : List Requirement) (H : Qfs p0) (x0 : Requirement) (i0 : Nat) (v0_1 : List Val) (hx0 : p0[i0]? = some x0) (hi0 : i0 < List.length p0) (ho0_0 : List.length v0_1 ≤ i0) (hc0 : (decide ((i0 : Int) < ((List.length p0) : Int))) = true) {r : Rs} (hr : Q7 G (Qev p0 (i0 + 1) (v0_1 ++ [(Qbi x0)])) r) : Q7 G (Qev p0 i0 v0_1) r := by
 have hB0 := H.1
 exact Ql (Q11u p0 i0 v0_1) (y := (Qv4 p0 (i0 + 1) (v0_1 ++ [(Qbi x0)]), Qhq p0 (i0 + 1) (v0_1 ++ [(Qbi x0)]))) [hB 0 hc0, hP 0 (Q2s 3 (Requirement.rows p0) i0 _ (Requirement.Qo hx0) rfl), hV 8 [(644, Val.rows (v0_1 ++ [(Qbi x0)]))] (Q42 1 580 644 5 80 0 0 true (Val.rows v0_1) (Val.rows (v0_1 ++ [(Qbi x0)])) (Val.cells (Qbi x0)) (List.length v0_1) (List.length (v0_1 ++ [(Qbi x0)])) rfl (Val.Q9 v0_1).symm (Val.Q9 (v0_1 ++ [(Qbi x0)])).symm (Val.Q1t v0_1 (Qbi x0)) (Val.Qu v0_1) rfl (by omega)), hS 0 true (Val.Qb (v0_1 ++ [(Qbi x0)]) 5 rfl), hP 1 (Q2g i0 (by omega))] [aN (Q218 x0 (H.2.1 x0 (Q2l hx0)))] (by kernel_rfl) hr
theorem Qy1 (p0 : List Requirement) (H : Qfs p0) : ∀ (r0 : List Requirement) (i0 : Nat) (v0_1 : List Val), List.drop i0 p0 = r0 → List.length v0_1 ≤ i0 → Qgl p0 (Qev p0 i0 v0_1) (Q45 p0 r0 i0 v0_1)
 | [], i0, v0_1, hd, ho0_0 => by
  have hc0 : (decide ((i0 : Int) < ((List.length p0) : Int))) = false := by have := Q1m hd; simp; omega
  rw [Q45]
  exact Q17z p0 H i0 v0_1 ho0_0 hc0
 | x0 :: r0, i0, v0_1, hd, ho0_0 => by
  obtain ⟨hx0, hi0, hd'⟩ := Q1k hd
  have hc0 : (decide ((i0 : Int) < ((List.length p0) : Int))) = true := by simp; omega
  rw [Q45]
  exact Qs7 p0 (fun r hr => Q15y p0 H x0 i0 v0_1 hx0 hi0 ho0_0 hc0 hr) _ (Qy1 p0 H r0 (i0 + 1) (v0_1 ++ [(Qbi x0)]) hd' (by first | omega | (simp; omega)))
def Q2i (p0 : List Requirement) : Val := vL (p0.map Requirement.enc)
theorem Q15b (p0 : List Requirement) : Q2i p0 = ((Qmm (Q45 p0 p0 0 []))) := by
  rw [Qu3]
  rfl
def Q14u (p0 : List Requirement) : En := .call 259 [.sl (Requirement.rows p0), .fn 260 [] []] []
def Qqf (p0 : List Requirement) : Rs := .ret (.agg (Val.cells (Q2i p0))) []
def Q6q (p0 : List Requirement) : Prop := LSm Requirement.sm p0
theorem Qck (p0 : List Requirement) (H : Q6q p0) : (Qfs p0) ∧ (Qn1 (Q45 p0 p0 0 [])) ∧ True := by
  refine ⟨⟨Nat.le_trans H.1 (Nat.le_of_ble_eq_true rfl), H.2, trivial⟩, ⟨?_, trivial⟩, trivial⟩
  rw [Qu3]
  exact Q2x (fun _ h => Requirement.Q24 h) H
theorem Qak (p0 : List Requirement) (H : Q6q p0) : Q7 G (Q14u p0) (Qqf p0) := by
 unfold Qqf
 rw [Q15b]
 have hl0 := Qy1 p0 ((Qck p0 H).1) p0 0 [] (by simp) (by simp)
 obtain ⟨z0, zo0, hl0⟩ := hl0
 exact Q8 (fn := Ir.K1e) rfl VOK.nil [hP 3 (Q11 (Requirement.rows p0) (List.length p0) (Requirement.Q9 p0)), hS 0 true (Val.Qb (Q45 p0 p0 0 []) 5 rfl), hQ (Val.Q9 (Q45 p0 p0 0 [])).symm] [aV [(1, Val.rows (Q45 p0 p0 0 []))] hl0, aN (Qus (Q45 p0 p0 0 []) (Qck p0 H).2.1)] (by kernel_rfl)
def Q5h (p0 : Bool) : Val := vB p0
theorem Q1zh (p0 : Bool) : Q5h p0 = (bif p0 then
    (Val.mk 1 1 eB [] [])
  else
    (Val.mk 1 0 eB [] [])) := by
  cases p0 <;> rfl
def Q1xf (p0 : Bool) : En := .call 192 [.bool p0] []
def Q1oo (p0 : Bool) : Rs := .ret (.agg (Val.cells (Q5h p0))) []
theorem Q17o (p0 : Bool) : Q7 G (Q1xf p0) (Q1oo p0) := by
 unfold Q1oo
 rw [Q1zh]
 cases h0 : p0 with
 | true =>
  exact Q8 (fn := Ir.K4w) rfl VOK.nil [] [] (by kernel_rfl)
 | false =>
  exact Q8 (fn := Ir.K4w) rfl VOK.nil [] [] (by kernel_rfl)
def Qbf (p0 : NodeTerm) : Val := NodeTerm.enc p0
theorem Q1yn (p0 : NodeTerm) : Qbf p0 = ((Q50 ([(Qw Qa (Q5h p0.required)), (Qw Q5 (Q2i p0.selector)), (Qw Q10 (Q2c p0.weight))]))) := by
  exact Eq.symm (Q5i (by exact Nat.le_of_ble_eq_true rfl) (by kernel_rfl))
def Q1w9 (p0 : NodeTerm) : En := .call 262 [.agg (NodeTerm.cells p0)] []
def Q1nh (p0 : NodeTerm) : Rs := .ret (.agg (Val.cells (Qbf p0))) []
def Q1hd (p0 : NodeTerm) : Prop := NodeTerm.sm p0
theorem Q12v (p0 : NodeTerm) (H : Q1hd p0) : (Q6q p0.selector) ∧ (Q8e ([(Qw Qa (Q5h p0.required)), (Qw Q5 (Q2i p0.selector)), (Qw Q10 (Q2c p0.weight))])) ∧ True := by
  repeat' with_reducible apply And.intro
  all_goals first | exact True.intro | exact H | exact H.1 | exact H.2.1 | exact H.2.2.1 | exact H.2.2.2.1 | exact H.2.2.2.2.1 | exact H.2.2.2.2.2.1 | exact H.2.2.2.2.2.2.1 | exact H.2.2.2.2.2.2.2.1 | exact H.2.2.2.2.2.2.2.2.1 | exact H.2.2.2.2.2.2.2.2.2.1 | exact H.2.2.2.2.2.2.2.2.2.2.1 | exact H.2.2.2.2.2.2.2.2.2.2.2.1 | exact Q96 (by exact Nat.le_of_ble_eq_true rfl) (NodeTerm.Q24 H).all.2.2.2
theorem Q215 (p0 : NodeTerm) (H : Q1hd p0) : Q7 G (Q1w9 p0) (Q1nh p0) := by
 unfold Q1nh
 rw [Q1yn]
 exact Q8 (fn := Ir.K13) rfl VOK.nil [] [aN (Q17o p0.required), aN (Q3g Qa (Q5h p0.required)), aN (Qak p0.selector (Q12v p0 H).1), aN (Q3g Q5 (Q2i p0.selector)), aN (Q9u p0.weight), aN (Q3g Q10 (Q2c p0.weight)), aN (Q4j (e' := .call 78 [.sl [(Fld.cells (Qw Qa (Q5h p0.required))), (Fld.cells (Qw Q5 (Q2i p0.selector))), (Fld.cells (Qw Q10 (Q2c p0.weight)))]] []) (Q9v ([(Qw Qa (Q5h p0.required)), (Qw Q5 (Q2i p0.selector)), (Qw Q10 (Q2c p0.weight))]) (Q12v p0 H).2.1) (by simp only [Q90, Fld.Qy, Fld.Q1b]))] (by kernel_rfl)
def Q46 (p0 : List NodeTerm) : List NodeTerm → Nat → (List Val) → List Val
 | [], _i0, v0_1 =>
  v0_1
 | x0 :: r0, i0, v0_1 =>
  Q46 p0 r0 (i0 + 1) (v0_1 ++ [(Qbf x0)])
theorem Qu4 (p0 : List NodeTerm) : ∀ (l : List NodeTerm) (i : Nat) (a : List Val), Q46 p0 l i a = a ++ l.map (fun x0 => (Qbf x0))
  | [], _, _ => by simp [Q46]
  | x :: r, i, a => by rw [Q46, Qu4 p0 r]; simp
def Qv5 (p0 : List NodeTerm) (i0 : Nat) (v0_1 : List Val) : List PV :=
  [.un, .fn 262 [] [], .un, .un, .bx 0 0, .ms 1 5 0 (List.length v0_1), .un, .un, .sl (NodeTerm.rows p0), .int .i64 ((List.length p0) : Int), .int .i64 (i0 : Int)] ++ nuns 12
def Qhr (_p0 : List NodeTerm) (_i0 : Nat) (v0_1 : List Val) : List Ob :=
  [⟨5, 0, true, [.int .i64 0, .int .i64 0, .str eB, .ms 2 5 0 0, .ms 3 6 0 0]⟩, ⟨5, 0, true, (Val.rows v0_1).flatten⟩, ⟨5, 0, true, []⟩, ⟨6, 0, true, []⟩]
def Qew (p0 : List NodeTerm) (i0 : Nat) (v0_1 : List Val) : En := .loop 0 Ir.Qiv Ir.Q1fu (Qv5 p0 i0 v0_1) (Qhr p0 i0 v0_1)
def Qnr (_p0 : List NodeTerm) (q0 : List Val) (z : Nat → PV) (_zo : Nat → List PV) : St :=
  ⟨[z 0, z 1, z 2, z 3, .bx 0 0, .ms 1 5 0 (List.length q0)] ++ zr z 6 17, [(0, ⟨5, 0, true, [.int .i64 0, .int .i64 0, .str eB, .ms 2 5 0 0, .ms 3 6 0 0]⟩), (1, ⟨5, 0, true, (Val.rows q0).flatten⟩), (2, ⟨5, 0, true, []⟩), (3, ⟨6, 0, true, []⟩)], 68⟩
theorem Q11v (p0 : List NodeTerm) (i0 : Nat) (v0_1 : List Val) : VOK (Go.Pv.look (number 0 (Qhr p0 i0 v0_1))) [(1, Val.rows v0_1)] := (VOK.cons (show Seen _ _ from Q3k (ob := ⟨5, 0, true, (Val.rows v0_1).flatten⟩) (Val.Qb v0_1 5 rfl)) VOK.nil)
def Qgm (p0 : List NodeTerm) (e : En) (q : List Val) : Prop := ∃ z zo, Q7 G e (.st (.exit 0) (Qnr p0 q z zo))
theorem Qs8 (p0 : List NodeTerm) {e e' : En} (h : ∀ r, Q7 G e r → Q7 G e' r) : ∀ q, Qgm p0 e q → Qgm p0 e' q
  | _, ⟨z, zo, hz⟩ => ⟨z, zo, h _ hz⟩
def Qft (p0 : List NodeTerm) : Prop := (List.length p0 ≤ 137438953472) ∧ (∀ x0 ∈ p0, Q1hd x0) ∧ True
def Qp5 (p0 : List NodeTerm) (i0 : Nat) (_v0_1 : List Val) : List PV :=
  [.un, .fn 262 [] []] ++ nuns 6 ++ [.sl (NodeTerm.rows p0), .int .i64 ((List.length p0) : Int), .int .i64 (i0 : Int), .bool false]
def Qkb (_p0 : List NodeTerm) (_i0 : Nat) (_v0_1 : List Val) : List (Nat × List PV) :=
  []
theorem Q180 (p0 : List NodeTerm) (_H : Qft p0) (i0 : Nat) (v0_1 : List Val) (_ho0_0 : List.length v0_1 ≤ i0) (hc0 : (decide ((i0 : Int) < ((List.length p0) : Int))) = false) : Qgm p0 (Qew p0 i0 v0_1) v0_1 := by
 exact ⟨(envF (Qp5 p0 i0 v0_1)), (zoF (Qkb p0 i0 v0_1)), Qm (Q11v p0 i0 v0_1) (x := ((.exit 0), Qnr p0 v0_1 (envF (Qp5 p0 i0 v0_1)) (zoF (Qkb p0 i0 v0_1)))) [hB 0 hc0] [] (by kernel_rfl)⟩
theorem Q15z (p0 : List NodeTerm) (H : Qft p0) (x0 : NodeTerm) (i0 : Nat) (v0_1 : List Val) (hx0 : p0[i0]? = some x0) (hi0 : i0 < List.length p0) (ho0_0 : List.length v0_1 ≤ i0) (hc0 : (decide ((i0 : Int) < ((List.length p0) : Int))) = true) {r : Rs} (hr : Q7 G (Qew p0 (i0 + 1) (v0_1 ++ [(Qbf x0)])) r) : Q7 G (Qew p0 i0 v0_1) r := by
 have hB0 := H.1
 exact Ql (Q11v p0 i0 v0_1) (y := (Qv5 p0 (i0 + 1) (v0_1 ++ [(Qbf x0)]), Qhr p0 (i0 + 1) (v0_1 ++ [(Qbf x0)]))) [hB 0 hc0, hP 0 (Q2s 3 (NodeTerm.rows p0) i0 _ (NodeTerm.Qo hx0) rfl), hV 8 [(644, Val.rows (v0_1 ++ [(Qbf x0)]))] (Q42 1 580 644 5 80 0 0 true (Val.rows v0_1) (Val.rows (v0_1 ++ [(Qbf x0)])) (Val.cells (Qbf x0)) (List.length v0_1) (List.length (v0_1 ++ [(Qbf x0)])) rfl (Val.Q9 v0_1).symm (Val.Q9 (v0_1 ++ [(Qbf x0)])).symm (Val.Q1t v0_1 (Qbf x0)) (Val.Qu v0_1) rfl (by omega)), hS 0 true (Val.Qb (v0_1 ++ [(Qbf x0)]) 5 rfl), hP 1 (Q2g i0 (by omega))] [aN (Q215 x0 (H.2.1 x0 (Q2l hx0)))] (by kernel_rfl) hr
theorem Qy2 (p0 : List NodeTerm) (H : Qft p0) : ∀ (r0 : List NodeTerm) (i0 : Nat) (v0_1 : List Val), List.drop i0 p0 = r0 → List.length v0_1 ≤ i0 → Qgm p0 (Qew p0 i0 v0_1) (Q46 p0 r0 i0 v0_1)
 | [], i0, v0_1, hd, ho0_0 => by
  have hc0 : (decide ((i0 : Int) < ((List.length p0) : Int))) = false := by have := Q1m hd; simp; omega
  rw [Q46]
  exact Q180 p0 H i0 v0_1 ho0_0 hc0
 | x0 :: r0, i0, v0_1, hd, ho0_0 => by
  obtain ⟨hx0, hi0, hd'⟩ := Q1k hd
  have hc0 : (decide ((i0 : Int) < ((List.length p0) : Int))) = true := by simp; omega
  rw [Q46]
  exact Qs8 p0 (fun r hr => Q15z p0 H x0 i0 v0_1 hx0 hi0 ho0_0 hc0 hr) _ (Qy2 p0 H r0 (i0 + 1) (v0_1 ++ [(Qbf x0)]) hd' (by first | omega | (simp; omega)))
def Q5r (p0 : List NodeTerm) : Val := vL (p0.map NodeTerm.enc)
theorem Q15c (p0 : List NodeTerm) : Q5r p0 = ((Qmm (Q46 p0 p0 0 []))) := by
  rw [Qu4]
  rfl
def Q14v (p0 : List NodeTerm) : En := .call 261 [.sl (NodeTerm.rows p0), .fn 262 [] []] []
def Qqg (p0 : List NodeTerm) : Rs := .ret (.agg (Val.cells (Q5r p0))) []
def Qd7 (p0 : List NodeTerm) : Prop := LSm NodeTerm.sm p0
theorem Qcl (p0 : List NodeTerm) (H : Qd7 p0) : (Qft p0) ∧ (Qn1 (Q46 p0 p0 0 [])) ∧ True := by
  refine ⟨⟨Nat.le_trans H.1 (Nat.le_of_ble_eq_true rfl), H.2, trivial⟩, ⟨?_, trivial⟩, trivial⟩
  rw [Qu4]
  exact Q2x (fun _ h => NodeTerm.Q24 h) H
theorem Q17g (p0 : List NodeTerm) (H : Qd7 p0) : Q7 G (Q14v p0) (Qqg p0) := by
 unfold Qqg
 rw [Q15c]
 have hl0 := Qy2 p0 ((Qcl p0 H).1) p0 0 [] (by simp) (by simp)
 obtain ⟨z0, zo0, hl0⟩ := hl0
 exact Q8 (fn := Ir.K1f) rfl VOK.nil [hP 3 (Q11 (NodeTerm.rows p0) (List.length p0) (NodeTerm.Q9 p0)), hS 0 true (Val.Qb (Q46 p0 p0 0 []) 5 rfl), hQ (Val.Q9 (Q46 p0 p0 0 [])).symm] [aV [(1, Val.rows (Q46 p0 p0 0 []))] hl0, aN (Qus (Q46 p0 p0 0 []) (Qcl p0 H).2.1)] (by kernel_rfl)
def Qbg (p0 : PodTerm) : Val := PodTerm.enc p0
theorem Q1yo (p0 : PodTerm) : Qbg p0 = ((Q50 ([(Qw Q2q (Q5h p0.anti)), (Qw Qa (Q5h p0.required)), (Qw Q5 (Q2i p0.selector)), (Qw Qk (Q2h p0.topology)), (Qw Q10 (Q2c p0.weight))]))) := by
  exact Eq.symm (Q5i (by exact Nat.le_of_ble_eq_true rfl) (by kernel_rfl))
def Q1wa (p0 : PodTerm) : En := .call 264 [.agg (PodTerm.cells p0)] []
def Q1ni (p0 : PodTerm) : Rs := .ret (.agg (Val.cells (Qbg p0))) []
def Q1he (p0 : PodTerm) : Prop := PodTerm.sm p0
theorem Q12w (p0 : PodTerm) (H : Q1he p0) : (Q6q p0.selector) ∧ (Q8e ([(Qw Q2q (Q5h p0.anti)), (Qw Qa (Q5h p0.required)), (Qw Q5 (Q2i p0.selector)), (Qw Qk (Q2h p0.topology)), (Qw Q10 (Q2c p0.weight))])) ∧ True := by
  repeat' with_reducible apply And.intro
  all_goals first | exact True.intro | exact H | exact H.1 | exact H.2.1 | exact H.2.2.1 | exact H.2.2.2.1 | exact H.2.2.2.2.1 | exact H.2.2.2.2.2.1 | exact H.2.2.2.2.2.2.1 | exact H.2.2.2.2.2.2.2.1 | exact H.2.2.2.2.2.2.2.2.1 | exact H.2.2.2.2.2.2.2.2.2.1 | exact H.2.2.2.2.2.2.2.2.2.2.1 | exact H.2.2.2.2.2.2.2.2.2.2.2.1 | exact Q96 (by exact Nat.le_of_ble_eq_true rfl) (PodTerm.Q24 H).all.2.2.2
theorem Q216 (p0 : PodTerm) (H : Q1he p0) : Q7 G (Q1wa p0) (Q1ni p0) := by
 unfold Q1ni
 rw [Q1yo]
 exact Q8 (fn := Ir.K14) rfl VOK.nil [] [aN (Q17o p0.anti), aN (Q3g Q2q (Q5h p0.anti)), aN (Q17o p0.required), aN (Q3g Qa (Q5h p0.required)), aN (Qak p0.selector (Q12w p0 H).1), aN (Q3g Q5 (Q2i p0.selector)), aN (Qe0 p0.topology), aN (Q3g Qk (Q2h p0.topology)), aN (Q9u p0.weight), aN (Q3g Q10 (Q2c p0.weight)), aN (Q4j (e' := .call 78 [.sl [(Fld.cells (Qw Q2q (Q5h p0.anti))), (Fld.cells (Qw Qa (Q5h p0.required))), (Fld.cells (Qw Q5 (Q2i p0.selector))), (Fld.cells (Qw Qk (Q2h p0.topology))), (Fld.cells (Qw Q10 (Q2c p0.weight)))]] []) (Q9v ([(Qw Q2q (Q5h p0.anti)), (Qw Qa (Q5h p0.required)), (Qw Q5 (Q2i p0.selector)), (Qw Qk (Q2h p0.topology)), (Qw Q10 (Q2c p0.weight))]) (Q12w p0 H).2.1) (by simp only [Q90, Fld.Qy, Fld.Q1b]))] (by kernel_rfl)
def Q47 (p0 : List PodTerm) : List PodTerm → Nat → (List Val) → List Val
 | [], _i0, v0_1 =>
  v0_1
 | x0 :: r0, i0, v0_1 =>
  Q47 p0 r0 (i0 + 1) (v0_1 ++ [(Qbg x0)])
theorem Qu5 (p0 : List PodTerm) : ∀ (l : List PodTerm) (i : Nat) (a : List Val), Q47 p0 l i a = a ++ l.map (fun x0 => (Qbg x0))
  | [], _, _ => by simp [Q47]
  | x :: r, i, a => by rw [Q47, Qu5 p0 r]; simp
def Qv6 (p0 : List PodTerm) (i0 : Nat) (v0_1 : List Val) : List PV :=
  [.un, .fn 264 [] [], .un, .un, .bx 0 0, .ms 1 5 0 (List.length v0_1), .un, .un, .sl (PodTerm.rows p0), .int .i64 ((List.length p0) : Int), .int .i64 (i0 : Int)] ++ nuns 12
def Qhs (_p0 : List PodTerm) (_i0 : Nat) (v0_1 : List Val) : List Ob :=
  [⟨5, 0, true, [.int .i64 0, .int .i64 0, .str eB, .ms 2 5 0 0, .ms 3 6 0 0]⟩, ⟨5, 0, true, (Val.rows v0_1).flatten⟩, ⟨5, 0, true, []⟩, ⟨6, 0, true, []⟩]
def Qex (p0 : List PodTerm) (i0 : Nat) (v0_1 : List Val) : En := .loop 0 Ir.Qiw Ir.Q1fv (Qv6 p0 i0 v0_1) (Qhs p0 i0 v0_1)
def Qns (_p0 : List PodTerm) (q0 : List Val) (z : Nat → PV) (_zo : Nat → List PV) : St :=
  ⟨[z 0, z 1, z 2, z 3, .bx 0 0, .ms 1 5 0 (List.length q0)] ++ zr z 6 17, [(0, ⟨5, 0, true, [.int .i64 0, .int .i64 0, .str eB, .ms 2 5 0 0, .ms 3 6 0 0]⟩), (1, ⟨5, 0, true, (Val.rows q0).flatten⟩), (2, ⟨5, 0, true, []⟩), (3, ⟨6, 0, true, []⟩)], 68⟩
theorem Q11w (p0 : List PodTerm) (i0 : Nat) (v0_1 : List Val) : VOK (Go.Pv.look (number 0 (Qhs p0 i0 v0_1))) [(1, Val.rows v0_1)] := (VOK.cons (show Seen _ _ from Q3k (ob := ⟨5, 0, true, (Val.rows v0_1).flatten⟩) (Val.Qb v0_1 5 rfl)) VOK.nil)
def Qgn (p0 : List PodTerm) (e : En) (q : List Val) : Prop := ∃ z zo, Q7 G e (.st (.exit 0) (Qns p0 q z zo))
theorem Qs9 (p0 : List PodTerm) {e e' : En} (h : ∀ r, Q7 G e r → Q7 G e' r) : ∀ q, Qgn p0 e q → Qgn p0 e' q
  | _, ⟨z, zo, hz⟩ => ⟨z, zo, h _ hz⟩
def Qfu (p0 : List PodTerm) : Prop := (List.length p0 ≤ 137438953472) ∧ (∀ x0 ∈ p0, Q1he x0) ∧ True
def Qp6 (p0 : List PodTerm) (i0 : Nat) (_v0_1 : List Val) : List PV :=
  [.un, .fn 264 [] []] ++ nuns 6 ++ [.sl (PodTerm.rows p0), .int .i64 ((List.length p0) : Int), .int .i64 (i0 : Int), .bool false]
def Qkc (_p0 : List PodTerm) (_i0 : Nat) (_v0_1 : List Val) : List (Nat × List PV) :=
  []
theorem Q181 (p0 : List PodTerm) (_H : Qfu p0) (i0 : Nat) (v0_1 : List Val) (_ho0_0 : List.length v0_1 ≤ i0) (hc0 : (decide ((i0 : Int) < ((List.length p0) : Int))) = false) : Qgn p0 (Qex p0 i0 v0_1) v0_1 := by
 exact ⟨(envF (Qp6 p0 i0 v0_1)), (zoF (Qkc p0 i0 v0_1)), Qm (Q11w p0 i0 v0_1) (x := ((.exit 0), Qns p0 v0_1 (envF (Qp6 p0 i0 v0_1)) (zoF (Qkc p0 i0 v0_1)))) [hB 0 hc0] [] (by kernel_rfl)⟩
theorem Q160 (p0 : List PodTerm) (H : Qfu p0) (x0 : PodTerm) (i0 : Nat) (v0_1 : List Val) (hx0 : p0[i0]? = some x0) (hi0 : i0 < List.length p0) (ho0_0 : List.length v0_1 ≤ i0) (hc0 : (decide ((i0 : Int) < ((List.length p0) : Int))) = true) {r : Rs} (hr : Q7 G (Qex p0 (i0 + 1) (v0_1 ++ [(Qbg x0)])) r) : Q7 G (Qex p0 i0 v0_1) r := by
 have hB0 := H.1
 exact Ql (Q11w p0 i0 v0_1) (y := (Qv6 p0 (i0 + 1) (v0_1 ++ [(Qbg x0)]), Qhs p0 (i0 + 1) (v0_1 ++ [(Qbg x0)]))) [hB 0 hc0, hP 0 (Q2s 5 (PodTerm.rows p0) i0 _ (PodTerm.Qo hx0) rfl), hV 8 [(644, Val.rows (v0_1 ++ [(Qbg x0)]))] (Q42 1 580 644 5 80 0 0 true (Val.rows v0_1) (Val.rows (v0_1 ++ [(Qbg x0)])) (Val.cells (Qbg x0)) (List.length v0_1) (List.length (v0_1 ++ [(Qbg x0)])) rfl (Val.Q9 v0_1).symm (Val.Q9 (v0_1 ++ [(Qbg x0)])).symm (Val.Q1t v0_1 (Qbg x0)) (Val.Qu v0_1) rfl (by omega)), hS 0 true (Val.Qb (v0_1 ++ [(Qbg x0)]) 5 rfl), hP 1 (Q2g i0 (by omega))] [aN (Q216 x0 (H.2.1 x0 (Q2l hx0)))] (by kernel_rfl) hr
theorem Qy3 (p0 : List PodTerm) (H : Qfu p0) : ∀ (r0 : List PodTerm) (i0 : Nat) (v0_1 : List Val), List.drop i0 p0 = r0 → List.length v0_1 ≤ i0 → Qgn p0 (Qex p0 i0 v0_1) (Q47 p0 r0 i0 v0_1)
 | [], i0, v0_1, hd, ho0_0 => by
  have hc0 : (decide ((i0 : Int) < ((List.length p0) : Int))) = false := by have := Q1m hd; simp; omega
  rw [Q47]
  exact Q181 p0 H i0 v0_1 ho0_0 hc0
 | x0 :: r0, i0, v0_1, hd, ho0_0 => by
  obtain ⟨hx0, hi0, hd'⟩ := Q1k hd
  have hc0 : (decide ((i0 : Int) < ((List.length p0) : Int))) = true := by simp; omega
  rw [Q47]
  exact Qs9 p0 (fun r hr => Q160 p0 H x0 i0 v0_1 hx0 hi0 ho0_0 hc0 hr) _ (Qy3 p0 H r0 (i0 + 1) (v0_1 ++ [(Qbg x0)]) hd' (by first | omega | (simp; omega)))
def Q5s (p0 : List PodTerm) : Val := vL (p0.map PodTerm.enc)
theorem Q15d (p0 : List PodTerm) : Q5s p0 = ((Qmm (Q47 p0 p0 0 []))) := by
  rw [Qu5]
  rfl
def Q14w (p0 : List PodTerm) : En := .call 263 [.sl (PodTerm.rows p0), .fn 264 [] []] []
def Qqh (p0 : List PodTerm) : Rs := .ret (.agg (Val.cells (Q5s p0))) []
def Qd8 (p0 : List PodTerm) : Prop := LSm PodTerm.sm p0
theorem Qcm (p0 : List PodTerm) (H : Qd8 p0) : (Qfu p0) ∧ (Qn1 (Q47 p0 p0 0 [])) ∧ True := by
  refine ⟨⟨Nat.le_trans H.1 (Nat.le_of_ble_eq_true rfl), H.2, trivial⟩, ⟨?_, trivial⟩, trivial⟩
  rw [Qu5]
  exact Q2x (fun _ h => PodTerm.Q24 h) H
theorem Q17h (p0 : List PodTerm) (H : Qd8 p0) : Q7 G (Q14w p0) (Qqh p0) := by
 unfold Qqh
 rw [Q15d]
 have hl0 := Qy3 p0 ((Qcm p0 H).1) p0 0 [] (by simp) (by simp)
 obtain ⟨z0, zo0, hl0⟩ := hl0
 exact Q8 (fn := Ir.K1g) rfl VOK.nil [hP 3 (Q11 (PodTerm.rows p0) (List.length p0) (PodTerm.Q9 p0)), hS 0 true (Val.Qb (Q47 p0 p0 0 []) 5 rfl), hQ (Val.Q9 (Q47 p0 p0 0 [])).symm] [aV [(1, Val.rows (Q47 p0 p0 0 []))] hl0, aN (Qus (Q47 p0 p0 0 []) (Qcm p0 H).2.1)] (by kernel_rfl)
def Qbj (p0 : SpreadRule) : Val := SpreadRule.enc p0
theorem Q1yt (p0 : SpreadRule) : Qbj p0 = ((Q50 ([(Qw Q1l (Q2c p0.maxSkew)), (Qw Qa (Q5h p0.required)), (Qw Q5 (Q2i p0.selector)), (Qw Qk (Q2h p0.topology))]))) := by
  exact Eq.symm (Q5i (by exact Nat.le_of_ble_eq_true rfl) (by kernel_rfl))
def Q1wf (p0 : SpreadRule) : En := .call 266 [.agg (SpreadRule.cells p0)] []
def Q1nn (p0 : SpreadRule) : Rs := .ret (.agg (Val.cells (Qbj p0))) []
def Q1hi (p0 : SpreadRule) : Prop := SpreadRule.sm p0
theorem Q12y (p0 : SpreadRule) (H : Q1hi p0) : (Q6q p0.selector) ∧ (Q8e ([(Qw Q1l (Q2c p0.maxSkew)), (Qw Qa (Q5h p0.required)), (Qw Q5 (Q2i p0.selector)), (Qw Qk (Q2h p0.topology))])) ∧ True := by
  repeat' with_reducible apply And.intro
  all_goals first | exact True.intro | exact H | exact H.1 | exact H.2.1 | exact H.2.2.1 | exact H.2.2.2.1 | exact H.2.2.2.2.1 | exact H.2.2.2.2.2.1 | exact H.2.2.2.2.2.2.1 | exact H.2.2.2.2.2.2.2.1 | exact H.2.2.2.2.2.2.2.2.1 | exact H.2.2.2.2.2.2.2.2.2.1 | exact H.2.2.2.2.2.2.2.2.2.2.1 | exact H.2.2.2.2.2.2.2.2.2.2.2.1 | exact Q96 (by exact Nat.le_of_ble_eq_true rfl) (SpreadRule.Q24 H).all.2.2.2
theorem Q21a (p0 : SpreadRule) (H : Q1hi p0) : Q7 G (Q1wf p0) (Q1nn p0) := by
 unfold Q1nn
 rw [Q1yt]
 exact Q8 (fn := Ir.K19) rfl VOK.nil [] [aN (Q9u p0.maxSkew), aN (Q3g Q1l (Q2c p0.maxSkew)), aN (Q17o p0.required), aN (Q3g Qa (Q5h p0.required)), aN (Qak p0.selector (Q12y p0 H).1), aN (Q3g Q5 (Q2i p0.selector)), aN (Qe0 p0.topology), aN (Q3g Qk (Q2h p0.topology)), aN (Q4j (e' := .call 78 [.sl [(Fld.cells (Qw Q1l (Q2c p0.maxSkew))), (Fld.cells (Qw Qa (Q5h p0.required))), (Fld.cells (Qw Q5 (Q2i p0.selector))), (Fld.cells (Qw Qk (Q2h p0.topology)))]] []) (Q9v ([(Qw Q1l (Q2c p0.maxSkew)), (Qw Qa (Q5h p0.required)), (Qw Q5 (Q2i p0.selector)), (Qw Qk (Q2h p0.topology))]) (Q12y p0 H).2.1) (by simp only [Q90, Fld.Qy, Fld.Q1b]))] (by kernel_rfl)
def Q48 (p0 : List SpreadRule) : List SpreadRule → Nat → (List Val) → List Val
 | [], _i0, v0_1 =>
  v0_1
 | x0 :: r0, i0, v0_1 =>
  Q48 p0 r0 (i0 + 1) (v0_1 ++ [(Qbj x0)])
theorem Qu6 (p0 : List SpreadRule) : ∀ (l : List SpreadRule) (i : Nat) (a : List Val), Q48 p0 l i a = a ++ l.map (fun x0 => (Qbj x0))
  | [], _, _ => by simp [Q48]
  | x :: r, i, a => by rw [Q48, Qu6 p0 r]; simp
def Qv7 (p0 : List SpreadRule) (i0 : Nat) (v0_1 : List Val) : List PV :=
  [.un, .fn 266 [] [], .un, .un, .bx 0 0, .ms 1 5 0 (List.length v0_1), .un, .un, .sl (SpreadRule.rows p0), .int .i64 ((List.length p0) : Int), .int .i64 (i0 : Int)] ++ nuns 12
def Qht (_p0 : List SpreadRule) (_i0 : Nat) (v0_1 : List Val) : List Ob :=
  [⟨5, 0, true, [.int .i64 0, .int .i64 0, .str eB, .ms 2 5 0 0, .ms 3 6 0 0]⟩, ⟨5, 0, true, (Val.rows v0_1).flatten⟩, ⟨5, 0, true, []⟩, ⟨6, 0, true, []⟩]
def Qey (p0 : List SpreadRule) (i0 : Nat) (v0_1 : List Val) : En := .loop 0 Ir.Qix Ir.Q1fw (Qv7 p0 i0 v0_1) (Qht p0 i0 v0_1)
def Qnt (_p0 : List SpreadRule) (q0 : List Val) (z : Nat → PV) (_zo : Nat → List PV) : St :=
  ⟨[z 0, z 1, z 2, z 3, .bx 0 0, .ms 1 5 0 (List.length q0)] ++ zr z 6 17, [(0, ⟨5, 0, true, [.int .i64 0, .int .i64 0, .str eB, .ms 2 5 0 0, .ms 3 6 0 0]⟩), (1, ⟨5, 0, true, (Val.rows q0).flatten⟩), (2, ⟨5, 0, true, []⟩), (3, ⟨6, 0, true, []⟩)], 68⟩
theorem Q11x (p0 : List SpreadRule) (i0 : Nat) (v0_1 : List Val) : VOK (Go.Pv.look (number 0 (Qht p0 i0 v0_1))) [(1, Val.rows v0_1)] := (VOK.cons (show Seen _ _ from Q3k (ob := ⟨5, 0, true, (Val.rows v0_1).flatten⟩) (Val.Qb v0_1 5 rfl)) VOK.nil)
def Qgo (p0 : List SpreadRule) (e : En) (q : List Val) : Prop := ∃ z zo, Q7 G e (.st (.exit 0) (Qnt p0 q z zo))
theorem Qsa (p0 : List SpreadRule) {e e' : En} (h : ∀ r, Q7 G e r → Q7 G e' r) : ∀ q, Qgo p0 e q → Qgo p0 e' q
  | _, ⟨z, zo, hz⟩ => ⟨z, zo, h _ hz⟩
def Qfv (p0 : List SpreadRule) : Prop := (List.length p0 ≤ 137438953472) ∧ (∀ x0 ∈ p0, Q1hi x0) ∧ True
def Qp7 (p0 : List SpreadRule) (i0 : Nat) (_v0_1 : List Val) : List PV :=
  [.un, .fn 266 [] []] ++ nuns 6 ++ [.sl (SpreadRule.rows p0), .int .i64 ((List.length p0) : Int), .int .i64 (i0 : Int), .bool false]
def Qkd (_p0 : List SpreadRule) (_i0 : Nat) (_v0_1 : List Val) : List (Nat × List PV) :=
  []
theorem Q182 (p0 : List SpreadRule) (_H : Qfv p0) (i0 : Nat) (v0_1 : List Val) (_ho0_0 : List.length v0_1 ≤ i0) (hc0 : (decide ((i0 : Int) < ((List.length p0) : Int))) = false) : Qgo p0 (Qey p0 i0 v0_1) v0_1 := by
 exact ⟨(envF (Qp7 p0 i0 v0_1)), (zoF (Qkd p0 i0 v0_1)), Qm (Q11x p0 i0 v0_1) (x := ((.exit 0), Qnt p0 v0_1 (envF (Qp7 p0 i0 v0_1)) (zoF (Qkd p0 i0 v0_1)))) [hB 0 hc0] [] (by kernel_rfl)⟩
theorem Q161 (p0 : List SpreadRule) (H : Qfv p0) (x0 : SpreadRule) (i0 : Nat) (v0_1 : List Val) (hx0 : p0[i0]? = some x0) (hi0 : i0 < List.length p0) (ho0_0 : List.length v0_1 ≤ i0) (hc0 : (decide ((i0 : Int) < ((List.length p0) : Int))) = true) {r : Rs} (hr : Q7 G (Qey p0 (i0 + 1) (v0_1 ++ [(Qbj x0)])) r) : Q7 G (Qey p0 i0 v0_1) r := by
 have hB0 := H.1
 exact Ql (Q11x p0 i0 v0_1) (y := (Qv7 p0 (i0 + 1) (v0_1 ++ [(Qbj x0)]), Qht p0 (i0 + 1) (v0_1 ++ [(Qbj x0)]))) [hB 0 hc0, hP 0 (Q2s 4 (SpreadRule.rows p0) i0 _ (SpreadRule.Qo hx0) rfl), hV 8 [(644, Val.rows (v0_1 ++ [(Qbj x0)]))] (Q42 1 580 644 5 80 0 0 true (Val.rows v0_1) (Val.rows (v0_1 ++ [(Qbj x0)])) (Val.cells (Qbj x0)) (List.length v0_1) (List.length (v0_1 ++ [(Qbj x0)])) rfl (Val.Q9 v0_1).symm (Val.Q9 (v0_1 ++ [(Qbj x0)])).symm (Val.Q1t v0_1 (Qbj x0)) (Val.Qu v0_1) rfl (by omega)), hS 0 true (Val.Qb (v0_1 ++ [(Qbj x0)]) 5 rfl), hP 1 (Q2g i0 (by omega))] [aN (Q21a x0 (H.2.1 x0 (Q2l hx0)))] (by kernel_rfl) hr
theorem Qy4 (p0 : List SpreadRule) (H : Qfv p0) : ∀ (r0 : List SpreadRule) (i0 : Nat) (v0_1 : List Val), List.drop i0 p0 = r0 → List.length v0_1 ≤ i0 → Qgo p0 (Qey p0 i0 v0_1) (Q48 p0 r0 i0 v0_1)
 | [], i0, v0_1, hd, ho0_0 => by
  have hc0 : (decide ((i0 : Int) < ((List.length p0) : Int))) = false := by have := Q1m hd; simp; omega
  rw [Q48]
  exact Q182 p0 H i0 v0_1 ho0_0 hc0
 | x0 :: r0, i0, v0_1, hd, ho0_0 => by
  obtain ⟨hx0, hi0, hd'⟩ := Q1k hd
  have hc0 : (decide ((i0 : Int) < ((List.length p0) : Int))) = true := by simp; omega
  rw [Q48]
  exact Qsa p0 (fun r hr => Q161 p0 H x0 i0 v0_1 hx0 hi0 ho0_0 hc0 hr) _ (Qy4 p0 H r0 (i0 + 1) (v0_1 ++ [(Qbj x0)]) hd' (by first | omega | (simp; omega)))
def Q5t (p0 : List SpreadRule) : Val := vL (p0.map SpreadRule.enc)
theorem Q15e (p0 : List SpreadRule) : Q5t p0 = ((Qmm (Q48 p0 p0 0 []))) := by
  rw [Qu6]
  rfl
def Q14x (p0 : List SpreadRule) : En := .call 265 [.sl (SpreadRule.rows p0), .fn 266 [] []] []
def Qqi (p0 : List SpreadRule) : Rs := .ret (.agg (Val.cells (Q5t p0))) []
def Qd9 (p0 : List SpreadRule) : Prop := LSm SpreadRule.sm p0
theorem Qcn (p0 : List SpreadRule) (H : Qd9 p0) : (Qfv p0) ∧ (Qn1 (Q48 p0 p0 0 [])) ∧ True := by
  refine ⟨⟨Nat.le_trans H.1 (Nat.le_of_ble_eq_true rfl), H.2, trivial⟩, ⟨?_, trivial⟩, trivial⟩
  rw [Qu6]
  exact Q2x (fun _ h => SpreadRule.Q24 h) H
theorem Q17i (p0 : List SpreadRule) (H : Qd9 p0) : Q7 G (Q14x p0) (Qqi p0) := by
 unfold Qqi
 rw [Q15e]
 have hl0 := Qy4 p0 ((Qcn p0 H).1) p0 0 [] (by simp) (by simp)
 obtain ⟨z0, zo0, hl0⟩ := hl0
 exact Q8 (fn := Ir.K1h) rfl VOK.nil [hP 3 (Q11 (SpreadRule.rows p0) (List.length p0) (SpreadRule.Q9 p0)), hS 0 true (Val.Qb (Q48 p0 p0 0 []) 5 rfl), hQ (Val.Q9 (Q48 p0 p0 0 [])).symm] [aV [(1, Val.rows (Q48 p0 p0 0 []))] hl0, aN (Qus (Q48 p0 p0 0 []) (Qcn p0 H).2.1)] (by kernel_rfl)
def Qbk (p0 : Toleration) : Val := Toleration.enc p0
theorem Q1yu (p0 : Toleration) : Qbk p0 = ((Q50 ([(Qw Q27 (Q2c p0.effect)), (Qw Q22 (Q5h p0.exists_)), (Qw Qz (Q2h p0.key)), (Qw Q1z (Q2c p0.seconds)), (Qw Q13 (Q2h p0.value))]))) := by
  exact Eq.symm (Q5i (by exact Nat.le_of_ble_eq_true rfl) (by kernel_rfl))
def Q1wg (p0 : Toleration) : En := .call 268 [.agg (Toleration.cells p0)] []
def Q1no (p0 : Toleration) : Rs := .ret (.agg (Val.cells (Qbk p0))) []
def Q1hj (p0 : Toleration) : Prop := Toleration.sm p0
theorem Q1dz (p0 : Toleration) (H : Q1hj p0) : (Q8e ([(Qw Q27 (Q2c p0.effect)), (Qw Q22 (Q5h p0.exists_)), (Qw Qz (Q2h p0.key)), (Qw Q1z (Q2c p0.seconds)), (Qw Q13 (Q2h p0.value))])) ∧ True := by
  repeat' with_reducible apply And.intro
  all_goals first | exact True.intro | exact H | exact H.1 | exact H.2.1 | exact H.2.2.1 | exact H.2.2.2.1 | exact H.2.2.2.2.1 | exact H.2.2.2.2.2.1 | exact H.2.2.2.2.2.2.1 | exact H.2.2.2.2.2.2.2.1 | exact H.2.2.2.2.2.2.2.2.1 | exact H.2.2.2.2.2.2.2.2.2.1 | exact H.2.2.2.2.2.2.2.2.2.2.1 | exact H.2.2.2.2.2.2.2.2.2.2.2.1 | exact Q96 (by exact Nat.le_of_ble_eq_true rfl) (Toleration.Q24 H).all.2.2.2
theorem Q21b (p0 : Toleration) (H : Q1hj p0) : Q7 G (Q1wg p0) (Q1no p0) := by
 unfold Q1no
 rw [Q1yu]
 exact Q8 (fn := Ir.K1a) rfl VOK.nil [] [aN (Q9u p0.effect), aN (Q3g Q27 (Q2c p0.effect)), aN (Q17o p0.exists_), aN (Q3g Q22 (Q5h p0.exists_)), aN (Qe0 p0.key), aN (Q3g Qz (Q2h p0.key)), aN (Q9u p0.seconds), aN (Q3g Q1z (Q2c p0.seconds)), aN (Qe0 p0.value), aN (Q3g Q13 (Q2h p0.value)), aN (Q4j (e' := .call 78 [.sl [(Fld.cells (Qw Q27 (Q2c p0.effect))), (Fld.cells (Qw Q22 (Q5h p0.exists_))), (Fld.cells (Qw Qz (Q2h p0.key))), (Fld.cells (Qw Q1z (Q2c p0.seconds))), (Fld.cells (Qw Q13 (Q2h p0.value)))]] []) (Q9v ([(Qw Q27 (Q2c p0.effect)), (Qw Q22 (Q5h p0.exists_)), (Qw Qz (Q2h p0.key)), (Qw Q1z (Q2c p0.seconds)), (Qw Q13 (Q2h p0.value))]) (Q1dz p0 H).1) (by simp only [Q90, Fld.Qy, Fld.Q1b]))] (by kernel_rfl)
def Q49 (p0 : List Toleration) : List Toleration → Nat → (List Val) → List Val
 | [], _i0, v0_1 =>
  v0_1
 | x0 :: r0, i0, v0_1 =>
  Q49 p0 r0 (i0 + 1) (v0_1 ++ [(Qbk x0)])
theorem Qu7 (p0 : List Toleration) : ∀ (l : List Toleration) (i : Nat) (a : List Val), Q49 p0 l i a = a ++ l.map (fun x0 => (Qbk x0))
  | [], _, _ => by simp [Q49]
  | x :: r, i, a => by rw [Q49, Qu7 p0 r]; simp
def Qv8 (p0 : List Toleration) (i0 : Nat) (v0_1 : List Val) : List PV :=
  [.un, .fn 268 [] [], .un, .un, .bx 0 0, .ms 1 5 0 (List.length v0_1), .un, .un, .sl (Toleration.rows p0), .int .i64 ((List.length p0) : Int), .int .i64 (i0 : Int)] ++ nuns 12
def Qhu (_p0 : List Toleration) (_i0 : Nat) (v0_1 : List Val) : List Ob :=
  [⟨5, 0, true, [.int .i64 0, .int .i64 0, .str eB, .ms 2 5 0 0, .ms 3 6 0 0]⟩, ⟨5, 0, true, (Val.rows v0_1).flatten⟩, ⟨5, 0, true, []⟩, ⟨6, 0, true, []⟩]
def Qez (p0 : List Toleration) (i0 : Nat) (v0_1 : List Val) : En := .loop 0 Ir.Qiy Ir.Q1fx (Qv8 p0 i0 v0_1) (Qhu p0 i0 v0_1)
def Qnu (_p0 : List Toleration) (q0 : List Val) (z : Nat → PV) (_zo : Nat → List PV) : St :=
  ⟨[z 0, z 1, z 2, z 3, .bx 0 0, .ms 1 5 0 (List.length q0)] ++ zr z 6 17, [(0, ⟨5, 0, true, [.int .i64 0, .int .i64 0, .str eB, .ms 2 5 0 0, .ms 3 6 0 0]⟩), (1, ⟨5, 0, true, (Val.rows q0).flatten⟩), (2, ⟨5, 0, true, []⟩), (3, ⟨6, 0, true, []⟩)], 68⟩
theorem Q11y (p0 : List Toleration) (i0 : Nat) (v0_1 : List Val) : VOK (Go.Pv.look (number 0 (Qhu p0 i0 v0_1))) [(1, Val.rows v0_1)] := (VOK.cons (show Seen _ _ from Q3k (ob := ⟨5, 0, true, (Val.rows v0_1).flatten⟩) (Val.Qb v0_1 5 rfl)) VOK.nil)
def Qgp (p0 : List Toleration) (e : En) (q : List Val) : Prop := ∃ z zo, Q7 G e (.st (.exit 0) (Qnu p0 q z zo))
theorem Qsb (p0 : List Toleration) {e e' : En} (h : ∀ r, Q7 G e r → Q7 G e' r) : ∀ q, Qgp p0 e q → Qgp p0 e' q
  | _, ⟨z, zo, hz⟩ => ⟨z, zo, h _ hz⟩
def Qfw (p0 : List Toleration) : Prop := (List.length p0 ≤ 137438953472) ∧ (∀ x0 ∈ p0, Q1hj x0) ∧ True
def Qp8 (p0 : List Toleration) (i0 : Nat) (_v0_1 : List Val) : List PV :=
  [.un, .fn 268 [] []] ++ nuns 6 ++ [.sl (Toleration.rows p0), .int .i64 ((List.length p0) : Int), .int .i64 (i0 : Int), .bool false]
def Qke (_p0 : List Toleration) (_i0 : Nat) (_v0_1 : List Val) : List (Nat × List PV) :=
  []
theorem Q183 (p0 : List Toleration) (_H : Qfw p0) (i0 : Nat) (v0_1 : List Val) (_ho0_0 : List.length v0_1 ≤ i0) (hc0 : (decide ((i0 : Int) < ((List.length p0) : Int))) = false) : Qgp p0 (Qez p0 i0 v0_1) v0_1 := by
 exact ⟨(envF (Qp8 p0 i0 v0_1)), (zoF (Qke p0 i0 v0_1)), Qm (Q11y p0 i0 v0_1) (x := ((.exit 0), Qnu p0 v0_1 (envF (Qp8 p0 i0 v0_1)) (zoF (Qke p0 i0 v0_1)))) [hB 0 hc0] [] (by kernel_rfl)⟩
theorem Q162 (p0 : List Toleration) (H : Qfw p0) (x0 : Toleration) (i0 : Nat) (v0_1 : List Val) (hx0 : p0[i0]? = some x0) (hi0 : i0 < List.length p0) (ho0_0 : List.length v0_1 ≤ i0) (hc0 : (decide ((i0 : Int) < ((List.length p0) : Int))) = true) {r : Rs} (hr : Q7 G (Qez p0 (i0 + 1) (v0_1 ++ [(Qbk x0)])) r) : Q7 G (Qez p0 i0 v0_1) r := by
 have hB0 := H.1
 exact Ql (Q11y p0 i0 v0_1) (y := (Qv8 p0 (i0 + 1) (v0_1 ++ [(Qbk x0)]), Qhu p0 (i0 + 1) (v0_1 ++ [(Qbk x0)]))) [hB 0 hc0, hP 0 (Q2s 5 (Toleration.rows p0) i0 _ (Toleration.Qo hx0) rfl), hV 8 [(644, Val.rows (v0_1 ++ [(Qbk x0)]))] (Q42 1 580 644 5 80 0 0 true (Val.rows v0_1) (Val.rows (v0_1 ++ [(Qbk x0)])) (Val.cells (Qbk x0)) (List.length v0_1) (List.length (v0_1 ++ [(Qbk x0)])) rfl (Val.Q9 v0_1).symm (Val.Q9 (v0_1 ++ [(Qbk x0)])).symm (Val.Q1t v0_1 (Qbk x0)) (Val.Qu v0_1) rfl (by omega)), hS 0 true (Val.Qb (v0_1 ++ [(Qbk x0)]) 5 rfl), hP 1 (Q2g i0 (by omega))] [aN (Q21b x0 (H.2.1 x0 (Q2l hx0)))] (by kernel_rfl) hr
theorem Qy5 (p0 : List Toleration) (H : Qfw p0) : ∀ (r0 : List Toleration) (i0 : Nat) (v0_1 : List Val), List.drop i0 p0 = r0 → List.length v0_1 ≤ i0 → Qgp p0 (Qez p0 i0 v0_1) (Q49 p0 r0 i0 v0_1)
 | [], i0, v0_1, hd, ho0_0 => by
  have hc0 : (decide ((i0 : Int) < ((List.length p0) : Int))) = false := by have := Q1m hd; simp; omega
  rw [Q49]
  exact Q183 p0 H i0 v0_1 ho0_0 hc0
 | x0 :: r0, i0, v0_1, hd, ho0_0 => by
  obtain ⟨hx0, hi0, hd'⟩ := Q1k hd
  have hc0 : (decide ((i0 : Int) < ((List.length p0) : Int))) = true := by simp; omega
  rw [Q49]
  exact Qsb p0 (fun r hr => Q162 p0 H x0 i0 v0_1 hx0 hi0 ho0_0 hc0 hr) _ (Qy5 p0 H r0 (i0 + 1) (v0_1 ++ [(Qbk x0)]) hd' (by first | omega | (simp; omega)))
def Q5u (p0 : List Toleration) : Val := vL (p0.map Toleration.enc)
theorem Q15f (p0 : List Toleration) : Q5u p0 = ((Qmm (Q49 p0 p0 0 []))) := by
  rw [Qu7]
  rfl
def Q14y (p0 : List Toleration) : En := .call 267 [.sl (Toleration.rows p0), .fn 268 [] []] []
def Qqj (p0 : List Toleration) : Rs := .ret (.agg (Val.cells (Q5u p0))) []
def Qda (p0 : List Toleration) : Prop := LSm Toleration.sm p0
theorem Qco (p0 : List Toleration) (H : Qda p0) : (Qfw p0) ∧ (Qn1 (Q49 p0 p0 0 [])) ∧ True := by
  refine ⟨⟨Nat.le_trans H.1 (Nat.le_of_ble_eq_true rfl), H.2, trivial⟩, ⟨?_, trivial⟩, trivial⟩
  rw [Qu7]
  exact Q2x (fun _ h => Toleration.Q24 h) H
theorem Q17j (p0 : List Toleration) (H : Qda p0) : Q7 G (Q14y p0) (Qqj p0) := by
 unfold Qqj
 rw [Q15f]
 have hl0 := Qy5 p0 ((Qco p0 H).1) p0 0 [] (by simp) (by simp)
 obtain ⟨z0, zo0, hl0⟩ := hl0
 exact Q8 (fn := Ir.K1i) rfl VOK.nil [hP 3 (Q11 (Toleration.rows p0) (List.length p0) (Toleration.Q9 p0)), hS 0 true (Val.Qb (Q49 p0 p0 0 []) 5 rfl), hQ (Val.Q9 (Q49 p0 p0 0 [])).symm] [aV [(1, Val.rows (Q49 p0 p0 0 []))] hl0, aN (Qus (Q49 p0 p0 0 []) (Qco p0 H).2.1)] (by kernel_rfl)
def Q112 (p0 : PodSpec) : Val := PodSpec.enc p0
theorem Q1ys (p0 : PodSpec) : Q112 p0 = ((Q50 ([(Qw Q1d (Q5q p0.containers)), (Qw Q2o (Q2c p0.grace)), (Qw Q2r (Q2h p0.node)), (Qw Q19 (Q2i p0.nodeSelector)), (Qw Q1v (Q5r p0.nodeTerms)), (Qw Q2d (Q5s p0.podTerms)), (Qw Q1f (Q2c p0.priority)), (Qw Q1r (Q2c p0.restart)), (Qw Q33 (Q5t p0.spread)), (Qw Q26 (Q5u p0.tolerations))]))) := by
  exact Eq.symm (Q5i (by exact Nat.le_of_ble_eq_true rfl) (by kernel_rfl))
def Q1we (p0 : PodSpec) : En := .call 229 [.agg (PodSpec.cells p0)] []
def Q1nm (p0 : PodSpec) : Rs := .ret (.agg (Val.cells (Q112 p0))) []
def Q1hh (p0 : PodSpec) : Prop := PodSpec.sm p0
theorem Q8q (p0 : PodSpec) (H : Q1hh p0) : (Qd6 p0.containers) ∧ (Q6q p0.nodeSelector) ∧ (Qd7 p0.nodeTerms) ∧ (Qd8 p0.podTerms) ∧ (Qd9 p0.spread) ∧ (Qda p0.tolerations) ∧ (Q8e ([(Qw Q1d (Q5q p0.containers)), (Qw Q2o (Q2c p0.grace)), (Qw Q2r (Q2h p0.node)), (Qw Q19 (Q2i p0.nodeSelector)), (Qw Q1v (Q5r p0.nodeTerms)), (Qw Q2d (Q5s p0.podTerms)), (Qw Q1f (Q2c p0.priority)), (Qw Q1r (Q2c p0.restart)), (Qw Q33 (Q5t p0.spread)), (Qw Q26 (Q5u p0.tolerations))])) ∧ True := by
  repeat' with_reducible apply And.intro
  all_goals first | exact True.intro | exact H | exact H.1 | exact H.2.1 | exact H.2.2.1 | exact H.2.2.2.1 | exact H.2.2.2.2.1 | exact H.2.2.2.2.2.1 | exact H.2.2.2.2.2.2.1 | exact H.2.2.2.2.2.2.2.1 | exact H.2.2.2.2.2.2.2.2.1 | exact H.2.2.2.2.2.2.2.2.2.1 | exact H.2.2.2.2.2.2.2.2.2.2.1 | exact H.2.2.2.2.2.2.2.2.2.2.2.1 | exact Q96 (by exact Nat.le_of_ble_eq_true rfl) (PodSpec.Q24 H).all.2.2.2
theorem Q219 (p0 : PodSpec) (H : Q1hh p0) : Q7 G (Q1we p0) (Q1nm p0) := by
 unfold Q1nm
 rw [Q1ys]
 exact Q8 (fn := Ir.K18) rfl VOK.nil [] [aN (Q17f p0.containers (Q8q p0 H).1), aN (Q3g Q1d (Q5q p0.containers)), aN (Q9u p0.grace), aN (Q3g Q2o (Q2c p0.grace)), aN (Qe0 p0.node), aN (Q3g Q2r (Q2h p0.node)), aN (Qak p0.nodeSelector (Q8q p0 H).2.1), aN (Q3g Q19 (Q2i p0.nodeSelector)), aN (Q17g p0.nodeTerms (Q8q p0 H).2.2.1), aN (Q3g Q1v (Q5r p0.nodeTerms)), aN (Q17h p0.podTerms (Q8q p0 H).2.2.2.1), aN (Q3g Q2d (Q5s p0.podTerms)), aN (Q9u p0.priority), aN (Q3g Q1f (Q2c p0.priority)), aN (Q9u p0.restart), aN (Q3g Q1r (Q2c p0.restart)), aN (Q17i p0.spread (Q8q p0 H).2.2.2.2.1), aN (Q3g Q33 (Q5t p0.spread)), aN (Q17j p0.tolerations (Q8q p0 H).2.2.2.2.2.1), aN (Q3g Q26 (Q5u p0.tolerations)), aN (Q4j (e' := .call 78 [.sl [(Fld.cells (Qw Q1d (Q5q p0.containers))), (Fld.cells (Qw Q2o (Q2c p0.grace))), (Fld.cells (Qw Q2r (Q2h p0.node))), (Fld.cells (Qw Q19 (Q2i p0.nodeSelector))), (Fld.cells (Qw Q1v (Q5r p0.nodeTerms))), (Fld.cells (Qw Q2d (Q5s p0.podTerms))), (Fld.cells (Qw Q1f (Q2c p0.priority))), (Fld.cells (Qw Q1r (Q2c p0.restart))), (Fld.cells (Qw Q33 (Q5t p0.spread))), (Fld.cells (Qw Q26 (Q5u p0.tolerations)))]] []) (Q9v ([(Qw Q1d (Q5q p0.containers)), (Qw Q2o (Q2c p0.grace)), (Qw Q2r (Q2h p0.node)), (Qw Q19 (Q2i p0.nodeSelector)), (Qw Q1v (Q5r p0.nodeTerms)), (Qw Q2d (Q5s p0.podTerms)), (Qw Q1f (Q2c p0.priority)), (Qw Q1r (Q2c p0.restart)), (Qw Q33 (Q5t p0.spread)), (Qw Q26 (Q5u p0.tolerations))]) (Q8q p0 H).2.2.2.2.2.2.1) (by simp only [Q90, Fld.Qy, Fld.Q1b]))] (by kernel_rfl)
def s_K9 (p0 : Template) : Val := Template.enc p0
theorem e_K9 (p0 : Template) : s_K9 p0 = ((Q50 ([(Qw Q1x (Q5p p0.labels)), (Qw Q2w (Q112 p0.spec))]))) := by
  exact Eq.symm (Q5i (by exact Nat.le_of_ble_eq_true rfl) (by kernel_rfl))
def c_K9 (p0 : Template) : En := .call 191 [.agg (Template.cells p0)] []
def a_K9 (p0 : Template) : Rs := .ret (.agg (Val.cells (s_K9 p0))) []
def H_K9 (p0 : Template) : Prop := Template.sm p0
theorem Q109 (p0 : Template) (H : H_K9 p0) : (Qd5 p0.labels) ∧ (Q1hh p0.spec) ∧ (Q8e ([(Qw Q1x (Q5p p0.labels)), (Qw Q2w (Q112 p0.spec))])) ∧ True := by
  repeat' with_reducible apply And.intro
  all_goals first | exact True.intro | exact H | exact H.1 | exact H.2.1 | exact H.2.2.1 | exact H.2.2.2.1 | exact H.2.2.2.2.1 | exact H.2.2.2.2.2.1 | exact H.2.2.2.2.2.2.1 | exact H.2.2.2.2.2.2.2.1 | exact H.2.2.2.2.2.2.2.2.1 | exact H.2.2.2.2.2.2.2.2.2.1 | exact H.2.2.2.2.2.2.2.2.2.2.1 | exact H.2.2.2.2.2.2.2.2.2.2.2.1 | exact Q96 (by exact Nat.le_of_ble_eq_true rfl) (Template.Q24 H).all.2.2.2
theorem t_K9 (p0 : Template) (H : H_K9 p0) : Q7 G (c_K9 p0) (a_K9 p0) := by
 unfold a_K9
 rw [e_K9]
 exact Q8 (fn := Ir.K9) rfl VOK.nil [] [aN (Q17e p0.labels (Q109 p0 H).1), aN (Q3g Q1x (Q5p p0.labels)), aN (Q219 p0.spec (Q109 p0 H).2.1), aN (Q3g Q2w (Q112 p0.spec)), aN (Q4j (e' := .call 78 [.sl [(Fld.cells (Qw Q1x (Q5p p0.labels))), (Fld.cells (Qw Q2w (Q112 p0.spec)))]] []) (Q9v ([(Qw Q1x (Q5p p0.labels)), (Qw Q2w (Q112 p0.spec))]) (Q109 p0 H).2.2.1) (by simp only [Q90, Fld.Qy, Fld.Q1b]))] (by kernel_rfl)
end Go.Proofs.YtimjjohlpnkacaaGreat
end

section
/- What the program's encoders compute (printed by a program). -/
namespace Go.Proofs.YtimjjohlpnkacaaGreat
open Go.Pv
def Q17c (p0 : BA) (p1 : Meta) (p2 : Val) (p3 : Val) : Object :=
 (Object.mk (Meta.mk p0 p1.namespace_ p1.name p1.uid p1.version p1.generation p1.created p1.deleting p1.deleteAt p1.labels p1.owners p1.finalizers p1.managers) p2 p3)
def Q1ya (p0 : BA) (p1 : Meta) (p2 : Val) (p3 : Val) : En := .call 85 [.str p0, .agg (Meta.cells p1), .agg (Val.cells p2), .agg (Val.cells p3)] []
def Q1pk (p0 : BA) (p1 : Meta) (p2 : Val) (p3 : Val) : Rs := .ret (.agg (Object.cells (Q17c p0 p1 p2 p3))) []
def Q1dg (_p0 : BA) (p1 : Meta) (_p2 : Val) (_p3 : Val) : Prop := (Qeg p1) ∧ True
theorem Q1je (p0 : BA) (p1 : Meta) (p2 : Val) (p3 : Val) (H : Q1dg p0 p1 p2 p3) : Q7 G (Q1ya p0 p1 p2 p3) (Q1pk p0 p1 p2 p3) := by
 unfold Q1pk Q17c
 exact Q8 (fn := Ir.K76) rfl VOK.nil [] [aN (Q1fn p1 H.1)] (by kernel_rfl)
theorem Q1bj {k : ByteArray} {m : Meta} {a p : List Fld} {t : Val} (ha : a.length ≤ 20) (h1 : mapOf a = p) : Q17c k m (Q50 a) t = ⟨{ m with kind := k }, vM p, t⟩ := by
  rw [Quv ha h1]
  rfl
def Q9s (p0 : BA) (p1 : Val) : Fld := .mk p0 p1
theorem Q209 (p0 : BA) (p1 : Val) : Q9s p0 p1 = ((Fld.mk p0 p1)) := by
  rfl
def Q1yc (p0 : BA) (p1 : Val) : En := .call 83 [.str p0, .agg (Val.cells p1)] []
def Q1pm (p0 : BA) (p1 : Val) : Rs := .ret (.agg (Fld.cells (Q9s p0 p1))) []
theorem Q118 (p0 : BA) (p1 : Val) : Q7 G (Q1yc p0 p1) (Q1pm p0 p1) := by
 unfold Q1pm
 rw [Q209]
 exact Q8 (fn := Ir.K78) rfl VOK.nil [] [] (by kernel_rfl)
def Q2k (p0 : BA) (p1 : Int) : Fld := .mk p0 (vN p1)
theorem Q207 (p0 : BA) (p1 : Int) : Q2k p0 p1 = ((Q9s p0 (Q2c p1))) := by
  rfl
def Q1y9 (p0 : BA) (p1 : Int) : En := .call 79 [.str p0, .int .i64 p1] []
def Q1pj (p0 : BA) (p1 : Int) : Rs := .ret (.agg (Fld.cells (Q2k p0 p1))) []
theorem Qbp (p0 : BA) (p1 : Int) : Q7 G (Q1y9 p0 p1) (Q1pj p0 p1) := by
 unfold Q1pj
 rw [Q207]
 exact Q8 (fn := Ir.K75) rfl VOK.nil [] [aN (Q9u p1), aN (Q118 p0 (Q2c p1))] (by kernel_rfl)
def Q17d (p0 : BA) (p1 : BA) : Fld := .mk p0 (vS p1)
theorem Q20b (p0 : BA) (p1 : BA) : Q17d p0 p1 = ((Q9s p0 (Q2h p1))) := by
  rfl
def Q1yh (p0 : BA) (p1 : BA) : En := .call 95 [.str p0, .str p1] []
def Q1pr (p0 : BA) (p1 : BA) : Rs := .ret (.agg (Fld.cells (Q17d p0 p1))) []
theorem Q225 (p0 : BA) (p1 : BA) : Q7 G (Q1yh p0 p1) (Q1pr p0 p1) := by
 unfold Q1pr
 rw [Q20b]
 exact Q8 (fn := Ir.K7m) rfl VOK.nil [] [aN (Qe0 p1), aN (Q118 p0 (Q2h p1))] (by kernel_rfl)
def Q5e (p0 : List ByteArray) : List ByteArray → Nat → (List Val) → List Val
 | [], _i0, v0_1 =>
  v0_1
 | x0 :: r0, i0, v0_1 =>
  Q5e p0 r0 (i0 + 1) (v0_1 ++ [(Q2h x0)])
theorem Q14c (p0 : List ByteArray) : ∀ (l : List ByteArray) (i : Nat) (a : List Val), Q5e p0 l i a = a ++ l.map (fun x0 => (Q2h x0))
  | [], _, _ => by simp [Q5e]
  | x :: r, i, a => by rw [Q5e, Q14c p0 r]; simp
def Qw3 (p0 : List ByteArray) (i0 : Nat) (v0_1 : List Val) : List PV :=
  [.un, .fn 193 [] [], .un, .un, .bx 0 0, .ms 1 5 0 (List.length v0_1), .un, .un, .sl (Qn p0), .int .i64 ((List.length p0) : Int), .int .i64 (i0 : Int)] ++ nuns 12
def Qig (_p0 : List ByteArray) (_i0 : Nat) (v0_1 : List Val) : List Ob :=
  [⟨5, 0, true, [.int .i64 0, .int .i64 0, .str eB, .ms 2 5 0 0, .ms 3 6 0 0]⟩, ⟨5, 0, true, (Val.rows v0_1).flatten⟩, ⟨5, 0, true, []⟩, ⟨6, 0, true, []⟩]
def Qfp (p0 : List ByteArray) (i0 : Nat) (v0_1 : List Val) : En := .loop 0 Ir.Qjw Ir.Q1gv (Qw3 p0 i0 v0_1) (Qig p0 i0 v0_1)
def Qoq (_p0 : List ByteArray) (q0 : List Val) (z : Nat → PV) (_zo : Nat → List PV) : St :=
  ⟨[z 0, z 1, z 2, z 3, .bx 0 0, .ms 1 5 0 (List.length q0)] ++ zr z 6 17, [(0, ⟨5, 0, true, [.int .i64 0, .int .i64 0, .str eB, .ms 2 5 0 0, .ms 3 6 0 0]⟩), (1, ⟨5, 0, true, (Val.rows q0).flatten⟩), (2, ⟨5, 0, true, []⟩), (3, ⟨6, 0, true, []⟩)], 68⟩
theorem Q12i (p0 : List ByteArray) (i0 : Nat) (v0_1 : List Val) : VOK (Go.Pv.look (number 0 (Qig p0 i0 v0_1))) [(1, Val.rows v0_1)] := (VOK.cons (show Seen _ _ from Q3k (ob := ⟨5, 0, true, (Val.rows v0_1).flatten⟩) (Val.Qb v0_1 5 rfl)) VOK.nil)
def Qh8 (p0 : List ByteArray) (e : En) (q : List Val) : Prop := ∃ z zo, Q7 G e (.st (.exit 0) (Qoq p0 q z zo))
theorem Qt6 (p0 : List ByteArray) {e e' : En} (h : ∀ r, Q7 G e r → Q7 G e' r) : ∀ q, Qh8 p0 e q → Qh8 p0 e' q
  | _, ⟨z, zo, hz⟩ => ⟨z, zo, h _ hz⟩
def Qgg (p0 : List ByteArray) : Prop := (List.length p0 ≤ 137438953472) ∧ True
def Qqc (p0 : List ByteArray) (i0 : Nat) (_v0_1 : List Val) : List PV :=
  [.un, .fn 193 [] []] ++ nuns 6 ++ [.sl (Qn p0), .int .i64 ((List.length p0) : Int), .int .i64 (i0 : Int), .bool false]
def Qli (_p0 : List ByteArray) (_i0 : Nat) (_v0_1 : List Val) : List (Nat × List PV) :=
  []
theorem Q197 (p0 : List ByteArray) (_H : Qgg p0) (i0 : Nat) (v0_1 : List Val) (_ho0_0 : List.length v0_1 ≤ i0) (hc0 : (decide ((i0 : Int) < ((List.length p0) : Int))) = false) : Qh8 p0 (Qfp p0 i0 v0_1) v0_1 := by
 exact ⟨(envF (Qqc p0 i0 v0_1)), (zoF (Qli p0 i0 v0_1)), Qm (Q12i p0 i0 v0_1) (x := ((.exit 0), Qoq p0 v0_1 (envF (Qqc p0 i0 v0_1)) (zoF (Qli p0 i0 v0_1)))) [hB 0 hc0] [] (by kernel_rfl)⟩
theorem Q172 (p0 : List ByteArray) (H : Qgg p0) (x0 : BA) (i0 : Nat) (v0_1 : List Val) (hx0 : p0[i0]? = some x0) (hi0 : i0 < List.length p0) (ho0_0 : List.length v0_1 ≤ i0) (hc0 : (decide ((i0 : Int) < ((List.length p0) : Int))) = true) {r : Rs} (hr : Q7 G (Qfp p0 (i0 + 1) (v0_1 ++ [(Q2h x0)])) r) : Q7 G (Qfp p0 i0 v0_1) r := by
 have hB0 := H.1
 exact Ql (Q12i p0 i0 v0_1) (y := (Qw3 p0 (i0 + 1) (v0_1 ++ [(Q2h x0)]), Qig p0 (i0 + 1) (v0_1 ++ [(Q2h x0)]))) [hB 0 hc0, hP 0 (Q2s 1 (Qn p0) i0 _ (Q88 hx0) rfl), hV 7 [(580, Val.rows (v0_1 ++ [(Q2h x0)]))] (Q42 1 516 580 5 80 0 0 true (Val.rows v0_1) (Val.rows (v0_1 ++ [(Q2h x0)])) (Val.cells (Q2h x0)) (List.length v0_1) (List.length (v0_1 ++ [(Q2h x0)])) rfl (Val.Q9 v0_1).symm (Val.Q9 (v0_1 ++ [(Q2h x0)])).symm (Val.Q1t v0_1 (Q2h x0)) (Val.Qu v0_1) rfl (by omega)), hS 0 true (Val.Qb (v0_1 ++ [(Q2h x0)]) 5 rfl), hP 1 (Q2g i0 (by omega))] [aN (Qe0 x0)] (by kernel_rfl) hr
theorem Qz0 (p0 : List ByteArray) (H : Qgg p0) : ∀ (r0 : List ByteArray) (i0 : Nat) (v0_1 : List Val), List.drop i0 p0 = r0 → List.length v0_1 ≤ i0 → Qh8 p0 (Qfp p0 i0 v0_1) (Q5e p0 r0 i0 v0_1)
 | [], i0, v0_1, hd, ho0_0 => by
  have hc0 : (decide ((i0 : Int) < ((List.length p0) : Int))) = false := by have := Q1m hd; simp; omega
  rw [Q5e]
  exact Q197 p0 H i0 v0_1 ho0_0 hc0
 | x0 :: r0, i0, v0_1, hd, ho0_0 => by
  obtain ⟨hx0, hi0, hd'⟩ := Q1k hd
  have hc0 : (decide ((i0 : Int) < ((List.length p0) : Int))) = true := by simp; omega
  rw [Q5e]
  exact Qt6 p0 (fun r hr => Q172 p0 H x0 i0 v0_1 hx0 hi0 ho0_0 hc0 hr) _ (Qz0 p0 H r0 (i0 + 1) (v0_1 ++ [(Q2h x0)]) hd' (by first | omega | (simp; omega)))
def Q5w (p0 : List ByteArray) : Val := vL (p0.map vS)
theorem Q15j (p0 : List ByteArray) : Q5w p0 = ((Val.mk 4 0 eB (Q5e p0 p0 0 []) [])) := by
  rw [Q14c]
  rfl
def Q155 (p0 : List ByteArray) : En := .call 225 [.sl (Qn p0), .fn 193 [] []] []
def Qqq (p0 : List ByteArray) : Rs := .ret (.agg (Val.cells (Q5w p0))) []
def Qdd (p0 : List ByteArray) : Prop := LSm (fun _ : ByteArray => True) p0
theorem Qtu (p0 : List ByteArray) (H : Qdd p0) : (Qgg p0) ∧ True := by
  exact ⟨⟨Nat.le_trans H.1 (Nat.le_of_ble_eq_true rfl), trivial⟩, trivial⟩
theorem Q17q (p0 : List ByteArray) (H : Qdd p0) : Q7 G (Q155 p0) (Qqq p0) := by
 unfold Qqq
 rw [Q15j]
 have hl0 := Qz0 p0 ((Qtu p0 H).1) p0 0 [] (by simp) (by simp)
 obtain ⟨z0, zo0, hl0⟩ := hl0
 exact Q8 (fn := Ir.K73) rfl VOK.nil [hP 3 (Q11 (Qn p0) (List.length p0) (Q2f p0)), hS 0 true (Val.Qb (Q5e p0 p0 0 []) 5 rfl), hQ (Val.Q9 (Q5e p0 p0 0 [])).symm] [aV [(1, Val.rows (Q5e p0 p0 0 []))] hl0] (by kernel_rfl)
def Qbl (p0 : Requirement) : Val := Requirement.enc p0
theorem Q205 (p0 : Requirement) : Qbl p0 = ((Q50 ([(Q17d Qz p0.key), (Q2k Q3w p0.op), (Q9s Q1g (Q5w p0.values))]))) := by
  exact Eq.symm (Quv (by exact Nat.le_of_ble_eq_true rfl) (by kernel_rfl))
def Q1y7 (p0 : Requirement) : En := .call 224 [.agg (Requirement.cells p0)] []
def Q1ph (p0 : Requirement) : Rs := .ret (.agg (Val.cells (Qbl p0))) []
def Q1i6 (p0 : Requirement) : Prop := Requirement.sm p0
theorem Q139 (p0 : Requirement) (H : Q1i6 p0) : (Qdd p0.values) ∧ (Q8e ([(Q17d Qz p0.key), (Q2k Q3w p0.op), (Q9s Q1g (Q5w p0.values))])) ∧ True := by
  exact ⟨(by first | exact True.intro | exact H | exact H.1), Q96 (by exact Nat.le_of_ble_eq_true rfl) (List.forall_mem_cons.2 ⟨Val.Sm.leaf _ _ _, List.forall_mem_cons.2 ⟨Val.Sm.leaf _ _ _, List.forall_mem_cons.2 ⟨Q2x (fun _ h => Val.Sm.leaf _ _ _) H.1, List.forall_mem_nil _⟩⟩⟩), trivial⟩
theorem Q221 (p0 : Requirement) (H : Q1i6 p0) : Q7 G (Q1y7 p0) (Q1ph p0) := by
 unfold Q1ph
 rw [Q205]
 exact Q8 (fn := Ir.K6w) rfl VOK.nil [] [aN (Q225 Qz p0.key), aN (Qbp Q3w p0.op), aN (Q17q p0.values (Q139 p0 H).1), aN (Q118 Q1g (Q5w p0.values)), aN (Q4j (e' := .call 78 [.sl [(Fld.cells (Q17d Qz p0.key)), (Fld.cells (Q2k Q3w p0.op)), (Fld.cells (Q9s Q1g (Q5w p0.values)))]] []) (Q9v ([(Q17d Qz p0.key), (Q2k Q3w p0.op), (Q9s Q1g (Q5w p0.values))]) (Q139 p0 H).2.1) (by simp only [Q90, Fld.Qy, Fld.Q1b]))] (by kernel_rfl)
def Q5d (p0 : List Requirement) : List Requirement → Nat → (List Val) → List Val
 | [], _i0, v0_1 =>
  v0_1
 | x0 :: r0, i0, v0_1 =>
  Q5d p0 r0 (i0 + 1) (v0_1 ++ [(Qbl x0)])
theorem Q14b (p0 : List Requirement) : ∀ (l : List Requirement) (i : Nat) (a : List Val), Q5d p0 l i a = a ++ l.map (fun x0 => (Qbl x0))
  | [], _, _ => by simp [Q5d]
  | x :: r, i, a => by rw [Q5d, Q14b p0 r]; simp
def Qw2 (p0 : List Requirement) (i0 : Nat) (v0_1 : List Val) : List PV :=
  [.un, .fn 224 [] [], .un, .un, .bx 0 0, .ms 1 5 0 (List.length v0_1), .un, .un, .sl (Requirement.rows p0), .int .i64 ((List.length p0) : Int), .int .i64 (i0 : Int)] ++ nuns 12
def Qif (_p0 : List Requirement) (_i0 : Nat) (v0_1 : List Val) : List Ob :=
  [⟨5, 0, true, [.int .i64 0, .int .i64 0, .str eB, .ms 2 5 0 0, .ms 3 6 0 0]⟩, ⟨5, 0, true, (Val.rows v0_1).flatten⟩, ⟨5, 0, true, []⟩, ⟨6, 0, true, []⟩]
def Qfo (p0 : List Requirement) (i0 : Nat) (v0_1 : List Val) : En := .loop 0 Ir.Qjv Ir.Q1gu (Qw2 p0 i0 v0_1) (Qif p0 i0 v0_1)
def Qop (_p0 : List Requirement) (q0 : List Val) (z : Nat → PV) (_zo : Nat → List PV) : St :=
  ⟨[z 0, z 1, z 2, z 3, .bx 0 0, .ms 1 5 0 (List.length q0)] ++ zr z 6 17, [(0, ⟨5, 0, true, [.int .i64 0, .int .i64 0, .str eB, .ms 2 5 0 0, .ms 3 6 0 0]⟩), (1, ⟨5, 0, true, (Val.rows q0).flatten⟩), (2, ⟨5, 0, true, []⟩), (3, ⟨6, 0, true, []⟩)], 68⟩
theorem Q12h (p0 : List Requirement) (i0 : Nat) (v0_1 : List Val) : VOK (Go.Pv.look (number 0 (Qif p0 i0 v0_1))) [(1, Val.rows v0_1)] := (VOK.cons (show Seen _ _ from Q3k (ob := ⟨5, 0, true, (Val.rows v0_1).flatten⟩) (Val.Qb v0_1 5 rfl)) VOK.nil)
def Qh7 (p0 : List Requirement) (e : En) (q : List Val) : Prop := ∃ z zo, Q7 G e (.st (.exit 0) (Qop p0 q z zo))
theorem Qt5 (p0 : List Requirement) {e e' : En} (h : ∀ r, Q7 G e r → Q7 G e' r) : ∀ q, Qh7 p0 e q → Qh7 p0 e' q
  | _, ⟨z, zo, hz⟩ => ⟨z, zo, h _ hz⟩
def Qgf (p0 : List Requirement) : Prop := (List.length p0 ≤ 137438953472) ∧ (∀ x0 ∈ p0, Q1i6 x0) ∧ True
def Qqb (p0 : List Requirement) (i0 : Nat) (_v0_1 : List Val) : List PV :=
  [.un, .fn 224 [] []] ++ nuns 6 ++ [.sl (Requirement.rows p0), .int .i64 ((List.length p0) : Int), .int .i64 (i0 : Int), .bool false]
def Qlh (_p0 : List Requirement) (_i0 : Nat) (_v0_1 : List Val) : List (Nat × List PV) :=
  []
theorem Q196 (p0 : List Requirement) (_H : Qgf p0) (i0 : Nat) (v0_1 : List Val) (_ho0_0 : List.length v0_1 ≤ i0) (hc0 : (decide ((i0 : Int) < ((List.length p0) : Int))) = false) : Qh7 p0 (Qfo p0 i0 v0_1) v0_1 := by
 exact ⟨(envF (Qqb p0 i0 v0_1)), (zoF (Qlh p0 i0 v0_1)), Qm (Q12h p0 i0 v0_1) (x := ((.exit 0), Qop p0 v0_1 (envF (Qqb p0 i0 v0_1)) (zoF (Qlh p0 i0 v0_1)))) [hB 0 hc0] [] (by kernel_rfl)⟩
theorem Q171 (p0 : List Requirement) (H : Qgf p0) (x0 : Requirement) (i0 : Nat) (v0_1 : List Val) (hx0 : p0[i0]? = some x0) (hi0 : i0 < List.length p0) (ho0_0 : List.length v0_1 ≤ i0) (hc0 : (decide ((i0 : Int) < ((List.length p0) : Int))) = true) {r : Rs} (hr : Q7 G (Qfo p0 (i0 + 1) (v0_1 ++ [(Qbl x0)])) r) : Q7 G (Qfo p0 i0 v0_1) r := by
 have hB0 := H.1
 exact Ql (Q12h p0 i0 v0_1) (y := (Qw2 p0 (i0 + 1) (v0_1 ++ [(Qbl x0)]), Qif p0 (i0 + 1) (v0_1 ++ [(Qbl x0)]))) [hB 0 hc0, hP 0 (Q2s 3 (Requirement.rows p0) i0 _ (Requirement.Qo hx0) rfl), hV 8 [(644, Val.rows (v0_1 ++ [(Qbl x0)]))] (Q42 1 580 644 5 80 0 0 true (Val.rows v0_1) (Val.rows (v0_1 ++ [(Qbl x0)])) (Val.cells (Qbl x0)) (List.length v0_1) (List.length (v0_1 ++ [(Qbl x0)])) rfl (Val.Q9 v0_1).symm (Val.Q9 (v0_1 ++ [(Qbl x0)])).symm (Val.Q1t v0_1 (Qbl x0)) (Val.Qu v0_1) rfl (by omega)), hS 0 true (Val.Qb (v0_1 ++ [(Qbl x0)]) 5 rfl), hP 1 (Q2g i0 (by omega))] [aN (Q221 x0 (H.2.1 x0 (Q2l hx0)))] (by kernel_rfl) hr
theorem Qyz (p0 : List Requirement) (H : Qgf p0) : ∀ (r0 : List Requirement) (i0 : Nat) (v0_1 : List Val), List.drop i0 p0 = r0 → List.length v0_1 ≤ i0 → Qh7 p0 (Qfo p0 i0 v0_1) (Q5d p0 r0 i0 v0_1)
 | [], i0, v0_1, hd, ho0_0 => by
  have hc0 : (decide ((i0 : Int) < ((List.length p0) : Int))) = false := by have := Q1m hd; simp; omega
  rw [Q5d]
  exact Q196 p0 H i0 v0_1 ho0_0 hc0
 | x0 :: r0, i0, v0_1, hd, ho0_0 => by
  obtain ⟨hx0, hi0, hd'⟩ := Q1k hd
  have hc0 : (decide ((i0 : Int) < ((List.length p0) : Int))) = true := by simp; omega
  rw [Q5d]
  exact Qt5 p0 (fun r hr => Q171 p0 H x0 i0 v0_1 hx0 hi0 ho0_0 hc0 hr) _ (Qyz p0 H r0 (i0 + 1) (v0_1 ++ [(Qbl x0)]) hd' (by first | omega | (simp; omega)))
def Qdx (p0 : List Requirement) : Val := vL (p0.map Requirement.enc)
theorem Q15i (p0 : List Requirement) : Qdx p0 = ((Val.mk 4 0 eB (Q5d p0 p0 0 []) [])) := by
  rw [Q14b]
  rfl
def Q154 (p0 : List Requirement) : En := .call 223 [.sl (Requirement.rows p0), .fn 224 [] []] []
def Qqp (p0 : List Requirement) : Rs := .ret (.agg (Val.cells (Qdx p0))) []
def Qdc (p0 : List Requirement) : Prop := LSm Requirement.sm p0
theorem Qtt (p0 : List Requirement) (H : Qdc p0) : (Qgf p0) ∧ True := by
  exact ⟨⟨Nat.le_trans H.1 (Nat.le_of_ble_eq_true rfl), H.2, trivial⟩, trivial⟩
theorem Q17p (p0 : List Requirement) (H : Qdc p0) : Q7 G (Q154 p0) (Qqp p0) := by
 unfold Qqp
 rw [Q15i]
 have hl0 := Qyz p0 ((Qtt p0 H).1) p0 0 [] (by simp) (by simp)
 obtain ⟨z0, zo0, hl0⟩ := hl0
 exact Q8 (fn := Ir.K72) rfl VOK.nil [hP 3 (Q11 (Requirement.rows p0) (List.length p0) (Requirement.Q9 p0)), hS 0 true (Val.Qb (Q5d p0 p0 0 []) 5 rfl), hQ (Val.Q9 (Q5d p0 p0 0 [])).symm] [aV [(1, Val.rows (Q5d p0 p0 0 []))] hl0] (by kernel_rfl)
def Q1fe (p0 : List Requirement) : Val := vL (p0.map Requirement.enc)
theorem Q204 (p0 : List Requirement) : Q1fe p0 = ((Qdx p0)) := by
  rfl
def Q1y6 (p0 : List Requirement) : En := .call 190 [.sl (Requirement.rows p0)] []
def Q1pg (p0 : List Requirement) : Rs := .ret (.agg (Val.cells (Q1fe p0))) []
def Q1i5 (p0 : List Requirement) : Prop := LSm Requirement.sm p0
theorem Q1ei (p0 : List Requirement) (H : Q1i5 p0) : (Qdc p0) ∧ True := by
  repeat' with_reducible apply And.intro
  all_goals first | exact True.intro | exact H
theorem Q220 (p0 : List Requirement) (H : Q1i5 p0) : Q7 G (Q1y6 p0) (Q1pg p0) := by
 unfold Q1pg
 rw [Q204]
 exact Q8 (fn := Ir.K6v) rfl VOK.nil [] [aN (Q17p p0 (Q1ei p0 H).1)] (by kernel_rfl)
def Q86 (p0 : List Requirement) : Fld := .mk Q5 (vL (p0.map Requirement.enc))
theorem Q20a (p0 : List Requirement) : Q86 p0 = ((Q9s Q5 (Q1fe p0))) := by
  rfl
def Q1yg (p0 : List Requirement) : En := .call 80 [.sl (Requirement.rows p0)] []
def Q1pq (p0 : List Requirement) : Rs := .ret (.agg (Fld.cells (Q86 p0))) []
def Q19k (p0 : List Requirement) : Prop := LSm Requirement.sm p0
theorem Q1ek (p0 : List Requirement) (H : Q19k p0) : (Q1i5 p0) ∧ True := by
  repeat' with_reducible apply And.intro
  all_goals first | exact True.intro | exact H
theorem Q1jg (p0 : List Requirement) (H : Q19k p0) : Q7 G (Q1yg p0) (Q1pq p0) := by
 unfold Q1pq
 rw [Q20a]
 exact Q8 (fn := Ir.K7l) rfl VOK.nil [] [aN (Q220 p0 (Q1ek p0 H).1), aN (Q118 Q5 (Q1fe p0))] (by kernel_rfl)
def Q87 (p0 : Template) : Fld := .mk Qg (Template.enc p0)
theorem Q20c (p0 : Template) : Q87 p0 = ((Q9s Qg (s_K9 p0))) := by
  rfl
def Q1yi (p0 : Template) : En := .call 81 [.agg (Template.cells p0)] []
def Q1ps (p0 : Template) : Rs := .ret (.agg (Fld.cells (Q87 p0))) []
def Q19l (p0 : Template) : Prop := Template.sm p0
theorem Q1el (p0 : Template) (H : Q19l p0) : (H_K9 p0) ∧ True := by
  repeat' with_reducible apply And.intro
  all_goals first | exact True.intro | exact H
theorem Q1jh (p0 : Template) (H : Q19l p0) : Q7 G (Q1yi p0) (Q1ps p0) := by
 unfold Q1ps
 rw [Q20c]
 exact Q8 (fn := Ir.K7n) rfl VOK.nil [] [aN (t_K9 p0 (Q1el p0 H).1), aN (Q118 Qg (s_K9 p0))] (by kernel_rfl)
def Qao (p0 : BA) (p1 : Bool) : Fld := .mk p0 (vB p1)
theorem Q20d (p0 : BA) (p1 : Bool) : Qao p0 p1 = ((Q9s p0 (Q5h p1))) := by
  rfl
def Q1yj (p0 : BA) (p1 : Bool) : En := .call 82 [.str p0, .bool p1] []
def Q1pt (p0 : BA) (p1 : Bool) : Rs := .ret (.agg (Fld.cells (Qao p0 p1))) []
theorem Q1ji (p0 : BA) (p1 : Bool) : Q7 G (Q1yj p0 p1) (Q1pt p0 p1) := by
 unfold Q1pt
 rw [Q20d]
 exact Q8 (fn := Ir.K7o) rfl VOK.nil [] [aN (Q17o p1), aN (Q118 p0 (Q5h p1))] (by kernel_rfl)
def Quo (p0 : Amount) : Val := Amount.enc p0
theorem Q203 (p0 : Amount) : Quo p0 = ((Q50 ([(Qao Q2n p0.percent), (Q2k kw_n p0.n)]))) := by
  exact Eq.symm (Quv (by exact Nat.le_of_ble_eq_true rfl) (by kernel_rfl))
def Q1y5 (p0 : Amount) : En := .call 84 [.agg (Amount.cells p0)] []
def Q1pf (p0 : Amount) : Rs := .ret (.agg (Val.cells (Quo p0))) []
def Q1i4 (p0 : Amount) : Prop := Amount.sm p0
theorem Q1eh (p0 : Amount) (_H : Q1i4 p0) : (Q8e ([(Qao Q2n p0.percent), (Q2k kw_n p0.n)])) ∧ True := by
  exact ⟨Q96 (by exact Nat.le_of_ble_eq_true rfl) (List.forall_mem_cons.2 ⟨Val.Sm.leaf _ _ _, List.forall_mem_cons.2 ⟨Val.Sm.leaf _ _ _, List.forall_mem_nil _⟩⟩), trivial⟩
theorem Q21z (p0 : Amount) (H : Q1i4 p0) : Q7 G (Q1y5 p0) (Q1pf p0) := by
 unfold Q1pf
 rw [Q203]
 exact Q8 (fn := Ir.K6s) rfl VOK.nil [] [aN (Q1ji Q2n p0.percent), aN (Qbp kw_n p0.n), aN (Q4j (e' := .call 78 [.sl [(Fld.cells (Qao Q2n p0.percent)), (Fld.cells (Q2k kw_n p0.n))]] []) (Q9v ([(Qao Q2n p0.percent), (Q2k kw_n p0.n)]) (Q1eh p0 H).1) (by simp only [Q90, Fld.Qy, Fld.Q1b]))] (by kernel_rfl)
def Qmo (p0 : WorkStatus) : Val := WorkStatus.enc p0
theorem Q206 (p0 : WorkStatus) : Qmo p0 = ((Q50 ([(Q2k Q1j p0.observed), (Q2k Q6 p0.replicas), (Q2k Q25 p0.updated), (Q2k Q1c p0.ready), (Q2k Q1u p0.available), (Q2k Q2e p0.progress), (Qao Q31 p0.failed)]))) := by
  exact Eq.symm (Quv (by exact Nat.le_of_ble_eq_true rfl) (by kernel_rfl))
def Q1y8 (p0 : WorkStatus) : En := .call 86 [.agg (WorkStatus.cells p0)] []
def Q1pi (p0 : WorkStatus) : Rs := .ret (.agg (Val.cells (Qmo p0))) []
def Q19j (p0 : WorkStatus) : Prop := WorkStatus.sm p0
theorem Q1ej (p0 : WorkStatus) (_H : Q19j p0) : (Q8e ([(Q2k Q1j p0.observed), (Q2k Q6 p0.replicas), (Q2k Q25 p0.updated), (Q2k Q1c p0.ready), (Q2k Q1u p0.available), (Q2k Q2e p0.progress), (Qao Q31 p0.failed)])) ∧ True := by
  exact ⟨Q96 (by exact Nat.le_of_ble_eq_true rfl) (List.forall_mem_cons.2 ⟨Val.Sm.leaf _ _ _, List.forall_mem_cons.2 ⟨Val.Sm.leaf _ _ _, List.forall_mem_cons.2 ⟨Val.Sm.leaf _ _ _, List.forall_mem_cons.2 ⟨Val.Sm.leaf _ _ _, List.forall_mem_cons.2 ⟨Val.Sm.leaf _ _ _, List.forall_mem_cons.2 ⟨Val.Sm.leaf _ _ _, List.forall_mem_cons.2 ⟨Val.Sm.leaf _ _ _, List.forall_mem_nil _⟩⟩⟩⟩⟩⟩⟩), trivial⟩
theorem Q1jd (p0 : WorkStatus) (H : Q19j p0) : Q7 G (Q1y8 p0) (Q1pi p0) := by
 unfold Q1pi
 rw [Q206]
 exact Q8 (fn := Ir.K6x) rfl VOK.nil [] [aN (Qbp Q1j p0.observed), aN (Qbp Q6 p0.replicas), aN (Qbp Q25 p0.updated), aN (Qbp Q1c p0.ready), aN (Qbp Q1u p0.available), aN (Qbp Q2e p0.progress), aN (Q1ji Q31 p0.failed), aN (Q4j (e' := .call 78 [.sl [(Fld.cells (Q2k Q1j p0.observed)), (Fld.cells (Q2k Q6 p0.replicas)), (Fld.cells (Q2k Q25 p0.updated)), (Fld.cells (Q2k Q1c p0.ready)), (Fld.cells (Q2k Q1u p0.available)), (Fld.cells (Q2k Q2e p0.progress)), (Fld.cells (Qao Q31 p0.failed))]] []) (Q9v ([(Q2k Q1j p0.observed), (Q2k Q6 p0.replicas), (Q2k Q25 p0.updated), (Q2k Q1c p0.ready), (Q2k Q1u p0.available), (Q2k Q2e p0.progress), (Qao Q31 p0.failed)]) (Q1ej p0 H).1) (by simp only [Q90, Fld.Qy, Fld.Q1b]))] (by kernel_rfl)
def Qep (p0 : ReplicaSet) : Object := ReplicaSet.obj p0
theorem Q1zk (p0 : ReplicaSet) : Qep p0 = ((Q17c Qf p0.meta_ (Q50 ([(Q2k Q6 p0.replicas), (Q2k Q0 p0.minReady), (Q2k Q16 p0.revision), (Q86 p0.selector), (Q87 p0.template)])) (Qmo p0.status))) := by
  exact Eq.symm (Q1bj (by exact Nat.le_of_ble_eq_true rfl) (by kernel_rfl))
def Q1xm (p0 : ReplicaSet) : En := .call 22 [.agg (ReplicaSet.cells p0)] []
def Q1ow (p0 : ReplicaSet) : Rs := .ret (.agg (Object.cells (Qep p0))) []
def Q1db (p0 : ReplicaSet) : Prop := Qeg p0.meta_ ∧ ReplicaSet.sm p0
theorem Qcr (p0 : ReplicaSet) (H : Q1db p0) : (Q19k p0.selector) ∧ (Q19l p0.template) ∧ (Q8e ([(Q2k Q6 p0.replicas), (Q2k Q0 p0.minReady), (Q2k Q16 p0.revision), (Q86 p0.selector), (Q87 p0.template)])) ∧ (Q19j p0.status) ∧ (Q1dg Qf p0.meta_ (Q50 ([(Q2k Q6 p0.replicas), (Q2k Q0 p0.minReady), (Q2k Q16 p0.revision), (Q86 p0.selector), (Q87 p0.template)])) (Qmo p0.status)) ∧ True := by
  exact ⟨(by first | exact True.intro | exact H.1 | exact ⟨H.1, trivial⟩ | exact H.2 | exact H.2.1 | exact H.2.2.1 | exact H.2.2.2.1), (by first | exact True.intro | exact H.1 | exact ⟨H.1, trivial⟩ | exact H.2 | exact H.2.1 | exact H.2.2.1 | exact H.2.2.2.1), Q96 (by exact Nat.le_of_ble_eq_true rfl) (List.forall_mem_cons.2 ⟨Val.Sm.leaf _ _ _, List.forall_mem_cons.2 ⟨Val.Sm.leaf _ _ _, List.forall_mem_cons.2 ⟨Val.Sm.leaf _ _ _, List.forall_mem_cons.2 ⟨Q2x (fun _ h => Requirement.Q24 h) H.2.1, List.forall_mem_cons.2 ⟨Template.Q24 H.2.2.1, List.forall_mem_nil _⟩⟩⟩⟩⟩), (by first | exact True.intro | exact H.1 | exact ⟨H.1, trivial⟩ | exact H.2 | exact H.2.1 | exact H.2.2.1 | exact H.2.2.2.1), (by first | exact True.intro | exact H.1 | exact ⟨H.1, trivial⟩ | exact H.2 | exact H.2.1 | exact H.2.2.1 | exact H.2.2.2.1), trivial⟩
theorem Q1fi (p0 : ReplicaSet) (H : Q1db p0) : Q7 G (Q1xm p0) (Q1ow p0) := by
 unfold Q1ow
 rw [Q1zk]
 exact Q8 (fn := Ir.K5e) rfl VOK.nil [] [aN (Qbp Q6 p0.replicas), aN (Qbp Q0 p0.minReady), aN (Qbp Q16 p0.revision), aN (Q1jg p0.selector (Qcr p0 H).1), aN (Q1jh p0.template (Qcr p0 H).2.1), aN (Q4j (e' := .call 78 [.sl [(Fld.cells (Q2k Q6 p0.replicas)), (Fld.cells (Q2k Q0 p0.minReady)), (Fld.cells (Q2k Q16 p0.revision)), (Fld.cells (Q86 p0.selector)), (Fld.cells (Q87 p0.template))]] []) (Q9v ([(Q2k Q6 p0.replicas), (Q2k Q0 p0.minReady), (Q2k Q16 p0.revision), (Q86 p0.selector), (Q87 p0.template)]) (Qcr p0 H).2.2.1) (by simp only [Q90, Fld.Qy, Fld.Q1b])), aN (Q1jd p0.status (Qcr p0 H).2.2.2.1), aN (Q1je Qf p0.meta_ (Q50 ([(Q2k Q6 p0.replicas), (Q2k Q0 p0.minReady), (Q2k Q16 p0.revision), (Q86 p0.selector), (Q87 p0.template)])) (Qmo p0.status) (Qcr p0 H).2.2.2.2.1)] (by kernel_rfl)
def Qeq (p0 : StatefulSet) : Object := StatefulSet.obj p0
theorem Q1zl (p0 : StatefulSet) : Qeq p0 = ((Q17c Qc p0.meta_ (Q50 ([(Q2k Q6 p0.replicas), (Q2k Qs p0.partition), (Q2k Q0 p0.minReady), (Qao Q15 p0.parallel), (Q86 p0.selector), (Q87 p0.template)])) (Qmo p0.status))) := by
  exact Eq.symm (Q1bj (by exact Nat.le_of_ble_eq_true rfl) (by kernel_rfl))
def Q1xn (p0 : StatefulSet) : En := .call 56 [.agg (StatefulSet.cells p0)] []
def Q1ox (p0 : StatefulSet) : Rs := .ret (.agg (Object.cells (Qeq p0))) []
def Q1dc (p0 : StatefulSet) : Prop := Qeg p0.meta_ ∧ StatefulSet.sm p0
theorem Qcs (p0 : StatefulSet) (H : Q1dc p0) : (Q19k p0.selector) ∧ (Q19l p0.template) ∧ (Q8e ([(Q2k Q6 p0.replicas), (Q2k Qs p0.partition), (Q2k Q0 p0.minReady), (Qao Q15 p0.parallel), (Q86 p0.selector), (Q87 p0.template)])) ∧ (Q19j p0.status) ∧ (Q1dg Qc p0.meta_ (Q50 ([(Q2k Q6 p0.replicas), (Q2k Qs p0.partition), (Q2k Q0 p0.minReady), (Qao Q15 p0.parallel), (Q86 p0.selector), (Q87 p0.template)])) (Qmo p0.status)) ∧ True := by
  exact ⟨(by first | exact True.intro | exact H.1 | exact ⟨H.1, trivial⟩ | exact H.2 | exact H.2.1 | exact H.2.2.1 | exact H.2.2.2.1), (by first | exact True.intro | exact H.1 | exact ⟨H.1, trivial⟩ | exact H.2 | exact H.2.1 | exact H.2.2.1 | exact H.2.2.2.1), Q96 (by exact Nat.le_of_ble_eq_true rfl) (List.forall_mem_cons.2 ⟨Val.Sm.leaf _ _ _, List.forall_mem_cons.2 ⟨Val.Sm.leaf _ _ _, List.forall_mem_cons.2 ⟨Val.Sm.leaf _ _ _, List.forall_mem_cons.2 ⟨Val.Sm.leaf _ _ _, List.forall_mem_cons.2 ⟨Q2x (fun _ h => Requirement.Q24 h) H.2.1, List.forall_mem_cons.2 ⟨Template.Q24 H.2.2.1, List.forall_mem_nil _⟩⟩⟩⟩⟩⟩), (by first | exact True.intro | exact H.1 | exact ⟨H.1, trivial⟩ | exact H.2 | exact H.2.1 | exact H.2.2.1 | exact H.2.2.2.1), (by first | exact True.intro | exact H.1 | exact ⟨H.1, trivial⟩ | exact H.2 | exact H.2.1 | exact H.2.2.1 | exact H.2.2.2.1), trivial⟩
theorem Q1fj (p0 : StatefulSet) (H : Q1dc p0) : Q7 G (Q1xn p0) (Q1ox p0) := by
 unfold Q1ox
 rw [Q1zl]
 exact Q8 (fn := Ir.K5f) rfl VOK.nil [] [aN (Qbp Q6 p0.replicas), aN (Qbp Qs p0.partition), aN (Qbp Q0 p0.minReady), aN (Q1ji Q15 p0.parallel), aN (Q1jg p0.selector (Qcs p0 H).1), aN (Q1jh p0.template (Qcs p0 H).2.1), aN (Q4j (e' := .call 78 [.sl [(Fld.cells (Q2k Q6 p0.replicas)), (Fld.cells (Q2k Qs p0.partition)), (Fld.cells (Q2k Q0 p0.minReady)), (Fld.cells (Qao Q15 p0.parallel)), (Fld.cells (Q86 p0.selector)), (Fld.cells (Q87 p0.template))]] []) (Q9v ([(Q2k Q6 p0.replicas), (Q2k Qs p0.partition), (Q2k Q0 p0.minReady), (Qao Q15 p0.parallel), (Q86 p0.selector), (Q87 p0.template)]) (Qcs p0 H).2.2.1) (by simp only [Q90, Fld.Qy, Fld.Q1b])), aN (Q1jd p0.status (Qcs p0 H).2.2.2.1), aN (Q1je Qc p0.meta_ (Q50 ([(Q2k Q6 p0.replicas), (Q2k Qs p0.partition), (Q2k Q0 p0.minReady), (Qao Q15 p0.parallel), (Q86 p0.selector), (Q87 p0.template)])) (Qmo p0.status) (Qcs p0 H).2.2.2.2.1)] (by kernel_rfl)
def Qeo (p0 : DaemonSet) : Object := DaemonSet.obj p0
theorem Q1zj (p0 : DaemonSet) : Qeo p0 = ((Q17c Qd p0.meta_ (Q50 ([(Q2k Q0 p0.minReady), (Q9s Qe (Quo p0.unavailable)), (Q86 p0.selector), (Q87 p0.template)])) (Qmo p0.status))) := by
  exact Eq.symm (Q1bj (by exact Nat.le_of_ble_eq_true rfl) (by kernel_rfl))
def Q1xl (p0 : DaemonSet) : En := .call 57 [.agg (DaemonSet.cells p0)] []
def Q1ov (p0 : DaemonSet) : Rs := .ret (.agg (Object.cells (Qeo p0))) []
def Q1da (p0 : DaemonSet) : Prop := Qeg p0.meta_ ∧ DaemonSet.sm p0
theorem Qai (p0 : DaemonSet) (H : Q1da p0) : (Q1i4 p0.unavailable) ∧ (Q19k p0.selector) ∧ (Q19l p0.template) ∧ (Q8e ([(Q2k Q0 p0.minReady), (Q9s Qe (Quo p0.unavailable)), (Q86 p0.selector), (Q87 p0.template)])) ∧ (Q19j p0.status) ∧ (Q1dg Qd p0.meta_ (Q50 ([(Q2k Q0 p0.minReady), (Q9s Qe (Quo p0.unavailable)), (Q86 p0.selector), (Q87 p0.template)])) (Qmo p0.status)) ∧ True := by
  exact ⟨(by first | exact True.intro | exact H.1 | exact ⟨H.1, trivial⟩ | exact H.2 | exact H.2.1 | exact H.2.2.1 | exact H.2.2.2.1 | exact H.2.2.2.2.1), (by first | exact True.intro | exact H.1 | exact ⟨H.1, trivial⟩ | exact H.2 | exact H.2.1 | exact H.2.2.1 | exact H.2.2.2.1 | exact H.2.2.2.2.1), (by first | exact True.intro | exact H.1 | exact ⟨H.1, trivial⟩ | exact H.2 | exact H.2.1 | exact H.2.2.1 | exact H.2.2.2.1 | exact H.2.2.2.2.1), Q96 (by exact Nat.le_of_ble_eq_true rfl) (List.forall_mem_cons.2 ⟨Val.Sm.leaf _ _ _, List.forall_mem_cons.2 ⟨Amount.Q24 H.2.1, List.forall_mem_cons.2 ⟨Q2x (fun _ h => Requirement.Q24 h) H.2.2.1, List.forall_mem_cons.2 ⟨Template.Q24 H.2.2.2.1, List.forall_mem_nil _⟩⟩⟩⟩), (by first | exact True.intro | exact H.1 | exact ⟨H.1, trivial⟩ | exact H.2 | exact H.2.1 | exact H.2.2.1 | exact H.2.2.2.1 | exact H.2.2.2.2.1), (by first | exact True.intro | exact H.1 | exact ⟨H.1, trivial⟩ | exact H.2 | exact H.2.1 | exact H.2.2.1 | exact H.2.2.2.1 | exact H.2.2.2.2.1), trivial⟩
theorem Q1fh (p0 : DaemonSet) (H : Q1da p0) : Q7 G (Q1xl p0) (Q1ov p0) := by
 unfold Q1ov
 rw [Q1zj]
 exact Q8 (fn := Ir.K5a) rfl VOK.nil [] [aN (Qbp Q0 p0.minReady), aN (Q21z p0.unavailable (Qai p0 H).1), aN (Q118 Qe (Quo p0.unavailable)), aN (Q1jg p0.selector (Qai p0 H).2.1), aN (Q1jh p0.template (Qai p0 H).2.2.1), aN (Q4j (e' := .call 78 [.sl [(Fld.cells (Q2k Q0 p0.minReady)), (Fld.cells (Q9s Qe (Quo p0.unavailable))), (Fld.cells (Q86 p0.selector)), (Fld.cells (Q87 p0.template))]] []) (Q9v ([(Q2k Q0 p0.minReady), (Q9s Qe (Quo p0.unavailable)), (Q86 p0.selector), (Q87 p0.template)]) (Qai p0 H).2.2.2.1) (by simp only [Q90, Fld.Qy, Fld.Q1b])), aN (Q1jd p0.status (Qai p0 H).2.2.2.2.1), aN (Q1je Qd p0.meta_ (Q50 ([(Q2k Q0 p0.minReady), (Q9s Qe (Quo p0.unavailable)), (Q86 p0.selector), (Q87 p0.template)])) (Qmo p0.status) (Qai p0 H).2.2.2.2.2.1)] (by kernel_rfl)
end Go.Proofs.YtimjjohlpnkacaaGreat
end

