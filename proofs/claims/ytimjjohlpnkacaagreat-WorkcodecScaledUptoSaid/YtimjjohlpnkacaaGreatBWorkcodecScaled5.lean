/- Texts of the claim, merged by a program; what the statement does not reach is left out. -/
import Derived.Test.YtimjjohlpnkacaaGreatBWorkcodecScaled4

section
/- What the encoders of templates compute (printed by a program). -/
namespace Go.Proofs.YtimjjohlpnkacaaGreat
open Go.Pv
def Q32 (p0 : BA) : Val :=
 (Val.mk 3 0 p0 [] [])
def Q217 (p0 : BA) : En := .call 193 [.str p0] []
def Q1s6 (p0 : BA) : Rs := .ret (.agg (Val.cells (Q32 p0))) []
theorem Qek (p0 : BA) : Qd G (Q217 p0) (Q1s6 p0) := by
 unfold Q1s6 Q32
 exact Qj (fn := Ir.K52) rfl VOK.nil [] [] (by kernel_rfl)
def Q1c (p0 : BA) (p1 : Val) : Fld :=
 (Fld.mk p0 p1)
def Q205 (p0 : BA) (p1 : Val) : En := .call 226 [.str p0, .agg (Val.cells p1)] []
def Q1r2 (p0 : BA) (p1 : Val) : Rs := .ret (.agg (Fld.cells (Q1c p0 p1))) []
theorem Q3v (p0 : BA) (p1 : Val) : Qd G (Q205 p0 p1) (Q1r2 p0 p1) := by
 unfold Q1r2 Q1c
 exact Qj (fn := Ir.K1b) rfl VOK.nil [] [] (by kernel_rfl)
def Qbw (p0 : Label) : Val := Label.enc p0
theorem Q22c (p0 : Label) : Qbw p0 = ((Q51 ([(Q1c Q1m (Q32 p0.key)), (Q1c Q1q (Q32 p0.value))]))) := by
  exact Eq.symm (Q6a (by exact Nat.le_of_ble_eq_true rfl) (by kernel_rfl))
def Q1zw (p0 : Label) : En := .call 228 [.agg (Label.cells p0)] []
def Q1qt (p0 : Label) : Rs := .ret (.agg (Val.cells (Qbw p0))) []
def Q1l1 (p0 : Label) : Prop := Label.sm p0
theorem Q1h1 (p0 : Label) (H : Q1l1 p0) : (Q87 ([(Q1c Q1m (Q32 p0.key)), (Q1c Q1q (Q32 p0.value))])) ∧ True := by
  repeat' with_reducible apply And.intro
  all_goals first | exact True.intro | exact H | exact H.1 | exact H.2.1 | exact H.2.2.1 | exact H.2.2.2.1 | exact H.2.2.2.2.1 | exact H.2.2.2.2.2.1 | exact H.2.2.2.2.2.2.1 | exact H.2.2.2.2.2.2.2.1 | exact H.2.2.2.2.2.2.2.2.1 | exact H.2.2.2.2.2.2.2.2.2.1 | exact H.2.2.2.2.2.2.2.2.2.2.1 | exact H.2.2.2.2.2.2.2.2.2.2.2.1 | exact Q94 (by exact Nat.le_of_ble_eq_true rfl) (Label.Q2l H).all.2.2.2
theorem Q252 (p0 : Label) (H : Q1l1 p0) : Qd G (Q1zw p0) (Q1qt p0) := by
 unfold Q1qt
 rw [Q22c]
 exact Qj (fn := Ir.K12) rfl VOK.nil [] [aN (Qek p0.key), aN (Q3v Q1m (Q32 p0.key)), aN (Qek p0.value), aN (Q3v Q1q (Q32 p0.value)), aN (Q4k (e' := .call 78 [.sl [(Fld.cells (Q1c Q1m (Q32 p0.key))), (Fld.cells (Q1c Q1q (Q32 p0.value)))]] []) (Q9k ([(Q1c Q1m (Q32 p0.key)), (Q1c Q1q (Q32 p0.value))]) (Q1h1 p0 H).1) (by simp only [Q8l, Fld.Q1b, Fld.Q1r]))] (by kernel_rfl)
def Q4o (p0 : List Label) : List Label → Nat → (List Val) → List Val
 | [], _i0, v0_1 =>
  v0_1
 | x0 :: r0, i0, v0_1 =>
  Q4o p0 r0 (i0 + 1) (v0_1 ++ [(Qbw x0)])
theorem Qw3 (p0 : List Label) : ∀ (l : List Label) (i : Nat) (a : List Val), Q4o p0 l i a = a ++ l.map (fun x0 => (Qbw x0))
  | [], _, _ => by simp [Q4o]
  | x :: r, i, a => by rw [Q4o, Qw3 p0 r]; simp
def Qx2 (p0 : List Label) (i0 : Nat) (v0_1 : List Val) : List PV :=
  [.un, .fn 228 [] [], .un, .un, .bx 0 0, .ms 1 5 0 (List.length v0_1), .un, .un, .sl (Label.rows p0), .int .i64 ((List.length p0) : Int), .int .i64 (i0 : Int)] ++ nuns 12
def Qip (_p0 : List Label) (_i0 : Nat) (v0_1 : List Val) : List Ob :=
  [⟨5, 0, true, [.int .i64 0, .int .i64 0, .str eB, .ms 2 5 0 0, .ms 3 6 0 0]⟩, ⟨5, 0, true, (Val.rows v0_1).flatten⟩, ⟨5, 0, true, []⟩, ⟨6, 0, true, []⟩]
def Qfc (p0 : List Label) (i0 : Nat) (v0_1 : List Val) : En := .loop 0 Ir.Qk0 Ir.Q1j7 (Qx2 p0 i0 v0_1) (Qip p0 i0 v0_1)
def Qp6 (_p0 : List Label) (q0 : List Val) (z : Nat → PV) (_zo : Nat → List PV) : St :=
  ⟨[z 0, z 1, z 2, z 3, .bx 0 0, .ms 1 5 0 (List.length q0)] ++ zr z 6 17, [(0, ⟨5, 0, true, [.int .i64 0, .int .i64 0, .str eB, .ms 2 5 0 0, .ms 3 6 0 0]⟩), (1, ⟨5, 0, true, (Val.rows q0).flatten⟩), (2, ⟨5, 0, true, []⟩), (3, ⟨6, 0, true, []⟩)], 68⟩
theorem Q145 (p0 : List Label) (i0 : Nat) (v0_1 : List Val) : VOK (Go.Pv.look (number 0 (Qip p0 i0 v0_1))) [(1, Val.rows v0_1)] := (VOK.cons (show Seen _ _ from Q3r (ob := ⟨5, 0, true, (Val.rows v0_1).flatten⟩) (Val.Qk v0_1 5 rfl)) VOK.nil)
def Qhb (p0 : List Label) (e : En) (q : List Val) : Prop := ∃ z zo, Qd G e (.st (.exit 0) (Qp6 p0 q z zo))
theorem Qty (p0 : List Label) {e e' : En} (h : ∀ r, Qd G e r → Qd G e' r) : ∀ q, Qhb p0 e q → Qhb p0 e' q
  | _, ⟨z, zo, hz⟩ => ⟨z, zo, h _ hz⟩
def Qgf (p0 : List Label) : Prop := (List.length p0 ≤ 137438953472) ∧ (∀ x0 ∈ p0, Q1l1 x0) ∧ True
def Qqq (p0 : List Label) (i0 : Nat) (_v0_1 : List Val) : List PV :=
  [.un, .fn 228 [] []] ++ nuns 6 ++ [.sl (Label.rows p0), .int .i64 ((List.length p0) : Int), .int .i64 (i0 : Int), .bool false]
def Qlo (_p0 : List Label) (_i0 : Nat) (_v0_1 : List Val) : List (Nat × List PV) :=
  []
theorem Q1b0 (p0 : List Label) (_H : Qgf p0) (i0 : Nat) (v0_1 : List Val) (_ho0_0 : List.length v0_1 ≤ i0) (hc0 : (decide ((i0 : Int) < ((List.length p0) : Int))) = false) : Qhb p0 (Qfc p0 i0 v0_1) v0_1 := by
 exact ⟨(envF (Qqq p0 i0 v0_1)), (zoF (Qlo p0 i0 v0_1)), Qv (Q145 p0 i0 v0_1) (x := ((.exit 0), Qp6 p0 v0_1 (envF (Qqq p0 i0 v0_1)) (zoF (Qlo p0 i0 v0_1)))) [hB 0 hc0] [] (by kernel_rfl)⟩
theorem Q18p (p0 : List Label) (H : Qgf p0) (x0 : Label) (i0 : Nat) (v0_1 : List Val) (hx0 : p0[i0]? = some x0) (hi0 : i0 < List.length p0) (ho0_0 : List.length v0_1 ≤ i0) (hc0 : (decide ((i0 : Int) < ((List.length p0) : Int))) = true) {r : Rs} (hr : Qd G (Qfc p0 (i0 + 1) (v0_1 ++ [(Qbw x0)])) r) : Qd G (Qfc p0 i0 v0_1) r := by
 have hB0 := H.1
 exact Qu (Q145 p0 i0 v0_1) (y := (Qx2 p0 (i0 + 1) (v0_1 ++ [(Qbw x0)]), Qip p0 (i0 + 1) (v0_1 ++ [(Qbw x0)]))) [hB 0 hc0, hP 0 (Q35 2 (Label.rows p0) i0 _ (Label.Qz hx0) rfl), hV 8 [(644, Val.rows (v0_1 ++ [(Qbw x0)]))] (Q4a 1 580 644 5 80 0 0 true (Val.rows v0_1) (Val.rows (v0_1 ++ [(Qbw x0)])) (Val.cells (Qbw x0)) (List.length v0_1) (List.length (v0_1 ++ [(Qbw x0)])) rfl (Val.Qa v0_1).symm (Val.Qa (v0_1 ++ [(Qbw x0)])).symm (Val.Q23 v0_1 (Qbw x0)) (Val.Q12 v0_1) rfl (by omega)), hS 0 true (Val.Qk (v0_1 ++ [(Qbw x0)]) 5 rfl), hP 1 (Q2s i0 (by omega))] [aN (Q252 x0 (H.2.1 x0 (Q2z hx0)))] (by kernel_rfl) hr
theorem Q10b (p0 : List Label) (H : Qgf p0) : ∀ (r0 : List Label) (i0 : Nat) (v0_1 : List Val), List.drop i0 p0 = r0 → List.length v0_1 ≤ i0 → Qhb p0 (Qfc p0 i0 v0_1) (Q4o p0 r0 i0 v0_1)
 | [], i0, v0_1, hd, ho0_0 => by
  have hc0 : (decide ((i0 : Int) < ((List.length p0) : Int))) = false := by have := Q1y hd; simp; omega
  rw [Q4o]
  exact Q1b0 p0 H i0 v0_1 ho0_0 hc0
 | x0 :: r0, i0, v0_1, hd, ho0_0 => by
  obtain ⟨hx0, hi0, hd'⟩ := Q1v hd
  have hc0 : (decide ((i0 : Int) < ((List.length p0) : Int))) = true := by simp; omega
  rw [Q4o]
  exact Qty p0 (fun r hr => Q18p p0 H x0 i0 v0_1 hx0 hi0 ho0_0 hc0 hr) _ (Q10b p0 H r0 (i0 + 1) (v0_1 ++ [(Qbw x0)]) hd' (by first | omega | (simp; omega)))
def Q6h (p0 : List Label) : Val := vL (p0.map Label.enc)
theorem Q182 (p0 : List Label) : Q6h p0 = ((Qo4 (Q4o p0 p0 0 []))) := by
  rw [Qw3]
  rfl
def Q17l (p0 : List Label) : En := .call 227 [.sl (Label.rows p0), .fn 228 [] []] []
def Qs7 (p0 : List Label) : Rs := .ret (.agg (Val.cells (Q6h p0))) []
def Qds (p0 : List Label) : Prop := LSm Label.sm p0
theorem Qd3 (p0 : List Label) (H : Qds p0) : (Qgf p0) ∧ (Qoe (Q4o p0 p0 0 [])) ∧ True := by
  refine ⟨⟨Nat.le_trans H.1 (Nat.le_of_ble_eq_true rfl), H.2, trivial⟩, ⟨?_, trivial⟩, trivial⟩
  rw [Qw3]
  exact Q3i (fun _ h => Label.Q2l h) H
theorem Q1ag (p0 : List Label) (H : Qds p0) : Qd G (Q17l p0) (Qs7 p0) := by
 unfold Qs7
 rw [Q182]
 have hl0 := Q10b p0 ((Qd3 p0 H).1) p0 0 [] (by simp) (by simp)
 obtain ⟨z0, zo0, hl0⟩ := hl0
 exact Qj (fn := Ir.K1c) rfl VOK.nil [hP 3 (Q1g (Label.rows p0) (List.length p0) (Label.Qa p0)), hS 0 true (Val.Qk (Q4o p0 p0 0 []) 5 rfl), hQ (Val.Qa (Q4o p0 p0 0 [])).symm] [aV [(1, Val.rows (Q4o p0 p0 0 []))] hl0, aN (Qwv (Q4o p0 p0 0 []) (Qd3 p0 H).2.1)] (by kernel_rfl)
def Q2w (p0 : Int) : Val :=
 (Val.mk 2 p0 eB [] [])
def Q214 (p0 : Int) : En := .call 109 [.int .i64 p0] []
def Q1s2 (p0 : Int) : Rs := .ret (.agg (Val.cells (Q2w p0))) []
theorem Qai (p0 : Int) : Qd G (Q214 p0) (Q1s2 p0) := by
 unfold Q1s2 Q2w
 exact Qj (fn := Ir.K4y) rfl VOK.nil [] [] (by kernel_rfl)
def Qf8 (p0 : Resources) : Val := Resources.enc p0
theorem Q22h (p0 : Resources) : Qf8 p0 = ((Q51 ([(Q1c Q5o (Q2w p0.cPU)), (Q1c Q54 (Q2w p0.disk)), (Q1c Q3l (Q2w p0.memory))]))) := by
  exact Eq.symm (Q6a (by exact Nat.le_of_ble_eq_true rfl) (by kernel_rfl))
def Q201 (p0 : Resources) : En := .call 282 [.agg (Resources.cells p0)] []
def Q1qy (p0 : Resources) : Rs := .ret (.agg (Val.cells (Qf8 p0))) []
def Q1gg (p0 : Resources) : Prop := Resources.sm p0
theorem Q1h3 (p0 : Resources) (H : Q1gg p0) : (Q87 ([(Q1c Q5o (Q2w p0.cPU)), (Q1c Q54 (Q2w p0.disk)), (Q1c Q3l (Q2w p0.memory))])) ∧ True := by
  repeat' with_reducible apply And.intro
  all_goals first | exact True.intro | exact H | exact H.1 | exact H.2.1 | exact H.2.2.1 | exact H.2.2.2.1 | exact H.2.2.2.2.1 | exact H.2.2.2.2.2.1 | exact H.2.2.2.2.2.2.1 | exact H.2.2.2.2.2.2.2.1 | exact H.2.2.2.2.2.2.2.2.1 | exact H.2.2.2.2.2.2.2.2.2.1 | exact H.2.2.2.2.2.2.2.2.2.2.1 | exact H.2.2.2.2.2.2.2.2.2.2.2.1 | exact Q94 (by exact Nat.le_of_ble_eq_true rfl) (Resources.Q2l H).all.2.2.2
theorem Q1uf (p0 : Resources) (H : Q1gg p0) : Qd G (Q201 p0) (Q1qy p0) := by
 unfold Q1qy
 rw [Q22h]
 exact Qj (fn := Ir.K17) rfl VOK.nil [] [aN (Qai p0.cPU), aN (Q3v Q5o (Q2w p0.cPU)), aN (Qai p0.disk), aN (Q3v Q54 (Q2w p0.disk)), aN (Qai p0.memory), aN (Q3v Q3l (Q2w p0.memory)), aN (Q4k (e' := .call 78 [.sl [(Fld.cells (Q1c Q5o (Q2w p0.cPU))), (Fld.cells (Q1c Q54 (Q2w p0.disk))), (Fld.cells (Q1c Q3l (Q2w p0.memory)))]] []) (Q9k ([(Q1c Q5o (Q2w p0.cPU)), (Q1c Q54 (Q2w p0.disk)), (Q1c Q3l (Q2w p0.memory))]) (Q1h3 p0 H).1) (by simp only [Q8l, Fld.Q1b, Fld.Q1r]))] (by kernel_rfl)
def Qbz (p0 : Probe) : Val := Probe.enc p0
theorem Q22f (p0 : Probe) : Qbz p0 = ((Q51 ([(Q1c Q2u (Q2w p0.delay)), (Q1c Q2i (Q2w p0.failure)), (Q1c Q1d (Q2w p0.period)), (Q1c Q2c (Q2w p0.success))]))) := by
  exact Eq.symm (Q6a (by exact Nat.le_of_ble_eq_true rfl) (by kernel_rfl))
def Q1zz (p0 : Probe) : En := .call 284 [.agg (Probe.cells p0)] []
def Q1qw (p0 : Probe) : Rs := .ret (.agg (Val.cells (Qbz p0))) []
def Q1l4 (p0 : Probe) : Prop := Probe.sm p0
theorem Q1h2 (p0 : Probe) (H : Q1l4 p0) : (Q87 ([(Q1c Q2u (Q2w p0.delay)), (Q1c Q2i (Q2w p0.failure)), (Q1c Q1d (Q2w p0.period)), (Q1c Q2c (Q2w p0.success))])) ∧ True := by
  repeat' with_reducible apply And.intro
  all_goals first | exact True.intro | exact H | exact H.1 | exact H.2.1 | exact H.2.2.1 | exact H.2.2.2.1 | exact H.2.2.2.2.1 | exact H.2.2.2.2.2.1 | exact H.2.2.2.2.2.2.1 | exact H.2.2.2.2.2.2.2.1 | exact H.2.2.2.2.2.2.2.2.1 | exact H.2.2.2.2.2.2.2.2.2.1 | exact H.2.2.2.2.2.2.2.2.2.2.1 | exact H.2.2.2.2.2.2.2.2.2.2.2.1 | exact Q94 (by exact Nat.le_of_ble_eq_true rfl) (Probe.Q2l H).all.2.2.2
theorem Q255 (p0 : Probe) (H : Q1l4 p0) : Qd G (Q1zz p0) (Q1qw p0) := by
 unfold Q1qw
 rw [Q22f]
 exact Qj (fn := Ir.K15) rfl VOK.nil [] [aN (Qai p0.delay), aN (Q3v Q2u (Q2w p0.delay)), aN (Qai p0.failure), aN (Q3v Q2i (Q2w p0.failure)), aN (Qai p0.period), aN (Q3v Q1d (Q2w p0.period)), aN (Qai p0.success), aN (Q3v Q2c (Q2w p0.success)), aN (Q4k (e' := .call 78 [.sl [(Fld.cells (Q1c Q2u (Q2w p0.delay))), (Fld.cells (Q1c Q2i (Q2w p0.failure))), (Fld.cells (Q1c Q1d (Q2w p0.period))), (Fld.cells (Q1c Q2c (Q2w p0.success)))]] []) (Q9k ([(Q1c Q2u (Q2w p0.delay)), (Q1c Q2i (Q2w p0.failure)), (Q1c Q1d (Q2w p0.period)), (Q1c Q2c (Q2w p0.success))]) (Q1h2 p0 H).1) (by simp only [Q8l, Fld.Q1b, Fld.Q1r]))] (by kernel_rfl)
def Q4v (p0 : List Probe) : List Probe → Nat → (List Val) → List Val
 | [], _i0, v0_1 =>
  v0_1
 | x0 :: r0, i0, v0_1 =>
  Q4v p0 r0 (i0 + 1) (v0_1 ++ [(Qbz x0)])
theorem Qwa (p0 : List Probe) : ∀ (l : List Probe) (i : Nat) (a : List Val), Q4v p0 l i a = a ++ l.map (fun x0 => (Qbz x0))
  | [], _, _ => by simp [Q4v]
  | x :: r, i, a => by rw [Q4v, Qwa p0 r]; simp
def Qx9 (p0 : List Probe) (i0 : Nat) (v0_1 : List Val) : List PV :=
  [.un, .fn 284 [] [], .un, .un, .bx 0 0, .ms 1 5 0 (List.length v0_1), .un, .un, .sl (Probe.rows p0), .int .i64 ((List.length p0) : Int), .int .i64 (i0 : Int)] ++ nuns 12
def Qiw (_p0 : List Probe) (_i0 : Nat) (v0_1 : List Val) : List Ob :=
  [⟨5, 0, true, [.int .i64 0, .int .i64 0, .str eB, .ms 2 5 0 0, .ms 3 6 0 0]⟩, ⟨5, 0, true, (Val.rows v0_1).flatten⟩, ⟨5, 0, true, []⟩, ⟨6, 0, true, []⟩]
def Qfj (p0 : List Probe) (i0 : Nat) (v0_1 : List Val) : En := .loop 0 Ir.Qk7 Ir.Q1je (Qx9 p0 i0 v0_1) (Qiw p0 i0 v0_1)
def Qpd (_p0 : List Probe) (q0 : List Val) (z : Nat → PV) (_zo : Nat → List PV) : St :=
  ⟨[z 0, z 1, z 2, z 3, .bx 0 0, .ms 1 5 0 (List.length q0)] ++ zr z 6 17, [(0, ⟨5, 0, true, [.int .i64 0, .int .i64 0, .str eB, .ms 2 5 0 0, .ms 3 6 0 0]⟩), (1, ⟨5, 0, true, (Val.rows q0).flatten⟩), (2, ⟨5, 0, true, []⟩), (3, ⟨6, 0, true, []⟩)], 68⟩
theorem Q14c (p0 : List Probe) (i0 : Nat) (v0_1 : List Val) : VOK (Go.Pv.look (number 0 (Qiw p0 i0 v0_1))) [(1, Val.rows v0_1)] := (VOK.cons (show Seen _ _ from Q3r (ob := ⟨5, 0, true, (Val.rows v0_1).flatten⟩) (Val.Qk v0_1 5 rfl)) VOK.nil)
def Qhi (p0 : List Probe) (e : En) (q : List Val) : Prop := ∃ z zo, Qd G e (.st (.exit 0) (Qpd p0 q z zo))
theorem Qu5 (p0 : List Probe) {e e' : En} (h : ∀ r, Qd G e r → Qd G e' r) : ∀ q, Qhi p0 e q → Qhi p0 e' q
  | _, ⟨z, zo, hz⟩ => ⟨z, zo, h _ hz⟩
def Qgm (p0 : List Probe) : Prop := (List.length p0 ≤ 137438953472) ∧ (∀ x0 ∈ p0, Q1l4 x0) ∧ True
def Qqx (p0 : List Probe) (i0 : Nat) (_v0_1 : List Val) : List PV :=
  [.un, .fn 284 [] []] ++ nuns 6 ++ [.sl (Probe.rows p0), .int .i64 ((List.length p0) : Int), .int .i64 (i0 : Int), .bool false]
def Qlv (_p0 : List Probe) (_i0 : Nat) (_v0_1 : List Val) : List (Nat × List PV) :=
  []
theorem Q1b7 (p0 : List Probe) (_H : Qgm p0) (i0 : Nat) (v0_1 : List Val) (_ho0_0 : List.length v0_1 ≤ i0) (hc0 : (decide ((i0 : Int) < ((List.length p0) : Int))) = false) : Qhi p0 (Qfj p0 i0 v0_1) v0_1 := by
 exact ⟨(envF (Qqx p0 i0 v0_1)), (zoF (Qlv p0 i0 v0_1)), Qv (Q14c p0 i0 v0_1) (x := ((.exit 0), Qpd p0 v0_1 (envF (Qqx p0 i0 v0_1)) (zoF (Qlv p0 i0 v0_1)))) [hB 0 hc0] [] (by kernel_rfl)⟩
theorem Q18w (p0 : List Probe) (H : Qgm p0) (x0 : Probe) (i0 : Nat) (v0_1 : List Val) (hx0 : p0[i0]? = some x0) (hi0 : i0 < List.length p0) (ho0_0 : List.length v0_1 ≤ i0) (hc0 : (decide ((i0 : Int) < ((List.length p0) : Int))) = true) {r : Rs} (hr : Qd G (Qfj p0 (i0 + 1) (v0_1 ++ [(Qbz x0)])) r) : Qd G (Qfj p0 i0 v0_1) r := by
 have hB0 := H.1
 exact Qu (Q14c p0 i0 v0_1) (y := (Qx9 p0 (i0 + 1) (v0_1 ++ [(Qbz x0)]), Qiw p0 (i0 + 1) (v0_1 ++ [(Qbz x0)]))) [hB 0 hc0, hP 0 (Q35 4 (Probe.rows p0) i0 _ (Probe.Qz hx0) rfl), hV 8 [(644, Val.rows (v0_1 ++ [(Qbz x0)]))] (Q4a 1 580 644 5 80 0 0 true (Val.rows v0_1) (Val.rows (v0_1 ++ [(Qbz x0)])) (Val.cells (Qbz x0)) (List.length v0_1) (List.length (v0_1 ++ [(Qbz x0)])) rfl (Val.Qa v0_1).symm (Val.Qa (v0_1 ++ [(Qbz x0)])).symm (Val.Q23 v0_1 (Qbz x0)) (Val.Q12 v0_1) rfl (by omega)), hS 0 true (Val.Qk (v0_1 ++ [(Qbz x0)]) 5 rfl), hP 1 (Q2s i0 (by omega))] [aN (Q255 x0 (H.2.1 x0 (Q2z hx0)))] (by kernel_rfl) hr
theorem Q10i (p0 : List Probe) (H : Qgm p0) : ∀ (r0 : List Probe) (i0 : Nat) (v0_1 : List Val), List.drop i0 p0 = r0 → List.length v0_1 ≤ i0 → Qhi p0 (Qfj p0 i0 v0_1) (Q4v p0 r0 i0 v0_1)
 | [], i0, v0_1, hd, ho0_0 => by
  have hc0 : (decide ((i0 : Int) < ((List.length p0) : Int))) = false := by have := Q1y hd; simp; omega
  rw [Q4v]
  exact Q1b7 p0 H i0 v0_1 ho0_0 hc0
 | x0 :: r0, i0, v0_1, hd, ho0_0 => by
  obtain ⟨hx0, hi0, hd'⟩ := Q1v hd
  have hc0 : (decide ((i0 : Int) < ((List.length p0) : Int))) = true := by simp; omega
  rw [Q4v]
  exact Qu5 p0 (fun r hr => Q18w p0 H x0 i0 v0_1 hx0 hi0 ho0_0 hc0 hr) _ (Q10i p0 H r0 (i0 + 1) (v0_1 ++ [(Qbz x0)]) hd' (by first | omega | (simp; omega)))
def Q3f (p0 : List Probe) : Val := vL (p0.map Probe.enc)
theorem Q189 (p0 : List Probe) : Q3f p0 = ((Qo4 (Q4v p0 p0 0 []))) := by
  rw [Qwa]
  rfl
def Q17s (p0 : List Probe) : En := .call 283 [.sl (Probe.rows p0), .fn 284 [] []] []
def Qse (p0 : List Probe) : Rs := .ret (.agg (Val.cells (Q3f p0))) []
def Q8j (p0 : List Probe) : Prop := LSm Probe.sm p0
theorem Qda (p0 : List Probe) (H : Q8j p0) : (Qgm p0) ∧ (Qoe (Q4v p0 p0 0 [])) ∧ True := by
  refine ⟨⟨Nat.le_trans H.1 (Nat.le_of_ble_eq_true rfl), H.2, trivial⟩, ⟨?_, trivial⟩, trivial⟩
  rw [Qwa]
  exact Q3i (fun _ h => Probe.Q2l h) H
theorem Qej (p0 : List Probe) (H : Q8j p0) : Qd G (Q17s p0) (Qse p0) := by
 unfold Qse
 rw [Q189]
 have hl0 := Q10i p0 ((Qda p0 H).1) p0 0 [] (by simp) (by simp)
 obtain ⟨z0, zo0, hl0⟩ := hl0
 exact Qj (fn := Ir.K1j) rfl VOK.nil [hP 3 (Q1g (Probe.rows p0) (List.length p0) (Probe.Qa p0)), hS 0 true (Val.Qk (Q4v p0 p0 0 []) 5 rfl), hQ (Val.Qa (Q4v p0 p0 0 [])).symm] [aV [(1, Val.rows (Q4v p0 p0 0 []))] hl0, aN (Qwv (Q4v p0 p0 0 []) (Qda p0 H).2.1)] (by kernel_rfl)
def Qbv (p0 : Container) : Val := Container.enc p0
theorem Q22b (p0 : Container) : Qbv p0 = ((Q51 ([(Q1c Q1f (Q32 p0.image)), (Q1c Q28 (Qf8 p0.limit)), (Q1c Q3e (Q3f p0.live)), (Q1c Q17 (Q32 p0.name)), (Q1c Q1w (Q3f p0.ready)), (Q1c Qx (Qf8 p0.request)), (Q1c Q2k (Q3f p0.startup))]))) := by
  exact Eq.symm (Q6a (by exact Nat.le_of_ble_eq_true rfl) (by kernel_rfl))
def Q1zv (p0 : Container) : En := .call 258 [.agg (Container.cells p0)] []
def Q1qs (p0 : Container) : Rs := .ret (.agg (Val.cells (Qbv p0))) []
def Q1l0 (p0 : Container) : Prop := Container.sm p0
theorem Qb4 (p0 : Container) (H : Q1l0 p0) : (Q1gg p0.limit) ∧ (Q8j p0.live) ∧ (Q8j p0.ready) ∧ (Q1gg p0.request) ∧ (Q8j p0.startup) ∧ (Q87 ([(Q1c Q1f (Q32 p0.image)), (Q1c Q28 (Qf8 p0.limit)), (Q1c Q3e (Q3f p0.live)), (Q1c Q17 (Q32 p0.name)), (Q1c Q1w (Q3f p0.ready)), (Q1c Qx (Qf8 p0.request)), (Q1c Q2k (Q3f p0.startup))])) ∧ True := by
  repeat' with_reducible apply And.intro
  all_goals first | exact True.intro | exact H | exact H.1 | exact H.2.1 | exact H.2.2.1 | exact H.2.2.2.1 | exact H.2.2.2.2.1 | exact H.2.2.2.2.2.1 | exact H.2.2.2.2.2.2.1 | exact H.2.2.2.2.2.2.2.1 | exact H.2.2.2.2.2.2.2.2.1 | exact H.2.2.2.2.2.2.2.2.2.1 | exact H.2.2.2.2.2.2.2.2.2.2.1 | exact H.2.2.2.2.2.2.2.2.2.2.2.1 | exact Q94 (by exact Nat.le_of_ble_eq_true rfl) (Container.Q2l H).all.2.2.2
theorem Q251 (p0 : Container) (H : Q1l0 p0) : Qd G (Q1zv p0) (Q1qs p0) := by
 unfold Q1qs
 rw [Q22b]
 exact Qj (fn := Ir.K11) rfl VOK.nil [] [aN (Qek p0.image), aN (Q3v Q1f (Q32 p0.image)), aN (Q1uf p0.limit (Qb4 p0 H).1), aN (Q3v Q28 (Qf8 p0.limit)), aN (Qej p0.live (Qb4 p0 H).2.1), aN (Q3v Q3e (Q3f p0.live)), aN (Qek p0.name), aN (Q3v Q17 (Q32 p0.name)), aN (Qej p0.ready (Qb4 p0 H).2.2.1), aN (Q3v Q1w (Q3f p0.ready)), aN (Q1uf p0.request (Qb4 p0 H).2.2.2.1), aN (Q3v Qx (Qf8 p0.request)), aN (Qej p0.startup (Qb4 p0 H).2.2.2.2.1), aN (Q3v Q2k (Q3f p0.startup)), aN (Q4k (e' := .call 78 [.sl [(Fld.cells (Q1c Q1f (Q32 p0.image))), (Fld.cells (Q1c Q28 (Qf8 p0.limit))), (Fld.cells (Q1c Q3e (Q3f p0.live))), (Fld.cells (Q1c Q17 (Q32 p0.name))), (Fld.cells (Q1c Q1w (Q3f p0.ready))), (Fld.cells (Q1c Qx (Qf8 p0.request))), (Fld.cells (Q1c Q2k (Q3f p0.startup)))]] []) (Q9k ([(Q1c Q1f (Q32 p0.image)), (Q1c Q28 (Qf8 p0.limit)), (Q1c Q3e (Q3f p0.live)), (Q1c Q17 (Q32 p0.name)), (Q1c Q1w (Q3f p0.ready)), (Q1c Qx (Qf8 p0.request)), (Q1c Q2k (Q3f p0.startup))]) (Qb4 p0 H).2.2.2.2.2.1) (by simp only [Q8l, Fld.Q1b, Fld.Q1r]))] (by kernel_rfl)
def Q4p (p0 : List Container) : List Container → Nat → (List Val) → List Val
 | [], _i0, v0_1 =>
  v0_1
 | x0 :: r0, i0, v0_1 =>
  Q4p p0 r0 (i0 + 1) (v0_1 ++ [(Qbv x0)])
theorem Qw4 (p0 : List Container) : ∀ (l : List Container) (i : Nat) (a : List Val), Q4p p0 l i a = a ++ l.map (fun x0 => (Qbv x0))
  | [], _, _ => by simp [Q4p]
  | x :: r, i, a => by rw [Q4p, Qw4 p0 r]; simp
def Qx3 (p0 : List Container) (i0 : Nat) (v0_1 : List Val) : List PV :=
  [.un, .fn 258 [] [], .un, .un, .bx 0 0, .ms 1 5 0 (List.length v0_1), .un, .un, .sl (Container.rows p0), .int .i64 ((List.length p0) : Int), .int .i64 (i0 : Int)] ++ nuns 12
def Qiq (_p0 : List Container) (_i0 : Nat) (v0_1 : List Val) : List Ob :=
  [⟨5, 0, true, [.int .i64 0, .int .i64 0, .str eB, .ms 2 5 0 0, .ms 3 6 0 0]⟩, ⟨5, 0, true, (Val.rows v0_1).flatten⟩, ⟨5, 0, true, []⟩, ⟨6, 0, true, []⟩]
def Qfd (p0 : List Container) (i0 : Nat) (v0_1 : List Val) : En := .loop 0 Ir.Qk1 Ir.Q1j8 (Qx3 p0 i0 v0_1) (Qiq p0 i0 v0_1)
def Qp7 (_p0 : List Container) (q0 : List Val) (z : Nat → PV) (_zo : Nat → List PV) : St :=
  ⟨[z 0, z 1, z 2, z 3, .bx 0 0, .ms 1 5 0 (List.length q0)] ++ zr z 6 17, [(0, ⟨5, 0, true, [.int .i64 0, .int .i64 0, .str eB, .ms 2 5 0 0, .ms 3 6 0 0]⟩), (1, ⟨5, 0, true, (Val.rows q0).flatten⟩), (2, ⟨5, 0, true, []⟩), (3, ⟨6, 0, true, []⟩)], 68⟩
theorem Q146 (p0 : List Container) (i0 : Nat) (v0_1 : List Val) : VOK (Go.Pv.look (number 0 (Qiq p0 i0 v0_1))) [(1, Val.rows v0_1)] := (VOK.cons (show Seen _ _ from Q3r (ob := ⟨5, 0, true, (Val.rows v0_1).flatten⟩) (Val.Qk v0_1 5 rfl)) VOK.nil)
def Qhc (p0 : List Container) (e : En) (q : List Val) : Prop := ∃ z zo, Qd G e (.st (.exit 0) (Qp7 p0 q z zo))
theorem Qtz (p0 : List Container) {e e' : En} (h : ∀ r, Qd G e r → Qd G e' r) : ∀ q, Qhc p0 e q → Qhc p0 e' q
  | _, ⟨z, zo, hz⟩ => ⟨z, zo, h _ hz⟩
def Qgg (p0 : List Container) : Prop := (List.length p0 ≤ 137438953472) ∧ (∀ x0 ∈ p0, Q1l0 x0) ∧ True
def Qqr (p0 : List Container) (i0 : Nat) (_v0_1 : List Val) : List PV :=
  [.un, .fn 258 [] []] ++ nuns 6 ++ [.sl (Container.rows p0), .int .i64 ((List.length p0) : Int), .int .i64 (i0 : Int), .bool false]
def Qlp (_p0 : List Container) (_i0 : Nat) (_v0_1 : List Val) : List (Nat × List PV) :=
  []
theorem Q1b1 (p0 : List Container) (_H : Qgg p0) (i0 : Nat) (v0_1 : List Val) (_ho0_0 : List.length v0_1 ≤ i0) (hc0 : (decide ((i0 : Int) < ((List.length p0) : Int))) = false) : Qhc p0 (Qfd p0 i0 v0_1) v0_1 := by
 exact ⟨(envF (Qqr p0 i0 v0_1)), (zoF (Qlp p0 i0 v0_1)), Qv (Q146 p0 i0 v0_1) (x := ((.exit 0), Qp7 p0 v0_1 (envF (Qqr p0 i0 v0_1)) (zoF (Qlp p0 i0 v0_1)))) [hB 0 hc0] [] (by kernel_rfl)⟩
theorem Q18q (p0 : List Container) (H : Qgg p0) (x0 : Container) (i0 : Nat) (v0_1 : List Val) (hx0 : p0[i0]? = some x0) (hi0 : i0 < List.length p0) (ho0_0 : List.length v0_1 ≤ i0) (hc0 : (decide ((i0 : Int) < ((List.length p0) : Int))) = true) {r : Rs} (hr : Qd G (Qfd p0 (i0 + 1) (v0_1 ++ [(Qbv x0)])) r) : Qd G (Qfd p0 i0 v0_1) r := by
 have hB0 := H.1
 exact Qu (Q146 p0 i0 v0_1) (y := (Qx3 p0 (i0 + 1) (v0_1 ++ [(Qbv x0)]), Qiq p0 (i0 + 1) (v0_1 ++ [(Qbv x0)]))) [hB 0 hc0, hP 0 (Q35 11 (Container.rows p0) i0 _ (Container.Qz hx0) rfl), hV 8 [(644, Val.rows (v0_1 ++ [(Qbv x0)]))] (Q4a 1 580 644 5 80 0 0 true (Val.rows v0_1) (Val.rows (v0_1 ++ [(Qbv x0)])) (Val.cells (Qbv x0)) (List.length v0_1) (List.length (v0_1 ++ [(Qbv x0)])) rfl (Val.Qa v0_1).symm (Val.Qa (v0_1 ++ [(Qbv x0)])).symm (Val.Q23 v0_1 (Qbv x0)) (Val.Q12 v0_1) rfl (by omega)), hS 0 true (Val.Qk (v0_1 ++ [(Qbv x0)]) 5 rfl), hP 1 (Q2s i0 (by omega))] [aN (Q251 x0 (H.2.1 x0 (Q2z hx0)))] (by kernel_rfl) hr
theorem Q10c (p0 : List Container) (H : Qgg p0) : ∀ (r0 : List Container) (i0 : Nat) (v0_1 : List Val), List.drop i0 p0 = r0 → List.length v0_1 ≤ i0 → Qhc p0 (Qfd p0 i0 v0_1) (Q4p p0 r0 i0 v0_1)
 | [], i0, v0_1, hd, ho0_0 => by
  have hc0 : (decide ((i0 : Int) < ((List.length p0) : Int))) = false := by have := Q1y hd; simp; omega
  rw [Q4p]
  exact Q1b1 p0 H i0 v0_1 ho0_0 hc0
 | x0 :: r0, i0, v0_1, hd, ho0_0 => by
  obtain ⟨hx0, hi0, hd'⟩ := Q1v hd
  have hc0 : (decide ((i0 : Int) < ((List.length p0) : Int))) = true := by simp; omega
  rw [Q4p]
  exact Qtz p0 (fun r hr => Q18q p0 H x0 i0 v0_1 hx0 hi0 ho0_0 hc0 hr) _ (Q10c p0 H r0 (i0 + 1) (v0_1 ++ [(Qbv x0)]) hd' (by first | omega | (simp; omega)))
def Q6i (p0 : List Container) : Val := vL (p0.map Container.enc)
theorem Q183 (p0 : List Container) : Q6i p0 = ((Qo4 (Q4p p0 p0 0 []))) := by
  rw [Qw4]
  rfl
def Q17m (p0 : List Container) : En := .call 257 [.sl (Container.rows p0), .fn 258 [] []] []
def Qs8 (p0 : List Container) : Rs := .ret (.agg (Val.cells (Q6i p0))) []
def Qdt (p0 : List Container) : Prop := LSm Container.sm p0
theorem Qd4 (p0 : List Container) (H : Qdt p0) : (Qgg p0) ∧ (Qoe (Q4p p0 p0 0 [])) ∧ True := by
  refine ⟨⟨Nat.le_trans H.1 (Nat.le_of_ble_eq_true rfl), H.2, trivial⟩, ⟨?_, trivial⟩, trivial⟩
  rw [Qw4]
  exact Q3i (fun _ h => Container.Q2l h) H
theorem Q1ah (p0 : List Container) (H : Qdt p0) : Qd G (Q17m p0) (Qs8 p0) := by
 unfold Qs8
 rw [Q183]
 have hl0 := Q10c p0 ((Qd4 p0 H).1) p0 0 [] (by simp) (by simp)
 obtain ⟨z0, zo0, hl0⟩ := hl0
 exact Qj (fn := Ir.K1d) rfl VOK.nil [hP 3 (Q1g (Container.rows p0) (List.length p0) (Container.Qa p0)), hS 0 true (Val.Qk (Q4p p0 p0 0 []) 5 rfl), hQ (Val.Qa (Q4p p0 p0 0 [])).symm] [aV [(1, Val.rows (Q4p p0 p0 0 []))] hl0, aN (Qwv (Q4p p0 p0 0 []) (Qd4 p0 H).2.1)] (by kernel_rfl)
def Q4w (p0 : List ByteArray) : List ByteArray → Nat → (List Val) → List Val
 | [], _i0, v0_1 =>
  v0_1
 | x0 :: r0, i0, v0_1 =>
  Q4w p0 r0 (i0 + 1) (v0_1 ++ [(Q32 x0)])
theorem Qwb (p0 : List ByteArray) : ∀ (l : List ByteArray) (i : Nat) (a : List Val), Q4w p0 l i a = a ++ l.map (fun x0 => (Q32 x0))
  | [], _, _ => by simp [Q4w]
  | x :: r, i, a => by rw [Q4w, Qwb p0 r]; simp
def Qxa (p0 : List ByteArray) (i0 : Nat) (v0_1 : List Val) : List PV :=
  [.un, .fn 193 [] [], .un, .un, .bx 0 0, .ms 1 5 0 (List.length v0_1), .un, .un, .sl (Q10 p0), .int .i64 ((List.length p0) : Int), .int .i64 (i0 : Int)] ++ nuns 12
def Qix (_p0 : List ByteArray) (_i0 : Nat) (v0_1 : List Val) : List Ob :=
  [⟨5, 0, true, [.int .i64 0, .int .i64 0, .str eB, .ms 2 5 0 0, .ms 3 6 0 0]⟩, ⟨5, 0, true, (Val.rows v0_1).flatten⟩, ⟨5, 0, true, []⟩, ⟨6, 0, true, []⟩]
def Qfk (p0 : List ByteArray) (i0 : Nat) (v0_1 : List Val) : En := .loop 0 Ir.Qk8 Ir.Q1jf (Qxa p0 i0 v0_1) (Qix p0 i0 v0_1)
def Qpe (_p0 : List ByteArray) (q0 : List Val) (z : Nat → PV) (_zo : Nat → List PV) : St :=
  ⟨[z 0, z 1, z 2, z 3, .bx 0 0, .ms 1 5 0 (List.length q0)] ++ zr z 6 17, [(0, ⟨5, 0, true, [.int .i64 0, .int .i64 0, .str eB, .ms 2 5 0 0, .ms 3 6 0 0]⟩), (1, ⟨5, 0, true, (Val.rows q0).flatten⟩), (2, ⟨5, 0, true, []⟩), (3, ⟨6, 0, true, []⟩)], 68⟩
theorem Q14d (p0 : List ByteArray) (i0 : Nat) (v0_1 : List Val) : VOK (Go.Pv.look (number 0 (Qix p0 i0 v0_1))) [(1, Val.rows v0_1)] := (VOK.cons (show Seen _ _ from Q3r (ob := ⟨5, 0, true, (Val.rows v0_1).flatten⟩) (Val.Qk v0_1 5 rfl)) VOK.nil)
def Qhj (p0 : List ByteArray) (e : En) (q : List Val) : Prop := ∃ z zo, Qd G e (.st (.exit 0) (Qpe p0 q z zo))
theorem Qu6 (p0 : List ByteArray) {e e' : En} (h : ∀ r, Qd G e r → Qd G e' r) : ∀ q, Qhj p0 e q → Qhj p0 e' q
  | _, ⟨z, zo, hz⟩ => ⟨z, zo, h _ hz⟩
def Qgn (p0 : List ByteArray) : Prop := (List.length p0 ≤ 137438953472) ∧ True
def Qqy (p0 : List ByteArray) (i0 : Nat) (_v0_1 : List Val) : List PV :=
  [.un, .fn 193 [] []] ++ nuns 6 ++ [.sl (Q10 p0), .int .i64 ((List.length p0) : Int), .int .i64 (i0 : Int), .bool false]
def Qlw (_p0 : List ByteArray) (_i0 : Nat) (_v0_1 : List Val) : List (Nat × List PV) :=
  []
theorem Q1b8 (p0 : List ByteArray) (_H : Qgn p0) (i0 : Nat) (v0_1 : List Val) (_ho0_0 : List.length v0_1 ≤ i0) (hc0 : (decide ((i0 : Int) < ((List.length p0) : Int))) = false) : Qhj p0 (Qfk p0 i0 v0_1) v0_1 := by
 exact ⟨(envF (Qqy p0 i0 v0_1)), (zoF (Qlw p0 i0 v0_1)), Qv (Q14d p0 i0 v0_1) (x := ((.exit 0), Qpe p0 v0_1 (envF (Qqy p0 i0 v0_1)) (zoF (Qlw p0 i0 v0_1)))) [hB 0 hc0] [] (by kernel_rfl)⟩
theorem Q18x (p0 : List ByteArray) (H : Qgn p0) (x0 : BA) (i0 : Nat) (v0_1 : List Val) (hx0 : p0[i0]? = some x0) (hi0 : i0 < List.length p0) (ho0_0 : List.length v0_1 ≤ i0) (hc0 : (decide ((i0 : Int) < ((List.length p0) : Int))) = true) {r : Rs} (hr : Qd G (Qfk p0 (i0 + 1) (v0_1 ++ [(Q32 x0)])) r) : Qd G (Qfk p0 i0 v0_1) r := by
 have hB0 := H.1
 exact Qu (Q14d p0 i0 v0_1) (y := (Qxa p0 (i0 + 1) (v0_1 ++ [(Q32 x0)]), Qix p0 (i0 + 1) (v0_1 ++ [(Q32 x0)]))) [hB 0 hc0, hP 0 (Q35 1 (Q10 p0) i0 _ (Q8v hx0) rfl), hV 7 [(580, Val.rows (v0_1 ++ [(Q32 x0)]))] (Q4a 1 516 580 5 80 0 0 true (Val.rows v0_1) (Val.rows (v0_1 ++ [(Q32 x0)])) (Val.cells (Q32 x0)) (List.length v0_1) (List.length (v0_1 ++ [(Q32 x0)])) rfl (Val.Qa v0_1).symm (Val.Qa (v0_1 ++ [(Q32 x0)])).symm (Val.Q23 v0_1 (Q32 x0)) (Val.Q12 v0_1) rfl (by omega)), hS 0 true (Val.Qk (v0_1 ++ [(Q32 x0)]) 5 rfl), hP 1 (Q2s i0 (by omega))] [aN (Qek x0)] (by kernel_rfl) hr
theorem Q10j (p0 : List ByteArray) (H : Qgn p0) : ∀ (r0 : List ByteArray) (i0 : Nat) (v0_1 : List Val), List.drop i0 p0 = r0 → List.length v0_1 ≤ i0 → Qhj p0 (Qfk p0 i0 v0_1) (Q4w p0 r0 i0 v0_1)
 | [], i0, v0_1, hd, ho0_0 => by
  have hc0 : (decide ((i0 : Int) < ((List.length p0) : Int))) = false := by have := Q1y hd; simp; omega
  rw [Q4w]
  exact Q1b8 p0 H i0 v0_1 ho0_0 hc0
 | x0 :: r0, i0, v0_1, hd, ho0_0 => by
  obtain ⟨hx0, hi0, hd'⟩ := Q1v hd
  have hc0 : (decide ((i0 : Int) < ((List.length p0) : Int))) = true := by simp; omega
  rw [Q4w]
  exact Qu6 p0 (fun r hr => Q18x p0 H x0 i0 v0_1 hx0 hi0 ho0_0 hc0 hr) _ (Q10j p0 H r0 (i0 + 1) (v0_1 ++ [(Q32 x0)]) hd' (by first | omega | (simp; omega)))
def Q6n (p0 : List ByteArray) : Val := vL (p0.map vS)
theorem Q18a (p0 : List ByteArray) : Q6n p0 = ((Qo4 (Q4w p0 p0 0 []))) := by
  rw [Qwb]
  rfl
def Q17t (p0 : List ByteArray) : En := .call 285 [.sl (Q10 p0), .fn 193 [] []] []
def Qsf (p0 : List ByteArray) : Rs := .ret (.agg (Val.cells (Q6n p0))) []
def Qdy (p0 : List ByteArray) : Prop := LSm (fun _ : ByteArray => True) p0
theorem Qdb (p0 : List ByteArray) (H : Qdy p0) : (Qgn p0) ∧ (Qoe (Q4w p0 p0 0 [])) ∧ True := by
  refine ⟨⟨Nat.le_trans H.1 (Nat.le_of_ble_eq_true rfl), trivial⟩, ⟨?_, trivial⟩, trivial⟩
  rw [Qwb]
  exact Q3i (fun _ _ => Val.Sm.leaf _ _ _) H
theorem Q1am (p0 : List ByteArray) (H : Qdy p0) : Qd G (Q17t p0) (Qsf p0) := by
 unfold Qsf
 rw [Q18a]
 have hl0 := Q10j p0 ((Qdb p0 H).1) p0 0 [] (by simp) (by simp)
 obtain ⟨z0, zo0, hl0⟩ := hl0
 exact Qj (fn := Ir.K1k) rfl VOK.nil [hP 3 (Q1g (Q10 p0) (List.length p0) (Q30 p0)), hS 0 true (Val.Qk (Q4w p0 p0 0 []) 5 rfl), hQ (Val.Qa (Q4w p0 p0 0 [])).symm] [aV [(1, Val.rows (Q4w p0 p0 0 []))] hl0, aN (Qwv (Q4w p0 p0 0 []) (Qdb p0 H).2.1)] (by kernel_rfl)
def Qc0 (p0 : Requirement) : Val := Requirement.enc p0
theorem Q22g (p0 : Requirement) : Qc0 p0 = ((Q51 ([(Q1c Q1m (Q32 p0.key)), (Q1c Q4b (Q2w p0.op)), (Q1c Q20 (Q6n p0.values))]))) := by
  exact Eq.symm (Q6a (by exact Nat.le_of_ble_eq_true rfl) (by kernel_rfl))
def Q200 (p0 : Requirement) : En := .call 260 [.agg (Requirement.cells p0)] []
def Q1qx (p0 : Requirement) : Rs := .ret (.agg (Val.cells (Qc0 p0))) []
def Q1l5 (p0 : Requirement) : Prop := Requirement.sm p0
theorem Q15g (p0 : Requirement) (H : Q1l5 p0) : (Qdy p0.values) ∧ (Q87 ([(Q1c Q1m (Q32 p0.key)), (Q1c Q4b (Q2w p0.op)), (Q1c Q20 (Q6n p0.values))])) ∧ True := by
  repeat' with_reducible apply And.intro
  all_goals first | exact True.intro | exact H | exact H.1 | exact H.2.1 | exact H.2.2.1 | exact H.2.2.2.1 | exact H.2.2.2.2.1 | exact H.2.2.2.2.2.1 | exact H.2.2.2.2.2.2.1 | exact H.2.2.2.2.2.2.2.1 | exact H.2.2.2.2.2.2.2.2.1 | exact H.2.2.2.2.2.2.2.2.2.1 | exact H.2.2.2.2.2.2.2.2.2.2.1 | exact H.2.2.2.2.2.2.2.2.2.2.2.1 | exact Q94 (by exact Nat.le_of_ble_eq_true rfl) (Requirement.Q2l H).all.2.2.2
theorem Q256 (p0 : Requirement) (H : Q1l5 p0) : Qd G (Q200 p0) (Q1qx p0) := by
 unfold Q1qx
 rw [Q22g]
 exact Qj (fn := Ir.K16) rfl VOK.nil [] [aN (Qek p0.key), aN (Q3v Q1m (Q32 p0.key)), aN (Qai p0.op), aN (Q3v Q4b (Q2w p0.op)), aN (Q1am p0.values (Q15g p0 H).1), aN (Q3v Q20 (Q6n p0.values)), aN (Q4k (e' := .call 78 [.sl [(Fld.cells (Q1c Q1m (Q32 p0.key))), (Fld.cells (Q1c Q4b (Q2w p0.op))), (Fld.cells (Q1c Q20 (Q6n p0.values)))]] []) (Q9k ([(Q1c Q1m (Q32 p0.key)), (Q1c Q4b (Q2w p0.op)), (Q1c Q20 (Q6n p0.values))]) (Q15g p0 H).2.1) (by simp only [Q8l, Fld.Q1b, Fld.Q1r]))] (by kernel_rfl)
def Q4q (p0 : List Requirement) : List Requirement → Nat → (List Val) → List Val
 | [], _i0, v0_1 =>
  v0_1
 | x0 :: r0, i0, v0_1 =>
  Q4q p0 r0 (i0 + 1) (v0_1 ++ [(Qc0 x0)])
theorem Qw5 (p0 : List Requirement) : ∀ (l : List Requirement) (i : Nat) (a : List Val), Q4q p0 l i a = a ++ l.map (fun x0 => (Qc0 x0))
  | [], _, _ => by simp [Q4q]
  | x :: r, i, a => by rw [Q4q, Qw5 p0 r]; simp
def Qx4 (p0 : List Requirement) (i0 : Nat) (v0_1 : List Val) : List PV :=
  [.un, .fn 260 [] [], .un, .un, .bx 0 0, .ms 1 5 0 (List.length v0_1), .un, .un, .sl (Requirement.rows p0), .int .i64 ((List.length p0) : Int), .int .i64 (i0 : Int)] ++ nuns 12
def Qir (_p0 : List Requirement) (_i0 : Nat) (v0_1 : List Val) : List Ob :=
  [⟨5, 0, true, [.int .i64 0, .int .i64 0, .str eB, .ms 2 5 0 0, .ms 3 6 0 0]⟩, ⟨5, 0, true, (Val.rows v0_1).flatten⟩, ⟨5, 0, true, []⟩, ⟨6, 0, true, []⟩]
def Qfe (p0 : List Requirement) (i0 : Nat) (v0_1 : List Val) : En := .loop 0 Ir.Qk2 Ir.Q1j9 (Qx4 p0 i0 v0_1) (Qir p0 i0 v0_1)
def Qp8 (_p0 : List Requirement) (q0 : List Val) (z : Nat → PV) (_zo : Nat → List PV) : St :=
  ⟨[z 0, z 1, z 2, z 3, .bx 0 0, .ms 1 5 0 (List.length q0)] ++ zr z 6 17, [(0, ⟨5, 0, true, [.int .i64 0, .int .i64 0, .str eB, .ms 2 5 0 0, .ms 3 6 0 0]⟩), (1, ⟨5, 0, true, (Val.rows q0).flatten⟩), (2, ⟨5, 0, true, []⟩), (3, ⟨6, 0, true, []⟩)], 68⟩
theorem Q147 (p0 : List Requirement) (i0 : Nat) (v0_1 : List Val) : VOK (Go.Pv.look (number 0 (Qir p0 i0 v0_1))) [(1, Val.rows v0_1)] := (VOK.cons (show Seen _ _ from Q3r (ob := ⟨5, 0, true, (Val.rows v0_1).flatten⟩) (Val.Qk v0_1 5 rfl)) VOK.nil)
def Qhd (p0 : List Requirement) (e : En) (q : List Val) : Prop := ∃ z zo, Qd G e (.st (.exit 0) (Qp8 p0 q z zo))
theorem Qu0 (p0 : List Requirement) {e e' : En} (h : ∀ r, Qd G e r → Qd G e' r) : ∀ q, Qhd p0 e q → Qhd p0 e' q
  | _, ⟨z, zo, hz⟩ => ⟨z, zo, h _ hz⟩
def Qgh (p0 : List Requirement) : Prop := (List.length p0 ≤ 137438953472) ∧ (∀ x0 ∈ p0, Q1l5 x0) ∧ True
def Qqs (p0 : List Requirement) (i0 : Nat) (_v0_1 : List Val) : List PV :=
  [.un, .fn 260 [] []] ++ nuns 6 ++ [.sl (Requirement.rows p0), .int .i64 ((List.length p0) : Int), .int .i64 (i0 : Int), .bool false]
def Qlq (_p0 : List Requirement) (_i0 : Nat) (_v0_1 : List Val) : List (Nat × List PV) :=
  []
theorem Q1b2 (p0 : List Requirement) (_H : Qgh p0) (i0 : Nat) (v0_1 : List Val) (_ho0_0 : List.length v0_1 ≤ i0) (hc0 : (decide ((i0 : Int) < ((List.length p0) : Int))) = false) : Qhd p0 (Qfe p0 i0 v0_1) v0_1 := by
 exact ⟨(envF (Qqs p0 i0 v0_1)), (zoF (Qlq p0 i0 v0_1)), Qv (Q147 p0 i0 v0_1) (x := ((.exit 0), Qp8 p0 v0_1 (envF (Qqs p0 i0 v0_1)) (zoF (Qlq p0 i0 v0_1)))) [hB 0 hc0] [] (by kernel_rfl)⟩
theorem Q18r (p0 : List Requirement) (H : Qgh p0) (x0 : Requirement) (i0 : Nat) (v0_1 : List Val) (hx0 : p0[i0]? = some x0) (hi0 : i0 < List.length p0) (ho0_0 : List.length v0_1 ≤ i0) (hc0 : (decide ((i0 : Int) < ((List.length p0) : Int))) = true) {r : Rs} (hr : Qd G (Qfe p0 (i0 + 1) (v0_1 ++ [(Qc0 x0)])) r) : Qd G (Qfe p0 i0 v0_1) r := by
 have hB0 := H.1
 exact Qu (Q147 p0 i0 v0_1) (y := (Qx4 p0 (i0 + 1) (v0_1 ++ [(Qc0 x0)]), Qir p0 (i0 + 1) (v0_1 ++ [(Qc0 x0)]))) [hB 0 hc0, hP 0 (Q35 3 (Requirement.rows p0) i0 _ (Requirement.Qz hx0) rfl), hV 8 [(644, Val.rows (v0_1 ++ [(Qc0 x0)]))] (Q4a 1 580 644 5 80 0 0 true (Val.rows v0_1) (Val.rows (v0_1 ++ [(Qc0 x0)])) (Val.cells (Qc0 x0)) (List.length v0_1) (List.length (v0_1 ++ [(Qc0 x0)])) rfl (Val.Qa v0_1).symm (Val.Qa (v0_1 ++ [(Qc0 x0)])).symm (Val.Q23 v0_1 (Qc0 x0)) (Val.Q12 v0_1) rfl (by omega)), hS 0 true (Val.Qk (v0_1 ++ [(Qc0 x0)]) 5 rfl), hP 1 (Q2s i0 (by omega))] [aN (Q256 x0 (H.2.1 x0 (Q2z hx0)))] (by kernel_rfl) hr
theorem Q10d (p0 : List Requirement) (H : Qgh p0) : ∀ (r0 : List Requirement) (i0 : Nat) (v0_1 : List Val), List.drop i0 p0 = r0 → List.length v0_1 ≤ i0 → Qhd p0 (Qfe p0 i0 v0_1) (Q4q p0 r0 i0 v0_1)
 | [], i0, v0_1, hd, ho0_0 => by
  have hc0 : (decide ((i0 : Int) < ((List.length p0) : Int))) = false := by have := Q1y hd; simp; omega
  rw [Q4q]
  exact Q1b2 p0 H i0 v0_1 ho0_0 hc0
 | x0 :: r0, i0, v0_1, hd, ho0_0 => by
  obtain ⟨hx0, hi0, hd'⟩ := Q1v hd
  have hc0 : (decide ((i0 : Int) < ((List.length p0) : Int))) = true := by simp; omega
  rw [Q4q]
  exact Qu0 p0 (fun r hr => Q18r p0 H x0 i0 v0_1 hx0 hi0 ho0_0 hc0 hr) _ (Q10d p0 H r0 (i0 + 1) (v0_1 ++ [(Qc0 x0)]) hd' (by first | omega | (simp; omega)))
def Q33 (p0 : List Requirement) : Val := vL (p0.map Requirement.enc)
theorem Q184 (p0 : List Requirement) : Q33 p0 = ((Qo4 (Q4q p0 p0 0 []))) := by
  rw [Qw5]
  rfl
def Q17n (p0 : List Requirement) : En := .call 259 [.sl (Requirement.rows p0), .fn 260 [] []] []
def Qs9 (p0 : List Requirement) : Rs := .ret (.agg (Val.cells (Q33 p0))) []
def Q7d (p0 : List Requirement) : Prop := LSm Requirement.sm p0
theorem Qd5 (p0 : List Requirement) (H : Q7d p0) : (Qgh p0) ∧ (Qoe (Q4q p0 p0 0 [])) ∧ True := by
  refine ⟨⟨Nat.le_trans H.1 (Nat.le_of_ble_eq_true rfl), H.2, trivial⟩, ⟨?_, trivial⟩, trivial⟩
  rw [Qw5]
  exact Q3i (fun _ h => Requirement.Q2l h) H
theorem Qb7 (p0 : List Requirement) (H : Q7d p0) : Qd G (Q17n p0) (Qs9 p0) := by
 unfold Qs9
 rw [Q184]
 have hl0 := Q10d p0 ((Qd5 p0 H).1) p0 0 [] (by simp) (by simp)
 obtain ⟨z0, zo0, hl0⟩ := hl0
 exact Qj (fn := Ir.K1e) rfl VOK.nil [hP 3 (Q1g (Requirement.rows p0) (List.length p0) (Requirement.Qa p0)), hS 0 true (Val.Qk (Q4q p0 p0 0 []) 5 rfl), hQ (Val.Qa (Q4q p0 p0 0 [])).symm] [aV [(1, Val.rows (Q4q p0 p0 0 []))] hl0, aN (Qwv (Q4q p0 p0 0 []) (Qd5 p0 H).2.1)] (by kernel_rfl)
def Q67 (p0 : Bool) : Val := vB p0
theorem Q236 (p0 : Bool) : Q67 p0 = (bif p0 then
    (Val.mk 1 1 eB [] [])
  else
    (Val.mk 1 0 eB [] [])) := by
  cases p0 <;> rfl
def Q212 (p0 : Bool) : En := .call 192 [.bool p0] []
def Q1s0 (p0 : Bool) : Rs := .ret (.agg (Val.cells (Q67 p0))) []
theorem Q1aq (p0 : Bool) : Qd G (Q212 p0) (Q1s0 p0) := by
 unfold Q1s0
 rw [Q236]
 cases h0 : p0 with
 | true =>
  exact Qj (fn := Ir.K4w) rfl VOK.nil [] [] (by kernel_rfl)
 | false =>
  exact Qj (fn := Ir.K4w) rfl VOK.nil [] [] (by kernel_rfl)
def Qbx (p0 : NodeTerm) : Val := NodeTerm.enc p0
theorem Q22d (p0 : NodeTerm) : Qbx p0 = ((Q51 ([(Q1c Qo (Q67 p0.required)), (Q1c Qh (Q33 p0.selector)), (Q1c Q1k (Q2w p0.weight))]))) := by
  exact Eq.symm (Q6a (by exact Nat.le_of_ble_eq_true rfl) (by kernel_rfl))
def Q1zx (p0 : NodeTerm) : En := .call 262 [.agg (NodeTerm.cells p0)] []
def Q1qu (p0 : NodeTerm) : Rs := .ret (.agg (Val.cells (Qbx p0))) []
def Q1l2 (p0 : NodeTerm) : Prop := NodeTerm.sm p0
theorem Q15e (p0 : NodeTerm) (H : Q1l2 p0) : (Q7d p0.selector) ∧ (Q87 ([(Q1c Qo (Q67 p0.required)), (Q1c Qh (Q33 p0.selector)), (Q1c Q1k (Q2w p0.weight))])) ∧ True := by
  repeat' with_reducible apply And.intro
  all_goals first | exact True.intro | exact H | exact H.1 | exact H.2.1 | exact H.2.2.1 | exact H.2.2.2.1 | exact H.2.2.2.2.1 | exact H.2.2.2.2.2.1 | exact H.2.2.2.2.2.2.1 | exact H.2.2.2.2.2.2.2.1 | exact H.2.2.2.2.2.2.2.2.1 | exact H.2.2.2.2.2.2.2.2.2.1 | exact H.2.2.2.2.2.2.2.2.2.2.1 | exact H.2.2.2.2.2.2.2.2.2.2.2.1 | exact Q94 (by exact Nat.le_of_ble_eq_true rfl) (NodeTerm.Q2l H).all.2.2.2
theorem Q253 (p0 : NodeTerm) (H : Q1l2 p0) : Qd G (Q1zx p0) (Q1qu p0) := by
 unfold Q1qu
 rw [Q22d]
 exact Qj (fn := Ir.K13) rfl VOK.nil [] [aN (Q1aq p0.required), aN (Q3v Qo (Q67 p0.required)), aN (Qb7 p0.selector (Q15e p0 H).1), aN (Q3v Qh (Q33 p0.selector)), aN (Qai p0.weight), aN (Q3v Q1k (Q2w p0.weight)), aN (Q4k (e' := .call 78 [.sl [(Fld.cells (Q1c Qo (Q67 p0.required))), (Fld.cells (Q1c Qh (Q33 p0.selector))), (Fld.cells (Q1c Q1k (Q2w p0.weight)))]] []) (Q9k ([(Q1c Qo (Q67 p0.required)), (Q1c Qh (Q33 p0.selector)), (Q1c Q1k (Q2w p0.weight))]) (Q15e p0 H).2.1) (by simp only [Q8l, Fld.Q1b, Fld.Q1r]))] (by kernel_rfl)
def Q4r (p0 : List NodeTerm) : List NodeTerm → Nat → (List Val) → List Val
 | [], _i0, v0_1 =>
  v0_1
 | x0 :: r0, i0, v0_1 =>
  Q4r p0 r0 (i0 + 1) (v0_1 ++ [(Qbx x0)])
theorem Qw6 (p0 : List NodeTerm) : ∀ (l : List NodeTerm) (i : Nat) (a : List Val), Q4r p0 l i a = a ++ l.map (fun x0 => (Qbx x0))
  | [], _, _ => by simp [Q4r]
  | x :: r, i, a => by rw [Q4r, Qw6 p0 r]; simp
def Qx5 (p0 : List NodeTerm) (i0 : Nat) (v0_1 : List Val) : List PV :=
  [.un, .fn 262 [] [], .un, .un, .bx 0 0, .ms 1 5 0 (List.length v0_1), .un, .un, .sl (NodeTerm.rows p0), .int .i64 ((List.length p0) : Int), .int .i64 (i0 : Int)] ++ nuns 12
def Qis (_p0 : List NodeTerm) (_i0 : Nat) (v0_1 : List Val) : List Ob :=
  [⟨5, 0, true, [.int .i64 0, .int .i64 0, .str eB, .ms 2 5 0 0, .ms 3 6 0 0]⟩, ⟨5, 0, true, (Val.rows v0_1).flatten⟩, ⟨5, 0, true, []⟩, ⟨6, 0, true, []⟩]
def Qff (p0 : List NodeTerm) (i0 : Nat) (v0_1 : List Val) : En := .loop 0 Ir.Qk3 Ir.Q1ja (Qx5 p0 i0 v0_1) (Qis p0 i0 v0_1)
def Qp9 (_p0 : List NodeTerm) (q0 : List Val) (z : Nat → PV) (_zo : Nat → List PV) : St :=
  ⟨[z 0, z 1, z 2, z 3, .bx 0 0, .ms 1 5 0 (List.length q0)] ++ zr z 6 17, [(0, ⟨5, 0, true, [.int .i64 0, .int .i64 0, .str eB, .ms 2 5 0 0, .ms 3 6 0 0]⟩), (1, ⟨5, 0, true, (Val.rows q0).flatten⟩), (2, ⟨5, 0, true, []⟩), (3, ⟨6, 0, true, []⟩)], 68⟩
theorem Q148 (p0 : List NodeTerm) (i0 : Nat) (v0_1 : List Val) : VOK (Go.Pv.look (number 0 (Qis p0 i0 v0_1))) [(1, Val.rows v0_1)] := (VOK.cons (show Seen _ _ from Q3r (ob := ⟨5, 0, true, (Val.rows v0_1).flatten⟩) (Val.Qk v0_1 5 rfl)) VOK.nil)
def Qhe (p0 : List NodeTerm) (e : En) (q : List Val) : Prop := ∃ z zo, Qd G e (.st (.exit 0) (Qp9 p0 q z zo))
theorem Qu1 (p0 : List NodeTerm) {e e' : En} (h : ∀ r, Qd G e r → Qd G e' r) : ∀ q, Qhe p0 e q → Qhe p0 e' q
  | _, ⟨z, zo, hz⟩ => ⟨z, zo, h _ hz⟩
def Qgi (p0 : List NodeTerm) : Prop := (List.length p0 ≤ 137438953472) ∧ (∀ x0 ∈ p0, Q1l2 x0) ∧ True
def Qqt (p0 : List NodeTerm) (i0 : Nat) (_v0_1 : List Val) : List PV :=
  [.un, .fn 262 [] []] ++ nuns 6 ++ [.sl (NodeTerm.rows p0), .int .i64 ((List.length p0) : Int), .int .i64 (i0 : Int), .bool false]
def Qlr (_p0 : List NodeTerm) (_i0 : Nat) (_v0_1 : List Val) : List (Nat × List PV) :=
  []
theorem Q1b3 (p0 : List NodeTerm) (_H : Qgi p0) (i0 : Nat) (v0_1 : List Val) (_ho0_0 : List.length v0_1 ≤ i0) (hc0 : (decide ((i0 : Int) < ((List.length p0) : Int))) = false) : Qhe p0 (Qff p0 i0 v0_1) v0_1 := by
 exact ⟨(envF (Qqt p0 i0 v0_1)), (zoF (Qlr p0 i0 v0_1)), Qv (Q148 p0 i0 v0_1) (x := ((.exit 0), Qp9 p0 v0_1 (envF (Qqt p0 i0 v0_1)) (zoF (Qlr p0 i0 v0_1)))) [hB 0 hc0] [] (by kernel_rfl)⟩
theorem Q18s (p0 : List NodeTerm) (H : Qgi p0) (x0 : NodeTerm) (i0 : Nat) (v0_1 : List Val) (hx0 : p0[i0]? = some x0) (hi0 : i0 < List.length p0) (ho0_0 : List.length v0_1 ≤ i0) (hc0 : (decide ((i0 : Int) < ((List.length p0) : Int))) = true) {r : Rs} (hr : Qd G (Qff p0 (i0 + 1) (v0_1 ++ [(Qbx x0)])) r) : Qd G (Qff p0 i0 v0_1) r := by
 have hB0 := H.1
 exact Qu (Q148 p0 i0 v0_1) (y := (Qx5 p0 (i0 + 1) (v0_1 ++ [(Qbx x0)]), Qis p0 (i0 + 1) (v0_1 ++ [(Qbx x0)]))) [hB 0 hc0, hP 0 (Q35 3 (NodeTerm.rows p0) i0 _ (NodeTerm.Qz hx0) rfl), hV 8 [(644, Val.rows (v0_1 ++ [(Qbx x0)]))] (Q4a 1 580 644 5 80 0 0 true (Val.rows v0_1) (Val.rows (v0_1 ++ [(Qbx x0)])) (Val.cells (Qbx x0)) (List.length v0_1) (List.length (v0_1 ++ [(Qbx x0)])) rfl (Val.Qa v0_1).symm (Val.Qa (v0_1 ++ [(Qbx x0)])).symm (Val.Q23 v0_1 (Qbx x0)) (Val.Q12 v0_1) rfl (by omega)), hS 0 true (Val.Qk (v0_1 ++ [(Qbx x0)]) 5 rfl), hP 1 (Q2s i0 (by omega))] [aN (Q253 x0 (H.2.1 x0 (Q2z hx0)))] (by kernel_rfl) hr
theorem Q10e (p0 : List NodeTerm) (H : Qgi p0) : ∀ (r0 : List NodeTerm) (i0 : Nat) (v0_1 : List Val), List.drop i0 p0 = r0 → List.length v0_1 ≤ i0 → Qhe p0 (Qff p0 i0 v0_1) (Q4r p0 r0 i0 v0_1)
 | [], i0, v0_1, hd, ho0_0 => by
  have hc0 : (decide ((i0 : Int) < ((List.length p0) : Int))) = false := by have := Q1y hd; simp; omega
  rw [Q4r]
  exact Q1b3 p0 H i0 v0_1 ho0_0 hc0
 | x0 :: r0, i0, v0_1, hd, ho0_0 => by
  obtain ⟨hx0, hi0, hd'⟩ := Q1v hd
  have hc0 : (decide ((i0 : Int) < ((List.length p0) : Int))) = true := by simp; omega
  rw [Q4r]
  exact Qu1 p0 (fun r hr => Q18s p0 H x0 i0 v0_1 hx0 hi0 ho0_0 hc0 hr) _ (Q10e p0 H r0 (i0 + 1) (v0_1 ++ [(Qbx x0)]) hd' (by first | omega | (simp; omega)))
def Q6j (p0 : List NodeTerm) : Val := vL (p0.map NodeTerm.enc)
theorem Q185 (p0 : List NodeTerm) : Q6j p0 = ((Qo4 (Q4r p0 p0 0 []))) := by
  rw [Qw6]
  rfl
def Q17o (p0 : List NodeTerm) : En := .call 261 [.sl (NodeTerm.rows p0), .fn 262 [] []] []
def Qsa (p0 : List NodeTerm) : Rs := .ret (.agg (Val.cells (Q6j p0))) []
def Qdu (p0 : List NodeTerm) : Prop := LSm NodeTerm.sm p0
theorem Qd6 (p0 : List NodeTerm) (H : Qdu p0) : (Qgi p0) ∧ (Qoe (Q4r p0 p0 0 [])) ∧ True := by
  refine ⟨⟨Nat.le_trans H.1 (Nat.le_of_ble_eq_true rfl), H.2, trivial⟩, ⟨?_, trivial⟩, trivial⟩
  rw [Qw6]
  exact Q3i (fun _ h => NodeTerm.Q2l h) H
theorem Q1ai (p0 : List NodeTerm) (H : Qdu p0) : Qd G (Q17o p0) (Qsa p0) := by
 unfold Qsa
 rw [Q185]
 have hl0 := Q10e p0 ((Qd6 p0 H).1) p0 0 [] (by simp) (by simp)
 obtain ⟨z0, zo0, hl0⟩ := hl0
 exact Qj (fn := Ir.K1f) rfl VOK.nil [hP 3 (Q1g (NodeTerm.rows p0) (List.length p0) (NodeTerm.Qa p0)), hS 0 true (Val.Qk (Q4r p0 p0 0 []) 5 rfl), hQ (Val.Qa (Q4r p0 p0 0 [])).symm] [aV [(1, Val.rows (Q4r p0 p0 0 []))] hl0, aN (Qwv (Q4r p0 p0 0 []) (Qd6 p0 H).2.1)] (by kernel_rfl)
def Qby (p0 : PodTerm) : Val := PodTerm.enc p0
theorem Q22e (p0 : PodTerm) : Qby p0 = ((Q51 ([(Q1c Q3a (Q67 p0.anti)), (Q1c Qo (Q67 p0.required)), (Q1c Qh (Q33 p0.selector)), (Q1c Qy (Q32 p0.topology)), (Q1c Q1k (Q2w p0.weight))]))) := by
  exact Eq.symm (Q6a (by exact Nat.le_of_ble_eq_true rfl) (by kernel_rfl))
def Q1zy (p0 : PodTerm) : En := .call 264 [.agg (PodTerm.cells p0)] []
def Q1qv (p0 : PodTerm) : Rs := .ret (.agg (Val.cells (Qby p0))) []
def Q1l3 (p0 : PodTerm) : Prop := PodTerm.sm p0
theorem Q15f (p0 : PodTerm) (H : Q1l3 p0) : (Q7d p0.selector) ∧ (Q87 ([(Q1c Q3a (Q67 p0.anti)), (Q1c Qo (Q67 p0.required)), (Q1c Qh (Q33 p0.selector)), (Q1c Qy (Q32 p0.topology)), (Q1c Q1k (Q2w p0.weight))])) ∧ True := by
  repeat' with_reducible apply And.intro
  all_goals first | exact True.intro | exact H | exact H.1 | exact H.2.1 | exact H.2.2.1 | exact H.2.2.2.1 | exact H.2.2.2.2.1 | exact H.2.2.2.2.2.1 | exact H.2.2.2.2.2.2.1 | exact H.2.2.2.2.2.2.2.1 | exact H.2.2.2.2.2.2.2.2.1 | exact H.2.2.2.2.2.2.2.2.2.1 | exact H.2.2.2.2.2.2.2.2.2.2.1 | exact H.2.2.2.2.2.2.2.2.2.2.2.1 | exact Q94 (by exact Nat.le_of_ble_eq_true rfl) (PodTerm.Q2l H).all.2.2.2
theorem Q254 (p0 : PodTerm) (H : Q1l3 p0) : Qd G (Q1zy p0) (Q1qv p0) := by
 unfold Q1qv
 rw [Q22e]
 exact Qj (fn := Ir.K14) rfl VOK.nil [] [aN (Q1aq p0.anti), aN (Q3v Q3a (Q67 p0.anti)), aN (Q1aq p0.required), aN (Q3v Qo (Q67 p0.required)), aN (Qb7 p0.selector (Q15f p0 H).1), aN (Q3v Qh (Q33 p0.selector)), aN (Qek p0.topology), aN (Q3v Qy (Q32 p0.topology)), aN (Qai p0.weight), aN (Q3v Q1k (Q2w p0.weight)), aN (Q4k (e' := .call 78 [.sl [(Fld.cells (Q1c Q3a (Q67 p0.anti))), (Fld.cells (Q1c Qo (Q67 p0.required))), (Fld.cells (Q1c Qh (Q33 p0.selector))), (Fld.cells (Q1c Qy (Q32 p0.topology))), (Fld.cells (Q1c Q1k (Q2w p0.weight)))]] []) (Q9k ([(Q1c Q3a (Q67 p0.anti)), (Q1c Qo (Q67 p0.required)), (Q1c Qh (Q33 p0.selector)), (Q1c Qy (Q32 p0.topology)), (Q1c Q1k (Q2w p0.weight))]) (Q15f p0 H).2.1) (by simp only [Q8l, Fld.Q1b, Fld.Q1r]))] (by kernel_rfl)
def Q4s (p0 : List PodTerm) : List PodTerm → Nat → (List Val) → List Val
 | [], _i0, v0_1 =>
  v0_1
 | x0 :: r0, i0, v0_1 =>
  Q4s p0 r0 (i0 + 1) (v0_1 ++ [(Qby x0)])
theorem Qw7 (p0 : List PodTerm) : ∀ (l : List PodTerm) (i : Nat) (a : List Val), Q4s p0 l i a = a ++ l.map (fun x0 => (Qby x0))
  | [], _, _ => by simp [Q4s]
  | x :: r, i, a => by rw [Q4s, Qw7 p0 r]; simp
def Qx6 (p0 : List PodTerm) (i0 : Nat) (v0_1 : List Val) : List PV :=
  [.un, .fn 264 [] [], .un, .un, .bx 0 0, .ms 1 5 0 (List.length v0_1), .un, .un, .sl (PodTerm.rows p0), .int .i64 ((List.length p0) : Int), .int .i64 (i0 : Int)] ++ nuns 12
def Qit (_p0 : List PodTerm) (_i0 : Nat) (v0_1 : List Val) : List Ob :=
  [⟨5, 0, true, [.int .i64 0, .int .i64 0, .str eB, .ms 2 5 0 0, .ms 3 6 0 0]⟩, ⟨5, 0, true, (Val.rows v0_1).flatten⟩, ⟨5, 0, true, []⟩, ⟨6, 0, true, []⟩]
def Qfg (p0 : List PodTerm) (i0 : Nat) (v0_1 : List Val) : En := .loop 0 Ir.Qk4 Ir.Q1jb (Qx6 p0 i0 v0_1) (Qit p0 i0 v0_1)
def Qpa (_p0 : List PodTerm) (q0 : List Val) (z : Nat → PV) (_zo : Nat → List PV) : St :=
  ⟨[z 0, z 1, z 2, z 3, .bx 0 0, .ms 1 5 0 (List.length q0)] ++ zr z 6 17, [(0, ⟨5, 0, true, [.int .i64 0, .int .i64 0, .str eB, .ms 2 5 0 0, .ms 3 6 0 0]⟩), (1, ⟨5, 0, true, (Val.rows q0).flatten⟩), (2, ⟨5, 0, true, []⟩), (3, ⟨6, 0, true, []⟩)], 68⟩
theorem Q149 (p0 : List PodTerm) (i0 : Nat) (v0_1 : List Val) : VOK (Go.Pv.look (number 0 (Qit p0 i0 v0_1))) [(1, Val.rows v0_1)] := (VOK.cons (show Seen _ _ from Q3r (ob := ⟨5, 0, true, (Val.rows v0_1).flatten⟩) (Val.Qk v0_1 5 rfl)) VOK.nil)
def Qhf (p0 : List PodTerm) (e : En) (q : List Val) : Prop := ∃ z zo, Qd G e (.st (.exit 0) (Qpa p0 q z zo))
theorem Qu2 (p0 : List PodTerm) {e e' : En} (h : ∀ r, Qd G e r → Qd G e' r) : ∀ q, Qhf p0 e q → Qhf p0 e' q
  | _, ⟨z, zo, hz⟩ => ⟨z, zo, h _ hz⟩
def Qgj (p0 : List PodTerm) : Prop := (List.length p0 ≤ 137438953472) ∧ (∀ x0 ∈ p0, Q1l3 x0) ∧ True
def Qqu (p0 : List PodTerm) (i0 : Nat) (_v0_1 : List Val) : List PV :=
  [.un, .fn 264 [] []] ++ nuns 6 ++ [.sl (PodTerm.rows p0), .int .i64 ((List.length p0) : Int), .int .i64 (i0 : Int), .bool false]
def Qls (_p0 : List PodTerm) (_i0 : Nat) (_v0_1 : List Val) : List (Nat × List PV) :=
  []
theorem Q1b4 (p0 : List PodTerm) (_H : Qgj p0) (i0 : Nat) (v0_1 : List Val) (_ho0_0 : List.length v0_1 ≤ i0) (hc0 : (decide ((i0 : Int) < ((List.length p0) : Int))) = false) : Qhf p0 (Qfg p0 i0 v0_1) v0_1 := by
 exact ⟨(envF (Qqu p0 i0 v0_1)), (zoF (Qls p0 i0 v0_1)), Qv (Q149 p0 i0 v0_1) (x := ((.exit 0), Qpa p0 v0_1 (envF (Qqu p0 i0 v0_1)) (zoF (Qls p0 i0 v0_1)))) [hB 0 hc0] [] (by kernel_rfl)⟩
theorem Q18t (p0 : List PodTerm) (H : Qgj p0) (x0 : PodTerm) (i0 : Nat) (v0_1 : List Val) (hx0 : p0[i0]? = some x0) (hi0 : i0 < List.length p0) (ho0_0 : List.length v0_1 ≤ i0) (hc0 : (decide ((i0 : Int) < ((List.length p0) : Int))) = true) {r : Rs} (hr : Qd G (Qfg p0 (i0 + 1) (v0_1 ++ [(Qby x0)])) r) : Qd G (Qfg p0 i0 v0_1) r := by
 have hB0 := H.1
 exact Qu (Q149 p0 i0 v0_1) (y := (Qx6 p0 (i0 + 1) (v0_1 ++ [(Qby x0)]), Qit p0 (i0 + 1) (v0_1 ++ [(Qby x0)]))) [hB 0 hc0, hP 0 (Q35 5 (PodTerm.rows p0) i0 _ (PodTerm.Qz hx0) rfl), hV 8 [(644, Val.rows (v0_1 ++ [(Qby x0)]))] (Q4a 1 580 644 5 80 0 0 true (Val.rows v0_1) (Val.rows (v0_1 ++ [(Qby x0)])) (Val.cells (Qby x0)) (List.length v0_1) (List.length (v0_1 ++ [(Qby x0)])) rfl (Val.Qa v0_1).symm (Val.Qa (v0_1 ++ [(Qby x0)])).symm (Val.Q23 v0_1 (Qby x0)) (Val.Q12 v0_1) rfl (by omega)), hS 0 true (Val.Qk (v0_1 ++ [(Qby x0)]) 5 rfl), hP 1 (Q2s i0 (by omega))] [aN (Q254 x0 (H.2.1 x0 (Q2z hx0)))] (by kernel_rfl) hr
theorem Q10f (p0 : List PodTerm) (H : Qgj p0) : ∀ (r0 : List PodTerm) (i0 : Nat) (v0_1 : List Val), List.drop i0 p0 = r0 → List.length v0_1 ≤ i0 → Qhf p0 (Qfg p0 i0 v0_1) (Q4s p0 r0 i0 v0_1)
 | [], i0, v0_1, hd, ho0_0 => by
  have hc0 : (decide ((i0 : Int) < ((List.length p0) : Int))) = false := by have := Q1y hd; simp; omega
  rw [Q4s]
  exact Q1b4 p0 H i0 v0_1 ho0_0 hc0
 | x0 :: r0, i0, v0_1, hd, ho0_0 => by
  obtain ⟨hx0, hi0, hd'⟩ := Q1v hd
  have hc0 : (decide ((i0 : Int) < ((List.length p0) : Int))) = true := by simp; omega
  rw [Q4s]
  exact Qu2 p0 (fun r hr => Q18t p0 H x0 i0 v0_1 hx0 hi0 ho0_0 hc0 hr) _ (Q10f p0 H r0 (i0 + 1) (v0_1 ++ [(Qby x0)]) hd' (by first | omega | (simp; omega)))
def Q6k (p0 : List PodTerm) : Val := vL (p0.map PodTerm.enc)
theorem Q186 (p0 : List PodTerm) : Q6k p0 = ((Qo4 (Q4s p0 p0 0 []))) := by
  rw [Qw7]
  rfl
def Q17p (p0 : List PodTerm) : En := .call 263 [.sl (PodTerm.rows p0), .fn 264 [] []] []
def Qsb (p0 : List PodTerm) : Rs := .ret (.agg (Val.cells (Q6k p0))) []
def Qdv (p0 : List PodTerm) : Prop := LSm PodTerm.sm p0
theorem Qd7 (p0 : List PodTerm) (H : Qdv p0) : (Qgj p0) ∧ (Qoe (Q4s p0 p0 0 [])) ∧ True := by
  refine ⟨⟨Nat.le_trans H.1 (Nat.le_of_ble_eq_true rfl), H.2, trivial⟩, ⟨?_, trivial⟩, trivial⟩
  rw [Qw7]
  exact Q3i (fun _ h => PodTerm.Q2l h) H
theorem Q1aj (p0 : List PodTerm) (H : Qdv p0) : Qd G (Q17p p0) (Qsb p0) := by
 unfold Qsb
 rw [Q186]
 have hl0 := Q10f p0 ((Qd7 p0 H).1) p0 0 [] (by simp) (by simp)
 obtain ⟨z0, zo0, hl0⟩ := hl0
 exact Qj (fn := Ir.K1g) rfl VOK.nil [hP 3 (Q1g (PodTerm.rows p0) (List.length p0) (PodTerm.Qa p0)), hS 0 true (Val.Qk (Q4s p0 p0 0 []) 5 rfl), hQ (Val.Qa (Q4s p0 p0 0 [])).symm] [aV [(1, Val.rows (Q4s p0 p0 0 []))] hl0, aN (Qwv (Q4s p0 p0 0 []) (Qd7 p0 H).2.1)] (by kernel_rfl)
def Qc1 (p0 : SpreadRule) : Val := SpreadRule.enc p0
theorem Q22j (p0 : SpreadRule) : Qc1 p0 = ((Q51 ([(Q1c Q25 (Q2w p0.maxSkew)), (Q1c Qo (Q67 p0.required)), (Q1c Qh (Q33 p0.selector)), (Q1c Qy (Q32 p0.topology))]))) := by
  exact Eq.symm (Q6a (by exact Nat.le_of_ble_eq_true rfl) (by kernel_rfl))
def Q203 (p0 : SpreadRule) : En := .call 266 [.agg (SpreadRule.cells p0)] []
def Q1r0 (p0 : SpreadRule) : Rs := .ret (.agg (Val.cells (Qc1 p0))) []
def Q1l7 (p0 : SpreadRule) : Prop := SpreadRule.sm p0
theorem Q15h (p0 : SpreadRule) (H : Q1l7 p0) : (Q7d p0.selector) ∧ (Q87 ([(Q1c Q25 (Q2w p0.maxSkew)), (Q1c Qo (Q67 p0.required)), (Q1c Qh (Q33 p0.selector)), (Q1c Qy (Q32 p0.topology))])) ∧ True := by
  repeat' with_reducible apply And.intro
  all_goals first | exact True.intro | exact H | exact H.1 | exact H.2.1 | exact H.2.2.1 | exact H.2.2.2.1 | exact H.2.2.2.2.1 | exact H.2.2.2.2.2.1 | exact H.2.2.2.2.2.2.1 | exact H.2.2.2.2.2.2.2.1 | exact H.2.2.2.2.2.2.2.2.1 | exact H.2.2.2.2.2.2.2.2.2.1 | exact H.2.2.2.2.2.2.2.2.2.2.1 | exact H.2.2.2.2.2.2.2.2.2.2.2.1 | exact Q94 (by exact Nat.le_of_ble_eq_true rfl) (SpreadRule.Q2l H).all.2.2.2
theorem Q258 (p0 : SpreadRule) (H : Q1l7 p0) : Qd G (Q203 p0) (Q1r0 p0) := by
 unfold Q1r0
 rw [Q22j]
 exact Qj (fn := Ir.K19) rfl VOK.nil [] [aN (Qai p0.maxSkew), aN (Q3v Q25 (Q2w p0.maxSkew)), aN (Q1aq p0.required), aN (Q3v Qo (Q67 p0.required)), aN (Qb7 p0.selector (Q15h p0 H).1), aN (Q3v Qh (Q33 p0.selector)), aN (Qek p0.topology), aN (Q3v Qy (Q32 p0.topology)), aN (Q4k (e' := .call 78 [.sl [(Fld.cells (Q1c Q25 (Q2w p0.maxSkew))), (Fld.cells (Q1c Qo (Q67 p0.required))), (Fld.cells (Q1c Qh (Q33 p0.selector))), (Fld.cells (Q1c Qy (Q32 p0.topology)))]] []) (Q9k ([(Q1c Q25 (Q2w p0.maxSkew)), (Q1c Qo (Q67 p0.required)), (Q1c Qh (Q33 p0.selector)), (Q1c Qy (Q32 p0.topology))]) (Q15h p0 H).2.1) (by simp only [Q8l, Fld.Q1b, Fld.Q1r]))] (by kernel_rfl)
def Q4t (p0 : List SpreadRule) : List SpreadRule → Nat → (List Val) → List Val
 | [], _i0, v0_1 =>
  v0_1
 | x0 :: r0, i0, v0_1 =>
  Q4t p0 r0 (i0 + 1) (v0_1 ++ [(Qc1 x0)])
theorem Qw8 (p0 : List SpreadRule) : ∀ (l : List SpreadRule) (i : Nat) (a : List Val), Q4t p0 l i a = a ++ l.map (fun x0 => (Qc1 x0))
  | [], _, _ => by simp [Q4t]
  | x :: r, i, a => by rw [Q4t, Qw8 p0 r]; simp
def Qx7 (p0 : List SpreadRule) (i0 : Nat) (v0_1 : List Val) : List PV :=
  [.un, .fn 266 [] [], .un, .un, .bx 0 0, .ms 1 5 0 (List.length v0_1), .un, .un, .sl (SpreadRule.rows p0), .int .i64 ((List.length p0) : Int), .int .i64 (i0 : Int)] ++ nuns 12
def Qiu (_p0 : List SpreadRule) (_i0 : Nat) (v0_1 : List Val) : List Ob :=
  [⟨5, 0, true, [.int .i64 0, .int .i64 0, .str eB, .ms 2 5 0 0, .ms 3 6 0 0]⟩, ⟨5, 0, true, (Val.rows v0_1).flatten⟩, ⟨5, 0, true, []⟩, ⟨6, 0, true, []⟩]
def Qfh (p0 : List SpreadRule) (i0 : Nat) (v0_1 : List Val) : En := .loop 0 Ir.Qk5 Ir.Q1jc (Qx7 p0 i0 v0_1) (Qiu p0 i0 v0_1)
def Qpb (_p0 : List SpreadRule) (q0 : List Val) (z : Nat → PV) (_zo : Nat → List PV) : St :=
  ⟨[z 0, z 1, z 2, z 3, .bx 0 0, .ms 1 5 0 (List.length q0)] ++ zr z 6 17, [(0, ⟨5, 0, true, [.int .i64 0, .int .i64 0, .str eB, .ms 2 5 0 0, .ms 3 6 0 0]⟩), (1, ⟨5, 0, true, (Val.rows q0).flatten⟩), (2, ⟨5, 0, true, []⟩), (3, ⟨6, 0, true, []⟩)], 68⟩
theorem Q14a (p0 : List SpreadRule) (i0 : Nat) (v0_1 : List Val) : VOK (Go.Pv.look (number 0 (Qiu p0 i0 v0_1))) [(1, Val.rows v0_1)] := (VOK.cons (show Seen _ _ from Q3r (ob := ⟨5, 0, true, (Val.rows v0_1).flatten⟩) (Val.Qk v0_1 5 rfl)) VOK.nil)
def Qhg (p0 : List SpreadRule) (e : En) (q : List Val) : Prop := ∃ z zo, Qd G e (.st (.exit 0) (Qpb p0 q z zo))
theorem Qu3 (p0 : List SpreadRule) {e e' : En} (h : ∀ r, Qd G e r → Qd G e' r) : ∀ q, Qhg p0 e q → Qhg p0 e' q
  | _, ⟨z, zo, hz⟩ => ⟨z, zo, h _ hz⟩
def Qgk (p0 : List SpreadRule) : Prop := (List.length p0 ≤ 137438953472) ∧ (∀ x0 ∈ p0, Q1l7 x0) ∧ True
def Qqv (p0 : List SpreadRule) (i0 : Nat) (_v0_1 : List Val) : List PV :=
  [.un, .fn 266 [] []] ++ nuns 6 ++ [.sl (SpreadRule.rows p0), .int .i64 ((List.length p0) : Int), .int .i64 (i0 : Int), .bool false]
def Qlt (_p0 : List SpreadRule) (_i0 : Nat) (_v0_1 : List Val) : List (Nat × List PV) :=
  []
theorem Q1b5 (p0 : List SpreadRule) (_H : Qgk p0) (i0 : Nat) (v0_1 : List Val) (_ho0_0 : List.length v0_1 ≤ i0) (hc0 : (decide ((i0 : Int) < ((List.length p0) : Int))) = false) : Qhg p0 (Qfh p0 i0 v0_1) v0_1 := by
 exact ⟨(envF (Qqv p0 i0 v0_1)), (zoF (Qlt p0 i0 v0_1)), Qv (Q14a p0 i0 v0_1) (x := ((.exit 0), Qpb p0 v0_1 (envF (Qqv p0 i0 v0_1)) (zoF (Qlt p0 i0 v0_1)))) [hB 0 hc0] [] (by kernel_rfl)⟩
theorem Q18u (p0 : List SpreadRule) (H : Qgk p0) (x0 : SpreadRule) (i0 : Nat) (v0_1 : List Val) (hx0 : p0[i0]? = some x0) (hi0 : i0 < List.length p0) (ho0_0 : List.length v0_1 ≤ i0) (hc0 : (decide ((i0 : Int) < ((List.length p0) : Int))) = true) {r : Rs} (hr : Qd G (Qfh p0 (i0 + 1) (v0_1 ++ [(Qc1 x0)])) r) : Qd G (Qfh p0 i0 v0_1) r := by
 have hB0 := H.1
 exact Qu (Q14a p0 i0 v0_1) (y := (Qx7 p0 (i0 + 1) (v0_1 ++ [(Qc1 x0)]), Qiu p0 (i0 + 1) (v0_1 ++ [(Qc1 x0)]))) [hB 0 hc0, hP 0 (Q35 4 (SpreadRule.rows p0) i0 _ (SpreadRule.Qz hx0) rfl), hV 8 [(644, Val.rows (v0_1 ++ [(Qc1 x0)]))] (Q4a 1 580 644 5 80 0 0 true (Val.rows v0_1) (Val.rows (v0_1 ++ [(Qc1 x0)])) (Val.cells (Qc1 x0)) (List.length v0_1) (List.length (v0_1 ++ [(Qc1 x0)])) rfl (Val.Qa v0_1).symm (Val.Qa (v0_1 ++ [(Qc1 x0)])).symm (Val.Q23 v0_1 (Qc1 x0)) (Val.Q12 v0_1) rfl (by omega)), hS 0 true (Val.Qk (v0_1 ++ [(Qc1 x0)]) 5 rfl), hP 1 (Q2s i0 (by omega))] [aN (Q258 x0 (H.2.1 x0 (Q2z hx0)))] (by kernel_rfl) hr
theorem Q10g (p0 : List SpreadRule) (H : Qgk p0) : ∀ (r0 : List SpreadRule) (i0 : Nat) (v0_1 : List Val), List.drop i0 p0 = r0 → List.length v0_1 ≤ i0 → Qhg p0 (Qfh p0 i0 v0_1) (Q4t p0 r0 i0 v0_1)
 | [], i0, v0_1, hd, ho0_0 => by
  have hc0 : (decide ((i0 : Int) < ((List.length p0) : Int))) = false := by have := Q1y hd; simp; omega
  rw [Q4t]
  exact Q1b5 p0 H i0 v0_1 ho0_0 hc0
 | x0 :: r0, i0, v0_1, hd, ho0_0 => by
  obtain ⟨hx0, hi0, hd'⟩ := Q1v hd
  have hc0 : (decide ((i0 : Int) < ((List.length p0) : Int))) = true := by simp; omega
  rw [Q4t]
  exact Qu3 p0 (fun r hr => Q18u p0 H x0 i0 v0_1 hx0 hi0 ho0_0 hc0 hr) _ (Q10g p0 H r0 (i0 + 1) (v0_1 ++ [(Qc1 x0)]) hd' (by first | omega | (simp; omega)))
def Q6l (p0 : List SpreadRule) : Val := vL (p0.map SpreadRule.enc)
theorem Q187 (p0 : List SpreadRule) : Q6l p0 = ((Qo4 (Q4t p0 p0 0 []))) := by
  rw [Qw8]
  rfl
def Q17q (p0 : List SpreadRule) : En := .call 265 [.sl (SpreadRule.rows p0), .fn 266 [] []] []
def Qsc (p0 : List SpreadRule) : Rs := .ret (.agg (Val.cells (Q6l p0))) []
def Qdw (p0 : List SpreadRule) : Prop := LSm SpreadRule.sm p0
theorem Qd8 (p0 : List SpreadRule) (H : Qdw p0) : (Qgk p0) ∧ (Qoe (Q4t p0 p0 0 [])) ∧ True := by
  refine ⟨⟨Nat.le_trans H.1 (Nat.le_of_ble_eq_true rfl), H.2, trivial⟩, ⟨?_, trivial⟩, trivial⟩
  rw [Qw8]
  exact Q3i (fun _ h => SpreadRule.Q2l h) H
theorem Q1ak (p0 : List SpreadRule) (H : Qdw p0) : Qd G (Q17q p0) (Qsc p0) := by
 unfold Qsc
 rw [Q187]
 have hl0 := Q10g p0 ((Qd8 p0 H).1) p0 0 [] (by simp) (by simp)
 obtain ⟨z0, zo0, hl0⟩ := hl0
 exact Qj (fn := Ir.K1h) rfl VOK.nil [hP 3 (Q1g (SpreadRule.rows p0) (List.length p0) (SpreadRule.Qa p0)), hS 0 true (Val.Qk (Q4t p0 p0 0 []) 5 rfl), hQ (Val.Qa (Q4t p0 p0 0 [])).symm] [aV [(1, Val.rows (Q4t p0 p0 0 []))] hl0, aN (Qwv (Q4t p0 p0 0 []) (Qd8 p0 H).2.1)] (by kernel_rfl)
def Qc2 (p0 : Toleration) : Val := Toleration.enc p0
theorem Q22k (p0 : Toleration) : Qc2 p0 = ((Q51 ([(Q1c Q2r (Q2w p0.effect)), (Q1c Q2m (Q67 p0.exists_)), (Q1c Q1m (Q32 p0.key)), (Q1c Q2j (Q2w p0.seconds)), (Q1c Q1q (Q32 p0.value))]))) := by
  exact Eq.symm (Q6a (by exact Nat.le_of_ble_eq_true rfl) (by kernel_rfl))
def Q204 (p0 : Toleration) : En := .call 268 [.agg (Toleration.cells p0)] []
def Q1r1 (p0 : Toleration) : Rs := .ret (.agg (Val.cells (Qc2 p0))) []
def Q1l8 (p0 : Toleration) : Prop := Toleration.sm p0
theorem Q1h4 (p0 : Toleration) (H : Q1l8 p0) : (Q87 ([(Q1c Q2r (Q2w p0.effect)), (Q1c Q2m (Q67 p0.exists_)), (Q1c Q1m (Q32 p0.key)), (Q1c Q2j (Q2w p0.seconds)), (Q1c Q1q (Q32 p0.value))])) ∧ True := by
  repeat' with_reducible apply And.intro
  all_goals first | exact True.intro | exact H | exact H.1 | exact H.2.1 | exact H.2.2.1 | exact H.2.2.2.1 | exact H.2.2.2.2.1 | exact H.2.2.2.2.2.1 | exact H.2.2.2.2.2.2.1 | exact H.2.2.2.2.2.2.2.1 | exact H.2.2.2.2.2.2.2.2.1 | exact H.2.2.2.2.2.2.2.2.2.1 | exact H.2.2.2.2.2.2.2.2.2.2.1 | exact H.2.2.2.2.2.2.2.2.2.2.2.1 | exact Q94 (by exact Nat.le_of_ble_eq_true rfl) (Toleration.Q2l H).all.2.2.2
theorem Q259 (p0 : Toleration) (H : Q1l8 p0) : Qd G (Q204 p0) (Q1r1 p0) := by
 unfold Q1r1
 rw [Q22k]
 exact Qj (fn := Ir.K1a) rfl VOK.nil [] [aN (Qai p0.effect), aN (Q3v Q2r (Q2w p0.effect)), aN (Q1aq p0.exists_), aN (Q3v Q2m (Q67 p0.exists_)), aN (Qek p0.key), aN (Q3v Q1m (Q32 p0.key)), aN (Qai p0.seconds), aN (Q3v Q2j (Q2w p0.seconds)), aN (Qek p0.value), aN (Q3v Q1q (Q32 p0.value)), aN (Q4k (e' := .call 78 [.sl [(Fld.cells (Q1c Q2r (Q2w p0.effect))), (Fld.cells (Q1c Q2m (Q67 p0.exists_))), (Fld.cells (Q1c Q1m (Q32 p0.key))), (Fld.cells (Q1c Q2j (Q2w p0.seconds))), (Fld.cells (Q1c Q1q (Q32 p0.value)))]] []) (Q9k ([(Q1c Q2r (Q2w p0.effect)), (Q1c Q2m (Q67 p0.exists_)), (Q1c Q1m (Q32 p0.key)), (Q1c Q2j (Q2w p0.seconds)), (Q1c Q1q (Q32 p0.value))]) (Q1h4 p0 H).1) (by simp only [Q8l, Fld.Q1b, Fld.Q1r]))] (by kernel_rfl)
def Q4u (p0 : List Toleration) : List Toleration → Nat → (List Val) → List Val
 | [], _i0, v0_1 =>
  v0_1
 | x0 :: r0, i0, v0_1 =>
  Q4u p0 r0 (i0 + 1) (v0_1 ++ [(Qc2 x0)])
theorem Qw9 (p0 : List Toleration) : ∀ (l : List Toleration) (i : Nat) (a : List Val), Q4u p0 l i a = a ++ l.map (fun x0 => (Qc2 x0))
  | [], _, _ => by simp [Q4u]
  | x :: r, i, a => by rw [Q4u, Qw9 p0 r]; simp
def Qx8 (p0 : List Toleration) (i0 : Nat) (v0_1 : List Val) : List PV :=
  [.un, .fn 268 [] [], .un, .un, .bx 0 0, .ms 1 5 0 (List.length v0_1), .un, .un, .sl (Toleration.rows p0), .int .i64 ((List.length p0) : Int), .int .i64 (i0 : Int)] ++ nuns 12
def Qiv (_p0 : List Toleration) (_i0 : Nat) (v0_1 : List Val) : List Ob :=
  [⟨5, 0, true, [.int .i64 0, .int .i64 0, .str eB, .ms 2 5 0 0, .ms 3 6 0 0]⟩, ⟨5, 0, true, (Val.rows v0_1).flatten⟩, ⟨5, 0, true, []⟩, ⟨6, 0, true, []⟩]
def Qfi (p0 : List Toleration) (i0 : Nat) (v0_1 : List Val) : En := .loop 0 Ir.Qk6 Ir.Q1jd (Qx8 p0 i0 v0_1) (Qiv p0 i0 v0_1)
def Qpc (_p0 : List Toleration) (q0 : List Val) (z : Nat → PV) (_zo : Nat → List PV) : St :=
  ⟨[z 0, z 1, z 2, z 3, .bx 0 0, .ms 1 5 0 (List.length q0)] ++ zr z 6 17, [(0, ⟨5, 0, true, [.int .i64 0, .int .i64 0, .str eB, .ms 2 5 0 0, .ms 3 6 0 0]⟩), (1, ⟨5, 0, true, (Val.rows q0).flatten⟩), (2, ⟨5, 0, true, []⟩), (3, ⟨6, 0, true, []⟩)], 68⟩
theorem Q14b (p0 : List Toleration) (i0 : Nat) (v0_1 : List Val) : VOK (Go.Pv.look (number 0 (Qiv p0 i0 v0_1))) [(1, Val.rows v0_1)] := (VOK.cons (show Seen _ _ from Q3r (ob := ⟨5, 0, true, (Val.rows v0_1).flatten⟩) (Val.Qk v0_1 5 rfl)) VOK.nil)
def Qhh (p0 : List Toleration) (e : En) (q : List Val) : Prop := ∃ z zo, Qd G e (.st (.exit 0) (Qpc p0 q z zo))
theorem Qu4 (p0 : List Toleration) {e e' : En} (h : ∀ r, Qd G e r → Qd G e' r) : ∀ q, Qhh p0 e q → Qhh p0 e' q
  | _, ⟨z, zo, hz⟩ => ⟨z, zo, h _ hz⟩
def Qgl (p0 : List Toleration) : Prop := (List.length p0 ≤ 137438953472) ∧ (∀ x0 ∈ p0, Q1l8 x0) ∧ True
def Qqw (p0 : List Toleration) (i0 : Nat) (_v0_1 : List Val) : List PV :=
  [.un, .fn 268 [] []] ++ nuns 6 ++ [.sl (Toleration.rows p0), .int .i64 ((List.length p0) : Int), .int .i64 (i0 : Int), .bool false]
def Qlu (_p0 : List Toleration) (_i0 : Nat) (_v0_1 : List Val) : List (Nat × List PV) :=
  []
theorem Q1b6 (p0 : List Toleration) (_H : Qgl p0) (i0 : Nat) (v0_1 : List Val) (_ho0_0 : List.length v0_1 ≤ i0) (hc0 : (decide ((i0 : Int) < ((List.length p0) : Int))) = false) : Qhh p0 (Qfi p0 i0 v0_1) v0_1 := by
 exact ⟨(envF (Qqw p0 i0 v0_1)), (zoF (Qlu p0 i0 v0_1)), Qv (Q14b p0 i0 v0_1) (x := ((.exit 0), Qpc p0 v0_1 (envF (Qqw p0 i0 v0_1)) (zoF (Qlu p0 i0 v0_1)))) [hB 0 hc0] [] (by kernel_rfl)⟩
theorem Q18v (p0 : List Toleration) (H : Qgl p0) (x0 : Toleration) (i0 : Nat) (v0_1 : List Val) (hx0 : p0[i0]? = some x0) (hi0 : i0 < List.length p0) (ho0_0 : List.length v0_1 ≤ i0) (hc0 : (decide ((i0 : Int) < ((List.length p0) : Int))) = true) {r : Rs} (hr : Qd G (Qfi p0 (i0 + 1) (v0_1 ++ [(Qc2 x0)])) r) : Qd G (Qfi p0 i0 v0_1) r := by
 have hB0 := H.1
 exact Qu (Q14b p0 i0 v0_1) (y := (Qx8 p0 (i0 + 1) (v0_1 ++ [(Qc2 x0)]), Qiv p0 (i0 + 1) (v0_1 ++ [(Qc2 x0)]))) [hB 0 hc0, hP 0 (Q35 5 (Toleration.rows p0) i0 _ (Toleration.Qz hx0) rfl), hV 8 [(644, Val.rows (v0_1 ++ [(Qc2 x0)]))] (Q4a 1 580 644 5 80 0 0 true (Val.rows v0_1) (Val.rows (v0_1 ++ [(Qc2 x0)])) (Val.cells (Qc2 x0)) (List.length v0_1) (List.length (v0_1 ++ [(Qc2 x0)])) rfl (Val.Qa v0_1).symm (Val.Qa (v0_1 ++ [(Qc2 x0)])).symm (Val.Q23 v0_1 (Qc2 x0)) (Val.Q12 v0_1) rfl (by omega)), hS 0 true (Val.Qk (v0_1 ++ [(Qc2 x0)]) 5 rfl), hP 1 (Q2s i0 (by omega))] [aN (Q259 x0 (H.2.1 x0 (Q2z hx0)))] (by kernel_rfl) hr
theorem Q10h (p0 : List Toleration) (H : Qgl p0) : ∀ (r0 : List Toleration) (i0 : Nat) (v0_1 : List Val), List.drop i0 p0 = r0 → List.length v0_1 ≤ i0 → Qhh p0 (Qfi p0 i0 v0_1) (Q4u p0 r0 i0 v0_1)
 | [], i0, v0_1, hd, ho0_0 => by
  have hc0 : (decide ((i0 : Int) < ((List.length p0) : Int))) = false := by have := Q1y hd; simp; omega
  rw [Q4u]
  exact Q1b6 p0 H i0 v0_1 ho0_0 hc0
 | x0 :: r0, i0, v0_1, hd, ho0_0 => by
  obtain ⟨hx0, hi0, hd'⟩ := Q1v hd
  have hc0 : (decide ((i0 : Int) < ((List.length p0) : Int))) = true := by simp; omega
  rw [Q4u]
  exact Qu4 p0 (fun r hr => Q18v p0 H x0 i0 v0_1 hx0 hi0 ho0_0 hc0 hr) _ (Q10h p0 H r0 (i0 + 1) (v0_1 ++ [(Qc2 x0)]) hd' (by first | omega | (simp; omega)))
def Q6m (p0 : List Toleration) : Val := vL (p0.map Toleration.enc)
theorem Q188 (p0 : List Toleration) : Q6m p0 = ((Qo4 (Q4u p0 p0 0 []))) := by
  rw [Qw9]
  rfl
def Q17r (p0 : List Toleration) : En := .call 267 [.sl (Toleration.rows p0), .fn 268 [] []] []
def Qsd (p0 : List Toleration) : Rs := .ret (.agg (Val.cells (Q6m p0))) []
def Qdx (p0 : List Toleration) : Prop := LSm Toleration.sm p0
theorem Qd9 (p0 : List Toleration) (H : Qdx p0) : (Qgl p0) ∧ (Qoe (Q4u p0 p0 0 [])) ∧ True := by
  refine ⟨⟨Nat.le_trans H.1 (Nat.le_of_ble_eq_true rfl), H.2, trivial⟩, ⟨?_, trivial⟩, trivial⟩
  rw [Qw9]
  exact Q3i (fun _ h => Toleration.Q2l h) H
theorem Q1al (p0 : List Toleration) (H : Qdx p0) : Qd G (Q17r p0) (Qsd p0) := by
 unfold Qsd
 rw [Q188]
 have hl0 := Q10h p0 ((Qd9 p0 H).1) p0 0 [] (by simp) (by simp)
 obtain ⟨z0, zo0, hl0⟩ := hl0
 exact Qj (fn := Ir.K1i) rfl VOK.nil [hP 3 (Q1g (Toleration.rows p0) (List.length p0) (Toleration.Qa p0)), hS 0 true (Val.Qk (Q4u p0 p0 0 []) 5 rfl), hQ (Val.Qa (Q4u p0 p0 0 [])).symm] [aV [(1, Val.rows (Q4u p0 p0 0 []))] hl0, aN (Qwv (Q4u p0 p0 0 []) (Qd9 p0 H).2.1)] (by kernel_rfl)
def Q13h (p0 : PodSpec) : Val := PodSpec.enc p0
theorem Q22i (p0 : PodSpec) : Q13h p0 = ((Q51 ([(Q1c Q1x (Q6i p0.containers)), (Q1c Q38 (Q2w p0.grace)), (Q1c Q3b (Q32 p0.node)), (Q1c Q1t (Q33 p0.nodeSelector)), (Q1c Q2f (Q6j p0.nodeTerms)), (Q1c Q2x (Q6k p0.podTerms)), (Q1c Q1z (Q2w p0.priority)), (Q1c Q2b (Q2w p0.restart)), (Q1c Q3m (Q6l p0.spread)), (Q1c Q2q (Q6m p0.tolerations))]))) := by
  exact Eq.symm (Q6a (by exact Nat.le_of_ble_eq_true rfl) (by kernel_rfl))
def Q202 (p0 : PodSpec) : En := .call 229 [.agg (PodSpec.cells p0)] []
def Q1qz (p0 : PodSpec) : Rs := .ret (.agg (Val.cells (Q13h p0))) []
def Q1l6 (p0 : PodSpec) : Prop := PodSpec.sm p0
theorem Q9d (p0 : PodSpec) (H : Q1l6 p0) : (Qdt p0.containers) ∧ (Q7d p0.nodeSelector) ∧ (Qdu p0.nodeTerms) ∧ (Qdv p0.podTerms) ∧ (Qdw p0.spread) ∧ (Qdx p0.tolerations) ∧ (Q87 ([(Q1c Q1x (Q6i p0.containers)), (Q1c Q38 (Q2w p0.grace)), (Q1c Q3b (Q32 p0.node)), (Q1c Q1t (Q33 p0.nodeSelector)), (Q1c Q2f (Q6j p0.nodeTerms)), (Q1c Q2x (Q6k p0.podTerms)), (Q1c Q1z (Q2w p0.priority)), (Q1c Q2b (Q2w p0.restart)), (Q1c Q3m (Q6l p0.spread)), (Q1c Q2q (Q6m p0.tolerations))])) ∧ True := by
  repeat' with_reducible apply And.intro
  all_goals first | exact True.intro | exact H | exact H.1 | exact H.2.1 | exact H.2.2.1 | exact H.2.2.2.1 | exact H.2.2.2.2.1 | exact H.2.2.2.2.2.1 | exact H.2.2.2.2.2.2.1 | exact H.2.2.2.2.2.2.2.1 | exact H.2.2.2.2.2.2.2.2.1 | exact H.2.2.2.2.2.2.2.2.2.1 | exact H.2.2.2.2.2.2.2.2.2.2.1 | exact H.2.2.2.2.2.2.2.2.2.2.2.1 | exact Q94 (by exact Nat.le_of_ble_eq_true rfl) (PodSpec.Q2l H).all.2.2.2
theorem Q257 (p0 : PodSpec) (H : Q1l6 p0) : Qd G (Q202 p0) (Q1qz p0) := by
 unfold Q1qz
 rw [Q22i]
 exact Qj (fn := Ir.K18) rfl VOK.nil [] [aN (Q1ah p0.containers (Q9d p0 H).1), aN (Q3v Q1x (Q6i p0.containers)), aN (Qai p0.grace), aN (Q3v Q38 (Q2w p0.grace)), aN (Qek p0.node), aN (Q3v Q3b (Q32 p0.node)), aN (Qb7 p0.nodeSelector (Q9d p0 H).2.1), aN (Q3v Q1t (Q33 p0.nodeSelector)), aN (Q1ai p0.nodeTerms (Q9d p0 H).2.2.1), aN (Q3v Q2f (Q6j p0.nodeTerms)), aN (Q1aj p0.podTerms (Q9d p0 H).2.2.2.1), aN (Q3v Q2x (Q6k p0.podTerms)), aN (Qai p0.priority), aN (Q3v Q1z (Q2w p0.priority)), aN (Qai p0.restart), aN (Q3v Q2b (Q2w p0.restart)), aN (Q1ak p0.spread (Q9d p0 H).2.2.2.2.1), aN (Q3v Q3m (Q6l p0.spread)), aN (Q1al p0.tolerations (Q9d p0 H).2.2.2.2.2.1), aN (Q3v Q2q (Q6m p0.tolerations)), aN (Q4k (e' := .call 78 [.sl [(Fld.cells (Q1c Q1x (Q6i p0.containers))), (Fld.cells (Q1c Q38 (Q2w p0.grace))), (Fld.cells (Q1c Q3b (Q32 p0.node))), (Fld.cells (Q1c Q1t (Q33 p0.nodeSelector))), (Fld.cells (Q1c Q2f (Q6j p0.nodeTerms))), (Fld.cells (Q1c Q2x (Q6k p0.podTerms))), (Fld.cells (Q1c Q1z (Q2w p0.priority))), (Fld.cells (Q1c Q2b (Q2w p0.restart))), (Fld.cells (Q1c Q3m (Q6l p0.spread))), (Fld.cells (Q1c Q2q (Q6m p0.tolerations)))]] []) (Q9k ([(Q1c Q1x (Q6i p0.containers)), (Q1c Q38 (Q2w p0.grace)), (Q1c Q3b (Q32 p0.node)), (Q1c Q1t (Q33 p0.nodeSelector)), (Q1c Q2f (Q6j p0.nodeTerms)), (Q1c Q2x (Q6k p0.podTerms)), (Q1c Q1z (Q2w p0.priority)), (Q1c Q2b (Q2w p0.restart)), (Q1c Q3m (Q6l p0.spread)), (Q1c Q2q (Q6m p0.tolerations))]) (Q9d p0 H).2.2.2.2.2.2.1) (by simp only [Q8l, Fld.Q1b, Fld.Q1r]))] (by kernel_rfl)
def s_K9 (p0 : Template) : Val := Template.enc p0
theorem e_K9 (p0 : Template) : s_K9 p0 = ((Q51 ([(Q1c Q2h (Q6h p0.labels)), (Q1c Q3g (Q13h p0.spec))]))) := by
  exact Eq.symm (Q6a (by exact Nat.le_of_ble_eq_true rfl) (by kernel_rfl))
def c_K9 (p0 : Template) : En := .call 191 [.agg (Template.cells p0)] []
def a_K9 (p0 : Template) : Rs := .ret (.agg (Val.cells (s_K9 p0))) []
def H_K9 (p0 : Template) : Prop := Template.sm p0
theorem Q12q (p0 : Template) (H : H_K9 p0) : (Qds p0.labels) ∧ (Q1l6 p0.spec) ∧ (Q87 ([(Q1c Q2h (Q6h p0.labels)), (Q1c Q3g (Q13h p0.spec))])) ∧ True := by
  repeat' with_reducible apply And.intro
  all_goals first | exact True.intro | exact H | exact H.1 | exact H.2.1 | exact H.2.2.1 | exact H.2.2.2.1 | exact H.2.2.2.2.1 | exact H.2.2.2.2.2.1 | exact H.2.2.2.2.2.2.1 | exact H.2.2.2.2.2.2.2.1 | exact H.2.2.2.2.2.2.2.2.1 | exact H.2.2.2.2.2.2.2.2.2.1 | exact H.2.2.2.2.2.2.2.2.2.2.1 | exact H.2.2.2.2.2.2.2.2.2.2.2.1 | exact Q94 (by exact Nat.le_of_ble_eq_true rfl) (Template.Q2l H).all.2.2.2
theorem t_K9 (p0 : Template) (H : H_K9 p0) : Qd G (c_K9 p0) (a_K9 p0) := by
 unfold a_K9
 rw [e_K9]
 exact Qj (fn := Ir.K9) rfl VOK.nil [] [aN (Q1ag p0.labels (Q12q p0 H).1), aN (Q3v Q2h (Q6h p0.labels)), aN (Q257 p0.spec (Q12q p0 H).2.1), aN (Q3v Q3g (Q13h p0.spec)), aN (Q4k (e' := .call 78 [.sl [(Fld.cells (Q1c Q2h (Q6h p0.labels))), (Fld.cells (Q1c Q3g (Q13h p0.spec)))]] []) (Q9k ([(Q1c Q2h (Q6h p0.labels)), (Q1c Q3g (Q13h p0.spec))]) (Q12q p0 H).2.2.1) (by simp only [Q8l, Fld.Q1b, Fld.Q1r]))] (by kernel_rfl)
end Go.Proofs.YtimjjohlpnkacaaGreat
end

section
/- What the program's encoders compute (printed by a program). -/
namespace Go.Proofs.YtimjjohlpnkacaaGreat
open Go.Pv
def Q1af (p0 : BA) (p1 : Meta) (p2 : Val) (p3 : Val) : Object :=
 (Object.mk (Meta.mk p0 p1.namespace_ p1.name p1.uid p1.version p1.generation p1.created p1.deleting p1.deleteAt p1.labels p1.owners p1.finalizers p1.managers) p2 p3)
def Q221 (p0 : BA) (p1 : Meta) (p2 : Val) (p3 : Val) : En := .call 85 [.str p0, .agg (Meta.cells p1), .agg (Val.cells p2), .agg (Val.cells p3)] []
def Q1t0 (p0 : BA) (p1 : Meta) (p2 : Val) (p3 : Val) : Rs := .ret (.agg (Object.cells (Q1af p0 p1 p2 p3))) []
def Q1m4 (_p0 : BA) (p1 : Meta) (_p2 : Val) (_p3 : Val) : Prop := (Qtq p1) ∧ True
theorem Q1uo (p0 : BA) (p1 : Meta) (p2 : Val) (p3 : Val) (H : Q1m4 p0 p1 p2 p3) : Qd G (Q221 p0 p1 p2 p3) (Q1t0 p0 p1 p2 p3) := by
 unfold Q1t0 Q1af
 exact Qj (fn := Ir.K76) rfl VOK.nil [] [aN (Q1n0 p1 H.1)] (by kernel_rfl)
theorem Q1tq {k : ByteArray} {m : Meta} {a b p q : List Fld} (ha : a.length ≤ 20) (hb : b.length ≤ 20) (h1 : mapOf a = p) (h2 : mapOf b = q) : Q1af k m (Q51 a) (Q51 b) = ⟨{ m with kind := k }, vM p, vM q⟩ := by
  rw [Qal ha h1, Qal hb h2]
  rfl
theorem Q1tr {k : ByteArray} {m : Meta} {a p : List Fld} {t : Val} (ha : a.length ≤ 20) (h1 : mapOf a = p) : Q1af k m (Q51 a) t = ⟨{ m with kind := k }, vM p, t⟩ := by
  rw [Qal ha h1]
  rfl
def Q3z (p0 : BA) (p1 : Val) : Fld := .mk p0 p1
theorem Q242 (p0 : BA) (p1 : Val) : Q3z p0 p1 = ((Fld.mk p0 p1)) := by
  rfl
def Q223 (p0 : BA) (p1 : Val) : En := .call 83 [.str p0, .agg (Val.cells p1)] []
def Q1t2 (p0 : BA) (p1 : Val) : Rs := .ret (.agg (Fld.cells (Q3z p0 p1))) []
theorem Qfa (p0 : BA) (p1 : Val) : Qd G (Q223 p0 p1) (Q1t2 p0 p1) := by
 unfold Q1t2
 rw [Q242]
 exact Qj (fn := Ir.K78) rfl VOK.nil [] [] (by kernel_rfl)
def Q26 (p0 : BA) (p1 : Int) : Fld := .mk p0 (vN p1)
theorem Q240 (p0 : BA) (p1 : Int) : Q26 p0 p1 = ((Q3z p0 (Q2w p1))) := by
  rfl
def Q220 (p0 : BA) (p1 : Int) : En := .call 79 [.str p0, .int .i64 p1] []
def Q1sz (p0 : BA) (p1 : Int) : Rs := .ret (.agg (Fld.cells (Q26 p0 p1))) []
theorem Q7q (p0 : BA) (p1 : Int) : Qd G (Q220 p0 p1) (Q1sz p0 p1) := by
 unfold Q1sz
 rw [Q240]
 exact Qj (fn := Ir.K75) rfl VOK.nil [] [aN (Qai p1), aN (Qfa p0 (Q2w p1))] (by kernel_rfl)
def Q7u (p0 : BA) (p1 : BA) : Fld := .mk p0 (vS p1)
theorem Q244 (p0 : BA) (p1 : BA) : Q7u p0 p1 = ((Q3z p0 (Q32 p1))) := by
  rfl
def Q227 (p0 : BA) (p1 : BA) : En := .call 95 [.str p0, .str p1] []
def Q1t6 (p0 : BA) (p1 : BA) : Rs := .ret (.agg (Fld.cells (Q7u p0 p1))) []
theorem Q1j2 (p0 : BA) (p1 : BA) : Qd G (Q227 p0 p1) (Q1t6 p0 p1) := by
 unfold Q1t6
 rw [Q244]
 exact Qj (fn := Ir.K7m) rfl VOK.nil [] [aN (Qek p1), aN (Qfa p0 (Q32 p1))] (by kernel_rfl)
def Q63 (p0 : List ByteArray) : List ByteArray → Nat → (List Val) → List Val
 | [], _i0, v0_1 =>
  v0_1
 | x0 :: r0, i0, v0_1 =>
  Q63 p0 r0 (i0 + 1) (v0_1 ++ [(Q32 x0)])
theorem Q172 (p0 : List ByteArray) : ∀ (l : List ByteArray) (i : Nat) (a : List Val), Q63 p0 l i a = a ++ l.map (fun x0 => (Q32 x0))
  | [], _, _ => by simp [Q63]
  | x :: r, i, a => by rw [Q63, Q172 p0 r]; simp
def Qy8 (p0 : List ByteArray) (i0 : Nat) (v0_1 : List Val) : List PV :=
  [.un, .fn 193 [] [], .un, .un, .bx 0 0, .ms 1 5 0 (List.length v0_1), .un, .un, .sl (Q10 p0), .int .i64 ((List.length p0) : Int), .int .i64 (i0 : Int)] ++ nuns 12
def Qjm (_p0 : List ByteArray) (_i0 : Nat) (v0_1 : List Val) : List Ob :=
  [⟨5, 0, true, [.int .i64 0, .int .i64 0, .str eB, .ms 2 5 0 0, .ms 3 6 0 0]⟩, ⟨5, 0, true, (Val.rows v0_1).flatten⟩, ⟨5, 0, true, []⟩, ⟨6, 0, true, []⟩]
def Qgd (p0 : List ByteArray) (i0 : Nat) (v0_1 : List Val) : En := .loop 0 Ir.Ql9 Ir.Q1kg (Qy8 p0 i0 v0_1) (Qjm p0 i0 v0_1)
def Qqd (_p0 : List ByteArray) (q0 : List Val) (z : Nat → PV) (_zo : Nat → List PV) : St :=
  ⟨[z 0, z 1, z 2, z 3, .bx 0 0, .ms 1 5 0 (List.length q0)] ++ zr z 6 17, [(0, ⟨5, 0, true, [.int .i64 0, .int .i64 0, .str eB, .ms 2 5 0 0, .ms 3 6 0 0]⟩), (1, ⟨5, 0, true, (Val.rows q0).flatten⟩), (2, ⟨5, 0, true, []⟩), (3, ⟨6, 0, true, []⟩)], 68⟩
theorem Q150 (p0 : List ByteArray) (i0 : Nat) (v0_1 : List Val) : VOK (Go.Pv.look (number 0 (Qjm p0 i0 v0_1))) [(1, Val.rows v0_1)] := (VOK.cons (show Seen _ _ from Q3r (ob := ⟨5, 0, true, (Val.rows v0_1).flatten⟩) (Val.Qk v0_1 5 rfl)) VOK.nil)
def Qi5 (p0 : List ByteArray) (e : En) (q : List Val) : Prop := ∃ z zo, Qd G e (.st (.exit 0) (Qqd p0 q z zo))
theorem Qv5 (p0 : List ByteArray) {e e' : En} (h : ∀ r, Qd G e r → Qd G e' r) : ∀ q, Qi5 p0 e q → Qi5 p0 e' q
  | _, ⟨z, zo, hz⟩ => ⟨z, zo, h _ hz⟩
def Qh8 (p0 : List ByteArray) : Prop := (List.length p0 ≤ 137438953472) ∧ True
def Qs5 (p0 : List ByteArray) (i0 : Nat) (_v0_1 : List Val) : List PV :=
  [.un, .fn 193 [] []] ++ nuns 6 ++ [.sl (Q10 p0), .int .i64 ((List.length p0) : Int), .int .i64 (i0 : Int), .bool false]
def Qn3 (_p0 : List ByteArray) (_i0 : Nat) (_v0_1 : List Val) : List (Nat × List PV) :=
  []
theorem Q1cf (p0 : List ByteArray) (_H : Qh8 p0) (i0 : Nat) (v0_1 : List Val) (_ho0_0 : List.length v0_1 ≤ i0) (hc0 : (decide ((i0 : Int) < ((List.length p0) : Int))) = false) : Qi5 p0 (Qgd p0 i0 v0_1) v0_1 := by
 exact ⟨(envF (Qs5 p0 i0 v0_1)), (zoF (Qn3 p0 i0 v0_1)), Qv (Q150 p0 i0 v0_1) (x := ((.exit 0), Qqd p0 v0_1 (envF (Qs5 p0 i0 v0_1)) (zoF (Qn3 p0 i0 v0_1)))) [hB 0 hc0] [] (by kernel_rfl)⟩
theorem Q1a0 (p0 : List ByteArray) (H : Qh8 p0) (x0 : BA) (i0 : Nat) (v0_1 : List Val) (hx0 : p0[i0]? = some x0) (hi0 : i0 < List.length p0) (ho0_0 : List.length v0_1 ≤ i0) (hc0 : (decide ((i0 : Int) < ((List.length p0) : Int))) = true) {r : Rs} (hr : Qd G (Qgd p0 (i0 + 1) (v0_1 ++ [(Q32 x0)])) r) : Qd G (Qgd p0 i0 v0_1) r := by
 have hB0 := H.1
 exact Qu (Q150 p0 i0 v0_1) (y := (Qy8 p0 (i0 + 1) (v0_1 ++ [(Q32 x0)]), Qjm p0 (i0 + 1) (v0_1 ++ [(Q32 x0)]))) [hB 0 hc0, hP 0 (Q35 1 (Q10 p0) i0 _ (Q8v hx0) rfl), hV 7 [(580, Val.rows (v0_1 ++ [(Q32 x0)]))] (Q4a 1 516 580 5 80 0 0 true (Val.rows v0_1) (Val.rows (v0_1 ++ [(Q32 x0)])) (Val.cells (Q32 x0)) (List.length v0_1) (List.length (v0_1 ++ [(Q32 x0)])) rfl (Val.Qa v0_1).symm (Val.Qa (v0_1 ++ [(Q32 x0)])).symm (Val.Q23 v0_1 (Q32 x0)) (Val.Q12 v0_1) rfl (by omega)), hS 0 true (Val.Qk (v0_1 ++ [(Q32 x0)]) 5 rfl), hP 1 (Q2s i0 (by omega))] [aN (Qek x0)] (by kernel_rfl) hr
theorem Q11h (p0 : List ByteArray) (H : Qh8 p0) : ∀ (r0 : List ByteArray) (i0 : Nat) (v0_1 : List Val), List.drop i0 p0 = r0 → List.length v0_1 ≤ i0 → Qi5 p0 (Qgd p0 i0 v0_1) (Q63 p0 r0 i0 v0_1)
 | [], i0, v0_1, hd, ho0_0 => by
  have hc0 : (decide ((i0 : Int) < ((List.length p0) : Int))) = false := by have := Q1y hd; simp; omega
  rw [Q63]
  exact Q1cf p0 H i0 v0_1 ho0_0 hc0
 | x0 :: r0, i0, v0_1, hd, ho0_0 => by
  obtain ⟨hx0, hi0, hd'⟩ := Q1v hd
  have hc0 : (decide ((i0 : Int) < ((List.length p0) : Int))) = true := by simp; omega
  rw [Q63]
  exact Qv5 p0 (fun r hr => Q1a0 p0 H x0 i0 v0_1 hx0 hi0 ho0_0 hc0 hr) _ (Q11h p0 H r0 (i0 + 1) (v0_1 ++ [(Q32 x0)]) hd' (by first | omega | (simp; omega)))
def Q6q (p0 : List ByteArray) : Val := vL (p0.map vS)
theorem Q18c (p0 : List ByteArray) : Q6q p0 = ((Val.mk 4 0 eB (Q63 p0 p0 0 []) [])) := by
  rw [Q172]
  rfl
def Q17y (p0 : List ByteArray) : En := .call 225 [.sl (Q10 p0), .fn 193 [] []] []
def Qsk (p0 : List ByteArray) : Rs := .ret (.agg (Val.cells (Q6q p0))) []
def Qe0 (p0 : List ByteArray) : Prop := LSm (fun _ : ByteArray => True) p0
theorem Qvx (p0 : List ByteArray) (H : Qe0 p0) : (Qh8 p0) ∧ True := by
  exact ⟨⟨Nat.le_trans H.1 (Nat.le_of_ble_eq_true rfl), trivial⟩, trivial⟩
theorem Q1as (p0 : List ByteArray) (H : Qe0 p0) : Qd G (Q17y p0) (Qsk p0) := by
 unfold Qsk
 rw [Q18c]
 have hl0 := Q11h p0 ((Qvx p0 H).1) p0 0 [] (by simp) (by simp)
 obtain ⟨z0, zo0, hl0⟩ := hl0
 exact Qj (fn := Ir.K73) rfl VOK.nil [hP 3 (Q1g (Q10 p0) (List.length p0) (Q30 p0)), hS 0 true (Val.Qk (Q63 p0 p0 0 []) 5 rfl), hQ (Val.Qa (Q63 p0 p0 0 [])).symm] [aV [(1, Val.rows (Q63 p0 p0 0 []))] hl0] (by kernel_rfl)
def Qc5 (p0 : Requirement) : Val := Requirement.enc p0
theorem Q23y (p0 : Requirement) : Qc5 p0 = ((Q51 ([(Q7u Q1m p0.key), (Q26 Q4b p0.op), (Q3z Q20 (Q6q p0.values))]))) := by
  exact Eq.symm (Qal (by exact Nat.le_of_ble_eq_true rfl) (by kernel_rfl))
def Q21y (p0 : Requirement) : En := .call 224 [.agg (Requirement.cells p0)] []
def Q1sx (p0 : Requirement) : Rs := .ret (.agg (Val.cells (Qc5 p0))) []
def Q1m2 (p0 : Requirement) : Prop := Requirement.sm p0
theorem Q15v (p0 : Requirement) (H : Q1m2 p0) : (Qe0 p0.values) ∧ (Q87 ([(Q7u Q1m p0.key), (Q26 Q4b p0.op), (Q3z Q20 (Q6q p0.values))])) ∧ True := by
  exact ⟨(by first | exact True.intro | exact H | exact H.1), Q94 (by exact Nat.le_of_ble_eq_true rfl) (List.forall_mem_cons.2 ⟨Val.Sm.leaf _ _ _, List.forall_mem_cons.2 ⟨Val.Sm.leaf _ _ _, List.forall_mem_cons.2 ⟨Q3i (fun _ h => Val.Sm.leaf _ _ _) H.1, List.forall_mem_nil _⟩⟩⟩), trivial⟩
theorem Q268 (p0 : Requirement) (H : Q1m2 p0) : Qd G (Q21y p0) (Q1sx p0) := by
 unfold Q1sx
 rw [Q23y]
 exact Qj (fn := Ir.K6w) rfl VOK.nil [] [aN (Q1j2 Q1m p0.key), aN (Q7q Q4b p0.op), aN (Q1as p0.values (Q15v p0 H).1), aN (Qfa Q20 (Q6q p0.values)), aN (Q4k (e' := .call 78 [.sl [(Fld.cells (Q7u Q1m p0.key)), (Fld.cells (Q26 Q4b p0.op)), (Fld.cells (Q3z Q20 (Q6q p0.values)))]] []) (Q9k ([(Q7u Q1m p0.key), (Q26 Q4b p0.op), (Q3z Q20 (Q6q p0.values))]) (Q15v p0 H).2.1) (by simp only [Q8l, Fld.Q1b, Fld.Q1r]))] (by kernel_rfl)
def Q62 (p0 : List Requirement) : List Requirement → Nat → (List Val) → List Val
 | [], _i0, v0_1 =>
  v0_1
 | x0 :: r0, i0, v0_1 =>
  Q62 p0 r0 (i0 + 1) (v0_1 ++ [(Qc5 x0)])
theorem Q171 (p0 : List Requirement) : ∀ (l : List Requirement) (i : Nat) (a : List Val), Q62 p0 l i a = a ++ l.map (fun x0 => (Qc5 x0))
  | [], _, _ => by simp [Q62]
  | x :: r, i, a => by rw [Q62, Q171 p0 r]; simp
def Qy7 (p0 : List Requirement) (i0 : Nat) (v0_1 : List Val) : List PV :=
  [.un, .fn 224 [] [], .un, .un, .bx 0 0, .ms 1 5 0 (List.length v0_1), .un, .un, .sl (Requirement.rows p0), .int .i64 ((List.length p0) : Int), .int .i64 (i0 : Int)] ++ nuns 12
def Qjl (_p0 : List Requirement) (_i0 : Nat) (v0_1 : List Val) : List Ob :=
  [⟨5, 0, true, [.int .i64 0, .int .i64 0, .str eB, .ms 2 5 0 0, .ms 3 6 0 0]⟩, ⟨5, 0, true, (Val.rows v0_1).flatten⟩, ⟨5, 0, true, []⟩, ⟨6, 0, true, []⟩]
def Qgc (p0 : List Requirement) (i0 : Nat) (v0_1 : List Val) : En := .loop 0 Ir.Ql8 Ir.Q1kf (Qy7 p0 i0 v0_1) (Qjl p0 i0 v0_1)
def Qqc (_p0 : List Requirement) (q0 : List Val) (z : Nat → PV) (_zo : Nat → List PV) : St :=
  ⟨[z 0, z 1, z 2, z 3, .bx 0 0, .ms 1 5 0 (List.length q0)] ++ zr z 6 17, [(0, ⟨5, 0, true, [.int .i64 0, .int .i64 0, .str eB, .ms 2 5 0 0, .ms 3 6 0 0]⟩), (1, ⟨5, 0, true, (Val.rows q0).flatten⟩), (2, ⟨5, 0, true, []⟩), (3, ⟨6, 0, true, []⟩)], 68⟩
theorem Q14z (p0 : List Requirement) (i0 : Nat) (v0_1 : List Val) : VOK (Go.Pv.look (number 0 (Qjl p0 i0 v0_1))) [(1, Val.rows v0_1)] := (VOK.cons (show Seen _ _ from Q3r (ob := ⟨5, 0, true, (Val.rows v0_1).flatten⟩) (Val.Qk v0_1 5 rfl)) VOK.nil)
def Qi4 (p0 : List Requirement) (e : En) (q : List Val) : Prop := ∃ z zo, Qd G e (.st (.exit 0) (Qqc p0 q z zo))
theorem Qv4 (p0 : List Requirement) {e e' : En} (h : ∀ r, Qd G e r → Qd G e' r) : ∀ q, Qi4 p0 e q → Qi4 p0 e' q
  | _, ⟨z, zo, hz⟩ => ⟨z, zo, h _ hz⟩
def Qh7 (p0 : List Requirement) : Prop := (List.length p0 ≤ 137438953472) ∧ (∀ x0 ∈ p0, Q1m2 x0) ∧ True
def Qs4 (p0 : List Requirement) (i0 : Nat) (_v0_1 : List Val) : List PV :=
  [.un, .fn 224 [] []] ++ nuns 6 ++ [.sl (Requirement.rows p0), .int .i64 ((List.length p0) : Int), .int .i64 (i0 : Int), .bool false]
def Qn2 (_p0 : List Requirement) (_i0 : Nat) (_v0_1 : List Val) : List (Nat × List PV) :=
  []
theorem Q1ce (p0 : List Requirement) (_H : Qh7 p0) (i0 : Nat) (v0_1 : List Val) (_ho0_0 : List.length v0_1 ≤ i0) (hc0 : (decide ((i0 : Int) < ((List.length p0) : Int))) = false) : Qi4 p0 (Qgc p0 i0 v0_1) v0_1 := by
 exact ⟨(envF (Qs4 p0 i0 v0_1)), (zoF (Qn2 p0 i0 v0_1)), Qv (Q14z p0 i0 v0_1) (x := ((.exit 0), Qqc p0 v0_1 (envF (Qs4 p0 i0 v0_1)) (zoF (Qn2 p0 i0 v0_1)))) [hB 0 hc0] [] (by kernel_rfl)⟩
theorem Q19z (p0 : List Requirement) (H : Qh7 p0) (x0 : Requirement) (i0 : Nat) (v0_1 : List Val) (hx0 : p0[i0]? = some x0) (hi0 : i0 < List.length p0) (ho0_0 : List.length v0_1 ≤ i0) (hc0 : (decide ((i0 : Int) < ((List.length p0) : Int))) = true) {r : Rs} (hr : Qd G (Qgc p0 (i0 + 1) (v0_1 ++ [(Qc5 x0)])) r) : Qd G (Qgc p0 i0 v0_1) r := by
 have hB0 := H.1
 exact Qu (Q14z p0 i0 v0_1) (y := (Qy7 p0 (i0 + 1) (v0_1 ++ [(Qc5 x0)]), Qjl p0 (i0 + 1) (v0_1 ++ [(Qc5 x0)]))) [hB 0 hc0, hP 0 (Q35 3 (Requirement.rows p0) i0 _ (Requirement.Qz hx0) rfl), hV 8 [(644, Val.rows (v0_1 ++ [(Qc5 x0)]))] (Q4a 1 580 644 5 80 0 0 true (Val.rows v0_1) (Val.rows (v0_1 ++ [(Qc5 x0)])) (Val.cells (Qc5 x0)) (List.length v0_1) (List.length (v0_1 ++ [(Qc5 x0)])) rfl (Val.Qa v0_1).symm (Val.Qa (v0_1 ++ [(Qc5 x0)])).symm (Val.Q23 v0_1 (Qc5 x0)) (Val.Q12 v0_1) rfl (by omega)), hS 0 true (Val.Qk (v0_1 ++ [(Qc5 x0)]) 5 rfl), hP 1 (Q2s i0 (by omega))] [aN (Q268 x0 (H.2.1 x0 (Q2z hx0)))] (by kernel_rfl) hr
theorem Q11g (p0 : List Requirement) (H : Qh7 p0) : ∀ (r0 : List Requirement) (i0 : Nat) (v0_1 : List Val), List.drop i0 p0 = r0 → List.length v0_1 ≤ i0 → Qi4 p0 (Qgc p0 i0 v0_1) (Q62 p0 r0 i0 v0_1)
 | [], i0, v0_1, hd, ho0_0 => by
  have hc0 : (decide ((i0 : Int) < ((List.length p0) : Int))) = false := by have := Q1y hd; simp; omega
  rw [Q62]
  exact Q1ce p0 H i0 v0_1 ho0_0 hc0
 | x0 :: r0, i0, v0_1, hd, ho0_0 => by
  obtain ⟨hx0, hi0, hd'⟩ := Q1v hd
  have hc0 : (decide ((i0 : Int) < ((List.length p0) : Int))) = true := by simp; omega
  rw [Q62]
  exact Qv4 p0 (fun r hr => Q19z p0 H x0 i0 v0_1 hx0 hi0 ho0_0 hc0 hr) _ (Q11g p0 H r0 (i0 + 1) (v0_1 ++ [(Qc5 x0)]) hd' (by first | omega | (simp; omega)))
def Qeh (p0 : List Requirement) : Val := vL (p0.map Requirement.enc)
theorem Q18b (p0 : List Requirement) : Qeh p0 = ((Val.mk 4 0 eB (Q62 p0 p0 0 []) [])) := by
  rw [Q171]
  rfl
def Q17x (p0 : List Requirement) : En := .call 223 [.sl (Requirement.rows p0), .fn 224 [] []] []
def Qsj (p0 : List Requirement) : Rs := .ret (.agg (Val.cells (Qeh p0))) []
def Qdz (p0 : List Requirement) : Prop := LSm Requirement.sm p0
theorem Qvw (p0 : List Requirement) (H : Qdz p0) : (Qh7 p0) ∧ True := by
  exact ⟨⟨Nat.le_trans H.1 (Nat.le_of_ble_eq_true rfl), H.2, trivial⟩, trivial⟩
theorem Q1ar (p0 : List Requirement) (H : Qdz p0) : Qd G (Q17x p0) (Qsj p0) := by
 unfold Qsj
 rw [Q18b]
 have hl0 := Q11g p0 ((Qvw p0 H).1) p0 0 [] (by simp) (by simp)
 obtain ⟨z0, zo0, hl0⟩ := hl0
 exact Qj (fn := Ir.K72) rfl VOK.nil [hP 3 (Q1g (Requirement.rows p0) (List.length p0) (Requirement.Qa p0)), hS 0 true (Val.Qk (Q62 p0 p0 0 []) 5 rfl), hQ (Val.Qa (Q62 p0 p0 0 [])).symm] [aV [(1, Val.rows (Q62 p0 p0 0 []))] hl0] (by kernel_rfl)
def Q1ir (p0 : List Requirement) : Val := vL (p0.map Requirement.enc)
theorem Q23x (p0 : List Requirement) : Q1ir p0 = ((Qeh p0)) := by
  rfl
def Q21x (p0 : List Requirement) : En := .call 190 [.sl (Requirement.rows p0)] []
def Q1sw (p0 : List Requirement) : Rs := .ret (.agg (Val.cells (Q1ir p0))) []
def Q1m1 (p0 : List Requirement) : Prop := LSm Requirement.sm p0
theorem Q1hp (p0 : List Requirement) (H : Q1m1 p0) : (Qdz p0) ∧ True := by
  repeat' with_reducible apply And.intro
  all_goals first | exact True.intro | exact H
theorem Q267 (p0 : List Requirement) (H : Q1m1 p0) : Qd G (Q21x p0) (Q1sw p0) := by
 unfold Q1sw
 rw [Q23x]
 exact Qj (fn := Ir.K6v) rfl VOK.nil [] [aN (Q1ar p0 (Q1hp p0 H).1)] (by kernel_rfl)
def Q120 (p0 : List Requirement) : Fld := .mk Qh (vL (p0.map Requirement.enc))
theorem Q243 (p0 : List Requirement) : Q120 p0 = ((Q3z Qh (Q1ir p0))) := by
  rfl
def Q226 (p0 : List Requirement) : En := .call 80 [.sl (Requirement.rows p0)] []
def Q1t5 (p0 : List Requirement) : Rs := .ret (.agg (Fld.cells (Q120 p0))) []
def Q1m5 (p0 : List Requirement) : Prop := LSm Requirement.sm p0
theorem Q1hr (p0 : List Requirement) (H : Q1m5 p0) : (Q1m1 p0) ∧ True := by
  repeat' with_reducible apply And.intro
  all_goals first | exact True.intro | exact H
theorem Q26c (p0 : List Requirement) (H : Q1m5 p0) : Qd G (Q226 p0) (Q1t5 p0) := by
 unfold Q1t5
 rw [Q243]
 exact Qj (fn := Ir.K7l) rfl VOK.nil [] [aN (Q267 p0 (Q1hr p0 H).1), aN (Qfa Qh (Q1ir p0))] (by kernel_rfl)
def Q121 (p0 : Template) : Fld := .mk Q1s (Template.enc p0)
theorem Q245 (p0 : Template) : Q121 p0 = ((Q3z Q1s (s_K9 p0))) := by
  rfl
def Q228 (p0 : Template) : En := .call 81 [.agg (Template.cells p0)] []
def Q1t7 (p0 : Template) : Rs := .ret (.agg (Fld.cells (Q121 p0))) []
def Q1m6 (p0 : Template) : Prop := Template.sm p0
theorem Q1hs (p0 : Template) (H : Q1m6 p0) : (H_K9 p0) ∧ True := by
  repeat' with_reducible apply And.intro
  all_goals first | exact True.intro | exact H
theorem Q26d (p0 : Template) (H : Q1m6 p0) : Qd G (Q228 p0) (Q1t7 p0) := by
 unfold Q1t7
 rw [Q245]
 exact Qj (fn := Ir.K7n) rfl VOK.nil [] [aN (t_K9 p0 (Q1hs p0 H).1), aN (Qfa Q1s (s_K9 p0))] (by kernel_rfl)
def Q7v (p0 : BA) (p1 : Bool) : Fld := .mk p0 (vB p1)
theorem Q246 (p0 : BA) (p1 : Bool) : Q7v p0 p1 = ((Q3z p0 (Q67 p1))) := by
  rfl
def Q229 (p0 : BA) (p1 : Bool) : En := .call 82 [.str p0, .bool p1] []
def Q1t8 (p0 : BA) (p1 : Bool) : Rs := .ret (.agg (Fld.cells (Q7v p0 p1))) []
theorem Q1j3 (p0 : BA) (p1 : Bool) : Qd G (Q229 p0 p1) (Q1t8 p0 p1) := by
 unfold Q1t8
 rw [Q246]
 exact Qj (fn := Ir.K7o) rfl VOK.nil [] [aN (Q1aq p1), aN (Qfa p0 (Q67 p1))] (by kernel_rfl)
def Q5q (p0 : Amount) : Val := Amount.enc p0
theorem Q23w (p0 : Amount) : Q5q p0 = ((Q51 ([(Q7v Q37 p0.percent), (Q26 kw_n p0.n)]))) := by
  exact Eq.symm (Qal (by exact Nat.le_of_ble_eq_true rfl) (by kernel_rfl))
def Q21w (p0 : Amount) : En := .call 84 [.agg (Amount.cells p0)] []
def Q1sv (p0 : Amount) : Rs := .ret (.agg (Val.cells (Q5q p0))) []
def Q17j (p0 : Amount) : Prop := Amount.sm p0
theorem Q1ho (p0 : Amount) (_H : Q17j p0) : (Q87 ([(Q7v Q37 p0.percent), (Q26 kw_n p0.n)])) ∧ True := by
  exact ⟨Q94 (by exact Nat.le_of_ble_eq_true rfl) (List.forall_mem_cons.2 ⟨Val.Sm.leaf _ _ _, List.forall_mem_cons.2 ⟨Val.Sm.leaf _ _ _, List.forall_mem_nil _⟩⟩), trivial⟩
theorem Q1j1 (p0 : Amount) (H : Q17j p0) : Qd G (Q21w p0) (Q1sv p0) := by
 unfold Q1sv
 rw [Q23w]
 exact Qj (fn := Ir.K6s) rfl VOK.nil [] [aN (Q1j3 Q37 p0.percent), aN (Q7q kw_n p0.n), aN (Q4k (e' := .call 78 [.sl [(Fld.cells (Q7v Q37 p0.percent)), (Fld.cells (Q26 kw_n p0.n))]] []) (Q9k ([(Q7v Q37 p0.percent), (Q26 kw_n p0.n)]) (Q1ho p0 H).1) (by simp only [Q8l, Fld.Q1b, Fld.Q1r]))] (by kernel_rfl)
def Q1ft (p0 : WorkStatus) : Val := WorkStatus.enc p0
theorem Q23z (p0 : WorkStatus) : Q1ft p0 = ((Q51 ([(Q26 Q24 p0.observed), (Q26 Q5 p0.replicas), (Q26 Q2p p0.updated), (Q26 Q1w p0.ready), (Q26 Q2e p0.available), (Q26 Q2y p0.progress), (Q7v Q3k p0.failed)]))) := by
  exact Eq.symm (Qal (by exact Nat.le_of_ble_eq_true rfl) (by kernel_rfl))
def Q21z (p0 : WorkStatus) : En := .call 86 [.agg (WorkStatus.cells p0)] []
def Q1sy (p0 : WorkStatus) : Rs := .ret (.agg (Val.cells (Q1ft p0))) []
def Q1m3 (p0 : WorkStatus) : Prop := WorkStatus.sm p0
theorem Q1hq (p0 : WorkStatus) (_H : Q1m3 p0) : (Q87 ([(Q26 Q24 p0.observed), (Q26 Q5 p0.replicas), (Q26 Q2p p0.updated), (Q26 Q1w p0.ready), (Q26 Q2e p0.available), (Q26 Q2y p0.progress), (Q7v Q3k p0.failed)])) ∧ True := by
  exact ⟨Q94 (by exact Nat.le_of_ble_eq_true rfl) (List.forall_mem_cons.2 ⟨Val.Sm.leaf _ _ _, List.forall_mem_cons.2 ⟨Val.Sm.leaf _ _ _, List.forall_mem_cons.2 ⟨Val.Sm.leaf _ _ _, List.forall_mem_cons.2 ⟨Val.Sm.leaf _ _ _, List.forall_mem_cons.2 ⟨Val.Sm.leaf _ _ _, List.forall_mem_cons.2 ⟨Val.Sm.leaf _ _ _, List.forall_mem_cons.2 ⟨Val.Sm.leaf _ _ _, List.forall_mem_nil _⟩⟩⟩⟩⟩⟩⟩), trivial⟩
theorem Q269 (p0 : WorkStatus) (H : Q1m3 p0) : Qd G (Q21z p0) (Q1sy p0) := by
 unfold Q1sy
 rw [Q23z]
 exact Qj (fn := Ir.K6x) rfl VOK.nil [] [aN (Q7q Q24 p0.observed), aN (Q7q Q5 p0.replicas), aN (Q7q Q2p p0.updated), aN (Q7q Q1w p0.ready), aN (Q7q Q2e p0.available), aN (Q7q Q2y p0.progress), aN (Q1j3 Q3k p0.failed), aN (Q4k (e' := .call 78 [.sl [(Fld.cells (Q26 Q24 p0.observed)), (Fld.cells (Q26 Q5 p0.replicas)), (Fld.cells (Q26 Q2p p0.updated)), (Fld.cells (Q26 Q1w p0.ready)), (Fld.cells (Q26 Q2e p0.available)), (Fld.cells (Q26 Q2y p0.progress)), (Fld.cells (Q7v Q3k p0.failed))]] []) (Q9k ([(Q26 Q24 p0.observed), (Q26 Q5 p0.replicas), (Q26 Q2p p0.updated), (Q26 Q1w p0.ready), (Q26 Q2e p0.available), (Q26 Q2y p0.progress), (Q7v Q3k p0.failed)]) (Q1hq p0 H).1) (by simp only [Q8l, Fld.Q1b, Fld.Q1r]))] (by kernel_rfl)
def Qwr (p0 : Deployment) : Object := Deployment.obj p0
theorem Q23b (p0 : Deployment) : Qwr p0 = ((Q1af Q7 p0.meta_ (Q51 ([(Q26 Q5 p0.replicas), (Q26 Qc p0.minReady), (Q26 Ql p0.history), (Q26 Qf p0.deadline), (Q120 p0.selector), (Q121 p0.template), (Q7v Qm p0.recreate), (Q7v Qq p0.paused), (Q3z Q11 (Q5q p0.surge)), (Q3z Qr (Q5q p0.unavailable)), (Q26 Q3h p0.undo)])) (Q1ft p0.status))) := by
  exact Eq.symm (Q1tr (by exact Nat.le_of_ble_eq_true rfl) (by kernel_rfl))
def Q21b (p0 : Deployment) : En := .call 14 [.agg (Deployment.cells p0)] []
def Q1sa (p0 : Deployment) : Rs := .ret (.agg (Object.cells (Qwr p0))) []
def Q1gj (p0 : Deployment) : Prop := Qtq p0.meta_ ∧ Deployment.sm p0
theorem Q9f (p0 : Deployment) (H : Q1gj p0) : (Q1m5 p0.selector) ∧ (Q1m6 p0.template) ∧ (Q17j p0.surge) ∧ (Q17j p0.unavailable) ∧ (Q87 ([(Q26 Q5 p0.replicas), (Q26 Qc p0.minReady), (Q26 Ql p0.history), (Q26 Qf p0.deadline), (Q120 p0.selector), (Q121 p0.template), (Q7v Qm p0.recreate), (Q7v Qq p0.paused), (Q3z Q11 (Q5q p0.surge)), (Q3z Qr (Q5q p0.unavailable)), (Q26 Q3h p0.undo)])) ∧ (Q1m3 p0.status) ∧ (Q1m4 Q7 p0.meta_ (Q51 ([(Q26 Q5 p0.replicas), (Q26 Qc p0.minReady), (Q26 Ql p0.history), (Q26 Qf p0.deadline), (Q120 p0.selector), (Q121 p0.template), (Q7v Qm p0.recreate), (Q7v Qq p0.paused), (Q3z Q11 (Q5q p0.surge)), (Q3z Qr (Q5q p0.unavailable)), (Q26 Q3h p0.undo)])) (Q1ft p0.status)) ∧ True := by
  exact ⟨(by first | exact True.intro | exact H.1 | exact ⟨H.1, trivial⟩ | exact H.2 | exact H.2.1 | exact H.2.2.1 | exact H.2.2.2.1 | exact H.2.2.2.2.1 | exact H.2.2.2.2.2.1), (by first | exact True.intro | exact H.1 | exact ⟨H.1, trivial⟩ | exact H.2 | exact H.2.1 | exact H.2.2.1 | exact H.2.2.2.1 | exact H.2.2.2.2.1 | exact H.2.2.2.2.2.1), (by first | exact True.intro | exact H.1 | exact ⟨H.1, trivial⟩ | exact H.2 | exact H.2.1 | exact H.2.2.1 | exact H.2.2.2.1 | exact H.2.2.2.2.1 | exact H.2.2.2.2.2.1), (by first | exact True.intro | exact H.1 | exact ⟨H.1, trivial⟩ | exact H.2 | exact H.2.1 | exact H.2.2.1 | exact H.2.2.2.1 | exact H.2.2.2.2.1 | exact H.2.2.2.2.2.1), Q94 (by exact Nat.le_of_ble_eq_true rfl) (List.forall_mem_cons.2 ⟨Val.Sm.leaf _ _ _, List.forall_mem_cons.2 ⟨Val.Sm.leaf _ _ _, List.forall_mem_cons.2 ⟨Val.Sm.leaf _ _ _, List.forall_mem_cons.2 ⟨Val.Sm.leaf _ _ _, List.forall_mem_cons.2 ⟨Q3i (fun _ h => Requirement.Q2l h) H.2.1, List.forall_mem_cons.2 ⟨Template.Q2l H.2.2.1, List.forall_mem_cons.2 ⟨Val.Sm.leaf _ _ _, List.forall_mem_cons.2 ⟨Val.Sm.leaf _ _ _, List.forall_mem_cons.2 ⟨Amount.Q2l H.2.2.2.1, List.forall_mem_cons.2 ⟨Amount.Q2l H.2.2.2.2.1, List.forall_mem_cons.2 ⟨Val.Sm.leaf _ _ _, List.forall_mem_nil _⟩⟩⟩⟩⟩⟩⟩⟩⟩⟩⟩), (by first | exact True.intro | exact H.1 | exact ⟨H.1, trivial⟩ | exact H.2 | exact H.2.1 | exact H.2.2.1 | exact H.2.2.2.1 | exact H.2.2.2.2.1 | exact H.2.2.2.2.2.1), (by first | exact True.intro | exact H.1 | exact ⟨H.1, trivial⟩ | exact H.2 | exact H.2.1 | exact H.2.2.1 | exact H.2.2.2.1 | exact H.2.2.2.2.1 | exact H.2.2.2.2.2.1), trivial⟩
theorem Q1un (p0 : Deployment) (H : Q1gj p0) : Qd G (Q21b p0) (Q1sa p0) := by
 unfold Q1sa
 rw [Q23b]
 exact Qj (fn := Ir.K5b) rfl VOK.nil [] [aN (Q7q Q5 p0.replicas), aN (Q7q Qc p0.minReady), aN (Q7q Ql p0.history), aN (Q7q Qf p0.deadline), aN (Q26c p0.selector (Q9f p0 H).1), aN (Q26d p0.template (Q9f p0 H).2.1), aN (Q1j3 Qm p0.recreate), aN (Q1j3 Qq p0.paused), aN (Q1j1 p0.surge (Q9f p0 H).2.2.1), aN (Qfa Q11 (Q5q p0.surge)), aN (Q1j1 p0.unavailable (Q9f p0 H).2.2.2.1), aN (Qfa Qr (Q5q p0.unavailable)), aN (Q7q Q3h p0.undo), aN (Q4k (e' := .call 78 [.sl [(Fld.cells (Q26 Q5 p0.replicas)), (Fld.cells (Q26 Qc p0.minReady)), (Fld.cells (Q26 Ql p0.history)), (Fld.cells (Q26 Qf p0.deadline)), (Fld.cells (Q120 p0.selector)), (Fld.cells (Q121 p0.template)), (Fld.cells (Q7v Qm p0.recreate)), (Fld.cells (Q7v Qq p0.paused)), (Fld.cells (Q3z Q11 (Q5q p0.surge))), (Fld.cells (Q3z Qr (Q5q p0.unavailable))), (Fld.cells (Q26 Q3h p0.undo))]] []) (Q9k ([(Q26 Q5 p0.replicas), (Q26 Qc p0.minReady), (Q26 Ql p0.history), (Q26 Qf p0.deadline), (Q120 p0.selector), (Q121 p0.template), (Q7v Qm p0.recreate), (Q7v Qq p0.paused), (Q3z Q11 (Q5q p0.surge)), (Q3z Qr (Q5q p0.unavailable)), (Q26 Q3h p0.undo)]) (Q9f p0 H).2.2.2.2.1) (by simp only [Q8l, Fld.Q1b, Fld.Q1r])), aN (Q269 p0.status (Q9f p0 H).2.2.2.2.2.1), aN (Q1uo Q7 p0.meta_ (Q51 ([(Q26 Q5 p0.replicas), (Q26 Qc p0.minReady), (Q26 Ql p0.history), (Q26 Qf p0.deadline), (Q120 p0.selector), (Q121 p0.template), (Q7v Qm p0.recreate), (Q7v Qq p0.paused), (Q3z Q11 (Q5q p0.surge)), (Q3z Qr (Q5q p0.unavailable)), (Q26 Q3h p0.undo)])) (Q1ft p0.status) (Q9f p0 H).2.2.2.2.2.2.1)] (by kernel_rfl)
def Qc3 (p0 : Metric) : Val := Metric.enc p0
theorem Q239 (p0 : Metric) : Qc3 p0 = ((Q51 ([(Q7u Q17 p0.name), (Q26 Qi p0.target)]))) := by
  exact Eq.symm (Qal (by exact Nat.le_of_ble_eq_true rfl) (by kernel_rfl))
def Q219 (p0 : Metric) : En := .call 94 [.agg (Metric.cells p0)] []
def Q1s8 (p0 : Metric) : Rs := .ret (.agg (Val.cells (Qc3 p0))) []
def Q1lp (p0 : Metric) : Prop := Metric.sm p0
theorem Q1hh (p0 : Metric) (_H : Q1lp p0) : (Q87 ([(Q7u Q17 p0.name), (Q26 Qi p0.target)])) ∧ True := by
  exact ⟨Q94 (by exact Nat.le_of_ble_eq_true rfl) (List.forall_mem_cons.2 ⟨Val.Sm.leaf _ _ _, List.forall_mem_cons.2 ⟨Val.Sm.leaf _ _ _, List.forall_mem_nil _⟩⟩), trivial⟩
theorem Q25s (p0 : Metric) (H : Q1lp p0) : Qd G (Q219 p0) (Q1s8 p0) := by
 unfold Q1s8
 rw [Q239]
 exact Qj (fn := Ir.K55) rfl VOK.nil [] [aN (Q1j2 Q17 p0.name), aN (Q7q Qi p0.target), aN (Q4k (e' := .call 78 [.sl [(Fld.cells (Q7u Q17 p0.name)), (Fld.cells (Q26 Qi p0.target))]] []) (Q9k ([(Q7u Q17 p0.name), (Q26 Qi p0.target)]) (Q1hh p0 H).1) (by simp only [Q8l, Fld.Q1b, Fld.Q1r]))] (by kernel_rfl)
def Q61 (p0 : List Metric) : List Metric → Nat → (List Val) → List Val
 | [], _i0, v0_1 =>
  v0_1
 | x0 :: r0, i0, v0_1 =>
  Q61 p0 r0 (i0 + 1) (v0_1 ++ [(Qc3 x0)])
theorem Q170 (p0 : List Metric) : ∀ (l : List Metric) (i : Nat) (a : List Val), Q61 p0 l i a = a ++ l.map (fun x0 => (Qc3 x0))
  | [], _, _ => by simp [Q61]
  | x :: r, i, a => by rw [Q61, Q170 p0 r]; simp
def Qy6 (p0 : List Metric) (i0 : Nat) (v0_1 : List Val) : List PV :=
  [.un, .fn 94 [] [], .un, .un, .bx 0 0, .ms 1 5 0 (List.length v0_1), .un, .un, .sl (Metric.rows p0), .int .i64 ((List.length p0) : Int), .int .i64 (i0 : Int)] ++ nuns 12
def Qjk (_p0 : List Metric) (_i0 : Nat) (v0_1 : List Val) : List Ob :=
  [⟨5, 0, true, [.int .i64 0, .int .i64 0, .str eB, .ms 2 5 0 0, .ms 3 6 0 0]⟩, ⟨5, 0, true, (Val.rows v0_1).flatten⟩, ⟨5, 0, true, []⟩, ⟨6, 0, true, []⟩]
def Qgb (p0 : List Metric) (i0 : Nat) (v0_1 : List Val) : En := .loop 0 Ir.Ql7 Ir.Q1ke (Qy6 p0 i0 v0_1) (Qjk p0 i0 v0_1)
def Qqb (_p0 : List Metric) (q0 : List Val) (z : Nat → PV) (_zo : Nat → List PV) : St :=
  ⟨[z 0, z 1, z 2, z 3, .bx 0 0, .ms 1 5 0 (List.length q0)] ++ zr z 6 17, [(0, ⟨5, 0, true, [.int .i64 0, .int .i64 0, .str eB, .ms 2 5 0 0, .ms 3 6 0 0]⟩), (1, ⟨5, 0, true, (Val.rows q0).flatten⟩), (2, ⟨5, 0, true, []⟩), (3, ⟨6, 0, true, []⟩)], 68⟩
theorem Q14y (p0 : List Metric) (i0 : Nat) (v0_1 : List Val) : VOK (Go.Pv.look (number 0 (Qjk p0 i0 v0_1))) [(1, Val.rows v0_1)] := (VOK.cons (show Seen _ _ from Q3r (ob := ⟨5, 0, true, (Val.rows v0_1).flatten⟩) (Val.Qk v0_1 5 rfl)) VOK.nil)
def Qi3 (p0 : List Metric) (e : En) (q : List Val) : Prop := ∃ z zo, Qd G e (.st (.exit 0) (Qqb p0 q z zo))
theorem Qv3 (p0 : List Metric) {e e' : En} (h : ∀ r, Qd G e r → Qd G e' r) : ∀ q, Qi3 p0 e q → Qi3 p0 e' q
  | _, ⟨z, zo, hz⟩ => ⟨z, zo, h _ hz⟩
def Qh6 (p0 : List Metric) : Prop := (List.length p0 ≤ 137438953472) ∧ (∀ x0 ∈ p0, Q1lp x0) ∧ True
def Qs3 (p0 : List Metric) (i0 : Nat) (_v0_1 : List Val) : List PV :=
  [.un, .fn 94 [] []] ++ nuns 6 ++ [.sl (Metric.rows p0), .int .i64 ((List.length p0) : Int), .int .i64 (i0 : Int), .bool false]
def Qn1 (_p0 : List Metric) (_i0 : Nat) (_v0_1 : List Val) : List (Nat × List PV) :=
  []
theorem Q1cd (p0 : List Metric) (_H : Qh6 p0) (i0 : Nat) (v0_1 : List Val) (_ho0_0 : List.length v0_1 ≤ i0) (hc0 : (decide ((i0 : Int) < ((List.length p0) : Int))) = false) : Qi3 p0 (Qgb p0 i0 v0_1) v0_1 := by
 exact ⟨(envF (Qs3 p0 i0 v0_1)), (zoF (Qn1 p0 i0 v0_1)), Qv (Q14y p0 i0 v0_1) (x := ((.exit 0), Qqb p0 v0_1 (envF (Qs3 p0 i0 v0_1)) (zoF (Qn1 p0 i0 v0_1)))) [hB 0 hc0] [] (by kernel_rfl)⟩
theorem Q19y (p0 : List Metric) (H : Qh6 p0) (x0 : Metric) (i0 : Nat) (v0_1 : List Val) (hx0 : p0[i0]? = some x0) (hi0 : i0 < List.length p0) (ho0_0 : List.length v0_1 ≤ i0) (hc0 : (decide ((i0 : Int) < ((List.length p0) : Int))) = true) {r : Rs} (hr : Qd G (Qgb p0 (i0 + 1) (v0_1 ++ [(Qc3 x0)])) r) : Qd G (Qgb p0 i0 v0_1) r := by
 have hB0 := H.1
 exact Qu (Q14y p0 i0 v0_1) (y := (Qy6 p0 (i0 + 1) (v0_1 ++ [(Qc3 x0)]), Qjk p0 (i0 + 1) (v0_1 ++ [(Qc3 x0)]))) [hB 0 hc0, hP 0 (Q35 2 (Metric.rows p0) i0 _ (Metric.Qz hx0) rfl), hV 8 [(644, Val.rows (v0_1 ++ [(Qc3 x0)]))] (Q4a 1 580 644 5 80 0 0 true (Val.rows v0_1) (Val.rows (v0_1 ++ [(Qc3 x0)])) (Val.cells (Qc3 x0)) (List.length v0_1) (List.length (v0_1 ++ [(Qc3 x0)])) rfl (Val.Qa v0_1).symm (Val.Qa (v0_1 ++ [(Qc3 x0)])).symm (Val.Q23 v0_1 (Qc3 x0)) (Val.Q12 v0_1) rfl (by omega)), hS 0 true (Val.Qk (v0_1 ++ [(Qc3 x0)]) 5 rfl), hP 1 (Q2s i0 (by omega))] [aN (Q25s x0 (H.2.1 x0 (Q2z hx0)))] (by kernel_rfl) hr
theorem Q11f (p0 : List Metric) (H : Qh6 p0) : ∀ (r0 : List Metric) (i0 : Nat) (v0_1 : List Val), List.drop i0 p0 = r0 → List.length v0_1 ≤ i0 → Qi3 p0 (Qgb p0 i0 v0_1) (Q61 p0 r0 i0 v0_1)
 | [], i0, v0_1, hd, ho0_0 => by
  have hc0 : (decide ((i0 : Int) < ((List.length p0) : Int))) = false := by have := Q1y hd; simp; omega
  rw [Q61]
  exact Q1cd p0 H i0 v0_1 ho0_0 hc0
 | x0 :: r0, i0, v0_1, hd, ho0_0 => by
  obtain ⟨hx0, hi0, hd'⟩ := Q1v hd
  have hc0 : (decide ((i0 : Int) < ((List.length p0) : Int))) = true := by simp; omega
  rw [Q61]
  exact Qv3 p0 (fun r hr => Q19y p0 H x0 i0 v0_1 hx0 hi0 ho0_0 hc0 hr) _ (Q11f p0 H r0 (i0 + 1) (v0_1 ++ [(Qc3 x0)]) hd' (by first | omega | (simp; omega)))
def Q68 (p0 : List Metric) : Val := vL (p0.map Metric.enc)
theorem Q1dc (p0 : List Metric) : Q68 p0 = ((Val.mk 4 0 eB (Q61 p0 p0 0 []) [])) := by
  rw [Q170]
  rfl
def Q1d4 (p0 : List Metric) : En := .call 93 [.sl (Metric.rows p0), .fn 94 [] []] []
def Qzl (p0 : List Metric) : Rs := .ret (.agg (Val.cells (Q68 p0))) []
def Qjo (p0 : List Metric) : Prop := LSm Metric.sm p0
theorem Q101 (p0 : List Metric) (H : Qjo p0) : (Qh6 p0) ∧ True := by
  exact ⟨⟨Nat.le_trans H.1 (Nat.le_of_ble_eq_true rfl), H.2, trivial⟩, trivial⟩
theorem Q1fy (p0 : List Metric) (H : Qjo p0) : Qd G (Q1d4 p0) (Qzl p0) := by
 unfold Qzl
 rw [Q1dc]
 have hl0 := Q11f p0 ((Q101 p0 H).1) p0 0 [] (by simp) (by simp)
 obtain ⟨z0, zo0, hl0⟩ := hl0
 exact Qj (fn := Ir.K6y) rfl VOK.nil [hP 3 (Q1g (Metric.rows p0) (List.length p0) (Metric.Qa p0)), hS 0 true (Val.Qk (Q61 p0 p0 0 []) 5 rfl), hQ (Val.Qa (Q61 p0 p0 0 [])).symm] [aV [(1, Val.rows (Q61 p0 p0 0 []))] hl0] (by kernel_rfl)
def Qc4 (p0 : Advice) : Val := Advice.enc p0
theorem Q23a (p0 : Advice) : Qc4 p0 = ((Q51 ([(Q26 Q59 p0.at_), (Q26 Q5 p0.replicas)]))) := by
  exact Eq.symm (Qal (by exact Nat.le_of_ble_eq_true rfl) (by kernel_rfl))
def Q21a (p0 : Advice) : En := .call 97 [.agg (Advice.cells p0)] []
def Q1s9 (p0 : Advice) : Rs := .ret (.agg (Val.cells (Qc4 p0))) []
def Q1lq (p0 : Advice) : Prop := Advice.sm p0
theorem Q1hi (p0 : Advice) (_H : Q1lq p0) : (Q87 ([(Q26 Q59 p0.at_), (Q26 Q5 p0.replicas)])) ∧ True := by
  exact ⟨Q94 (by exact Nat.le_of_ble_eq_true rfl) (List.forall_mem_cons.2 ⟨Val.Sm.leaf _ _ _, List.forall_mem_cons.2 ⟨Val.Sm.leaf _ _ _, List.forall_mem_nil _⟩⟩), trivial⟩
theorem Q25t (p0 : Advice) (H : Q1lq p0) : Qd G (Q21a p0) (Q1s9 p0) := by
 unfold Q1s9
 rw [Q23a]
 exact Qj (fn := Ir.K56) rfl VOK.nil [] [aN (Q7q Q59 p0.at_), aN (Q7q Q5 p0.replicas), aN (Q4k (e' := .call 78 [.sl [(Fld.cells (Q26 Q59 p0.at_)), (Fld.cells (Q26 Q5 p0.replicas))]] []) (Q9k ([(Q26 Q59 p0.at_), (Q26 Q5 p0.replicas)]) (Q1hi p0 H).1) (by simp only [Q8l, Fld.Q1b, Fld.Q1r]))] (by kernel_rfl)
def Q64 (p0 : List Advice) : List Advice → Nat → (List Val) → List Val
 | [], _i0, v0_1 =>
  v0_1
 | x0 :: r0, i0, v0_1 =>
  Q64 p0 r0 (i0 + 1) (v0_1 ++ [(Qc4 x0)])
theorem Q173 (p0 : List Advice) : ∀ (l : List Advice) (i : Nat) (a : List Val), Q64 p0 l i a = a ++ l.map (fun x0 => (Qc4 x0))
  | [], _, _ => by simp [Q64]
  | x :: r, i, a => by rw [Q64, Q173 p0 r]; simp
def Qy9 (p0 : List Advice) (i0 : Nat) (v0_1 : List Val) : List PV :=
  [.un, .fn 97 [] [], .un, .un, .bx 0 0, .ms 1 5 0 (List.length v0_1), .un, .un, .sl (Advice.rows p0), .int .i64 ((List.length p0) : Int), .int .i64 (i0 : Int)] ++ nuns 12
def Qjn (_p0 : List Advice) (_i0 : Nat) (v0_1 : List Val) : List Ob :=
  [⟨5, 0, true, [.int .i64 0, .int .i64 0, .str eB, .ms 2 5 0 0, .ms 3 6 0 0]⟩, ⟨5, 0, true, (Val.rows v0_1).flatten⟩, ⟨5, 0, true, []⟩, ⟨6, 0, true, []⟩]
def Qge (p0 : List Advice) (i0 : Nat) (v0_1 : List Val) : En := .loop 0 Ir.Qla Ir.Q1kh (Qy9 p0 i0 v0_1) (Qjn p0 i0 v0_1)
def Qqe (_p0 : List Advice) (q0 : List Val) (z : Nat → PV) (_zo : Nat → List PV) : St :=
  ⟨[z 0, z 1, z 2, z 3, .bx 0 0, .ms 1 5 0 (List.length q0)] ++ zr z 6 17, [(0, ⟨5, 0, true, [.int .i64 0, .int .i64 0, .str eB, .ms 2 5 0 0, .ms 3 6 0 0]⟩), (1, ⟨5, 0, true, (Val.rows q0).flatten⟩), (2, ⟨5, 0, true, []⟩), (3, ⟨6, 0, true, []⟩)], 68⟩
theorem Q151 (p0 : List Advice) (i0 : Nat) (v0_1 : List Val) : VOK (Go.Pv.look (number 0 (Qjn p0 i0 v0_1))) [(1, Val.rows v0_1)] := (VOK.cons (show Seen _ _ from Q3r (ob := ⟨5, 0, true, (Val.rows v0_1).flatten⟩) (Val.Qk v0_1 5 rfl)) VOK.nil)
def Qi6 (p0 : List Advice) (e : En) (q : List Val) : Prop := ∃ z zo, Qd G e (.st (.exit 0) (Qqe p0 q z zo))
theorem Qv6 (p0 : List Advice) {e e' : En} (h : ∀ r, Qd G e r → Qd G e' r) : ∀ q, Qi6 p0 e q → Qi6 p0 e' q
  | _, ⟨z, zo, hz⟩ => ⟨z, zo, h _ hz⟩
def Qh9 (p0 : List Advice) : Prop := (List.length p0 ≤ 137438953472) ∧ (∀ x0 ∈ p0, Q1lq x0) ∧ True
def Qs6 (p0 : List Advice) (i0 : Nat) (_v0_1 : List Val) : List PV :=
  [.un, .fn 97 [] []] ++ nuns 6 ++ [.sl (Advice.rows p0), .int .i64 ((List.length p0) : Int), .int .i64 (i0 : Int), .bool false]
def Qn4 (_p0 : List Advice) (_i0 : Nat) (_v0_1 : List Val) : List (Nat × List PV) :=
  []
theorem Q1cg (p0 : List Advice) (_H : Qh9 p0) (i0 : Nat) (v0_1 : List Val) (_ho0_0 : List.length v0_1 ≤ i0) (hc0 : (decide ((i0 : Int) < ((List.length p0) : Int))) = false) : Qi6 p0 (Qge p0 i0 v0_1) v0_1 := by
 exact ⟨(envF (Qs6 p0 i0 v0_1)), (zoF (Qn4 p0 i0 v0_1)), Qv (Q151 p0 i0 v0_1) (x := ((.exit 0), Qqe p0 v0_1 (envF (Qs6 p0 i0 v0_1)) (zoF (Qn4 p0 i0 v0_1)))) [hB 0 hc0] [] (by kernel_rfl)⟩
theorem Q1a1 (p0 : List Advice) (H : Qh9 p0) (x0 : Advice) (i0 : Nat) (v0_1 : List Val) (hx0 : p0[i0]? = some x0) (hi0 : i0 < List.length p0) (ho0_0 : List.length v0_1 ≤ i0) (hc0 : (decide ((i0 : Int) < ((List.length p0) : Int))) = true) {r : Rs} (hr : Qd G (Qge p0 (i0 + 1) (v0_1 ++ [(Qc4 x0)])) r) : Qd G (Qge p0 i0 v0_1) r := by
 have hB0 := H.1
 exact Qu (Q151 p0 i0 v0_1) (y := (Qy9 p0 (i0 + 1) (v0_1 ++ [(Qc4 x0)]), Qjn p0 (i0 + 1) (v0_1 ++ [(Qc4 x0)]))) [hB 0 hc0, hP 0 (Q35 2 (Advice.rows p0) i0 _ (Advice.Qz hx0) rfl), hV 8 [(644, Val.rows (v0_1 ++ [(Qc4 x0)]))] (Q4a 1 580 644 5 80 0 0 true (Val.rows v0_1) (Val.rows (v0_1 ++ [(Qc4 x0)])) (Val.cells (Qc4 x0)) (List.length v0_1) (List.length (v0_1 ++ [(Qc4 x0)])) rfl (Val.Qa v0_1).symm (Val.Qa (v0_1 ++ [(Qc4 x0)])).symm (Val.Q23 v0_1 (Qc4 x0)) (Val.Q12 v0_1) rfl (by omega)), hS 0 true (Val.Qk (v0_1 ++ [(Qc4 x0)]) 5 rfl), hP 1 (Q2s i0 (by omega))] [aN (Q25t x0 (H.2.1 x0 (Q2z hx0)))] (by kernel_rfl) hr
theorem Q11i (p0 : List Advice) (H : Qh9 p0) : ∀ (r0 : List Advice) (i0 : Nat) (v0_1 : List Val), List.drop i0 p0 = r0 → List.length v0_1 ≤ i0 → Qi6 p0 (Qge p0 i0 v0_1) (Q64 p0 r0 i0 v0_1)
 | [], i0, v0_1, hd, ho0_0 => by
  have hc0 : (decide ((i0 : Int) < ((List.length p0) : Int))) = false := by have := Q1y hd; simp; omega
  rw [Q64]
  exact Q1cg p0 H i0 v0_1 ho0_0 hc0
 | x0 :: r0, i0, v0_1, hd, ho0_0 => by
  obtain ⟨hx0, hi0, hd'⟩ := Q1v hd
  have hc0 : (decide ((i0 : Int) < ((List.length p0) : Int))) = true := by simp; omega
  rw [Q64]
  exact Qv6 p0 (fun r hr => Q1a1 p0 H x0 i0 v0_1 hx0 hi0 ho0_0 hc0 hr) _ (Q11i p0 H r0 (i0 + 1) (v0_1 ++ [(Qc4 x0)]) hd' (by first | omega | (simp; omega)))
def Q69 (p0 : List Advice) : Val := vL (p0.map Advice.enc)
theorem Q1dd (p0 : List Advice) : Q69 p0 = ((Val.mk 4 0 eB (Q64 p0 p0 0 []) [])) := by
  rw [Q173]
  rfl
def Q1d5 (p0 : List Advice) : En := .call 96 [.sl (Advice.rows p0), .fn 97 [] []] []
def Qzm (p0 : List Advice) : Rs := .ret (.agg (Val.cells (Q69 p0))) []
def Qjp (p0 : List Advice) : Prop := LSm Advice.sm p0
theorem Q102 (p0 : List Advice) (H : Qjp p0) : (Qh9 p0) ∧ True := by
  exact ⟨⟨Nat.le_trans H.1 (Nat.le_of_ble_eq_true rfl), H.2, trivial⟩, trivial⟩
theorem Q1fz (p0 : List Advice) (H : Qjp p0) : Qd G (Q1d5 p0) (Qzm p0) := by
 unfold Qzm
 rw [Q1dd]
 have hl0 := Q11i p0 ((Q102 p0 H).1) p0 0 [] (by simp) (by simp)
 obtain ⟨z0, zo0, hl0⟩ := hl0
 exact Qj (fn := Ir.K74) rfl VOK.nil [hP 3 (Q1g (Advice.rows p0) (List.length p0) (Advice.Qa p0)), hS 0 true (Val.Qk (Q64 p0 p0 0 []) 5 rfl), hQ (Val.Qa (Q64 p0 p0 0 [])).symm] [aV [(1, Val.rows (Q64 p0 p0 0 []))] hl0] (by kernel_rfl)
def Qwq (p0 : Autoscaler) : Object := Autoscaler.obj p0
theorem Q238 (p0 : Autoscaler) : Qwq p0 = ((Q1af Q6 p0.meta_ (Q51 ([(Q7u Q8 p0.targetKind), (Q7u Qi p0.target), (Q26 Q1j p0.min_), (Q26 Q1n p0.max_), (Q3z Qg (Q68 p0.metrics)), (Q26 Qe p0.tolerance), (Q26 Qn p0.upWindow), (Q26 Qb p0.downWindow), (Q3z Qs (Q5q p0.upStep)), (Q3z Q18 (Q5q p0.downStep)), (Q26 Q1d p0.period)])) (Q51 ([(Q3z Qp (Q69 p0.advice)), (Q26 Q31 p0.scaled)])))) := by
  exact Eq.symm (Q1tq (by exact Nat.le_of_ble_eq_true rfl) (by exact Nat.le_of_ble_eq_true rfl) (by kernel_rfl) (by kernel_rfl))
def Q218 (p0 : Autoscaler) : En := .call 16 [.agg (Autoscaler.cells p0)] []
def Q1s7 (p0 : Autoscaler) : Rs := .ret (.agg (Object.cells (Qwq p0))) []
def Q1gi (p0 : Autoscaler) : Prop := Qtq p0.meta_ ∧ Autoscaler.sm p0
theorem Q9e (p0 : Autoscaler) (H : Q1gi p0) : (Qjo p0.metrics) ∧ (Qjp p0.advice) ∧ (Q17j p0.upStep) ∧ (Q17j p0.downStep) ∧ (Q87 ([(Q7u Q8 p0.targetKind), (Q7u Qi p0.target), (Q26 Q1j p0.min_), (Q26 Q1n p0.max_), (Q3z Qg (Q68 p0.metrics)), (Q26 Qe p0.tolerance), (Q26 Qn p0.upWindow), (Q26 Qb p0.downWindow), (Q3z Qs (Q5q p0.upStep)), (Q3z Q18 (Q5q p0.downStep)), (Q26 Q1d p0.period)])) ∧ (Q87 ([(Q3z Qp (Q69 p0.advice)), (Q26 Q31 p0.scaled)])) ∧ (Q1m4 Q6 p0.meta_ (Q51 ([(Q7u Q8 p0.targetKind), (Q7u Qi p0.target), (Q26 Q1j p0.min_), (Q26 Q1n p0.max_), (Q3z Qg (Q68 p0.metrics)), (Q26 Qe p0.tolerance), (Q26 Qn p0.upWindow), (Q26 Qb p0.downWindow), (Q3z Qs (Q5q p0.upStep)), (Q3z Q18 (Q5q p0.downStep)), (Q26 Q1d p0.period)])) (Q51 ([(Q3z Qp (Q69 p0.advice)), (Q26 Q31 p0.scaled)]))) ∧ True := by
  exact ⟨(by first | exact True.intro | exact H.1 | exact ⟨H.1, trivial⟩ | exact H.2 | exact H.2.1 | exact H.2.2.1 | exact H.2.2.2.1 | exact H.2.2.2.2.1), (by first | exact True.intro | exact H.1 | exact ⟨H.1, trivial⟩ | exact H.2 | exact H.2.1 | exact H.2.2.1 | exact H.2.2.2.1 | exact H.2.2.2.2.1), (by first | exact True.intro | exact H.1 | exact ⟨H.1, trivial⟩ | exact H.2 | exact H.2.1 | exact H.2.2.1 | exact H.2.2.2.1 | exact H.2.2.2.2.1), (by first | exact True.intro | exact H.1 | exact ⟨H.1, trivial⟩ | exact H.2 | exact H.2.1 | exact H.2.2.1 | exact H.2.2.2.1 | exact H.2.2.2.2.1), Q94 (by exact Nat.le_of_ble_eq_true rfl) (List.forall_mem_cons.2 ⟨Val.Sm.leaf _ _ _, List.forall_mem_cons.2 ⟨Val.Sm.leaf _ _ _, List.forall_mem_cons.2 ⟨Val.Sm.leaf _ _ _, List.forall_mem_cons.2 ⟨Val.Sm.leaf _ _ _, List.forall_mem_cons.2 ⟨Q3i (fun _ h => Metric.Q2l h) H.2.1, List.forall_mem_cons.2 ⟨Val.Sm.leaf _ _ _, List.forall_mem_cons.2 ⟨Val.Sm.leaf _ _ _, List.forall_mem_cons.2 ⟨Val.Sm.leaf _ _ _, List.forall_mem_cons.2 ⟨Amount.Q2l H.2.2.1, List.forall_mem_cons.2 ⟨Amount.Q2l H.2.2.2.1, List.forall_mem_cons.2 ⟨Val.Sm.leaf _ _ _, List.forall_mem_nil _⟩⟩⟩⟩⟩⟩⟩⟩⟩⟩⟩), Q94 (by exact Nat.le_of_ble_eq_true rfl) (List.forall_mem_cons.2 ⟨Q3i (fun _ h => Advice.Q2l h) H.2.2.2.2.1, List.forall_mem_cons.2 ⟨Val.Sm.leaf _ _ _, List.forall_mem_nil _⟩⟩), (by first | exact True.intro | exact H.1 | exact ⟨H.1, trivial⟩ | exact H.2 | exact H.2.1 | exact H.2.2.1 | exact H.2.2.2.1 | exact H.2.2.2.2.1), trivial⟩
theorem Q1um (p0 : Autoscaler) (H : Q1gi p0) : Qd G (Q218 p0) (Q1s7 p0) := by
 unfold Q1s7
 rw [Q238]
 exact Qj (fn := Ir.K54) rfl VOK.nil [] [aN (Q1fy p0.metrics (Q9e p0 H).1), aN (Q1fz p0.advice (Q9e p0 H).2.1), aN (Q1j2 Q8 p0.targetKind), aN (Q1j2 Qi p0.target), aN (Q7q Q1j p0.min_), aN (Q7q Q1n p0.max_), aN (Qfa Qg (Q68 p0.metrics)), aN (Q7q Qe p0.tolerance), aN (Q7q Qn p0.upWindow), aN (Q7q Qb p0.downWindow), aN (Q1j1 p0.upStep (Q9e p0 H).2.2.1), aN (Qfa Qs (Q5q p0.upStep)), aN (Q1j1 p0.downStep (Q9e p0 H).2.2.2.1), aN (Qfa Q18 (Q5q p0.downStep)), aN (Q7q Q1d p0.period), aN (Q4k (e' := .call 78 [.sl [(Fld.cells (Q7u Q8 p0.targetKind)), (Fld.cells (Q7u Qi p0.target)), (Fld.cells (Q26 Q1j p0.min_)), (Fld.cells (Q26 Q1n p0.max_)), (Fld.cells (Q3z Qg (Q68 p0.metrics))), (Fld.cells (Q26 Qe p0.tolerance)), (Fld.cells (Q26 Qn p0.upWindow)), (Fld.cells (Q26 Qb p0.downWindow)), (Fld.cells (Q3z Qs (Q5q p0.upStep))), (Fld.cells (Q3z Q18 (Q5q p0.downStep))), (Fld.cells (Q26 Q1d p0.period))]] []) (Q9k ([(Q7u Q8 p0.targetKind), (Q7u Qi p0.target), (Q26 Q1j p0.min_), (Q26 Q1n p0.max_), (Q3z Qg (Q68 p0.metrics)), (Q26 Qe p0.tolerance), (Q26 Qn p0.upWindow), (Q26 Qb p0.downWindow), (Q3z Qs (Q5q p0.upStep)), (Q3z Q18 (Q5q p0.downStep)), (Q26 Q1d p0.period)]) (Q9e p0 H).2.2.2.2.1) (by simp only [Q8l, Fld.Q1b, Fld.Q1r])), aN (Qfa Qp (Q69 p0.advice)), aN (Q7q Q31 p0.scaled), aN (Q4k (e' := .call 78 [.sl [(Fld.cells (Q3z Qp (Q69 p0.advice))), (Fld.cells (Q26 Q31 p0.scaled))]] []) (Q9k ([(Q3z Qp (Q69 p0.advice)), (Q26 Q31 p0.scaled)]) (Q9e p0 H).2.2.2.2.2.1) (by simp only [Q8l, Fld.Q1b, Fld.Q1r])), aN (Q1uo Q6 p0.meta_ (Q51 ([(Q7u Q8 p0.targetKind), (Q7u Qi p0.target), (Q26 Q1j p0.min_), (Q26 Q1n p0.max_), (Q3z Qg (Q68 p0.metrics)), (Q26 Qe p0.tolerance), (Q26 Qn p0.upWindow), (Q26 Qb p0.downWindow), (Q3z Qs (Q5q p0.upStep)), (Q3z Q18 (Q5q p0.downStep)), (Q26 Q1d p0.period)])) (Q51 ([(Q3z Qp (Q69 p0.advice)), (Q26 Q31 p0.scaled)])) (Q9e p0 H).2.2.2.2.2.2.1)] (by kernel_rfl)
end Go.Proofs.YtimjjohlpnkacaaGreat
end

