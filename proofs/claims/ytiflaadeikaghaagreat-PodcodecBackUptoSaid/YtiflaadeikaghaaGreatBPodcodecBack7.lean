/- Texts of the claim, merged by a program; what the statement does not reach is left out. -/
import Derived.Test.YtiflaadeikaghaaGreatBPodcodecBack6

section
/- What the reference's encoders compute (printed by a program). -/
namespace Go.Proofs.YtiflaadeikaghaaGreat
open Go.Pv
def Qo (p0 : BA) : Val :=
 (Val.mk 3 0 p0 [] [])
def Q1xs (p0 : BA) : En := .call 125 [.str p0] []
def Q1pt (p0 : BA) : Rs := .ret (.agg (Val.cells (Qo p0))) []
theorem Q9u (p0 : BA) : Q7 G (Q1xs p0) (Q1pt p0) := by
 unfold Q1pt Qo
 exact Q8 (fn := Ir.K3c) rfl VOK.nil [] [] (by kernel_rfl)
def Q0 (p0 : BA) (p1 : Val) : Fld :=
 (Fld.mk p0 p1)
def Q1xz (p0 : BA) (p1 : Val) : En := .call 71 [.str p0, .agg (Val.cells p1)] []
def Q1qm (p0 : BA) (p1 : Val) : Rs := .ret (.agg (Fld.cells (Q0 p0 p1))) []
theorem Q2e (p0 : BA) (p1 : Val) : Q7 G (Q1xz p0 p1) (Q1qm p0 p1) := by
 unfold Q1qm Q0
 exact Q8 (fn := Ir.K2w) rfl VOK.nil [] [] (by kernel_rfl)
def Q15 (p0 : List Fld) : Val :=
 (Val.mk 5 0 eB [] p0)
def Q94 (p0 : List Fld) : En := .call 70 [.sl (Fld.rows p0)] []
def Q1qg (p0 : List Fld) : Rs := .ret (.agg (Val.cells (Q15 p0))) []
theorem Q9o (p0 : List Fld) : Q7 G (Q94 p0) (Q1qg p0) := by
 unfold Q1qg Q15
 exact Q8 (fn := Ir.K3b) rfl VOK.nil [] [] (by kernel_rfl)
def Qc9 (p0 : List Val) : Val :=
 (Val.mk 4 0 eB p0 [])
def Q1ws (p0 : List Val) : En := .call 138 [.sl (Val.rows p0)] []
def Q1o2 (p0 : List Val) : Rs := .ret (.agg (Val.cells (Qc9 p0))) []
theorem Qfd (p0 : List Val) : Q7 G (Q1ws p0) (Q1o2 p0) := by
 unfold Q1o2 Qc9
 exact Q8 (fn := Ir.K39) rfl VOK.nil [] [] (by kernel_rfl)
def Q5c (p0 : List Label) : List Label → Nat → (List Val) → List Val
 | [], _i0, v0_1 =>
  v0_1
 | x0 :: r0, i0, v0_1 =>
  Q5c p0 r0 (i0 + 1) (v0_1 ++ [(Q15 ([(Q0 Qs (Qo x0.key)), (Q0 Qn (Qo x0.value))]))])
theorem Q16x (p0 : List Label) : ∀ (l : List Label) (i : Nat) (a : List Val), Q5c p0 l i a = a ++ l.map (fun x0 => (Q15 ([(Q0 Qs (Qo x0.key)), (Q0 Qn (Qo x0.value))])))
  | [], _, _ => by simp [Q5c]
  | x :: r, i, a => by rw [Q5c, Q16x p0 r]; simp
def Q11r (p0 : List Label) (i0 : Nat) (v0_1 : List Val) : List PV :=
  [.sl (Label.rows p0), .un, .bx 0 0, .ms 1 5 0 (List.length v0_1), .int .i64 (i0 : Int)] ++ nuns 27
def Qmv (_p0 : List Label) (_i0 : Nat) (v0_1 : List Val) : List Ob :=
  [⟨5, 0, true, [.int .i64 0, .int .i64 0, .str eB, .ms 2 5 0 0, .ms 3 6 0 0]⟩, ⟨5, 0, true, (Val.rows v0_1).flatten⟩, ⟨5, 0, true, []⟩, ⟨6, 0, true, []⟩]
def Qft (p0 : List Label) (i0 : Nat) (v0_1 : List Val) : En := .loop 0 Ir.Qny Ir.Q1kb (Q11r p0 i0 v0_1) (Qmv p0 i0 v0_1)
def Qqx (_p0 : List Label) (q0 : List Val) (z : Nat → PV) (_zo : Nat → List PV) : St :=
  ⟨[z 0, z 1, .bx 0 0, .ms 1 5 0 (List.length q0)] ++ zr z 4 28, [(0, ⟨5, 0, true, [.int .i64 0, .int .i64 0, .str eB, .ms 2 5 0 0, .ms 3 6 0 0]⟩), (1, ⟨5, 0, true, (Val.rows q0).flatten⟩), (2, ⟨5, 0, true, []⟩), (3, ⟨6, 0, true, []⟩)], 260⟩
theorem Q173 (p0 : List Label) (i0 : Nat) (v0_1 : List Val) : VOK (Go.Pv.look (number 0 (Qmv p0 i0 v0_1))) [(1, Val.rows v0_1)] := (VOK.cons (show Seen _ _ from Q3g (ob := ⟨5, 0, true, (Val.rows v0_1).flatten⟩) (Val.Q9 v0_1 5 rfl)) VOK.nil)
def Qha (p0 : List Label) (e : En) (q : List Val) : Prop := ∃ z zo, Q7 G e (.st (.exit 0) (Qqx p0 q z zo))
theorem Qv2 (p0 : List Label) {e e' : En} (h : ∀ r, Q7 G e r → Q7 G e' r) : ∀ q, Qha p0 e q → Qha p0 e' q
  | _, ⟨z, zo, hz⟩ => ⟨z, zo, h _ hz⟩
def Qfy (p0 : List Label) : Prop := (List.length p0 ≤ 137438953472) ∧ True
def Qpq (p0 : List Label) (i0 : Nat) (_v0_1 : List Val) : List PV :=
  [.sl (Label.rows p0), .un, .un, .un, .int .i64 (i0 : Int), .int .i64 (i0 : Int), .sl (Label.rows p0), .int .i64 ((List.length p0) : Int), .bool false]
def Qit (_p0 : List Label) (_i0 : Nat) (_v0_1 : List Val) : List (Nat × List PV) :=
  []
theorem Q19c (p0 : List Label) (_H : Qfy p0) (i0 : Nat) (v0_1 : List Val) (_ho0_0 : List.length v0_1 ≤ i0) (hc0 : (decide ((i0 : Int) < ((List.length p0) : Int))) = false) : Qha p0 (Qft p0 i0 v0_1) v0_1 := by
 exact ⟨(envF (Qpq p0 i0 v0_1)), (zoF (Qit p0 i0 v0_1)), Qg (Q173 p0 i0 v0_1) (x := ((.exit 0), Qqx p0 v0_1 (envF (Qpq p0 i0 v0_1)) (zoF (Qit p0 i0 v0_1)))) [hP 2 (Qh (Label.rows p0) (List.length p0) (Label.Q5 p0)), hB 0 hc0] [] (by kernel_rfl)⟩
theorem Q1bi (p0 : List Label) (H : Qfy p0) (x0 : Label) (i0 : Nat) (v0_1 : List Val) (hx0 : p0[i0]? = some x0) (hi0 : i0 < List.length p0) (ho0_0 : List.length v0_1 ≤ i0) (hc0 : (decide ((i0 : Int) < ((List.length p0) : Int))) = true) {r : Rs} (hr : Q7 G (Qft p0 (i0 + 1) (v0_1 ++ [(Q15 ([(Q0 Qs (Qo x0.key)), (Q0 Qn (Qo x0.value))]))])) r) : Q7 G (Qft p0 i0 v0_1) r := by
 have hB0 := H.1
 exact Qk (Q173 p0 i0 v0_1) (y := (Q11r p0 (i0 + 1) (v0_1 ++ [(Q15 ([(Q0 Qs (Qo x0.key)), (Q0 Qn (Qo x0.value))]))]), Qmv p0 (i0 + 1) (v0_1 ++ [(Q15 ([(Q0 Qs (Qo x0.key)), (Q0 Qn (Qo x0.value))]))]))) [hP 2 (Qh (Label.rows p0) (List.length p0) (Label.Q5 p0)), hB 0 hc0, hP 3 (Q1j 2 (Label.rows p0) i0 _ (Label.Qc hx0) rfl), hP 6 (Q1j 2 (Label.rows p0) i0 _ (Label.Qc hx0) rfl), hV 7 [(1412, Val.rows (v0_1 ++ [(Q15 ([(Q0 Qs (Qo x0.key)), (Q0 Qn (Qo x0.value))]))]))] (Q3z 1 1348 1412 5 80 0 0 true (Val.rows v0_1) (Val.rows (v0_1 ++ [(Q15 ([(Q0 Qs (Qo x0.key)), (Q0 Qn (Qo x0.value))]))])) (Val.cells (Q15 ([(Q0 Qs (Qo x0.key)), (Q0 Qn (Qo x0.value))]))) (List.length v0_1) (List.length (v0_1 ++ [(Q15 ([(Q0 Qs (Qo x0.key)), (Q0 Qn (Qo x0.value))]))])) rfl (Val.Q5 v0_1).symm (Val.Q5 (v0_1 ++ [(Q15 ([(Q0 Qs (Qo x0.key)), (Q0 Qn (Qo x0.value))]))])).symm (Val.Q14 v0_1 (Q15 ([(Q0 Qs (Qo x0.key)), (Q0 Qn (Qo x0.value))]))) (Val.Qm v0_1) rfl (by omega)), hS 0 true (Val.Q9 (v0_1 ++ [(Q15 ([(Q0 Qs (Qo x0.key)), (Q0 Qn (Qo x0.value))]))]) 5 rfl), hP 2 (Q22 i0 (by omega))] [aN (Q9u x0.key), aN (Q2e Qs (Qo x0.key)), aN (Q9u x0.value), aN (Q2e Qn (Qo x0.value)), aN (Q49 (e' := .call 70 [.sl [(Fld.cells (Q0 Qs (Qo x0.key))), (Fld.cells (Q0 Qn (Qo x0.value)))]] []) (Q9o ([(Q0 Qs (Qo x0.key)), (Q0 Qn (Qo x0.value))])) (by simp only [Q94, Fld.Q21, Fld.Q2m]))] (by kernel_rfl) hr
theorem Q10k (p0 : List Label) (H : Qfy p0) : ∀ (r0 : List Label) (i0 : Nat) (v0_1 : List Val), List.drop i0 p0 = r0 → List.length v0_1 ≤ i0 → Qha p0 (Qft p0 i0 v0_1) (Q5c p0 r0 i0 v0_1)
 | [], i0, v0_1, hd, ho0_0 => by
  have hc0 : (decide ((i0 : Int) < ((List.length p0) : Int))) = false := by have := Q19 hd; simp; omega
  rw [Q5c]
  exact Q19c p0 H i0 v0_1 ho0_0 hc0
 | x0 :: r0, i0, v0_1, hd, ho0_0 => by
  obtain ⟨hx0, hi0, hd'⟩ := Q11 hd
  have hc0 : (decide ((i0 : Int) < ((List.length p0) : Int))) = true := by simp; omega
  rw [Q5c]
  exact Qv2 p0 (fun r hr => Q1bi p0 H x0 i0 v0_1 hx0 hi0 ho0_0 hc0 hr) _ (Q10k p0 H r0 (i0 + 1) (v0_1 ++ [(Q15 ([(Q0 Qs (Qo x0.key)), (Q0 Qn (Qo x0.value))]))]) hd' (by first | omega | (simp; omega)))
def Q19j (p0 : List Label) : Val := vL (p0.map Label.enc)
theorem Q1sv (p0 : List Label) : Q19j p0 = ((Qc9 (Q5c p0 p0 0 []))) := by
  rw [Q16x]
  rfl
def Q1rn (p0 : List Label) : En := .call 79 [.sl (Label.rows p0)] []
def Q1n6 (p0 : List Label) : Rs := .ret (.agg (Val.cells (Q19j p0))) []
def Q1mc (p0 : List Label) : Prop := LSm Label.sm p0
theorem Q1ht (p0 : List Label) (H : Q1mc p0) : (Qfy p0) ∧ True := by
  exact ⟨⟨Nat.le_trans H.1 (Nat.le_of_ble_eq_true rfl), trivial⟩, trivial⟩
theorem Q1vw (p0 : List Label) (H : Q1mc p0) : Q7 G (Q1rn p0) (Q1n6 p0) := by
 unfold Q1n6
 rw [Q1sv]
 have hl0 := Q10k p0 ((Q1ht p0 H).1) p0 0 [] (by simp) (by simp)
 obtain ⟨z0, zo0, hl0⟩ := hl0
 exact Q8 (fn := Ir.K2z) rfl VOK.nil [hS 0 true (Val.Q9 (Q5c p0 p0 0 []) 5 rfl), hQ (Val.Q5 (Q5c p0 p0 0 [])).symm] [aV [(1, Val.rows (Q5c p0 p0 0 []))] hl0, aN (Qfd (Q5c p0 p0 0 []))] (by kernel_rfl)
def Qd (p0 : Int) : Val :=
 (Val.mk 2 p0 eB [] [])
def Q1um (p0 : Int) : En := .call 74 [.int .i64 p0] []
def Q1o1 (p0 : Int) : Rs := .ret (.agg (Val.cells (Qd p0))) []
theorem Q5i (p0 : Int) : Q7 G (Q1um p0) (Q1o1 p0) := by
 unfold Q1o1 Qd
 exact Q8 (fn := Ir.K3a) rfl VOK.nil [] [] (by kernel_rfl)
def Q3x (p0 : Resources) : Val :=
 (Q15 ([(Q0 Q4r (Qd p0.cPU)), (Q0 Q44 (Qd p0.disk)), (Q0 Q31 (Qd p0.memory))]))
def Q1xf (p0 : Resources) : En := .call 72 [.agg (Resources.cells p0)] []
def Q1q9 (p0 : Resources) : Rs := .ret (.agg (Val.cells (Q3x p0))) []
theorem Q1lc (p0 : Resources) : Q7 G (Q1xf p0) (Q1q9 p0) := by
 unfold Q1q9 Q3x
 exact Q8 (fn := Ir.K33) rfl VOK.nil [] [aN (Q5i p0.cPU), aN (Q2e Q4r (Qd p0.cPU)), aN (Q5i p0.disk), aN (Q2e Q44 (Qd p0.disk)), aN (Q5i p0.memory), aN (Q2e Q31 (Qd p0.memory)), aN (Q49 (e' := .call 70 [.sl [(Fld.cells (Q0 Q4r (Qd p0.cPU))), (Fld.cells (Q0 Q44 (Qd p0.disk))), (Fld.cells (Q0 Q31 (Qd p0.memory)))]] []) (Q9o ([(Q0 Q4r (Qd p0.cPU)), (Q0 Q44 (Qd p0.disk)), (Q0 Q31 (Qd p0.memory))])) (by simp only [Q94, Fld.Q21, Fld.Q2m]))] (by kernel_rfl)
def Q4v (p0 : List Probe) : List Probe → Nat → (List Val) → List Val
 | [], _i0, v0_1 =>
  v0_1
 | x0 :: r0, i0, v0_1 =>
  Q4v p0 r0 (i0 + 1) (v0_1 ++ [(Q15 ([(Q0 Q26 (Qd x0.delay)), (Q0 Q1q (Qd x0.failure)), (Q0 Q1u (Qd x0.period)), (Q0 Q1k (Qd x0.success))]))])
theorem Q15e (p0 : List Probe) : ∀ (l : List Probe) (i : Nat) (a : List Val), Q4v p0 l i a = a ++ l.map (fun x0 => (Q15 ([(Q0 Q26 (Qd x0.delay)), (Q0 Q1q (Qd x0.failure)), (Q0 Q1u (Qd x0.period)), (Q0 Q1k (Qd x0.success))])))
  | [], _, _ => by simp [Q4v]
  | x :: r, i, a => by rw [Q4v, Q15e p0 r]; simp
def Q101 (p0 : List Probe) (i0 : Nat) (v0_1 : List Val) : List PV :=
  [.sl (Probe.rows p0), .un, .bx 0 0, .ms 1 5 0 (List.length v0_1), .int .i64 (i0 : Int)] ++ nuns 41
def Qlz (_p0 : List Probe) (_i0 : Nat) (v0_1 : List Val) : List Ob :=
  [⟨5, 0, true, [.int .i64 0, .int .i64 0, .str eB, .ms 2 5 0 0, .ms 3 6 0 0]⟩, ⟨5, 0, true, (Val.rows v0_1).flatten⟩, ⟨5, 0, true, []⟩, ⟨6, 0, true, []⟩]
def Qhx (p0 : List Probe) (i0 : Nat) (v0_1 : List Val) : En := .loop 0 Ir.Qkt Ir.Q1j3 (Q101 p0 i0 v0_1) (Qlz p0 i0 v0_1)
def Qt6 (_p0 : List Probe) (q0 : List Val) (z : Nat → PV) (_zo : Nat → List PV) : St :=
  ⟨[z 0, z 1, .bx 0 0, .ms 1 5 0 (List.length q0)] ++ zr z 4 42, [(0, ⟨5, 0, true, [.int .i64 0, .int .i64 0, .str eB, .ms 2 5 0 0, .ms 3 6 0 0]⟩), (1, ⟨5, 0, true, (Val.rows q0).flatten⟩), (2, ⟨5, 0, true, []⟩), (3, ⟨6, 0, true, []⟩)], 260⟩
theorem Q164 (p0 : List Probe) (i0 : Nat) (v0_1 : List Val) : VOK (Go.Pv.look (number 0 (Qlz p0 i0 v0_1))) [(1, Val.rows v0_1)] := (VOK.cons (show Seen _ _ from Q3g (ob := ⟨5, 0, true, (Val.rows v0_1).flatten⟩) (Val.Q9 v0_1 5 rfl)) VOK.nil)
def Qi5 (p0 : List Probe) (e : En) (q : List Val) : Prop := ∃ z zo, Q7 G e (.st (.exit 0) (Qt6 p0 q z zo))
theorem Qub (p0 : List Probe) {e e' : En} (h : ∀ r, Q7 G e r → Q7 G e' r) : ∀ q, Qi5 p0 e q → Qi5 p0 e' q
  | _, ⟨z, zo, hz⟩ => ⟨z, zo, h _ hz⟩
def Qhs (p0 : List Probe) : Prop := (List.length p0 ≤ 137438953472) ∧ True
def Qp6 (p0 : List Probe) (i0 : Nat) (_v0_1 : List Val) : List PV :=
  [.sl (Probe.rows p0), .un, .un, .un, .int .i64 (i0 : Int), .int .i64 (i0 : Int), .sl (Probe.rows p0), .int .i64 ((List.length p0) : Int), .bool false]
def Qkb (_p0 : List Probe) (_i0 : Nat) (_v0_1 : List Val) : List (Nat × List PV) :=
  []
theorem Q1cl (p0 : List Probe) (_H : Qhs p0) (i0 : Nat) (v0_1 : List Val) (_ho0_0 : List.length v0_1 ≤ i0) (hc0 : (decide ((i0 : Int) < ((List.length p0) : Int))) = false) : Qi5 p0 (Qhx p0 i0 v0_1) v0_1 := by
 exact ⟨(envF (Qp6 p0 i0 v0_1)), (zoF (Qkb p0 i0 v0_1)), Qg (Q164 p0 i0 v0_1) (x := ((.exit 0), Qt6 p0 v0_1 (envF (Qp6 p0 i0 v0_1)) (zoF (Qkb p0 i0 v0_1)))) [hP 2 (Qh (Probe.rows p0) (List.length p0) (Probe.Q5 p0)), hB 0 hc0] [] (by kernel_rfl)⟩
theorem Q185 (p0 : List Probe) (H : Qhs p0) (x0 : Probe) (i0 : Nat) (v0_1 : List Val) (hx0 : p0[i0]? = some x0) (hi0 : i0 < List.length p0) (ho0_0 : List.length v0_1 ≤ i0) (hc0 : (decide ((i0 : Int) < ((List.length p0) : Int))) = true) {r : Rs} (hr : Q7 G (Qhx p0 (i0 + 1) (v0_1 ++ [(Q15 ([(Q0 Q26 (Qd x0.delay)), (Q0 Q1q (Qd x0.failure)), (Q0 Q1u (Qd x0.period)), (Q0 Q1k (Qd x0.success))]))])) r) : Q7 G (Qhx p0 i0 v0_1) r := by
 have hB0 := H.1
 exact Qk (Q164 p0 i0 v0_1) (y := (Q101 p0 (i0 + 1) (v0_1 ++ [(Q15 ([(Q0 Q26 (Qd x0.delay)), (Q0 Q1q (Qd x0.failure)), (Q0 Q1u (Qd x0.period)), (Q0 Q1k (Qd x0.success))]))]), Qlz p0 (i0 + 1) (v0_1 ++ [(Q15 ([(Q0 Q26 (Qd x0.delay)), (Q0 Q1q (Qd x0.failure)), (Q0 Q1u (Qd x0.period)), (Q0 Q1k (Qd x0.success))]))]))) [hP 2 (Qh (Probe.rows p0) (List.length p0) (Probe.Q5 p0)), hB 0 hc0, hP 3 (Q1j 4 (Probe.rows p0) i0 _ (Probe.Qc hx0) rfl), hP 6 (Q1j 4 (Probe.rows p0) i0 _ (Probe.Qc hx0) rfl), hP 6 (Q1j 4 (Probe.rows p0) i0 _ (Probe.Qc hx0) rfl), hP 6 (Q1j 4 (Probe.rows p0) i0 _ (Probe.Qc hx0) rfl), hV 7 [(2308, Val.rows (v0_1 ++ [(Q15 ([(Q0 Q26 (Qd x0.delay)), (Q0 Q1q (Qd x0.failure)), (Q0 Q1u (Qd x0.period)), (Q0 Q1k (Qd x0.success))]))]))] (Q3z 1 2244 2308 5 80 0 0 true (Val.rows v0_1) (Val.rows (v0_1 ++ [(Q15 ([(Q0 Q26 (Qd x0.delay)), (Q0 Q1q (Qd x0.failure)), (Q0 Q1u (Qd x0.period)), (Q0 Q1k (Qd x0.success))]))])) (Val.cells (Q15 ([(Q0 Q26 (Qd x0.delay)), (Q0 Q1q (Qd x0.failure)), (Q0 Q1u (Qd x0.period)), (Q0 Q1k (Qd x0.success))]))) (List.length v0_1) (List.length (v0_1 ++ [(Q15 ([(Q0 Q26 (Qd x0.delay)), (Q0 Q1q (Qd x0.failure)), (Q0 Q1u (Qd x0.period)), (Q0 Q1k (Qd x0.success))]))])) rfl (Val.Q5 v0_1).symm (Val.Q5 (v0_1 ++ [(Q15 ([(Q0 Q26 (Qd x0.delay)), (Q0 Q1q (Qd x0.failure)), (Q0 Q1u (Qd x0.period)), (Q0 Q1k (Qd x0.success))]))])).symm (Val.Q14 v0_1 (Q15 ([(Q0 Q26 (Qd x0.delay)), (Q0 Q1q (Qd x0.failure)), (Q0 Q1u (Qd x0.period)), (Q0 Q1k (Qd x0.success))]))) (Val.Qm v0_1) rfl (by omega)), hS 0 true (Val.Q9 (v0_1 ++ [(Q15 ([(Q0 Q26 (Qd x0.delay)), (Q0 Q1q (Qd x0.failure)), (Q0 Q1u (Qd x0.period)), (Q0 Q1k (Qd x0.success))]))]) 5 rfl), hP 2 (Q22 i0 (by omega))] [aN (Q5i x0.delay), aN (Q2e Q26 (Qd x0.delay)), aN (Q5i x0.failure), aN (Q2e Q1q (Qd x0.failure)), aN (Q5i x0.period), aN (Q2e Q1u (Qd x0.period)), aN (Q5i x0.success), aN (Q2e Q1k (Qd x0.success)), aN (Q49 (e' := .call 70 [.sl [(Fld.cells (Q0 Q26 (Qd x0.delay))), (Fld.cells (Q0 Q1q (Qd x0.failure))), (Fld.cells (Q0 Q1u (Qd x0.period))), (Fld.cells (Q0 Q1k (Qd x0.success)))]] []) (Q9o ([(Q0 Q26 (Qd x0.delay)), (Q0 Q1q (Qd x0.failure)), (Q0 Q1u (Qd x0.period)), (Q0 Q1k (Qd x0.success))])) (by simp only [Q94, Fld.Q21, Fld.Q2m]))] (by kernel_rfl) hr
theorem Q10g (p0 : List Probe) (H : Qhs p0) : ∀ (r0 : List Probe) (i0 : Nat) (v0_1 : List Val), List.drop i0 p0 = r0 → List.length v0_1 ≤ i0 → Qi5 p0 (Qhx p0 i0 v0_1) (Q4v p0 r0 i0 v0_1)
 | [], i0, v0_1, hd, ho0_0 => by
  have hc0 : (decide ((i0 : Int) < ((List.length p0) : Int))) = false := by have := Q19 hd; simp; omega
  rw [Q4v]
  exact Q1cl p0 H i0 v0_1 ho0_0 hc0
 | x0 :: r0, i0, v0_1, hd, ho0_0 => by
  obtain ⟨hx0, hi0, hd'⟩ := Q11 hd
  have hc0 : (decide ((i0 : Int) < ((List.length p0) : Int))) = true := by simp; omega
  rw [Q4v]
  exact Qub p0 (fun r hr => Q185 p0 H x0 i0 v0_1 hx0 hi0 ho0_0 hc0 hr) _ (Q10g p0 H r0 (i0 + 1) (v0_1 ++ [(Q15 ([(Q0 Q26 (Qd x0.delay)), (Q0 Q1q (Qd x0.failure)), (Q0 Q1u (Qd x0.period)), (Q0 Q1k (Qd x0.success))]))]) hd' (by first | omega | (simp; omega)))
def Q3b (p0 : List Probe) : Val := vL (p0.map Probe.enc)
theorem Q1t7 (p0 : List Probe) : Q3b p0 = ((Qc9 (Q4v p0 p0 0 []))) := by
  rw [Q15e]
  rfl
def Q1rv (p0 : List Probe) : En := .call 149 [.sl (Probe.rows p0)] []
def Q1ox (p0 : List Probe) : Rs := .ret (.agg (Val.cells (Q3b p0))) []
def Q1er (p0 : List Probe) : Prop := LSm Probe.sm p0
theorem Q1hb (p0 : List Probe) (H : Q1er p0) : (Qhs p0) ∧ True := by
  exact ⟨⟨Nat.le_trans H.1 (Nat.le_of_ble_eq_true rfl), trivial⟩, trivial⟩
theorem Q1l5 (p0 : List Probe) (H : Q1er p0) : Q7 G (Q1rv p0) (Q1ox p0) := by
 unfold Q1ox
 rw [Q1t7]
 have hl0 := Q10g p0 ((Q1hb p0 H).1) p0 0 [] (by simp) (by simp)
 obtain ⟨z0, zo0, hl0⟩ := hl0
 exact Q8 (fn := Ir.K32) rfl VOK.nil [hS 0 true (Val.Q9 (Q4v p0 p0 0 []) 5 rfl), hQ (Val.Q5 (Q4v p0 p0 0 [])).symm] [aV [(1, Val.rows (Q4v p0 p0 0 []))] hl0, aN (Qfd (Q4v p0 p0 0 []))] (by kernel_rfl)
def Q56 (p0 : List Container) : List Container → Nat → (List Val) → List Val
 | [], _i0, v0_1 =>
  v0_1
 | x0 :: r0, i0, v0_1 =>
  Q56 p0 r0 (i0 + 1) (v0_1 ++ [(Q15 ([(Q0 Q1z (Qo x0.image)), (Q0 Q2k (Q3x x0.limit)), (Q0 Q2o (Q3b x0.live)), (Q0 Qp (Qo x0.name)), (Q0 Qi (Q3b x0.ready)), (Q0 Q1c (Q3x x0.request)), (Q0 Q1p (Q3b x0.startup))]))])
theorem Q13j (p0 : List Container) : ∀ (l : List Container) (i : Nat) (a : List Val), Q56 p0 l i a = a ++ l.map (fun x0 => (Q15 ([(Q0 Q1z (Qo x0.image)), (Q0 Q2k (Q3x x0.limit)), (Q0 Q2o (Q3b x0.live)), (Q0 Qp (Qo x0.name)), (Q0 Qi (Q3b x0.ready)), (Q0 Q1c (Q3x x0.request)), (Q0 Q1p (Q3b x0.startup))])))
  | [], _, _ => by simp [Q56]
  | x :: r, i, a => by rw [Q56, Q13j p0 r]; simp
def Q119 (p0 : List Container) (i0 : Nat) (v0_1 : List Val) : List PV :=
  [.sl (Container.rows p0), .un, .bx 0 0, .ms 1 5 0 (List.length v0_1), .int .i64 (i0 : Int)] ++ nuns 46
def Qja (_p0 : List Container) (_i0 : Nat) (v0_1 : List Val) : List Ob :=
  [⟨5, 0, true, [.int .i64 0, .int .i64 0, .str eB, .ms 2 5 0 0, .ms 3 6 0 0]⟩, ⟨5, 0, true, (Val.rows v0_1).flatten⟩, ⟨5, 0, true, []⟩, ⟨6, 0, true, []⟩]
def Qia (p0 : List Container) (i0 : Nat) (v0_1 : List Val) : En := .loop 0 Ir.Qom Ir.Q1jc (Q119 p0 i0 v0_1) (Qja p0 i0 v0_1)
def Qpr (_p0 : List Container) (q0 : List Val) (z : Nat → PV) (_zo : Nat → List PV) : St :=
  ⟨[z 0, z 1, .bx 0 0, .ms 1 5 0 (List.length q0)] ++ zr z 4 47, [(0, ⟨5, 0, true, [.int .i64 0, .int .i64 0, .str eB, .ms 2 5 0 0, .ms 3 6 0 0]⟩), (1, ⟨5, 0, true, (Val.rows q0).flatten⟩), (2, ⟨5, 0, true, []⟩), (3, ⟨6, 0, true, []⟩)], 260⟩
theorem Q15b (p0 : List Container) (i0 : Nat) (v0_1 : List Val) : VOK (Go.Pv.look (number 0 (Qja p0 i0 v0_1))) [(1, Val.rows v0_1)] := (VOK.cons (show Seen _ _ from Q3g (ob := ⟨5, 0, true, (Val.rows v0_1).flatten⟩) (Val.Q9 v0_1 5 rfl)) VOK.nil)
def Qgc (p0 : List Container) (e : En) (q : List Val) : Prop := ∃ z zo, Q7 G e (.st (.exit 0) (Qpr p0 q z zo))
theorem Qwh (p0 : List Container) {e e' : En} (h : ∀ r, Q7 G e r → Q7 G e' r) : ∀ q, Qgc p0 e q → Qgc p0 e' q
  | _, ⟨z, zo, hz⟩ => ⟨z, zo, h _ hz⟩
def Qg8 (p0 : List Container) : Prop := (List.length p0 ≤ 137438953472) ∧ (∀ x0 ∈ p0, Q1er x0.live) ∧ (∀ x0 ∈ p0, Q1er x0.ready) ∧ (∀ x0 ∈ p0, Q1er x0.startup) ∧ True
def Qtd (p0 : List Container) (i0 : Nat) (_v0_1 : List Val) : List PV :=
  [.sl (Container.rows p0), .un, .un, .un, .int .i64 (i0 : Int), .un, .int .i64 (i0 : Int), .sl (Container.rows p0), .int .i64 ((List.length p0) : Int), .bool false]
def Qo2 (_p0 : List Container) (_i0 : Nat) (_v0_1 : List Val) : List (Nat × List PV) :=
  []
theorem Q1ai (p0 : List Container) (_H : Qg8 p0) (i0 : Nat) (v0_1 : List Val) (_ho0_0 : List.length v0_1 ≤ i0) (hc0 : (decide ((i0 : Int) < ((List.length p0) : Int))) = false) : Qgc p0 (Qia p0 i0 v0_1) v0_1 := by
 exact ⟨(envF (Qtd p0 i0 v0_1)), (zoF (Qo2 p0 i0 v0_1)), Qg (Q15b p0 i0 v0_1) (x := ((.exit 0), Qpr p0 v0_1 (envF (Qtd p0 i0 v0_1)) (zoF (Qo2 p0 i0 v0_1)))) [hP 2 (Qh (Container.rows p0) (List.length p0) (Container.Q5 p0)), hB 0 hc0] [] (by kernel_rfl)⟩
theorem Q1a5 (p0 : List Container) (H : Qg8 p0) (x0 : Container) (i0 : Nat) (v0_1 : List Val) (hx0 : p0[i0]? = some x0) (hi0 : i0 < List.length p0) (ho0_0 : List.length v0_1 ≤ i0) (hc0 : (decide ((i0 : Int) < ((List.length p0) : Int))) = true) {r : Rs} (hr : Q7 G (Qia p0 (i0 + 1) (v0_1 ++ [(Q15 ([(Q0 Q1z (Qo x0.image)), (Q0 Q2k (Q3x x0.limit)), (Q0 Q2o (Q3b x0.live)), (Q0 Qp (Qo x0.name)), (Q0 Qi (Q3b x0.ready)), (Q0 Q1c (Q3x x0.request)), (Q0 Q1p (Q3b x0.startup))]))])) r) : Q7 G (Qia p0 i0 v0_1) r := by
 have hB0 := H.1
 exact Qk (Q15b p0 i0 v0_1) (y := (Q119 p0 (i0 + 1) (v0_1 ++ [(Q15 ([(Q0 Q1z (Qo x0.image)), (Q0 Q2k (Q3x x0.limit)), (Q0 Q2o (Q3b x0.live)), (Q0 Qp (Qo x0.name)), (Q0 Qi (Q3b x0.ready)), (Q0 Q1c (Q3x x0.request)), (Q0 Q1p (Q3b x0.startup))]))]), Qja p0 (i0 + 1) (v0_1 ++ [(Q15 ([(Q0 Q1z (Qo x0.image)), (Q0 Q2k (Q3x x0.limit)), (Q0 Q2o (Q3b x0.live)), (Q0 Qp (Qo x0.name)), (Q0 Qi (Q3b x0.ready)), (Q0 Q1c (Q3x x0.request)), (Q0 Q1p (Q3b x0.startup))]))]))) [hP 2 (Qh (Container.rows p0) (List.length p0) (Container.Q5 p0)), hB 0 hc0, hP 2 (Q1j 11 (Container.rows p0) i0 _ (Container.Qc hx0) rfl), hV 35 [(2692, Val.rows (v0_1 ++ [(Q15 ([(Q0 Q1z (Qo x0.image)), (Q0 Q2k (Q3x x0.limit)), (Q0 Q2o (Q3b x0.live)), (Q0 Qp (Qo x0.name)), (Q0 Qi (Q3b x0.ready)), (Q0 Q1c (Q3x x0.request)), (Q0 Q1p (Q3b x0.startup))]))]))] (Q3z 1 2628 2692 5 80 0 0 true (Val.rows v0_1) (Val.rows (v0_1 ++ [(Q15 ([(Q0 Q1z (Qo x0.image)), (Q0 Q2k (Q3x x0.limit)), (Q0 Q2o (Q3b x0.live)), (Q0 Qp (Qo x0.name)), (Q0 Qi (Q3b x0.ready)), (Q0 Q1c (Q3x x0.request)), (Q0 Q1p (Q3b x0.startup))]))])) (Val.cells (Q15 ([(Q0 Q1z (Qo x0.image)), (Q0 Q2k (Q3x x0.limit)), (Q0 Q2o (Q3b x0.live)), (Q0 Qp (Qo x0.name)), (Q0 Qi (Q3b x0.ready)), (Q0 Q1c (Q3x x0.request)), (Q0 Q1p (Q3b x0.startup))]))) (List.length v0_1) (List.length (v0_1 ++ [(Q15 ([(Q0 Q1z (Qo x0.image)), (Q0 Q2k (Q3x x0.limit)), (Q0 Q2o (Q3b x0.live)), (Q0 Qp (Qo x0.name)), (Q0 Qi (Q3b x0.ready)), (Q0 Q1c (Q3x x0.request)), (Q0 Q1p (Q3b x0.startup))]))])) rfl (Val.Q5 v0_1).symm (Val.Q5 (v0_1 ++ [(Q15 ([(Q0 Q1z (Qo x0.image)), (Q0 Q2k (Q3x x0.limit)), (Q0 Q2o (Q3b x0.live)), (Q0 Qp (Qo x0.name)), (Q0 Qi (Q3b x0.ready)), (Q0 Q1c (Q3x x0.request)), (Q0 Q1p (Q3b x0.startup))]))])).symm (Val.Q14 v0_1 (Q15 ([(Q0 Q1z (Qo x0.image)), (Q0 Q2k (Q3x x0.limit)), (Q0 Q2o (Q3b x0.live)), (Q0 Qp (Qo x0.name)), (Q0 Qi (Q3b x0.ready)), (Q0 Q1c (Q3x x0.request)), (Q0 Q1p (Q3b x0.startup))]))) (Val.Qm v0_1) rfl (by omega)), hS 0 true (Val.Q9 (v0_1 ++ [(Q15 ([(Q0 Q1z (Qo x0.image)), (Q0 Q2k (Q3x x0.limit)), (Q0 Q2o (Q3b x0.live)), (Q0 Qp (Qo x0.name)), (Q0 Qi (Q3b x0.ready)), (Q0 Q1c (Q3x x0.request)), (Q0 Q1p (Q3b x0.startup))]))]) 5 rfl), hP 2 (Q22 i0 (by omega))] [aN (Q9u x0.image), aN (Q2e Q1z (Qo x0.image)), aN (Q1lc x0.limit), aN (Q2e Q2k (Q3x x0.limit)), aN (Q1l5 x0.live (H.2.1 x0 (Q2a hx0))), aN (Q2e Q2o (Q3b x0.live)), aN (Q9u x0.name), aN (Q2e Qp (Qo x0.name)), aN (Q1l5 x0.ready (H.2.2.1 x0 (Q2a hx0))), aN (Q2e Qi (Q3b x0.ready)), aN (Q1lc x0.request), aN (Q2e Q1c (Q3x x0.request)), aN (Q1l5 x0.startup (H.2.2.2.1 x0 (Q2a hx0))), aN (Q2e Q1p (Q3b x0.startup)), aN (Q49 (e' := .call 70 [.sl [(Fld.cells (Q0 Q1z (Qo x0.image))), (Fld.cells (Q0 Q2k (Q3x x0.limit))), (Fld.cells (Q0 Q2o (Q3b x0.live))), (Fld.cells (Q0 Qp (Qo x0.name))), (Fld.cells (Q0 Qi (Q3b x0.ready))), (Fld.cells (Q0 Q1c (Q3x x0.request))), (Fld.cells (Q0 Q1p (Q3b x0.startup)))]] []) (Q9o ([(Q0 Q1z (Qo x0.image)), (Q0 Q2k (Q3x x0.limit)), (Q0 Q2o (Q3b x0.live)), (Q0 Qp (Qo x0.name)), (Q0 Qi (Q3b x0.ready)), (Q0 Q1c (Q3x x0.request)), (Q0 Q1p (Q3b x0.startup))])) (by simp only [Q94, Fld.Q21, Fld.Q2m]))] (by kernel_rfl) hr
theorem Qxn (p0 : List Container) (H : Qg8 p0) : ∀ (r0 : List Container) (i0 : Nat) (v0_1 : List Val), List.drop i0 p0 = r0 → List.length v0_1 ≤ i0 → Qgc p0 (Qia p0 i0 v0_1) (Q56 p0 r0 i0 v0_1)
 | [], i0, v0_1, hd, ho0_0 => by
  have hc0 : (decide ((i0 : Int) < ((List.length p0) : Int))) = false := by have := Q19 hd; simp; omega
  rw [Q56]
  exact Q1ai p0 H i0 v0_1 ho0_0 hc0
 | x0 :: r0, i0, v0_1, hd, ho0_0 => by
  obtain ⟨hx0, hi0, hd'⟩ := Q11 hd
  have hc0 : (decide ((i0 : Int) < ((List.length p0) : Int))) = true := by simp; omega
  rw [Q56]
  exact Qwh p0 (fun r hr => Q1a5 p0 H x0 i0 v0_1 hx0 hi0 ho0_0 hc0 hr) _ (Qxn p0 H r0 (i0 + 1) (v0_1 ++ [(Q15 ([(Q0 Q1z (Qo x0.image)), (Q0 Q2k (Q3x x0.limit)), (Q0 Q2o (Q3b x0.live)), (Q0 Qp (Qo x0.name)), (Q0 Qi (Q3b x0.ready)), (Q0 Q1c (Q3x x0.request)), (Q0 Q1p (Q3b x0.startup))]))]) hd' (by first | omega | (simp; omega)))
def Q1b3 (p0 : List Container) : Val := vL (p0.map Container.enc)
theorem Q1sm (p0 : List Container) : Q1b3 p0 = ((Qc9 (Q56 p0 p0 0 []))) := by
  rw [Q13j]
  rfl
def Q1sd (p0 : List Container) : En := .call 124 [.sl (Container.rows p0)] []
def Q1ob (p0 : List Container) : Rs := .ret (.agg (Val.cells (Q1b3 p0))) []
def Q1l1 (p0 : List Container) : Prop := LSm Container.sm p0
theorem Q1gp (p0 : List Container) (H : Q1l1 p0) : (Qg8 p0) ∧ True := by
  exact ⟨⟨Nat.le_trans H.1 (Nat.le_of_ble_eq_true rfl), fun x hx => (H.2 x hx).2.2.1, fun x hx => (H.2 x hx).2.2.2.1, fun x hx => (H.2 x hx).2.2.2.2.1, trivial⟩, trivial⟩
theorem Q1tw (p0 : List Container) (H : Q1l1 p0) : Q7 G (Q1sd p0) (Q1ob p0) := by
 unfold Q1ob
 rw [Q1sm]
 have hl0 := Qxn p0 ((Q1gp p0 H).1) p0 0 [] (by simp) (by simp)
 obtain ⟨z0, zo0, hl0⟩ := hl0
 exact Q8 (fn := Ir.K2x) rfl VOK.nil [hS 0 true (Val.Q9 (Q56 p0 p0 0 []) 5 rfl), hQ (Val.Q5 (Q56 p0 p0 0 [])).symm] [aV [(1, Val.rows (Q56 p0 p0 0 []))] hl0, aN (Qfd (Q56 p0 p0 0 []))] (by kernel_rfl)
def Q4u (p0 : List ByteArray) : List ByteArray → Nat → (List Val) → List Val
 | [], _i0, v0_1 =>
  v0_1
 | x0 :: r0, i0, v0_1 =>
  Q4u p0 r0 (i0 + 1) (v0_1 ++ [(Qo x0)])
theorem Q16d (p0 : List ByteArray) : ∀ (l : List ByteArray) (i : Nat) (a : List Val), Q4u p0 l i a = a ++ l.map (fun x0 => (Qo x0))
  | [], _, _ => by simp [Q4u]
  | x :: r, i, a => by rw [Q4u, Q16d p0 r]; simp
def Qzc (p0 : List ByteArray) (i0 : Nat) (v0_1 : List Val) : List PV :=
  [.sl (Qj p0), .un, .bx 0 0, .ms 1 5 0 (List.length v0_1), .int .i64 (i0 : Int)] ++ nuns 16
def Qk1 (_p0 : List ByteArray) (_i0 : Nat) (v0_1 : List Val) : List Ob :=
  [⟨5, 0, true, [.int .i64 0, .int .i64 0, .str eB, .ms 2 5 0 0, .ms 3 6 0 0]⟩, ⟨5, 0, true, (Val.rows v0_1).flatten⟩, ⟨5, 0, true, []⟩, ⟨6, 0, true, []⟩]
def Qhz (p0 : List ByteArray) (i0 : Nat) (v0_1 : List Val) : En := .loop 0 Ir.Qol Ir.Q1ir (Qzc p0 i0 v0_1) (Qk1 p0 i0 v0_1)
def Qt2 (_p0 : List ByteArray) (q0 : List Val) (z : Nat → PV) (_zo : Nat → List PV) : St :=
  ⟨[z 0, z 1, .bx 0 0, .ms 1 5 0 (List.length q0)] ++ zr z 4 17, [(0, ⟨5, 0, true, [.int .i64 0, .int .i64 0, .str eB, .ms 2 5 0 0, .ms 3 6 0 0]⟩), (1, ⟨5, 0, true, (Val.rows q0).flatten⟩), (2, ⟨5, 0, true, []⟩), (3, ⟨6, 0, true, []⟩)], 260⟩
theorem Q15c (p0 : List ByteArray) (i0 : Nat) (v0_1 : List Val) : VOK (Go.Pv.look (number 0 (Qk1 p0 i0 v0_1))) [(1, Val.rows v0_1)] := (VOK.cons (show Seen _ _ from Q3g (ob := ⟨5, 0, true, (Val.rows v0_1).flatten⟩) (Val.Q9 v0_1 5 rfl)) VOK.nil)
def Qhh (p0 : List ByteArray) (e : En) (q : List Val) : Prop := ∃ z zo, Q7 G e (.st (.exit 0) (Qt2 p0 q z zo))
theorem Quu (p0 : List ByteArray) {e e' : En} (h : ∀ r, Q7 G e r → Q7 G e' r) : ∀ q, Qhh p0 e q → Qhh p0 e' q
  | _, ⟨z, zo, hz⟩ => ⟨z, zo, h _ hz⟩
def Qgh (p0 : List ByteArray) : Prop := (List.length p0 ≤ 137438953472) ∧ True
def Qsn (p0 : List ByteArray) (i0 : Nat) (_v0_1 : List Val) : List PV :=
  [.sl (Qj p0), .un, .un, .un, .int .i64 (i0 : Int), .int .i64 (i0 : Int), .sl (Qj p0), .int .i64 ((List.length p0) : Int), .bool false]
def Qn9 (_p0 : List ByteArray) (_i0 : Nat) (_v0_1 : List Val) : List (Nat × List PV) :=
  []
theorem Q1bn (p0 : List ByteArray) (_H : Qgh p0) (i0 : Nat) (v0_1 : List Val) (_ho0_0 : List.length v0_1 ≤ i0) (hc0 : (decide ((i0 : Int) < ((List.length p0) : Int))) = false) : Qhh p0 (Qhz p0 i0 v0_1) v0_1 := by
 exact ⟨(envF (Qsn p0 i0 v0_1)), (zoF (Qn9 p0 i0 v0_1)), Qg (Q15c p0 i0 v0_1) (x := ((.exit 0), Qt2 p0 v0_1 (envF (Qsn p0 i0 v0_1)) (zoF (Qn9 p0 i0 v0_1)))) [hP 2 (Qh (Qj p0) (List.length p0) (Q1h p0)), hB 0 hc0] [] (by kernel_rfl)⟩
theorem Q19o (p0 : List ByteArray) (H : Qgh p0) (x0 : BA) (i0 : Nat) (v0_1 : List Val) (hx0 : p0[i0]? = some x0) (hi0 : i0 < List.length p0) (ho0_0 : List.length v0_1 ≤ i0) (hc0 : (decide ((i0 : Int) < ((List.length p0) : Int))) = true) {r : Rs} (hr : Q7 G (Qhz p0 (i0 + 1) (v0_1 ++ [(Qo x0)])) r) : Q7 G (Qhz p0 i0 v0_1) r := by
 have hB0 := H.1
 exact Qk (Q15c p0 i0 v0_1) (y := (Qzc p0 (i0 + 1) (v0_1 ++ [(Qo x0)]), Qk1 p0 (i0 + 1) (v0_1 ++ [(Qo x0)]))) [hP 2 (Qh (Qj p0) (List.length p0) (Q1h p0)), hB 0 hc0, hP 3 (Q1j 1 (Qj p0) i0 _ (Q40 hx0) rfl), hV 3 [(708, Val.rows (v0_1 ++ [(Qo x0)]))] (Q3z 1 644 708 5 80 0 0 true (Val.rows v0_1) (Val.rows (v0_1 ++ [(Qo x0)])) (Val.cells (Qo x0)) (List.length v0_1) (List.length (v0_1 ++ [(Qo x0)])) rfl (Val.Q5 v0_1).symm (Val.Q5 (v0_1 ++ [(Qo x0)])).symm (Val.Q14 v0_1 (Qo x0)) (Val.Qm v0_1) rfl (by omega)), hS 0 true (Val.Q9 (v0_1 ++ [(Qo x0)]) 5 rfl), hP 2 (Q22 i0 (by omega))] [aN (Q9u x0)] (by kernel_rfl) hr
theorem Q11t (p0 : List ByteArray) (H : Qgh p0) : ∀ (r0 : List ByteArray) (i0 : Nat) (v0_1 : List Val), List.drop i0 p0 = r0 → List.length v0_1 ≤ i0 → Qhh p0 (Qhz p0 i0 v0_1) (Q4u p0 r0 i0 v0_1)
 | [], i0, v0_1, hd, ho0_0 => by
  have hc0 : (decide ((i0 : Int) < ((List.length p0) : Int))) = false := by have := Q19 hd; simp; omega
  rw [Q4u]
  exact Q1bn p0 H i0 v0_1 ho0_0 hc0
 | x0 :: r0, i0, v0_1, hd, ho0_0 => by
  obtain ⟨hx0, hi0, hd'⟩ := Q11 hd
  have hc0 : (decide ((i0 : Int) < ((List.length p0) : Int))) = true := by simp; omega
  rw [Q4u]
  exact Quu p0 (fun r hr => Q19o p0 H x0 i0 v0_1 hx0 hi0 ho0_0 hc0 hr) _ (Q11t p0 H r0 (i0 + 1) (v0_1 ++ [(Qo x0)]) hd' (by first | omega | (simp; omega)))
def Q96 (p0 : List ByteArray) : Val := vL (p0.map vS)
theorem Q1wt (p0 : List ByteArray) : Q96 p0 = ((Qc9 (Q4u p0 p0 0 []))) := by
  rw [Q16d]
  rfl
def Q1uq (p0 : List ByteArray) : En := .call 150 [.sl (Qj p0)] []
def Q1qf (p0 : List ByteArray) : Rs := .ret (.agg (Val.cells (Q96 p0))) []
def Q1mo (p0 : List ByteArray) : Prop := LSm (fun _ : ByteArray => True) p0
theorem Q1hr (p0 : List ByteArray) (H : Q1mo p0) : (Qgh p0) ∧ True := by
  exact ⟨⟨Nat.le_trans H.1 (Nat.le_of_ble_eq_true rfl), trivial⟩, trivial⟩
theorem Q1ru (p0 : List ByteArray) (H : Q1mo p0) : Q7 G (Q1uq p0) (Q1qf p0) := by
 unfold Q1qf
 rw [Q1wt]
 have hl0 := Q11t p0 ((Q1hr p0 H).1) p0 0 [] (by simp) (by simp)
 obtain ⟨z0, zo0, hl0⟩ := hl0
 exact Q8 (fn := Ir.K2e) rfl VOK.nil [hS 0 true (Val.Q9 (Q4u p0 p0 0 []) 5 rfl), hQ (Val.Q5 (Q4u p0 p0 0 [])).symm] [aV [(1, Val.rows (Q4u p0 p0 0 []))] hl0, aN (Qfd (Q4u p0 p0 0 []))] (by kernel_rfl)
def Q4t (p0 : List Requirement) : List Requirement → Nat → (List Val) → List Val
 | [], _i0, v0_1 =>
  v0_1
 | x0 :: r0, i0, v0_1 =>
  Q4t p0 r0 (i0 + 1) (v0_1 ++ [(Q15 ([(Q0 Qs (Qo x0.key)), (Q0 Q5j (Qd x0.op)), (Q0 Q27 (Q96 x0.values))]))])
theorem Q17h (p0 : List Requirement) : ∀ (l : List Requirement) (i : Nat) (a : List Val), Q4t p0 l i a = a ++ l.map (fun x0 => (Q15 ([(Q0 Qs (Qo x0.key)), (Q0 Q5j (Qd x0.op)), (Q0 Q27 (Q96 x0.values))])))
  | [], _, _ => by simp [Q4t]
  | x :: r, i, a => by rw [Q4t, Q17h p0 r]; simp
def Qzs (p0 : List Requirement) (i0 : Nat) (v0_1 : List Val) : List PV :=
  [.sl (Requirement.rows p0), .un, .bx 0 0, .ms 1 5 0 (List.length v0_1), .int .i64 (i0 : Int)] ++ nuns 34
def Qju (_p0 : List Requirement) (_i0 : Nat) (v0_1 : List Val) : List Ob :=
  [⟨5, 0, true, [.int .i64 0, .int .i64 0, .str eB, .ms 2 5 0 0, .ms 3 6 0 0]⟩, ⟨5, 0, true, (Val.rows v0_1).flatten⟩, ⟨5, 0, true, []⟩, ⟨6, 0, true, []⟩]
def Qhu (p0 : List Requirement) (i0 : Nat) (v0_1 : List Val) : En := .loop 0 Ir.Qjy Ir.Q1k9 (Qzs p0 i0 v0_1) (Qju p0 i0 v0_1)
def Qpc (_p0 : List Requirement) (q0 : List Val) (z : Nat → PV) (_zo : Nat → List PV) : St :=
  ⟨[z 0, z 1, .bx 0 0, .ms 1 5 0 (List.length q0)] ++ zr z 4 35, [(0, ⟨5, 0, true, [.int .i64 0, .int .i64 0, .str eB, .ms 2 5 0 0, .ms 3 6 0 0]⟩), (1, ⟨5, 0, true, (Val.rows q0).flatten⟩), (2, ⟨5, 0, true, []⟩), (3, ⟨6, 0, true, []⟩)], 260⟩
theorem Q149 (p0 : List Requirement) (i0 : Nat) (v0_1 : List Val) : VOK (Go.Pv.look (number 0 (Qju p0 i0 v0_1))) [(1, Val.rows v0_1)] := (VOK.cons (show Seen _ _ from Q3g (ob := ⟨5, 0, true, (Val.rows v0_1).flatten⟩) (Val.Q9 v0_1 5 rfl)) VOK.nil)
def Qh9 (p0 : List Requirement) (e : En) (q : List Val) : Prop := ∃ z zo, Q7 G e (.st (.exit 0) (Qpc p0 q z zo))
theorem Qur (p0 : List Requirement) {e e' : En} (h : ∀ r, Q7 G e r → Q7 G e' r) : ∀ q, Qh9 p0 e q → Qh9 p0 e' q
  | _, ⟨z, zo, hz⟩ => ⟨z, zo, h _ hz⟩
def Qgq (p0 : List Requirement) : Prop := (List.length p0 ≤ 137438953472) ∧ (∀ x0 ∈ p0, Q1mo x0.values) ∧ True
def Qsj (p0 : List Requirement) (i0 : Nat) (_v0_1 : List Val) : List PV :=
  [.sl (Requirement.rows p0), .un, .un, .un, .int .i64 (i0 : Int), .int .i64 (i0 : Int), .sl (Requirement.rows p0), .int .i64 ((List.length p0) : Int), .bool false]
def Qjo (_p0 : List Requirement) (_i0 : Nat) (_v0_1 : List Val) : List (Nat × List PV) :=
  []
theorem Q17v (p0 : List Requirement) (_H : Qgq p0) (i0 : Nat) (v0_1 : List Val) (_ho0_0 : List.length v0_1 ≤ i0) (hc0 : (decide ((i0 : Int) < ((List.length p0) : Int))) = false) : Qh9 p0 (Qhu p0 i0 v0_1) v0_1 := by
 exact ⟨(envF (Qsj p0 i0 v0_1)), (zoF (Qjo p0 i0 v0_1)), Qg (Q149 p0 i0 v0_1) (x := ((.exit 0), Qpc p0 v0_1 (envF (Qsj p0 i0 v0_1)) (zoF (Qjo p0 i0 v0_1)))) [hP 2 (Qh (Requirement.rows p0) (List.length p0) (Requirement.Q5 p0)), hB 0 hc0] [] (by kernel_rfl)⟩
theorem Q1bz (p0 : List Requirement) (H : Qgq p0) (x0 : Requirement) (i0 : Nat) (v0_1 : List Val) (hx0 : p0[i0]? = some x0) (hi0 : i0 < List.length p0) (ho0_0 : List.length v0_1 ≤ i0) (hc0 : (decide ((i0 : Int) < ((List.length p0) : Int))) = true) {r : Rs} (hr : Q7 G (Qhu p0 (i0 + 1) (v0_1 ++ [(Q15 ([(Q0 Qs (Qo x0.key)), (Q0 Q5j (Qd x0.op)), (Q0 Q27 (Q96 x0.values))]))])) r) : Q7 G (Qhu p0 i0 v0_1) r := by
 have hB0 := H.1
 exact Qk (Q149 p0 i0 v0_1) (y := (Qzs p0 (i0 + 1) (v0_1 ++ [(Q15 ([(Q0 Qs (Qo x0.key)), (Q0 Q5j (Qd x0.op)), (Q0 Q27 (Q96 x0.values))]))]), Qju p0 (i0 + 1) (v0_1 ++ [(Q15 ([(Q0 Qs (Qo x0.key)), (Q0 Q5j (Qd x0.op)), (Q0 Q27 (Q96 x0.values))]))]))) [hP 2 (Qh (Requirement.rows p0) (List.length p0) (Requirement.Q5 p0)), hB 0 hc0, hP 3 (Q1j 3 (Requirement.rows p0) i0 _ (Requirement.Qc hx0) rfl), hP 6 (Q1j 3 (Requirement.rows p0) i0 _ (Requirement.Qc hx0) rfl), hP 6 (Q1j 3 (Requirement.rows p0) i0 _ (Requirement.Qc hx0) rfl), hV 7 [(1860, Val.rows (v0_1 ++ [(Q15 ([(Q0 Qs (Qo x0.key)), (Q0 Q5j (Qd x0.op)), (Q0 Q27 (Q96 x0.values))]))]))] (Q3z 1 1796 1860 5 80 0 0 true (Val.rows v0_1) (Val.rows (v0_1 ++ [(Q15 ([(Q0 Qs (Qo x0.key)), (Q0 Q5j (Qd x0.op)), (Q0 Q27 (Q96 x0.values))]))])) (Val.cells (Q15 ([(Q0 Qs (Qo x0.key)), (Q0 Q5j (Qd x0.op)), (Q0 Q27 (Q96 x0.values))]))) (List.length v0_1) (List.length (v0_1 ++ [(Q15 ([(Q0 Qs (Qo x0.key)), (Q0 Q5j (Qd x0.op)), (Q0 Q27 (Q96 x0.values))]))])) rfl (Val.Q5 v0_1).symm (Val.Q5 (v0_1 ++ [(Q15 ([(Q0 Qs (Qo x0.key)), (Q0 Q5j (Qd x0.op)), (Q0 Q27 (Q96 x0.values))]))])).symm (Val.Q14 v0_1 (Q15 ([(Q0 Qs (Qo x0.key)), (Q0 Q5j (Qd x0.op)), (Q0 Q27 (Q96 x0.values))]))) (Val.Qm v0_1) rfl (by omega)), hS 0 true (Val.Q9 (v0_1 ++ [(Q15 ([(Q0 Qs (Qo x0.key)), (Q0 Q5j (Qd x0.op)), (Q0 Q27 (Q96 x0.values))]))]) 5 rfl), hP 2 (Q22 i0 (by omega))] [aN (Q9u x0.key), aN (Q2e Qs (Qo x0.key)), aN (Q5i x0.op), aN (Q2e Q5j (Qd x0.op)), aN (Q1ru x0.values (H.2.1 x0 (Q2a hx0))), aN (Q2e Q27 (Q96 x0.values)), aN (Q49 (e' := .call 70 [.sl [(Fld.cells (Q0 Qs (Qo x0.key))), (Fld.cells (Q0 Q5j (Qd x0.op))), (Fld.cells (Q0 Q27 (Q96 x0.values)))]] []) (Q9o ([(Q0 Qs (Qo x0.key)), (Q0 Q5j (Qd x0.op)), (Q0 Q27 (Q96 x0.values))])) (by simp only [Q94, Fld.Q21, Fld.Q2m]))] (by kernel_rfl) hr
theorem Qyv (p0 : List Requirement) (H : Qgq p0) : ∀ (r0 : List Requirement) (i0 : Nat) (v0_1 : List Val), List.drop i0 p0 = r0 → List.length v0_1 ≤ i0 → Qh9 p0 (Qhu p0 i0 v0_1) (Q4t p0 r0 i0 v0_1)
 | [], i0, v0_1, hd, ho0_0 => by
  have hc0 : (decide ((i0 : Int) < ((List.length p0) : Int))) = false := by have := Q19 hd; simp; omega
  rw [Q4t]
  exact Q17v p0 H i0 v0_1 ho0_0 hc0
 | x0 :: r0, i0, v0_1, hd, ho0_0 => by
  obtain ⟨hx0, hi0, hd'⟩ := Q11 hd
  have hc0 : (decide ((i0 : Int) < ((List.length p0) : Int))) = true := by simp; omega
  rw [Q4t]
  exact Qur p0 (fun r hr => Q1bz p0 H x0 i0 v0_1 hx0 hi0 ho0_0 hc0 hr) _ (Qyv p0 H r0 (i0 + 1) (v0_1 ++ [(Q15 ([(Q0 Qs (Qo x0.key)), (Q0 Q5j (Qd x0.op)), (Q0 Q27 (Q96 x0.values))]))]) hd' (by first | omega | (simp; omega)))
def Q36 (p0 : List Requirement) : Val := vL (p0.map Requirement.enc)
theorem Q1s3 (p0 : List Requirement) : Q36 p0 = ((Qc9 (Q4t p0 p0 0 []))) := by
  rw [Q17h]
  rfl
def Q1s7 (p0 : List Requirement) : En := .call 126 [.sl (Requirement.rows p0)] []
def Q1p4 (p0 : List Requirement) : Rs := .ret (.agg (Val.cells (Q36 p0))) []
def Q190 (p0 : List Requirement) : Prop := LSm Requirement.sm p0
theorem Q1h0 (p0 : List Requirement) (H : Q190 p0) : (Qgq p0) ∧ True := by
  exact ⟨⟨Nat.le_trans H.1 (Nat.le_of_ble_eq_true rfl), fun x hx => (H.2 x hx).1, trivial⟩, trivial⟩
theorem Q1hd (p0 : List Requirement) (H : Q190 p0) : Q7 G (Q1s7 p0) (Q1p4 p0) := by
 unfold Q1p4
 rw [Q1s3]
 have hl0 := Qyv p0 ((Q1h0 p0 H).1) p0 0 [] (by simp) (by simp)
 obtain ⟨z0, zo0, hl0⟩ := hl0
 exact Q8 (fn := Ir.K2c) rfl VOK.nil [hS 0 true (Val.Q9 (Q4t p0 p0 0 []) 5 rfl), hQ (Val.Q5 (Q4t p0 p0 0 [])).symm] [aV [(1, Val.rows (Q4t p0 p0 0 []))] hl0, aN (Qfd (Q4t p0 p0 0 []))] (by kernel_rfl)
def Q1b (p0 : Bool) : Val := vB p0
theorem Q1sz (p0 : Bool) : Q1b p0 = (bif p0 then
    (Val.mk 1 1 eB [] [])
  else
    (Val.mk 1 0 eB [] [])) := by
  cases p0 <;> rfl
def Q1uf (p0 : Bool) : En := .call 73 [.bool p0] []
def Q1nb (p0 : Bool) : Rs := .ret (.agg (Val.cells (Q1b p0))) []
theorem Qfi (p0 : Bool) : Q7 G (Q1uf p0) (Q1nb p0) := by
 unfold Q1nb
 rw [Q1sz]
 cases h0 : p0 with
 | true =>
  exact Q8 (fn := Ir.K3q) rfl VOK.nil [] [] (by kernel_rfl)
 | false =>
  exact Q8 (fn := Ir.K3q) rfl VOK.nil [] [] (by kernel_rfl)
def Q57 (p0 : List NodeTerm) : List NodeTerm → Nat → (List Val) → List Val
 | [], _i0, v0_1 =>
  v0_1
 | x0 :: r0, i0, v0_1 =>
  Q57 p0 r0 (i0 + 1) (v0_1 ++ [(Q15 ([(Q0 Qa (Q1b x0.required)), (Q0 Qb (Q36 x0.selector)), (Q0 Qw (Qd x0.weight))]))])
theorem Q14i (p0 : List NodeTerm) : ∀ (l : List NodeTerm) (i : Nat) (a : List Val), Q57 p0 l i a = a ++ l.map (fun x0 => (Q15 ([(Q0 Qa (Q1b x0.required)), (Q0 Qb (Q36 x0.selector)), (Q0 Qw (Qd x0.weight))])))
  | [], _, _ => by simp [Q57]
  | x :: r, i, a => by rw [Q57, Q14i p0 r]; simp
def Q106 (p0 : List NodeTerm) (i0 : Nat) (v0_1 : List Val) : List PV :=
  [.sl (NodeTerm.rows p0), .un, .bx 0 0, .ms 1 5 0 (List.length v0_1), .int .i64 (i0 : Int)] ++ nuns 34
def Qj3 (_p0 : List NodeTerm) (_i0 : Nat) (v0_1 : List Val) : List Ob :=
  [⟨5, 0, true, [.int .i64 0, .int .i64 0, .str eB, .ms 2 5 0 0, .ms 3 6 0 0]⟩, ⟨5, 0, true, (Val.rows v0_1).flatten⟩, ⟨5, 0, true, []⟩, ⟨6, 0, true, []⟩]
def Qgu (p0 : List NodeTerm) (i0 : Nat) (v0_1 : List Val) : En := .loop 0 Ir.Qks Ir.Q1j6 (Q106 p0 i0 v0_1) (Qj3 p0 i0 v0_1)
def Qtl (_p0 : List NodeTerm) (q0 : List Val) (z : Nat → PV) (_zo : Nat → List PV) : St :=
  ⟨[z 0, z 1, .bx 0 0, .ms 1 5 0 (List.length q0)] ++ zr z 4 35, [(0, ⟨5, 0, true, [.int .i64 0, .int .i64 0, .str eB, .ms 2 5 0 0, .ms 3 6 0 0]⟩), (1, ⟨5, 0, true, (Val.rows q0).flatten⟩), (2, ⟨5, 0, true, []⟩), (3, ⟨6, 0, true, []⟩)], 260⟩
theorem Q15o (p0 : List NodeTerm) (i0 : Nat) (v0_1 : List Val) : VOK (Go.Pv.look (number 0 (Qj3 p0 i0 v0_1))) [(1, Val.rows v0_1)] := (VOK.cons (show Seen _ _ from Q3g (ob := ⟨5, 0, true, (Val.rows v0_1).flatten⟩) (Val.Q9 v0_1 5 rfl)) VOK.nil)
def Qfk (p0 : List NodeTerm) (e : En) (q : List Val) : Prop := ∃ z zo, Q7 G e (.st (.exit 0) (Qtl p0 q z zo))
theorem Qww (p0 : List NodeTerm) {e e' : En} (h : ∀ r, Q7 G e r → Q7 G e' r) : ∀ q, Qfk p0 e q → Qfk p0 e' q
  | _, ⟨z, zo, hz⟩ => ⟨z, zo, h _ hz⟩
def Qfx (p0 : List NodeTerm) : Prop := (List.length p0 ≤ 137438953472) ∧ (∀ x0 ∈ p0, Q190 x0.selector) ∧ True
def Qqf (p0 : List NodeTerm) (i0 : Nat) (_v0_1 : List Val) : List PV :=
  [.sl (NodeTerm.rows p0), .un, .un, .un, .int .i64 (i0 : Int), .int .i64 (i0 : Int), .sl (NodeTerm.rows p0), .int .i64 ((List.length p0) : Int), .bool false]
def Qj0 (_p0 : List NodeTerm) (_i0 : Nat) (_v0_1 : List Val) : List (Nat × List PV) :=
  []
theorem Q17k (p0 : List NodeTerm) (_H : Qfx p0) (i0 : Nat) (v0_1 : List Val) (_ho0_0 : List.length v0_1 ≤ i0) (hc0 : (decide ((i0 : Int) < ((List.length p0) : Int))) = false) : Qfk p0 (Qgu p0 i0 v0_1) v0_1 := by
 exact ⟨(envF (Qqf p0 i0 v0_1)), (zoF (Qj0 p0 i0 v0_1)), Qg (Q15o p0 i0 v0_1) (x := ((.exit 0), Qtl p0 v0_1 (envF (Qqf p0 i0 v0_1)) (zoF (Qj0 p0 i0 v0_1)))) [hP 2 (Qh (NodeTerm.rows p0) (List.length p0) (NodeTerm.Q5 p0)), hB 0 hc0] [] (by kernel_rfl)⟩
theorem Q182 (p0 : List NodeTerm) (H : Qfx p0) (x0 : NodeTerm) (i0 : Nat) (v0_1 : List Val) (hx0 : p0[i0]? = some x0) (hi0 : i0 < List.length p0) (ho0_0 : List.length v0_1 ≤ i0) (hc0 : (decide ((i0 : Int) < ((List.length p0) : Int))) = true) {r : Rs} (hr : Q7 G (Qgu p0 (i0 + 1) (v0_1 ++ [(Q15 ([(Q0 Qa (Q1b x0.required)), (Q0 Qb (Q36 x0.selector)), (Q0 Qw (Qd x0.weight))]))])) r) : Q7 G (Qgu p0 i0 v0_1) r := by
 have hB0 := H.1
 exact Qk (Q15o p0 i0 v0_1) (y := (Q106 p0 (i0 + 1) (v0_1 ++ [(Q15 ([(Q0 Qa (Q1b x0.required)), (Q0 Qb (Q36 x0.selector)), (Q0 Qw (Qd x0.weight))]))]), Qj3 p0 (i0 + 1) (v0_1 ++ [(Q15 ([(Q0 Qa (Q1b x0.required)), (Q0 Qb (Q36 x0.selector)), (Q0 Qw (Qd x0.weight))]))]))) [hP 2 (Qh (NodeTerm.rows p0) (List.length p0) (NodeTerm.Q5 p0)), hB 0 hc0, hP 3 (Q1j 3 (NodeTerm.rows p0) i0 _ (NodeTerm.Qc hx0) rfl), hP 6 (Q1j 3 (NodeTerm.rows p0) i0 _ (NodeTerm.Qc hx0) rfl), hP 6 (Q1j 3 (NodeTerm.rows p0) i0 _ (NodeTerm.Qc hx0) rfl), hV 7 [(1860, Val.rows (v0_1 ++ [(Q15 ([(Q0 Qa (Q1b x0.required)), (Q0 Qb (Q36 x0.selector)), (Q0 Qw (Qd x0.weight))]))]))] (Q3z 1 1796 1860 5 80 0 0 true (Val.rows v0_1) (Val.rows (v0_1 ++ [(Q15 ([(Q0 Qa (Q1b x0.required)), (Q0 Qb (Q36 x0.selector)), (Q0 Qw (Qd x0.weight))]))])) (Val.cells (Q15 ([(Q0 Qa (Q1b x0.required)), (Q0 Qb (Q36 x0.selector)), (Q0 Qw (Qd x0.weight))]))) (List.length v0_1) (List.length (v0_1 ++ [(Q15 ([(Q0 Qa (Q1b x0.required)), (Q0 Qb (Q36 x0.selector)), (Q0 Qw (Qd x0.weight))]))])) rfl (Val.Q5 v0_1).symm (Val.Q5 (v0_1 ++ [(Q15 ([(Q0 Qa (Q1b x0.required)), (Q0 Qb (Q36 x0.selector)), (Q0 Qw (Qd x0.weight))]))])).symm (Val.Q14 v0_1 (Q15 ([(Q0 Qa (Q1b x0.required)), (Q0 Qb (Q36 x0.selector)), (Q0 Qw (Qd x0.weight))]))) (Val.Qm v0_1) rfl (by omega)), hS 0 true (Val.Q9 (v0_1 ++ [(Q15 ([(Q0 Qa (Q1b x0.required)), (Q0 Qb (Q36 x0.selector)), (Q0 Qw (Qd x0.weight))]))]) 5 rfl), hP 2 (Q22 i0 (by omega))] [aN (Qfi x0.required), aN (Q2e Qa (Q1b x0.required)), aN (Q1hd x0.selector (H.2.1 x0 (Q2a hx0))), aN (Q2e Qb (Q36 x0.selector)), aN (Q5i x0.weight), aN (Q2e Qw (Qd x0.weight)), aN (Q49 (e' := .call 70 [.sl [(Fld.cells (Q0 Qa (Q1b x0.required))), (Fld.cells (Q0 Qb (Q36 x0.selector))), (Fld.cells (Q0 Qw (Qd x0.weight)))]] []) (Q9o ([(Q0 Qa (Q1b x0.required)), (Q0 Qb (Q36 x0.selector)), (Q0 Qw (Qd x0.weight))])) (by simp only [Q94, Fld.Q21, Fld.Q2m]))] (by kernel_rfl) hr
theorem Q10m (p0 : List NodeTerm) (H : Qfx p0) : ∀ (r0 : List NodeTerm) (i0 : Nat) (v0_1 : List Val), List.drop i0 p0 = r0 → List.length v0_1 ≤ i0 → Qfk p0 (Qgu p0 i0 v0_1) (Q57 p0 r0 i0 v0_1)
 | [], i0, v0_1, hd, ho0_0 => by
  have hc0 : (decide ((i0 : Int) < ((List.length p0) : Int))) = false := by have := Q19 hd; simp; omega
  rw [Q57]
  exact Q17k p0 H i0 v0_1 ho0_0 hc0
 | x0 :: r0, i0, v0_1, hd, ho0_0 => by
  obtain ⟨hx0, hi0, hd'⟩ := Q11 hd
  have hc0 : (decide ((i0 : Int) < ((List.length p0) : Int))) = true := by simp; omega
  rw [Q57]
  exact Qww p0 (fun r hr => Q182 p0 H x0 i0 v0_1 hx0 hi0 ho0_0 hc0 hr) _ (Q10m p0 H r0 (i0 + 1) (v0_1 ++ [(Q15 ([(Q0 Qa (Q1b x0.required)), (Q0 Qb (Q36 x0.selector)), (Q0 Qw (Qd x0.weight))]))]) hd' (by first | omega | (simp; omega)))
def Q19w (p0 : List NodeTerm) : Val := vL (p0.map NodeTerm.enc)
theorem Q1v8 (p0 : List NodeTerm) : Q19w p0 = ((Qc9 (Q57 p0 p0 0 []))) := by
  rw [Q14i]
  rfl
def Q1ry (p0 : List NodeTerm) : En := .call 127 [.sl (NodeTerm.rows p0)] []
def Q1oe (p0 : List NodeTerm) : Rs := .ret (.agg (Val.cells (Q19w p0))) []
def Q1mz (p0 : List NodeTerm) : Prop := LSm NodeTerm.sm p0
theorem Q1hh (p0 : List NodeTerm) (H : Q1mz p0) : (Qfx p0) ∧ True := by
  exact ⟨⟨Nat.le_trans H.1 (Nat.le_of_ble_eq_true rfl), fun x hx => (H.2 x hx).1, trivial⟩, trivial⟩
theorem Q1uc (p0 : List NodeTerm) (H : Q1mz p0) : Q7 G (Q1ry p0) (Q1oe p0) := by
 unfold Q1oe
 rw [Q1v8]
 have hl0 := Q10m p0 ((Q1hh p0 H).1) p0 0 [] (by simp) (by simp)
 obtain ⟨z0, zo0, hl0⟩ := hl0
 exact Q8 (fn := Ir.K30) rfl VOK.nil [hS 0 true (Val.Q9 (Q57 p0 p0 0 []) 5 rfl), hQ (Val.Q5 (Q57 p0 p0 0 [])).symm] [aV [(1, Val.rows (Q57 p0 p0 0 []))] hl0, aN (Qfd (Q57 p0 p0 0 []))] (by kernel_rfl)
def Q51 (p0 : List PodTerm) : List PodTerm → Nat → (List Val) → List Val
 | [], _i0, v0_1 =>
  v0_1
 | x0 :: r0, i0, v0_1 =>
  Q51 p0 r0 (i0 + 1) (v0_1 ++ [(Q15 ([(Q0 Q2l (Q1b x0.anti)), (Q0 Qa (Q1b x0.required)), (Q0 Qb (Q36 x0.selector)), (Q0 Ql (Qo x0.topology)), (Q0 Qw (Qd x0.weight))]))])
theorem Q155 (p0 : List PodTerm) : ∀ (l : List PodTerm) (i : Nat) (a : List Val), Q51 p0 l i a = a ++ l.map (fun x0 => (Q15 ([(Q0 Q2l (Q1b x0.anti)), (Q0 Qa (Q1b x0.required)), (Q0 Qb (Q36 x0.selector)), (Q0 Ql (Qo x0.topology)), (Q0 Qw (Qd x0.weight))])))
  | [], _, _ => by simp [Q51]
  | x :: r, i, a => by rw [Q51, Q155 p0 r]; simp
def Qyn (p0 : List PodTerm) (i0 : Nat) (v0_1 : List Val) : List PV :=
  [.sl (PodTerm.rows p0), .un, .bx 0 0, .ms 1 5 0 (List.length v0_1), .int .i64 (i0 : Int)] ++ nuns 48
def Qnf (_p0 : List PodTerm) (_i0 : Nat) (v0_1 : List Val) : List Ob :=
  [⟨5, 0, true, [.int .i64 0, .int .i64 0, .str eB, .ms 2 5 0 0, .ms 3 6 0 0]⟩, ⟨5, 0, true, (Val.rows v0_1).flatten⟩, ⟨5, 0, true, []⟩, ⟨6, 0, true, []⟩]
def Qii (p0 : List PodTerm) (i0 : Nat) (v0_1 : List Val) : En := .loop 0 Ir.Qml Ir.Q1k3 (Qyn p0 i0 v0_1) (Qnf p0 i0 v0_1)
def Qsv (_p0 : List PodTerm) (q0 : List Val) (z : Nat → PV) (_zo : Nat → List PV) : St :=
  ⟨[z 0, z 1, .bx 0 0, .ms 1 5 0 (List.length q0)] ++ zr z 4 49, [(0, ⟨5, 0, true, [.int .i64 0, .int .i64 0, .str eB, .ms 2 5 0 0, .ms 3 6 0 0]⟩), (1, ⟨5, 0, true, (Val.rows q0).flatten⟩), (2, ⟨5, 0, true, []⟩), (3, ⟨6, 0, true, []⟩)], 260⟩
theorem Q166 (p0 : List PodTerm) (i0 : Nat) (v0_1 : List Val) : VOK (Go.Pv.look (number 0 (Qnf p0 i0 v0_1))) [(1, Val.rows v0_1)] := (VOK.cons (show Seen _ _ from Q3g (ob := ⟨5, 0, true, (Val.rows v0_1).flatten⟩) (Val.Q9 v0_1 5 rfl)) VOK.nil)
def Qgs (p0 : List PodTerm) (e : En) (q : List Val) : Prop := ∃ z zo, Q7 G e (.st (.exit 0) (Qsv p0 q z zo))
theorem Qvj (p0 : List PodTerm) {e e' : En} (h : ∀ r, Q7 G e r → Q7 G e' r) : ∀ q, Qgs p0 e q → Qgs p0 e' q
  | _, ⟨z, zo, hz⟩ => ⟨z, zo, h _ hz⟩
def Qi7 (p0 : List PodTerm) : Prop := (List.length p0 ≤ 137438953472) ∧ (∀ x0 ∈ p0, Q190 x0.selector) ∧ True
def Qts (p0 : List PodTerm) (i0 : Nat) (_v0_1 : List Val) : List PV :=
  [.sl (PodTerm.rows p0), .un, .un, .un, .int .i64 (i0 : Int), .int .i64 (i0 : Int), .sl (PodTerm.rows p0), .int .i64 ((List.length p0) : Int), .bool false]
def Ql4 (_p0 : List PodTerm) (_i0 : Nat) (_v0_1 : List Val) : List (Nat × List PV) :=
  []
theorem Q18j (p0 : List PodTerm) (_H : Qi7 p0) (i0 : Nat) (v0_1 : List Val) (_ho0_0 : List.length v0_1 ≤ i0) (hc0 : (decide ((i0 : Int) < ((List.length p0) : Int))) = false) : Qgs p0 (Qii p0 i0 v0_1) v0_1 := by
 exact ⟨(envF (Qts p0 i0 v0_1)), (zoF (Ql4 p0 i0 v0_1)), Qg (Q166 p0 i0 v0_1) (x := ((.exit 0), Qsv p0 v0_1 (envF (Qts p0 i0 v0_1)) (zoF (Ql4 p0 i0 v0_1)))) [hP 2 (Qh (PodTerm.rows p0) (List.length p0) (PodTerm.Q5 p0)), hB 0 hc0] [] (by kernel_rfl)⟩
theorem Q17u (p0 : List PodTerm) (H : Qi7 p0) (x0 : PodTerm) (i0 : Nat) (v0_1 : List Val) (hx0 : p0[i0]? = some x0) (hi0 : i0 < List.length p0) (ho0_0 : List.length v0_1 ≤ i0) (hc0 : (decide ((i0 : Int) < ((List.length p0) : Int))) = true) {r : Rs} (hr : Q7 G (Qii p0 (i0 + 1) (v0_1 ++ [(Q15 ([(Q0 Q2l (Q1b x0.anti)), (Q0 Qa (Q1b x0.required)), (Q0 Qb (Q36 x0.selector)), (Q0 Ql (Qo x0.topology)), (Q0 Qw (Qd x0.weight))]))])) r) : Q7 G (Qii p0 i0 v0_1) r := by
 have hB0 := H.1
 exact Qk (Q166 p0 i0 v0_1) (y := (Qyn p0 (i0 + 1) (v0_1 ++ [(Q15 ([(Q0 Q2l (Q1b x0.anti)), (Q0 Qa (Q1b x0.required)), (Q0 Qb (Q36 x0.selector)), (Q0 Ql (Qo x0.topology)), (Q0 Qw (Qd x0.weight))]))]), Qnf p0 (i0 + 1) (v0_1 ++ [(Q15 ([(Q0 Q2l (Q1b x0.anti)), (Q0 Qa (Q1b x0.required)), (Q0 Qb (Q36 x0.selector)), (Q0 Ql (Qo x0.topology)), (Q0 Qw (Qd x0.weight))]))]))) [hP 2 (Qh (PodTerm.rows p0) (List.length p0) (PodTerm.Q5 p0)), hB 0 hc0, hP 3 (Q1j 5 (PodTerm.rows p0) i0 _ (PodTerm.Qc hx0) rfl), hP 6 (Q1j 5 (PodTerm.rows p0) i0 _ (PodTerm.Qc hx0) rfl), hP 6 (Q1j 5 (PodTerm.rows p0) i0 _ (PodTerm.Qc hx0) rfl), hP 6 (Q1j 5 (PodTerm.rows p0) i0 _ (PodTerm.Qc hx0) rfl), hP 6 (Q1j 5 (PodTerm.rows p0) i0 _ (PodTerm.Qc hx0) rfl), hV 7 [(2756, Val.rows (v0_1 ++ [(Q15 ([(Q0 Q2l (Q1b x0.anti)), (Q0 Qa (Q1b x0.required)), (Q0 Qb (Q36 x0.selector)), (Q0 Ql (Qo x0.topology)), (Q0 Qw (Qd x0.weight))]))]))] (Q3z 1 2692 2756 5 80 0 0 true (Val.rows v0_1) (Val.rows (v0_1 ++ [(Q15 ([(Q0 Q2l (Q1b x0.anti)), (Q0 Qa (Q1b x0.required)), (Q0 Qb (Q36 x0.selector)), (Q0 Ql (Qo x0.topology)), (Q0 Qw (Qd x0.weight))]))])) (Val.cells (Q15 ([(Q0 Q2l (Q1b x0.anti)), (Q0 Qa (Q1b x0.required)), (Q0 Qb (Q36 x0.selector)), (Q0 Ql (Qo x0.topology)), (Q0 Qw (Qd x0.weight))]))) (List.length v0_1) (List.length (v0_1 ++ [(Q15 ([(Q0 Q2l (Q1b x0.anti)), (Q0 Qa (Q1b x0.required)), (Q0 Qb (Q36 x0.selector)), (Q0 Ql (Qo x0.topology)), (Q0 Qw (Qd x0.weight))]))])) rfl (Val.Q5 v0_1).symm (Val.Q5 (v0_1 ++ [(Q15 ([(Q0 Q2l (Q1b x0.anti)), (Q0 Qa (Q1b x0.required)), (Q0 Qb (Q36 x0.selector)), (Q0 Ql (Qo x0.topology)), (Q0 Qw (Qd x0.weight))]))])).symm (Val.Q14 v0_1 (Q15 ([(Q0 Q2l (Q1b x0.anti)), (Q0 Qa (Q1b x0.required)), (Q0 Qb (Q36 x0.selector)), (Q0 Ql (Qo x0.topology)), (Q0 Qw (Qd x0.weight))]))) (Val.Qm v0_1) rfl (by omega)), hS 0 true (Val.Q9 (v0_1 ++ [(Q15 ([(Q0 Q2l (Q1b x0.anti)), (Q0 Qa (Q1b x0.required)), (Q0 Qb (Q36 x0.selector)), (Q0 Ql (Qo x0.topology)), (Q0 Qw (Qd x0.weight))]))]) 5 rfl), hP 2 (Q22 i0 (by omega))] [aN (Qfi x0.anti), aN (Q2e Q2l (Q1b x0.anti)), aN (Qfi x0.required), aN (Q2e Qa (Q1b x0.required)), aN (Q1hd x0.selector (H.2.1 x0 (Q2a hx0))), aN (Q2e Qb (Q36 x0.selector)), aN (Q9u x0.topology), aN (Q2e Ql (Qo x0.topology)), aN (Q5i x0.weight), aN (Q2e Qw (Qd x0.weight)), aN (Q49 (e' := .call 70 [.sl [(Fld.cells (Q0 Q2l (Q1b x0.anti))), (Fld.cells (Q0 Qa (Q1b x0.required))), (Fld.cells (Q0 Qb (Q36 x0.selector))), (Fld.cells (Q0 Ql (Qo x0.topology))), (Fld.cells (Q0 Qw (Qd x0.weight)))]] []) (Q9o ([(Q0 Q2l (Q1b x0.anti)), (Q0 Qa (Q1b x0.required)), (Q0 Qb (Q36 x0.selector)), (Q0 Ql (Qo x0.topology)), (Q0 Qw (Qd x0.weight))])) (by simp only [Q94, Fld.Q21, Fld.Q2m]))] (by kernel_rfl) hr
theorem Q11l (p0 : List PodTerm) (H : Qi7 p0) : ∀ (r0 : List PodTerm) (i0 : Nat) (v0_1 : List Val), List.drop i0 p0 = r0 → List.length v0_1 ≤ i0 → Qgs p0 (Qii p0 i0 v0_1) (Q51 p0 r0 i0 v0_1)
 | [], i0, v0_1, hd, ho0_0 => by
  have hc0 : (decide ((i0 : Int) < ((List.length p0) : Int))) = false := by have := Q19 hd; simp; omega
  rw [Q51]
  exact Q18j p0 H i0 v0_1 ho0_0 hc0
 | x0 :: r0, i0, v0_1, hd, ho0_0 => by
  obtain ⟨hx0, hi0, hd'⟩ := Q11 hd
  have hc0 : (decide ((i0 : Int) < ((List.length p0) : Int))) = true := by simp; omega
  rw [Q51]
  exact Qvj p0 (fun r hr => Q17u p0 H x0 i0 v0_1 hx0 hi0 ho0_0 hc0 hr) _ (Q11l p0 H r0 (i0 + 1) (v0_1 ++ [(Q15 ([(Q0 Q2l (Q1b x0.anti)), (Q0 Qa (Q1b x0.required)), (Q0 Qb (Q36 x0.selector)), (Q0 Ql (Qo x0.topology)), (Q0 Qw (Qd x0.weight))]))]) hd' (by first | omega | (simp; omega)))
def Q1a6 (p0 : List PodTerm) : Val := vL (p0.map PodTerm.enc)
theorem Q1t0 (p0 : List PodTerm) : Q1a6 p0 = ((Qc9 (Q51 p0 p0 0 []))) := by
  rw [Q155]
  rfl
def Q1ur (p0 : List PodTerm) : En := .call 128 [.sl (PodTerm.rows p0)] []
def Q1pp (p0 : List PodTerm) : Rs := .ret (.agg (Val.cells (Q1a6 p0))) []
def Q1mt (p0 : List PodTerm) : Prop := LSm PodTerm.sm p0
theorem Q1i7 (p0 : List PodTerm) (H : Q1mt p0) : (Qi7 p0) ∧ True := by
  exact ⟨⟨Nat.le_trans H.1 (Nat.le_of_ble_eq_true rfl), fun x hx => (H.2 x hx).1, trivial⟩, trivial⟩
theorem Q1uz (p0 : List PodTerm) (H : Q1mt p0) : Q7 G (Q1ur p0) (Q1pp p0) := by
 unfold Q1pp
 rw [Q1t0]
 have hl0 := Q11l p0 ((Q1i7 p0 H).1) p0 0 [] (by simp) (by simp)
 obtain ⟨z0, zo0, hl0⟩ := hl0
 exact Q8 (fn := Ir.K31) rfl VOK.nil [hS 0 true (Val.Q9 (Q51 p0 p0 0 []) 5 rfl), hQ (Val.Q5 (Q51 p0 p0 0 [])).symm] [aV [(1, Val.rows (Q51 p0 p0 0 []))] hl0, aN (Qfd (Q51 p0 p0 0 []))] (by kernel_rfl)
def Q4z (p0 : List SpreadRule) : List SpreadRule → Nat → (List Val) → List Val
 | [], _i0, v0_1 =>
  v0_1
 | x0 :: r0, i0, v0_1 =>
  Q4z p0 r0 (i0 + 1) (v0_1 ++ [(Q15 ([(Q0 Q1i (Qd x0.maxSkew)), (Q0 Qa (Q1b x0.required)), (Q0 Qb (Q36 x0.selector)), (Q0 Ql (Qo x0.topology))]))])
theorem Q14u (p0 : List SpreadRule) : ∀ (l : List SpreadRule) (i : Nat) (a : List Val), Q4z p0 l i a = a ++ l.map (fun x0 => (Q15 ([(Q0 Q1i (Qd x0.maxSkew)), (Q0 Qa (Q1b x0.required)), (Q0 Qb (Q36 x0.selector)), (Q0 Ql (Qo x0.topology))])))
  | [], _, _ => by simp [Q4z]
  | x :: r, i, a => by rw [Q4z, Q14u p0 r]; simp
def Qye (p0 : List SpreadRule) (i0 : Nat) (v0_1 : List Val) : List PV :=
  [.sl (SpreadRule.rows p0), .un, .bx 0 0, .ms 1 5 0 (List.length v0_1), .int .i64 (i0 : Int)] ++ nuns 41
def Qm9 (_p0 : List SpreadRule) (_i0 : Nat) (v0_1 : List Val) : List Ob :=
  [⟨5, 0, true, [.int .i64 0, .int .i64 0, .str eB, .ms 2 5 0 0, .ms 3 6 0 0]⟩, ⟨5, 0, true, (Val.rows v0_1).flatten⟩, ⟨5, 0, true, []⟩, ⟨6, 0, true, []⟩]
def Qi4 (p0 : List SpreadRule) (i0 : Nat) (v0_1 : List Val) : En := .loop 0 Ir.Qjg Ir.Q1iu (Qye p0 i0 v0_1) (Qm9 p0 i0 v0_1)
def Qtg (_p0 : List SpreadRule) (q0 : List Val) (z : Nat → PV) (_zo : Nat → List PV) : St :=
  ⟨[z 0, z 1, .bx 0 0, .ms 1 5 0 (List.length q0)] ++ zr z 4 42, [(0, ⟨5, 0, true, [.int .i64 0, .int .i64 0, .str eB, .ms 2 5 0 0, .ms 3 6 0 0]⟩), (1, ⟨5, 0, true, (Val.rows q0).flatten⟩), (2, ⟨5, 0, true, []⟩), (3, ⟨6, 0, true, []⟩)], 260⟩
theorem Q144 (p0 : List SpreadRule) (i0 : Nat) (v0_1 : List Val) : VOK (Go.Pv.look (number 0 (Qm9 p0 i0 v0_1))) [(1, Val.rows v0_1)] := (VOK.cons (show Seen _ _ from Q3g (ob := ⟨5, 0, true, (Val.rows v0_1).flatten⟩) (Val.Q9 v0_1 5 rfl)) VOK.nil)
def Qfq (p0 : List SpreadRule) (e : En) (q : List Val) : Prop := ∃ z zo, Q7 G e (.st (.exit 0) (Qtg p0 q z zo))
theorem Qv8 (p0 : List SpreadRule) {e e' : En} (h : ∀ r, Q7 G e r → Q7 G e' r) : ∀ q, Qfq p0 e q → Qfq p0 e' q
  | _, ⟨z, zo, hz⟩ => ⟨z, zo, h _ hz⟩
def Qgy (p0 : List SpreadRule) : Prop := (List.length p0 ≤ 137438953472) ∧ (∀ x0 ∈ p0, Q190 x0.selector) ∧ True
def Qqm (p0 : List SpreadRule) (i0 : Nat) (_v0_1 : List Val) : List PV :=
  [.sl (SpreadRule.rows p0), .un, .un, .un, .int .i64 (i0 : Int), .int .i64 (i0 : Int), .sl (SpreadRule.rows p0), .int .i64 ((List.length p0) : Int), .bool false]
def Qk8 (_p0 : List SpreadRule) (_i0 : Nat) (_v0_1 : List Val) : List (Nat × List PV) :=
  []
theorem Q1ao (p0 : List SpreadRule) (_H : Qgy p0) (i0 : Nat) (v0_1 : List Val) (_ho0_0 : List.length v0_1 ≤ i0) (hc0 : (decide ((i0 : Int) < ((List.length p0) : Int))) = false) : Qfq p0 (Qi4 p0 i0 v0_1) v0_1 := by
 exact ⟨(envF (Qqm p0 i0 v0_1)), (zoF (Qk8 p0 i0 v0_1)), Qg (Q144 p0 i0 v0_1) (x := ((.exit 0), Qtg p0 v0_1 (envF (Qqm p0 i0 v0_1)) (zoF (Qk8 p0 i0 v0_1)))) [hP 2 (Qh (SpreadRule.rows p0) (List.length p0) (SpreadRule.Q5 p0)), hB 0 hc0] [] (by kernel_rfl)⟩
theorem Q1b9 (p0 : List SpreadRule) (H : Qgy p0) (x0 : SpreadRule) (i0 : Nat) (v0_1 : List Val) (hx0 : p0[i0]? = some x0) (hi0 : i0 < List.length p0) (ho0_0 : List.length v0_1 ≤ i0) (hc0 : (decide ((i0 : Int) < ((List.length p0) : Int))) = true) {r : Rs} (hr : Q7 G (Qi4 p0 (i0 + 1) (v0_1 ++ [(Q15 ([(Q0 Q1i (Qd x0.maxSkew)), (Q0 Qa (Q1b x0.required)), (Q0 Qb (Q36 x0.selector)), (Q0 Ql (Qo x0.topology))]))])) r) : Q7 G (Qi4 p0 i0 v0_1) r := by
 have hB0 := H.1
 exact Qk (Q144 p0 i0 v0_1) (y := (Qye p0 (i0 + 1) (v0_1 ++ [(Q15 ([(Q0 Q1i (Qd x0.maxSkew)), (Q0 Qa (Q1b x0.required)), (Q0 Qb (Q36 x0.selector)), (Q0 Ql (Qo x0.topology))]))]), Qm9 p0 (i0 + 1) (v0_1 ++ [(Q15 ([(Q0 Q1i (Qd x0.maxSkew)), (Q0 Qa (Q1b x0.required)), (Q0 Qb (Q36 x0.selector)), (Q0 Ql (Qo x0.topology))]))]))) [hP 2 (Qh (SpreadRule.rows p0) (List.length p0) (SpreadRule.Q5 p0)), hB 0 hc0, hP 3 (Q1j 4 (SpreadRule.rows p0) i0 _ (SpreadRule.Qc hx0) rfl), hP 6 (Q1j 4 (SpreadRule.rows p0) i0 _ (SpreadRule.Qc hx0) rfl), hP 6 (Q1j 4 (SpreadRule.rows p0) i0 _ (SpreadRule.Qc hx0) rfl), hP 6 (Q1j 4 (SpreadRule.rows p0) i0 _ (SpreadRule.Qc hx0) rfl), hV 7 [(2308, Val.rows (v0_1 ++ [(Q15 ([(Q0 Q1i (Qd x0.maxSkew)), (Q0 Qa (Q1b x0.required)), (Q0 Qb (Q36 x0.selector)), (Q0 Ql (Qo x0.topology))]))]))] (Q3z 1 2244 2308 5 80 0 0 true (Val.rows v0_1) (Val.rows (v0_1 ++ [(Q15 ([(Q0 Q1i (Qd x0.maxSkew)), (Q0 Qa (Q1b x0.required)), (Q0 Qb (Q36 x0.selector)), (Q0 Ql (Qo x0.topology))]))])) (Val.cells (Q15 ([(Q0 Q1i (Qd x0.maxSkew)), (Q0 Qa (Q1b x0.required)), (Q0 Qb (Q36 x0.selector)), (Q0 Ql (Qo x0.topology))]))) (List.length v0_1) (List.length (v0_1 ++ [(Q15 ([(Q0 Q1i (Qd x0.maxSkew)), (Q0 Qa (Q1b x0.required)), (Q0 Qb (Q36 x0.selector)), (Q0 Ql (Qo x0.topology))]))])) rfl (Val.Q5 v0_1).symm (Val.Q5 (v0_1 ++ [(Q15 ([(Q0 Q1i (Qd x0.maxSkew)), (Q0 Qa (Q1b x0.required)), (Q0 Qb (Q36 x0.selector)), (Q0 Ql (Qo x0.topology))]))])).symm (Val.Q14 v0_1 (Q15 ([(Q0 Q1i (Qd x0.maxSkew)), (Q0 Qa (Q1b x0.required)), (Q0 Qb (Q36 x0.selector)), (Q0 Ql (Qo x0.topology))]))) (Val.Qm v0_1) rfl (by omega)), hS 0 true (Val.Q9 (v0_1 ++ [(Q15 ([(Q0 Q1i (Qd x0.maxSkew)), (Q0 Qa (Q1b x0.required)), (Q0 Qb (Q36 x0.selector)), (Q0 Ql (Qo x0.topology))]))]) 5 rfl), hP 2 (Q22 i0 (by omega))] [aN (Q5i x0.maxSkew), aN (Q2e Q1i (Qd x0.maxSkew)), aN (Qfi x0.required), aN (Q2e Qa (Q1b x0.required)), aN (Q1hd x0.selector (H.2.1 x0 (Q2a hx0))), aN (Q2e Qb (Q36 x0.selector)), aN (Q9u x0.topology), aN (Q2e Ql (Qo x0.topology)), aN (Q49 (e' := .call 70 [.sl [(Fld.cells (Q0 Q1i (Qd x0.maxSkew))), (Fld.cells (Q0 Qa (Q1b x0.required))), (Fld.cells (Q0 Qb (Q36 x0.selector))), (Fld.cells (Q0 Ql (Qo x0.topology)))]] []) (Q9o ([(Q0 Q1i (Qd x0.maxSkew)), (Q0 Qa (Q1b x0.required)), (Q0 Qb (Q36 x0.selector)), (Q0 Ql (Qo x0.topology))])) (by simp only [Q94, Fld.Q21, Fld.Q2m]))] (by kernel_rfl) hr
theorem Q10e (p0 : List SpreadRule) (H : Qgy p0) : ∀ (r0 : List SpreadRule) (i0 : Nat) (v0_1 : List Val), List.drop i0 p0 = r0 → List.length v0_1 ≤ i0 → Qfq p0 (Qi4 p0 i0 v0_1) (Q4z p0 r0 i0 v0_1)
 | [], i0, v0_1, hd, ho0_0 => by
  have hc0 : (decide ((i0 : Int) < ((List.length p0) : Int))) = false := by have := Q19 hd; simp; omega
  rw [Q4z]
  exact Q1ao p0 H i0 v0_1 ho0_0 hc0
 | x0 :: r0, i0, v0_1, hd, ho0_0 => by
  obtain ⟨hx0, hi0, hd'⟩ := Q11 hd
  have hc0 : (decide ((i0 : Int) < ((List.length p0) : Int))) = true := by simp; omega
  rw [Q4z]
  exact Qv8 p0 (fun r hr => Q1b9 p0 H x0 i0 v0_1 hx0 hi0 ho0_0 hc0 hr) _ (Q10e p0 H r0 (i0 + 1) (v0_1 ++ [(Q15 ([(Q0 Q1i (Qd x0.maxSkew)), (Q0 Qa (Q1b x0.required)), (Q0 Qb (Q36 x0.selector)), (Q0 Ql (Qo x0.topology))]))]) hd' (by first | omega | (simp; omega)))
def Q1c9 (p0 : List SpreadRule) : Val := vL (p0.map SpreadRule.enc)
theorem Q1rj (p0 : List SpreadRule) : Q1c9 p0 = ((Qc9 (Q4z p0 p0 0 []))) := by
  rw [Q14u]
  rfl
def Q1ss (p0 : List SpreadRule) : En := .call 129 [.sl (SpreadRule.rows p0)] []
def Q1ql (p0 : List SpreadRule) : Rs := .ret (.agg (Val.cells (Q1c9 p0))) []
def Q1lx (p0 : List SpreadRule) : Prop := LSm SpreadRule.sm p0
theorem Q1i1 (p0 : List SpreadRule) (H : Q1lx p0) : (Qgy p0) ∧ True := by
  exact ⟨⟨Nat.le_trans H.1 (Nat.le_of_ble_eq_true rfl), fun x hx => (H.2 x hx).1, trivial⟩, trivial⟩
theorem Q1st (p0 : List SpreadRule) (H : Q1lx p0) : Q7 G (Q1ss p0) (Q1ql p0) := by
 unfold Q1ql
 rw [Q1rj]
 have hl0 := Q10e p0 ((Q1i1 p0 H).1) p0 0 [] (by simp) (by simp)
 obtain ⟨z0, zo0, hl0⟩ := hl0
 exact Q8 (fn := Ir.K34) rfl VOK.nil [hS 0 true (Val.Q9 (Q4z p0 p0 0 []) 5 rfl), hQ (Val.Q5 (Q4z p0 p0 0 [])).symm] [aV [(1, Val.rows (Q4z p0 p0 0 []))] hl0, aN (Qfd (Q4z p0 p0 0 []))] (by kernel_rfl)
def Q4w (p0 : List Toleration) : List Toleration → Nat → (List Val) → List Val
 | [], _i0, v0_1 =>
  v0_1
 | x0 :: r0, i0, v0_1 =>
  Q4w p0 r0 (i0 + 1) (v0_1 ++ [(Q15 ([(Q0 Qu (Qd x0.effect)), (Q0 Q1v (Q1b x0.exists_)), (Q0 Qs (Qo x0.key)), (Q0 Q1r (Qd x0.seconds)), (Q0 Qn (Qo x0.value))]))])
theorem Q14p (p0 : List Toleration) : ∀ (l : List Toleration) (i : Nat) (a : List Val), Q4w p0 l i a = a ++ l.map (fun x0 => (Q15 ([(Q0 Qu (Qd x0.effect)), (Q0 Q1v (Q1b x0.exists_)), (Q0 Qs (Qo x0.key)), (Q0 Q1r (Qd x0.seconds)), (Q0 Qn (Qo x0.value))])))
  | [], _, _ => by simp [Q4w]
  | x :: r, i, a => by rw [Q4w, Q14p p0 r]; simp
def Qy4 (p0 : List Toleration) (i0 : Nat) (v0_1 : List Val) : List PV :=
  [.sl (Toleration.rows p0), .un, .bx 0 0, .ms 1 5 0 (List.length v0_1), .int .i64 (i0 : Int)] ++ nuns 48
def Qlp (_p0 : List Toleration) (_i0 : Nat) (v0_1 : List Val) : List Ob :=
  [⟨5, 0, true, [.int .i64 0, .int .i64 0, .str eB, .ms 2 5 0 0, .ms 3 6 0 0]⟩, ⟨5, 0, true, (Val.rows v0_1).flatten⟩, ⟨5, 0, true, []⟩, ⟨6, 0, true, []⟩]
def Qht (p0 : List Toleration) (i0 : Nat) (v0_1 : List Val) : En := .loop 0 Ir.Qn7 Ir.Q1j1 (Qy4 p0 i0 v0_1) (Qlp p0 i0 v0_1)
def Qqs (_p0 : List Toleration) (q0 : List Val) (z : Nat → PV) (_zo : Nat → List PV) : St :=
  ⟨[z 0, z 1, .bx 0 0, .ms 1 5 0 (List.length q0)] ++ zr z 4 49, [(0, ⟨5, 0, true, [.int .i64 0, .int .i64 0, .str eB, .ms 2 5 0 0, .ms 3 6 0 0]⟩), (1, ⟨5, 0, true, (Val.rows q0).flatten⟩), (2, ⟨5, 0, true, []⟩), (3, ⟨6, 0, true, []⟩)], 260⟩
theorem Q14h (p0 : List Toleration) (i0 : Nat) (v0_1 : List Val) : VOK (Go.Pv.look (number 0 (Qlp p0 i0 v0_1))) [(1, Val.rows v0_1)] := (VOK.cons (show Seen _ _ from Q3g (ob := ⟨5, 0, true, (Val.rows v0_1).flatten⟩) (Val.Q9 v0_1 5 rfl)) VOK.nil)
def Qgw (p0 : List Toleration) (e : En) (q : List Val) : Prop := ∃ z zo, Q7 G e (.st (.exit 0) (Qqs p0 q z zo))
theorem Qui (p0 : List Toleration) {e e' : En} (h : ∀ r, Q7 G e r → Q7 G e' r) : ∀ q, Qgw p0 e q → Qgw p0 e' q
  | _, ⟨z, zo, hz⟩ => ⟨z, zo, h _ hz⟩
def Qhf (p0 : List Toleration) : Prop := (List.length p0 ≤ 137438953472) ∧ True
def Qtf (p0 : List Toleration) (i0 : Nat) (_v0_1 : List Val) : List PV :=
  [.sl (Toleration.rows p0), .un, .un, .un, .int .i64 (i0 : Int), .int .i64 (i0 : Int), .sl (Toleration.rows p0), .int .i64 ((List.length p0) : Int), .bool false]
def Qnk (_p0 : List Toleration) (_i0 : Nat) (_v0_1 : List Val) : List (Nat × List PV) :=
  []
theorem Q1a8 (p0 : List Toleration) (_H : Qhf p0) (i0 : Nat) (v0_1 : List Val) (_ho0_0 : List.length v0_1 ≤ i0) (hc0 : (decide ((i0 : Int) < ((List.length p0) : Int))) = false) : Qgw p0 (Qht p0 i0 v0_1) v0_1 := by
 exact ⟨(envF (Qtf p0 i0 v0_1)), (zoF (Qnk p0 i0 v0_1)), Qg (Q14h p0 i0 v0_1) (x := ((.exit 0), Qqs p0 v0_1 (envF (Qtf p0 i0 v0_1)) (zoF (Qnk p0 i0 v0_1)))) [hP 2 (Qh (Toleration.rows p0) (List.length p0) (Toleration.Q5 p0)), hB 0 hc0] [] (by kernel_rfl)⟩
theorem Q18y (p0 : List Toleration) (H : Qhf p0) (x0 : Toleration) (i0 : Nat) (v0_1 : List Val) (hx0 : p0[i0]? = some x0) (hi0 : i0 < List.length p0) (ho0_0 : List.length v0_1 ≤ i0) (hc0 : (decide ((i0 : Int) < ((List.length p0) : Int))) = true) {r : Rs} (hr : Q7 G (Qht p0 (i0 + 1) (v0_1 ++ [(Q15 ([(Q0 Qu (Qd x0.effect)), (Q0 Q1v (Q1b x0.exists_)), (Q0 Qs (Qo x0.key)), (Q0 Q1r (Qd x0.seconds)), (Q0 Qn (Qo x0.value))]))])) r) : Q7 G (Qht p0 i0 v0_1) r := by
 have hB0 := H.1
 exact Qk (Q14h p0 i0 v0_1) (y := (Qy4 p0 (i0 + 1) (v0_1 ++ [(Q15 ([(Q0 Qu (Qd x0.effect)), (Q0 Q1v (Q1b x0.exists_)), (Q0 Qs (Qo x0.key)), (Q0 Q1r (Qd x0.seconds)), (Q0 Qn (Qo x0.value))]))]), Qlp p0 (i0 + 1) (v0_1 ++ [(Q15 ([(Q0 Qu (Qd x0.effect)), (Q0 Q1v (Q1b x0.exists_)), (Q0 Qs (Qo x0.key)), (Q0 Q1r (Qd x0.seconds)), (Q0 Qn (Qo x0.value))]))]))) [hP 2 (Qh (Toleration.rows p0) (List.length p0) (Toleration.Q5 p0)), hB 0 hc0, hP 3 (Q1j 5 (Toleration.rows p0) i0 _ (Toleration.Qc hx0) rfl), hP 6 (Q1j 5 (Toleration.rows p0) i0 _ (Toleration.Qc hx0) rfl), hP 6 (Q1j 5 (Toleration.rows p0) i0 _ (Toleration.Qc hx0) rfl), hP 6 (Q1j 5 (Toleration.rows p0) i0 _ (Toleration.Qc hx0) rfl), hP 6 (Q1j 5 (Toleration.rows p0) i0 _ (Toleration.Qc hx0) rfl), hV 7 [(2756, Val.rows (v0_1 ++ [(Q15 ([(Q0 Qu (Qd x0.effect)), (Q0 Q1v (Q1b x0.exists_)), (Q0 Qs (Qo x0.key)), (Q0 Q1r (Qd x0.seconds)), (Q0 Qn (Qo x0.value))]))]))] (Q3z 1 2692 2756 5 80 0 0 true (Val.rows v0_1) (Val.rows (v0_1 ++ [(Q15 ([(Q0 Qu (Qd x0.effect)), (Q0 Q1v (Q1b x0.exists_)), (Q0 Qs (Qo x0.key)), (Q0 Q1r (Qd x0.seconds)), (Q0 Qn (Qo x0.value))]))])) (Val.cells (Q15 ([(Q0 Qu (Qd x0.effect)), (Q0 Q1v (Q1b x0.exists_)), (Q0 Qs (Qo x0.key)), (Q0 Q1r (Qd x0.seconds)), (Q0 Qn (Qo x0.value))]))) (List.length v0_1) (List.length (v0_1 ++ [(Q15 ([(Q0 Qu (Qd x0.effect)), (Q0 Q1v (Q1b x0.exists_)), (Q0 Qs (Qo x0.key)), (Q0 Q1r (Qd x0.seconds)), (Q0 Qn (Qo x0.value))]))])) rfl (Val.Q5 v0_1).symm (Val.Q5 (v0_1 ++ [(Q15 ([(Q0 Qu (Qd x0.effect)), (Q0 Q1v (Q1b x0.exists_)), (Q0 Qs (Qo x0.key)), (Q0 Q1r (Qd x0.seconds)), (Q0 Qn (Qo x0.value))]))])).symm (Val.Q14 v0_1 (Q15 ([(Q0 Qu (Qd x0.effect)), (Q0 Q1v (Q1b x0.exists_)), (Q0 Qs (Qo x0.key)), (Q0 Q1r (Qd x0.seconds)), (Q0 Qn (Qo x0.value))]))) (Val.Qm v0_1) rfl (by omega)), hS 0 true (Val.Q9 (v0_1 ++ [(Q15 ([(Q0 Qu (Qd x0.effect)), (Q0 Q1v (Q1b x0.exists_)), (Q0 Qs (Qo x0.key)), (Q0 Q1r (Qd x0.seconds)), (Q0 Qn (Qo x0.value))]))]) 5 rfl), hP 2 (Q22 i0 (by omega))] [aN (Q5i x0.effect), aN (Q2e Qu (Qd x0.effect)), aN (Qfi x0.exists_), aN (Q2e Q1v (Q1b x0.exists_)), aN (Q9u x0.key), aN (Q2e Qs (Qo x0.key)), aN (Q5i x0.seconds), aN (Q2e Q1r (Qd x0.seconds)), aN (Q9u x0.value), aN (Q2e Qn (Qo x0.value)), aN (Q49 (e' := .call 70 [.sl [(Fld.cells (Q0 Qu (Qd x0.effect))), (Fld.cells (Q0 Q1v (Q1b x0.exists_))), (Fld.cells (Q0 Qs (Qo x0.key))), (Fld.cells (Q0 Q1r (Qd x0.seconds))), (Fld.cells (Q0 Qn (Qo x0.value)))]] []) (Q9o ([(Q0 Qu (Qd x0.effect)), (Q0 Q1v (Q1b x0.exists_)), (Q0 Qs (Qo x0.key)), (Q0 Q1r (Qd x0.seconds)), (Q0 Qn (Qo x0.value))])) (by simp only [Q94, Fld.Q21, Fld.Q2m]))] (by kernel_rfl) hr
theorem Q10h (p0 : List Toleration) (H : Qhf p0) : ∀ (r0 : List Toleration) (i0 : Nat) (v0_1 : List Val), List.drop i0 p0 = r0 → List.length v0_1 ≤ i0 → Qgw p0 (Qht p0 i0 v0_1) (Q4w p0 r0 i0 v0_1)
 | [], i0, v0_1, hd, ho0_0 => by
  have hc0 : (decide ((i0 : Int) < ((List.length p0) : Int))) = false := by have := Q19 hd; simp; omega
  rw [Q4w]
  exact Q1a8 p0 H i0 v0_1 ho0_0 hc0
 | x0 :: r0, i0, v0_1, hd, ho0_0 => by
  obtain ⟨hx0, hi0, hd'⟩ := Q11 hd
  have hc0 : (decide ((i0 : Int) < ((List.length p0) : Int))) = true := by simp; omega
  rw [Q4w]
  exact Qui p0 (fun r hr => Q18y p0 H x0 i0 v0_1 hx0 hi0 ho0_0 hc0 hr) _ (Q10h p0 H r0 (i0 + 1) (v0_1 ++ [(Q15 ([(Q0 Qu (Qd x0.effect)), (Q0 Q1v (Q1b x0.exists_)), (Q0 Qs (Qo x0.key)), (Q0 Q1r (Qd x0.seconds)), (Q0 Qn (Qo x0.value))]))]) hd' (by first | omega | (simp; omega)))
def Q1bk (p0 : List Toleration) : Val := vL (p0.map Toleration.enc)
theorem Q1rl (p0 : List Toleration) : Q1bk p0 = ((Qc9 (Q4w p0 p0 0 []))) := by
  rw [Q14p]
  rfl
def Q1s2 (p0 : List Toleration) : En := .call 130 [.sl (Toleration.rows p0)] []
def Q1pn (p0 : List Toleration) : Rs := .ret (.agg (Val.cells (Q1bk p0))) []
def Q1ls (p0 : List Toleration) : Prop := LSm Toleration.sm p0
theorem Q1gr (p0 : List Toleration) (H : Q1ls p0) : (Qhf p0) ∧ True := by
  exact ⟨⟨Nat.le_trans H.1 (Nat.le_of_ble_eq_true rfl), trivial⟩, trivial⟩
theorem Q1vp (p0 : List Toleration) (H : Q1ls p0) : Q7 G (Q1s2 p0) (Q1pn p0) := by
 unfold Q1pn
 rw [Q1rl]
 have hl0 := Q10h p0 ((Q1gr p0 H).1) p0 0 [] (by simp) (by simp)
 obtain ⟨z0, zo0, hl0⟩ := hl0
 exact Q8 (fn := Ir.K38) rfl VOK.nil [hS 0 true (Val.Q9 (Q4w p0 p0 0 []) 5 rfl), hQ (Val.Q5 (Q4w p0 p0 0 [])).symm] [aV [(1, Val.rows (Q4w p0 p0 0 []))] hl0, aN (Qfd (Q4w p0 p0 0 []))] (by kernel_rfl)
def Q12x (p0 : PodSpec) : Val := PodSpec.enc p0
theorem Q1x8 (p0 : PodSpec) : Q12x p0 = ((Q15 ([(Q0 Qt (Q1b3 p0.containers)), (Q0 Q3j (Qd p0.grace)), (Q0 Q3e (Qo p0.node)), (Q0 Q12 (Q36 p0.nodeSelector)), (Q0 Q1n (Q19w p0.nodeTerms)), (Q0 Q28 (Q1a6 p0.podTerms)), (Q0 Q23 (Qd p0.priority)), (Q0 Q2j (Qd p0.restart)), (Q0 Q30 (Q1c9 p0.spread)), (Q0 Q1x (Q1bk p0.tolerations))]))) := by
  rfl
def Q1sn (p0 : PodSpec) : En := .call 59 [.agg (PodSpec.cells p0)] []
def Q1ps (p0 : PodSpec) : Rs := .ret (.agg (Val.cells (Q12x p0))) []
def Q1gu (p0 : PodSpec) : Prop := PodSpec.sm p0
theorem Qa6 (p0 : PodSpec) (H : Q1gu p0) : (Q1l1 p0.containers) ∧ (Q190 p0.nodeSelector) ∧ (Q1mz p0.nodeTerms) ∧ (Q1mt p0.podTerms) ∧ (Q1lx p0.spread) ∧ (Q1ls p0.tolerations) ∧ True := by
  repeat' with_reducible apply And.intro
  all_goals first | exact True.intro | exact H | exact H.1 | exact H.2.1 | exact H.2.2.1 | exact H.2.2.2.1 | exact H.2.2.2.2.1 | exact H.2.2.2.2.2.1 | exact H.2.2.2.2.2.2.1 | exact H.2.2.2.2.2.2.2.1 | exact H.2.2.2.2.2.2.2.2.1 | exact H.2.2.2.2.2.2.2.2.2.1 | exact H.2.2.2.2.2.2.2.2.2.2.1
theorem Q1qo (p0 : PodSpec) (H : Q1gu p0) : Q7 G (Q1sn p0) (Q1ps p0) := by
 unfold Q1ps
 rw [Q1x8]
 exact Q8 (fn := Ir.K2d) rfl VOK.nil [] [aN (Q1tw p0.containers (Qa6 p0 H).1), aN (Q2e Qt (Q1b3 p0.containers)), aN (Q5i p0.grace), aN (Q2e Q3j (Qd p0.grace)), aN (Q9u p0.node), aN (Q2e Q3e (Qo p0.node)), aN (Q1hd p0.nodeSelector (Qa6 p0 H).2.1), aN (Q2e Q12 (Q36 p0.nodeSelector)), aN (Q1uc p0.nodeTerms (Qa6 p0 H).2.2.1), aN (Q2e Q1n (Q19w p0.nodeTerms)), aN (Q1uz p0.podTerms (Qa6 p0 H).2.2.2.1), aN (Q2e Q28 (Q1a6 p0.podTerms)), aN (Q5i p0.priority), aN (Q2e Q23 (Qd p0.priority)), aN (Q5i p0.restart), aN (Q2e Q2j (Qd p0.restart)), aN (Q1st p0.spread (Qa6 p0 H).2.2.2.2.1), aN (Q2e Q30 (Q1c9 p0.spread)), aN (Q1vp p0.tolerations (Qa6 p0 H).2.2.2.2.2.1), aN (Q2e Q1x (Q1bk p0.tolerations)), aN (Q49 (e' := .call 70 [.sl [(Fld.cells (Q0 Qt (Q1b3 p0.containers))), (Fld.cells (Q0 Q3j (Qd p0.grace))), (Fld.cells (Q0 Q3e (Qo p0.node))), (Fld.cells (Q0 Q12 (Q36 p0.nodeSelector))), (Fld.cells (Q0 Q1n (Q19w p0.nodeTerms))), (Fld.cells (Q0 Q28 (Q1a6 p0.podTerms))), (Fld.cells (Q0 Q23 (Qd p0.priority))), (Fld.cells (Q0 Q2j (Qd p0.restart))), (Fld.cells (Q0 Q30 (Q1c9 p0.spread))), (Fld.cells (Q0 Q1x (Q1bk p0.tolerations)))]] []) (Q9o ([(Q0 Qt (Q1b3 p0.containers)), (Q0 Q3j (Qd p0.grace)), (Q0 Q3e (Qo p0.node)), (Q0 Q12 (Q36 p0.nodeSelector)), (Q0 Q1n (Q19w p0.nodeTerms)), (Q0 Q28 (Q1a6 p0.podTerms)), (Q0 Q23 (Qd p0.priority)), (Q0 Q2j (Qd p0.restart)), (Q0 Q30 (Q1c9 p0.spread)), (Q0 Q1x (Q1bk p0.tolerations))])) (by simp only [Q94, Fld.Q21, Fld.Q2m]))] (by kernel_rfl)
def Q12d (p0 : Template) : Val := Template.enc p0
theorem Q1sp (p0 : Template) : Q12d p0 = ((Q15 ([(Q0 Q1s (Q19j p0.labels)), (Q0 Q2r (Q12x p0.spec))]))) := by
  rfl
def Q1xw (p0 : Template) : En := .call 29 [.agg (Template.cells p0)] []
def Q1or (p0 : Template) : Rs := .ret (.agg (Val.cells (Q12d p0))) []
def Q1gn (p0 : Template) : Prop := Template.sm p0
theorem Q15k (p0 : Template) (H : Q1gn p0) : (Q1mc p0.labels) ∧ (Q1gu p0.spec) ∧ True := by
  repeat' with_reducible apply And.intro
  all_goals first | exact True.intro | exact H | exact H.1 | exact H.2.1 | exact H.2.2.1 | exact H.2.2.2.1 | exact H.2.2.2.2.1 | exact H.2.2.2.2.2.1 | exact H.2.2.2.2.2.2.1 | exact H.2.2.2.2.2.2.2.1 | exact H.2.2.2.2.2.2.2.2.1 | exact H.2.2.2.2.2.2.2.2.2.1 | exact H.2.2.2.2.2.2.2.2.2.2.1
theorem Q1pk (p0 : Template) (H : Q1gn p0) : Q7 G (Q1xw p0) (Q1or p0) := by
 unfold Q1or
 rw [Q1sp]
 exact Q8 (fn := Ir.K2f) rfl VOK.nil [] [aN (Q1vw p0.labels (Q15k p0 H).1), aN (Q2e Q1s (Q19j p0.labels)), aN (Q1qo p0.spec (Q15k p0 H).2.1), aN (Q2e Q2r (Q12x p0.spec)), aN (Q49 (e' := .call 70 [.sl [(Fld.cells (Q0 Q1s (Q19j p0.labels))), (Fld.cells (Q0 Q2r (Q12x p0.spec)))]] []) (Q9o ([(Q0 Q1s (Q19j p0.labels)), (Q0 Q2r (Q12x p0.spec))])) (by simp only [Q94, Fld.Q21, Fld.Q2m]))] (by kernel_rfl)
def Q4y (p0 : List ContainerStatus) : List ContainerStatus → Nat → (List Val) → List Val
 | [], _i0, v0_1 =>
  v0_1
 | x0 :: r0, i0, v0_1 =>
  Q4y p0 r0 (i0 + 1) (v0_1 ++ [(Q15 ([(Q0 Q18 (Qd x0.exitCode)), (Q0 Qp (Qo x0.name)), (Q0 Qi (Q1b x0.ready)), (Q0 Q16 (Qd x0.restarts)), (Q0 Q10 (Qd x0.since)), (Q0 Qx (Q1b x0.started)), (Q0 Q1w (Qd x0.state))]))])
theorem Q14w (p0 : List ContainerStatus) : ∀ (l : List ContainerStatus) (i : Nat) (a : List Val), Q4y p0 l i a = a ++ l.map (fun x0 => (Q15 ([(Q0 Q18 (Qd x0.exitCode)), (Q0 Qp (Qo x0.name)), (Q0 Qi (Q1b x0.ready)), (Q0 Q16 (Qd x0.restarts)), (Q0 Q10 (Qd x0.since)), (Q0 Qx (Q1b x0.started)), (Q0 Q1w (Qd x0.state))])))
  | [], _, _ => by simp [Q4y]
  | x :: r, i, a => by rw [Q4y, Q14w p0 r]; simp
def Qyz (p0 : List ContainerStatus) (i0 : Nat) (v0_1 : List Val) : List PV :=
  [.sl (ContainerStatus.rows p0), .un, .bx 0 0, .ms 1 5 0 (List.length v0_1), .int .i64 (i0 : Int)] ++ nuns 46
def Qop (_p0 : List ContainerStatus) (_i0 : Nat) (v0_1 : List Val) : List Ob :=
  [⟨5, 0, true, [.int .i64 0, .int .i64 0, .str eB, .ms 2 5 0 0, .ms 3 6 0 0]⟩, ⟨5, 0, true, (Val.rows v0_1).flatten⟩, ⟨5, 0, true, []⟩, ⟨6, 0, true, []⟩]
def Qhn (p0 : List ContainerStatus) (i0 : Nat) (v0_1 : List Val) : En := .loop 0 Ir.Qkq Ir.Q1iv (Qyz p0 i0 v0_1) (Qop p0 i0 v0_1)
def Qss (_p0 : List ContainerStatus) (q0 : List Val) (z : Nat → PV) (_zo : Nat → List PV) : St :=
  ⟨[z 0, z 1, .bx 0 0, .ms 1 5 0 (List.length q0)] ++ zr z 4 47, [(0, ⟨5, 0, true, [.int .i64 0, .int .i64 0, .str eB, .ms 2 5 0 0, .ms 3 6 0 0]⟩), (1, ⟨5, 0, true, (Val.rows q0).flatten⟩), (2, ⟨5, 0, true, []⟩), (3, ⟨6, 0, true, []⟩)], 260⟩
theorem Q16a (p0 : List ContainerStatus) (i0 : Nat) (v0_1 : List Val) : VOK (Go.Pv.look (number 0 (Qop p0 i0 v0_1))) [(1, Val.rows v0_1)] := (VOK.cons (show Seen _ _ from Q3g (ob := ⟨5, 0, true, (Val.rows v0_1).flatten⟩) (Val.Q9 v0_1 5 rfl)) VOK.nil)
def Qhj (p0 : List ContainerStatus) (e : En) (q : List Val) : Prop := ∃ z zo, Q7 G e (.st (.exit 0) (Qss p0 q z zo))
theorem Quc (p0 : List ContainerStatus) {e e' : En} (h : ∀ r, Q7 G e r → Q7 G e' r) : ∀ q, Qhj p0 e q → Qhj p0 e' q
  | _, ⟨z, zo, hz⟩ => ⟨z, zo, h _ hz⟩
def Qhi (p0 : List ContainerStatus) : Prop := (List.length p0 ≤ 137438953472) ∧ True
def Qrm (p0 : List ContainerStatus) (i0 : Nat) (_v0_1 : List Val) : List PV :=
  [.sl (ContainerStatus.rows p0), .un, .un, .un, .int .i64 (i0 : Int), .un, .int .i64 (i0 : Int), .sl (ContainerStatus.rows p0), .int .i64 ((List.length p0) : Int), .bool false]
def Qkr (_p0 : List ContainerStatus) (_i0 : Nat) (_v0_1 : List Val) : List (Nat × List PV) :=
  []
theorem Q1bs (p0 : List ContainerStatus) (_H : Qhi p0) (i0 : Nat) (v0_1 : List Val) (_ho0_0 : List.length v0_1 ≤ i0) (hc0 : (decide ((i0 : Int) < ((List.length p0) : Int))) = false) : Qhj p0 (Qhn p0 i0 v0_1) v0_1 := by
 exact ⟨(envF (Qrm p0 i0 v0_1)), (zoF (Qkr p0 i0 v0_1)), Qg (Q16a p0 i0 v0_1) (x := ((.exit 0), Qss p0 v0_1 (envF (Qrm p0 i0 v0_1)) (zoF (Qkr p0 i0 v0_1)))) [hP 2 (Qh (ContainerStatus.rows p0) (List.length p0) (ContainerStatus.Q5 p0)), hB 0 hc0] [] (by kernel_rfl)⟩
theorem Q18w (p0 : List ContainerStatus) (H : Qhi p0) (x0 : ContainerStatus) (i0 : Nat) (v0_1 : List Val) (hx0 : p0[i0]? = some x0) (hi0 : i0 < List.length p0) (ho0_0 : List.length v0_1 ≤ i0) (hc0 : (decide ((i0 : Int) < ((List.length p0) : Int))) = true) {r : Rs} (hr : Q7 G (Qhn p0 (i0 + 1) (v0_1 ++ [(Q15 ([(Q0 Q18 (Qd x0.exitCode)), (Q0 Qp (Qo x0.name)), (Q0 Qi (Q1b x0.ready)), (Q0 Q16 (Qd x0.restarts)), (Q0 Q10 (Qd x0.since)), (Q0 Qx (Q1b x0.started)), (Q0 Q1w (Qd x0.state))]))])) r) : Q7 G (Qhn p0 i0 v0_1) r := by
 have hB0 := H.1
 exact Qk (Q16a p0 i0 v0_1) (y := (Qyz p0 (i0 + 1) (v0_1 ++ [(Q15 ([(Q0 Q18 (Qd x0.exitCode)), (Q0 Qp (Qo x0.name)), (Q0 Qi (Q1b x0.ready)), (Q0 Q16 (Qd x0.restarts)), (Q0 Q10 (Qd x0.since)), (Q0 Qx (Q1b x0.started)), (Q0 Q1w (Qd x0.state))]))]), Qop p0 (i0 + 1) (v0_1 ++ [(Q15 ([(Q0 Q18 (Qd x0.exitCode)), (Q0 Qp (Qo x0.name)), (Q0 Qi (Q1b x0.ready)), (Q0 Q16 (Qd x0.restarts)), (Q0 Q10 (Qd x0.since)), (Q0 Qx (Q1b x0.started)), (Q0 Q1w (Qd x0.state))]))]))) [hP 2 (Qh (ContainerStatus.rows p0) (List.length p0) (ContainerStatus.Q5 p0)), hB 0 hc0, hP 2 (Q1j 7 (ContainerStatus.rows p0) i0 _ (ContainerStatus.Qc hx0) rfl), hV 35 [(2692, Val.rows (v0_1 ++ [(Q15 ([(Q0 Q18 (Qd x0.exitCode)), (Q0 Qp (Qo x0.name)), (Q0 Qi (Q1b x0.ready)), (Q0 Q16 (Qd x0.restarts)), (Q0 Q10 (Qd x0.since)), (Q0 Qx (Q1b x0.started)), (Q0 Q1w (Qd x0.state))]))]))] (Q3z 1 2628 2692 5 80 0 0 true (Val.rows v0_1) (Val.rows (v0_1 ++ [(Q15 ([(Q0 Q18 (Qd x0.exitCode)), (Q0 Qp (Qo x0.name)), (Q0 Qi (Q1b x0.ready)), (Q0 Q16 (Qd x0.restarts)), (Q0 Q10 (Qd x0.since)), (Q0 Qx (Q1b x0.started)), (Q0 Q1w (Qd x0.state))]))])) (Val.cells (Q15 ([(Q0 Q18 (Qd x0.exitCode)), (Q0 Qp (Qo x0.name)), (Q0 Qi (Q1b x0.ready)), (Q0 Q16 (Qd x0.restarts)), (Q0 Q10 (Qd x0.since)), (Q0 Qx (Q1b x0.started)), (Q0 Q1w (Qd x0.state))]))) (List.length v0_1) (List.length (v0_1 ++ [(Q15 ([(Q0 Q18 (Qd x0.exitCode)), (Q0 Qp (Qo x0.name)), (Q0 Qi (Q1b x0.ready)), (Q0 Q16 (Qd x0.restarts)), (Q0 Q10 (Qd x0.since)), (Q0 Qx (Q1b x0.started)), (Q0 Q1w (Qd x0.state))]))])) rfl (Val.Q5 v0_1).symm (Val.Q5 (v0_1 ++ [(Q15 ([(Q0 Q18 (Qd x0.exitCode)), (Q0 Qp (Qo x0.name)), (Q0 Qi (Q1b x0.ready)), (Q0 Q16 (Qd x0.restarts)), (Q0 Q10 (Qd x0.since)), (Q0 Qx (Q1b x0.started)), (Q0 Q1w (Qd x0.state))]))])).symm (Val.Q14 v0_1 (Q15 ([(Q0 Q18 (Qd x0.exitCode)), (Q0 Qp (Qo x0.name)), (Q0 Qi (Q1b x0.ready)), (Q0 Q16 (Qd x0.restarts)), (Q0 Q10 (Qd x0.since)), (Q0 Qx (Q1b x0.started)), (Q0 Q1w (Qd x0.state))]))) (Val.Qm v0_1) rfl (by omega)), hS 0 true (Val.Q9 (v0_1 ++ [(Q15 ([(Q0 Q18 (Qd x0.exitCode)), (Q0 Qp (Qo x0.name)), (Q0 Qi (Q1b x0.ready)), (Q0 Q16 (Qd x0.restarts)), (Q0 Q10 (Qd x0.since)), (Q0 Qx (Q1b x0.started)), (Q0 Q1w (Qd x0.state))]))]) 5 rfl), hP 2 (Q22 i0 (by omega))] [aN (Q5i x0.exitCode), aN (Q2e Q18 (Qd x0.exitCode)), aN (Q9u x0.name), aN (Q2e Qp (Qo x0.name)), aN (Qfi x0.ready), aN (Q2e Qi (Q1b x0.ready)), aN (Q5i x0.restarts), aN (Q2e Q16 (Qd x0.restarts)), aN (Q5i x0.since), aN (Q2e Q10 (Qd x0.since)), aN (Qfi x0.started), aN (Q2e Qx (Q1b x0.started)), aN (Q5i x0.state), aN (Q2e Q1w (Qd x0.state)), aN (Q49 (e' := .call 70 [.sl [(Fld.cells (Q0 Q18 (Qd x0.exitCode))), (Fld.cells (Q0 Qp (Qo x0.name))), (Fld.cells (Q0 Qi (Q1b x0.ready))), (Fld.cells (Q0 Q16 (Qd x0.restarts))), (Fld.cells (Q0 Q10 (Qd x0.since))), (Fld.cells (Q0 Qx (Q1b x0.started))), (Fld.cells (Q0 Q1w (Qd x0.state)))]] []) (Q9o ([(Q0 Q18 (Qd x0.exitCode)), (Q0 Qp (Qo x0.name)), (Q0 Qi (Q1b x0.ready)), (Q0 Q16 (Qd x0.restarts)), (Q0 Q10 (Qd x0.since)), (Q0 Qx (Q1b x0.started)), (Q0 Q1w (Qd x0.state))])) (by simp only [Q94, Fld.Q21, Fld.Q2m]))] (by kernel_rfl) hr
theorem Q11o (p0 : List ContainerStatus) (H : Qhi p0) : ∀ (r0 : List ContainerStatus) (i0 : Nat) (v0_1 : List Val), List.drop i0 p0 = r0 → List.length v0_1 ≤ i0 → Qhj p0 (Qhn p0 i0 v0_1) (Q4y p0 r0 i0 v0_1)
 | [], i0, v0_1, hd, ho0_0 => by
  have hc0 : (decide ((i0 : Int) < ((List.length p0) : Int))) = false := by have := Q19 hd; simp; omega
  rw [Q4y]
  exact Q1bs p0 H i0 v0_1 ho0_0 hc0
 | x0 :: r0, i0, v0_1, hd, ho0_0 => by
  obtain ⟨hx0, hi0, hd'⟩ := Q11 hd
  have hc0 : (decide ((i0 : Int) < ((List.length p0) : Int))) = true := by simp; omega
  rw [Q4y]
  exact Quc p0 (fun r hr => Q18w p0 H x0 i0 v0_1 hx0 hi0 ho0_0 hc0 hr) _ (Q11o p0 H r0 (i0 + 1) (v0_1 ++ [(Q15 ([(Q0 Q18 (Qd x0.exitCode)), (Q0 Qp (Qo x0.name)), (Q0 Qi (Q1b x0.ready)), (Q0 Q16 (Qd x0.restarts)), (Q0 Q10 (Qd x0.since)), (Q0 Qx (Q1b x0.started)), (Q0 Q1w (Qd x0.state))]))]) hd' (by first | omega | (simp; omega)))
def Q19z (p0 : List ContainerStatus) : Val := vL (p0.map ContainerStatus.enc)
theorem Q1w5 (p0 : List ContainerStatus) : Q19z p0 = ((Qc9 (Q4y p0 p0 0 []))) := by
  rw [Q14w]
  rfl
def Q1vq (p0 : List ContainerStatus) : En := .call 131 [.sl (ContainerStatus.rows p0)] []
def Q1qv (p0 : List ContainerStatus) : Rs := .ret (.agg (Val.cells (Q19z p0))) []
def Q1m5 (p0 : List ContainerStatus) : Prop := LSm ContainerStatus.sm p0
theorem Q1h3 (p0 : List ContainerStatus) (H : Q1m5 p0) : (Qhi p0) ∧ True := by
  exact ⟨⟨Nat.le_trans H.1 (Nat.le_of_ble_eq_true rfl), trivial⟩, trivial⟩
theorem Q1wv (p0 : List ContainerStatus) (H : Q1m5 p0) : Q7 G (Q1vq p0) (Q1qv p0) := by
 unfold Q1qv
 rw [Q1w5]
 have hl0 := Q11o p0 ((Q1h3 p0 H).1) p0 0 [] (by simp) (by simp)
 obtain ⟨z0, zo0, hl0⟩ := hl0
 exact Q8 (fn := Ir.K36) rfl VOK.nil [hS 0 true (Val.Q9 (Q4y p0 p0 0 []) 5 rfl), hQ (Val.Q5 (Q4y p0 p0 0 [])).symm] [aV [(1, Val.rows (Q4y p0 p0 0 []))] hl0, aN (Qfd (Q4y p0 p0 0 []))] (by kernel_rfl)
def Q1ms (p0 : PodStatus) : Val := PodStatus.enc p0
theorem Q1ua (p0 : PodStatus) : Q1ms p0 = ((Q15 ([(Q0 Q2g (Qd p0.address)), (Q0 Qt (Q19z p0.containers)), (Q0 Q2p (Qd p0.finished)), (Q0 Q24 (Qo p0.nominated)), (Q0 Q2w (Qd p0.phase)), (Q0 Qi (Q1b p0.ready)), (Q0 Q1o (Qd p0.readySince)), (Q0 Q38 (Qo p0.reason)), (Q0 Qx (Qd p0.started))]))) := by
  rfl
def Q1uw (p0 : PodStatus) : En := .call 60 [.agg (PodStatus.cells p0)] []
def Q1q4 (p0 : PodStatus) : Rs := .ret (.agg (Val.cells (Q1ms p0))) []
def Q1mx (p0 : PodStatus) : Prop := PodStatus.sm p0
theorem Q1ho (p0 : PodStatus) (H : Q1mx p0) : (Q1m5 p0.containers) ∧ True := by
  repeat' with_reducible apply And.intro
  all_goals first | exact True.intro | exact H | exact H.1 | exact H.2.1 | exact H.2.2.1 | exact H.2.2.2.1 | exact H.2.2.2.2.1 | exact H.2.2.2.2.2.1 | exact H.2.2.2.2.2.2.1 | exact H.2.2.2.2.2.2.2.1 | exact H.2.2.2.2.2.2.2.2.1 | exact H.2.2.2.2.2.2.2.2.2.1 | exact H.2.2.2.2.2.2.2.2.2.2.1
theorem Q1sx (p0 : PodStatus) (H : Q1mx p0) : Q7 G (Q1uw p0) (Q1q4 p0) := by
 unfold Q1q4
 rw [Q1ua]
 exact Q8 (fn := Ir.K35) rfl VOK.nil [] [aN (Q5i p0.address), aN (Q2e Q2g (Qd p0.address)), aN (Q1wv p0.containers (Q1ho p0 H).1), aN (Q2e Qt (Q19z p0.containers)), aN (Q5i p0.finished), aN (Q2e Q2p (Qd p0.finished)), aN (Q9u p0.nominated), aN (Q2e Q24 (Qo p0.nominated)), aN (Q5i p0.phase), aN (Q2e Q2w (Qd p0.phase)), aN (Qfi p0.ready), aN (Q2e Qi (Q1b p0.ready)), aN (Q5i p0.readySince), aN (Q2e Q1o (Qd p0.readySince)), aN (Q9u p0.reason), aN (Q2e Q38 (Qo p0.reason)), aN (Q5i p0.started), aN (Q2e Qx (Qd p0.started)), aN (Q49 (e' := .call 70 [.sl [(Fld.cells (Q0 Q2g (Qd p0.address))), (Fld.cells (Q0 Qt (Q19z p0.containers))), (Fld.cells (Q0 Q2p (Qd p0.finished))), (Fld.cells (Q0 Q24 (Qo p0.nominated))), (Fld.cells (Q0 Q2w (Qd p0.phase))), (Fld.cells (Q0 Qi (Q1b p0.ready))), (Fld.cells (Q0 Q1o (Qd p0.readySince))), (Fld.cells (Q0 Q38 (Qo p0.reason))), (Fld.cells (Q0 Qx (Qd p0.started)))]] []) (Q9o ([(Q0 Q2g (Qd p0.address)), (Q0 Qt (Q19z p0.containers)), (Q0 Q2p (Qd p0.finished)), (Q0 Q24 (Qo p0.nominated)), (Q0 Q2w (Qd p0.phase)), (Q0 Qi (Q1b p0.ready)), (Q0 Q1o (Qd p0.readySince)), (Q0 Q38 (Qo p0.reason)), (Q0 Qx (Qd p0.started))])) (by simp only [Q94, Fld.Q21, Fld.Q2m]))] (by kernel_rfl)
def Q55 (p0 : List Taint) : List Taint → Nat → (List Val) → List Val
 | [], _i0, v0_1 =>
  v0_1
 | x0 :: r0, i0, v0_1 =>
  Q55 p0 r0 (i0 + 1) (v0_1 ++ [(Q15 ([(Q0 Qu (Qd x0.effect)), (Q0 Qs (Qo x0.key)), (Q0 Q10 (Qd x0.since)), (Q0 Qn (Qo x0.value))]))])
theorem Q16u (p0 : List Taint) : ∀ (l : List Taint) (i : Nat) (a : List Val), Q55 p0 l i a = a ++ l.map (fun x0 => (Q15 ([(Q0 Qu (Qd x0.effect)), (Q0 Qs (Qo x0.key)), (Q0 Q10 (Qd x0.since)), (Q0 Qn (Qo x0.value))])))
  | [], _, _ => by simp [Q55]
  | x :: r, i, a => by rw [Q55, Q16u p0 r]; simp
def Q10x (p0 : List Taint) (i0 : Nat) (v0_1 : List Val) : List PV :=
  [.sl (Taint.rows p0), .un, .bx 0 0, .ms 1 5 0 (List.length v0_1), .int .i64 (i0 : Int)] ++ nuns 41
def Qok (_p0 : List Taint) (_i0 : Nat) (v0_1 : List Val) : List Ob :=
  [⟨5, 0, true, [.int .i64 0, .int .i64 0, .str eB, .ms 2 5 0 0, .ms 3 6 0 0]⟩, ⟨5, 0, true, (Val.rows v0_1).flatten⟩, ⟨5, 0, true, []⟩, ⟨6, 0, true, []⟩]
def Qh3 (p0 : List Taint) (i0 : Nat) (v0_1 : List Val) : En := .loop 0 Ir.Qm5 Ir.Q1j5 (Q10x p0 i0 v0_1) (Qok p0 i0 v0_1)
def Qtz (_p0 : List Taint) (q0 : List Val) (z : Nat → PV) (_zo : Nat → List PV) : St :=
  ⟨[z 0, z 1, .bx 0 0, .ms 1 5 0 (List.length q0)] ++ zr z 4 42, [(0, ⟨5, 0, true, [.int .i64 0, .int .i64 0, .str eB, .ms 2 5 0 0, .ms 3 6 0 0]⟩), (1, ⟨5, 0, true, (Val.rows q0).flatten⟩), (2, ⟨5, 0, true, []⟩), (3, ⟨6, 0, true, []⟩)], 260⟩
theorem Q159 (p0 : List Taint) (i0 : Nat) (v0_1 : List Val) : VOK (Go.Pv.look (number 0 (Qok p0 i0 v0_1))) [(1, Val.rows v0_1)] := (VOK.cons (show Seen _ _ from Q3g (ob := ⟨5, 0, true, (Val.rows v0_1).flatten⟩) (Val.Q9 v0_1 5 rfl)) VOK.nil)
def Qh7 (p0 : List Taint) (e : En) (q : List Val) : Prop := ∃ z zo, Q7 G e (.st (.exit 0) (Qtz p0 q z zo))
theorem Qug (p0 : List Taint) {e e' : En} (h : ∀ r, Q7 G e r → Q7 G e' r) : ∀ q, Qh7 p0 e q → Qh7 p0 e' q
  | _, ⟨z, zo, hz⟩ => ⟨z, zo, h _ hz⟩
def Qi2 (p0 : List Taint) : Prop := (List.length p0 ≤ 137438953472) ∧ True
def Qt5 (p0 : List Taint) (i0 : Nat) (_v0_1 : List Val) : List PV :=
  [.sl (Taint.rows p0), .un, .un, .un, .int .i64 (i0 : Int), .int .i64 (i0 : Int), .sl (Taint.rows p0), .int .i64 ((List.length p0) : Int), .bool false]
def Qoc (_p0 : List Taint) (_i0 : Nat) (_v0_1 : List Val) : List (Nat × List PV) :=
  []
theorem Q1ba (p0 : List Taint) (_H : Qi2 p0) (i0 : Nat) (v0_1 : List Val) (_ho0_0 : List.length v0_1 ≤ i0) (hc0 : (decide ((i0 : Int) < ((List.length p0) : Int))) = false) : Qh7 p0 (Qh3 p0 i0 v0_1) v0_1 := by
 exact ⟨(envF (Qt5 p0 i0 v0_1)), (zoF (Qoc p0 i0 v0_1)), Qg (Q159 p0 i0 v0_1) (x := ((.exit 0), Qtz p0 v0_1 (envF (Qt5 p0 i0 v0_1)) (zoF (Qoc p0 i0 v0_1)))) [hP 2 (Qh (Taint.rows p0) (List.length p0) (Taint.Q5 p0)), hB 0 hc0] [] (by kernel_rfl)⟩
theorem Q1bf (p0 : List Taint) (H : Qi2 p0) (x0 : Taint) (i0 : Nat) (v0_1 : List Val) (hx0 : p0[i0]? = some x0) (hi0 : i0 < List.length p0) (ho0_0 : List.length v0_1 ≤ i0) (hc0 : (decide ((i0 : Int) < ((List.length p0) : Int))) = true) {r : Rs} (hr : Q7 G (Qh3 p0 (i0 + 1) (v0_1 ++ [(Q15 ([(Q0 Qu (Qd x0.effect)), (Q0 Qs (Qo x0.key)), (Q0 Q10 (Qd x0.since)), (Q0 Qn (Qo x0.value))]))])) r) : Q7 G (Qh3 p0 i0 v0_1) r := by
 have hB0 := H.1
 exact Qk (Q159 p0 i0 v0_1) (y := (Q10x p0 (i0 + 1) (v0_1 ++ [(Q15 ([(Q0 Qu (Qd x0.effect)), (Q0 Qs (Qo x0.key)), (Q0 Q10 (Qd x0.since)), (Q0 Qn (Qo x0.value))]))]), Qok p0 (i0 + 1) (v0_1 ++ [(Q15 ([(Q0 Qu (Qd x0.effect)), (Q0 Qs (Qo x0.key)), (Q0 Q10 (Qd x0.since)), (Q0 Qn (Qo x0.value))]))]))) [hP 2 (Qh (Taint.rows p0) (List.length p0) (Taint.Q5 p0)), hB 0 hc0, hP 3 (Q1j 4 (Taint.rows p0) i0 _ (Taint.Qc hx0) rfl), hP 6 (Q1j 4 (Taint.rows p0) i0 _ (Taint.Qc hx0) rfl), hP 6 (Q1j 4 (Taint.rows p0) i0 _ (Taint.Qc hx0) rfl), hP 6 (Q1j 4 (Taint.rows p0) i0 _ (Taint.Qc hx0) rfl), hV 7 [(2308, Val.rows (v0_1 ++ [(Q15 ([(Q0 Qu (Qd x0.effect)), (Q0 Qs (Qo x0.key)), (Q0 Q10 (Qd x0.since)), (Q0 Qn (Qo x0.value))]))]))] (Q3z 1 2244 2308 5 80 0 0 true (Val.rows v0_1) (Val.rows (v0_1 ++ [(Q15 ([(Q0 Qu (Qd x0.effect)), (Q0 Qs (Qo x0.key)), (Q0 Q10 (Qd x0.since)), (Q0 Qn (Qo x0.value))]))])) (Val.cells (Q15 ([(Q0 Qu (Qd x0.effect)), (Q0 Qs (Qo x0.key)), (Q0 Q10 (Qd x0.since)), (Q0 Qn (Qo x0.value))]))) (List.length v0_1) (List.length (v0_1 ++ [(Q15 ([(Q0 Qu (Qd x0.effect)), (Q0 Qs (Qo x0.key)), (Q0 Q10 (Qd x0.since)), (Q0 Qn (Qo x0.value))]))])) rfl (Val.Q5 v0_1).symm (Val.Q5 (v0_1 ++ [(Q15 ([(Q0 Qu (Qd x0.effect)), (Q0 Qs (Qo x0.key)), (Q0 Q10 (Qd x0.since)), (Q0 Qn (Qo x0.value))]))])).symm (Val.Q14 v0_1 (Q15 ([(Q0 Qu (Qd x0.effect)), (Q0 Qs (Qo x0.key)), (Q0 Q10 (Qd x0.since)), (Q0 Qn (Qo x0.value))]))) (Val.Qm v0_1) rfl (by omega)), hS 0 true (Val.Q9 (v0_1 ++ [(Q15 ([(Q0 Qu (Qd x0.effect)), (Q0 Qs (Qo x0.key)), (Q0 Q10 (Qd x0.since)), (Q0 Qn (Qo x0.value))]))]) 5 rfl), hP 2 (Q22 i0 (by omega))] [aN (Q5i x0.effect), aN (Q2e Qu (Qd x0.effect)), aN (Q9u x0.key), aN (Q2e Qs (Qo x0.key)), aN (Q5i x0.since), aN (Q2e Q10 (Qd x0.since)), aN (Q9u x0.value), aN (Q2e Qn (Qo x0.value)), aN (Q49 (e' := .call 70 [.sl [(Fld.cells (Q0 Qu (Qd x0.effect))), (Fld.cells (Q0 Qs (Qo x0.key))), (Fld.cells (Q0 Q10 (Qd x0.since))), (Fld.cells (Q0 Qn (Qo x0.value)))]] []) (Q9o ([(Q0 Qu (Qd x0.effect)), (Q0 Qs (Qo x0.key)), (Q0 Q10 (Qd x0.since)), (Q0 Qn (Qo x0.value))])) (by simp only [Q94, Fld.Q21, Fld.Q2m]))] (by kernel_rfl) hr
theorem Q107 (p0 : List Taint) (H : Qi2 p0) : ∀ (r0 : List Taint) (i0 : Nat) (v0_1 : List Val), List.drop i0 p0 = r0 → List.length v0_1 ≤ i0 → Qh7 p0 (Qh3 p0 i0 v0_1) (Q55 p0 r0 i0 v0_1)
 | [], i0, v0_1, hd, ho0_0 => by
  have hc0 : (decide ((i0 : Int) < ((List.length p0) : Int))) = false := by have := Q19 hd; simp; omega
  rw [Q55]
  exact Q1ba p0 H i0 v0_1 ho0_0 hc0
 | x0 :: r0, i0, v0_1, hd, ho0_0 => by
  obtain ⟨hx0, hi0, hd'⟩ := Q11 hd
  have hc0 : (decide ((i0 : Int) < ((List.length p0) : Int))) = true := by simp; omega
  rw [Q55]
  exact Qug p0 (fun r hr => Q1bf p0 H x0 i0 v0_1 hx0 hi0 ho0_0 hc0 hr) _ (Q107 p0 H r0 (i0 + 1) (v0_1 ++ [(Q15 ([(Q0 Qu (Qd x0.effect)), (Q0 Qs (Qo x0.key)), (Q0 Q10 (Qd x0.since)), (Q0 Qn (Qo x0.value))]))]) hd' (by first | omega | (simp; omega)))
def Q1cr (p0 : List Taint) : Val := vL (p0.map Taint.enc)
theorem Q1tc (p0 : List Taint) : Q1cr p0 = ((Qc9 (Q55 p0 p0 0 []))) := by
  rw [Q16u]
  rfl
def Q1x3 (p0 : List Taint) : En := .call 75 [.sl (Taint.rows p0)] []
def Q1op (p0 : List Taint) : Rs := .ret (.agg (Val.cells (Q1cr p0))) []
def Q1ll (p0 : List Taint) : Prop := LSm Taint.sm p0
theorem Q1hv (p0 : List Taint) (H : Q1ll p0) : (Qi2 p0) ∧ True := by
  exact ⟨⟨Nat.le_trans H.1 (Nat.le_of_ble_eq_true rfl), trivial⟩, trivial⟩
theorem Q1rb (p0 : List Taint) (H : Q1ll p0) : Q7 G (Q1x3 p0) (Q1op p0) := by
 unfold Q1op
 rw [Q1tc]
 have hl0 := Q107 p0 ((Q1hv p0 H).1) p0 0 [] (by simp) (by simp)
 obtain ⟨z0, zo0, hl0⟩ := hl0
 exact Q8 (fn := Ir.K37) rfl VOK.nil [hS 0 true (Val.Q9 (Q55 p0 p0 0 []) 5 rfl), hQ (Val.Q5 (Q55 p0 p0 0 [])).symm] [aV [(1, Val.rows (Q55 p0 p0 0 []))] hl0, aN (Qfd (Q55 p0 p0 0 []))] (by kernel_rfl)
def Q53 (p0 : List Image) : List Image → Nat → (List Val) → List Val
 | [], _i0, v0_1 =>
  v0_1
 | x0 :: r0, i0, v0_1 =>
  Q53 p0 r0 (i0 + 1) (v0_1 ++ [(Q15 ([(Q0 Qp (Qo x0.name)), (Q0 Q2s (Qd x0.size)), (Q0 Q2z (Qd x0.used))]))])
theorem Q153 (p0 : List Image) : ∀ (l : List Image) (i : Nat) (a : List Val), Q53 p0 l i a = a ++ l.map (fun x0 => (Q15 ([(Q0 Qp (Qo x0.name)), (Q0 Q2s (Qd x0.size)), (Q0 Q2z (Qd x0.used))])))
  | [], _, _ => by simp [Q53]
  | x :: r, i, a => by rw [Q53, Q153 p0 r]; simp
def Q11z (p0 : List Image) (i0 : Nat) (v0_1 : List Val) : List PV :=
  [.sl (Image.rows p0), .un, .bx 0 0, .ms 1 5 0 (List.length v0_1), .int .i64 (i0 : Int)] ++ nuns 34
def Qka (_p0 : List Image) (_i0 : Nat) (v0_1 : List Val) : List Ob :=
  [⟨5, 0, true, [.int .i64 0, .int .i64 0, .str eB, .ms 2 5 0 0, .ms 3 6 0 0]⟩, ⟨5, 0, true, (Val.rows v0_1).flatten⟩, ⟨5, 0, true, []⟩, ⟨6, 0, true, []⟩]
def Qfu (p0 : List Image) (i0 : Nat) (v0_1 : List Val) : En := .loop 0 Ir.Qm1 Ir.Q1jr (Q11z p0 i0 v0_1) (Qka p0 i0 v0_1)
def Qrj (_p0 : List Image) (q0 : List Val) (z : Nat → PV) (_zo : Nat → List PV) : St :=
  ⟨[z 0, z 1, .bx 0 0, .ms 1 5 0 (List.length q0)] ++ zr z 4 35, [(0, ⟨5, 0, true, [.int .i64 0, .int .i64 0, .str eB, .ms 2 5 0 0, .ms 3 6 0 0]⟩), (1, ⟨5, 0, true, (Val.rows q0).flatten⟩), (2, ⟨5, 0, true, []⟩), (3, ⟨6, 0, true, []⟩)], 260⟩
theorem Q14o (p0 : List Image) (i0 : Nat) (v0_1 : List Val) : VOK (Go.Pv.look (number 0 (Qka p0 i0 v0_1))) [(1, Val.rows v0_1)] := (VOK.cons (show Seen _ _ from Q3g (ob := ⟨5, 0, true, (Val.rows v0_1).flatten⟩) (Val.Q9 v0_1 5 rfl)) VOK.nil)
def Qhg (p0 : List Image) (e : En) (q : List Val) : Prop := ∃ z zo, Q7 G e (.st (.exit 0) (Qrj p0 q z zo))
theorem Qvf (p0 : List Image) {e e' : En} (h : ∀ r, Q7 G e r → Q7 G e' r) : ∀ q, Qhg p0 e q → Qhg p0 e' q
  | _, ⟨z, zo, hz⟩ => ⟨z, zo, h _ hz⟩
def Qi0 (p0 : List Image) : Prop := (List.length p0 ≤ 137438953472) ∧ True
def Qt9 (p0 : List Image) (i0 : Nat) (_v0_1 : List Val) : List PV :=
  [.sl (Image.rows p0), .un, .un, .un, .int .i64 (i0 : Int), .int .i64 (i0 : Int), .sl (Image.rows p0), .int .i64 ((List.length p0) : Int), .bool false]
def Qo9 (_p0 : List Image) (_i0 : Nat) (_v0_1 : List Val) : List (Nat × List PV) :=
  []
theorem Q1at (p0 : List Image) (_H : Qi0 p0) (i0 : Nat) (v0_1 : List Val) (_ho0_0 : List.length v0_1 ≤ i0) (hc0 : (decide ((i0 : Int) < ((List.length p0) : Int))) = false) : Qhg p0 (Qfu p0 i0 v0_1) v0_1 := by
 exact ⟨(envF (Qt9 p0 i0 v0_1)), (zoF (Qo9 p0 i0 v0_1)), Qg (Q14o p0 i0 v0_1) (x := ((.exit 0), Qrj p0 v0_1 (envF (Qt9 p0 i0 v0_1)) (zoF (Qo9 p0 i0 v0_1)))) [hP 2 (Qh (Image.rows p0) (List.length p0) (Image.Q5 p0)), hB 0 hc0] [] (by kernel_rfl)⟩
theorem Q196 (p0 : List Image) (H : Qi0 p0) (x0 : Image) (i0 : Nat) (v0_1 : List Val) (hx0 : p0[i0]? = some x0) (hi0 : i0 < List.length p0) (ho0_0 : List.length v0_1 ≤ i0) (hc0 : (decide ((i0 : Int) < ((List.length p0) : Int))) = true) {r : Rs} (hr : Q7 G (Qfu p0 (i0 + 1) (v0_1 ++ [(Q15 ([(Q0 Qp (Qo x0.name)), (Q0 Q2s (Qd x0.size)), (Q0 Q2z (Qd x0.used))]))])) r) : Q7 G (Qfu p0 i0 v0_1) r := by
 have hB0 := H.1
 exact Qk (Q14o p0 i0 v0_1) (y := (Q11z p0 (i0 + 1) (v0_1 ++ [(Q15 ([(Q0 Qp (Qo x0.name)), (Q0 Q2s (Qd x0.size)), (Q0 Q2z (Qd x0.used))]))]), Qka p0 (i0 + 1) (v0_1 ++ [(Q15 ([(Q0 Qp (Qo x0.name)), (Q0 Q2s (Qd x0.size)), (Q0 Q2z (Qd x0.used))]))]))) [hP 2 (Qh (Image.rows p0) (List.length p0) (Image.Q5 p0)), hB 0 hc0, hP 3 (Q1j 3 (Image.rows p0) i0 _ (Image.Qc hx0) rfl), hP 6 (Q1j 3 (Image.rows p0) i0 _ (Image.Qc hx0) rfl), hP 6 (Q1j 3 (Image.rows p0) i0 _ (Image.Qc hx0) rfl), hV 7 [(1860, Val.rows (v0_1 ++ [(Q15 ([(Q0 Qp (Qo x0.name)), (Q0 Q2s (Qd x0.size)), (Q0 Q2z (Qd x0.used))]))]))] (Q3z 1 1796 1860 5 80 0 0 true (Val.rows v0_1) (Val.rows (v0_1 ++ [(Q15 ([(Q0 Qp (Qo x0.name)), (Q0 Q2s (Qd x0.size)), (Q0 Q2z (Qd x0.used))]))])) (Val.cells (Q15 ([(Q0 Qp (Qo x0.name)), (Q0 Q2s (Qd x0.size)), (Q0 Q2z (Qd x0.used))]))) (List.length v0_1) (List.length (v0_1 ++ [(Q15 ([(Q0 Qp (Qo x0.name)), (Q0 Q2s (Qd x0.size)), (Q0 Q2z (Qd x0.used))]))])) rfl (Val.Q5 v0_1).symm (Val.Q5 (v0_1 ++ [(Q15 ([(Q0 Qp (Qo x0.name)), (Q0 Q2s (Qd x0.size)), (Q0 Q2z (Qd x0.used))]))])).symm (Val.Q14 v0_1 (Q15 ([(Q0 Qp (Qo x0.name)), (Q0 Q2s (Qd x0.size)), (Q0 Q2z (Qd x0.used))]))) (Val.Qm v0_1) rfl (by omega)), hS 0 true (Val.Q9 (v0_1 ++ [(Q15 ([(Q0 Qp (Qo x0.name)), (Q0 Q2s (Qd x0.size)), (Q0 Q2z (Qd x0.used))]))]) 5 rfl), hP 2 (Q22 i0 (by omega))] [aN (Q9u x0.name), aN (Q2e Qp (Qo x0.name)), aN (Q5i x0.size), aN (Q2e Q2s (Qd x0.size)), aN (Q5i x0.used), aN (Q2e Q2z (Qd x0.used)), aN (Q49 (e' := .call 70 [.sl [(Fld.cells (Q0 Qp (Qo x0.name))), (Fld.cells (Q0 Q2s (Qd x0.size))), (Fld.cells (Q0 Q2z (Qd x0.used)))]] []) (Q9o ([(Q0 Qp (Qo x0.name)), (Q0 Q2s (Qd x0.size)), (Q0 Q2z (Qd x0.used))])) (by simp only [Q94, Fld.Q21, Fld.Q2m]))] (by kernel_rfl) hr
theorem Q111 (p0 : List Image) (H : Qi0 p0) : ∀ (r0 : List Image) (i0 : Nat) (v0_1 : List Val), List.drop i0 p0 = r0 → List.length v0_1 ≤ i0 → Qhg p0 (Qfu p0 i0 v0_1) (Q53 p0 r0 i0 v0_1)
 | [], i0, v0_1, hd, ho0_0 => by
  have hc0 : (decide ((i0 : Int) < ((List.length p0) : Int))) = false := by have := Q19 hd; simp; omega
  rw [Q53]
  exact Q1at p0 H i0 v0_1 ho0_0 hc0
 | x0 :: r0, i0, v0_1, hd, ho0_0 => by
  obtain ⟨hx0, hi0, hd'⟩ := Q11 hd
  have hc0 : (decide ((i0 : Int) < ((List.length p0) : Int))) = true := by simp; omega
  rw [Q53]
  exact Qvf p0 (fun r hr => Q196 p0 H x0 i0 v0_1 hx0 hi0 ho0_0 hc0 hr) _ (Q111 p0 H r0 (i0 + 1) (v0_1 ++ [(Q15 ([(Q0 Qp (Qo x0.name)), (Q0 Q2s (Qd x0.size)), (Q0 Q2z (Qd x0.used))]))]) hd' (by first | omega | (simp; omega)))
def Q17s (p0 : List Image) : Val := vL (p0.map Image.enc)
theorem Q1w9 (p0 : List Image) : Q17s p0 = ((Qc9 (Q53 p0 p0 0 []))) := by
  rw [Q153]
  rfl
def Q1r8 (p0 : List Image) : En := .call 76 [.sl (Image.rows p0)] []
def Q1qb (p0 : List Image) : Rs := .ret (.agg (Val.cells (Q17s p0))) []
def Q1m3 (p0 : List Image) : Prop := LSm Image.sm p0
theorem Q1i6 (p0 : List Image) (H : Q1m3 p0) : (Qi0 p0) ∧ True := by
  exact ⟨⟨Nat.le_trans H.1 (Nat.le_of_ble_eq_true rfl), trivial⟩, trivial⟩
theorem Q1v6 (p0 : List Image) (H : Q1m3 p0) : Q7 G (Q1r8 p0) (Q1qb p0) := by
 unfold Q1qb
 rw [Q1w9]
 have hl0 := Q111 p0 ((Q1i6 p0 H).1) p0 0 [] (by simp) (by simp)
 obtain ⟨z0, zo0, hl0⟩ := hl0
 exact Q8 (fn := Ir.K2y) rfl VOK.nil [hS 0 true (Val.Q9 (Q53 p0 p0 0 []) 5 rfl), hQ (Val.Q5 (Q53 p0 p0 0 [])).symm] [aV [(1, Val.rows (Q53 p0 p0 0 []))] hl0, aN (Qfd (Q53 p0 p0 0 []))] (by kernel_rfl)
end Go.Proofs.YtiflaadeikaghaaGreat
end

section
/- Metadata that are copied (printed by a program). -/
namespace Go.Proofs.YtiflaadeikaghaaGreat
open Go.Pv
structure Owner where
  kind : ByteArray
  name : ByteArray
  uid : Int
  controller : Bool
  block : Bool
def Owner.cells (x : Owner) : List PV :=
  [.str x.kind, .str x.name, .int .i64 x.uid, .bool x.controller, .bool x.block]
def Owner.rows (l : List Owner) : List (List PV) := l.map Owner.cells
theorem Owner.Q5 (l : List Owner) : (Owner.rows l).length = l.length := by simp [Owner.rows]
theorem Owner.Qc {l : List Owner} {i : Nat} {x : Owner} (h : l[i]? = some x) : (Owner.rows l)[i]? = some (Owner.cells x) := Go.Pv.Qc h
theorem Owner.Q14 (l : List Owner) (x : Owner) : Owner.rows (l ++ [x]) = Owner.rows l ++ [Owner.cells x] := by simp [Owner.rows]
theorem Owner.Q39 (l : List Owner) (k : Nat) (x : Owner) : Owner.rows (l.set k x) = (Owner.rows l).set k (Owner.cells x) := by simp [Owner.rows, List.map_set]
theorem Owner.Qm (l : List Owner) : ∀ r ∈ Owner.rows l, r.length = 5 := Q3a (f := Owner.cells) (fun _ => rfl) l
theorem Owner.Q9 (l : List Owner) (sz : Nat) (h : sz = 5) : ViewOK sz (Owner.rows l).flatten (Owner.rows l) := by subst h; exact ⟨rfl, Owner.Qm l, Q2q (f := Owner.cells) (fun _ => rfl) l⟩
structure Manager where
  name : ByteArray
  fields : List ByteArray
def Manager.cells (x : Manager) : List PV :=
  [.str x.name, .sl (Qj x.fields)]
def Manager.rows (l : List Manager) : List (List PV) := l.map Manager.cells
theorem Manager.Q5 (l : List Manager) : (Manager.rows l).length = l.length := by simp [Manager.rows]
theorem Manager.Qc {l : List Manager} {i : Nat} {x : Manager} (h : l[i]? = some x) : (Manager.rows l)[i]? = some (Manager.cells x) := Go.Pv.Qc h
theorem Manager.Q14 (l : List Manager) (x : Manager) : Manager.rows (l ++ [x]) = Manager.rows l ++ [Manager.cells x] := by simp [Manager.rows]
theorem Manager.Q39 (l : List Manager) (k : Nat) (x : Manager) : Manager.rows (l.set k x) = (Manager.rows l).set k (Manager.cells x) := by simp [Manager.rows, List.map_set]
theorem Manager.Qm (l : List Manager) : ∀ r ∈ Manager.rows l, r.length = 2 := Q3a (f := Manager.cells) (fun _ => rfl) l
theorem Manager.Q9 (l : List Manager) (sz : Nat) (h : sz = 2) : ViewOK sz (Manager.rows l).flatten (Manager.rows l) := by subst h; exact ⟨rfl, Manager.Qm l, Q2q (f := Manager.cells) (fun _ => rfl) l⟩
structure Meta where
  kind : ByteArray
  namespace_ : ByteArray
  name : ByteArray
  uid : Int
  version : Int
  generation : Int
  created : Int
  deleting : Bool
  deleteAt : Int
  labels : List Label
  owners : List Owner
  finalizers : List ByteArray
  managers : List Manager
def Meta.cells (x : Meta) : List PV :=
  [.str x.kind, .str x.namespace_, .str x.name, .int .i64 x.uid, .int .i64 x.version, .int .i64 x.generation, .int .i64 x.created, .bool x.deleting, .int .i64 x.deleteAt, .sl (Label.rows x.labels), .sl (Owner.rows x.owners), .sl (Qj x.finalizers), .sl (Manager.rows x.managers)]
def Meta.rows (l : List Meta) : List (List PV) := l.map Meta.cells
theorem Meta.Q5 (l : List Meta) : (Meta.rows l).length = l.length := by simp [Meta.rows]
theorem Meta.Qc {l : List Meta} {i : Nat} {x : Meta} (h : l[i]? = some x) : (Meta.rows l)[i]? = some (Meta.cells x) := Go.Pv.Qc h
theorem Meta.Q14 (l : List Meta) (x : Meta) : Meta.rows (l ++ [x]) = Meta.rows l ++ [Meta.cells x] := by simp [Meta.rows]
theorem Meta.Q39 (l : List Meta) (k : Nat) (x : Meta) : Meta.rows (l.set k x) = (Meta.rows l).set k (Meta.cells x) := by simp [Meta.rows, List.map_set]
theorem Meta.Qm (l : List Meta) : ∀ r ∈ Meta.rows l, r.length = 13 := Q3a (f := Meta.cells) (fun _ => rfl) l
theorem Meta.Q9 (l : List Meta) (sz : Nat) (h : sz = 13) : ViewOK sz (Meta.rows l).flatten (Meta.rows l) := by subst h; exact ⟨rfl, Meta.Qm l, Q2q (f := Meta.cells) (fun _ => rfl) l⟩
structure Pod where
  meta_ : Meta
  spec : PodSpec
  status : PodStatus
def Pod.cells (x : Pod) : List PV :=
  [.str x.meta_.kind, .str x.meta_.namespace_, .str x.meta_.name, .int .i64 x.meta_.uid, .int .i64 x.meta_.version, .int .i64 x.meta_.generation, .int .i64 x.meta_.created, .bool x.meta_.deleting, .int .i64 x.meta_.deleteAt, .sl (Label.rows x.meta_.labels), .sl (Owner.rows x.meta_.owners), .sl (Qj x.meta_.finalizers), .sl (Manager.rows x.meta_.managers), .str x.spec.node, .int .i64 x.spec.priority, .int .i64 x.spec.restart, .int .i64 x.spec.grace, .sl (Container.rows x.spec.containers), .sl (Requirement.rows x.spec.nodeSelector), .sl (NodeTerm.rows x.spec.nodeTerms), .sl (PodTerm.rows x.spec.podTerms), .sl (SpreadRule.rows x.spec.spread), .sl (Toleration.rows x.spec.tolerations), .int .i64 x.status.phase, .bool x.status.ready, .int .i64 x.status.readySince, .int .i64 x.status.started, .int .i64 x.status.finished, .sl (ContainerStatus.rows x.status.containers), .int .i64 x.status.address, .str x.status.nominated, .str x.status.reason]
def Pod.rows (l : List Pod) : List (List PV) := l.map Pod.cells
theorem Pod.Q5 (l : List Pod) : (Pod.rows l).length = l.length := by simp [Pod.rows]
theorem Pod.Qc {l : List Pod} {i : Nat} {x : Pod} (h : l[i]? = some x) : (Pod.rows l)[i]? = some (Pod.cells x) := Go.Pv.Qc h
theorem Pod.Q14 (l : List Pod) (x : Pod) : Pod.rows (l ++ [x]) = Pod.rows l ++ [Pod.cells x] := by simp [Pod.rows]
theorem Pod.Q39 (l : List Pod) (k : Nat) (x : Pod) : Pod.rows (l.set k x) = (Pod.rows l).set k (Pod.cells x) := by simp [Pod.rows, List.map_set]
theorem Pod.Qm (l : List Pod) : ∀ r ∈ Pod.rows l, r.length = 32 := Q3a (f := Pod.cells) (fun _ => rfl) l
theorem Pod.Q9 (l : List Pod) (sz : Nat) (h : sz = 32) : ViewOK sz (Pod.rows l).flatten (Pod.rows l) := by subst h; exact ⟨rfl, Pod.Qm l, Q2q (f := Pod.cells) (fun _ => rfl) l⟩
structure Node where
  meta_ : Meta
  capacity : Resources
  maxPods : Int
  cordoned : Bool
  taints : List Taint
  ready : Bool
  beat : Int
  lowMem : Bool
  lowDisk : Bool
  images : List Image
def Node.cells (x : Node) : List PV :=
  [.str x.meta_.kind, .str x.meta_.namespace_, .str x.meta_.name, .int .i64 x.meta_.uid, .int .i64 x.meta_.version, .int .i64 x.meta_.generation, .int .i64 x.meta_.created, .bool x.meta_.deleting, .int .i64 x.meta_.deleteAt, .sl (Label.rows x.meta_.labels), .sl (Owner.rows x.meta_.owners), .sl (Qj x.meta_.finalizers), .sl (Manager.rows x.meta_.managers), .int .i64 x.capacity.cPU, .int .i64 x.capacity.memory, .int .i64 x.capacity.disk, .int .i64 x.maxPods, .bool x.cordoned, .sl (Taint.rows x.taints), .bool x.ready, .int .i64 x.beat, .bool x.lowMem, .bool x.lowDisk, .sl (Image.rows x.images)]
def Node.rows (l : List Node) : List (List PV) := l.map Node.cells
theorem Node.Q5 (l : List Node) : (Node.rows l).length = l.length := by simp [Node.rows]
theorem Node.Qc {l : List Node} {i : Nat} {x : Node} (h : l[i]? = some x) : (Node.rows l)[i]? = some (Node.cells x) := Go.Pv.Qc h
theorem Node.Q14 (l : List Node) (x : Node) : Node.rows (l ++ [x]) = Node.rows l ++ [Node.cells x] := by simp [Node.rows]
theorem Node.Q39 (l : List Node) (k : Nat) (x : Node) : Node.rows (l.set k x) = (Node.rows l).set k (Node.cells x) := by simp [Node.rows, List.map_set]
theorem Node.Qm (l : List Node) : ∀ r ∈ Node.rows l, r.length = 24 := Q3a (f := Node.cells) (fun _ => rfl) l
theorem Node.Q9 (l : List Node) (sz : Nat) (h : sz = 24) : ViewOK sz (Node.rows l).flatten (Node.rows l) := by subst h; exact ⟨rfl, Node.Qm l, Q2q (f := Node.cells) (fun _ => rfl) l⟩
structure Object where
  meta_ : Meta
  spec : Val
  status : Val
def Object.cells (x : Object) : List PV :=
  [.str x.meta_.kind, .str x.meta_.namespace_, .str x.meta_.name, .int .i64 x.meta_.uid, .int .i64 x.meta_.version, .int .i64 x.meta_.generation, .int .i64 x.meta_.created, .bool x.meta_.deleting, .int .i64 x.meta_.deleteAt, .sl (Label.rows x.meta_.labels), .sl (Owner.rows x.meta_.owners), .sl (Qj x.meta_.finalizers), .sl (Manager.rows x.meta_.managers), .int .i64 x.spec.kind, .int .i64 x.spec.n, .str x.spec.s, .sl (Val.rows x.spec.list), .sl (Fld.rows x.spec.fields), .int .i64 x.status.kind, .int .i64 x.status.n, .str x.status.s, .sl (Val.rows x.status.list), .sl (Fld.rows x.status.fields)]
def Object.rows (l : List Object) : List (List PV) := l.map Object.cells
theorem Object.Q5 (l : List Object) : (Object.rows l).length = l.length := by simp [Object.rows]
theorem Object.Qc {l : List Object} {i : Nat} {x : Object} (h : l[i]? = some x) : (Object.rows l)[i]? = some (Object.cells x) := Go.Pv.Qc h
theorem Object.Q14 (l : List Object) (x : Object) : Object.rows (l ++ [x]) = Object.rows l ++ [Object.cells x] := by simp [Object.rows]
theorem Object.Q39 (l : List Object) (k : Nat) (x : Object) : Object.rows (l.set k x) = (Object.rows l).set k (Object.cells x) := by simp [Object.rows, List.map_set]
theorem Object.Qm (l : List Object) : ∀ r ∈ Object.rows l, r.length = 23 := Q3a (f := Object.cells) (fun _ => rfl) l
theorem Object.Q9 (l : List Object) (sz : Nat) (h : sz = 23) : ViewOK sz (Object.rows l).flatten (Object.rows l) := by subst h; exact ⟨rfl, Object.Qm l, Q2q (f := Object.cells) (fun _ => rfl) l⟩
def Q1dv (p0 : Meta) : List Manager → Nat → Unit
 | [], _i0 =>
  ()
 | _x0 :: r0, i0 =>
  Q1dv p0 r0 (i0 + 1)
def Q14t (p0 : Meta) (i0 : Nat) : List PV :=
  [.un, .bx 0 0, .bx 1 0] ++ nuns 19 ++ [.int .i64 ((List.length p0.managers) : Int), .int .i64 (i0 : Int)] ++ nuns 16
def Qwo (p0 : Meta) (_i0 : Nat) : List Ob :=
  [⟨13, 0, true, [.str p0.kind, .str p0.namespace_, .str p0.name, .int .i64 p0.uid, .int .i64 p0.version, .int .i64 p0.generation, .int .i64 p0.created, .bool p0.deleting, .int .i64 p0.deleteAt, .sl (Label.rows p0.labels), .sl (Owner.rows p0.owners), .sl (Qj p0.finalizers), .ms 2 2 0 (List.length p0.managers)]⟩, ⟨13, 0, true, [.str eB, .str eB, .str eB, .int .i64 0, .int .i64 0, .int .i64 0, .int .i64 0, .bool false, .int .i64 0, .ms 3 2 0 0, .ms 4 5 0 0, .ms 5 1 0 0, .ms 6 2 0 0]⟩, ⟨2, 0, true, (Manager.rows p0.managers).flatten⟩, ⟨2, 0, true, []⟩, ⟨5, 0, true, []⟩, ⟨1, 0, true, []⟩, ⟨2, 0, true, []⟩]
def Qvq (p0 : Meta) (i0 : Nat) : En := .loop 0 Ir.Qtc Ir.Q1pj (Q14t p0 i0) (Qwo p0 i0)
def Q11w (p0 : Meta) (z : Nat → PV) (_zo : Nat → List PV) : St :=
  ⟨[z 0, .bx 0 0, .bx 1 0] ++ zr z 3 37, [(0, ⟨13, 0, true, [.str p0.kind, .str p0.namespace_, .str p0.name, .int .i64 p0.uid, .int .i64 p0.version, .int .i64 p0.generation, .int .i64 p0.created, .bool p0.deleting, .int .i64 p0.deleteAt, .sl (Label.rows p0.labels), .sl (Owner.rows p0.owners), .sl (Qj p0.finalizers), .ms 2 2 0 (List.length p0.managers)]⟩), (1, ⟨13, 0, true, [.str eB, .str eB, .str eB, .int .i64 0, .int .i64 0, .int .i64 0, .int .i64 0, .bool false, .int .i64 0, .ms 3 2 0 0, .ms 4 5 0 0, .ms 5 1 0 0, .ms 6 2 0 0]⟩), (2, ⟨2, 0, true, (Manager.rows p0.managers).flatten⟩), (3, ⟨2, 0, true, []⟩), (4, ⟨5, 0, true, []⟩), (5, ⟨1, 0, true, []⟩), (6, ⟨2, 0, true, []⟩)], 71⟩
theorem Q1eq (p0 : Meta) (i0 : Nat) : VOK (Go.Pv.look (number 0 (Qwo p0 i0))) [(2, Manager.rows p0.managers)] := (VOK.cons (show Seen _ _ from Q3g (ob := ⟨2, 0, true, (Manager.rows p0.managers).flatten⟩) (Manager.Q9 p0.managers 2 rfl)) VOK.nil)
def Qdm (p0 : Meta) (e : En) (_q : Unit) : Prop := ∃ z zo, Q7 G e (.st (.exit 0) (Q11w p0 z zo))
theorem Qx9 (p0 : Meta) {e e' : En} (h : ∀ r, Q7 G e r → Q7 G e' r) : ∀ q, Qdm p0 e q → Qdm p0 e' q
  | _, ⟨z, zo, hz⟩ => ⟨z, zo, h _ hz⟩
def Qwj (p0 : Meta) : Prop := (List.length p0.managers ≤ 4611686018427387904) ∧ (∀ x0 ∈ p0.managers, List.length x0.fields * 16 ≤ 140737488355328) ∧ True
def Q114 (p0 : Meta) (i0 : Nat) : List PV :=
  nuns 22 ++ [.int .i64 ((List.length p0.managers) : Int), .int .i64 (i0 : Int), .bool false]
def Qru (_p0 : Meta) (_i0 : Nat) : List (Nat × List PV) :=
  []
theorem Q1em (p0 : Meta) (_H : Qwj p0) (i0 : Nat) (hc0 : (decide ((i0 : Int) < ((List.length p0.managers) : Int))) = false) : Qdm p0 (Qvq p0 i0) () := by
 exact ⟨(envF (Q114 p0 i0)), (zoF (Qru p0 i0)), Qg (Q1eq p0 i0) (x := ((.exit 0), Q11w p0 (envF (Q114 p0 i0)) (zoF (Qru p0 i0)))) [hB 0 hc0] [] (by kernel_rfl)⟩
theorem Q1fo (p0 : Meta) (H : Qwj p0) (x0 : Manager) (i0 : Nat) (hx0 : p0.managers[i0]? = some x0) (hi0 : i0 < List.length p0.managers) (hc0 : (decide ((i0 : Int) < ((List.length p0.managers) : Int))) = true) {r : Rs} (hr : Q7 G (Qvq p0 (i0 + 1)) r) : Q7 G (Qvq p0 i0) r := by
 have hB0 := H.1
 exact Qk (Q1eq p0 i0) (y := (Q14t p0 (i0 + 1), Qwo p0 (i0 + 1))) [hB 0 hc0, hP 8 (Q5s 2 2 (List.length p0.managers) (i0 : Int) i0 (by omega) (by omega) (by omega)), hP 1 (Qdg 2 2 0 true ((Manager.rows p0.managers).flatten) (Manager.rows p0.managers) 1 false i0 1 (i0 * 2 + 1) (Manager.cells x0) (.sl (Qj x0.fields)) rfl rfl (Manager.Qc hx0) (Manager.Qm p0.managers) (by decide) rfl), hP 1 (Q5s 2 2 (List.length p0.managers) (i0 : Int) i0 (by omega) (by omega) (by omega)), hV 1 [(2, Manager.rows p0.managers)] (Q1fn 2 2 true ((Manager.rows p0.managers).flatten) (Manager.rows p0.managers) (Manager.rows p0.managers) 1 i0 1 (i0 * 2 + 1) _ (.sl (Qj x0.fields)) rfl rfl (Manager.Qc hx0) (Manager.Qm p0.managers) (by decide) rfl rfl (Q135 (Manager.Qc hx0))), hS 0 true (Manager.Q9 p0.managers 2 rfl), hP 0 (Q22 i0 (by omega))] [aN (Q7e (G := G) (f := 82) (sz := 1) (bytes := 16) rfl (Q1h x0.fields) (Q75 x0.fields 1 rfl) (H.2.1 x0 (Q2a hx0)))] (by kernel_rfl) hr
theorem Q15l (p0 : Meta) (H : Qwj p0) : ∀ (r0 : List Manager) (i0 : Nat), List.drop i0 p0.managers = r0 → Qdm p0 (Qvq p0 i0) (Q1dv p0 r0 i0)
 | [], i0, hd => by
  have hc0 : (decide ((i0 : Int) < ((List.length p0.managers) : Int))) = false := by have := Q19 hd; simp; omega
  show Qdm p0 _ ()
  exact Q1em p0 H i0 hc0
 | x0 :: r0, i0, hd => by
  obtain ⟨hx0, hi0, hd'⟩ := Q11 hd
  have hc0 : (decide ((i0 : Int) < ((List.length p0.managers) : Int))) = true := by simp; omega
  show Qdm p0 _ ()
  exact Qx9 p0 (fun r hr => Q1fo p0 H x0 i0 hx0 hi0 hc0 hr) _ (Q15l p0 H r0 (i0 + 1) hd')
def s_Kf (p0 : Meta) : Meta := p0
theorem e_Kf (p0 : Meta) : s_Kf p0 = (p0) := by
  rfl
def c_Kf (p0 : Meta) : En := .call 31 [.agg (Meta.cells p0)] []
def a_Kf (p0 : Meta) : Rs := .ret (.agg (Meta.cells (s_Kf p0))) []
def H_Kf (p0 : Meta) : Prop := (List.length p0.labels * 32 ≤ 140737488355328) ∧ (List.length p0.owners * 48 ≤ 140737488355328) ∧ (List.length p0.finalizers * 16 ≤ 140737488355328) ∧ (List.length p0.managers * 40 ≤ 140737488355328) ∧ (Qwj p0) ∧ True
theorem t_Kf (p0 : Meta) (H : H_Kf p0) : Q7 G (c_Kf p0) (a_Kf p0) := by
 unfold a_Kf
 rw [e_Kf]
 have hl0 := Q15l p0 (H.2.2.2.2.1) p0.managers 0 (by simp)
 obtain ⟨z0, zo0, hl0⟩ := hl0
 exact Q8 (fn := Ir.Kf) rfl VOK.nil [hQ (Manager.Q9 p0.managers 2 rfl), hS 0 true (Manager.Q9 p0.managers 2 rfl), hQ (Manager.Q5 p0.managers).symm] [aN (Q7e (G := G) (f := 80) (sz := 2) (bytes := 32) rfl (Label.Q5 p0.labels) (Label.Q9 p0.labels 2 rfl) H.1), aN (Q7e (G := G) (f := 81) (sz := 5) (bytes := 48) rfl (Owner.Q5 p0.owners) (Owner.Q9 p0.owners 5 rfl) H.2.1), aN (Q7e (G := G) (f := 82) (sz := 1) (bytes := 16) rfl (Q1h p0.finalizers) (Q75 p0.finalizers 1 rfl) H.2.2.1), aV [(0, Manager.rows p0.managers)] (Q8z (G := G) (f := 83) (sz := 2) (bytes := 40) rfl (Manager.Q5 p0.managers) (Manager.Q9 p0.managers 2 rfl) H.2.2.2.1), aV [(2, Manager.rows p0.managers)] hl0] (by kernel_rfl)
end Go.Proofs.YtiflaadeikaghaaGreat
end

section
/- Pods, nodes and templates to and from objects (printed by a program). -/
namespace Go.Proofs.YtiflaadeikaghaaGreat
open Go.Pv
def zPod : Pod := (Pod.mk (Meta.mk eB eB eB 0 0 0 0 false 0 [] [] [] []) (PodSpec.mk eB 0 0 0 [] [] [] [] [] []) (PodStatus.mk 0 false 0 0 0 [] 0 eB eB))
def Q1t4 : Node := (Node.mk (Meta.mk eB eB eB 0 0 0 0 false 0 [] [] [] []) (Resources.mk 0 0 0) 0 false [] false 0 false false [])
def Q1d5 : Template := (Template.mk [] (PodSpec.mk eB 0 0 0 [] [] [] [] [] []))
def Pod.obj (x : Pod) : Object := ⟨{ x.meta_ with kind := Q33 }, PodSpec.enc x.spec, PodStatus.enc x.status⟩
def Node.encS (x : Node) : Val := vM [.mk Qf (Resources.enc x.capacity), .mk Q13 (vB x.cordoned), .mk Q17 (vN x.maxPods), .mk Q1m (vL (x.taints.map Taint.enc))]
def Node.encT (x : Node) : Val := vM [.mk Q2y (vN x.beat), .mk Q2t (vL (x.images.map Image.enc)), .mk Q2b (vB x.lowDisk), .mk Q2c (vB x.lowMem), .mk Qi (vB x.ready)]
def Node.obj (x : Node) : Object := ⟨{ x.meta_ with kind := Q6 }, Node.encS x, Node.encT x⟩
def podQ (o : Object) : Bool := (PodSpec.dec o.spec).2 && (PodStatus.dec o.status).2
def Q1o7 (o : Object) : Pod := ⟨o.meta_, (PodSpec.dec o.spec).1, (PodStatus.dec o.status).1⟩
def podR (o : Object) : Pod × Int := bif !(sEq o.meta_.kind Q33) || !(podQ o) then (zPod, 6) else (Q1o7 o, 0)
def Q1me (o : Object) : Bool := isM o.spec && isM o.status && (dT Resources.dec o.spec Qf).2 && (dB o.spec Q13).2 && (dN o.spec Q17).2 && (dE Taint.dec o.spec Q1m).2 && (dN o.status Q2y).2 && (dE Image.dec o.status Q2t).2 && (dB o.status Q2b).2 && (dB o.status Q2c).2 && (dB o.status Qi).2
def Q1gk (o : Object) : Node := ⟨o.meta_, (dT Resources.dec o.spec Qf).1, (dN o.spec Q17).1, (dB o.spec Q13).1, (dE Taint.dec o.spec Q1m).1, (dB o.status Qi).1, (dN o.status Q2y).1, (dB o.status Q2c).1, (dB o.status Q2b).1, (dE Image.dec o.status Q2t).1⟩
def Q1d2 (o : Object) : Node × Int := bif !(sEq o.meta_.kind Q6) || !(Q1me o) then (Q1t4, 6) else (Q1gk o, 0)
def Q1ew (v : Val) : Template × Int := bif !(Template.dec v).2 then (Q1d5, 6) else ((Template.dec v).1, 0)
def Pod.sm (x : Pod) : Prop := PodSpec.sm x.spec ∧ PodStatus.sm x.status
def Node.sm (x : Node) : Prop := LSm Taint.sm x.taints ∧ LSm Image.sm x.images
def Object.sm (x : Object) : Prop := Val.Sm sB x.spec ∧ Val.Sm sB x.status
theorem Node.Q1ei {x : Node} (h : Node.sm x) : Val.Sm sB (Node.encS x) := Q9z (Nat.le_of_ble_eq_true rfl) (List.forall_mem_cons.2 ⟨Resources.Q1y trivial, List.forall_mem_cons.2 ⟨Val.Sm.leaf 1 _ _, List.forall_mem_cons.2 ⟨Val.Sm.leaf 2 _ _, List.forall_mem_cons.2 ⟨Q32 (fun _ h => Taint.Q1y h) h.1, fun _ h => by cases h⟩⟩⟩⟩)
theorem Node.Q1f7 {x : Node} (h : Node.sm x) : Val.Sm sB (Node.encT x) := Q9z (Nat.le_of_ble_eq_true rfl) (List.forall_mem_cons.2 ⟨Val.Sm.leaf 2 _ _, List.forall_mem_cons.2 ⟨Q32 (fun _ h => Image.Q1y h) h.2, List.forall_mem_cons.2 ⟨Val.Sm.leaf 1 _ _, List.forall_mem_cons.2 ⟨Val.Sm.leaf 1 _ _, List.forall_mem_cons.2 ⟨Val.Sm.leaf 1 _ _, fun _ h => by cases h⟩⟩⟩⟩⟩)
theorem Pod.Qrp {x : Pod} (h : Pod.sm x) : Object.sm (Pod.obj x) := ⟨PodSpec.Q1y h.1, PodStatus.Q1y h.2⟩
theorem Node.Qrp {x : Node} (h : Node.sm x) : Object.sm (Node.obj x) := ⟨Node.Q1ei h, Node.Q1f7 h⟩
def s_Ka (p0 : Pod) : Object := Pod.obj p0
theorem e_Ka (p0 : Pod) : s_Ka p0 = ((Object.mk (Meta.mk Q33 p0.meta_.namespace_ p0.meta_.name p0.meta_.uid p0.meta_.version p0.meta_.generation p0.meta_.created p0.meta_.deleting p0.meta_.deleteAt p0.meta_.labels p0.meta_.owners p0.meta_.finalizers p0.meta_.managers) (Qyf p0.spec) (Q1l4 p0.status))) := by
  rfl
def c_Ka (p0 : Pod) : En := .call 21 [.agg (Pod.cells p0)] []
def a_Ka (p0 : Pod) : Rs := .ret (.agg (Object.cells (s_Ka p0))) []
def H_Ka (p0 : Pod) : Prop := H_Kf p0.meta_ ∧ Pod.sm p0
theorem Q130 (p0 : Pod) (H : H_Ka p0) : (H_Kf p0.meta_) ∧ (Q1id p0.spec) ∧ (Q1lj p0.status) ∧ True := by
  repeat' with_reducible apply And.intro
  all_goals first | exact True.intro | exact H.1 | exact H.2.1 | exact H.2.2
theorem t_Ka (p0 : Pod) (H : H_Ka p0) : Q7 G (c_Ka p0) (a_Ka p0) := by
 unfold a_Ka
 rw [e_Ka]
 exact Q8 (fn := Ir.Ka) rfl VOK.nil [] [aN (t_Kf p0.meta_ (Q130 p0 H).1), aN (Q1q6 p0.spec (Q130 p0 H).2.1), aN (Q1xj p0.status (Q130 p0 H).2.2.1)] (by kernel_rfl)
def Q4h (p0 : List Taint) : List Taint → Nat → (List Val) → List Val
 | [], _i0, v0_1 =>
  v0_1
 | x0 :: r0, i0, v0_1 =>
  Q4h p0 r0 (i0 + 1) (v0_1 ++ [(Qb0 x0)])
theorem Qup (p0 : List Taint) : ∀ (l : List Taint) (i : Nat) (a : List Val), Q4h p0 l i a = a ++ l.map (fun x0 => (Qb0 x0))
  | [], _, _ => by simp [Q4h]
  | x :: r, i, a => by rw [Q4h, Qup p0 r]; simp
def Qxt (p0 : List Taint) (i0 : Nat) (v0_1 : List Val) : List PV :=
  [.un, .fn 67 [] [], .un, .un, .bx 0 0, .ms 1 5 0 (List.length v0_1), .un, .un, .sl (Taint.rows p0), .int .i64 ((List.length p0) : Int), .int .i64 (i0 : Int)] ++ nuns 12
def Qki (_p0 : List Taint) (_i0 : Nat) (v0_1 : List Val) : List Ob :=
  [⟨5, 0, true, [.int .i64 0, .int .i64 0, .str eB, .ms 2 5 0 0, .ms 3 6 0 0]⟩, ⟨5, 0, true, (Val.rows v0_1).flatten⟩, ⟨5, 0, true, []⟩, ⟨6, 0, true, []⟩]
def Qfz (p0 : List Taint) (i0 : Nat) (v0_1 : List Val) : En := .loop 0 Ir.Qnw Ir.Q1k6 (Qxt p0 i0 v0_1) (Qki p0 i0 v0_1)
def Qp7 (_p0 : List Taint) (q0 : List Val) (z : Nat → PV) (_zo : Nat → List PV) : St :=
  ⟨[z 0, z 1, z 2, z 3, .bx 0 0, .ms 1 5 0 (List.length q0)] ++ zr z 6 17, [(0, ⟨5, 0, true, [.int .i64 0, .int .i64 0, .str eB, .ms 2 5 0 0, .ms 3 6 0 0]⟩), (1, ⟨5, 0, true, (Val.rows q0).flatten⟩), (2, ⟨5, 0, true, []⟩), (3, ⟨6, 0, true, []⟩)], 68⟩
theorem Q16i (p0 : List Taint) (i0 : Nat) (v0_1 : List Val) : VOK (Go.Pv.look (number 0 (Qki p0 i0 v0_1))) [(1, Val.rows v0_1)] := (VOK.cons (show Seen _ _ from Q3g (ob := ⟨5, 0, true, (Val.rows v0_1).flatten⟩) (Val.Q9 v0_1 5 rfl)) VOK.nil)
def Qgt (p0 : List Taint) (e : En) (q : List Val) : Prop := ∃ z zo, Q7 G e (.st (.exit 0) (Qp7 p0 q z zo))
theorem Qvu (p0 : List Taint) {e e' : En} (h : ∀ r, Q7 G e r → Q7 G e' r) : ∀ q, Qgt p0 e q → Qgt p0 e' q
  | _, ⟨z, zo, hz⟩ => ⟨z, zo, h _ hz⟩
def Qg6 (p0 : List Taint) : Prop := (List.length p0 ≤ 137438953472) ∧ (∀ x0 ∈ p0, Q1lz x0) ∧ True
def Qs4 (p0 : List Taint) (i0 : Nat) (_v0_1 : List Val) : List PV :=
  [.un, .fn 67 [] []] ++ nuns 6 ++ [.sl (Taint.rows p0), .int .i64 ((List.length p0) : Int), .int .i64 (i0 : Int), .bool false]
def Qli (_p0 : List Taint) (_i0 : Nat) (_v0_1 : List Val) : List (Nat × List PV) :=
  []
theorem Q19y (p0 : List Taint) (_H : Qg6 p0) (i0 : Nat) (v0_1 : List Val) (_ho0_0 : List.length v0_1 ≤ i0) (hc0 : (decide ((i0 : Int) < ((List.length p0) : Int))) = false) : Qgt p0 (Qfz p0 i0 v0_1) v0_1 := by
 exact ⟨(envF (Qs4 p0 i0 v0_1)), (zoF (Qli p0 i0 v0_1)), Qg (Q16i p0 i0 v0_1) (x := ((.exit 0), Qp7 p0 v0_1 (envF (Qs4 p0 i0 v0_1)) (zoF (Qli p0 i0 v0_1)))) [hB 0 hc0] [] (by kernel_rfl)⟩
theorem Q1cx (p0 : List Taint) (H : Qg6 p0) (x0 : Taint) (i0 : Nat) (v0_1 : List Val) (hx0 : p0[i0]? = some x0) (hi0 : i0 < List.length p0) (ho0_0 : List.length v0_1 ≤ i0) (hc0 : (decide ((i0 : Int) < ((List.length p0) : Int))) = true) {r : Rs} (hr : Q7 G (Qfz p0 (i0 + 1) (v0_1 ++ [(Qb0 x0)])) r) : Q7 G (Qfz p0 i0 v0_1) r := by
 have hB0 := H.1
 exact Qk (Q16i p0 i0 v0_1) (y := (Qxt p0 (i0 + 1) (v0_1 ++ [(Qb0 x0)]), Qki p0 (i0 + 1) (v0_1 ++ [(Qb0 x0)]))) [hB 0 hc0, hP 0 (Q1j 4 (Taint.rows p0) i0 _ (Taint.Qc hx0) rfl), hV 8 [(644, Val.rows (v0_1 ++ [(Qb0 x0)]))] (Q3z 1 580 644 5 80 0 0 true (Val.rows v0_1) (Val.rows (v0_1 ++ [(Qb0 x0)])) (Val.cells (Qb0 x0)) (List.length v0_1) (List.length (v0_1 ++ [(Qb0 x0)])) rfl (Val.Q5 v0_1).symm (Val.Q5 (v0_1 ++ [(Qb0 x0)])).symm (Val.Q14 v0_1 (Qb0 x0)) (Val.Qm v0_1) rfl (by omega)), hS 0 true (Val.Q9 (v0_1 ++ [(Qb0 x0)]) 5 rfl), hP 1 (Q22 i0 (by omega))] [aN (Q1xh x0 (H.2.1 x0 (Q2a hx0)))] (by kernel_rfl) hr
theorem Q108 (p0 : List Taint) (H : Qg6 p0) : ∀ (r0 : List Taint) (i0 : Nat) (v0_1 : List Val), List.drop i0 p0 = r0 → List.length v0_1 ≤ i0 → Qgt p0 (Qfz p0 i0 v0_1) (Q4h p0 r0 i0 v0_1)
 | [], i0, v0_1, hd, ho0_0 => by
  have hc0 : (decide ((i0 : Int) < ((List.length p0) : Int))) = false := by have := Q19 hd; simp; omega
  rw [Q4h]
  exact Q19y p0 H i0 v0_1 ho0_0 hc0
 | x0 :: r0, i0, v0_1, hd, ho0_0 => by
  obtain ⟨hx0, hi0, hd'⟩ := Q11 hd
  have hc0 : (decide ((i0 : Int) < ((List.length p0) : Int))) = true := by simp; omega
  rw [Q4h]
  exact Qvu p0 (fun r hr => Q1cx p0 H x0 i0 v0_1 hx0 hi0 ho0_0 hc0 hr) _ (Q108 p0 H r0 (i0 + 1) (v0_1 ++ [(Qb0 x0)]) hd' (by first | omega | (simp; omega)))
def Q77 (p0 : List Taint) : Val := vL (p0.map Taint.enc)
theorem Q1g0 (p0 : List Taint) : Q77 p0 = ((Qcu (Q4h p0 p0 0 []))) := by
  rw [Qup]
  rfl
def Q1d9 (p0 : List Taint) : En := .call 66 [.sl (Taint.rows p0), .fn 67 [] []] []
def Q10v (p0 : List Taint) : Rs := .ret (.agg (Val.cells (Q77 p0))) []
def Qj8 (p0 : List Taint) : Prop := LSm Taint.sm p0
theorem Qev (p0 : List Taint) (H : Qj8 p0) : (Qg6 p0) ∧ (Qem (Q4h p0 p0 0 [])) ∧ True := by
  refine ⟨⟨Nat.le_trans H.1 (Nat.le_of_ble_eq_true rfl), H.2, trivial⟩, ⟨?_, trivial⟩, trivial⟩
  rw [Qup]
  exact Q32 (fun _ h => Taint.Q1y h) H
theorem Q1dn (p0 : List Taint) (H : Qj8 p0) : Q7 G (Q1d9 p0) (Q10v p0) := by
 unfold Q10v
 rw [Q1g0]
 have hl0 := Q108 p0 ((Qev p0 H).1) p0 0 [] (by simp) (by simp)
 obtain ⟨z0, zo0, hl0⟩ := hl0
 exact Q8 (fn := Ir.K1s) rfl VOK.nil [hP 3 (Qh (Taint.rows p0) (List.length p0) (Taint.Q5 p0)), hS 0 true (Val.Q9 (Q4h p0 p0 0 []) 5 rfl), hQ (Val.Q5 (Q4h p0 p0 0 [])).symm] [aV [(1, Val.rows (Q4h p0 p0 0 []))] hl0, aN (Qfh (Q4h p0 p0 0 []) (Qev p0 H).2.1)] (by kernel_rfl)
def Q4j (p0 : List Image) : List Image → Nat → (List Val) → List Val
 | [], _i0, v0_1 =>
  v0_1
 | x0 :: r0, i0, v0_1 =>
  Q4j p0 r0 (i0 + 1) (v0_1 ++ [(Qb8 x0)])
theorem Qvn (p0 : List Image) : ∀ (l : List Image) (i : Nat) (a : List Val), Q4j p0 l i a = a ++ l.map (fun x0 => (Qb8 x0))
  | [], _, _ => by simp [Q4j]
  | x :: r, i, a => by rw [Q4j, Qvn p0 r]; simp
def Qzp (p0 : List Image) (i0 : Nat) (v0_1 : List Val) : List PV :=
  [.un, .fn 69 [] [], .un, .un, .bx 0 0, .ms 1 5 0 (List.length v0_1), .un, .un, .sl (Image.rows p0), .int .i64 ((List.length p0) : Int), .int .i64 (i0 : Int)] ++ nuns 12
def Qnp (_p0 : List Image) (_i0 : Nat) (v0_1 : List Val) : List Ob :=
  [⟨5, 0, true, [.int .i64 0, .int .i64 0, .str eB, .ms 2 5 0 0, .ms 3 6 0 0]⟩, ⟨5, 0, true, (Val.rows v0_1).flatten⟩, ⟨5, 0, true, []⟩, ⟨6, 0, true, []⟩]
def Qgz (p0 : List Image) (i0 : Nat) (v0_1 : List Val) : En := .loop 0 Ir.Qj7 Ir.Q1k4 (Qzp p0 i0 v0_1) (Qnp p0 i0 v0_1)
def Qs7 (_p0 : List Image) (q0 : List Val) (z : Nat → PV) (_zo : Nat → List PV) : St :=
  ⟨[z 0, z 1, z 2, z 3, .bx 0 0, .ms 1 5 0 (List.length q0)] ++ zr z 6 17, [(0, ⟨5, 0, true, [.int .i64 0, .int .i64 0, .str eB, .ms 2 5 0 0, .ms 3 6 0 0]⟩), (1, ⟨5, 0, true, (Val.rows q0).flatten⟩), (2, ⟨5, 0, true, []⟩), (3, ⟨6, 0, true, []⟩)], 68⟩
theorem Q16s (p0 : List Image) (i0 : Nat) (v0_1 : List Val) : VOK (Go.Pv.look (number 0 (Qnp p0 i0 v0_1))) [(1, Val.rows v0_1)] := (VOK.cons (show Seen _ _ from Q3g (ob := ⟨5, 0, true, (Val.rows v0_1).flatten⟩) (Val.Q9 v0_1 5 rfl)) VOK.nil)
def Qfs (p0 : List Image) (e : En) (q : List Val) : Prop := ∃ z zo, Q7 G e (.st (.exit 0) (Qs7 p0 q z zo))
theorem Qwq (p0 : List Image) {e e' : En} (h : ∀ r, Q7 G e r → Q7 G e' r) : ∀ q, Qfs p0 e q → Qfs p0 e' q
  | _, ⟨z, zo, hz⟩ => ⟨z, zo, h _ hz⟩
def Qho (p0 : List Image) : Prop := (List.length p0 ≤ 137438953472) ∧ (∀ x0 ∈ p0, Q1kj x0) ∧ True
def Qs8 (p0 : List Image) (i0 : Nat) (_v0_1 : List Val) : List PV :=
  [.un, .fn 69 [] []] ++ nuns 6 ++ [.sl (Image.rows p0), .int .i64 ((List.length p0) : Int), .int .i64 (i0 : Int), .bool false]
def Qjl (_p0 : List Image) (_i0 : Nat) (_v0_1 : List Val) : List (Nat × List PV) :=
  []
theorem Q19k (p0 : List Image) (_H : Qho p0) (i0 : Nat) (v0_1 : List Val) (_ho0_0 : List.length v0_1 ≤ i0) (hc0 : (decide ((i0 : Int) < ((List.length p0) : Int))) = false) : Qfs p0 (Qgz p0 i0 v0_1) v0_1 := by
 exact ⟨(envF (Qs8 p0 i0 v0_1)), (zoF (Qjl p0 i0 v0_1)), Qg (Q16s p0 i0 v0_1) (x := ((.exit 0), Qs7 p0 v0_1 (envF (Qs8 p0 i0 v0_1)) (zoF (Qjl p0 i0 v0_1)))) [hB 0 hc0] [] (by kernel_rfl)⟩
theorem Q17y (p0 : List Image) (H : Qho p0) (x0 : Image) (i0 : Nat) (v0_1 : List Val) (hx0 : p0[i0]? = some x0) (hi0 : i0 < List.length p0) (ho0_0 : List.length v0_1 ≤ i0) (hc0 : (decide ((i0 : Int) < ((List.length p0) : Int))) = true) {r : Rs} (hr : Q7 G (Qgz p0 (i0 + 1) (v0_1 ++ [(Qb8 x0)])) r) : Q7 G (Qgz p0 i0 v0_1) r := by
 have hB0 := H.1
 exact Qk (Q16s p0 i0 v0_1) (y := (Qzp p0 (i0 + 1) (v0_1 ++ [(Qb8 x0)]), Qnp p0 (i0 + 1) (v0_1 ++ [(Qb8 x0)]))) [hB 0 hc0, hP 0 (Q1j 3 (Image.rows p0) i0 _ (Image.Qc hx0) rfl), hV 8 [(644, Val.rows (v0_1 ++ [(Qb8 x0)]))] (Q3z 1 580 644 5 80 0 0 true (Val.rows v0_1) (Val.rows (v0_1 ++ [(Qb8 x0)])) (Val.cells (Qb8 x0)) (List.length v0_1) (List.length (v0_1 ++ [(Qb8 x0)])) rfl (Val.Q5 v0_1).symm (Val.Q5 (v0_1 ++ [(Qb8 x0)])).symm (Val.Q14 v0_1 (Qb8 x0)) (Val.Qm v0_1) rfl (by omega)), hS 0 true (Val.Q9 (v0_1 ++ [(Qb8 x0)]) 5 rfl), hP 1 (Q22 i0 (by omega))] [aN (Q1rq x0 (H.2.1 x0 (Q2a hx0)))] (by kernel_rfl) hr
theorem Qx6 (p0 : List Image) (H : Qho p0) : ∀ (r0 : List Image) (i0 : Nat) (v0_1 : List Val), List.drop i0 p0 = r0 → List.length v0_1 ≤ i0 → Qfs p0 (Qgz p0 i0 v0_1) (Q4j p0 r0 i0 v0_1)
 | [], i0, v0_1, hd, ho0_0 => by
  have hc0 : (decide ((i0 : Int) < ((List.length p0) : Int))) = false := by have := Q19 hd; simp; omega
  rw [Q4j]
  exact Q19k p0 H i0 v0_1 ho0_0 hc0
 | x0 :: r0, i0, v0_1, hd, ho0_0 => by
  obtain ⟨hx0, hi0, hd'⟩ := Q11 hd
  have hc0 : (decide ((i0 : Int) < ((List.length p0) : Int))) = true := by simp; omega
  rw [Q4j]
  exact Qwq p0 (fun r hr => Q17y p0 H x0 i0 v0_1 hx0 hi0 ho0_0 hc0 hr) _ (Qx6 p0 H r0 (i0 + 1) (v0_1 ++ [(Qb8 x0)]) hd' (by first | omega | (simp; omega)))
def Q74 (p0 : List Image) : Val := vL (p0.map Image.enc)
theorem Q1dt (p0 : List Image) : Q74 p0 = ((Qcu (Q4j p0 p0 0 []))) := by
  rw [Qvn]
  rfl
def Q1f8 (p0 : List Image) : En := .call 68 [.sl (Image.rows p0), .fn 69 [] []] []
def Qya (p0 : List Image) : Rs := .ret (.agg (Val.cells (Q74 p0))) []
def Qmy (p0 : List Image) : Prop := LSm Image.sm p0
theorem Qf2 (p0 : List Image) (H : Qmy p0) : (Qho p0) ∧ (Qem (Q4j p0 p0 0 [])) ∧ True := by
  refine ⟨⟨Nat.le_trans H.1 (Nat.le_of_ble_eq_true rfl), H.2, trivial⟩, ⟨?_, trivial⟩, trivial⟩
  rw [Qvn]
  exact Q32 (fun _ h => Image.Q1y h) H
theorem Q1dz (p0 : List Image) (H : Qmy p0) : Q7 G (Q1f8 p0) (Qya p0) := by
 unfold Qya
 rw [Q1dt]
 have hl0 := Qx6 p0 ((Qf2 p0 H).1) p0 0 [] (by simp) (by simp)
 obtain ⟨z0, zo0, hl0⟩ := hl0
 exact Q8 (fn := Ir.K22) rfl VOK.nil [hP 3 (Qh (Image.rows p0) (List.length p0) (Image.Q5 p0)), hS 0 true (Val.Q9 (Q4j p0 p0 0 []) 5 rfl), hQ (Val.Q5 (Q4j p0 p0 0 [])).symm] [aV [(1, Val.rows (Q4j p0 p0 0 []))] hl0, aN (Qfh (Q4j p0 p0 0 []) (Qf2 p0 H).2.1)] (by kernel_rfl)
def s_K9 (p0 : Node) : Object := Node.obj p0
theorem e_K9 (p0 : Node) : s_K9 p0 = ((Object.mk (Meta.mk Q6 p0.meta_.namespace_ p0.meta_.name p0.meta_.uid p0.meta_.version p0.meta_.generation p0.meta_.created p0.meta_.deleting p0.meta_.deleteAt p0.meta_.labels p0.meta_.owners p0.meta_.finalizers p0.meta_.managers) (Q6d ([(Qe Qf (Q9i p0.capacity)), (Qe Q13 (Q2v p0.cordoned)), (Qe Q17 (Qz p0.maxPods)), (Qe Q1m (Q77 p0.taints))])) (Q6d ([(Qe Q2y (Qz p0.beat)), (Qe Q2t (Q74 p0.images)), (Qe Q2b (Q2v p0.lowDisk)), (Qe Q2c (Q2v p0.lowMem)), (Qe Qi (Q2v p0.ready))])))) := by
  have a : Q6d (Node.encS p0).fields = Node.encS p0 := Q3q (p := (Node.encS p0).fields) (by exact Nat.le_of_ble_eq_true rfl) (by kernel_rfl)
  have b : Q6d (Node.encT p0).fields = Node.encT p0 := Q3q (p := (Node.encT p0).fields) (by exact Nat.le_of_ble_eq_true rfl) (by kernel_rfl)
  show Node.obj p0 = Object.mk { p0.meta_ with kind := Q6 } (Q6d (Node.encS p0).fields) (Q6d (Node.encT p0).fields)
  rw [a, b]
  rfl
def c_K9 (p0 : Node) : En := .call 26 [.agg (Node.cells p0)] []
def a_K9 (p0 : Node) : Rs := .ret (.agg (Object.cells (s_K9 p0))) []
def H_K9 (p0 : Node) : Prop := H_Kf p0.meta_ ∧ Node.sm p0
theorem Qea (p0 : Node) (H : H_K9 p0) : (H_Kf p0.meta_) ∧ (Q1de p0.capacity) ∧ (Qj8 p0.taints) ∧ (Q8y ([(Qe Qf (Q9i p0.capacity)), (Qe Q13 (Q2v p0.cordoned)), (Qe Q17 (Qz p0.maxPods)), (Qe Q1m (Q77 p0.taints))])) ∧ (Qmy p0.images) ∧ (Q8y ([(Qe Q2y (Qz p0.beat)), (Qe Q2t (Q74 p0.images)), (Qe Q2b (Q2v p0.lowDisk)), (Qe Q2c (Q2v p0.lowMem)), (Qe Qi (Q2v p0.ready))])) ∧ True := by
  repeat' with_reducible apply And.intro
  all_goals first | exact True.intro | exact H.1 | exact H.2.1 | exact H.2.2 | exact H | exact (show Resources.sm p0.capacity from trivial) | exact Q9y (by exact Nat.le_of_ble_eq_true rfl) (Node.Q1ei H.2).all.2.2.2 | exact Q9y (by exact Nat.le_of_ble_eq_true rfl) (Node.Q1f7 H.2).all.2.2.2
theorem t_K9 (p0 : Node) (H : H_K9 p0) : Q7 G (c_K9 p0) (a_K9 p0) := by
 unfold a_K9
 rw [e_K9]
 exact Q8 (fn := Ir.K9) rfl VOK.nil [] [aN (t_Kf p0.meta_ (Qea p0 H).1), aN (Q1lw p0.capacity (Qea p0 H).2.1), aN (Q2d Qf (Q9i p0.capacity)), aN (Qfc p0.cordoned), aN (Q2d Q13 (Q2v p0.cordoned)), aN (Q5m p0.maxPods), aN (Q2d Q17 (Qz p0.maxPods)), aN (Q1dn p0.taints (Qea p0 H).2.2.1), aN (Q2d Q1m (Q77 p0.taints)), aN (Q49 (e' := .call 61 [.sl [(Fld.cells (Qe Qf (Q9i p0.capacity))), (Fld.cells (Qe Q13 (Q2v p0.cordoned))), (Fld.cells (Qe Q17 (Qz p0.maxPods))), (Fld.cells (Qe Q1m (Q77 p0.taints)))]] []) (Q99 ([(Qe Qf (Q9i p0.capacity)), (Qe Q13 (Q2v p0.cordoned)), (Qe Q17 (Qz p0.maxPods)), (Qe Q1m (Q77 p0.taints))]) (Qea p0 H).2.2.2.1) (by simp only [Q95, Fld.Q21, Fld.Q2m])), aN (Q5m p0.beat), aN (Q2d Q2y (Qz p0.beat)), aN (Q1dz p0.images (Qea p0 H).2.2.2.2.1), aN (Q2d Q2t (Q74 p0.images)), aN (Qfc p0.lowDisk), aN (Q2d Q2b (Q2v p0.lowDisk)), aN (Qfc p0.lowMem), aN (Q2d Q2c (Q2v p0.lowMem)), aN (Qfc p0.ready), aN (Q2d Qi (Q2v p0.ready)), aN (Q49 (e' := .call 61 [.sl [(Fld.cells (Qe Q2y (Qz p0.beat))), (Fld.cells (Qe Q2t (Q74 p0.images))), (Fld.cells (Qe Q2b (Q2v p0.lowDisk))), (Fld.cells (Qe Q2c (Q2v p0.lowMem))), (Fld.cells (Qe Qi (Q2v p0.ready)))]] []) (Q99 ([(Qe Q2y (Qz p0.beat)), (Qe Q2t (Q74 p0.images)), (Qe Q2b (Q2v p0.lowDisk)), (Qe Q2c (Q2v p0.lowMem)), (Qe Qi (Q2v p0.ready))]) (Qea p0 H).2.2.2.2.2.1) (by simp only [Q95, Fld.Q21, Fld.Q2m]))] (by kernel_rfl)
def Q8j (p0 : Pod) : Object := Pod.obj p0
theorem Q1td (p0 : Pod) : Q8j p0 = ((Object.mk (Meta.mk Q33 p0.meta_.namespace_ p0.meta_.name p0.meta_.uid p0.meta_.version p0.meta_.generation p0.meta_.created p0.meta_.deleting p0.meta_.deleteAt p0.meta_.labels p0.meta_.owners p0.meta_.finalizers p0.meta_.managers) (Q12x p0.spec) (Q1ms p0.status))) := by
  rfl
def Q1xp (p0 : Pod) : En := .call 25 [.agg (Pod.cells p0)] []
def Q1ne (p0 : Pod) : Rs := .ret (.agg (Object.cells (Q8j p0))) []
def Q1e3 (p0 : Pod) : Prop := Pod.sm p0
theorem Q163 (p0 : Pod) (H : Q1e3 p0) : (Q1gu p0.spec) ∧ (Q1mx p0.status) ∧ True := by
  repeat' with_reducible apply And.intro
  all_goals first | exact True.intro | exact H.1 | exact H.2
theorem Q1d6 (p0 : Pod) (H : Q1e3 p0) : Q7 G (Q1xp p0) (Q1ne p0) := by
 unfold Q1ne
 rw [Q1td]
 exact Q8 (fn := Ir.K2b) rfl VOK.nil [] [aN (Q1qo p0.spec (Q163 p0 H).1), aN (Q1sx p0.status (Q163 p0 H).2.1)] (by kernel_rfl)
def Q11a (p0 : Node) : Object := Node.obj p0
theorem Q1tx (p0 : Node) : Q11a p0 = ((Object.mk (Meta.mk Q6 p0.meta_.namespace_ p0.meta_.name p0.meta_.uid p0.meta_.version p0.meta_.generation p0.meta_.created p0.meta_.deleting p0.meta_.deleteAt p0.meta_.labels p0.meta_.owners p0.meta_.finalizers p0.meta_.managers) (Q15 ([(Q0 Qf (Q3x p0.capacity)), (Q0 Q13 (Q1b p0.cordoned)), (Q0 Q17 (Qd p0.maxPods)), (Q0 Q1m (Q1cr p0.taints))])) (Q15 ([(Q0 Q2y (Qd p0.beat)), (Q0 Q2t (Q17s p0.images)), (Q0 Q2b (Q1b p0.lowDisk)), (Q0 Q2c (Q1b p0.lowMem)), (Q0 Qi (Q1b p0.ready))])))) := by
  rfl
def Q1te (p0 : Node) : En := .call 27 [.agg (Node.cells p0)] []
def Q1qt (p0 : Node) : Rs := .ret (.agg (Object.cells (Q11a p0))) []
def Q1hu (p0 : Node) : Prop := Node.sm p0
theorem Q13q (p0 : Node) (H : Q1hu p0) : (Q1ll p0.taints) ∧ (Q1m3 p0.images) ∧ True := by
  repeat' with_reducible apply And.intro
  all_goals first | exact True.intro | exact H.1 | exact H.2
theorem Q1nv (p0 : Node) (H : Q1hu p0) : Q7 G (Q1te p0) (Q1qt p0) := by
 unfold Q1qt
 rw [Q1tx]
 exact Q8 (fn := Ir.K2a) rfl VOK.nil [] [aN (Q1lc p0.capacity), aN (Q2e Qf (Q3x p0.capacity)), aN (Qfi p0.cordoned), aN (Q2e Q13 (Q1b p0.cordoned)), aN (Q5i p0.maxPods), aN (Q2e Q17 (Qd p0.maxPods)), aN (Q1rb p0.taints (Q13q p0 H).1), aN (Q2e Q1m (Q1cr p0.taints)), aN (Q49 (e' := .call 70 [.sl [(Fld.cells (Q0 Qf (Q3x p0.capacity))), (Fld.cells (Q0 Q13 (Q1b p0.cordoned))), (Fld.cells (Q0 Q17 (Qd p0.maxPods))), (Fld.cells (Q0 Q1m (Q1cr p0.taints)))]] []) (Q9o ([(Q0 Qf (Q3x p0.capacity)), (Q0 Q13 (Q1b p0.cordoned)), (Q0 Q17 (Qd p0.maxPods)), (Q0 Q1m (Q1cr p0.taints))])) (by simp only [Q94, Fld.Q21, Fld.Q2m])), aN (Q5i p0.beat), aN (Q2e Q2y (Qd p0.beat)), aN (Q1v6 p0.images (Q13q p0 H).2.1), aN (Q2e Q2t (Q17s p0.images)), aN (Qfi p0.lowDisk), aN (Q2e Q2b (Q1b p0.lowDisk)), aN (Qfi p0.lowMem), aN (Q2e Q2c (Q1b p0.lowMem)), aN (Qfi p0.ready), aN (Q2e Qi (Q1b p0.ready)), aN (Q49 (e' := .call 70 [.sl [(Fld.cells (Q0 Q2y (Qd p0.beat))), (Fld.cells (Q0 Q2t (Q17s p0.images))), (Fld.cells (Q0 Q2b (Q1b p0.lowDisk))), (Fld.cells (Q0 Q2c (Q1b p0.lowMem))), (Fld.cells (Q0 Qi (Q1b p0.ready)))]] []) (Q9o ([(Q0 Q2y (Qd p0.beat)), (Q0 Q2t (Q17s p0.images)), (Q0 Q2b (Q1b p0.lowDisk)), (Q0 Q2c (Q1b p0.lowMem)), (Q0 Qi (Q1b p0.ready))])) (by simp only [Q94, Fld.Q21, Fld.Q2m]))] (by kernel_rfl)
def s_Kd (p0 : Object) : Pod × Int := podR p0
theorem e_Kd (p0 : Object) : s_Kd p0 = (bif (s_Ku p0.status (s_Ks p0.spec (Decoder.mk (!(sEq p0.meta_.kind Q33)))).2).2.failed then
    ((Pod.mk (Meta.mk eB eB eB 0 0 0 0 false 0 [] [] [] []) (PodSpec.mk eB 0 0 0 [] [] [] [] [] []) (PodStatus.mk 0 false 0 0 0 [] 0 eB eB)), 6)
  else
    ((Pod.mk p0.meta_ (s_Ks p0.spec (Decoder.mk (!(sEq p0.meta_.kind Q33)))).1 (s_Ku p0.status (s_Ks p0.spec (Decoder.mk (!(sEq p0.meta_.kind Q33)))).2).1), 0)) := by
  unfold s_Kd podR podQ
  simp only [s_Ks, s_Ku, ft]
  cases (sEq p0.meta_.kind Q33) <;> cases (PodSpec.dec p0.spec).2 <;> cases (PodStatus.dec p0.status).2 <;> rfl
def c_Kd (p0 : Object) : En := .call 11 [.agg (Object.cells p0)] []
def a_Kd (p0 : Object) : Rs := .ret (.tup [.agg (Pod.cells (s_Kd p0).1), .int .i64 (s_Kd p0).2]) []
def H_Kd (p0 : Object) : Prop := H_Kf p0.meta_ ∧ Object.sm p0
theorem Qdu (p0 : Object) (H : H_Kd p0) : (H_Kf p0.meta_) ∧ (H_Ks p0.spec) ∧ (H_Ku p0.status) ∧ True := by
  repeat' with_reducible apply And.intro
  all_goals first | exact True.intro | exact H.1 | exact H.2.1 | exact H.2.2
theorem t_Kd (p0 : Object) (H : H_Kd p0) : Q7 G (c_Kd p0) (a_Kd p0) := by
 unfold a_Kd
 rw [e_Kd]
 cases h0 : (s_Ku p0.status (s_Ks p0.spec (Decoder.mk (!(sEq p0.meta_.kind Q33)))).2).2.failed with
 | true =>
  exact Q8 (fn := Ir.Kd) rfl VOK.nil [hP 27 (decR (s_Ku p0.status (s_Ks p0.spec (Decoder.mk (!(sEq p0.meta_.kind Q33)))).2).2.failed true [512] h0)] [aN (t_Kf p0.meta_ (Qdu p0 H).1), aN (t_Ks p0.spec (Decoder.mk (!(sEq p0.meta_.kind Q33))) (Qdu p0 H).2.1), aN (t_Ku p0.status (s_Ks p0.spec (Decoder.mk (!(sEq p0.meta_.kind Q33)))).2 (Qdu p0 H).2.2.1)] (by kernel_rfl)
 | false =>
  exact Q8 (fn := Ir.Kd) rfl VOK.nil [hP 27 (decR (s_Ku p0.status (s_Ks p0.spec (Decoder.mk (!(sEq p0.meta_.kind Q33)))).2).2.failed false [512] h0)] [aN (t_Kf p0.meta_ (Qdu p0 H).1), aN (t_Ks p0.spec (Decoder.mk (!(sEq p0.meta_.kind Q33))) (Qdu p0 H).2.1), aN (t_Ku p0.status (s_Ks p0.spec (Decoder.mk (!(sEq p0.meta_.kind Q33)))).2 (Qdu p0 H).2.2.1)] (by kernel_rfl)
def Q54 (p1 : Val) (p2 : BA) (o0 : Decoder) : List Val → Nat → Bool → (List Taint) → Bool × (List Taint)
 | [], _i0, v0_1, v0_2 =>
  (v0_1, v0_2)
 | x0 :: r0, i0, v0_1, v0_2 =>
  Q54 p1 p2 o0 r0 (i0 + 1) (s_Ky x0 (Decoder.mk v0_1)).2.failed (v0_2 ++ [(s_Ky x0 (Decoder.mk v0_1)).1])
def Q10o (p1 : Val) (p2 : BA) (o0 : Decoder) (i0 : Nat) (_v0_1 : Bool) (v0_2 : List Taint) : List PV :=
  [.un, .un, .un, .fn 42 [.bx 0 0] []] ++ nuns 5 ++ [.ms 1 4 0 (List.length v0_2)] ++ nuns 6 ++ [.sl (Val.rows (s_Kj p1 p2 4 o0).1.list), .int .i64 ((List.length (s_Kj p1 p2 4 o0).1.list) : Int), .int .i64 (i0 : Int)] ++ nuns 11
def Qm8 (_p1 : Val) (_p2 : BA) (_o0 : Decoder) (_i0 : Nat) (v0_1 : Bool) (v0_2 : List Taint) : List Ob :=
  [⟨1, 0, false, [.bool v0_1]⟩, ⟨4, 0, true, (Taint.rows v0_2).flatten⟩]
def Qin (p1 : Val) (p2 : BA) (o0 : Decoder) (i0 : Nat) (v0_1 : Bool) (v0_2 : List Taint) : En := .loop 1 Ir.Qoh Ir.Q1ji (Q10o p1 p2 o0 i0 v0_1 v0_2) (Qm8 p1 p2 o0 i0 v0_1 v0_2)
def Qsa (_p1 : Val) (_p2 : BA) (_o0 : Decoder) (q0 : Bool) (q1 : List Taint) (z : Nat → PV) (_zo : Nat → List PV) : St :=
  ⟨zr z 0 9 ++ [.ms 1 4 0 (List.length q1)] ++ zr z 10 20, [(0, ⟨1, 0, false, [.bool q0]⟩), (1, ⟨4, 0, true, (Taint.rows q1).flatten⟩)], 66⟩
theorem Q16l (p1 : Val) (p2 : BA) (o0 : Decoder) (i0 : Nat) (v0_1 : Bool) (v0_2 : List Taint) : VOK (Go.Pv.look (number 0 (Qm8 p1 p2 o0 i0 v0_1 v0_2))) [(1, Taint.rows v0_2)] := (VOK.cons (show Seen _ _ from Q3g (ob := ⟨4, 0, true, (Taint.rows v0_2).flatten⟩) (Taint.Q9 v0_2 4 rfl)) VOK.nil)
def Qfv (p1 : Val) (p2 : BA) (o0 : Decoder) (e : En) (q : Bool × (List Taint)) : Prop := ∃ z zo, Q7 G e (.st (.exit 0) (Qsa p1 p2 o0 q.1 q.2 z zo))
theorem Qu9 (p1 : Val) (p2 : BA) (o0 : Decoder) {e e' : En} (h : ∀ r, Q7 G e r → Q7 G e' r) : ∀ q, Qfv p1 p2 o0 e q → Qfv p1 p2 o0 e' q
  | _, ⟨z, zo, hz⟩ => ⟨z, zo, h _ hz⟩
def Qdf (p1 : Val) (p2 : BA) (o0 : Decoder) : Prop := (List.length (s_Kj p1 p2 4 o0).1.list ≤ 137438953472) ∧ (∀ x0 ∈ (s_Kj p1 p2 4 o0).1.list, H_Ky x0) ∧ True
def Qs3 (p1 : Val) (p2 : BA) (o0 : Decoder) (i0 : Nat) (_v0_1 : Bool) (_v0_2 : List Taint) : List PV :=
  [.un, .un, .un, .fn 42 [.bx 0 0] []] ++ nuns 12 ++ [.sl (Val.rows (s_Kj p1 p2 4 o0).1.list), .int .i64 ((List.length (s_Kj p1 p2 4 o0).1.list) : Int), .int .i64 (i0 : Int), .bool false]
def Qkv (_p1 : Val) (_p2 : BA) (_o0 : Decoder) (_i0 : Nat) (_v0_1 : Bool) (_v0_2 : List Taint) : List (Nat × List PV) :=
  []
theorem Q1b8 (p1 : Val) (p2 : BA) (o0 : Decoder) (_H : Qdf p1 p2 o0) (i0 : Nat) (v0_1 : Bool) (v0_2 : List Taint) (_ho0_0 : List.length v0_2 ≤ i0) (hc0 : (decide ((i0 : Int) < ((List.length (s_Kj p1 p2 4 o0).1.list) : Int))) = false) : Qfv p1 p2 o0 (Qin p1 p2 o0 i0 v0_1 v0_2) (v0_1, v0_2) := by
 exact ⟨(envF (Qs3 p1 p2 o0 i0 v0_1 v0_2)), (zoF (Qkv p1 p2 o0 i0 v0_1 v0_2)), Qg (Q16l p1 p2 o0 i0 v0_1 v0_2) (x := ((.exit 0), Qsa p1 p2 o0 v0_1 v0_2 (envF (Qs3 p1 p2 o0 i0 v0_1 v0_2)) (zoF (Qkv p1 p2 o0 i0 v0_1 v0_2)))) [hB 0 hc0] [] (by kernel_rfl)⟩
theorem Q18a (p1 : Val) (p2 : BA) (o0 : Decoder) (H : Qdf p1 p2 o0) (x0 : Val) (i0 : Nat) (v0_1 : Bool) (v0_2 : List Taint) (hx0 : (s_Kj p1 p2 4 o0).1.list[i0]? = some x0) (hi0 : i0 < List.length (s_Kj p1 p2 4 o0).1.list) (ho0_0 : List.length v0_2 ≤ i0) (hc0 : (decide ((i0 : Int) < ((List.length (s_Kj p1 p2 4 o0).1.list) : Int))) = true) {r : Rs} (hr : Q7 G (Qin p1 p2 o0 (i0 + 1) (s_Ky x0 (Decoder.mk v0_1)).2.failed (v0_2 ++ [(s_Ky x0 (Decoder.mk v0_1)).1])) r) : Q7 G (Qin p1 p2 o0 i0 v0_1 v0_2) r := by
 have hB0 := H.1
 exact Qk (Q16l p1 p2 o0 i0 v0_1 v0_2) (y := (Q10o p1 p2 o0 (i0 + 1) (s_Ky x0 (Decoder.mk v0_1)).2.failed (v0_2 ++ [(s_Ky x0 (Decoder.mk v0_1)).1]), Qm8 p1 p2 o0 (i0 + 1) (s_Ky x0 (Decoder.mk v0_1)).2.failed (v0_2 ++ [(s_Ky x0 (Decoder.mk v0_1)).1]))) [hB 0 hc0, hP 0 (Q1j 5 (Val.rows (s_Kj p1 p2 4 o0).1.list) i0 _ (Val.Qc hx0) rfl), hV 8 [(642, Taint.rows (v0_2 ++ [(s_Ky x0 (Decoder.mk v0_1)).1]))] (Q3z 1 578 642 4 48 0 0 true (Taint.rows v0_2) (Taint.rows (v0_2 ++ [(s_Ky x0 (Decoder.mk v0_1)).1])) (Taint.cells (s_Ky x0 (Decoder.mk v0_1)).1) (List.length v0_2) (List.length (v0_2 ++ [(s_Ky x0 (Decoder.mk v0_1)).1])) rfl (Taint.Q5 v0_2).symm (Taint.Q5 (v0_2 ++ [(s_Ky x0 (Decoder.mk v0_1)).1])).symm (Taint.Q14 v0_2 (s_Ky x0 (Decoder.mk v0_1)).1) (Taint.Qm v0_2) rfl (by omega)), hS 0 true (Taint.Q9 (v0_2 ++ [(s_Ky x0 (Decoder.mk v0_1)).1]) 4 rfl), hP 1 (Q22 i0 (by omega))] [aN (t_Ky x0 (Decoder.mk v0_1) (H.2.1 x0 (Q2a hx0)))] (by kernel_rfl) hr
theorem Q110 (p1 : Val) (p2 : BA) (o0 : Decoder) (H : Qdf p1 p2 o0) : ∀ (r0 : List Val) (i0 : Nat) (v0_1 : Bool) (v0_2 : List Taint), List.drop i0 (s_Kj p1 p2 4 o0).1.list = r0 → List.length v0_2 ≤ i0 → Qfv p1 p2 o0 (Qin p1 p2 o0 i0 v0_1 v0_2) (Q54 p1 p2 o0 r0 i0 v0_1 v0_2)
 | [], i0, v0_1, v0_2, hd, ho0_0 => by
  have hc0 : (decide ((i0 : Int) < ((List.length (s_Kj p1 p2 4 o0).1.list) : Int))) = false := by have := Q19 hd; simp; omega
  rw [Q54]
  exact Q1b8 p1 p2 o0 H i0 v0_1 v0_2 ho0_0 hc0
 | x0 :: r0, i0, v0_1, v0_2, hd, ho0_0 => by
  obtain ⟨hx0, hi0, hd'⟩ := Q11 hd
  have hc0 : (decide ((i0 : Int) < ((List.length (s_Kj p1 p2 4 o0).1.list) : Int))) = true := by simp; omega
  rw [Q54]
  exact Qu9 p1 p2 o0 (fun r hr => Q18a p1 p2 o0 H x0 i0 v0_1 v0_2 hx0 hi0 ho0_0 hc0 hr) _ (Q110 p1 p2 o0 H r0 (i0 + 1) (s_Ky x0 (Decoder.mk v0_1)).2.failed (v0_2 ++ [(s_Ky x0 (Decoder.mk v0_1)).1]) hd' (by first | omega | (simp; omega)))
def Q6e (p1 : Val) (p2 : BA) (o0 : Decoder) : List Taint × Decoder := ((dE Taint.dec p1 p2).1, ft o0 (isM p1 && (dE Taint.dec p1 p2).2))
theorem Q13p (p1 : Val) (p2 : BA) (o0 : Decoder) : ∀ (l : List Val) (i : Nat) (b : Bool) (a : List Taint), Q54 p1 p2 o0 l i b a = (b || !(l.all fun x => (Taint.dec x).2), a ++ l.map (fun x => (Taint.dec x).1))
  | [], _, b, a => by rw [Q54]; simp
  | x :: l, i, b, a => by
    rw [Q54]
    refine (Q13p p1 p2 o0 l (i + 1) (b || !(Taint.dec x).2) (a ++ [(Taint.dec x).1])).trans ?_
    simp only [List.append_assoc, List.singleton_append, List.map_cons, List.all_cons, Bool.not_and, Bool.or_assoc]
theorem Q1v9 (p1 : Val) (p2 : BA) (o0 : Decoder) : Q6e p1 p2 o0 = (((Q54 p1 p2 o0 (s_Kj p1 p2 4 o0).1.list 0 (s_Kj p1 p2 4 o0).2.failed []).2, (Decoder.mk (Q54 p1 p2 o0 (s_Kj p1 p2 4 o0).1.list 0 (s_Kj p1 p2 4 o0).2.failed []).1))) := by
  rw [Q13p]
  unfold s_Kj Q6e
  simp only [getL, Q3o]
  refine Prod.ext rfl ?_
  rw [Q6f o0.failed (isM p1) _ _ _ (Qfe (prt p1 p2)), Q3y]
  rfl
def Q1vm (p1 : Val) (p2 : BA) (o0 : Decoder) : En := .call 41 [.bx 0 0, .agg (Val.cells p1), .str p2, .fn 42 [.bx 0 0] []] [⟨1, 0, false, (Decoder.cells o0)⟩]
def Q1w6 (_p1 : Val) (_p2 : BA) (_o0 : Decoder) (q0 : List Taint) (q1 : Decoder) : Rs := .ret (.sl (Taint.rows q0)) [⟨1, 0, false, (Decoder.cells q1)⟩]
def Q1nx (p1 : Val) (p2 : BA) (o0 : Decoder) : Rs := Q1w6 p1 p2 o0 (Q6e p1 p2 o0).1 (Q6e p1 p2 o0).2
def Q1mm (p1 : Val) : Prop := Val.Sm 1000000000 p1
theorem Q147 (p1 : Val) (p2 : BA) (o0 : Decoder) (H : Q1mm p1) : (H_Kj p1) ∧ (Qdf p1 p2 o0) ∧ True := by
  have hl := Qf8 (Q3t H p2)
  refine ⟨H, ?_, trivial⟩
  unfold Qdf s_Kj
  simp only [getL]
  exact ⟨Nat.le_trans hl.1 (Nat.le_of_ble_eq_true rfl), hl.2, trivial⟩
theorem Q1pq (p1 : Val) (p2 : BA) (o0 : Decoder) (H : Q1mm p1) : Q7 G (Q1vm p1 p2 o0) (Q1nx p1 p2 o0) := by
 unfold Q1nx
 rw [Q1v9]
 have hl0 := Q110 p1 p2 o0 ((Q147 p1 p2 o0 H).2.1) (s_Kj p1 p2 4 o0).1.list 0 (s_Kj p1 p2 4 o0).2.failed [] (by simp) (by simp)
 obtain ⟨z0, zo0, hl0⟩ := hl0
 exact Q8 (fn := Ir.K11) rfl (h := [⟨1, 0, false, (Decoder.cells o0)⟩]) (vw := []) VOK.nil [hP 8 (Qh (Val.rows (s_Kj p1 p2 4 o0).1.list) (List.length (s_Kj p1 p2 4 o0).1.list) (Val.Q5 (s_Kj p1 p2 4 o0).1.list)), hS 0 true (Taint.Q9 (Q54 p1 p2 o0 (s_Kj p1 p2 4 o0).1.list 0 (s_Kj p1 p2 4 o0).2.failed []).2 4 rfl), hQ (Taint.Q5 (Q54 p1 p2 o0 (s_Kj p1 p2 4 o0).1.list 0 (s_Kj p1 p2 4 o0).2.failed []).2).symm] [aN (t_Kj p1 p2 4 o0 (Q147 p1 p2 o0 H).1), aV [(1, Taint.rows (Q54 p1 p2 o0 (s_Kj p1 p2 4 o0).1.list 0 (s_Kj p1 p2 4 o0).2.failed []).2)] hl0] (by kernel_rfl)
def Q5a (p1 : Val) (p2 : BA) (o0 : Decoder) : List Val → Nat → Bool → (List Image) → Bool × (List Image)
 | [], _i0, v0_1, v0_2 =>
  (v0_1, v0_2)
 | x0 :: r0, i0, v0_1, v0_2 =>
  Q5a p1 p2 o0 r0 (i0 + 1) (s_Kk x0 (Decoder.mk v0_1)).2.failed (v0_2 ++ [(s_Kk x0 (Decoder.mk v0_1)).1])
def Q10p (p1 : Val) (p2 : BA) (o0 : Decoder) (i0 : Nat) (_v0_1 : Bool) (v0_2 : List Image) : List PV :=
  [.un, .un, .un, .fn 44 [.bx 0 0] []] ++ nuns 5 ++ [.ms 1 3 0 (List.length v0_2)] ++ nuns 6 ++ [.sl (Val.rows (s_Kj p1 p2 4 o0).1.list), .int .i64 ((List.length (s_Kj p1 p2 4 o0).1.list) : Int), .int .i64 (i0 : Int)] ++ nuns 11
def Qm7 (_p1 : Val) (_p2 : BA) (_o0 : Decoder) (_i0 : Nat) (v0_1 : Bool) (v0_2 : List Image) : List Ob :=
  [⟨1, 0, false, [.bool v0_1]⟩, ⟨3, 0, true, (Image.rows v0_2).flatten⟩]
def Qig (p1 : Val) (p2 : BA) (o0 : Decoder) (i0 : Nat) (v0_1 : Bool) (v0_2 : List Image) : En := .loop 1 Ir.Qo0 Ir.Q1j2 (Q10p p1 p2 o0 i0 v0_1 v0_2) (Qm7 p1 p2 o0 i0 v0_1 v0_2)
def Qs2 (_p1 : Val) (_p2 : BA) (_o0 : Decoder) (q0 : Bool) (q1 : List Image) (z : Nat → PV) (_zo : Nat → List PV) : St :=
  ⟨zr z 0 9 ++ [.ms 1 3 0 (List.length q1)] ++ zr z 10 20, [(0, ⟨1, 0, false, [.bool q0]⟩), (1, ⟨3, 0, true, (Image.rows q1).flatten⟩)], 66⟩
theorem Q15u (p1 : Val) (p2 : BA) (o0 : Decoder) (i0 : Nat) (v0_1 : Bool) (v0_2 : List Image) : VOK (Go.Pv.look (number 0 (Qm7 p1 p2 o0 i0 v0_1 v0_2))) [(1, Image.rows v0_2)] := (VOK.cons (show Seen _ _ from Q3g (ob := ⟨3, 0, true, (Image.rows v0_2).flatten⟩) (Image.Q9 v0_2 3 rfl)) VOK.nil)
def Qfm (p1 : Val) (p2 : BA) (o0 : Decoder) (e : En) (q : Bool × (List Image)) : Prop := ∃ z zo, Q7 G e (.st (.exit 0) (Qs2 p1 p2 o0 q.1 q.2 z zo))
theorem Qw4 (p1 : Val) (p2 : BA) (o0 : Decoder) {e e' : En} (h : ∀ r, Q7 G e r → Q7 G e' r) : ∀ q, Qfm p1 p2 o0 e q → Qfm p1 p2 o0 e' q
  | _, ⟨z, zo, hz⟩ => ⟨z, zo, h _ hz⟩
def Qcq (p1 : Val) (p2 : BA) (o0 : Decoder) : Prop := (List.length (s_Kj p1 p2 4 o0).1.list ≤ 137438953472) ∧ (∀ x0 ∈ (s_Kj p1 p2 4 o0).1.list, H_Kk x0) ∧ True
def Qqp (p1 : Val) (p2 : BA) (o0 : Decoder) (i0 : Nat) (_v0_1 : Bool) (_v0_2 : List Image) : List PV :=
  [.un, .un, .un, .fn 44 [.bx 0 0] []] ++ nuns 12 ++ [.sl (Val.rows (s_Kj p1 p2 4 o0).1.list), .int .i64 ((List.length (s_Kj p1 p2 4 o0).1.list) : Int), .int .i64 (i0 : Int), .bool false]
def Qna (_p1 : Val) (_p2 : BA) (_o0 : Decoder) (_i0 : Nat) (_v0_1 : Bool) (_v0_2 : List Image) : List (Nat × List PV) :=
  []
theorem Q197 (p1 : Val) (p2 : BA) (o0 : Decoder) (_H : Qcq p1 p2 o0) (i0 : Nat) (v0_1 : Bool) (v0_2 : List Image) (_ho0_0 : List.length v0_2 ≤ i0) (hc0 : (decide ((i0 : Int) < ((List.length (s_Kj p1 p2 4 o0).1.list) : Int))) = false) : Qfm p1 p2 o0 (Qig p1 p2 o0 i0 v0_1 v0_2) (v0_1, v0_2) := by
 exact ⟨(envF (Qqp p1 p2 o0 i0 v0_1 v0_2)), (zoF (Qna p1 p2 o0 i0 v0_1 v0_2)), Qg (Q15u p1 p2 o0 i0 v0_1 v0_2) (x := ((.exit 0), Qs2 p1 p2 o0 v0_1 v0_2 (envF (Qqp p1 p2 o0 i0 v0_1 v0_2)) (zoF (Qna p1 p2 o0 i0 v0_1 v0_2)))) [hB 0 hc0] [] (by kernel_rfl)⟩
theorem Q1a1 (p1 : Val) (p2 : BA) (o0 : Decoder) (H : Qcq p1 p2 o0) (x0 : Val) (i0 : Nat) (v0_1 : Bool) (v0_2 : List Image) (hx0 : (s_Kj p1 p2 4 o0).1.list[i0]? = some x0) (hi0 : i0 < List.length (s_Kj p1 p2 4 o0).1.list) (ho0_0 : List.length v0_2 ≤ i0) (hc0 : (decide ((i0 : Int) < ((List.length (s_Kj p1 p2 4 o0).1.list) : Int))) = true) {r : Rs} (hr : Q7 G (Qig p1 p2 o0 (i0 + 1) (s_Kk x0 (Decoder.mk v0_1)).2.failed (v0_2 ++ [(s_Kk x0 (Decoder.mk v0_1)).1])) r) : Q7 G (Qig p1 p2 o0 i0 v0_1 v0_2) r := by
 have hB0 := H.1
 exact Qk (Q15u p1 p2 o0 i0 v0_1 v0_2) (y := (Q10p p1 p2 o0 (i0 + 1) (s_Kk x0 (Decoder.mk v0_1)).2.failed (v0_2 ++ [(s_Kk x0 (Decoder.mk v0_1)).1]), Qm7 p1 p2 o0 (i0 + 1) (s_Kk x0 (Decoder.mk v0_1)).2.failed (v0_2 ++ [(s_Kk x0 (Decoder.mk v0_1)).1]))) [hB 0 hc0, hP 0 (Q1j 5 (Val.rows (s_Kj p1 p2 4 o0).1.list) i0 _ (Val.Qc hx0) rfl), hV 8 [(642, Image.rows (v0_2 ++ [(s_Kk x0 (Decoder.mk v0_1)).1]))] (Q3z 1 578 642 3 32 0 0 true (Image.rows v0_2) (Image.rows (v0_2 ++ [(s_Kk x0 (Decoder.mk v0_1)).1])) (Image.cells (s_Kk x0 (Decoder.mk v0_1)).1) (List.length v0_2) (List.length (v0_2 ++ [(s_Kk x0 (Decoder.mk v0_1)).1])) rfl (Image.Q5 v0_2).symm (Image.Q5 (v0_2 ++ [(s_Kk x0 (Decoder.mk v0_1)).1])).symm (Image.Q14 v0_2 (s_Kk x0 (Decoder.mk v0_1)).1) (Image.Qm v0_2) rfl (by omega)), hS 0 true (Image.Q9 (v0_2 ++ [(s_Kk x0 (Decoder.mk v0_1)).1]) 3 rfl), hP 1 (Q22 i0 (by omega))] [aN (t_Kk x0 (Decoder.mk v0_1) (H.2.1 x0 (Q2a hx0)))] (by kernel_rfl) hr
theorem Q10q (p1 : Val) (p2 : BA) (o0 : Decoder) (H : Qcq p1 p2 o0) : ∀ (r0 : List Val) (i0 : Nat) (v0_1 : Bool) (v0_2 : List Image), List.drop i0 (s_Kj p1 p2 4 o0).1.list = r0 → List.length v0_2 ≤ i0 → Qfm p1 p2 o0 (Qig p1 p2 o0 i0 v0_1 v0_2) (Q5a p1 p2 o0 r0 i0 v0_1 v0_2)
 | [], i0, v0_1, v0_2, hd, ho0_0 => by
  have hc0 : (decide ((i0 : Int) < ((List.length (s_Kj p1 p2 4 o0).1.list) : Int))) = false := by have := Q19 hd; simp; omega
  rw [Q5a]
  exact Q197 p1 p2 o0 H i0 v0_1 v0_2 ho0_0 hc0
 | x0 :: r0, i0, v0_1, v0_2, hd, ho0_0 => by
  obtain ⟨hx0, hi0, hd'⟩ := Q11 hd
  have hc0 : (decide ((i0 : Int) < ((List.length (s_Kj p1 p2 4 o0).1.list) : Int))) = true := by simp; omega
  rw [Q5a]
  exact Qw4 p1 p2 o0 (fun r hr => Q1a1 p1 p2 o0 H x0 i0 v0_1 v0_2 hx0 hi0 ho0_0 hc0 hr) _ (Q10q p1 p2 o0 H r0 (i0 + 1) (s_Kk x0 (Decoder.mk v0_1)).2.failed (v0_2 ++ [(s_Kk x0 (Decoder.mk v0_1)).1]) hd' (by first | omega | (simp; omega)))
def Qp0 (p1 : Val) (p2 : BA) (o0 : Decoder) : List Image × Decoder := ((dE Image.dec p1 p2).1, ft o0 (isM p1 && (dE Image.dec p1 p2).2))
theorem Q15d (p1 : Val) (p2 : BA) (o0 : Decoder) : ∀ (l : List Val) (i : Nat) (b : Bool) (a : List Image), Q5a p1 p2 o0 l i b a = (b || !(l.all fun x => (Image.dec x).2), a ++ l.map (fun x => (Image.dec x).1))
  | [], _, b, a => by rw [Q5a]; simp
  | x :: l, i, b, a => by
    rw [Q5a]
    refine (Q15d p1 p2 o0 l (i + 1) (b || !(Image.dec x).2) (a ++ [(Image.dec x).1])).trans ?_
    simp only [List.append_assoc, List.singleton_append, List.map_cons, List.all_cons, Bool.not_and, Bool.or_assoc]
theorem Q1tt (p1 : Val) (p2 : BA) (o0 : Decoder) : Qp0 p1 p2 o0 = (((Q5a p1 p2 o0 (s_Kj p1 p2 4 o0).1.list 0 (s_Kj p1 p2 4 o0).2.failed []).2, (Decoder.mk (Q5a p1 p2 o0 (s_Kj p1 p2 4 o0).1.list 0 (s_Kj p1 p2 4 o0).2.failed []).1))) := by
  rw [Q15d]
  unfold s_Kj Qp0
  simp only [getL, Q3o]
  refine Prod.ext rfl ?_
  rw [Q6f o0.failed (isM p1) _ _ _ (Qfe (prt p1 p2)), Q3y]
  rfl
def Q1vh (p1 : Val) (p2 : BA) (o0 : Decoder) : En := .call 43 [.bx 0 0, .agg (Val.cells p1), .str p2, .fn 44 [.bx 0 0] []] [⟨1, 0, false, (Decoder.cells o0)⟩]
def Q1v3 (_p1 : Val) (_p2 : BA) (_o0 : Decoder) (q0 : List Image) (q1 : Decoder) : Rs := .ret (.sl (Image.rows q0)) [⟨1, 0, false, (Decoder.cells q1)⟩]
def Q1p8 (p1 : Val) (p2 : BA) (o0 : Decoder) : Rs := Q1v3 p1 p2 o0 (Qp0 p1 p2 o0).1 (Qp0 p1 p2 o0).2
def Q1mr (p1 : Val) : Prop := Val.Sm 1000000000 p1
theorem Q174 (p1 : Val) (p2 : BA) (o0 : Decoder) (H : Q1mr p1) : (H_Kj p1) ∧ (Qcq p1 p2 o0) ∧ True := by
  have hl := Qf8 (Q3t H p2)
  refine ⟨H, ?_, trivial⟩
  unfold Qcq s_Kj
  simp only [getL]
  exact ⟨Nat.le_trans hl.1 (Nat.le_of_ble_eq_true rfl), hl.2, trivial⟩
theorem Q1pl (p1 : Val) (p2 : BA) (o0 : Decoder) (H : Q1mr p1) : Q7 G (Q1vh p1 p2 o0) (Q1p8 p1 p2 o0) := by
 unfold Q1p8
 rw [Q1tt]
 have hl0 := Q10q p1 p2 o0 ((Q174 p1 p2 o0 H).2.1) (s_Kj p1 p2 4 o0).1.list 0 (s_Kj p1 p2 4 o0).2.failed [] (by simp) (by simp)
 obtain ⟨z0, zo0, hl0⟩ := hl0
 exact Q8 (fn := Ir.K14) rfl (h := [⟨1, 0, false, (Decoder.cells o0)⟩]) (vw := []) VOK.nil [hP 8 (Qh (Val.rows (s_Kj p1 p2 4 o0).1.list) (List.length (s_Kj p1 p2 4 o0).1.list) (Val.Q5 (s_Kj p1 p2 4 o0).1.list)), hS 0 true (Image.Q9 (Q5a p1 p2 o0 (s_Kj p1 p2 4 o0).1.list 0 (s_Kj p1 p2 4 o0).2.failed []).2 3 rfl), hQ (Image.Q5 (Q5a p1 p2 o0 (s_Kj p1 p2 4 o0).1.list 0 (s_Kj p1 p2 4 o0).2.failed []).2).symm] [aN (t_Kj p1 p2 4 o0 (Q174 p1 p2 o0 H).1), aV [(1, Image.rows (Q5a p1 p2 o0 (s_Kj p1 p2 4 o0).1.list 0 (s_Kj p1 p2 4 o0).2.failed []).2)] hl0] (by kernel_rfl)
def s_Kc (p0 : Object) : Node × Int := Q1d2 p0
theorem e_Kc (p0 : Object) : s_Kc p0 = (bif (Qp0 (s_Kw p0.status (s_Kw p0.spec (Decoder.mk (!(sEq p0.meta_.kind Q6)))).2).1 Q2t (s_Ki (s_Kw p0.status (s_Kw p0.spec (Decoder.mk (!(sEq p0.meta_.kind Q6)))).2).1 Q2b (s_Ki (s_Kw p0.status (s_Kw p0.spec (Decoder.mk (!(sEq p0.meta_.kind Q6)))).2).1 Q2c (s_Kn (s_Kw p0.status (s_Kw p0.spec (Decoder.mk (!(sEq p0.meta_.kind Q6)))).2).1 Q2y (s_Ki (s_Kw p0.status (s_Kw p0.spec (Decoder.mk (!(sEq p0.meta_.kind Q6)))).2).1 Qi (Q6e (s_Kw p0.spec (Decoder.mk (!(sEq p0.meta_.kind Q6)))).1 Q1m (s_Ki (s_Kw p0.spec (Decoder.mk (!(sEq p0.meta_.kind Q6)))).1 Q13 (s_Kn (s_Kw p0.spec (Decoder.mk (!(sEq p0.meta_.kind Q6)))).1 Q17 (s_Kr (s_Kx (s_Kw p0.spec (Decoder.mk (!(sEq p0.meta_.kind Q6)))).1 Qf (s_Kw p0.status (s_Kw p0.spec (Decoder.mk (!(sEq p0.meta_.kind Q6)))).2).2).1 (s_Kx (s_Kw p0.spec (Decoder.mk (!(sEq p0.meta_.kind Q6)))).1 Qf (s_Kw p0.status (s_Kw p0.spec (Decoder.mk (!(sEq p0.meta_.kind Q6)))).2).2).2).2).2).2).2).2).2).2).2).2.failed then
    ((Node.mk (Meta.mk eB eB eB 0 0 0 0 false 0 [] [] [] []) (Resources.mk 0 0 0) 0 false [] false 0 false false []), 6)
  else
    ((Node.mk p0.meta_ (s_Kr (s_Kx (s_Kw p0.spec (Decoder.mk (!(sEq p0.meta_.kind Q6)))).1 Qf (s_Kw p0.status (s_Kw p0.spec (Decoder.mk (!(sEq p0.meta_.kind Q6)))).2).2).1 (s_Kx (s_Kw p0.spec (Decoder.mk (!(sEq p0.meta_.kind Q6)))).1 Qf (s_Kw p0.status (s_Kw p0.spec (Decoder.mk (!(sEq p0.meta_.kind Q6)))).2).2).2).1 (s_Kn (s_Kw p0.spec (Decoder.mk (!(sEq p0.meta_.kind Q6)))).1 Q17 (s_Kr (s_Kx (s_Kw p0.spec (Decoder.mk (!(sEq p0.meta_.kind Q6)))).1 Qf (s_Kw p0.status (s_Kw p0.spec (Decoder.mk (!(sEq p0.meta_.kind Q6)))).2).2).1 (s_Kx (s_Kw p0.spec (Decoder.mk (!(sEq p0.meta_.kind Q6)))).1 Qf (s_Kw p0.status (s_Kw p0.spec (Decoder.mk (!(sEq p0.meta_.kind Q6)))).2).2).2).2).1 (s_Ki (s_Kw p0.spec (Decoder.mk (!(sEq p0.meta_.kind Q6)))).1 Q13 (s_Kn (s_Kw p0.spec (Decoder.mk (!(sEq p0.meta_.kind Q6)))).1 Q17 (s_Kr (s_Kx (s_Kw p0.spec (Decoder.mk (!(sEq p0.meta_.kind Q6)))).1 Qf (s_Kw p0.status (s_Kw p0.spec (Decoder.mk (!(sEq p0.meta_.kind Q6)))).2).2).1 (s_Kx (s_Kw p0.spec (Decoder.mk (!(sEq p0.meta_.kind Q6)))).1 Qf (s_Kw p0.status (s_Kw p0.spec (Decoder.mk (!(sEq p0.meta_.kind Q6)))).2).2).2).2).2).1 (Q6e (s_Kw p0.spec (Decoder.mk (!(sEq p0.meta_.kind Q6)))).1 Q1m (s_Ki (s_Kw p0.spec (Decoder.mk (!(sEq p0.meta_.kind Q6)))).1 Q13 (s_Kn (s_Kw p0.spec (Decoder.mk (!(sEq p0.meta_.kind Q6)))).1 Q17 (s_Kr (s_Kx (s_Kw p0.spec (Decoder.mk (!(sEq p0.meta_.kind Q6)))).1 Qf (s_Kw p0.status (s_Kw p0.spec (Decoder.mk (!(sEq p0.meta_.kind Q6)))).2).2).1 (s_Kx (s_Kw p0.spec (Decoder.mk (!(sEq p0.meta_.kind Q6)))).1 Qf (s_Kw p0.status (s_Kw p0.spec (Decoder.mk (!(sEq p0.meta_.kind Q6)))).2).2).2).2).2).2).1 (s_Ki (s_Kw p0.status (s_Kw p0.spec (Decoder.mk (!(sEq p0.meta_.kind Q6)))).2).1 Qi (Q6e (s_Kw p0.spec (Decoder.mk (!(sEq p0.meta_.kind Q6)))).1 Q1m (s_Ki (s_Kw p0.spec (Decoder.mk (!(sEq p0.meta_.kind Q6)))).1 Q13 (s_Kn (s_Kw p0.spec (Decoder.mk (!(sEq p0.meta_.kind Q6)))).1 Q17 (s_Kr (s_Kx (s_Kw p0.spec (Decoder.mk (!(sEq p0.meta_.kind Q6)))).1 Qf (s_Kw p0.status (s_Kw p0.spec (Decoder.mk (!(sEq p0.meta_.kind Q6)))).2).2).1 (s_Kx (s_Kw p0.spec (Decoder.mk (!(sEq p0.meta_.kind Q6)))).1 Qf (s_Kw p0.status (s_Kw p0.spec (Decoder.mk (!(sEq p0.meta_.kind Q6)))).2).2).2).2).2).2).2).1 (s_Kn (s_Kw p0.status (s_Kw p0.spec (Decoder.mk (!(sEq p0.meta_.kind Q6)))).2).1 Q2y (s_Ki (s_Kw p0.status (s_Kw p0.spec (Decoder.mk (!(sEq p0.meta_.kind Q6)))).2).1 Qi (Q6e (s_Kw p0.spec (Decoder.mk (!(sEq p0.meta_.kind Q6)))).1 Q1m (s_Ki (s_Kw p0.spec (Decoder.mk (!(sEq p0.meta_.kind Q6)))).1 Q13 (s_Kn (s_Kw p0.spec (Decoder.mk (!(sEq p0.meta_.kind Q6)))).1 Q17 (s_Kr (s_Kx (s_Kw p0.spec (Decoder.mk (!(sEq p0.meta_.kind Q6)))).1 Qf (s_Kw p0.status (s_Kw p0.spec (Decoder.mk (!(sEq p0.meta_.kind Q6)))).2).2).1 (s_Kx (s_Kw p0.spec (Decoder.mk (!(sEq p0.meta_.kind Q6)))).1 Qf (s_Kw p0.status (s_Kw p0.spec (Decoder.mk (!(sEq p0.meta_.kind Q6)))).2).2).2).2).2).2).2).2).1 (s_Ki (s_Kw p0.status (s_Kw p0.spec (Decoder.mk (!(sEq p0.meta_.kind Q6)))).2).1 Q2c (s_Kn (s_Kw p0.status (s_Kw p0.spec (Decoder.mk (!(sEq p0.meta_.kind Q6)))).2).1 Q2y (s_Ki (s_Kw p0.status (s_Kw p0.spec (Decoder.mk (!(sEq p0.meta_.kind Q6)))).2).1 Qi (Q6e (s_Kw p0.spec (Decoder.mk (!(sEq p0.meta_.kind Q6)))).1 Q1m (s_Ki (s_Kw p0.spec (Decoder.mk (!(sEq p0.meta_.kind Q6)))).1 Q13 (s_Kn (s_Kw p0.spec (Decoder.mk (!(sEq p0.meta_.kind Q6)))).1 Q17 (s_Kr (s_Kx (s_Kw p0.spec (Decoder.mk (!(sEq p0.meta_.kind Q6)))).1 Qf (s_Kw p0.status (s_Kw p0.spec (Decoder.mk (!(sEq p0.meta_.kind Q6)))).2).2).1 (s_Kx (s_Kw p0.spec (Decoder.mk (!(sEq p0.meta_.kind Q6)))).1 Qf (s_Kw p0.status (s_Kw p0.spec (Decoder.mk (!(sEq p0.meta_.kind Q6)))).2).2).2).2).2).2).2).2).2).1 (s_Ki (s_Kw p0.status (s_Kw p0.spec (Decoder.mk (!(sEq p0.meta_.kind Q6)))).2).1 Q2b (s_Ki (s_Kw p0.status (s_Kw p0.spec (Decoder.mk (!(sEq p0.meta_.kind Q6)))).2).1 Q2c (s_Kn (s_Kw p0.status (s_Kw p0.spec (Decoder.mk (!(sEq p0.meta_.kind Q6)))).2).1 Q2y (s_Ki (s_Kw p0.status (s_Kw p0.spec (Decoder.mk (!(sEq p0.meta_.kind Q6)))).2).1 Qi (Q6e (s_Kw p0.spec (Decoder.mk (!(sEq p0.meta_.kind Q6)))).1 Q1m (s_Ki (s_Kw p0.spec (Decoder.mk (!(sEq p0.meta_.kind Q6)))).1 Q13 (s_Kn (s_Kw p0.spec (Decoder.mk (!(sEq p0.meta_.kind Q6)))).1 Q17 (s_Kr (s_Kx (s_Kw p0.spec (Decoder.mk (!(sEq p0.meta_.kind Q6)))).1 Qf (s_Kw p0.status (s_Kw p0.spec (Decoder.mk (!(sEq p0.meta_.kind Q6)))).2).2).1 (s_Kx (s_Kw p0.spec (Decoder.mk (!(sEq p0.meta_.kind Q6)))).1 Qf (s_Kw p0.status (s_Kw p0.spec (Decoder.mk (!(sEq p0.meta_.kind Q6)))).2).2).2).2).2).2).2).2).2).2).1 (Qp0 (s_Kw p0.status (s_Kw p0.spec (Decoder.mk (!(sEq p0.meta_.kind Q6)))).2).1 Q2t (s_Ki (s_Kw p0.status (s_Kw p0.spec (Decoder.mk (!(sEq p0.meta_.kind Q6)))).2).1 Q2b (s_Ki (s_Kw p0.status (s_Kw p0.spec (Decoder.mk (!(sEq p0.meta_.kind Q6)))).2).1 Q2c (s_Kn (s_Kw p0.status (s_Kw p0.spec (Decoder.mk (!(sEq p0.meta_.kind Q6)))).2).1 Q2y (s_Ki (s_Kw p0.status (s_Kw p0.spec (Decoder.mk (!(sEq p0.meta_.kind Q6)))).2).1 Qi (Q6e (s_Kw p0.spec (Decoder.mk (!(sEq p0.meta_.kind Q6)))).1 Q1m (s_Ki (s_Kw p0.spec (Decoder.mk (!(sEq p0.meta_.kind Q6)))).1 Q13 (s_Kn (s_Kw p0.spec (Decoder.mk (!(sEq p0.meta_.kind Q6)))).1 Q17 (s_Kr (s_Kx (s_Kw p0.spec (Decoder.mk (!(sEq p0.meta_.kind Q6)))).1 Qf (s_Kw p0.status (s_Kw p0.spec (Decoder.mk (!(sEq p0.meta_.kind Q6)))).2).2).1 (s_Kx (s_Kw p0.spec (Decoder.mk (!(sEq p0.meta_.kind Q6)))).1 Qf (s_Kw p0.status (s_Kw p0.spec (Decoder.mk (!(sEq p0.meta_.kind Q6)))).2).2).2).2).2).2).2).2).2).2).2).1), 0)) := by
  unfold s_Kc Q1d2 Q1me Q1gk
  simp only [s_Kw, s_Kn, s_Ki, s_Kx, s_Kr, Q6e, Qp0, Resources.sub1, dT, Resources.sub2, Qaq, Q3o, Bool.and_assoc, Bool.and_left_comm, Bool.and_comm, Bool.and_self_left]
  rfl
def c_Kc (p0 : Object) : En := .call 13 [.agg (Object.cells p0)] []
def a_Kc (p0 : Object) : Rs := .ret (.tup [.agg (Node.cells (s_Kc p0).1), .int .i64 (s_Kc p0).2]) []
def H_Kc (p0 : Object) : Prop := H_Kf p0.meta_ ∧ Object.sm p0
theorem Q3l (p0 : Object) (H : H_Kc p0) : (H_Kf p0.meta_) ∧ (H_Kx (s_Kw p0.spec (Decoder.mk (!(sEq p0.meta_.kind Q6)))).1) ∧ (H_Kr (s_Kx (s_Kw p0.spec (Decoder.mk (!(sEq p0.meta_.kind Q6)))).1 Qf (s_Kw p0.status (s_Kw p0.spec (Decoder.mk (!(sEq p0.meta_.kind Q6)))).2).2).1) ∧ (H_Kn (s_Kw p0.spec (Decoder.mk (!(sEq p0.meta_.kind Q6)))).1) ∧ (H_Ki (s_Kw p0.spec (Decoder.mk (!(sEq p0.meta_.kind Q6)))).1) ∧ (Q1mm (s_Kw p0.spec (Decoder.mk (!(sEq p0.meta_.kind Q6)))).1) ∧ (H_Ki (s_Kw p0.status (s_Kw p0.spec (Decoder.mk (!(sEq p0.meta_.kind Q6)))).2).1) ∧ (H_Kn (s_Kw p0.status (s_Kw p0.spec (Decoder.mk (!(sEq p0.meta_.kind Q6)))).2).1) ∧ (Q1mr (s_Kw p0.status (s_Kw p0.spec (Decoder.mk (!(sEq p0.meta_.kind Q6)))).2).1) ∧ True := by
  repeat' with_reducible apply And.intro
  all_goals first | exact True.intro | exact H.1 | exact H.2.1 | exact H.2.2 | exact Qas (Q3t H.2.1 _)
theorem t_Kc (p0 : Object) (H : H_Kc p0) : Q7 G (c_Kc p0) (a_Kc p0) := by
 unfold a_Kc
 rw [e_Kc]
 cases h0 : (Qp0 (s_Kw p0.status (s_Kw p0.spec (Decoder.mk (!(sEq p0.meta_.kind Q6)))).2).1 Q2t (s_Ki (s_Kw p0.status (s_Kw p0.spec (Decoder.mk (!(sEq p0.meta_.kind Q6)))).2).1 Q2b (s_Ki (s_Kw p0.status (s_Kw p0.spec (Decoder.mk (!(sEq p0.meta_.kind Q6)))).2).1 Q2c (s_Kn (s_Kw p0.status (s_Kw p0.spec (Decoder.mk (!(sEq p0.meta_.kind Q6)))).2).1 Q2y (s_Ki (s_Kw p0.status (s_Kw p0.spec (Decoder.mk (!(sEq p0.meta_.kind Q6)))).2).1 Qi (Q6e (s_Kw p0.spec (Decoder.mk (!(sEq p0.meta_.kind Q6)))).1 Q1m (s_Ki (s_Kw p0.spec (Decoder.mk (!(sEq p0.meta_.kind Q6)))).1 Q13 (s_Kn (s_Kw p0.spec (Decoder.mk (!(sEq p0.meta_.kind Q6)))).1 Q17 (s_Kr (s_Kx (s_Kw p0.spec (Decoder.mk (!(sEq p0.meta_.kind Q6)))).1 Qf (s_Kw p0.status (s_Kw p0.spec (Decoder.mk (!(sEq p0.meta_.kind Q6)))).2).2).1 (s_Kx (s_Kw p0.spec (Decoder.mk (!(sEq p0.meta_.kind Q6)))).1 Qf (s_Kw p0.status (s_Kw p0.spec (Decoder.mk (!(sEq p0.meta_.kind Q6)))).2).2).2).2).2).2).2).2).2).2).2).2.failed with
 | true =>
  exact Q8 (fn := Ir.Kc) rfl VOK.nil [hP 64 (decR (Qp0 (s_Kw p0.status (s_Kw p0.spec (Decoder.mk (!(sEq p0.meta_.kind Q6)))).2).1 Q2t (s_Ki (s_Kw p0.status (s_Kw p0.spec (Decoder.mk (!(sEq p0.meta_.kind Q6)))).2).1 Q2b (s_Ki (s_Kw p0.status (s_Kw p0.spec (Decoder.mk (!(sEq p0.meta_.kind Q6)))).2).1 Q2c (s_Kn (s_Kw p0.status (s_Kw p0.spec (Decoder.mk (!(sEq p0.meta_.kind Q6)))).2).1 Q2y (s_Ki (s_Kw p0.status (s_Kw p0.spec (Decoder.mk (!(sEq p0.meta_.kind Q6)))).2).1 Qi (Q6e (s_Kw p0.spec (Decoder.mk (!(sEq p0.meta_.kind Q6)))).1 Q1m (s_Ki (s_Kw p0.spec (Decoder.mk (!(sEq p0.meta_.kind Q6)))).1 Q13 (s_Kn (s_Kw p0.spec (Decoder.mk (!(sEq p0.meta_.kind Q6)))).1 Q17 (s_Kr (s_Kx (s_Kw p0.spec (Decoder.mk (!(sEq p0.meta_.kind Q6)))).1 Qf (s_Kw p0.status (s_Kw p0.spec (Decoder.mk (!(sEq p0.meta_.kind Q6)))).2).2).1 (s_Kx (s_Kw p0.spec (Decoder.mk (!(sEq p0.meta_.kind Q6)))).1 Qf (s_Kw p0.status (s_Kw p0.spec (Decoder.mk (!(sEq p0.meta_.kind Q6)))).2).2).2).2).2).2).2).2).2).2).2).2.failed true [512] h0)] [aN (t_Kw p0.spec (Decoder.mk (!(sEq p0.meta_.kind Q6)))), aN (t_Kw p0.status (s_Kw p0.spec (Decoder.mk (!(sEq p0.meta_.kind Q6)))).2), aN (t_Kf p0.meta_ (Q3l p0 H).1), aN (t_Kx (s_Kw p0.spec (Decoder.mk (!(sEq p0.meta_.kind Q6)))).1 Qf (s_Kw p0.status (s_Kw p0.spec (Decoder.mk (!(sEq p0.meta_.kind Q6)))).2).2 (Q3l p0 H).2.1), aN (t_Kr (s_Kx (s_Kw p0.spec (Decoder.mk (!(sEq p0.meta_.kind Q6)))).1 Qf (s_Kw p0.status (s_Kw p0.spec (Decoder.mk (!(sEq p0.meta_.kind Q6)))).2).2).1 (s_Kx (s_Kw p0.spec (Decoder.mk (!(sEq p0.meta_.kind Q6)))).1 Qf (s_Kw p0.status (s_Kw p0.spec (Decoder.mk (!(sEq p0.meta_.kind Q6)))).2).2).2 (Q3l p0 H).2.2.1), aN (t_Kn (s_Kw p0.spec (Decoder.mk (!(sEq p0.meta_.kind Q6)))).1 Q17 (s_Kr (s_Kx (s_Kw p0.spec (Decoder.mk (!(sEq p0.meta_.kind Q6)))).1 Qf (s_Kw p0.status (s_Kw p0.spec (Decoder.mk (!(sEq p0.meta_.kind Q6)))).2).2).1 (s_Kx (s_Kw p0.spec (Decoder.mk (!(sEq p0.meta_.kind Q6)))).1 Qf (s_Kw p0.status (s_Kw p0.spec (Decoder.mk (!(sEq p0.meta_.kind Q6)))).2).2).2).2 (Q3l p0 H).2.2.2.1), aN (t_Ki (s_Kw p0.spec (Decoder.mk (!(sEq p0.meta_.kind Q6)))).1 Q13 (s_Kn (s_Kw p0.spec (Decoder.mk (!(sEq p0.meta_.kind Q6)))).1 Q17 (s_Kr (s_Kx (s_Kw p0.spec (Decoder.mk (!(sEq p0.meta_.kind Q6)))).1 Qf (s_Kw p0.status (s_Kw p0.spec (Decoder.mk (!(sEq p0.meta_.kind Q6)))).2).2).1 (s_Kx (s_Kw p0.spec (Decoder.mk (!(sEq p0.meta_.kind Q6)))).1 Qf (s_Kw p0.status (s_Kw p0.spec (Decoder.mk (!(sEq p0.meta_.kind Q6)))).2).2).2).2).2 (Q3l p0 H).2.2.2.2.1), aN (Q1pq (s_Kw p0.spec (Decoder.mk (!(sEq p0.meta_.kind Q6)))).1 Q1m (s_Ki (s_Kw p0.spec (Decoder.mk (!(sEq p0.meta_.kind Q6)))).1 Q13 (s_Kn (s_Kw p0.spec (Decoder.mk (!(sEq p0.meta_.kind Q6)))).1 Q17 (s_Kr (s_Kx (s_Kw p0.spec (Decoder.mk (!(sEq p0.meta_.kind Q6)))).1 Qf (s_Kw p0.status (s_Kw p0.spec (Decoder.mk (!(sEq p0.meta_.kind Q6)))).2).2).1 (s_Kx (s_Kw p0.spec (Decoder.mk (!(sEq p0.meta_.kind Q6)))).1 Qf (s_Kw p0.status (s_Kw p0.spec (Decoder.mk (!(sEq p0.meta_.kind Q6)))).2).2).2).2).2).2 (Q3l p0 H).2.2.2.2.2.1), aN (t_Ki (s_Kw p0.status (s_Kw p0.spec (Decoder.mk (!(sEq p0.meta_.kind Q6)))).2).1 Qi (Q6e (s_Kw p0.spec (Decoder.mk (!(sEq p0.meta_.kind Q6)))).1 Q1m (s_Ki (s_Kw p0.spec (Decoder.mk (!(sEq p0.meta_.kind Q6)))).1 Q13 (s_Kn (s_Kw p0.spec (Decoder.mk (!(sEq p0.meta_.kind Q6)))).1 Q17 (s_Kr (s_Kx (s_Kw p0.spec (Decoder.mk (!(sEq p0.meta_.kind Q6)))).1 Qf (s_Kw p0.status (s_Kw p0.spec (Decoder.mk (!(sEq p0.meta_.kind Q6)))).2).2).1 (s_Kx (s_Kw p0.spec (Decoder.mk (!(sEq p0.meta_.kind Q6)))).1 Qf (s_Kw p0.status (s_Kw p0.spec (Decoder.mk (!(sEq p0.meta_.kind Q6)))).2).2).2).2).2).2).2 (Q3l p0 H).2.2.2.2.2.2.1), aN (t_Kn (s_Kw p0.status (s_Kw p0.spec (Decoder.mk (!(sEq p0.meta_.kind Q6)))).2).1 Q2y (s_Ki (s_Kw p0.status (s_Kw p0.spec (Decoder.mk (!(sEq p0.meta_.kind Q6)))).2).1 Qi (Q6e (s_Kw p0.spec (Decoder.mk (!(sEq p0.meta_.kind Q6)))).1 Q1m (s_Ki (s_Kw p0.spec (Decoder.mk (!(sEq p0.meta_.kind Q6)))).1 Q13 (s_Kn (s_Kw p0.spec (Decoder.mk (!(sEq p0.meta_.kind Q6)))).1 Q17 (s_Kr (s_Kx (s_Kw p0.spec (Decoder.mk (!(sEq p0.meta_.kind Q6)))).1 Qf (s_Kw p0.status (s_Kw p0.spec (Decoder.mk (!(sEq p0.meta_.kind Q6)))).2).2).1 (s_Kx (s_Kw p0.spec (Decoder.mk (!(sEq p0.meta_.kind Q6)))).1 Qf (s_Kw p0.status (s_Kw p0.spec (Decoder.mk (!(sEq p0.meta_.kind Q6)))).2).2).2).2).2).2).2).2 (Q3l p0 H).2.2.2.2.2.2.2.1), aN (t_Ki (s_Kw p0.status (s_Kw p0.spec (Decoder.mk (!(sEq p0.meta_.kind Q6)))).2).1 Q2c (s_Kn (s_Kw p0.status (s_Kw p0.spec (Decoder.mk (!(sEq p0.meta_.kind Q6)))).2).1 Q2y (s_Ki (s_Kw p0.status (s_Kw p0.spec (Decoder.mk (!(sEq p0.meta_.kind Q6)))).2).1 Qi (Q6e (s_Kw p0.spec (Decoder.mk (!(sEq p0.meta_.kind Q6)))).1 Q1m (s_Ki (s_Kw p0.spec (Decoder.mk (!(sEq p0.meta_.kind Q6)))).1 Q13 (s_Kn (s_Kw p0.spec (Decoder.mk (!(sEq p0.meta_.kind Q6)))).1 Q17 (s_Kr (s_Kx (s_Kw p0.spec (Decoder.mk (!(sEq p0.meta_.kind Q6)))).1 Qf (s_Kw p0.status (s_Kw p0.spec (Decoder.mk (!(sEq p0.meta_.kind Q6)))).2).2).1 (s_Kx (s_Kw p0.spec (Decoder.mk (!(sEq p0.meta_.kind Q6)))).1 Qf (s_Kw p0.status (s_Kw p0.spec (Decoder.mk (!(sEq p0.meta_.kind Q6)))).2).2).2).2).2).2).2).2).2 (Q3l p0 H).2.2.2.2.2.2.1), aN (t_Ki (s_Kw p0.status (s_Kw p0.spec (Decoder.mk (!(sEq p0.meta_.kind Q6)))).2).1 Q2b (s_Ki (s_Kw p0.status (s_Kw p0.spec (Decoder.mk (!(sEq p0.meta_.kind Q6)))).2).1 Q2c (s_Kn (s_Kw p0.status (s_Kw p0.spec (Decoder.mk (!(sEq p0.meta_.kind Q6)))).2).1 Q2y (s_Ki (s_Kw p0.status (s_Kw p0.spec (Decoder.mk (!(sEq p0.meta_.kind Q6)))).2).1 Qi (Q6e (s_Kw p0.spec (Decoder.mk (!(sEq p0.meta_.kind Q6)))).1 Q1m (s_Ki (s_Kw p0.spec (Decoder.mk (!(sEq p0.meta_.kind Q6)))).1 Q13 (s_Kn (s_Kw p0.spec (Decoder.mk (!(sEq p0.meta_.kind Q6)))).1 Q17 (s_Kr (s_Kx (s_Kw p0.spec (Decoder.mk (!(sEq p0.meta_.kind Q6)))).1 Qf (s_Kw p0.status (s_Kw p0.spec (Decoder.mk (!(sEq p0.meta_.kind Q6)))).2).2).1 (s_Kx (s_Kw p0.spec (Decoder.mk (!(sEq p0.meta_.kind Q6)))).1 Qf (s_Kw p0.status (s_Kw p0.spec (Decoder.mk (!(sEq p0.meta_.kind Q6)))).2).2).2).2).2).2).2).2).2).2 (Q3l p0 H).2.2.2.2.2.2.1), aN (Q1pl (s_Kw p0.status (s_Kw p0.spec (Decoder.mk (!(sEq p0.meta_.kind Q6)))).2).1 Q2t (s_Ki (s_Kw p0.status (s_Kw p0.spec (Decoder.mk (!(sEq p0.meta_.kind Q6)))).2).1 Q2b (s_Ki (s_Kw p0.status (s_Kw p0.spec (Decoder.mk (!(sEq p0.meta_.kind Q6)))).2).1 Q2c (s_Kn (s_Kw p0.status (s_Kw p0.spec (Decoder.mk (!(sEq p0.meta_.kind Q6)))).2).1 Q2y (s_Ki (s_Kw p0.status (s_Kw p0.spec (Decoder.mk (!(sEq p0.meta_.kind Q6)))).2).1 Qi (Q6e (s_Kw p0.spec (Decoder.mk (!(sEq p0.meta_.kind Q6)))).1 Q1m (s_Ki (s_Kw p0.spec (Decoder.mk (!(sEq p0.meta_.kind Q6)))).1 Q13 (s_Kn (s_Kw p0.spec (Decoder.mk (!(sEq p0.meta_.kind Q6)))).1 Q17 (s_Kr (s_Kx (s_Kw p0.spec (Decoder.mk (!(sEq p0.meta_.kind Q6)))).1 Qf (s_Kw p0.status (s_Kw p0.spec (Decoder.mk (!(sEq p0.meta_.kind Q6)))).2).2).1 (s_Kx (s_Kw p0.spec (Decoder.mk (!(sEq p0.meta_.kind Q6)))).1 Qf (s_Kw p0.status (s_Kw p0.spec (Decoder.mk (!(sEq p0.meta_.kind Q6)))).2).2).2).2).2).2).2).2).2).2).2 (Q3l p0 H).2.2.2.2.2.2.2.2.1)] (by kernel_rfl)
 | false =>
  exact Q8 (fn := Ir.Kc) rfl VOK.nil [hP 64 (decR (Qp0 (s_Kw p0.status (s_Kw p0.spec (Decoder.mk (!(sEq p0.meta_.kind Q6)))).2).1 Q2t (s_Ki (s_Kw p0.status (s_Kw p0.spec (Decoder.mk (!(sEq p0.meta_.kind Q6)))).2).1 Q2b (s_Ki (s_Kw p0.status (s_Kw p0.spec (Decoder.mk (!(sEq p0.meta_.kind Q6)))).2).1 Q2c (s_Kn (s_Kw p0.status (s_Kw p0.spec (Decoder.mk (!(sEq p0.meta_.kind Q6)))).2).1 Q2y (s_Ki (s_Kw p0.status (s_Kw p0.spec (Decoder.mk (!(sEq p0.meta_.kind Q6)))).2).1 Qi (Q6e (s_Kw p0.spec (Decoder.mk (!(sEq p0.meta_.kind Q6)))).1 Q1m (s_Ki (s_Kw p0.spec (Decoder.mk (!(sEq p0.meta_.kind Q6)))).1 Q13 (s_Kn (s_Kw p0.spec (Decoder.mk (!(sEq p0.meta_.kind Q6)))).1 Q17 (s_Kr (s_Kx (s_Kw p0.spec (Decoder.mk (!(sEq p0.meta_.kind Q6)))).1 Qf (s_Kw p0.status (s_Kw p0.spec (Decoder.mk (!(sEq p0.meta_.kind Q6)))).2).2).1 (s_Kx (s_Kw p0.spec (Decoder.mk (!(sEq p0.meta_.kind Q6)))).1 Qf (s_Kw p0.status (s_Kw p0.spec (Decoder.mk (!(sEq p0.meta_.kind Q6)))).2).2).2).2).2).2).2).2).2).2).2).2.failed false [512] h0)] [aN (t_Kw p0.spec (Decoder.mk (!(sEq p0.meta_.kind Q6)))), aN (t_Kw p0.status (s_Kw p0.spec (Decoder.mk (!(sEq p0.meta_.kind Q6)))).2), aN (t_Kf p0.meta_ (Q3l p0 H).1), aN (t_Kx (s_Kw p0.spec (Decoder.mk (!(sEq p0.meta_.kind Q6)))).1 Qf (s_Kw p0.status (s_Kw p0.spec (Decoder.mk (!(sEq p0.meta_.kind Q6)))).2).2 (Q3l p0 H).2.1), aN (t_Kr (s_Kx (s_Kw p0.spec (Decoder.mk (!(sEq p0.meta_.kind Q6)))).1 Qf (s_Kw p0.status (s_Kw p0.spec (Decoder.mk (!(sEq p0.meta_.kind Q6)))).2).2).1 (s_Kx (s_Kw p0.spec (Decoder.mk (!(sEq p0.meta_.kind Q6)))).1 Qf (s_Kw p0.status (s_Kw p0.spec (Decoder.mk (!(sEq p0.meta_.kind Q6)))).2).2).2 (Q3l p0 H).2.2.1), aN (t_Kn (s_Kw p0.spec (Decoder.mk (!(sEq p0.meta_.kind Q6)))).1 Q17 (s_Kr (s_Kx (s_Kw p0.spec (Decoder.mk (!(sEq p0.meta_.kind Q6)))).1 Qf (s_Kw p0.status (s_Kw p0.spec (Decoder.mk (!(sEq p0.meta_.kind Q6)))).2).2).1 (s_Kx (s_Kw p0.spec (Decoder.mk (!(sEq p0.meta_.kind Q6)))).1 Qf (s_Kw p0.status (s_Kw p0.spec (Decoder.mk (!(sEq p0.meta_.kind Q6)))).2).2).2).2 (Q3l p0 H).2.2.2.1), aN (t_Ki (s_Kw p0.spec (Decoder.mk (!(sEq p0.meta_.kind Q6)))).1 Q13 (s_Kn (s_Kw p0.spec (Decoder.mk (!(sEq p0.meta_.kind Q6)))).1 Q17 (s_Kr (s_Kx (s_Kw p0.spec (Decoder.mk (!(sEq p0.meta_.kind Q6)))).1 Qf (s_Kw p0.status (s_Kw p0.spec (Decoder.mk (!(sEq p0.meta_.kind Q6)))).2).2).1 (s_Kx (s_Kw p0.spec (Decoder.mk (!(sEq p0.meta_.kind Q6)))).1 Qf (s_Kw p0.status (s_Kw p0.spec (Decoder.mk (!(sEq p0.meta_.kind Q6)))).2).2).2).2).2 (Q3l p0 H).2.2.2.2.1), aN (Q1pq (s_Kw p0.spec (Decoder.mk (!(sEq p0.meta_.kind Q6)))).1 Q1m (s_Ki (s_Kw p0.spec (Decoder.mk (!(sEq p0.meta_.kind Q6)))).1 Q13 (s_Kn (s_Kw p0.spec (Decoder.mk (!(sEq p0.meta_.kind Q6)))).1 Q17 (s_Kr (s_Kx (s_Kw p0.spec (Decoder.mk (!(sEq p0.meta_.kind Q6)))).1 Qf (s_Kw p0.status (s_Kw p0.spec (Decoder.mk (!(sEq p0.meta_.kind Q6)))).2).2).1 (s_Kx (s_Kw p0.spec (Decoder.mk (!(sEq p0.meta_.kind Q6)))).1 Qf (s_Kw p0.status (s_Kw p0.spec (Decoder.mk (!(sEq p0.meta_.kind Q6)))).2).2).2).2).2).2 (Q3l p0 H).2.2.2.2.2.1), aN (t_Ki (s_Kw p0.status (s_Kw p0.spec (Decoder.mk (!(sEq p0.meta_.kind Q6)))).2).1 Qi (Q6e (s_Kw p0.spec (Decoder.mk (!(sEq p0.meta_.kind Q6)))).1 Q1m (s_Ki (s_Kw p0.spec (Decoder.mk (!(sEq p0.meta_.kind Q6)))).1 Q13 (s_Kn (s_Kw p0.spec (Decoder.mk (!(sEq p0.meta_.kind Q6)))).1 Q17 (s_Kr (s_Kx (s_Kw p0.spec (Decoder.mk (!(sEq p0.meta_.kind Q6)))).1 Qf (s_Kw p0.status (s_Kw p0.spec (Decoder.mk (!(sEq p0.meta_.kind Q6)))).2).2).1 (s_Kx (s_Kw p0.spec (Decoder.mk (!(sEq p0.meta_.kind Q6)))).1 Qf (s_Kw p0.status (s_Kw p0.spec (Decoder.mk (!(sEq p0.meta_.kind Q6)))).2).2).2).2).2).2).2 (Q3l p0 H).2.2.2.2.2.2.1), aN (t_Kn (s_Kw p0.status (s_Kw p0.spec (Decoder.mk (!(sEq p0.meta_.kind Q6)))).2).1 Q2y (s_Ki (s_Kw p0.status (s_Kw p0.spec (Decoder.mk (!(sEq p0.meta_.kind Q6)))).2).1 Qi (Q6e (s_Kw p0.spec (Decoder.mk (!(sEq p0.meta_.kind Q6)))).1 Q1m (s_Ki (s_Kw p0.spec (Decoder.mk (!(sEq p0.meta_.kind Q6)))).1 Q13 (s_Kn (s_Kw p0.spec (Decoder.mk (!(sEq p0.meta_.kind Q6)))).1 Q17 (s_Kr (s_Kx (s_Kw p0.spec (Decoder.mk (!(sEq p0.meta_.kind Q6)))).1 Qf (s_Kw p0.status (s_Kw p0.spec (Decoder.mk (!(sEq p0.meta_.kind Q6)))).2).2).1 (s_Kx (s_Kw p0.spec (Decoder.mk (!(sEq p0.meta_.kind Q6)))).1 Qf (s_Kw p0.status (s_Kw p0.spec (Decoder.mk (!(sEq p0.meta_.kind Q6)))).2).2).2).2).2).2).2).2 (Q3l p0 H).2.2.2.2.2.2.2.1), aN (t_Ki (s_Kw p0.status (s_Kw p0.spec (Decoder.mk (!(sEq p0.meta_.kind Q6)))).2).1 Q2c (s_Kn (s_Kw p0.status (s_Kw p0.spec (Decoder.mk (!(sEq p0.meta_.kind Q6)))).2).1 Q2y (s_Ki (s_Kw p0.status (s_Kw p0.spec (Decoder.mk (!(sEq p0.meta_.kind Q6)))).2).1 Qi (Q6e (s_Kw p0.spec (Decoder.mk (!(sEq p0.meta_.kind Q6)))).1 Q1m (s_Ki (s_Kw p0.spec (Decoder.mk (!(sEq p0.meta_.kind Q6)))).1 Q13 (s_Kn (s_Kw p0.spec (Decoder.mk (!(sEq p0.meta_.kind Q6)))).1 Q17 (s_Kr (s_Kx (s_Kw p0.spec (Decoder.mk (!(sEq p0.meta_.kind Q6)))).1 Qf (s_Kw p0.status (s_Kw p0.spec (Decoder.mk (!(sEq p0.meta_.kind Q6)))).2).2).1 (s_Kx (s_Kw p0.spec (Decoder.mk (!(sEq p0.meta_.kind Q6)))).1 Qf (s_Kw p0.status (s_Kw p0.spec (Decoder.mk (!(sEq p0.meta_.kind Q6)))).2).2).2).2).2).2).2).2).2 (Q3l p0 H).2.2.2.2.2.2.1), aN (t_Ki (s_Kw p0.status (s_Kw p0.spec (Decoder.mk (!(sEq p0.meta_.kind Q6)))).2).1 Q2b (s_Ki (s_Kw p0.status (s_Kw p0.spec (Decoder.mk (!(sEq p0.meta_.kind Q6)))).2).1 Q2c (s_Kn (s_Kw p0.status (s_Kw p0.spec (Decoder.mk (!(sEq p0.meta_.kind Q6)))).2).1 Q2y (s_Ki (s_Kw p0.status (s_Kw p0.spec (Decoder.mk (!(sEq p0.meta_.kind Q6)))).2).1 Qi (Q6e (s_Kw p0.spec (Decoder.mk (!(sEq p0.meta_.kind Q6)))).1 Q1m (s_Ki (s_Kw p0.spec (Decoder.mk (!(sEq p0.meta_.kind Q6)))).1 Q13 (s_Kn (s_Kw p0.spec (Decoder.mk (!(sEq p0.meta_.kind Q6)))).1 Q17 (s_Kr (s_Kx (s_Kw p0.spec (Decoder.mk (!(sEq p0.meta_.kind Q6)))).1 Qf (s_Kw p0.status (s_Kw p0.spec (Decoder.mk (!(sEq p0.meta_.kind Q6)))).2).2).1 (s_Kx (s_Kw p0.spec (Decoder.mk (!(sEq p0.meta_.kind Q6)))).1 Qf (s_Kw p0.status (s_Kw p0.spec (Decoder.mk (!(sEq p0.meta_.kind Q6)))).2).2).2).2).2).2).2).2).2).2 (Q3l p0 H).2.2.2.2.2.2.1), aN (Q1pl (s_Kw p0.status (s_Kw p0.spec (Decoder.mk (!(sEq p0.meta_.kind Q6)))).2).1 Q2t (s_Ki (s_Kw p0.status (s_Kw p0.spec (Decoder.mk (!(sEq p0.meta_.kind Q6)))).2).1 Q2b (s_Ki (s_Kw p0.status (s_Kw p0.spec (Decoder.mk (!(sEq p0.meta_.kind Q6)))).2).1 Q2c (s_Kn (s_Kw p0.status (s_Kw p0.spec (Decoder.mk (!(sEq p0.meta_.kind Q6)))).2).1 Q2y (s_Ki (s_Kw p0.status (s_Kw p0.spec (Decoder.mk (!(sEq p0.meta_.kind Q6)))).2).1 Qi (Q6e (s_Kw p0.spec (Decoder.mk (!(sEq p0.meta_.kind Q6)))).1 Q1m (s_Ki (s_Kw p0.spec (Decoder.mk (!(sEq p0.meta_.kind Q6)))).1 Q13 (s_Kn (s_Kw p0.spec (Decoder.mk (!(sEq p0.meta_.kind Q6)))).1 Q17 (s_Kr (s_Kx (s_Kw p0.spec (Decoder.mk (!(sEq p0.meta_.kind Q6)))).1 Qf (s_Kw p0.status (s_Kw p0.spec (Decoder.mk (!(sEq p0.meta_.kind Q6)))).2).2).1 (s_Kx (s_Kw p0.spec (Decoder.mk (!(sEq p0.meta_.kind Q6)))).1 Qf (s_Kw p0.status (s_Kw p0.spec (Decoder.mk (!(sEq p0.meta_.kind Q6)))).2).2).2).2).2).2).2).2).2).2).2 (Q3l p0 H).2.2.2.2.2.2.2.2.1)] (by kernel_rfl)
def Q5d (p1 : Val) (p2 : BA) (o0 : Decoder) : List Val → Nat → Bool → (List Label) → Bool × (List Label)
 | [], _i0, v0_1, v0_2 =>
  (v0_1, v0_2)
 | x0 :: r0, i0, v0_1, v0_2 =>
  Q5d p1 p2 o0 r0 (i0 + 1) (s_Kl x0 (Decoder.mk v0_1)).2.failed (v0_2 ++ [(s_Kl x0 (Decoder.mk v0_1)).1])
def Qyl (p1 : Val) (p2 : BA) (o0 : Decoder) (i0 : Nat) (_v0_1 : Bool) (v0_2 : List Label) : List PV :=
  [.un, .un, .un, .fn 52 [.bx 0 0] []] ++ nuns 5 ++ [.ms 1 2 0 (List.length v0_2)] ++ nuns 6 ++ [.sl (Val.rows (s_Kj p1 p2 4 o0).1.list), .int .i64 ((List.length (s_Kj p1 p2 4 o0).1.list) : Int), .int .i64 (i0 : Int)] ++ nuns 11
def Qms (_p1 : Val) (_p2 : BA) (_o0 : Decoder) (_i0 : Nat) (v0_1 : Bool) (v0_2 : List Label) : List Ob :=
  [⟨1, 0, false, [.bool v0_1]⟩, ⟨2, 0, true, (Label.rows v0_2).flatten⟩]
def Qgk (p1 : Val) (p2 : BA) (o0 : Decoder) (i0 : Nat) (v0_1 : Bool) (v0_2 : List Label) : En := .loop 1 Ir.Qlg Ir.Q1jz (Qyl p1 p2 o0 i0 v0_1 v0_2) (Qms p1 p2 o0 i0 v0_1 v0_2)
def Qry (_p1 : Val) (_p2 : BA) (_o0 : Decoder) (q0 : Bool) (q1 : List Label) (z : Nat → PV) (_zo : Nat → List PV) : St :=
  ⟨zr z 0 9 ++ [.ms 1 2 0 (List.length q1)] ++ zr z 10 20, [(0, ⟨1, 0, false, [.bool q0]⟩), (1, ⟨2, 0, true, (Label.rows q1).flatten⟩)], 66⟩
theorem Q16o (p1 : Val) (p2 : BA) (o0 : Decoder) (i0 : Nat) (v0_1 : Bool) (v0_2 : List Label) : VOK (Go.Pv.look (number 0 (Qms p1 p2 o0 i0 v0_1 v0_2))) [(1, Label.rows v0_2)] := (VOK.cons (show Seen _ _ from Q3g (ob := ⟨2, 0, true, (Label.rows v0_2).flatten⟩) (Label.Q9 v0_2 2 rfl)) VOK.nil)
def Qgd (p1 : Val) (p2 : BA) (o0 : Decoder) (e : En) (q : Bool × (List Label)) : Prop := ∃ z zo, Q7 G e (.st (.exit 0) (Qry p1 p2 o0 q.1 q.2 z zo))
theorem Quh (p1 : Val) (p2 : BA) (o0 : Decoder) {e e' : En} (h : ∀ r, Q7 G e r → Q7 G e' r) : ∀ q, Qgd p1 p2 o0 e q → Qgd p1 p2 o0 e' q
  | _, ⟨z, zo, hz⟩ => ⟨z, zo, h _ hz⟩
def Qc1 (p1 : Val) (p2 : BA) (o0 : Decoder) : Prop := (List.length (s_Kj p1 p2 4 o0).1.list ≤ 137438953472) ∧ (∀ x0 ∈ (s_Kj p1 p2 4 o0).1.list, H_Kl x0) ∧ True
def Qrh (p1 : Val) (p2 : BA) (o0 : Decoder) (i0 : Nat) (_v0_1 : Bool) (_v0_2 : List Label) : List PV :=
  [.un, .un, .un, .fn 52 [.bx 0 0] []] ++ nuns 12 ++ [.sl (Val.rows (s_Kj p1 p2 4 o0).1.list), .int .i64 ((List.length (s_Kj p1 p2 4 o0).1.list) : Int), .int .i64 (i0 : Int), .bool false]
def Qn1 (_p1 : Val) (_p2 : BA) (_o0 : Decoder) (_i0 : Nat) (_v0_1 : Bool) (_v0_2 : List Label) : List (Nat × List PV) :=
  []
theorem Q18x (p1 : Val) (p2 : BA) (o0 : Decoder) (_H : Qc1 p1 p2 o0) (i0 : Nat) (v0_1 : Bool) (v0_2 : List Label) (_ho0_0 : List.length v0_2 ≤ i0) (hc0 : (decide ((i0 : Int) < ((List.length (s_Kj p1 p2 4 o0).1.list) : Int))) = false) : Qgd p1 p2 o0 (Qgk p1 p2 o0 i0 v0_1 v0_2) (v0_1, v0_2) := by
 exact ⟨(envF (Qrh p1 p2 o0 i0 v0_1 v0_2)), (zoF (Qn1 p1 p2 o0 i0 v0_1 v0_2)), Qg (Q16o p1 p2 o0 i0 v0_1 v0_2) (x := ((.exit 0), Qry p1 p2 o0 v0_1 v0_2 (envF (Qrh p1 p2 o0 i0 v0_1 v0_2)) (zoF (Qn1 p1 p2 o0 i0 v0_1 v0_2)))) [hB 0 hc0] [] (by kernel_rfl)⟩
theorem Q1ab (p1 : Val) (p2 : BA) (o0 : Decoder) (H : Qc1 p1 p2 o0) (x0 : Val) (i0 : Nat) (v0_1 : Bool) (v0_2 : List Label) (hx0 : (s_Kj p1 p2 4 o0).1.list[i0]? = some x0) (hi0 : i0 < List.length (s_Kj p1 p2 4 o0).1.list) (ho0_0 : List.length v0_2 ≤ i0) (hc0 : (decide ((i0 : Int) < ((List.length (s_Kj p1 p2 4 o0).1.list) : Int))) = true) {r : Rs} (hr : Q7 G (Qgk p1 p2 o0 (i0 + 1) (s_Kl x0 (Decoder.mk v0_1)).2.failed (v0_2 ++ [(s_Kl x0 (Decoder.mk v0_1)).1])) r) : Q7 G (Qgk p1 p2 o0 i0 v0_1 v0_2) r := by
 have hB0 := H.1
 exact Qk (Q16o p1 p2 o0 i0 v0_1 v0_2) (y := (Qyl p1 p2 o0 (i0 + 1) (s_Kl x0 (Decoder.mk v0_1)).2.failed (v0_2 ++ [(s_Kl x0 (Decoder.mk v0_1)).1]), Qms p1 p2 o0 (i0 + 1) (s_Kl x0 (Decoder.mk v0_1)).2.failed (v0_2 ++ [(s_Kl x0 (Decoder.mk v0_1)).1]))) [hB 0 hc0, hP 0 (Q1j 5 (Val.rows (s_Kj p1 p2 4 o0).1.list) i0 _ (Val.Qc hx0) rfl), hV 8 [(642, Label.rows (v0_2 ++ [(s_Kl x0 (Decoder.mk v0_1)).1]))] (Q3z 1 578 642 2 32 0 0 true (Label.rows v0_2) (Label.rows (v0_2 ++ [(s_Kl x0 (Decoder.mk v0_1)).1])) (Label.cells (s_Kl x0 (Decoder.mk v0_1)).1) (List.length v0_2) (List.length (v0_2 ++ [(s_Kl x0 (Decoder.mk v0_1)).1])) rfl (Label.Q5 v0_2).symm (Label.Q5 (v0_2 ++ [(s_Kl x0 (Decoder.mk v0_1)).1])).symm (Label.Q14 v0_2 (s_Kl x0 (Decoder.mk v0_1)).1) (Label.Qm v0_2) rfl (by omega)), hS 0 true (Label.Q9 (v0_2 ++ [(s_Kl x0 (Decoder.mk v0_1)).1]) 2 rfl), hP 1 (Q22 i0 (by omega))] [aN (t_Kl x0 (Decoder.mk v0_1) (H.2.1 x0 (Q2a hx0)))] (by kernel_rfl) hr
theorem Qxu (p1 : Val) (p2 : BA) (o0 : Decoder) (H : Qc1 p1 p2 o0) : ∀ (r0 : List Val) (i0 : Nat) (v0_1 : Bool) (v0_2 : List Label), List.drop i0 (s_Kj p1 p2 4 o0).1.list = r0 → List.length v0_2 ≤ i0 → Qgd p1 p2 o0 (Qgk p1 p2 o0 i0 v0_1 v0_2) (Q5d p1 p2 o0 r0 i0 v0_1 v0_2)
 | [], i0, v0_1, v0_2, hd, ho0_0 => by
  have hc0 : (decide ((i0 : Int) < ((List.length (s_Kj p1 p2 4 o0).1.list) : Int))) = false := by have := Q19 hd; simp; omega
  rw [Q5d]
  exact Q18x p1 p2 o0 H i0 v0_1 v0_2 ho0_0 hc0
 | x0 :: r0, i0, v0_1, v0_2, hd, ho0_0 => by
  obtain ⟨hx0, hi0, hd'⟩ := Q11 hd
  have hc0 : (decide ((i0 : Int) < ((List.length (s_Kj p1 p2 4 o0).1.list) : Int))) = true := by simp; omega
  rw [Q5d]
  exact Quh p1 p2 o0 (fun r hr => Q1ab p1 p2 o0 H x0 i0 v0_1 v0_2 hx0 hi0 ho0_0 hc0 hr) _ (Qxu p1 p2 o0 H r0 (i0 + 1) (s_Kl x0 (Decoder.mk v0_1)).2.failed (v0_2 ++ [(s_Kl x0 (Decoder.mk v0_1)).1]) hd' (by first | omega | (simp; omega)))
def Q76 (p1 : Val) (p2 : BA) (o0 : Decoder) : List Label × Decoder := ((dE Label.dec p1 p2).1, ft o0 (isM p1 && (dE Label.dec p1 p2).2))
theorem Q177 (p1 : Val) (p2 : BA) (o0 : Decoder) : ∀ (l : List Val) (i : Nat) (b : Bool) (a : List Label), Q5d p1 p2 o0 l i b a = (b || !(l.all fun x => (Label.dec x).2), a ++ l.map (fun x => (Label.dec x).1))
  | [], _, b, a => by rw [Q5d]; simp
  | x :: l, i, b, a => by
    rw [Q5d]
    refine (Q177 p1 p2 o0 l (i + 1) (b || !(Label.dec x).2) (a ++ [(Label.dec x).1])).trans ?_
    simp only [List.append_assoc, List.singleton_append, List.map_cons, List.all_cons, Bool.not_and, Bool.or_assoc]
theorem Q1t5 (p1 : Val) (p2 : BA) (o0 : Decoder) : Q76 p1 p2 o0 = (((Q5d p1 p2 o0 (s_Kj p1 p2 4 o0).1.list 0 (s_Kj p1 p2 4 o0).2.failed []).2, (Decoder.mk (Q5d p1 p2 o0 (s_Kj p1 p2 4 o0).1.list 0 (s_Kj p1 p2 4 o0).2.failed []).1))) := by
  rw [Q177]
  unfold s_Kj Q76
  simp only [getL, Q3o]
  refine Prod.ext rfl ?_
  rw [Q6f o0.failed (isM p1) _ _ _ (Qfe (prt p1 p2)), Q3y]
  rfl
def Q1tf (p1 : Val) (p2 : BA) (o0 : Decoder) : En := .call 51 [.bx 0 0, .agg (Val.cells p1), .str p2, .fn 52 [.bx 0 0] []] [⟨1, 0, false, (Decoder.cells o0)⟩]
def Q1rd (_p1 : Val) (_p2 : BA) (_o0 : Decoder) (q0 : List Label) (q1 : Decoder) : Rs := .ret (.sl (Label.rows q0)) [⟨1, 0, false, (Decoder.cells q1)⟩]
def Q1qj (p1 : Val) (p2 : BA) (o0 : Decoder) : Rs := Q1rd p1 p2 o0 (Q76 p1 p2 o0).1 (Q76 p1 p2 o0).2
def Q1kn (p1 : Val) : Prop := Val.Sm 1000000000 p1
theorem Q15w (p1 : Val) (p2 : BA) (o0 : Decoder) (H : Q1kn p1) : (H_Kj p1) ∧ (Qc1 p1 p2 o0) ∧ True := by
  have hl := Qf8 (Q3t H p2)
  refine ⟨H, ?_, trivial⟩
  unfold Qc1 s_Kj
  simp only [getL]
  exact ⟨Nat.le_trans hl.1 (Nat.le_of_ble_eq_true rfl), hl.2, trivial⟩
theorem Q1og (p1 : Val) (p2 : BA) (o0 : Decoder) (H : Q1kn p1) : Q7 G (Q1tf p1 p2 o0) (Q1qj p1 p2 o0) := by
 unfold Q1qj
 rw [Q1t5]
 have hl0 := Qxu p1 p2 o0 ((Q15w p1 p2 o0 H).2.1) (s_Kj p1 p2 4 o0).1.list 0 (s_Kj p1 p2 4 o0).2.failed [] (by simp) (by simp)
 obtain ⟨z0, zo0, hl0⟩ := hl0
 exact Q8 (fn := Ir.K15) rfl (h := [⟨1, 0, false, (Decoder.cells o0)⟩]) (vw := []) VOK.nil [hP 8 (Qh (Val.rows (s_Kj p1 p2 4 o0).1.list) (List.length (s_Kj p1 p2 4 o0).1.list) (Val.Q5 (s_Kj p1 p2 4 o0).1.list)), hS 0 true (Label.Q9 (Q5d p1 p2 o0 (s_Kj p1 p2 4 o0).1.list 0 (s_Kj p1 p2 4 o0).2.failed []).2 2 rfl), hQ (Label.Q5 (Q5d p1 p2 o0 (s_Kj p1 p2 4 o0).1.list 0 (s_Kj p1 p2 4 o0).2.failed []).2).symm] [aN (t_Kj p1 p2 4 o0 (Q15w p1 p2 o0 H).1), aV [(1, Label.rows (Q5d p1 p2 o0 (s_Kj p1 p2 4 o0).1.list 0 (s_Kj p1 p2 4 o0).2.failed []).2)] hl0] (by kernel_rfl)
def s_Ke (p0 : Val) : Template × Int := Q1ew p0
theorem e_Ke (p0 : Val) : s_Ke p0 = (bif (s_Ks (s_Kx p0 Q2r (Q76 p0 Q1s (s_Kw p0 (Decoder.mk false)).2).2).1 (s_Kx p0 Q2r (Q76 p0 Q1s (s_Kw p0 (Decoder.mk false)).2).2).2).2.failed then
    ((Template.mk [] (PodSpec.mk eB 0 0 0 [] [] [] [] [] [])), 6)
  else
    ((Template.mk (Q76 p0 Q1s (s_Kw p0 (Decoder.mk false)).2).1 (s_Ks (s_Kx p0 Q2r (Q76 p0 Q1s (s_Kw p0 (Decoder.mk false)).2).2).1 (s_Kx p0 Q2r (Q76 p0 Q1s (s_Kw p0 (Decoder.mk false)).2).2).2).1), 0)) := by
  unfold s_Ke Q1ew Template.dec
  simp only [s_Kw, s_Kx, s_Ks, Q76, PodSpec.sub1, dT, PodSpec.sub2, Qaq, Q3o, Bool.false_or, Bool.and_assoc, Bool.and_left_comm, Bool.and_comm, Bool.and_self_left]
  rfl
def c_Ke (p0 : Val) : En := .call 15 [.agg (Val.cells p0)] []
def a_Ke (p0 : Val) : Rs := .ret (.tup [.agg (Template.cells (s_Ke p0).1), .int .i64 (s_Ke p0).2]) []
def H_Ke (p0 : Val) : Prop := Val.Sm 1000000000 p0
theorem Qe1 (p0 : Val) (H : H_Ke p0) : (Q1kn p0) ∧ (H_Kx p0) ∧ (H_Ks (s_Kx p0 Q2r (Q76 p0 Q1s (s_Kw p0 (Decoder.mk false)).2).2).1) ∧ True := by
  repeat' with_reducible apply And.intro
  all_goals first | exact True.intro | exact H | exact Qas (Q3t H _)
theorem t_Ke (p0 : Val) (H : H_Ke p0) : Q7 G (c_Ke p0) (a_Ke p0) := by
 unfold a_Ke
 rw [e_Ke]
 cases h0 : (s_Ks (s_Kx p0 Q2r (Q76 p0 Q1s (s_Kw p0 (Decoder.mk false)).2).2).1 (s_Kx p0 Q2r (Q76 p0 Q1s (s_Kw p0 (Decoder.mk false)).2).2).2).2.failed with
 | true =>
  exact Q8 (fn := Ir.Ke) rfl VOK.nil [hP 25 (decR (s_Ks (s_Kx p0 Q2r (Q76 p0 Q1s (s_Kw p0 (Decoder.mk false)).2).2).1 (s_Kx p0 Q2r (Q76 p0 Q1s (s_Kw p0 (Decoder.mk false)).2).2).2).2.failed true [256] h0)] [aN (t_Kw p0 (Decoder.mk false)), aN (Q1og p0 Q1s (s_Kw p0 (Decoder.mk false)).2 (Qe1 p0 H).1), aN (t_Kx p0 Q2r (Q76 p0 Q1s (s_Kw p0 (Decoder.mk false)).2).2 (Qe1 p0 H).2.1), aN (t_Ks (s_Kx p0 Q2r (Q76 p0 Q1s (s_Kw p0 (Decoder.mk false)).2).2).1 (s_Kx p0 Q2r (Q76 p0 Q1s (s_Kw p0 (Decoder.mk false)).2).2).2 (Qe1 p0 H).2.2.1)] (by kernel_rfl)
 | false =>
  exact Q8 (fn := Ir.Ke) rfl VOK.nil [hP 25 (decR (s_Ks (s_Kx p0 Q2r (Q76 p0 Q1s (s_Kw p0 (Decoder.mk false)).2).2).1 (s_Kx p0 Q2r (Q76 p0 Q1s (s_Kw p0 (Decoder.mk false)).2).2).2).2.failed false [256] h0)] [aN (t_Kw p0 (Decoder.mk false)), aN (Q1og p0 Q1s (s_Kw p0 (Decoder.mk false)).2 (Qe1 p0 H).1), aN (t_Kx p0 Q2r (Q76 p0 Q1s (s_Kw p0 (Decoder.mk false)).2).2 (Qe1 p0 H).2.1), aN (t_Ks (s_Kx p0 Q2r (Q76 p0 Q1s (s_Kw p0 (Decoder.mk false)).2).2).1 (s_Kx p0 Q2r (Q76 p0 Q1s (s_Kw p0 (Decoder.mk false)).2).2).2 (Qe1 p0 H).2.2.1)] (by kernel_rfl)
end Go.Proofs.YtiflaadeikaghaaGreat
end

