/- Texts of the claim, merged by a program; what the statement does not reach is left out. -/
import Derived.Test.YtiflaadeikaghaaGreatBPodcodecDecodes5

section
/- What the reference's encoders compute (printed by a program). -/
namespace Go.Proofs.YtiflaadeikaghaaGreat
open Go.Pv
def Q1b (p0 : BA) : Val :=
 (Val.mk 3 0 p0 [] [])
def Q1oj (p0 : BA) : En := .call 125 [.str p0] []
def Q1ld (p0 : BA) : Rs := .ret (.agg (Val.cells (Q1b p0))) []
theorem Q98 (p0 : BA) : Qi G (Q1oj p0) (Q1ld p0) := by
 unfold Q1ld Q1b
 exact Qm (fn := Ir.K3c) rfl VOK.nil [] [] (by kernel_rfl)
def Q6 (p0 : BA) (p1 : Val) : Fld :=
 (Fld.mk p0 p1)
def Q1ok (p0 : BA) (p1 : Val) : En := .call 71 [.str p0, .agg (Val.cells p1)] []
def Q1jk (p0 : BA) (p1 : Val) : Rs := .ret (.agg (Fld.cells (Q6 p0 p1))) []
theorem Q2r (p0 : BA) (p1 : Val) : Qi G (Q1ok p0 p1) (Q1jk p0 p1) := by
 unfold Q1jk Q6
 exact Qm (fn := Ir.K2w) rfl VOK.nil [] [] (by kernel_rfl)
def Q1t (p0 : List Fld) : Val :=
 (Val.mk 5 0 eB [] p0)
def Q8u (p0 : List Fld) : En := .call 70 [.sl (Fld.rows p0)] []
def Q1kb (p0 : List Fld) : Rs := .ret (.agg (Val.cells (Q1t p0))) []
theorem Q90 (p0 : List Fld) : Qi G (Q8u p0) (Q1kb p0) := by
 unfold Q1kb Q1t
 exact Qm (fn := Ir.K3b) rfl VOK.nil [] [] (by kernel_rfl)
def Qd9 (p0 : List Val) : Val :=
 (Val.mk 4 0 eB p0 [])
def Q1ov (p0 : List Val) : En := .call 138 [.sl (Val.rows p0)] []
def Q1j7 (p0 : List Val) : Rs := .ret (.agg (Val.cells (Qd9 p0))) []
theorem Qer (p0 : List Val) : Qi G (Q1ov p0) (Q1j7 p0) := by
 unfold Q1j7 Qd9
 exact Qm (fn := Ir.K39) rfl VOK.nil [] [] (by kernel_rfl)
def Q5t (p0 : List Label) : List Label → Nat → (List Val) → List Val
 | [], _i0, v0_1 =>
  v0_1
 | x0 :: r0, i0, v0_1 =>
  Q5t p0 r0 (i0 + 1) (v0_1 ++ [(Q1t ([(Q6 Qs (Q1b x0.key)), (Q6 Qo (Q1b x0.value))]))])
theorem Q11e (p0 : List Label) : ∀ (l : List Label) (i : Nat) (a : List Val), Q5t p0 l i a = a ++ l.map (fun x0 => (Q1t ([(Q6 Qs (Q1b x0.key)), (Q6 Qo (Q1b x0.value))])))
  | [], _, _ => by simp [Q5t]
  | x :: r, i, a => by rw [Q5t, Q11e p0 r]; simp
def Qxb (p0 : List Label) (i0 : Nat) (v0_1 : List Val) : List PV :=
  [.sl (Label.rows p0), .un, .bx 0 0, .ms 1 5 0 (List.length v0_1), .int .i64 (i0 : Int)] ++ nuns 27
def Qju (_p0 : List Label) (_i0 : Nat) (v0_1 : List Val) : List Ob :=
  [⟨5, 0, true, [.int .i64 0, .int .i64 0, .str eB, .ms 2 5 0 0, .ms 3 6 0 0]⟩, ⟨5, 0, true, (Val.rows v0_1).flatten⟩, ⟨5, 0, true, []⟩, ⟨6, 0, true, []⟩]
def Qgu (p0 : List Label) (i0 : Nat) (v0_1 : List Val) : En := .loop 0 Ir.Qlh Ir.Q1f6 (Qxb p0 i0 v0_1) (Qju p0 i0 v0_1)
def Qq7 (_p0 : List Label) (q0 : List Val) (z : Nat → PV) (_zo : Nat → List PV) : St :=
  ⟨[z 0, z 1, .bx 0 0, .ms 1 5 0 (List.length q0)] ++ zr z 4 28, [(0, ⟨5, 0, true, [.int .i64 0, .int .i64 0, .str eB, .ms 2 5 0 0, .ms 3 6 0 0]⟩), (1, ⟨5, 0, true, (Val.rows q0).flatten⟩), (2, ⟨5, 0, true, []⟩), (3, ⟨6, 0, true, []⟩)], 260⟩
theorem Q11h (p0 : List Label) (i0 : Nat) (v0_1 : List Val) : VOK (Go.Pv.look (number 0 (Qju p0 i0 v0_1))) [(1, Val.rows v0_1)] := (VOK.cons (show Seen _ _ from Q42 (ob := ⟨5, 0, true, (Val.rows v0_1).flatten⟩) (Val.Qp v0_1 5 rfl)) VOK.nil)
def Qg9 (p0 : List Label) (e : En) (q : List Val) : Prop := ∃ z zo, Qi G e (.st (.exit 0) (Qq7 p0 q z zo))
theorem Qtg (p0 : List Label) {e e' : En} (h : ∀ r, Qi G e r → Qi G e' r) : ∀ q, Qg9 p0 e q → Qg9 p0 e' q
  | _, ⟨z, zo, hz⟩ => ⟨z, zo, h _ hz⟩
def Qfy (p0 : List Label) : Prop := (List.length p0 ≤ 137438953472) ∧ True
def Qof (p0 : List Label) (i0 : Nat) (_v0_1 : List Val) : List PV :=
  [.sl (Label.rows p0), .un, .un, .un, .int .i64 (i0 : Int), .int .i64 (i0 : Int), .sl (Label.rows p0), .int .i64 ((List.length p0) : Int), .bool false]
def Qha (_p0 : List Label) (_i0 : Nat) (_v0_1 : List Val) : List (Nat × List PV) :=
  []
theorem Q17b (p0 : List Label) (_H : Qfy p0) (i0 : Nat) (v0_1 : List Val) (_ho0_0 : List.length v0_1 ≤ i0) (hc0 : (decide ((i0 : Int) < ((List.length p0) : Int))) = false) : Qg9 p0 (Qgu p0 i0 v0_1) v0_1 := by
 exact ⟨(envF (Qof p0 i0 v0_1)), (zoF (Qha p0 i0 v0_1)), Q10 (Q11h p0 i0 v0_1) (x := ((.exit 0), Qq7 p0 v0_1 (envF (Qof p0 i0 v0_1)) (zoF (Qha p0 i0 v0_1)))) [hP 2 (Qz (Label.rows p0) (List.length p0) (Label.Q9 p0)), hB 0 hc0] [] (by kernel_rfl)⟩
theorem Q15t (p0 : List Label) (H : Qfy p0) (x0 : Label) (i0 : Nat) (v0_1 : List Val) (hx0 : p0[i0]? = some x0) (hi0 : i0 < List.length p0) (ho0_0 : List.length v0_1 ≤ i0) (hc0 : (decide ((i0 : Int) < ((List.length p0) : Int))) = true) {r : Rs} (hr : Qi G (Qgu p0 (i0 + 1) (v0_1 ++ [(Q1t ([(Q6 Qs (Q1b x0.key)), (Q6 Qo (Q1b x0.value))]))])) r) : Qi G (Qgu p0 i0 v0_1) r := by
 have hB0 := H.1
 exact Qw (Q11h p0 i0 v0_1) (y := (Qxb p0 (i0 + 1) (v0_1 ++ [(Q1t ([(Q6 Qs (Q1b x0.key)), (Q6 Qo (Q1b x0.value))]))]), Qju p0 (i0 + 1) (v0_1 ++ [(Q1t ([(Q6 Qs (Q1b x0.key)), (Q6 Qo (Q1b x0.value))]))]))) [hP 2 (Qz (Label.rows p0) (List.length p0) (Label.Q9 p0)), hB 0 hc0, hP 3 (Q15 2 (Label.rows p0) i0 _ (Label.Qe hx0) rfl), hP 6 (Q15 2 (Label.rows p0) i0 _ (Label.Qe hx0) rfl), hV 7 [(1412, Val.rows (v0_1 ++ [(Q1t ([(Q6 Qs (Q1b x0.key)), (Q6 Qo (Q1b x0.value))]))]))] (Q3g 1 1348 1412 5 80 0 0 true (Val.rows v0_1) (Val.rows (v0_1 ++ [(Q1t ([(Q6 Qs (Q1b x0.key)), (Q6 Qo (Q1b x0.value))]))])) (Val.cells (Q1t ([(Q6 Qs (Q1b x0.key)), (Q6 Qo (Q1b x0.value))]))) (List.length v0_1) (List.length (v0_1 ++ [(Q1t ([(Q6 Qs (Q1b x0.key)), (Q6 Qo (Q1b x0.value))]))])) rfl (Val.Q9 v0_1).symm (Val.Q9 (v0_1 ++ [(Q1t ([(Q6 Qs (Q1b x0.key)), (Q6 Qo (Q1b x0.value))]))])).symm (Val.Q1n v0_1 (Q1t ([(Q6 Qs (Q1b x0.key)), (Q6 Qo (Q1b x0.value))]))) (Val.Q16 v0_1) rfl (by omega)), hS 0 true (Val.Qp (v0_1 ++ [(Q1t ([(Q6 Qs (Q1b x0.key)), (Q6 Qo (Q1b x0.value))]))]) 5 rfl), hP 2 (Q25 i0 (by omega))] [aN (Q98 x0.key), aN (Q2r Qs (Q1b x0.key)), aN (Q98 x0.value), aN (Q2r Qo (Q1b x0.value)), aN (Q8w (e' := .call 70 [.sl [(Fld.cells (Q6 Qs (Q1b x0.key))), (Fld.cells (Q6 Qo (Q1b x0.value)))]] []) (Q90 ([(Q6 Qs (Q1b x0.key)), (Q6 Qo (Q1b x0.value))])) (by simp only [Q8u, Fld.Q3e, Fld.Q49]))] (by kernel_rfl) hr
theorem Qyf (p0 : List Label) (H : Qfy p0) : ∀ (r0 : List Label) (i0 : Nat) (v0_1 : List Val), List.drop i0 p0 = r0 → List.length v0_1 ≤ i0 → Qg9 p0 (Qgu p0 i0 v0_1) (Q5t p0 r0 i0 v0_1)
 | [], i0, v0_1, hd, ho0_0 => by
  have hc0 : (decide ((i0 : Int) < ((List.length p0) : Int))) = false := by have := Q1v hd; simp; omega
  rw [Q5t]
  exact Q17b p0 H i0 v0_1 ho0_0 hc0
 | x0 :: r0, i0, v0_1, hd, ho0_0 => by
  obtain ⟨hx0, hi0, hd'⟩ := Q1s hd
  have hc0 : (decide ((i0 : Int) < ((List.length p0) : Int))) = true := by simp; omega
  rw [Q5t]
  exact Qtg p0 (fun r hr => Q15t p0 H x0 i0 v0_1 hx0 hi0 ho0_0 hc0 hr) _ (Qyf p0 H r0 (i0 + 1) (v0_1 ++ [(Q1t ([(Q6 Qs (Q1b x0.key)), (Q6 Qo (Q1b x0.value))]))]) hd' (by first | omega | (simp; omega)))
def Q161 (p0 : List Label) : Val := vL (p0.map Label.enc)
theorem Q1o3 (p0 : List Label) : Q161 p0 = ((Qd9 (Q5t p0 p0 0 []))) := by
  rw [Q11e]
  rfl
def Q1ng (p0 : List Label) : En := .call 79 [.sl (Label.rows p0)] []
def Q1il (p0 : List Label) : Rs := .ret (.agg (Val.cells (Q161 p0))) []
def Q1hn (p0 : List Label) : Prop := LSm Label.sm p0
theorem Q1co (p0 : List Label) (H : Q1hn p0) : (Qfy p0) ∧ True := by
  exact ⟨⟨Nat.le_trans H.1 (Nat.le_of_ble_eq_true rfl), trivial⟩, trivial⟩
theorem Q1nr (p0 : List Label) (H : Q1hn p0) : Qi G (Q1ng p0) (Q1il p0) := by
 unfold Q1il
 rw [Q1o3]
 have hl0 := Qyf p0 ((Q1co p0 H).1) p0 0 [] (by simp) (by simp)
 obtain ⟨z0, zo0, hl0⟩ := hl0
 exact Qm (fn := Ir.K2z) rfl VOK.nil [hS 0 true (Val.Qp (Q5t p0 p0 0 []) 5 rfl), hQ (Val.Q9 (Q5t p0 p0 0 [])).symm] [aV [(1, Val.rows (Q5t p0 p0 0 []))] hl0, aN (Qer (Q5t p0 p0 0 []))] (by kernel_rfl)
def Qy (p0 : Int) : Val :=
 (Val.mk 2 p0 eB [] [])
def Q1op (p0 : Int) : En := .call 74 [.int .i64 p0] []
def Q1js (p0 : Int) : Rs := .ret (.agg (Val.cells (Qy p0))) []
theorem Q5v (p0 : Int) : Qi G (Q1op p0) (Q1js p0) := by
 unfold Q1js Qy
 exact Qm (fn := Ir.K3a) rfl VOK.nil [] [] (by kernel_rfl)
def Q44 (p0 : Resources) : Val :=
 (Q1t ([(Q6 Q4d (Qy p0.cPU)), (Q6 Q4e (Qy p0.disk)), (Q6 Q39 (Qy p0.memory))]))
def Q1n2 (p0 : Resources) : En := .call 72 [.agg (Resources.cells p0)] []
def Q1ju (p0 : Resources) : Rs := .ret (.agg (Val.cells (Q44 p0))) []
theorem Q1gx (p0 : Resources) : Qi G (Q1n2 p0) (Q1ju p0) := by
 unfold Q1ju Q44
 exact Qm (fn := Ir.K33) rfl VOK.nil [] [aN (Q5v p0.cPU), aN (Q2r Q4d (Qy p0.cPU)), aN (Q5v p0.disk), aN (Q2r Q4e (Qy p0.disk)), aN (Q5v p0.memory), aN (Q2r Q39 (Qy p0.memory)), aN (Q8w (e' := .call 70 [.sl [(Fld.cells (Q6 Q4d (Qy p0.cPU))), (Fld.cells (Q6 Q4e (Qy p0.disk))), (Fld.cells (Q6 Q39 (Qy p0.memory)))]] []) (Q90 ([(Q6 Q4d (Qy p0.cPU)), (Q6 Q4e (Qy p0.disk)), (Q6 Q39 (Qy p0.memory))])) (by simp only [Q8u, Fld.Q3e, Fld.Q49]))] (by kernel_rfl)
def Q55 (p0 : List Probe) : List Probe → Nat → (List Val) → List Val
 | [], _i0, v0_1 =>
  v0_1
 | x0 :: r0, i0, v0_1 =>
  Q55 p0 r0 (i0 + 1) (v0_1 ++ [(Q1t ([(Q6 Q2i (Qy x0.delay)), (Q6 Q2c (Qy x0.failure)), (Q6 Q2g (Qy x0.period)), (Q6 Q2e (Qy x0.success))]))])
theorem Q125 (p0 : List Probe) : ∀ (l : List Probe) (i : Nat) (a : List Val), Q55 p0 l i a = a ++ l.map (fun x0 => (Q1t ([(Q6 Q2i (Qy x0.delay)), (Q6 Q2c (Qy x0.failure)), (Q6 Q2g (Qy x0.period)), (Q6 Q2e (Qy x0.success))])))
  | [], _, _ => by simp [Q55]
  | x :: r, i, a => by rw [Q55, Q125 p0 r]; simp
def Qxj (p0 : List Probe) (i0 : Nat) (v0_1 : List Val) : List PV :=
  [.sl (Probe.rows p0), .un, .bx 0 0, .ms 1 5 0 (List.length v0_1), .int .i64 (i0 : Int)] ++ nuns 41
def Qi6 (_p0 : List Probe) (_i0 : Nat) (v0_1 : List Val) : List Ob :=
  [⟨5, 0, true, [.int .i64 0, .int .i64 0, .str eB, .ms 2 5 0 0, .ms 3 6 0 0]⟩, ⟨5, 0, true, (Val.rows v0_1).flatten⟩, ⟨5, 0, true, []⟩, ⟨6, 0, true, []⟩]
def Qgz (p0 : List Probe) (i0 : Nat) (v0_1 : List Val) : En := .loop 0 Ir.Qmg Ir.Q1ds (Qxj p0 i0 v0_1) (Qi6 p0 i0 v0_1)
def Qr5 (_p0 : List Probe) (q0 : List Val) (z : Nat → PV) (_zo : Nat → List PV) : St :=
  ⟨[z 0, z 1, .bx 0 0, .ms 1 5 0 (List.length q0)] ++ zr z 4 42, [(0, ⟨5, 0, true, [.int .i64 0, .int .i64 0, .str eB, .ms 2 5 0 0, .ms 3 6 0 0]⟩), (1, ⟨5, 0, true, (Val.rows q0).flatten⟩), (2, ⟨5, 0, true, []⟩), (3, ⟨6, 0, true, []⟩)], 260⟩
theorem Q12a (p0 : List Probe) (i0 : Nat) (v0_1 : List Val) : VOK (Go.Pv.look (number 0 (Qi6 p0 i0 v0_1))) [(1, Val.rows v0_1)] := (VOK.cons (show Seen _ _ from Q42 (ob := ⟨5, 0, true, (Val.rows v0_1).flatten⟩) (Val.Qp v0_1 5 rfl)) VOK.nil)
def Qf3 (p0 : List Probe) (e : En) (q : List Val) : Prop := ∃ z zo, Qi G e (.st (.exit 0) (Qr5 p0 q z zo))
theorem Qto (p0 : List Probe) {e e' : En} (h : ∀ r, Qi G e r → Qi G e' r) : ∀ q, Qf3 p0 e q → Qf3 p0 e' q
  | _, ⟨z, zo, hz⟩ => ⟨z, zo, h _ hz⟩
def Qfm (p0 : List Probe) : Prop := (List.length p0 ≤ 137438953472) ∧ True
def Qpi (p0 : List Probe) (i0 : Nat) (_v0_1 : List Val) : List PV :=
  [.sl (Probe.rows p0), .un, .un, .un, .int .i64 (i0 : Int), .int .i64 (i0 : Int), .sl (Probe.rows p0), .int .i64 ((List.length p0) : Int), .bool false]
def Qjg (_p0 : List Probe) (_i0 : Nat) (_v0_1 : List Val) : List (Nat × List PV) :=
  []
theorem Q14k (p0 : List Probe) (_H : Qfm p0) (i0 : Nat) (v0_1 : List Val) (_ho0_0 : List.length v0_1 ≤ i0) (hc0 : (decide ((i0 : Int) < ((List.length p0) : Int))) = false) : Qf3 p0 (Qgz p0 i0 v0_1) v0_1 := by
 exact ⟨(envF (Qpi p0 i0 v0_1)), (zoF (Qjg p0 i0 v0_1)), Q10 (Q12a p0 i0 v0_1) (x := ((.exit 0), Qr5 p0 v0_1 (envF (Qpi p0 i0 v0_1)) (zoF (Qjg p0 i0 v0_1)))) [hP 2 (Qz (Probe.rows p0) (List.length p0) (Probe.Q9 p0)), hB 0 hc0] [] (by kernel_rfl)⟩
theorem Q18a (p0 : List Probe) (H : Qfm p0) (x0 : Probe) (i0 : Nat) (v0_1 : List Val) (hx0 : p0[i0]? = some x0) (hi0 : i0 < List.length p0) (ho0_0 : List.length v0_1 ≤ i0) (hc0 : (decide ((i0 : Int) < ((List.length p0) : Int))) = true) {r : Rs} (hr : Qi G (Qgz p0 (i0 + 1) (v0_1 ++ [(Q1t ([(Q6 Q2i (Qy x0.delay)), (Q6 Q2c (Qy x0.failure)), (Q6 Q2g (Qy x0.period)), (Q6 Q2e (Qy x0.success))]))])) r) : Qi G (Qgz p0 i0 v0_1) r := by
 have hB0 := H.1
 exact Qw (Q12a p0 i0 v0_1) (y := (Qxj p0 (i0 + 1) (v0_1 ++ [(Q1t ([(Q6 Q2i (Qy x0.delay)), (Q6 Q2c (Qy x0.failure)), (Q6 Q2g (Qy x0.period)), (Q6 Q2e (Qy x0.success))]))]), Qi6 p0 (i0 + 1) (v0_1 ++ [(Q1t ([(Q6 Q2i (Qy x0.delay)), (Q6 Q2c (Qy x0.failure)), (Q6 Q2g (Qy x0.period)), (Q6 Q2e (Qy x0.success))]))]))) [hP 2 (Qz (Probe.rows p0) (List.length p0) (Probe.Q9 p0)), hB 0 hc0, hP 3 (Q15 4 (Probe.rows p0) i0 _ (Probe.Qe hx0) rfl), hP 6 (Q15 4 (Probe.rows p0) i0 _ (Probe.Qe hx0) rfl), hP 6 (Q15 4 (Probe.rows p0) i0 _ (Probe.Qe hx0) rfl), hP 6 (Q15 4 (Probe.rows p0) i0 _ (Probe.Qe hx0) rfl), hV 7 [(2308, Val.rows (v0_1 ++ [(Q1t ([(Q6 Q2i (Qy x0.delay)), (Q6 Q2c (Qy x0.failure)), (Q6 Q2g (Qy x0.period)), (Q6 Q2e (Qy x0.success))]))]))] (Q3g 1 2244 2308 5 80 0 0 true (Val.rows v0_1) (Val.rows (v0_1 ++ [(Q1t ([(Q6 Q2i (Qy x0.delay)), (Q6 Q2c (Qy x0.failure)), (Q6 Q2g (Qy x0.period)), (Q6 Q2e (Qy x0.success))]))])) (Val.cells (Q1t ([(Q6 Q2i (Qy x0.delay)), (Q6 Q2c (Qy x0.failure)), (Q6 Q2g (Qy x0.period)), (Q6 Q2e (Qy x0.success))]))) (List.length v0_1) (List.length (v0_1 ++ [(Q1t ([(Q6 Q2i (Qy x0.delay)), (Q6 Q2c (Qy x0.failure)), (Q6 Q2g (Qy x0.period)), (Q6 Q2e (Qy x0.success))]))])) rfl (Val.Q9 v0_1).symm (Val.Q9 (v0_1 ++ [(Q1t ([(Q6 Q2i (Qy x0.delay)), (Q6 Q2c (Qy x0.failure)), (Q6 Q2g (Qy x0.period)), (Q6 Q2e (Qy x0.success))]))])).symm (Val.Q1n v0_1 (Q1t ([(Q6 Q2i (Qy x0.delay)), (Q6 Q2c (Qy x0.failure)), (Q6 Q2g (Qy x0.period)), (Q6 Q2e (Qy x0.success))]))) (Val.Q16 v0_1) rfl (by omega)), hS 0 true (Val.Qp (v0_1 ++ [(Q1t ([(Q6 Q2i (Qy x0.delay)), (Q6 Q2c (Qy x0.failure)), (Q6 Q2g (Qy x0.period)), (Q6 Q2e (Qy x0.success))]))]) 5 rfl), hP 2 (Q25 i0 (by omega))] [aN (Q5v x0.delay), aN (Q2r Q2i (Qy x0.delay)), aN (Q5v x0.failure), aN (Q2r Q2c (Qy x0.failure)), aN (Q5v x0.period), aN (Q2r Q2g (Qy x0.period)), aN (Q5v x0.success), aN (Q2r Q2e (Qy x0.success)), aN (Q8w (e' := .call 70 [.sl [(Fld.cells (Q6 Q2i (Qy x0.delay))), (Fld.cells (Q6 Q2c (Qy x0.failure))), (Fld.cells (Q6 Q2g (Qy x0.period))), (Fld.cells (Q6 Q2e (Qy x0.success)))]] []) (Q90 ([(Q6 Q2i (Qy x0.delay)), (Q6 Q2c (Qy x0.failure)), (Q6 Q2g (Qy x0.period)), (Q6 Q2e (Qy x0.success))])) (by simp only [Q8u, Fld.Q3e, Fld.Q49]))] (by kernel_rfl) hr
theorem Qvv (p0 : List Probe) (H : Qfm p0) : ∀ (r0 : List Probe) (i0 : Nat) (v0_1 : List Val), List.drop i0 p0 = r0 → List.length v0_1 ≤ i0 → Qf3 p0 (Qgz p0 i0 v0_1) (Q55 p0 r0 i0 v0_1)
 | [], i0, v0_1, hd, ho0_0 => by
  have hc0 : (decide ((i0 : Int) < ((List.length p0) : Int))) = false := by have := Q1v hd; simp; omega
  rw [Q55]
  exact Q14k p0 H i0 v0_1 ho0_0 hc0
 | x0 :: r0, i0, v0_1, hd, ho0_0 => by
  obtain ⟨hx0, hi0, hd'⟩ := Q1s hd
  have hc0 : (decide ((i0 : Int) < ((List.length p0) : Int))) = true := by simp; omega
  rw [Q55]
  exact Qto p0 (fun r hr => Q18a p0 H x0 i0 v0_1 hx0 hi0 ho0_0 hc0 hr) _ (Qvv p0 H r0 (i0 + 1) (v0_1 ++ [(Q1t ([(Q6 Q2i (Qy x0.delay)), (Q6 Q2c (Qy x0.failure)), (Q6 Q2g (Qy x0.period)), (Q6 Q2e (Qy x0.success))]))]) hd' (by first | omega | (simp; omega)))
def Q3i (p0 : List Probe) : Val := vL (p0.map Probe.enc)
theorem Q1od (p0 : List Probe) : Q3i p0 = ((Qd9 (Q55 p0 p0 0 []))) := by
  rw [Q125]
  rfl
def Q1qb (p0 : List Probe) : En := .call 149 [.sl (Probe.rows p0)] []
def Q1k7 (p0 : List Probe) : Rs := .ret (.agg (Val.cells (Q3i p0))) []
def Q1a4 (p0 : List Probe) : Prop := LSm Probe.sm p0
theorem Q1c6 (p0 : List Probe) (H : Q1a4 p0) : (Qfm p0) ∧ True := by
  exact ⟨⟨Nat.le_trans H.1 (Nat.le_of_ble_eq_true rfl), trivial⟩, trivial⟩
theorem Q1gr (p0 : List Probe) (H : Q1a4 p0) : Qi G (Q1qb p0) (Q1k7 p0) := by
 unfold Q1k7
 rw [Q1od]
 have hl0 := Qvv p0 ((Q1c6 p0 H).1) p0 0 [] (by simp) (by simp)
 obtain ⟨z0, zo0, hl0⟩ := hl0
 exact Qm (fn := Ir.K32) rfl VOK.nil [hS 0 true (Val.Qp (Q55 p0 p0 0 []) 5 rfl), hQ (Val.Q9 (Q55 p0 p0 0 [])).symm] [aV [(1, Val.rows (Q55 p0 p0 0 []))] hl0, aN (Qer (Q55 p0 p0 0 []))] (by kernel_rfl)
def Q59 (p0 : List Container) : List Container → Nat → (List Val) → List Val
 | [], _i0, v0_1 =>
  v0_1
 | x0 :: r0, i0, v0_1 =>
  Q59 p0 r0 (i0 + 1) (v0_1 ++ [(Q1t ([(Q6 Q1m (Q1b x0.image)), (Q6 Q1r (Q44 x0.limit)), (Q6 Q1z (Q3i x0.live)), (Q6 Qf (Q1b x0.name)), (Q6 Qa (Q3i x0.ready)), (Q6 Q19 (Q44 x0.request)), (Q6 Q1g (Q3i x0.startup))]))])
theorem Q12r (p0 : List Container) : ∀ (l : List Container) (i : Nat) (a : List Val), Q59 p0 l i a = a ++ l.map (fun x0 => (Q1t ([(Q6 Q1m (Q1b x0.image)), (Q6 Q1r (Q44 x0.limit)), (Q6 Q1z (Q3i x0.live)), (Q6 Qf (Q1b x0.name)), (Q6 Qa (Q3i x0.ready)), (Q6 Q19 (Q44 x0.request)), (Q6 Q1g (Q3i x0.startup))])))
  | [], _, _ => by simp [Q59]
  | x :: r, i, a => by rw [Q59, Q12r p0 r]; simp
def Qw7 (p0 : List Container) (i0 : Nat) (v0_1 : List Val) : List PV :=
  [.sl (Container.rows p0), .un, .bx 0 0, .ms 1 5 0 (List.length v0_1), .int .i64 (i0 : Int)] ++ nuns 46
def Ql2 (_p0 : List Container) (_i0 : Nat) (v0_1 : List Val) : List Ob :=
  [⟨5, 0, true, [.int .i64 0, .int .i64 0, .str eB, .ms 2 5 0 0, .ms 3 6 0 0]⟩, ⟨5, 0, true, (Val.rows v0_1).flatten⟩, ⟨5, 0, true, []⟩, ⟨6, 0, true, []⟩]
def Qf6 (p0 : List Container) (i0 : Nat) (v0_1 : List Val) : En := .loop 0 Ir.Qlc Ir.Q1e7 (Qw7 p0 i0 v0_1) (Ql2 p0 i0 v0_1)
def Qqc (_p0 : List Container) (q0 : List Val) (z : Nat → PV) (_zo : Nat → List PV) : St :=
  ⟨[z 0, z 1, .bx 0 0, .ms 1 5 0 (List.length q0)] ++ zr z 4 47, [(0, ⟨5, 0, true, [.int .i64 0, .int .i64 0, .str eB, .ms 2 5 0 0, .ms 3 6 0 0]⟩), (1, ⟨5, 0, true, (Val.rows q0).flatten⟩), (2, ⟨5, 0, true, []⟩), (3, ⟨6, 0, true, []⟩)], 260⟩
theorem Q133 (p0 : List Container) (i0 : Nat) (v0_1 : List Val) : VOK (Go.Pv.look (number 0 (Ql2 p0 i0 v0_1))) [(1, Val.rows v0_1)] := (VOK.cons (show Seen _ _ from Q42 (ob := ⟨5, 0, true, (Val.rows v0_1).flatten⟩) (Val.Qp v0_1 5 rfl)) VOK.nil)
def Qfh (p0 : List Container) (e : En) (q : List Val) : Prop := ∃ z zo, Qi G e (.st (.exit 0) (Qqc p0 q z zo))
theorem Qth (p0 : List Container) {e e' : En} (h : ∀ r, Qi G e r → Qi G e' r) : ∀ q, Qfh p0 e q → Qfh p0 e' q
  | _, ⟨z, zo, hz⟩ => ⟨z, zo, h _ hz⟩
def Qge (p0 : List Container) : Prop := (List.length p0 ≤ 137438953472) ∧ (∀ x0 ∈ p0, Q1a4 x0.live) ∧ (∀ x0 ∈ p0, Q1a4 x0.ready) ∧ (∀ x0 ∈ p0, Q1a4 x0.startup) ∧ True
def Qni (p0 : List Container) (i0 : Nat) (_v0_1 : List Val) : List PV :=
  [.sl (Container.rows p0), .un, .un, .un, .int .i64 (i0 : Int), .un, .int .i64 (i0 : Int), .sl (Container.rows p0), .int .i64 ((List.length p0) : Int), .bool false]
def Qlz (_p0 : List Container) (_i0 : Nat) (_v0_1 : List Val) : List (Nat × List PV) :=
  []
theorem Q17n (p0 : List Container) (_H : Qge p0) (i0 : Nat) (v0_1 : List Val) (_ho0_0 : List.length v0_1 ≤ i0) (hc0 : (decide ((i0 : Int) < ((List.length p0) : Int))) = false) : Qfh p0 (Qf6 p0 i0 v0_1) v0_1 := by
 exact ⟨(envF (Qni p0 i0 v0_1)), (zoF (Qlz p0 i0 v0_1)), Q10 (Q133 p0 i0 v0_1) (x := ((.exit 0), Qqc p0 v0_1 (envF (Qni p0 i0 v0_1)) (zoF (Qlz p0 i0 v0_1)))) [hP 2 (Qz (Container.rows p0) (List.length p0) (Container.Q9 p0)), hB 0 hc0] [] (by kernel_rfl)⟩
theorem Q18n (p0 : List Container) (H : Qge p0) (x0 : Container) (i0 : Nat) (v0_1 : List Val) (hx0 : p0[i0]? = some x0) (hi0 : i0 < List.length p0) (ho0_0 : List.length v0_1 ≤ i0) (hc0 : (decide ((i0 : Int) < ((List.length p0) : Int))) = true) {r : Rs} (hr : Qi G (Qf6 p0 (i0 + 1) (v0_1 ++ [(Q1t ([(Q6 Q1m (Q1b x0.image)), (Q6 Q1r (Q44 x0.limit)), (Q6 Q1z (Q3i x0.live)), (Q6 Qf (Q1b x0.name)), (Q6 Qa (Q3i x0.ready)), (Q6 Q19 (Q44 x0.request)), (Q6 Q1g (Q3i x0.startup))]))])) r) : Qi G (Qf6 p0 i0 v0_1) r := by
 have hB0 := H.1
 exact Qw (Q133 p0 i0 v0_1) (y := (Qw7 p0 (i0 + 1) (v0_1 ++ [(Q1t ([(Q6 Q1m (Q1b x0.image)), (Q6 Q1r (Q44 x0.limit)), (Q6 Q1z (Q3i x0.live)), (Q6 Qf (Q1b x0.name)), (Q6 Qa (Q3i x0.ready)), (Q6 Q19 (Q44 x0.request)), (Q6 Q1g (Q3i x0.startup))]))]), Ql2 p0 (i0 + 1) (v0_1 ++ [(Q1t ([(Q6 Q1m (Q1b x0.image)), (Q6 Q1r (Q44 x0.limit)), (Q6 Q1z (Q3i x0.live)), (Q6 Qf (Q1b x0.name)), (Q6 Qa (Q3i x0.ready)), (Q6 Q19 (Q44 x0.request)), (Q6 Q1g (Q3i x0.startup))]))]))) [hP 2 (Qz (Container.rows p0) (List.length p0) (Container.Q9 p0)), hB 0 hc0, hP 2 (Q15 11 (Container.rows p0) i0 _ (Container.Qe hx0) rfl), hV 35 [(2692, Val.rows (v0_1 ++ [(Q1t ([(Q6 Q1m (Q1b x0.image)), (Q6 Q1r (Q44 x0.limit)), (Q6 Q1z (Q3i x0.live)), (Q6 Qf (Q1b x0.name)), (Q6 Qa (Q3i x0.ready)), (Q6 Q19 (Q44 x0.request)), (Q6 Q1g (Q3i x0.startup))]))]))] (Q3g 1 2628 2692 5 80 0 0 true (Val.rows v0_1) (Val.rows (v0_1 ++ [(Q1t ([(Q6 Q1m (Q1b x0.image)), (Q6 Q1r (Q44 x0.limit)), (Q6 Q1z (Q3i x0.live)), (Q6 Qf (Q1b x0.name)), (Q6 Qa (Q3i x0.ready)), (Q6 Q19 (Q44 x0.request)), (Q6 Q1g (Q3i x0.startup))]))])) (Val.cells (Q1t ([(Q6 Q1m (Q1b x0.image)), (Q6 Q1r (Q44 x0.limit)), (Q6 Q1z (Q3i x0.live)), (Q6 Qf (Q1b x0.name)), (Q6 Qa (Q3i x0.ready)), (Q6 Q19 (Q44 x0.request)), (Q6 Q1g (Q3i x0.startup))]))) (List.length v0_1) (List.length (v0_1 ++ [(Q1t ([(Q6 Q1m (Q1b x0.image)), (Q6 Q1r (Q44 x0.limit)), (Q6 Q1z (Q3i x0.live)), (Q6 Qf (Q1b x0.name)), (Q6 Qa (Q3i x0.ready)), (Q6 Q19 (Q44 x0.request)), (Q6 Q1g (Q3i x0.startup))]))])) rfl (Val.Q9 v0_1).symm (Val.Q9 (v0_1 ++ [(Q1t ([(Q6 Q1m (Q1b x0.image)), (Q6 Q1r (Q44 x0.limit)), (Q6 Q1z (Q3i x0.live)), (Q6 Qf (Q1b x0.name)), (Q6 Qa (Q3i x0.ready)), (Q6 Q19 (Q44 x0.request)), (Q6 Q1g (Q3i x0.startup))]))])).symm (Val.Q1n v0_1 (Q1t ([(Q6 Q1m (Q1b x0.image)), (Q6 Q1r (Q44 x0.limit)), (Q6 Q1z (Q3i x0.live)), (Q6 Qf (Q1b x0.name)), (Q6 Qa (Q3i x0.ready)), (Q6 Q19 (Q44 x0.request)), (Q6 Q1g (Q3i x0.startup))]))) (Val.Q16 v0_1) rfl (by omega)), hS 0 true (Val.Qp (v0_1 ++ [(Q1t ([(Q6 Q1m (Q1b x0.image)), (Q6 Q1r (Q44 x0.limit)), (Q6 Q1z (Q3i x0.live)), (Q6 Qf (Q1b x0.name)), (Q6 Qa (Q3i x0.ready)), (Q6 Q19 (Q44 x0.request)), (Q6 Q1g (Q3i x0.startup))]))]) 5 rfl), hP 2 (Q25 i0 (by omega))] [aN (Q98 x0.image), aN (Q2r Q1m (Q1b x0.image)), aN (Q1gx x0.limit), aN (Q2r Q1r (Q44 x0.limit)), aN (Q1gr x0.live (H.2.1 x0 (Q13 hx0))), aN (Q2r Q1z (Q3i x0.live)), aN (Q98 x0.name), aN (Q2r Qf (Q1b x0.name)), aN (Q1gr x0.ready (H.2.2.1 x0 (Q13 hx0))), aN (Q2r Qa (Q3i x0.ready)), aN (Q1gx x0.request), aN (Q2r Q19 (Q44 x0.request)), aN (Q1gr x0.startup (H.2.2.2.1 x0 (Q13 hx0))), aN (Q2r Q1g (Q3i x0.startup)), aN (Q8w (e' := .call 70 [.sl [(Fld.cells (Q6 Q1m (Q1b x0.image))), (Fld.cells (Q6 Q1r (Q44 x0.limit))), (Fld.cells (Q6 Q1z (Q3i x0.live))), (Fld.cells (Q6 Qf (Q1b x0.name))), (Fld.cells (Q6 Qa (Q3i x0.ready))), (Fld.cells (Q6 Q19 (Q44 x0.request))), (Fld.cells (Q6 Q1g (Q3i x0.startup)))]] []) (Q90 ([(Q6 Q1m (Q1b x0.image)), (Q6 Q1r (Q44 x0.limit)), (Q6 Q1z (Q3i x0.live)), (Q6 Qf (Q1b x0.name)), (Q6 Qa (Q3i x0.ready)), (Q6 Q19 (Q44 x0.request)), (Q6 Q1g (Q3i x0.startup))])) (by simp only [Q8u, Fld.Q3e, Fld.Q49]))] (by kernel_rfl) hr
theorem Qyb (p0 : List Container) (H : Qge p0) : ∀ (r0 : List Container) (i0 : Nat) (v0_1 : List Val), List.drop i0 p0 = r0 → List.length v0_1 ≤ i0 → Qfh p0 (Qf6 p0 i0 v0_1) (Q59 p0 r0 i0 v0_1)
 | [], i0, v0_1, hd, ho0_0 => by
  have hc0 : (decide ((i0 : Int) < ((List.length p0) : Int))) = false := by have := Q1v hd; simp; omega
  rw [Q59]
  exact Q17n p0 H i0 v0_1 ho0_0 hc0
 | x0 :: r0, i0, v0_1, hd, ho0_0 => by
  obtain ⟨hx0, hi0, hd'⟩ := Q1s hd
  have hc0 : (decide ((i0 : Int) < ((List.length p0) : Int))) = true := by simp; omega
  rw [Q59]
  exact Qth p0 (fun r hr => Q18n p0 H x0 i0 v0_1 hx0 hi0 ho0_0 hc0 hr) _ (Qyb p0 H r0 (i0 + 1) (v0_1 ++ [(Q1t ([(Q6 Q1m (Q1b x0.image)), (Q6 Q1r (Q44 x0.limit)), (Q6 Q1z (Q3i x0.live)), (Q6 Qf (Q1b x0.name)), (Q6 Qa (Q3i x0.ready)), (Q6 Q19 (Q44 x0.request)), (Q6 Q1g (Q3i x0.startup))]))]) hd' (by first | omega | (simp; omega)))
def Q163 (p0 : List Container) : Val := vL (p0.map Container.enc)
theorem Q1ps (p0 : List Container) : Q163 p0 = ((Qd9 (Q59 p0 p0 0 []))) := by
  rw [Q12r]
  rfl
def Q1pq (p0 : List Container) : En := .call 124 [.sl (Container.rows p0)] []
def Q1iw (p0 : List Container) : Rs := .ret (.agg (Val.cells (Q163 p0))) []
def Q1gd (p0 : List Container) : Prop := LSm Container.sm p0
theorem Q1ci (p0 : List Container) (H : Q1gd p0) : (Qge p0) ∧ True := by
  exact ⟨⟨Nat.le_trans H.1 (Nat.le_of_ble_eq_true rfl), fun x hx => (H.2 x hx).2.2.1, fun x hx => (H.2 x hx).2.2.2.1, fun x hx => (H.2 x hx).2.2.2.2.1, trivial⟩, trivial⟩
theorem Q1ti (p0 : List Container) (H : Q1gd p0) : Qi G (Q1pq p0) (Q1iw p0) := by
 unfold Q1iw
 rw [Q1ps]
 have hl0 := Qyb p0 ((Q1ci p0 H).1) p0 0 [] (by simp) (by simp)
 obtain ⟨z0, zo0, hl0⟩ := hl0
 exact Qm (fn := Ir.K2x) rfl VOK.nil [hS 0 true (Val.Qp (Q59 p0 p0 0 []) 5 rfl), hQ (Val.Q9 (Q59 p0 p0 0 [])).symm] [aV [(1, Val.rows (Q59 p0 p0 0 []))] hl0, aN (Qer (Q59 p0 p0 0 []))] (by kernel_rfl)
def Q5k (p0 : List ByteArray) : List ByteArray → Nat → (List Val) → List Val
 | [], _i0, v0_1 =>
  v0_1
 | x0 :: r0, i0, v0_1 =>
  Q5k p0 r0 (i0 + 1) (v0_1 ++ [(Q1b x0)])
theorem Q10z (p0 : List ByteArray) : ∀ (l : List ByteArray) (i : Nat) (a : List Val), Q5k p0 l i a = a ++ l.map (fun x0 => (Q1b x0))
  | [], _, _ => by simp [Q5k]
  | x :: r, i, a => by rw [Q5k, Q10z p0 r]; simp
def Qul (p0 : List ByteArray) (i0 : Nat) (v0_1 : List Val) : List PV :=
  [.sl (Qv p0), .un, .bx 0 0, .ms 1 5 0 (List.length v0_1), .int .i64 (i0 : Int)] ++ nuns 16
def Ql6 (_p0 : List ByteArray) (_i0 : Nat) (v0_1 : List Val) : List Ob :=
  [⟨5, 0, true, [.int .i64 0, .int .i64 0, .str eB, .ms 2 5 0 0, .ms 3 6 0 0]⟩, ⟨5, 0, true, (Val.rows v0_1).flatten⟩, ⟨5, 0, true, []⟩, ⟨6, 0, true, []⟩]
def Qgw (p0 : List ByteArray) (i0 : Nat) (v0_1 : List Val) : En := .loop 0 Ir.Qik Ir.Q1es (Qul p0 i0 v0_1) (Ql6 p0 i0 v0_1)
def Qny (_p0 : List ByteArray) (q0 : List Val) (z : Nat → PV) (_zo : Nat → List PV) : St :=
  ⟨[z 0, z 1, .bx 0 0, .ms 1 5 0 (List.length q0)] ++ zr z 4 17, [(0, ⟨5, 0, true, [.int .i64 0, .int .i64 0, .str eB, .ms 2 5 0 0, .ms 3 6 0 0]⟩), (1, ⟨5, 0, true, (Val.rows q0).flatten⟩), (2, ⟨5, 0, true, []⟩), (3, ⟨6, 0, true, []⟩)], 260⟩
theorem Q13m (p0 : List ByteArray) (i0 : Nat) (v0_1 : List Val) : VOK (Go.Pv.look (number 0 (Ql6 p0 i0 v0_1))) [(1, Val.rows v0_1)] := (VOK.cons (show Seen _ _ from Q42 (ob := ⟨5, 0, true, (Val.rows v0_1).flatten⟩) (Val.Qp v0_1 5 rfl)) VOK.nil)
def Qfw (p0 : List ByteArray) (e : En) (q : List Val) : Prop := ∃ z zo, Qi G e (.st (.exit 0) (Qny p0 q z zo))
theorem Qtn (p0 : List ByteArray) {e e' : En} (h : ∀ r, Qi G e r → Qi G e' r) : ∀ q, Qfw p0 e q → Qfw p0 e' q
  | _, ⟨z, zo, hz⟩ => ⟨z, zo, h _ hz⟩
def Qfq (p0 : List ByteArray) : Prop := (List.length p0 ≤ 137438953472) ∧ True
def Qo3 (p0 : List ByteArray) (i0 : Nat) (_v0_1 : List Val) : List PV :=
  [.sl (Qv p0), .un, .un, .un, .int .i64 (i0 : Int), .int .i64 (i0 : Int), .sl (Qv p0), .int .i64 ((List.length p0) : Int), .bool false]
def Qia (_p0 : List ByteArray) (_i0 : Nat) (_v0_1 : List Val) : List (Nat × List PV) :=
  []
theorem Q14i (p0 : List ByteArray) (_H : Qfq p0) (i0 : Nat) (v0_1 : List Val) (_ho0_0 : List.length v0_1 ≤ i0) (hc0 : (decide ((i0 : Int) < ((List.length p0) : Int))) = false) : Qfw p0 (Qgw p0 i0 v0_1) v0_1 := by
 exact ⟨(envF (Qo3 p0 i0 v0_1)), (zoF (Qia p0 i0 v0_1)), Q10 (Q13m p0 i0 v0_1) (x := ((.exit 0), Qny p0 v0_1 (envF (Qo3 p0 i0 v0_1)) (zoF (Qia p0 i0 v0_1)))) [hP 2 (Qz (Qv p0) (List.length p0) (Q1q p0)), hB 0 hc0] [] (by kernel_rfl)⟩
theorem Q17u (p0 : List ByteArray) (H : Qfq p0) (x0 : BA) (i0 : Nat) (v0_1 : List Val) (hx0 : p0[i0]? = some x0) (hi0 : i0 < List.length p0) (ho0_0 : List.length v0_1 ≤ i0) (hc0 : (decide ((i0 : Int) < ((List.length p0) : Int))) = true) {r : Rs} (hr : Qi G (Qgw p0 (i0 + 1) (v0_1 ++ [(Q1b x0)])) r) : Qi G (Qgw p0 i0 v0_1) r := by
 have hB0 := H.1
 exact Qw (Q13m p0 i0 v0_1) (y := (Qul p0 (i0 + 1) (v0_1 ++ [(Q1b x0)]), Ql6 p0 (i0 + 1) (v0_1 ++ [(Q1b x0)]))) [hP 2 (Qz (Qv p0) (List.length p0) (Q1q p0)), hB 0 hc0, hP 3 (Q15 1 (Qv p0) i0 _ (Q3s hx0) rfl), hV 3 [(708, Val.rows (v0_1 ++ [(Q1b x0)]))] (Q3g 1 644 708 5 80 0 0 true (Val.rows v0_1) (Val.rows (v0_1 ++ [(Q1b x0)])) (Val.cells (Q1b x0)) (List.length v0_1) (List.length (v0_1 ++ [(Q1b x0)])) rfl (Val.Q9 v0_1).symm (Val.Q9 (v0_1 ++ [(Q1b x0)])).symm (Val.Q1n v0_1 (Q1b x0)) (Val.Q16 v0_1) rfl (by omega)), hS 0 true (Val.Qp (v0_1 ++ [(Q1b x0)]) 5 rfl), hP 2 (Q25 i0 (by omega))] [aN (Q98 x0)] (by kernel_rfl) hr
theorem Qwb (p0 : List ByteArray) (H : Qfq p0) : ∀ (r0 : List ByteArray) (i0 : Nat) (v0_1 : List Val), List.drop i0 p0 = r0 → List.length v0_1 ≤ i0 → Qfw p0 (Qgw p0 i0 v0_1) (Q5k p0 r0 i0 v0_1)
 | [], i0, v0_1, hd, ho0_0 => by
  have hc0 : (decide ((i0 : Int) < ((List.length p0) : Int))) = false := by have := Q1v hd; simp; omega
  rw [Q5k]
  exact Q14i p0 H i0 v0_1 ho0_0 hc0
 | x0 :: r0, i0, v0_1, hd, ho0_0 => by
  obtain ⟨hx0, hi0, hd'⟩ := Q1s hd
  have hc0 : (decide ((i0 : Int) < ((List.length p0) : Int))) = true := by simp; omega
  rw [Q5k]
  exact Qtn p0 (fun r hr => Q17u p0 H x0 i0 v0_1 hx0 hi0 ho0_0 hc0 hr) _ (Qwb p0 H r0 (i0 + 1) (v0_1 ++ [(Q1b x0)]) hd' (by first | omega | (simp; omega)))
def Q8t (p0 : List ByteArray) : Val := vL (p0.map vS)
theorem Q1o0 (p0 : List ByteArray) : Q8t p0 = ((Qd9 (Q5k p0 p0 0 []))) := by
  rw [Q10z]
  rfl
def Q1mr (p0 : List ByteArray) : En := .call 150 [.sl (Qv p0)] []
def Q1ly (p0 : List ByteArray) : Rs := .ret (.agg (Val.cells (Q8t p0))) []
def Q1fh (p0 : List ByteArray) : Prop := LSm (fun _ : ByteArray => True) p0
theorem Q1dd (p0 : List ByteArray) (H : Q1fh p0) : (Qfq p0) ∧ True := by
  exact ⟨⟨Nat.le_trans H.1 (Nat.le_of_ble_eq_true rfl), trivial⟩, trivial⟩
theorem Q1ni (p0 : List ByteArray) (H : Q1fh p0) : Qi G (Q1mr p0) (Q1ly p0) := by
 unfold Q1ly
 rw [Q1o0]
 have hl0 := Qwb p0 ((Q1dd p0 H).1) p0 0 [] (by simp) (by simp)
 obtain ⟨z0, zo0, hl0⟩ := hl0
 exact Qm (fn := Ir.K2e) rfl VOK.nil [hS 0 true (Val.Qp (Q5k p0 p0 0 []) 5 rfl), hQ (Val.Q9 (Q5k p0 p0 0 [])).symm] [aV [(1, Val.rows (Q5k p0 p0 0 []))] hl0, aN (Qer (Q5k p0 p0 0 []))] (by kernel_rfl)
def Q5e (p0 : List Requirement) : List Requirement → Nat → (List Val) → List Val
 | [], _i0, v0_1 =>
  v0_1
 | x0 :: r0, i0, v0_1 =>
  Q5e p0 r0 (i0 + 1) (v0_1 ++ [(Q1t ([(Q6 Qs (Q1b x0.key)), (Q6 Q31 (Qy x0.op)), (Q6 Q1p (Q8t x0.values))]))])
theorem Q10r (p0 : List Requirement) : ∀ (l : List Requirement) (i : Nat) (a : List Val), Q5e p0 l i a = a ++ l.map (fun x0 => (Q1t ([(Q6 Qs (Q1b x0.key)), (Q6 Q31 (Qy x0.op)), (Q6 Q1p (Q8t x0.values))])))
  | [], _, _ => by simp [Q5e]
  | x :: r, i, a => by rw [Q5e, Q10r p0 r]; simp
def Qw8 (p0 : List Requirement) (i0 : Nat) (v0_1 : List Val) : List PV :=
  [.sl (Requirement.rows p0), .un, .bx 0 0, .ms 1 5 0 (List.length v0_1), .int .i64 (i0 : Int)] ++ nuns 34
def Qix (_p0 : List Requirement) (_i0 : Nat) (v0_1 : List Val) : List Ob :=
  [⟨5, 0, true, [.int .i64 0, .int .i64 0, .str eB, .ms 2 5 0 0, .ms 3 6 0 0]⟩, ⟨5, 0, true, (Val.rows v0_1).flatten⟩, ⟨5, 0, true, []⟩, ⟨6, 0, true, []⟩]
def Qfx (p0 : List Requirement) (i0 : Nat) (v0_1 : List Val) : En := .loop 0 Ir.Ql4 Ir.Q1eq (Qw8 p0 i0 v0_1) (Qix p0 i0 v0_1)
def Qpm (_p0 : List Requirement) (q0 : List Val) (z : Nat → PV) (_zo : Nat → List PV) : St :=
  ⟨[z 0, z 1, .bx 0 0, .ms 1 5 0 (List.length q0)] ++ zr z 4 35, [(0, ⟨5, 0, true, [.int .i64 0, .int .i64 0, .str eB, .ms 2 5 0 0, .ms 3 6 0 0]⟩), (1, ⟨5, 0, true, (Val.rows q0).flatten⟩), (2, ⟨5, 0, true, []⟩), (3, ⟨6, 0, true, []⟩)], 260⟩
theorem Q11t (p0 : List Requirement) (i0 : Nat) (v0_1 : List Val) : VOK (Go.Pv.look (number 0 (Qix p0 i0 v0_1))) [(1, Val.rows v0_1)] := (VOK.cons (show Seen _ _ from Q42 (ob := ⟨5, 0, true, (Val.rows v0_1).flatten⟩) (Val.Qp v0_1 5 rfl)) VOK.nil)
def Qgy (p0 : List Requirement) (e : En) (q : List Val) : Prop := ∃ z zo, Qi G e (.st (.exit 0) (Qpm p0 q z zo))
theorem Qu5 (p0 : List Requirement) {e e' : En} (h : ∀ r, Qi G e r → Qi G e' r) : ∀ q, Qgy p0 e q → Qgy p0 e' q
  | _, ⟨z, zo, hz⟩ => ⟨z, zo, h _ hz⟩
def Qez (p0 : List Requirement) : Prop := (List.length p0 ≤ 137438953472) ∧ (∀ x0 ∈ p0, Q1fh x0.values) ∧ True
def Qq8 (p0 : List Requirement) (i0 : Nat) (_v0_1 : List Val) : List PV :=
  [.sl (Requirement.rows p0), .un, .un, .un, .int .i64 (i0 : Int), .int .i64 (i0 : Int), .sl (Requirement.rows p0), .int .i64 ((List.length p0) : Int), .bool false]
def Qi2 (_p0 : List Requirement) (_i0 : Nat) (_v0_1 : List Val) : List (Nat × List PV) :=
  []
theorem Q193 (p0 : List Requirement) (_H : Qez p0) (i0 : Nat) (v0_1 : List Val) (_ho0_0 : List.length v0_1 ≤ i0) (hc0 : (decide ((i0 : Int) < ((List.length p0) : Int))) = false) : Qgy p0 (Qfx p0 i0 v0_1) v0_1 := by
 exact ⟨(envF (Qq8 p0 i0 v0_1)), (zoF (Qi2 p0 i0 v0_1)), Q10 (Q11t p0 i0 v0_1) (x := ((.exit 0), Qpm p0 v0_1 (envF (Qq8 p0 i0 v0_1)) (zoF (Qi2 p0 i0 v0_1)))) [hP 2 (Qz (Requirement.rows p0) (List.length p0) (Requirement.Q9 p0)), hB 0 hc0] [] (by kernel_rfl)⟩
theorem Q18w (p0 : List Requirement) (H : Qez p0) (x0 : Requirement) (i0 : Nat) (v0_1 : List Val) (hx0 : p0[i0]? = some x0) (hi0 : i0 < List.length p0) (ho0_0 : List.length v0_1 ≤ i0) (hc0 : (decide ((i0 : Int) < ((List.length p0) : Int))) = true) {r : Rs} (hr : Qi G (Qfx p0 (i0 + 1) (v0_1 ++ [(Q1t ([(Q6 Qs (Q1b x0.key)), (Q6 Q31 (Qy x0.op)), (Q6 Q1p (Q8t x0.values))]))])) r) : Qi G (Qfx p0 i0 v0_1) r := by
 have hB0 := H.1
 exact Qw (Q11t p0 i0 v0_1) (y := (Qw8 p0 (i0 + 1) (v0_1 ++ [(Q1t ([(Q6 Qs (Q1b x0.key)), (Q6 Q31 (Qy x0.op)), (Q6 Q1p (Q8t x0.values))]))]), Qix p0 (i0 + 1) (v0_1 ++ [(Q1t ([(Q6 Qs (Q1b x0.key)), (Q6 Q31 (Qy x0.op)), (Q6 Q1p (Q8t x0.values))]))]))) [hP 2 (Qz (Requirement.rows p0) (List.length p0) (Requirement.Q9 p0)), hB 0 hc0, hP 3 (Q15 3 (Requirement.rows p0) i0 _ (Requirement.Qe hx0) rfl), hP 6 (Q15 3 (Requirement.rows p0) i0 _ (Requirement.Qe hx0) rfl), hP 6 (Q15 3 (Requirement.rows p0) i0 _ (Requirement.Qe hx0) rfl), hV 7 [(1860, Val.rows (v0_1 ++ [(Q1t ([(Q6 Qs (Q1b x0.key)), (Q6 Q31 (Qy x0.op)), (Q6 Q1p (Q8t x0.values))]))]))] (Q3g 1 1796 1860 5 80 0 0 true (Val.rows v0_1) (Val.rows (v0_1 ++ [(Q1t ([(Q6 Qs (Q1b x0.key)), (Q6 Q31 (Qy x0.op)), (Q6 Q1p (Q8t x0.values))]))])) (Val.cells (Q1t ([(Q6 Qs (Q1b x0.key)), (Q6 Q31 (Qy x0.op)), (Q6 Q1p (Q8t x0.values))]))) (List.length v0_1) (List.length (v0_1 ++ [(Q1t ([(Q6 Qs (Q1b x0.key)), (Q6 Q31 (Qy x0.op)), (Q6 Q1p (Q8t x0.values))]))])) rfl (Val.Q9 v0_1).symm (Val.Q9 (v0_1 ++ [(Q1t ([(Q6 Qs (Q1b x0.key)), (Q6 Q31 (Qy x0.op)), (Q6 Q1p (Q8t x0.values))]))])).symm (Val.Q1n v0_1 (Q1t ([(Q6 Qs (Q1b x0.key)), (Q6 Q31 (Qy x0.op)), (Q6 Q1p (Q8t x0.values))]))) (Val.Q16 v0_1) rfl (by omega)), hS 0 true (Val.Qp (v0_1 ++ [(Q1t ([(Q6 Qs (Q1b x0.key)), (Q6 Q31 (Qy x0.op)), (Q6 Q1p (Q8t x0.values))]))]) 5 rfl), hP 2 (Q25 i0 (by omega))] [aN (Q98 x0.key), aN (Q2r Qs (Q1b x0.key)), aN (Q5v x0.op), aN (Q2r Q31 (Qy x0.op)), aN (Q1ni x0.values (H.2.1 x0 (Q13 hx0))), aN (Q2r Q1p (Q8t x0.values)), aN (Q8w (e' := .call 70 [.sl [(Fld.cells (Q6 Qs (Q1b x0.key))), (Fld.cells (Q6 Q31 (Qy x0.op))), (Fld.cells (Q6 Q1p (Q8t x0.values)))]] []) (Q90 ([(Q6 Qs (Q1b x0.key)), (Q6 Q31 (Qy x0.op)), (Q6 Q1p (Q8t x0.values))])) (by simp only [Q8u, Fld.Q3e, Fld.Q49]))] (by kernel_rfl) hr
theorem Qw1 (p0 : List Requirement) (H : Qez p0) : ∀ (r0 : List Requirement) (i0 : Nat) (v0_1 : List Val), List.drop i0 p0 = r0 → List.length v0_1 ≤ i0 → Qgy p0 (Qfx p0 i0 v0_1) (Q5e p0 r0 i0 v0_1)
 | [], i0, v0_1, hd, ho0_0 => by
  have hc0 : (decide ((i0 : Int) < ((List.length p0) : Int))) = false := by have := Q1v hd; simp; omega
  rw [Q5e]
  exact Q193 p0 H i0 v0_1 ho0_0 hc0
 | x0 :: r0, i0, v0_1, hd, ho0_0 => by
  obtain ⟨hx0, hi0, hd'⟩ := Q1s hd
  have hc0 : (decide ((i0 : Int) < ((List.length p0) : Int))) = true := by simp; omega
  rw [Q5e]
  exact Qu5 p0 (fun r hr => Q18w p0 H x0 i0 v0_1 hx0 hi0 ho0_0 hc0 hr) _ (Qw1 p0 H r0 (i0 + 1) (v0_1 ++ [(Q1t ([(Q6 Qs (Q1b x0.key)), (Q6 Q31 (Qy x0.op)), (Q6 Q1p (Q8t x0.values))]))]) hd' (by first | omega | (simp; omega)))
def Q37 (p0 : List Requirement) : Val := vL (p0.map Requirement.enc)
theorem Q1rv (p0 : List Requirement) : Q37 p0 = ((Qd9 (Q5e p0 p0 0 []))) := by
  rw [Q10r]
  rfl
def Q1qe (p0 : List Requirement) : En := .call 126 [.sl (Requirement.rows p0)] []
def Q1j2 (p0 : List Requirement) : Rs := .ret (.agg (Val.cells (Q37 p0))) []
def Q17i (p0 : List Requirement) : Prop := LSm Requirement.sm p0
theorem Q1dm (p0 : List Requirement) (H : Q17i p0) : (Qez p0) ∧ True := by
  exact ⟨⟨Nat.le_trans H.1 (Nat.le_of_ble_eq_true rfl), fun x hx => (H.2 x hx).1, trivial⟩, trivial⟩
theorem Q1d9 (p0 : List Requirement) (H : Q17i p0) : Qi G (Q1qe p0) (Q1j2 p0) := by
 unfold Q1j2
 rw [Q1rv]
 have hl0 := Qw1 p0 ((Q1dm p0 H).1) p0 0 [] (by simp) (by simp)
 obtain ⟨z0, zo0, hl0⟩ := hl0
 exact Qm (fn := Ir.K2c) rfl VOK.nil [hS 0 true (Val.Qp (Q5e p0 p0 0 []) 5 rfl), hQ (Val.Q9 (Q5e p0 p0 0 [])).symm] [aV [(1, Val.rows (Q5e p0 p0 0 []))] hl0, aN (Qer (Q5e p0 p0 0 []))] (by kernel_rfl)
def Q20 (p0 : Bool) : Val := vB p0
theorem Q1nq (p0 : Bool) : Q20 p0 = (bif p0 then
    (Val.mk 1 1 eB [] [])
  else
    (Val.mk 1 0 eB [] [])) := by
  cases p0 <;> rfl
def Q1re (p0 : Bool) : En := .call 73 [.bool p0] []
def Q1jl (p0 : Bool) : Rs := .ret (.agg (Val.cells (Q20 p0))) []
theorem Qep (p0 : Bool) : Qi G (Q1re p0) (Q1jl p0) := by
 unfold Q1jl
 rw [Q1nq]
 cases h0 : p0 with
 | true =>
  exact Qm (fn := Ir.K3q) rfl VOK.nil [] [] (by kernel_rfl)
 | false =>
  exact Qm (fn := Ir.K3q) rfl VOK.nil [] [] (by kernel_rfl)
def Q5q (p0 : List NodeTerm) : List NodeTerm → Nat → (List Val) → List Val
 | [], _i0, v0_1 =>
  v0_1
 | x0 :: r0, i0, v0_1 =>
  Q5q p0 r0 (i0 + 1) (v0_1 ++ [(Q1t ([(Q6 Q7 (Q20 x0.required)), (Q6 Q8 (Q37 x0.selector)), (Q6 Qx (Qy x0.weight))]))])
theorem Q10m (p0 : List NodeTerm) : ∀ (l : List NodeTerm) (i : Nat) (a : List Val), Q5q p0 l i a = a ++ l.map (fun x0 => (Q1t ([(Q6 Q7 (Q20 x0.required)), (Q6 Q8 (Q37 x0.selector)), (Q6 Qx (Qy x0.weight))])))
  | [], _, _ => by simp [Q5q]
  | x :: r, i, a => by rw [Q5q, Q10m p0 r]; simp
def Qx0 (p0 : List NodeTerm) (i0 : Nat) (v0_1 : List Val) : List PV :=
  [.sl (NodeTerm.rows p0), .un, .bx 0 0, .ms 1 5 0 (List.length v0_1), .int .i64 (i0 : Int)] ++ nuns 34
def Qmf (_p0 : List NodeTerm) (_i0 : Nat) (v0_1 : List Val) : List Ob :=
  [⟨5, 0, true, [.int .i64 0, .int .i64 0, .str eB, .ms 2 5 0 0, .ms 3 6 0 0]⟩, ⟨5, 0, true, (Val.rows v0_1).flatten⟩, ⟨5, 0, true, []⟩, ⟨6, 0, true, []⟩]
def Qfb (p0 : List NodeTerm) (i0 : Nat) (v0_1 : List Val) : En := .loop 0 Ir.Qie Ir.Q1ee (Qx0 p0 i0 v0_1) (Qmf p0 i0 v0_1)
def Qog (_p0 : List NodeTerm) (q0 : List Val) (z : Nat → PV) (_zo : Nat → List PV) : St :=
  ⟨[z 0, z 1, .bx 0 0, .ms 1 5 0 (List.length q0)] ++ zr z 4 35, [(0, ⟨5, 0, true, [.int .i64 0, .int .i64 0, .str eB, .ms 2 5 0 0, .ms 3 6 0 0]⟩), (1, ⟨5, 0, true, (Val.rows q0).flatten⟩), (2, ⟨5, 0, true, []⟩), (3, ⟨6, 0, true, []⟩)], 260⟩
theorem Q13w (p0 : List NodeTerm) (i0 : Nat) (v0_1 : List Val) : VOK (Go.Pv.look (number 0 (Qmf p0 i0 v0_1))) [(1, Val.rows v0_1)] := (VOK.cons (show Seen _ _ from Q42 (ob := ⟨5, 0, true, (Val.rows v0_1).flatten⟩) (Val.Qp v0_1 5 rfl)) VOK.nil)
def Qfz (p0 : List NodeTerm) (e : En) (q : List Val) : Prop := ∃ z zo, Qi G e (.st (.exit 0) (Qog p0 q z zo))
theorem Qsi (p0 : List NodeTerm) {e e' : En} (h : ∀ r, Qi G e r → Qi G e' r) : ∀ q, Qfz p0 e q → Qfz p0 e' q
  | _, ⟨z, zo, hz⟩ => ⟨z, zo, h _ hz⟩
def Qfs (p0 : List NodeTerm) : Prop := (List.length p0 ≤ 137438953472) ∧ (∀ x0 ∈ p0, Q17i x0.selector) ∧ True
def Qnj (p0 : List NodeTerm) (i0 : Nat) (_v0_1 : List Val) : List PV :=
  [.sl (NodeTerm.rows p0), .un, .un, .un, .int .i64 (i0 : Int), .int .i64 (i0 : Int), .sl (NodeTerm.rows p0), .int .i64 ((List.length p0) : Int), .bool false]
def Qiq (_p0 : List NodeTerm) (_i0 : Nat) (_v0_1 : List Val) : List (Nat × List PV) :=
  []
theorem Q190 (p0 : List NodeTerm) (_H : Qfs p0) (i0 : Nat) (v0_1 : List Val) (_ho0_0 : List.length v0_1 ≤ i0) (hc0 : (decide ((i0 : Int) < ((List.length p0) : Int))) = false) : Qfz p0 (Qfb p0 i0 v0_1) v0_1 := by
 exact ⟨(envF (Qnj p0 i0 v0_1)), (zoF (Qiq p0 i0 v0_1)), Q10 (Q13w p0 i0 v0_1) (x := ((.exit 0), Qog p0 v0_1 (envF (Qnj p0 i0 v0_1)) (zoF (Qiq p0 i0 v0_1)))) [hP 2 (Qz (NodeTerm.rows p0) (List.length p0) (NodeTerm.Q9 p0)), hB 0 hc0] [] (by kernel_rfl)⟩
theorem Q177 (p0 : List NodeTerm) (H : Qfs p0) (x0 : NodeTerm) (i0 : Nat) (v0_1 : List Val) (hx0 : p0[i0]? = some x0) (hi0 : i0 < List.length p0) (ho0_0 : List.length v0_1 ≤ i0) (hc0 : (decide ((i0 : Int) < ((List.length p0) : Int))) = true) {r : Rs} (hr : Qi G (Qfb p0 (i0 + 1) (v0_1 ++ [(Q1t ([(Q6 Q7 (Q20 x0.required)), (Q6 Q8 (Q37 x0.selector)), (Q6 Qx (Qy x0.weight))]))])) r) : Qi G (Qfb p0 i0 v0_1) r := by
 have hB0 := H.1
 exact Qw (Q13w p0 i0 v0_1) (y := (Qx0 p0 (i0 + 1) (v0_1 ++ [(Q1t ([(Q6 Q7 (Q20 x0.required)), (Q6 Q8 (Q37 x0.selector)), (Q6 Qx (Qy x0.weight))]))]), Qmf p0 (i0 + 1) (v0_1 ++ [(Q1t ([(Q6 Q7 (Q20 x0.required)), (Q6 Q8 (Q37 x0.selector)), (Q6 Qx (Qy x0.weight))]))]))) [hP 2 (Qz (NodeTerm.rows p0) (List.length p0) (NodeTerm.Q9 p0)), hB 0 hc0, hP 3 (Q15 3 (NodeTerm.rows p0) i0 _ (NodeTerm.Qe hx0) rfl), hP 6 (Q15 3 (NodeTerm.rows p0) i0 _ (NodeTerm.Qe hx0) rfl), hP 6 (Q15 3 (NodeTerm.rows p0) i0 _ (NodeTerm.Qe hx0) rfl), hV 7 [(1860, Val.rows (v0_1 ++ [(Q1t ([(Q6 Q7 (Q20 x0.required)), (Q6 Q8 (Q37 x0.selector)), (Q6 Qx (Qy x0.weight))]))]))] (Q3g 1 1796 1860 5 80 0 0 true (Val.rows v0_1) (Val.rows (v0_1 ++ [(Q1t ([(Q6 Q7 (Q20 x0.required)), (Q6 Q8 (Q37 x0.selector)), (Q6 Qx (Qy x0.weight))]))])) (Val.cells (Q1t ([(Q6 Q7 (Q20 x0.required)), (Q6 Q8 (Q37 x0.selector)), (Q6 Qx (Qy x0.weight))]))) (List.length v0_1) (List.length (v0_1 ++ [(Q1t ([(Q6 Q7 (Q20 x0.required)), (Q6 Q8 (Q37 x0.selector)), (Q6 Qx (Qy x0.weight))]))])) rfl (Val.Q9 v0_1).symm (Val.Q9 (v0_1 ++ [(Q1t ([(Q6 Q7 (Q20 x0.required)), (Q6 Q8 (Q37 x0.selector)), (Q6 Qx (Qy x0.weight))]))])).symm (Val.Q1n v0_1 (Q1t ([(Q6 Q7 (Q20 x0.required)), (Q6 Q8 (Q37 x0.selector)), (Q6 Qx (Qy x0.weight))]))) (Val.Q16 v0_1) rfl (by omega)), hS 0 true (Val.Qp (v0_1 ++ [(Q1t ([(Q6 Q7 (Q20 x0.required)), (Q6 Q8 (Q37 x0.selector)), (Q6 Qx (Qy x0.weight))]))]) 5 rfl), hP 2 (Q25 i0 (by omega))] [aN (Qep x0.required), aN (Q2r Q7 (Q20 x0.required)), aN (Q1d9 x0.selector (H.2.1 x0 (Q13 hx0))), aN (Q2r Q8 (Q37 x0.selector)), aN (Q5v x0.weight), aN (Q2r Qx (Qy x0.weight)), aN (Q8w (e' := .call 70 [.sl [(Fld.cells (Q6 Q7 (Q20 x0.required))), (Fld.cells (Q6 Q8 (Q37 x0.selector))), (Fld.cells (Q6 Qx (Qy x0.weight)))]] []) (Q90 ([(Q6 Q7 (Q20 x0.required)), (Q6 Q8 (Q37 x0.selector)), (Q6 Qx (Qy x0.weight))])) (by simp only [Q8u, Fld.Q3e, Fld.Q49]))] (by kernel_rfl) hr
theorem Qur (p0 : List NodeTerm) (H : Qfs p0) : ∀ (r0 : List NodeTerm) (i0 : Nat) (v0_1 : List Val), List.drop i0 p0 = r0 → List.length v0_1 ≤ i0 → Qfz p0 (Qfb p0 i0 v0_1) (Q5q p0 r0 i0 v0_1)
 | [], i0, v0_1, hd, ho0_0 => by
  have hc0 : (decide ((i0 : Int) < ((List.length p0) : Int))) = false := by have := Q1v hd; simp; omega
  rw [Q5q]
  exact Q190 p0 H i0 v0_1 ho0_0 hc0
 | x0 :: r0, i0, v0_1, hd, ho0_0 => by
  obtain ⟨hx0, hi0, hd'⟩ := Q1s hd
  have hc0 : (decide ((i0 : Int) < ((List.length p0) : Int))) = true := by simp; omega
  rw [Q5q]
  exact Qsi p0 (fun r hr => Q177 p0 H x0 i0 v0_1 hx0 hi0 ho0_0 hc0 hr) _ (Qur p0 H r0 (i0 + 1) (v0_1 ++ [(Q1t ([(Q6 Q7 (Q20 x0.required)), (Q6 Q8 (Q37 x0.selector)), (Q6 Qx (Qy x0.weight))]))]) hd' (by first | omega | (simp; omega)))
def Q15l (p0 : List NodeTerm) : Val := vL (p0.map NodeTerm.enc)
theorem Q1n3 (p0 : List NodeTerm) : Q15l p0 = ((Qd9 (Q5q p0 p0 0 []))) := by
  rw [Q10m]
  rfl
def Q1mb (p0 : List NodeTerm) : En := .call 127 [.sl (NodeTerm.rows p0)] []
def Q1l1 (p0 : List NodeTerm) : Rs := .ret (.agg (Val.cells (Q15l p0))) []
def Q1g8 (p0 : List NodeTerm) : Prop := LSm NodeTerm.sm p0
theorem Q1cn (p0 : List NodeTerm) (H : Q1g8 p0) : (Qfs p0) ∧ True := by
  exact ⟨⟨Nat.le_trans H.1 (Nat.le_of_ble_eq_true rfl), fun x hx => (H.2 x hx).1, trivial⟩, trivial⟩
theorem Q1q3 (p0 : List NodeTerm) (H : Q1g8 p0) : Qi G (Q1mb p0) (Q1l1 p0) := by
 unfold Q1l1
 rw [Q1n3]
 have hl0 := Qur p0 ((Q1cn p0 H).1) p0 0 [] (by simp) (by simp)
 obtain ⟨z0, zo0, hl0⟩ := hl0
 exact Qm (fn := Ir.K30) rfl VOK.nil [hS 0 true (Val.Qp (Q5q p0 p0 0 []) 5 rfl), hQ (Val.Q9 (Q5q p0 p0 0 [])).symm] [aV [(1, Val.rows (Q5q p0 p0 0 []))] hl0, aN (Qer (Q5q p0 p0 0 []))] (by kernel_rfl)
def Q5a (p0 : List PodTerm) : List PodTerm → Nat → (List Val) → List Val
 | [], _i0, v0_1 =>
  v0_1
 | x0 :: r0, i0, v0_1 =>
  Q5a p0 r0 (i0 + 1) (v0_1 ++ [(Q1t ([(Q6 Q1w (Q20 x0.anti)), (Q6 Q7 (Q20 x0.required)), (Q6 Q8 (Q37 x0.selector)), (Q6 Ql (Q1b x0.topology)), (Q6 Qx (Qy x0.weight))]))])
theorem Q110 (p0 : List PodTerm) : ∀ (l : List PodTerm) (i : Nat) (a : List Val), Q5a p0 l i a = a ++ l.map (fun x0 => (Q1t ([(Q6 Q1w (Q20 x0.anti)), (Q6 Q7 (Q20 x0.required)), (Q6 Q8 (Q37 x0.selector)), (Q6 Ql (Q1b x0.topology)), (Q6 Qx (Qy x0.weight))])))
  | [], _, _ => by simp [Q5a]
  | x :: r, i, a => by rw [Q5a, Q110 p0 r]; simp
def Quq (p0 : List PodTerm) (i0 : Nat) (v0_1 : List Val) : List PV :=
  [.sl (PodTerm.rows p0), .un, .bx 0 0, .ms 1 5 0 (List.length v0_1), .int .i64 (i0 : Int)] ++ nuns 48
def Qkw (_p0 : List PodTerm) (_i0 : Nat) (v0_1 : List Val) : List Ob :=
  [⟨5, 0, true, [.int .i64 0, .int .i64 0, .str eB, .ms 2 5 0 0, .ms 3 6 0 0]⟩, ⟨5, 0, true, (Val.rows v0_1).flatten⟩, ⟨5, 0, true, []⟩, ⟨6, 0, true, []⟩]
def Qgx (p0 : List PodTerm) (i0 : Nat) (v0_1 : List Val) : En := .loop 0 Ir.Qho Ir.Q1eg (Quq p0 i0 v0_1) (Qkw p0 i0 v0_1)
def Qoc (_p0 : List PodTerm) (q0 : List Val) (z : Nat → PV) (_zo : Nat → List PV) : St :=
  ⟨[z 0, z 1, .bx 0 0, .ms 1 5 0 (List.length q0)] ++ zr z 4 49, [(0, ⟨5, 0, true, [.int .i64 0, .int .i64 0, .str eB, .ms 2 5 0 0, .ms 3 6 0 0]⟩), (1, ⟨5, 0, true, (Val.rows q0).flatten⟩), (2, ⟨5, 0, true, []⟩), (3, ⟨6, 0, true, []⟩)], 260⟩
theorem Q11i (p0 : List PodTerm) (i0 : Nat) (v0_1 : List Val) : VOK (Go.Pv.look (number 0 (Qkw p0 i0 v0_1))) [(1, Val.rows v0_1)] := (VOK.cons (show Seen _ _ from Q42 (ob := ⟨5, 0, true, (Val.rows v0_1).flatten⟩) (Val.Qp v0_1 5 rfl)) VOK.nil)
def Qgh (p0 : List PodTerm) (e : En) (q : List Val) : Prop := ∃ z zo, Qi G e (.st (.exit 0) (Qoc p0 q z zo))
theorem Qt6 (p0 : List PodTerm) {e e' : En} (h : ∀ r, Qi G e r → Qi G e' r) : ∀ q, Qgh p0 e q → Qgh p0 e' q
  | _, ⟨z, zo, hz⟩ => ⟨z, zo, h _ hz⟩
def Qfl (p0 : List PodTerm) : Prop := (List.length p0 ≤ 137438953472) ∧ (∀ x0 ∈ p0, Q17i x0.selector) ∧ True
def Qp3 (p0 : List PodTerm) (i0 : Nat) (_v0_1 : List Val) : List PV :=
  [.sl (PodTerm.rows p0), .un, .un, .un, .int .i64 (i0 : Int), .int .i64 (i0 : Int), .sl (PodTerm.rows p0), .int .i64 ((List.length p0) : Int), .bool false]
def Qht (_p0 : List PodTerm) (_i0 : Nat) (_v0_1 : List Val) : List (Nat × List PV) :=
  []
theorem Q15g (p0 : List PodTerm) (_H : Qfl p0) (i0 : Nat) (v0_1 : List Val) (_ho0_0 : List.length v0_1 ≤ i0) (hc0 : (decide ((i0 : Int) < ((List.length p0) : Int))) = false) : Qgh p0 (Qgx p0 i0 v0_1) v0_1 := by
 exact ⟨(envF (Qp3 p0 i0 v0_1)), (zoF (Qht p0 i0 v0_1)), Q10 (Q11i p0 i0 v0_1) (x := ((.exit 0), Qoc p0 v0_1 (envF (Qp3 p0 i0 v0_1)) (zoF (Qht p0 i0 v0_1)))) [hP 2 (Qz (PodTerm.rows p0) (List.length p0) (PodTerm.Q9 p0)), hB 0 hc0] [] (by kernel_rfl)⟩
theorem Q187 (p0 : List PodTerm) (H : Qfl p0) (x0 : PodTerm) (i0 : Nat) (v0_1 : List Val) (hx0 : p0[i0]? = some x0) (hi0 : i0 < List.length p0) (ho0_0 : List.length v0_1 ≤ i0) (hc0 : (decide ((i0 : Int) < ((List.length p0) : Int))) = true) {r : Rs} (hr : Qi G (Qgx p0 (i0 + 1) (v0_1 ++ [(Q1t ([(Q6 Q1w (Q20 x0.anti)), (Q6 Q7 (Q20 x0.required)), (Q6 Q8 (Q37 x0.selector)), (Q6 Ql (Q1b x0.topology)), (Q6 Qx (Qy x0.weight))]))])) r) : Qi G (Qgx p0 i0 v0_1) r := by
 have hB0 := H.1
 exact Qw (Q11i p0 i0 v0_1) (y := (Quq p0 (i0 + 1) (v0_1 ++ [(Q1t ([(Q6 Q1w (Q20 x0.anti)), (Q6 Q7 (Q20 x0.required)), (Q6 Q8 (Q37 x0.selector)), (Q6 Ql (Q1b x0.topology)), (Q6 Qx (Qy x0.weight))]))]), Qkw p0 (i0 + 1) (v0_1 ++ [(Q1t ([(Q6 Q1w (Q20 x0.anti)), (Q6 Q7 (Q20 x0.required)), (Q6 Q8 (Q37 x0.selector)), (Q6 Ql (Q1b x0.topology)), (Q6 Qx (Qy x0.weight))]))]))) [hP 2 (Qz (PodTerm.rows p0) (List.length p0) (PodTerm.Q9 p0)), hB 0 hc0, hP 3 (Q15 5 (PodTerm.rows p0) i0 _ (PodTerm.Qe hx0) rfl), hP 6 (Q15 5 (PodTerm.rows p0) i0 _ (PodTerm.Qe hx0) rfl), hP 6 (Q15 5 (PodTerm.rows p0) i0 _ (PodTerm.Qe hx0) rfl), hP 6 (Q15 5 (PodTerm.rows p0) i0 _ (PodTerm.Qe hx0) rfl), hP 6 (Q15 5 (PodTerm.rows p0) i0 _ (PodTerm.Qe hx0) rfl), hV 7 [(2756, Val.rows (v0_1 ++ [(Q1t ([(Q6 Q1w (Q20 x0.anti)), (Q6 Q7 (Q20 x0.required)), (Q6 Q8 (Q37 x0.selector)), (Q6 Ql (Q1b x0.topology)), (Q6 Qx (Qy x0.weight))]))]))] (Q3g 1 2692 2756 5 80 0 0 true (Val.rows v0_1) (Val.rows (v0_1 ++ [(Q1t ([(Q6 Q1w (Q20 x0.anti)), (Q6 Q7 (Q20 x0.required)), (Q6 Q8 (Q37 x0.selector)), (Q6 Ql (Q1b x0.topology)), (Q6 Qx (Qy x0.weight))]))])) (Val.cells (Q1t ([(Q6 Q1w (Q20 x0.anti)), (Q6 Q7 (Q20 x0.required)), (Q6 Q8 (Q37 x0.selector)), (Q6 Ql (Q1b x0.topology)), (Q6 Qx (Qy x0.weight))]))) (List.length v0_1) (List.length (v0_1 ++ [(Q1t ([(Q6 Q1w (Q20 x0.anti)), (Q6 Q7 (Q20 x0.required)), (Q6 Q8 (Q37 x0.selector)), (Q6 Ql (Q1b x0.topology)), (Q6 Qx (Qy x0.weight))]))])) rfl (Val.Q9 v0_1).symm (Val.Q9 (v0_1 ++ [(Q1t ([(Q6 Q1w (Q20 x0.anti)), (Q6 Q7 (Q20 x0.required)), (Q6 Q8 (Q37 x0.selector)), (Q6 Ql (Q1b x0.topology)), (Q6 Qx (Qy x0.weight))]))])).symm (Val.Q1n v0_1 (Q1t ([(Q6 Q1w (Q20 x0.anti)), (Q6 Q7 (Q20 x0.required)), (Q6 Q8 (Q37 x0.selector)), (Q6 Ql (Q1b x0.topology)), (Q6 Qx (Qy x0.weight))]))) (Val.Q16 v0_1) rfl (by omega)), hS 0 true (Val.Qp (v0_1 ++ [(Q1t ([(Q6 Q1w (Q20 x0.anti)), (Q6 Q7 (Q20 x0.required)), (Q6 Q8 (Q37 x0.selector)), (Q6 Ql (Q1b x0.topology)), (Q6 Qx (Qy x0.weight))]))]) 5 rfl), hP 2 (Q25 i0 (by omega))] [aN (Qep x0.anti), aN (Q2r Q1w (Q20 x0.anti)), aN (Qep x0.required), aN (Q2r Q7 (Q20 x0.required)), aN (Q1d9 x0.selector (H.2.1 x0 (Q13 hx0))), aN (Q2r Q8 (Q37 x0.selector)), aN (Q98 x0.topology), aN (Q2r Ql (Q1b x0.topology)), aN (Q5v x0.weight), aN (Q2r Qx (Qy x0.weight)), aN (Q8w (e' := .call 70 [.sl [(Fld.cells (Q6 Q1w (Q20 x0.anti))), (Fld.cells (Q6 Q7 (Q20 x0.required))), (Fld.cells (Q6 Q8 (Q37 x0.selector))), (Fld.cells (Q6 Ql (Q1b x0.topology))), (Fld.cells (Q6 Qx (Qy x0.weight)))]] []) (Q90 ([(Q6 Q1w (Q20 x0.anti)), (Q6 Q7 (Q20 x0.required)), (Q6 Q8 (Q37 x0.selector)), (Q6 Ql (Q1b x0.topology)), (Q6 Qx (Qy x0.weight))])) (by simp only [Q8u, Fld.Q3e, Fld.Q49]))] (by kernel_rfl) hr
theorem Qvz (p0 : List PodTerm) (H : Qfl p0) : ∀ (r0 : List PodTerm) (i0 : Nat) (v0_1 : List Val), List.drop i0 p0 = r0 → List.length v0_1 ≤ i0 → Qgh p0 (Qgx p0 i0 v0_1) (Q5a p0 r0 i0 v0_1)
 | [], i0, v0_1, hd, ho0_0 => by
  have hc0 : (decide ((i0 : Int) < ((List.length p0) : Int))) = false := by have := Q1v hd; simp; omega
  rw [Q5a]
  exact Q15g p0 H i0 v0_1 ho0_0 hc0
 | x0 :: r0, i0, v0_1, hd, ho0_0 => by
  obtain ⟨hx0, hi0, hd'⟩ := Q1s hd
  have hc0 : (decide ((i0 : Int) < ((List.length p0) : Int))) = true := by simp; omega
  rw [Q5a]
  exact Qt6 p0 (fun r hr => Q187 p0 H x0 i0 v0_1 hx0 hi0 ho0_0 hc0 hr) _ (Qvz p0 H r0 (i0 + 1) (v0_1 ++ [(Q1t ([(Q6 Q1w (Q20 x0.anti)), (Q6 Q7 (Q20 x0.required)), (Q6 Q8 (Q37 x0.selector)), (Q6 Ql (Q1b x0.topology)), (Q6 Qx (Qy x0.weight))]))]) hd' (by first | omega | (simp; omega)))
def Q14w (p0 : List PodTerm) : Val := vL (p0.map PodTerm.enc)
theorem Q1sk (p0 : List PodTerm) : Q14w p0 = ((Qd9 (Q5a p0 p0 0 []))) := by
  rw [Q110]
  rfl
def Q1sx (p0 : List PodTerm) : En := .call 128 [.sl (PodTerm.rows p0)] []
def Q1lb (p0 : List PodTerm) : Rs := .ret (.agg (Val.cells (Q14w p0))) []
def Q1g3 (p0 : List PodTerm) : Prop := LSm PodTerm.sm p0
theorem Q1cd (p0 : List PodTerm) (H : Q1g3 p0) : (Qfl p0) ∧ True := by
  exact ⟨⟨Nat.le_trans H.1 (Nat.le_of_ble_eq_true rfl), fun x hx => (H.2 x hx).1, trivial⟩, trivial⟩
theorem Q1m3 (p0 : List PodTerm) (H : Q1g3 p0) : Qi G (Q1sx p0) (Q1lb p0) := by
 unfold Q1lb
 rw [Q1sk]
 have hl0 := Qvz p0 ((Q1cd p0 H).1) p0 0 [] (by simp) (by simp)
 obtain ⟨z0, zo0, hl0⟩ := hl0
 exact Qm (fn := Ir.K31) rfl VOK.nil [hS 0 true (Val.Qp (Q5a p0 p0 0 []) 5 rfl), hQ (Val.Q9 (Q5a p0 p0 0 [])).symm] [aV [(1, Val.rows (Q5a p0 p0 0 []))] hl0, aN (Qer (Q5a p0 p0 0 []))] (by kernel_rfl)
def Q5g (p0 : List SpreadRule) : List SpreadRule → Nat → (List Val) → List Val
 | [], _i0, v0_1 =>
  v0_1
 | x0 :: r0, i0, v0_1 =>
  Q5g p0 r0 (i0 + 1) (v0_1 ++ [(Q1t ([(Q6 Q17 (Qy x0.maxSkew)), (Q6 Q7 (Q20 x0.required)), (Q6 Q8 (Q37 x0.selector)), (Q6 Ql (Q1b x0.topology))]))])
theorem Q141 (p0 : List SpreadRule) : ∀ (l : List SpreadRule) (i : Nat) (a : List Val), Q5g p0 l i a = a ++ l.map (fun x0 => (Q1t ([(Q6 Q17 (Qy x0.maxSkew)), (Q6 Q7 (Q20 x0.required)), (Q6 Q8 (Q37 x0.selector)), (Q6 Ql (Q1b x0.topology))])))
  | [], _, _ => by simp [Q5g]
  | x :: r, i, a => by rw [Q5g, Q141 p0 r]; simp
def Qwo (p0 : List SpreadRule) (i0 : Nat) (v0_1 : List Val) : List PV :=
  [.sl (SpreadRule.rows p0), .un, .bx 0 0, .ms 1 5 0 (List.length v0_1), .int .i64 (i0 : Int)] ++ nuns 41
def Qkt (_p0 : List SpreadRule) (_i0 : Nat) (v0_1 : List Val) : List Ob :=
  [⟨5, 0, true, [.int .i64 0, .int .i64 0, .str eB, .ms 2 5 0 0, .ms 3 6 0 0]⟩, ⟨5, 0, true, (Val.rows v0_1).flatten⟩, ⟨5, 0, true, []⟩, ⟨6, 0, true, []⟩]
def Qh5 (p0 : List SpreadRule) (i0 : Nat) (v0_1 : List Val) : En := .loop 0 Ir.Qii Ir.Q1ey (Qwo p0 i0 v0_1) (Qkt p0 i0 v0_1)
def Qon (_p0 : List SpreadRule) (q0 : List Val) (z : Nat → PV) (_zo : Nat → List PV) : St :=
  ⟨[z 0, z 1, .bx 0 0, .ms 1 5 0 (List.length q0)] ++ zr z 4 42, [(0, ⟨5, 0, true, [.int .i64 0, .int .i64 0, .str eB, .ms 2 5 0 0, .ms 3 6 0 0]⟩), (1, ⟨5, 0, true, (Val.rows q0).flatten⟩), (2, ⟨5, 0, true, []⟩), (3, ⟨6, 0, true, []⟩)], 260⟩
theorem Q11s (p0 : List SpreadRule) (i0 : Nat) (v0_1 : List Val) : VOK (Go.Pv.look (number 0 (Qkt p0 i0 v0_1))) [(1, Val.rows v0_1)] := (VOK.cons (show Seen _ _ from Q42 (ob := ⟨5, 0, true, (Val.rows v0_1).flatten⟩) (Val.Qp v0_1 5 rfl)) VOK.nil)
def Qh0 (p0 : List SpreadRule) (e : En) (q : List Val) : Prop := ∃ z zo, Qi G e (.st (.exit 0) (Qon p0 q z zo))
theorem Qsn (p0 : List SpreadRule) {e e' : En} (h : ∀ r, Qi G e r → Qi G e' r) : ∀ q, Qh0 p0 e q → Qh0 p0 e' q
  | _, ⟨z, zo, hz⟩ => ⟨z, zo, h _ hz⟩
def Qg3 (p0 : List SpreadRule) : Prop := (List.length p0 ≤ 137438953472) ∧ (∀ x0 ∈ p0, Q17i x0.selector) ∧ True
def Qos (p0 : List SpreadRule) (i0 : Nat) (_v0_1 : List Val) : List PV :=
  [.sl (SpreadRule.rows p0), .un, .un, .un, .int .i64 (i0 : Int), .int .i64 (i0 : Int), .sl (SpreadRule.rows p0), .int .i64 ((List.length p0) : Int), .bool false]
def Qi3 (_p0 : List SpreadRule) (_i0 : Nat) (_v0_1 : List Val) : List (Nat × List PV) :=
  []
theorem Q199 (p0 : List SpreadRule) (_H : Qg3 p0) (i0 : Nat) (v0_1 : List Val) (_ho0_0 : List.length v0_1 ≤ i0) (hc0 : (decide ((i0 : Int) < ((List.length p0) : Int))) = false) : Qh0 p0 (Qh5 p0 i0 v0_1) v0_1 := by
 exact ⟨(envF (Qos p0 i0 v0_1)), (zoF (Qi3 p0 i0 v0_1)), Q10 (Q11s p0 i0 v0_1) (x := ((.exit 0), Qon p0 v0_1 (envF (Qos p0 i0 v0_1)) (zoF (Qi3 p0 i0 v0_1)))) [hP 2 (Qz (SpreadRule.rows p0) (List.length p0) (SpreadRule.Q9 p0)), hB 0 hc0] [] (by kernel_rfl)⟩
theorem Q14l (p0 : List SpreadRule) (H : Qg3 p0) (x0 : SpreadRule) (i0 : Nat) (v0_1 : List Val) (hx0 : p0[i0]? = some x0) (hi0 : i0 < List.length p0) (ho0_0 : List.length v0_1 ≤ i0) (hc0 : (decide ((i0 : Int) < ((List.length p0) : Int))) = true) {r : Rs} (hr : Qi G (Qh5 p0 (i0 + 1) (v0_1 ++ [(Q1t ([(Q6 Q17 (Qy x0.maxSkew)), (Q6 Q7 (Q20 x0.required)), (Q6 Q8 (Q37 x0.selector)), (Q6 Ql (Q1b x0.topology))]))])) r) : Qi G (Qh5 p0 i0 v0_1) r := by
 have hB0 := H.1
 exact Qw (Q11s p0 i0 v0_1) (y := (Qwo p0 (i0 + 1) (v0_1 ++ [(Q1t ([(Q6 Q17 (Qy x0.maxSkew)), (Q6 Q7 (Q20 x0.required)), (Q6 Q8 (Q37 x0.selector)), (Q6 Ql (Q1b x0.topology))]))]), Qkt p0 (i0 + 1) (v0_1 ++ [(Q1t ([(Q6 Q17 (Qy x0.maxSkew)), (Q6 Q7 (Q20 x0.required)), (Q6 Q8 (Q37 x0.selector)), (Q6 Ql (Q1b x0.topology))]))]))) [hP 2 (Qz (SpreadRule.rows p0) (List.length p0) (SpreadRule.Q9 p0)), hB 0 hc0, hP 3 (Q15 4 (SpreadRule.rows p0) i0 _ (SpreadRule.Qe hx0) rfl), hP 6 (Q15 4 (SpreadRule.rows p0) i0 _ (SpreadRule.Qe hx0) rfl), hP 6 (Q15 4 (SpreadRule.rows p0) i0 _ (SpreadRule.Qe hx0) rfl), hP 6 (Q15 4 (SpreadRule.rows p0) i0 _ (SpreadRule.Qe hx0) rfl), hV 7 [(2308, Val.rows (v0_1 ++ [(Q1t ([(Q6 Q17 (Qy x0.maxSkew)), (Q6 Q7 (Q20 x0.required)), (Q6 Q8 (Q37 x0.selector)), (Q6 Ql (Q1b x0.topology))]))]))] (Q3g 1 2244 2308 5 80 0 0 true (Val.rows v0_1) (Val.rows (v0_1 ++ [(Q1t ([(Q6 Q17 (Qy x0.maxSkew)), (Q6 Q7 (Q20 x0.required)), (Q6 Q8 (Q37 x0.selector)), (Q6 Ql (Q1b x0.topology))]))])) (Val.cells (Q1t ([(Q6 Q17 (Qy x0.maxSkew)), (Q6 Q7 (Q20 x0.required)), (Q6 Q8 (Q37 x0.selector)), (Q6 Ql (Q1b x0.topology))]))) (List.length v0_1) (List.length (v0_1 ++ [(Q1t ([(Q6 Q17 (Qy x0.maxSkew)), (Q6 Q7 (Q20 x0.required)), (Q6 Q8 (Q37 x0.selector)), (Q6 Ql (Q1b x0.topology))]))])) rfl (Val.Q9 v0_1).symm (Val.Q9 (v0_1 ++ [(Q1t ([(Q6 Q17 (Qy x0.maxSkew)), (Q6 Q7 (Q20 x0.required)), (Q6 Q8 (Q37 x0.selector)), (Q6 Ql (Q1b x0.topology))]))])).symm (Val.Q1n v0_1 (Q1t ([(Q6 Q17 (Qy x0.maxSkew)), (Q6 Q7 (Q20 x0.required)), (Q6 Q8 (Q37 x0.selector)), (Q6 Ql (Q1b x0.topology))]))) (Val.Q16 v0_1) rfl (by omega)), hS 0 true (Val.Qp (v0_1 ++ [(Q1t ([(Q6 Q17 (Qy x0.maxSkew)), (Q6 Q7 (Q20 x0.required)), (Q6 Q8 (Q37 x0.selector)), (Q6 Ql (Q1b x0.topology))]))]) 5 rfl), hP 2 (Q25 i0 (by omega))] [aN (Q5v x0.maxSkew), aN (Q2r Q17 (Qy x0.maxSkew)), aN (Qep x0.required), aN (Q2r Q7 (Q20 x0.required)), aN (Q1d9 x0.selector (H.2.1 x0 (Q13 hx0))), aN (Q2r Q8 (Q37 x0.selector)), aN (Q98 x0.topology), aN (Q2r Ql (Q1b x0.topology)), aN (Q8w (e' := .call 70 [.sl [(Fld.cells (Q6 Q17 (Qy x0.maxSkew))), (Fld.cells (Q6 Q7 (Q20 x0.required))), (Fld.cells (Q6 Q8 (Q37 x0.selector))), (Fld.cells (Q6 Ql (Q1b x0.topology)))]] []) (Q90 ([(Q6 Q17 (Qy x0.maxSkew)), (Q6 Q7 (Q20 x0.required)), (Q6 Q8 (Q37 x0.selector)), (Q6 Ql (Q1b x0.topology))])) (by simp only [Q8u, Fld.Q3e, Fld.Q49]))] (by kernel_rfl) hr
theorem Qx6 (p0 : List SpreadRule) (H : Qg3 p0) : ∀ (r0 : List SpreadRule) (i0 : Nat) (v0_1 : List Val), List.drop i0 p0 = r0 → List.length v0_1 ≤ i0 → Qh0 p0 (Qh5 p0 i0 v0_1) (Q5g p0 r0 i0 v0_1)
 | [], i0, v0_1, hd, ho0_0 => by
  have hc0 : (decide ((i0 : Int) < ((List.length p0) : Int))) = false := by have := Q1v hd; simp; omega
  rw [Q5g]
  exact Q199 p0 H i0 v0_1 ho0_0 hc0
 | x0 :: r0, i0, v0_1, hd, ho0_0 => by
  obtain ⟨hx0, hi0, hd'⟩ := Q1s hd
  have hc0 : (decide ((i0 : Int) < ((List.length p0) : Int))) = true := by simp; omega
  rw [Q5g]
  exact Qsn p0 (fun r hr => Q14l p0 H x0 i0 v0_1 hx0 hi0 ho0_0 hc0 hr) _ (Qx6 p0 H r0 (i0 + 1) (v0_1 ++ [(Q1t ([(Q6 Q17 (Qy x0.maxSkew)), (Q6 Q7 (Q20 x0.required)), (Q6 Q8 (Q37 x0.selector)), (Q6 Ql (Q1b x0.topology))]))]) hd' (by first | omega | (simp; omega)))
def Q181 (p0 : List SpreadRule) : Val := vL (p0.map SpreadRule.enc)
theorem Q1rl (p0 : List SpreadRule) : Q181 p0 = ((Qd9 (Q5g p0 p0 0 []))) := by
  rw [Q141]
  rfl
def Q1na (p0 : List SpreadRule) : En := .call 129 [.sl (SpreadRule.rows p0)] []
def Q1km (p0 : List SpreadRule) : Rs := .ret (.agg (Val.cells (Q181 p0))) []
def Q1he (p0 : List SpreadRule) : Prop := LSm SpreadRule.sm p0
theorem Q1dk (p0 : List SpreadRule) (H : Q1he p0) : (Qg3 p0) ∧ True := by
  exact ⟨⟨Nat.le_trans H.1 (Nat.le_of_ble_eq_true rfl), fun x hx => (H.2 x hx).1, trivial⟩, trivial⟩
theorem Q1o4 (p0 : List SpreadRule) (H : Q1he p0) : Qi G (Q1na p0) (Q1km p0) := by
 unfold Q1km
 rw [Q1rl]
 have hl0 := Qx6 p0 ((Q1dk p0 H).1) p0 0 [] (by simp) (by simp)
 obtain ⟨z0, zo0, hl0⟩ := hl0
 exact Qm (fn := Ir.K34) rfl VOK.nil [hS 0 true (Val.Qp (Q5g p0 p0 0 []) 5 rfl), hQ (Val.Q9 (Q5g p0 p0 0 [])).symm] [aV [(1, Val.rows (Q5g p0 p0 0 []))] hl0, aN (Qer (Q5g p0 p0 0 []))] (by kernel_rfl)
def Q5b (p0 : List Toleration) : List Toleration → Nat → (List Val) → List Val
 | [], _i0, v0_1 =>
  v0_1
 | x0 :: r0, i0, v0_1 =>
  Q5b p0 r0 (i0 + 1) (v0_1 ++ [(Q1t ([(Q6 Qr (Qy x0.effect)), (Q6 Q1j (Q20 x0.exists_)), (Q6 Qs (Q1b x0.key)), (Q6 Q1h (Qy x0.seconds)), (Q6 Qo (Q1b x0.value))]))])
theorem Q122 (p0 : List Toleration) : ∀ (l : List Toleration) (i : Nat) (a : List Val), Q5b p0 l i a = a ++ l.map (fun x0 => (Q1t ([(Q6 Qr (Qy x0.effect)), (Q6 Q1j (Q20 x0.exists_)), (Q6 Qs (Q1b x0.key)), (Q6 Q1h (Qy x0.seconds)), (Q6 Qo (Q1b x0.value))])))
  | [], _, _ => by simp [Q5b]
  | x :: r, i, a => by rw [Q5b, Q122 p0 r]; simp
def Qyp (p0 : List Toleration) (i0 : Nat) (v0_1 : List Val) : List PV :=
  [.sl (Toleration.rows p0), .un, .bx 0 0, .ms 1 5 0 (List.length v0_1), .int .i64 (i0 : Int)] ++ nuns 48
def Qk6 (_p0 : List Toleration) (_i0 : Nat) (v0_1 : List Val) : List Ob :=
  [⟨5, 0, true, [.int .i64 0, .int .i64 0, .str eB, .ms 2 5 0 0, .ms 3 6 0 0]⟩, ⟨5, 0, true, (Val.rows v0_1).flatten⟩, ⟨5, 0, true, []⟩, ⟨6, 0, true, []⟩]
def Qeu (p0 : List Toleration) (i0 : Nat) (v0_1 : List Val) : En := .loop 0 Ir.Qk4 Ir.Q1dp (Qyp p0 i0 v0_1) (Qk6 p0 i0 v0_1)
def Qqv (_p0 : List Toleration) (q0 : List Val) (z : Nat → PV) (_zo : Nat → List PV) : St :=
  ⟨[z 0, z 1, .bx 0 0, .ms 1 5 0 (List.length q0)] ++ zr z 4 49, [(0, ⟨5, 0, true, [.int .i64 0, .int .i64 0, .str eB, .ms 2 5 0 0, .ms 3 6 0 0]⟩), (1, ⟨5, 0, true, (Val.rows q0).flatten⟩), (2, ⟨5, 0, true, []⟩), (3, ⟨6, 0, true, []⟩)], 260⟩
theorem Q11f (p0 : List Toleration) (i0 : Nat) (v0_1 : List Val) : VOK (Go.Pv.look (number 0 (Qk6 p0 i0 v0_1))) [(1, Val.rows v0_1)] := (VOK.cons (show Seen _ _ from Q42 (ob := ⟨5, 0, true, (Val.rows v0_1).flatten⟩) (Val.Qp v0_1 5 rfl)) VOK.nil)
def Qft (p0 : List Toleration) (e : En) (q : List Val) : Prop := ∃ z zo, Qi G e (.st (.exit 0) (Qqv p0 q z zo))
theorem Qsz (p0 : List Toleration) {e e' : En} (h : ∀ r, Qi G e r → Qi G e' r) : ∀ q, Qft p0 e q → Qft p0 e' q
  | _, ⟨z, zo, hz⟩ => ⟨z, zo, h _ hz⟩
def Qfv (p0 : List Toleration) : Prop := (List.length p0 ≤ 137438953472) ∧ True
def Qo6 (p0 : List Toleration) (i0 : Nat) (_v0_1 : List Val) : List PV :=
  [.sl (Toleration.rows p0), .un, .un, .un, .int .i64 (i0 : Int), .int .i64 (i0 : Int), .sl (Toleration.rows p0), .int .i64 ((List.length p0) : Int), .bool false]
def Qjj (_p0 : List Toleration) (_i0 : Nat) (_v0_1 : List Val) : List (Nat × List PV) :=
  []
theorem Q18v (p0 : List Toleration) (_H : Qfv p0) (i0 : Nat) (v0_1 : List Val) (_ho0_0 : List.length v0_1 ≤ i0) (hc0 : (decide ((i0 : Int) < ((List.length p0) : Int))) = false) : Qft p0 (Qeu p0 i0 v0_1) v0_1 := by
 exact ⟨(envF (Qo6 p0 i0 v0_1)), (zoF (Qjj p0 i0 v0_1)), Q10 (Q11f p0 i0 v0_1) (x := ((.exit 0), Qqv p0 v0_1 (envF (Qo6 p0 i0 v0_1)) (zoF (Qjj p0 i0 v0_1)))) [hP 2 (Qz (Toleration.rows p0) (List.length p0) (Toleration.Q9 p0)), hB 0 hc0] [] (by kernel_rfl)⟩
theorem Q154 (p0 : List Toleration) (H : Qfv p0) (x0 : Toleration) (i0 : Nat) (v0_1 : List Val) (hx0 : p0[i0]? = some x0) (hi0 : i0 < List.length p0) (ho0_0 : List.length v0_1 ≤ i0) (hc0 : (decide ((i0 : Int) < ((List.length p0) : Int))) = true) {r : Rs} (hr : Qi G (Qeu p0 (i0 + 1) (v0_1 ++ [(Q1t ([(Q6 Qr (Qy x0.effect)), (Q6 Q1j (Q20 x0.exists_)), (Q6 Qs (Q1b x0.key)), (Q6 Q1h (Qy x0.seconds)), (Q6 Qo (Q1b x0.value))]))])) r) : Qi G (Qeu p0 i0 v0_1) r := by
 have hB0 := H.1
 exact Qw (Q11f p0 i0 v0_1) (y := (Qyp p0 (i0 + 1) (v0_1 ++ [(Q1t ([(Q6 Qr (Qy x0.effect)), (Q6 Q1j (Q20 x0.exists_)), (Q6 Qs (Q1b x0.key)), (Q6 Q1h (Qy x0.seconds)), (Q6 Qo (Q1b x0.value))]))]), Qk6 p0 (i0 + 1) (v0_1 ++ [(Q1t ([(Q6 Qr (Qy x0.effect)), (Q6 Q1j (Q20 x0.exists_)), (Q6 Qs (Q1b x0.key)), (Q6 Q1h (Qy x0.seconds)), (Q6 Qo (Q1b x0.value))]))]))) [hP 2 (Qz (Toleration.rows p0) (List.length p0) (Toleration.Q9 p0)), hB 0 hc0, hP 3 (Q15 5 (Toleration.rows p0) i0 _ (Toleration.Qe hx0) rfl), hP 6 (Q15 5 (Toleration.rows p0) i0 _ (Toleration.Qe hx0) rfl), hP 6 (Q15 5 (Toleration.rows p0) i0 _ (Toleration.Qe hx0) rfl), hP 6 (Q15 5 (Toleration.rows p0) i0 _ (Toleration.Qe hx0) rfl), hP 6 (Q15 5 (Toleration.rows p0) i0 _ (Toleration.Qe hx0) rfl), hV 7 [(2756, Val.rows (v0_1 ++ [(Q1t ([(Q6 Qr (Qy x0.effect)), (Q6 Q1j (Q20 x0.exists_)), (Q6 Qs (Q1b x0.key)), (Q6 Q1h (Qy x0.seconds)), (Q6 Qo (Q1b x0.value))]))]))] (Q3g 1 2692 2756 5 80 0 0 true (Val.rows v0_1) (Val.rows (v0_1 ++ [(Q1t ([(Q6 Qr (Qy x0.effect)), (Q6 Q1j (Q20 x0.exists_)), (Q6 Qs (Q1b x0.key)), (Q6 Q1h (Qy x0.seconds)), (Q6 Qo (Q1b x0.value))]))])) (Val.cells (Q1t ([(Q6 Qr (Qy x0.effect)), (Q6 Q1j (Q20 x0.exists_)), (Q6 Qs (Q1b x0.key)), (Q6 Q1h (Qy x0.seconds)), (Q6 Qo (Q1b x0.value))]))) (List.length v0_1) (List.length (v0_1 ++ [(Q1t ([(Q6 Qr (Qy x0.effect)), (Q6 Q1j (Q20 x0.exists_)), (Q6 Qs (Q1b x0.key)), (Q6 Q1h (Qy x0.seconds)), (Q6 Qo (Q1b x0.value))]))])) rfl (Val.Q9 v0_1).symm (Val.Q9 (v0_1 ++ [(Q1t ([(Q6 Qr (Qy x0.effect)), (Q6 Q1j (Q20 x0.exists_)), (Q6 Qs (Q1b x0.key)), (Q6 Q1h (Qy x0.seconds)), (Q6 Qo (Q1b x0.value))]))])).symm (Val.Q1n v0_1 (Q1t ([(Q6 Qr (Qy x0.effect)), (Q6 Q1j (Q20 x0.exists_)), (Q6 Qs (Q1b x0.key)), (Q6 Q1h (Qy x0.seconds)), (Q6 Qo (Q1b x0.value))]))) (Val.Q16 v0_1) rfl (by omega)), hS 0 true (Val.Qp (v0_1 ++ [(Q1t ([(Q6 Qr (Qy x0.effect)), (Q6 Q1j (Q20 x0.exists_)), (Q6 Qs (Q1b x0.key)), (Q6 Q1h (Qy x0.seconds)), (Q6 Qo (Q1b x0.value))]))]) 5 rfl), hP 2 (Q25 i0 (by omega))] [aN (Q5v x0.effect), aN (Q2r Qr (Qy x0.effect)), aN (Qep x0.exists_), aN (Q2r Q1j (Q20 x0.exists_)), aN (Q98 x0.key), aN (Q2r Qs (Q1b x0.key)), aN (Q5v x0.seconds), aN (Q2r Q1h (Qy x0.seconds)), aN (Q98 x0.value), aN (Q2r Qo (Q1b x0.value)), aN (Q8w (e' := .call 70 [.sl [(Fld.cells (Q6 Qr (Qy x0.effect))), (Fld.cells (Q6 Q1j (Q20 x0.exists_))), (Fld.cells (Q6 Qs (Q1b x0.key))), (Fld.cells (Q6 Q1h (Qy x0.seconds))), (Fld.cells (Q6 Qo (Q1b x0.value)))]] []) (Q90 ([(Q6 Qr (Qy x0.effect)), (Q6 Q1j (Q20 x0.exists_)), (Q6 Qs (Q1b x0.key)), (Q6 Q1h (Qy x0.seconds)), (Q6 Qo (Q1b x0.value))])) (by simp only [Q8u, Fld.Q3e, Fld.Q49]))] (by kernel_rfl) hr
theorem Qxy (p0 : List Toleration) (H : Qfv p0) : ∀ (r0 : List Toleration) (i0 : Nat) (v0_1 : List Val), List.drop i0 p0 = r0 → List.length v0_1 ≤ i0 → Qft p0 (Qeu p0 i0 v0_1) (Q5b p0 r0 i0 v0_1)
 | [], i0, v0_1, hd, ho0_0 => by
  have hc0 : (decide ((i0 : Int) < ((List.length p0) : Int))) = false := by have := Q1v hd; simp; omega
  rw [Q5b]
  exact Q18v p0 H i0 v0_1 ho0_0 hc0
 | x0 :: r0, i0, v0_1, hd, ho0_0 => by
  obtain ⟨hx0, hi0, hd'⟩ := Q1s hd
  have hc0 : (decide ((i0 : Int) < ((List.length p0) : Int))) = true := by simp; omega
  rw [Q5b]
  exact Qsz p0 (fun r hr => Q154 p0 H x0 i0 v0_1 hx0 hi0 ho0_0 hc0 hr) _ (Qxy p0 H r0 (i0 + 1) (v0_1 ++ [(Q1t ([(Q6 Qr (Qy x0.effect)), (Q6 Q1j (Q20 x0.exists_)), (Q6 Qs (Q1b x0.key)), (Q6 Q1h (Qy x0.seconds)), (Q6 Qo (Q1b x0.value))]))]) hd' (by first | omega | (simp; omega)))
def Q17a (p0 : List Toleration) : Val := vL (p0.map Toleration.enc)
theorem Q1q5 (p0 : List Toleration) : Q17a p0 = ((Qd9 (Q5b p0 p0 0 []))) := by
  rw [Q122]
  rfl
def Q1s8 (p0 : List Toleration) : En := .call 130 [.sl (Toleration.rows p0)] []
def Q1lx (p0 : List Toleration) : Rs := .ret (.agg (Val.cells (Q17a p0))) []
def Q1hg (p0 : List Toleration) : Prop := LSm Toleration.sm p0
theorem Q1dg (p0 : List Toleration) (H : Q1hg p0) : (Qfv p0) ∧ True := by
  exact ⟨⟨Nat.le_trans H.1 (Nat.le_of_ble_eq_true rfl), trivial⟩, trivial⟩
theorem Q1po (p0 : List Toleration) (H : Q1hg p0) : Qi G (Q1s8 p0) (Q1lx p0) := by
 unfold Q1lx
 rw [Q1q5]
 have hl0 := Qxy p0 ((Q1dg p0 H).1) p0 0 [] (by simp) (by simp)
 obtain ⟨z0, zo0, hl0⟩ := hl0
 exact Qm (fn := Ir.K38) rfl VOK.nil [hS 0 true (Val.Qp (Q5b p0 p0 0 []) 5 rfl), hQ (Val.Q9 (Q5b p0 p0 0 [])).symm] [aV [(1, Val.rows (Q5b p0 p0 0 []))] hl0, aN (Qer (Q5b p0 p0 0 []))] (by kernel_rfl)
def Qz3 (p0 : PodSpec) : Val := PodSpec.enc p0
theorem Q1t5 (p0 : PodSpec) : Qz3 p0 = ((Q1t ([(Q6 Q0 (Q163 p0.containers)), (Q6 Q2y (Qy p0.grace)), (Q6 Q30 (Q1b p0.node)), (Q6 Q1f (Q37 p0.nodeSelector)), (Q6 Q12 (Q15l p0.nodeTerms)), (Q6 Q14 (Q14w p0.podTerms)), (Q6 Q24 (Qy p0.priority)), (Q6 Q2j (Qy p0.restart)), (Q6 Q1d (Q181 p0.spread)), (Q6 Qu (Q17a p0.tolerations))]))) := by
  rfl
def Q1pa (p0 : PodSpec) : En := .call 59 [.agg (PodSpec.cells p0)] []
def Q1k0 (p0 : PodSpec) : Rs := .ret (.agg (Val.cells (Qz3 p0))) []
def Q1d4 (p0 : PodSpec) : Prop := PodSpec.sm p0
theorem Qa6 (p0 : PodSpec) (H : Q1d4 p0) : (Q1gd p0.containers) ∧ (Q17i p0.nodeSelector) ∧ (Q1g8 p0.nodeTerms) ∧ (Q1g3 p0.podTerms) ∧ (Q1he p0.spread) ∧ (Q1hg p0.tolerations) ∧ True := by
  repeat' with_reducible apply And.intro
  all_goals first | exact True.intro | exact H | exact H.1 | exact H.2.1 | exact H.2.2.1 | exact H.2.2.2.1 | exact H.2.2.2.2.1 | exact H.2.2.2.2.2.1 | exact H.2.2.2.2.2.2.1 | exact H.2.2.2.2.2.2.2.1 | exact H.2.2.2.2.2.2.2.2.1 | exact H.2.2.2.2.2.2.2.2.2.1 | exact H.2.2.2.2.2.2.2.2.2.2.1
theorem Q1l9 (p0 : PodSpec) (H : Q1d4 p0) : Qi G (Q1pa p0) (Q1k0 p0) := by
 unfold Q1k0
 rw [Q1t5]
 exact Qm (fn := Ir.K2d) rfl VOK.nil [] [aN (Q1ti p0.containers (Qa6 p0 H).1), aN (Q2r Q0 (Q163 p0.containers)), aN (Q5v p0.grace), aN (Q2r Q2y (Qy p0.grace)), aN (Q98 p0.node), aN (Q2r Q30 (Q1b p0.node)), aN (Q1d9 p0.nodeSelector (Qa6 p0 H).2.1), aN (Q2r Q1f (Q37 p0.nodeSelector)), aN (Q1q3 p0.nodeTerms (Qa6 p0 H).2.2.1), aN (Q2r Q12 (Q15l p0.nodeTerms)), aN (Q1m3 p0.podTerms (Qa6 p0 H).2.2.2.1), aN (Q2r Q14 (Q14w p0.podTerms)), aN (Q5v p0.priority), aN (Q2r Q24 (Qy p0.priority)), aN (Q5v p0.restart), aN (Q2r Q2j (Qy p0.restart)), aN (Q1o4 p0.spread (Qa6 p0 H).2.2.2.2.1), aN (Q2r Q1d (Q181 p0.spread)), aN (Q1po p0.tolerations (Qa6 p0 H).2.2.2.2.2.1), aN (Q2r Qu (Q17a p0.tolerations)), aN (Q8w (e' := .call 70 [.sl [(Fld.cells (Q6 Q0 (Q163 p0.containers))), (Fld.cells (Q6 Q2y (Qy p0.grace))), (Fld.cells (Q6 Q30 (Q1b p0.node))), (Fld.cells (Q6 Q1f (Q37 p0.nodeSelector))), (Fld.cells (Q6 Q12 (Q15l p0.nodeTerms))), (Fld.cells (Q6 Q14 (Q14w p0.podTerms))), (Fld.cells (Q6 Q24 (Qy p0.priority))), (Fld.cells (Q6 Q2j (Qy p0.restart))), (Fld.cells (Q6 Q1d (Q181 p0.spread))), (Fld.cells (Q6 Qu (Q17a p0.tolerations)))]] []) (Q90 ([(Q6 Q0 (Q163 p0.containers)), (Q6 Q2y (Qy p0.grace)), (Q6 Q30 (Q1b p0.node)), (Q6 Q1f (Q37 p0.nodeSelector)), (Q6 Q12 (Q15l p0.nodeTerms)), (Q6 Q14 (Q14w p0.podTerms)), (Q6 Q24 (Qy p0.priority)), (Q6 Q2j (Qy p0.restart)), (Q6 Q1d (Q181 p0.spread)), (Q6 Qu (Q17a p0.tolerations))])) (by simp only [Q8u, Fld.Q3e, Fld.Q49]))] (by kernel_rfl)
def Qzw (p0 : Template) : Val := Template.enc p0
theorem Q1s0 (p0 : Template) : Qzw p0 = ((Q1t ([(Q6 Q11 (Q161 p0.labels)), (Q6 Q2p (Qz3 p0.spec))]))) := by
  rfl
def Q1nx (p0 : Template) : En := .call 29 [.agg (Template.cells p0)] []
def Q1ix (p0 : Template) : Rs := .ret (.agg (Val.cells (Qzw p0))) []
def Q1by (p0 : Template) : Prop := Template.sm p0
theorem Q10b (p0 : Template) (H : Q1by p0) : (Q1hn p0.labels) ∧ (Q1d4 p0.spec) ∧ True := by
  repeat' with_reducible apply And.intro
  all_goals first | exact True.intro | exact H | exact H.1 | exact H.2.1 | exact H.2.2.1 | exact H.2.2.2.1 | exact H.2.2.2.2.1 | exact H.2.2.2.2.2.1 | exact H.2.2.2.2.2.2.1 | exact H.2.2.2.2.2.2.2.1 | exact H.2.2.2.2.2.2.2.2.1 | exact H.2.2.2.2.2.2.2.2.2.1 | exact H.2.2.2.2.2.2.2.2.2.2.1
theorem Q1jj (p0 : Template) (H : Q1by p0) : Qi G (Q1nx p0) (Q1ix p0) := by
 unfold Q1ix
 rw [Q1s0]
 exact Qm (fn := Ir.K2f) rfl VOK.nil [] [aN (Q1nr p0.labels (Q10b p0 H).1), aN (Q2r Q11 (Q161 p0.labels)), aN (Q1l9 p0.spec (Q10b p0 H).2.1), aN (Q2r Q2p (Qz3 p0.spec)), aN (Q8w (e' := .call 70 [.sl [(Fld.cells (Q6 Q11 (Q161 p0.labels))), (Fld.cells (Q6 Q2p (Qz3 p0.spec)))]] []) (Q90 ([(Q6 Q11 (Q161 p0.labels)), (Q6 Q2p (Qz3 p0.spec))])) (by simp only [Q8u, Fld.Q3e, Fld.Q49]))] (by kernel_rfl)
def Q5h (p0 : List ContainerStatus) : List ContainerStatus → Nat → (List Val) → List Val
 | [], _i0, v0_1 =>
  v0_1
 | x0 :: r0, i0, v0_1 =>
  Q5h p0 r0 (i0 + 1) (v0_1 ++ [(Q1t ([(Q6 Qc (Qy x0.exitCode)), (Q6 Qf (Q1b x0.name)), (Q6 Qa (Q20 x0.ready)), (Q6 Qd (Qy x0.restarts)), (Q6 Qk (Qy x0.since)), (Q6 Qg (Q20 x0.started)), (Q6 Qq (Qy x0.state))]))])
theorem Q10a (p0 : List ContainerStatus) : ∀ (l : List ContainerStatus) (i : Nat) (a : List Val), Q5h p0 l i a = a ++ l.map (fun x0 => (Q1t ([(Q6 Qc (Qy x0.exitCode)), (Q6 Qf (Q1b x0.name)), (Q6 Qa (Q20 x0.ready)), (Q6 Qd (Qy x0.restarts)), (Q6 Qk (Qy x0.since)), (Q6 Qg (Q20 x0.started)), (Q6 Qq (Qy x0.state))])))
  | [], _, _ => by simp [Q5h]
  | x :: r, i, a => by rw [Q5h, Q10a p0 r]; simp
def Qvd (p0 : List ContainerStatus) (i0 : Nat) (v0_1 : List Val) : List PV :=
  [.sl (ContainerStatus.rows p0), .un, .bx 0 0, .ms 1 5 0 (List.length v0_1), .int .i64 (i0 : Int)] ++ nuns 46
def Qkq (_p0 : List ContainerStatus) (_i0 : Nat) (v0_1 : List Val) : List Ob :=
  [⟨5, 0, true, [.int .i64 0, .int .i64 0, .str eB, .ms 2 5 0 0, .ms 3 6 0 0]⟩, ⟨5, 0, true, (Val.rows v0_1).flatten⟩, ⟨5, 0, true, []⟩, ⟨6, 0, true, []⟩]
def Qey (p0 : List ContainerStatus) (i0 : Nat) (v0_1 : List Val) : En := .loop 0 Ir.Qj6 Ir.Q1e5 (Qvd p0 i0 v0_1) (Qkq p0 i0 v0_1)
def Qqe (_p0 : List ContainerStatus) (q0 : List Val) (z : Nat → PV) (_zo : Nat → List PV) : St :=
  ⟨[z 0, z 1, .bx 0 0, .ms 1 5 0 (List.length q0)] ++ zr z 4 47, [(0, ⟨5, 0, true, [.int .i64 0, .int .i64 0, .str eB, .ms 2 5 0 0, .ms 3 6 0 0]⟩), (1, ⟨5, 0, true, (Val.rows q0).flatten⟩), (2, ⟨5, 0, true, []⟩), (3, ⟨6, 0, true, []⟩)], 260⟩
theorem Q12u (p0 : List ContainerStatus) (i0 : Nat) (v0_1 : List Val) : VOK (Go.Pv.look (number 0 (Qkq p0 i0 v0_1))) [(1, Val.rows v0_1)] := (VOK.cons (show Seen _ _ from Q42 (ob := ⟨5, 0, true, (Val.rows v0_1).flatten⟩) (Val.Qp v0_1 5 rfl)) VOK.nil)
def Qh6 (p0 : List ContainerStatus) (e : En) (q : List Val) : Prop := ∃ z zo, Qi G e (.st (.exit 0) (Qqe p0 q z zo))
theorem Qsm (p0 : List ContainerStatus) {e e' : En} (h : ∀ r, Qi G e r → Qi G e' r) : ∀ q, Qh6 p0 e q → Qh6 p0 e' q
  | _, ⟨z, zo, hz⟩ => ⟨z, zo, h _ hz⟩
def Qgt (p0 : List ContainerStatus) : Prop := (List.length p0 ≤ 137438953472) ∧ True
def Qpy (p0 : List ContainerStatus) (i0 : Nat) (_v0_1 : List Val) : List PV :=
  [.sl (ContainerStatus.rows p0), .un, .un, .un, .int .i64 (i0 : Int), .un, .int .i64 (i0 : Int), .sl (ContainerStatus.rows p0), .int .i64 ((List.length p0) : Int), .bool false]
def Qij (_p0 : List ContainerStatus) (_i0 : Nat) (_v0_1 : List Val) : List (Nat × List PV) :=
  []
theorem Q156 (p0 : List ContainerStatus) (_H : Qgt p0) (i0 : Nat) (v0_1 : List Val) (_ho0_0 : List.length v0_1 ≤ i0) (hc0 : (decide ((i0 : Int) < ((List.length p0) : Int))) = false) : Qh6 p0 (Qey p0 i0 v0_1) v0_1 := by
 exact ⟨(envF (Qpy p0 i0 v0_1)), (zoF (Qij p0 i0 v0_1)), Q10 (Q12u p0 i0 v0_1) (x := ((.exit 0), Qqe p0 v0_1 (envF (Qpy p0 i0 v0_1)) (zoF (Qij p0 i0 v0_1)))) [hP 2 (Qz (ContainerStatus.rows p0) (List.length p0) (ContainerStatus.Q9 p0)), hB 0 hc0] [] (by kernel_rfl)⟩
theorem Q15s (p0 : List ContainerStatus) (H : Qgt p0) (x0 : ContainerStatus) (i0 : Nat) (v0_1 : List Val) (hx0 : p0[i0]? = some x0) (hi0 : i0 < List.length p0) (ho0_0 : List.length v0_1 ≤ i0) (hc0 : (decide ((i0 : Int) < ((List.length p0) : Int))) = true) {r : Rs} (hr : Qi G (Qey p0 (i0 + 1) (v0_1 ++ [(Q1t ([(Q6 Qc (Qy x0.exitCode)), (Q6 Qf (Q1b x0.name)), (Q6 Qa (Q20 x0.ready)), (Q6 Qd (Qy x0.restarts)), (Q6 Qk (Qy x0.since)), (Q6 Qg (Q20 x0.started)), (Q6 Qq (Qy x0.state))]))])) r) : Qi G (Qey p0 i0 v0_1) r := by
 have hB0 := H.1
 exact Qw (Q12u p0 i0 v0_1) (y := (Qvd p0 (i0 + 1) (v0_1 ++ [(Q1t ([(Q6 Qc (Qy x0.exitCode)), (Q6 Qf (Q1b x0.name)), (Q6 Qa (Q20 x0.ready)), (Q6 Qd (Qy x0.restarts)), (Q6 Qk (Qy x0.since)), (Q6 Qg (Q20 x0.started)), (Q6 Qq (Qy x0.state))]))]), Qkq p0 (i0 + 1) (v0_1 ++ [(Q1t ([(Q6 Qc (Qy x0.exitCode)), (Q6 Qf (Q1b x0.name)), (Q6 Qa (Q20 x0.ready)), (Q6 Qd (Qy x0.restarts)), (Q6 Qk (Qy x0.since)), (Q6 Qg (Q20 x0.started)), (Q6 Qq (Qy x0.state))]))]))) [hP 2 (Qz (ContainerStatus.rows p0) (List.length p0) (ContainerStatus.Q9 p0)), hB 0 hc0, hP 2 (Q15 7 (ContainerStatus.rows p0) i0 _ (ContainerStatus.Qe hx0) rfl), hV 35 [(2692, Val.rows (v0_1 ++ [(Q1t ([(Q6 Qc (Qy x0.exitCode)), (Q6 Qf (Q1b x0.name)), (Q6 Qa (Q20 x0.ready)), (Q6 Qd (Qy x0.restarts)), (Q6 Qk (Qy x0.since)), (Q6 Qg (Q20 x0.started)), (Q6 Qq (Qy x0.state))]))]))] (Q3g 1 2628 2692 5 80 0 0 true (Val.rows v0_1) (Val.rows (v0_1 ++ [(Q1t ([(Q6 Qc (Qy x0.exitCode)), (Q6 Qf (Q1b x0.name)), (Q6 Qa (Q20 x0.ready)), (Q6 Qd (Qy x0.restarts)), (Q6 Qk (Qy x0.since)), (Q6 Qg (Q20 x0.started)), (Q6 Qq (Qy x0.state))]))])) (Val.cells (Q1t ([(Q6 Qc (Qy x0.exitCode)), (Q6 Qf (Q1b x0.name)), (Q6 Qa (Q20 x0.ready)), (Q6 Qd (Qy x0.restarts)), (Q6 Qk (Qy x0.since)), (Q6 Qg (Q20 x0.started)), (Q6 Qq (Qy x0.state))]))) (List.length v0_1) (List.length (v0_1 ++ [(Q1t ([(Q6 Qc (Qy x0.exitCode)), (Q6 Qf (Q1b x0.name)), (Q6 Qa (Q20 x0.ready)), (Q6 Qd (Qy x0.restarts)), (Q6 Qk (Qy x0.since)), (Q6 Qg (Q20 x0.started)), (Q6 Qq (Qy x0.state))]))])) rfl (Val.Q9 v0_1).symm (Val.Q9 (v0_1 ++ [(Q1t ([(Q6 Qc (Qy x0.exitCode)), (Q6 Qf (Q1b x0.name)), (Q6 Qa (Q20 x0.ready)), (Q6 Qd (Qy x0.restarts)), (Q6 Qk (Qy x0.since)), (Q6 Qg (Q20 x0.started)), (Q6 Qq (Qy x0.state))]))])).symm (Val.Q1n v0_1 (Q1t ([(Q6 Qc (Qy x0.exitCode)), (Q6 Qf (Q1b x0.name)), (Q6 Qa (Q20 x0.ready)), (Q6 Qd (Qy x0.restarts)), (Q6 Qk (Qy x0.since)), (Q6 Qg (Q20 x0.started)), (Q6 Qq (Qy x0.state))]))) (Val.Q16 v0_1) rfl (by omega)), hS 0 true (Val.Qp (v0_1 ++ [(Q1t ([(Q6 Qc (Qy x0.exitCode)), (Q6 Qf (Q1b x0.name)), (Q6 Qa (Q20 x0.ready)), (Q6 Qd (Qy x0.restarts)), (Q6 Qk (Qy x0.since)), (Q6 Qg (Q20 x0.started)), (Q6 Qq (Qy x0.state))]))]) 5 rfl), hP 2 (Q25 i0 (by omega))] [aN (Q5v x0.exitCode), aN (Q2r Qc (Qy x0.exitCode)), aN (Q98 x0.name), aN (Q2r Qf (Q1b x0.name)), aN (Qep x0.ready), aN (Q2r Qa (Q20 x0.ready)), aN (Q5v x0.restarts), aN (Q2r Qd (Qy x0.restarts)), aN (Q5v x0.since), aN (Q2r Qk (Qy x0.since)), aN (Qep x0.started), aN (Q2r Qg (Q20 x0.started)), aN (Q5v x0.state), aN (Q2r Qq (Qy x0.state)), aN (Q8w (e' := .call 70 [.sl [(Fld.cells (Q6 Qc (Qy x0.exitCode))), (Fld.cells (Q6 Qf (Q1b x0.name))), (Fld.cells (Q6 Qa (Q20 x0.ready))), (Fld.cells (Q6 Qd (Qy x0.restarts))), (Fld.cells (Q6 Qk (Qy x0.since))), (Fld.cells (Q6 Qg (Q20 x0.started))), (Fld.cells (Q6 Qq (Qy x0.state)))]] []) (Q90 ([(Q6 Qc (Qy x0.exitCode)), (Q6 Qf (Q1b x0.name)), (Q6 Qa (Q20 x0.ready)), (Q6 Qd (Qy x0.restarts)), (Q6 Qk (Qy x0.since)), (Q6 Qg (Q20 x0.started)), (Q6 Qq (Qy x0.state))])) (by simp only [Q8u, Fld.Q3e, Fld.Q49]))] (by kernel_rfl) hr
theorem Qv3 (p0 : List ContainerStatus) (H : Qgt p0) : ∀ (r0 : List ContainerStatus) (i0 : Nat) (v0_1 : List Val), List.drop i0 p0 = r0 → List.length v0_1 ≤ i0 → Qh6 p0 (Qey p0 i0 v0_1) (Q5h p0 r0 i0 v0_1)
 | [], i0, v0_1, hd, ho0_0 => by
  have hc0 : (decide ((i0 : Int) < ((List.length p0) : Int))) = false := by have := Q1v hd; simp; omega
  rw [Q5h]
  exact Q156 p0 H i0 v0_1 ho0_0 hc0
 | x0 :: r0, i0, v0_1, hd, ho0_0 => by
  obtain ⟨hx0, hi0, hd'⟩ := Q1s hd
  have hc0 : (decide ((i0 : Int) < ((List.length p0) : Int))) = true := by simp; omega
  rw [Q5h]
  exact Qsm p0 (fun r hr => Q15s p0 H x0 i0 v0_1 hx0 hi0 ho0_0 hc0 hr) _ (Qv3 p0 H r0 (i0 + 1) (v0_1 ++ [(Q1t ([(Q6 Qc (Qy x0.exitCode)), (Q6 Qf (Q1b x0.name)), (Q6 Qa (Q20 x0.ready)), (Q6 Qd (Qy x0.restarts)), (Q6 Qk (Qy x0.since)), (Q6 Qg (Q20 x0.started)), (Q6 Qq (Qy x0.state))]))]) hd' (by first | omega | (simp; omega)))
def Q14n (p0 : List ContainerStatus) : Val := vL (p0.map ContainerStatus.enc)
theorem Q1qz (p0 : List ContainerStatus) : Q14n p0 = ((Qd9 (Q5h p0 p0 0 []))) := by
  rw [Q10a]
  rfl
def Q1p9 (p0 : List ContainerStatus) : En := .call 131 [.sl (ContainerStatus.rows p0)] []
def Q1kf (p0 : List ContainerStatus) : Rs := .ret (.agg (Val.cells (Q14n p0))) []
def Q1g9 (p0 : List ContainerStatus) : Prop := LSm ContainerStatus.sm p0
theorem Q1cp (p0 : List ContainerStatus) (H : Q1g9 p0) : (Qgt p0) ∧ True := by
  exact ⟨⟨Nat.le_trans H.1 (Nat.le_of_ble_eq_true rfl), trivial⟩, trivial⟩
theorem Q1n5 (p0 : List ContainerStatus) (H : Q1g9 p0) : Qi G (Q1p9 p0) (Q1kf p0) := by
 unfold Q1kf
 rw [Q1qz]
 have hl0 := Qv3 p0 ((Q1cp p0 H).1) p0 0 [] (by simp) (by simp)
 obtain ⟨z0, zo0, hl0⟩ := hl0
 exact Qm (fn := Ir.K36) rfl VOK.nil [hS 0 true (Val.Qp (Q5h p0 p0 0 []) 5 rfl), hQ (Val.Q9 (Q5h p0 p0 0 [])).symm] [aV [(1, Val.rows (Q5h p0 p0 0 []))] hl0, aN (Qer (Q5h p0 p0 0 []))] (by kernel_rfl)
def Q1fl (p0 : PodStatus) : Val := PodStatus.enc p0
theorem Q1s4 (p0 : PodStatus) : Q1fl p0 = ((Q1t ([(Q6 Q2l (Qy p0.address)), (Q6 Q0 (Q14n p0.containers)), (Q6 Q2o (Qy p0.finished)), (Q6 Q2a (Q1b p0.nominated)), (Q6 Q2t (Qy p0.phase)), (Q6 Qa (Q20 p0.ready)), (Q6 Q21 (Qy p0.readySince)), (Q6 Q2v (Q1b p0.reason)), (Q6 Qg (Qy p0.started))]))) := by
  rfl
def Q1m5 (p0 : PodStatus) : En := .call 60 [.agg (PodStatus.cells p0)] []
def Q1l3 (p0 : PodStatus) : Rs := .ret (.agg (Val.cells (Q1fl p0))) []
def Q1fv (p0 : PodStatus) : Prop := PodStatus.sm p0
theorem Q1d0 (p0 : PodStatus) (H : Q1fv p0) : (Q1g9 p0.containers) ∧ True := by
  repeat' with_reducible apply And.intro
  all_goals first | exact True.intro | exact H | exact H.1 | exact H.2.1 | exact H.2.2.1 | exact H.2.2.2.1 | exact H.2.2.2.2.1 | exact H.2.2.2.2.2.1 | exact H.2.2.2.2.2.2.1 | exact H.2.2.2.2.2.2.2.1 | exact H.2.2.2.2.2.2.2.2.1 | exact H.2.2.2.2.2.2.2.2.2.1 | exact H.2.2.2.2.2.2.2.2.2.2.1
theorem Q1ot (p0 : PodStatus) (H : Q1fv p0) : Qi G (Q1m5 p0) (Q1l3 p0) := by
 unfold Q1l3
 rw [Q1s4]
 exact Qm (fn := Ir.K35) rfl VOK.nil [] [aN (Q5v p0.address), aN (Q2r Q2l (Qy p0.address)), aN (Q1n5 p0.containers (Q1d0 p0 H).1), aN (Q2r Q0 (Q14n p0.containers)), aN (Q5v p0.finished), aN (Q2r Q2o (Qy p0.finished)), aN (Q98 p0.nominated), aN (Q2r Q2a (Q1b p0.nominated)), aN (Q5v p0.phase), aN (Q2r Q2t (Qy p0.phase)), aN (Qep p0.ready), aN (Q2r Qa (Q20 p0.ready)), aN (Q5v p0.readySince), aN (Q2r Q21 (Qy p0.readySince)), aN (Q98 p0.reason), aN (Q2r Q2v (Q1b p0.reason)), aN (Q5v p0.started), aN (Q2r Qg (Qy p0.started)), aN (Q8w (e' := .call 70 [.sl [(Fld.cells (Q6 Q2l (Qy p0.address))), (Fld.cells (Q6 Q0 (Q14n p0.containers))), (Fld.cells (Q6 Q2o (Qy p0.finished))), (Fld.cells (Q6 Q2a (Q1b p0.nominated))), (Fld.cells (Q6 Q2t (Qy p0.phase))), (Fld.cells (Q6 Qa (Q20 p0.ready))), (Fld.cells (Q6 Q21 (Qy p0.readySince))), (Fld.cells (Q6 Q2v (Q1b p0.reason))), (Fld.cells (Q6 Qg (Qy p0.started)))]] []) (Q90 ([(Q6 Q2l (Qy p0.address)), (Q6 Q0 (Q14n p0.containers)), (Q6 Q2o (Qy p0.finished)), (Q6 Q2a (Q1b p0.nominated)), (Q6 Q2t (Qy p0.phase)), (Q6 Qa (Q20 p0.ready)), (Q6 Q21 (Qy p0.readySince)), (Q6 Q2v (Q1b p0.reason)), (Q6 Qg (Qy p0.started))])) (by simp only [Q8u, Fld.Q3e, Fld.Q49]))] (by kernel_rfl)
def Q5n (p0 : List Taint) : List Taint → Nat → (List Val) → List Val
 | [], _i0, v0_1 =>
  v0_1
 | x0 :: r0, i0, v0_1 =>
  Q5n p0 r0 (i0 + 1) (v0_1 ++ [(Q1t ([(Q6 Qr (Qy x0.effect)), (Q6 Qs (Q1b x0.key)), (Q6 Qk (Qy x0.since)), (Q6 Qo (Q1b x0.value))]))])
theorem Q13l (p0 : List Taint) : ∀ (l : List Taint) (i : Nat) (a : List Val), Q5n p0 l i a = a ++ l.map (fun x0 => (Q1t ([(Q6 Qr (Qy x0.effect)), (Q6 Qs (Q1b x0.key)), (Q6 Qk (Qy x0.since)), (Q6 Qo (Q1b x0.value))])))
  | [], _, _ => by simp [Q5n]
  | x :: r, i, a => by rw [Q5n, Q13l p0 r]; simp
def Qut (p0 : List Taint) (i0 : Nat) (v0_1 : List Val) : List PV :=
  [.sl (Taint.rows p0), .un, .bx 0 0, .ms 1 5 0 (List.length v0_1), .int .i64 (i0 : Int)] ++ nuns 41
def Qkd (_p0 : List Taint) (_i0 : Nat) (v0_1 : List Val) : List Ob :=
  [⟨5, 0, true, [.int .i64 0, .int .i64 0, .str eB, .ms 2 5 0 0, .ms 3 6 0 0]⟩, ⟨5, 0, true, (Val.rows v0_1).flatten⟩, ⟨5, 0, true, []⟩, ⟨6, 0, true, []⟩]
def Qet (p0 : List Taint) (i0 : Nat) (v0_1 : List Val) : En := .loop 0 Ir.Qjq Ir.Q1ev (Qut p0 i0 v0_1) (Qkd p0 i0 v0_1)
def Qp0 (_p0 : List Taint) (q0 : List Val) (z : Nat → PV) (_zo : Nat → List PV) : St :=
  ⟨[z 0, z 1, .bx 0 0, .ms 1 5 0 (List.length q0)] ++ zr z 4 42, [(0, ⟨5, 0, true, [.int .i64 0, .int .i64 0, .str eB, .ms 2 5 0 0, .ms 3 6 0 0]⟩), (1, ⟨5, 0, true, (Val.rows q0).flatten⟩), (2, ⟨5, 0, true, []⟩), (3, ⟨6, 0, true, []⟩)], 260⟩
theorem Q12w (p0 : List Taint) (i0 : Nat) (v0_1 : List Val) : VOK (Go.Pv.look (number 0 (Qkd p0 i0 v0_1))) [(1, Val.rows v0_1)] := (VOK.cons (show Seen _ _ from Q42 (ob := ⟨5, 0, true, (Val.rows v0_1).flatten⟩) (Val.Qp v0_1 5 rfl)) VOK.nil)
def Qf5 (p0 : List Taint) (e : En) (q : List Val) : Prop := ∃ z zo, Qi G e (.st (.exit 0) (Qp0 p0 q z zo))
theorem Qst (p0 : List Taint) {e e' : En} (h : ∀ r, Qi G e r → Qi G e' r) : ∀ q, Qf5 p0 e q → Qf5 p0 e' q
  | _, ⟨z, zo, hz⟩ => ⟨z, zo, h _ hz⟩
def Qf8 (p0 : List Taint) : Prop := (List.length p0 ≤ 137438953472) ∧ True
def Qoj (p0 : List Taint) (i0 : Nat) (_v0_1 : List Val) : List PV :=
  [.sl (Taint.rows p0), .un, .un, .un, .int .i64 (i0 : Int), .int .i64 (i0 : Int), .sl (Taint.rows p0), .int .i64 ((List.length p0) : Int), .bool false]
def Qhk (_p0 : List Taint) (_i0 : Nat) (_v0_1 : List Val) : List (Nat × List PV) :=
  []
theorem Q15n (p0 : List Taint) (_H : Qf8 p0) (i0 : Nat) (v0_1 : List Val) (_ho0_0 : List.length v0_1 ≤ i0) (hc0 : (decide ((i0 : Int) < ((List.length p0) : Int))) = false) : Qf5 p0 (Qet p0 i0 v0_1) v0_1 := by
 exact ⟨(envF (Qoj p0 i0 v0_1)), (zoF (Qhk p0 i0 v0_1)), Q10 (Q12w p0 i0 v0_1) (x := ((.exit 0), Qp0 p0 v0_1 (envF (Qoj p0 i0 v0_1)) (zoF (Qhk p0 i0 v0_1)))) [hP 2 (Qz (Taint.rows p0) (List.length p0) (Taint.Q9 p0)), hB 0 hc0] [] (by kernel_rfl)⟩
theorem Q18i (p0 : List Taint) (H : Qf8 p0) (x0 : Taint) (i0 : Nat) (v0_1 : List Val) (hx0 : p0[i0]? = some x0) (hi0 : i0 < List.length p0) (ho0_0 : List.length v0_1 ≤ i0) (hc0 : (decide ((i0 : Int) < ((List.length p0) : Int))) = true) {r : Rs} (hr : Qi G (Qet p0 (i0 + 1) (v0_1 ++ [(Q1t ([(Q6 Qr (Qy x0.effect)), (Q6 Qs (Q1b x0.key)), (Q6 Qk (Qy x0.since)), (Q6 Qo (Q1b x0.value))]))])) r) : Qi G (Qet p0 i0 v0_1) r := by
 have hB0 := H.1
 exact Qw (Q12w p0 i0 v0_1) (y := (Qut p0 (i0 + 1) (v0_1 ++ [(Q1t ([(Q6 Qr (Qy x0.effect)), (Q6 Qs (Q1b x0.key)), (Q6 Qk (Qy x0.since)), (Q6 Qo (Q1b x0.value))]))]), Qkd p0 (i0 + 1) (v0_1 ++ [(Q1t ([(Q6 Qr (Qy x0.effect)), (Q6 Qs (Q1b x0.key)), (Q6 Qk (Qy x0.since)), (Q6 Qo (Q1b x0.value))]))]))) [hP 2 (Qz (Taint.rows p0) (List.length p0) (Taint.Q9 p0)), hB 0 hc0, hP 3 (Q15 4 (Taint.rows p0) i0 _ (Taint.Qe hx0) rfl), hP 6 (Q15 4 (Taint.rows p0) i0 _ (Taint.Qe hx0) rfl), hP 6 (Q15 4 (Taint.rows p0) i0 _ (Taint.Qe hx0) rfl), hP 6 (Q15 4 (Taint.rows p0) i0 _ (Taint.Qe hx0) rfl), hV 7 [(2308, Val.rows (v0_1 ++ [(Q1t ([(Q6 Qr (Qy x0.effect)), (Q6 Qs (Q1b x0.key)), (Q6 Qk (Qy x0.since)), (Q6 Qo (Q1b x0.value))]))]))] (Q3g 1 2244 2308 5 80 0 0 true (Val.rows v0_1) (Val.rows (v0_1 ++ [(Q1t ([(Q6 Qr (Qy x0.effect)), (Q6 Qs (Q1b x0.key)), (Q6 Qk (Qy x0.since)), (Q6 Qo (Q1b x0.value))]))])) (Val.cells (Q1t ([(Q6 Qr (Qy x0.effect)), (Q6 Qs (Q1b x0.key)), (Q6 Qk (Qy x0.since)), (Q6 Qo (Q1b x0.value))]))) (List.length v0_1) (List.length (v0_1 ++ [(Q1t ([(Q6 Qr (Qy x0.effect)), (Q6 Qs (Q1b x0.key)), (Q6 Qk (Qy x0.since)), (Q6 Qo (Q1b x0.value))]))])) rfl (Val.Q9 v0_1).symm (Val.Q9 (v0_1 ++ [(Q1t ([(Q6 Qr (Qy x0.effect)), (Q6 Qs (Q1b x0.key)), (Q6 Qk (Qy x0.since)), (Q6 Qo (Q1b x0.value))]))])).symm (Val.Q1n v0_1 (Q1t ([(Q6 Qr (Qy x0.effect)), (Q6 Qs (Q1b x0.key)), (Q6 Qk (Qy x0.since)), (Q6 Qo (Q1b x0.value))]))) (Val.Q16 v0_1) rfl (by omega)), hS 0 true (Val.Qp (v0_1 ++ [(Q1t ([(Q6 Qr (Qy x0.effect)), (Q6 Qs (Q1b x0.key)), (Q6 Qk (Qy x0.since)), (Q6 Qo (Q1b x0.value))]))]) 5 rfl), hP 2 (Q25 i0 (by omega))] [aN (Q5v x0.effect), aN (Q2r Qr (Qy x0.effect)), aN (Q98 x0.key), aN (Q2r Qs (Q1b x0.key)), aN (Q5v x0.since), aN (Q2r Qk (Qy x0.since)), aN (Q98 x0.value), aN (Q2r Qo (Q1b x0.value)), aN (Q8w (e' := .call 70 [.sl [(Fld.cells (Q6 Qr (Qy x0.effect))), (Fld.cells (Q6 Qs (Q1b x0.key))), (Fld.cells (Q6 Qk (Qy x0.since))), (Fld.cells (Q6 Qo (Q1b x0.value)))]] []) (Q90 ([(Q6 Qr (Qy x0.effect)), (Q6 Qs (Q1b x0.key)), (Q6 Qk (Qy x0.since)), (Q6 Qo (Q1b x0.value))])) (by simp only [Q8u, Fld.Q3e, Fld.Q49]))] (by kernel_rfl) hr
theorem Qvx (p0 : List Taint) (H : Qf8 p0) : ∀ (r0 : List Taint) (i0 : Nat) (v0_1 : List Val), List.drop i0 p0 = r0 → List.length v0_1 ≤ i0 → Qf5 p0 (Qet p0 i0 v0_1) (Q5n p0 r0 i0 v0_1)
 | [], i0, v0_1, hd, ho0_0 => by
  have hc0 : (decide ((i0 : Int) < ((List.length p0) : Int))) = false := by have := Q1v hd; simp; omega
  rw [Q5n]
  exact Q15n p0 H i0 v0_1 ho0_0 hc0
 | x0 :: r0, i0, v0_1, hd, ho0_0 => by
  obtain ⟨hx0, hi0, hd'⟩ := Q1s hd
  have hc0 : (decide ((i0 : Int) < ((List.length p0) : Int))) = true := by simp; omega
  rw [Q5n]
  exact Qst p0 (fun r hr => Q18i p0 H x0 i0 v0_1 hx0 hi0 ho0_0 hc0 hr) _ (Qvx p0 H r0 (i0 + 1) (v0_1 ++ [(Q1t ([(Q6 Qr (Qy x0.effect)), (Q6 Qs (Q1b x0.key)), (Q6 Qk (Qy x0.since)), (Q6 Qo (Q1b x0.value))]))]) hd' (by first | omega | (simp; omega)))
def Q16d (p0 : List Taint) : Val := vL (p0.map Taint.enc)
theorem Q1q8 (p0 : List Taint) : Q16d p0 = ((Qd9 (Q5n p0 p0 0 []))) := by
  rw [Q13l]
  rfl
def Q1mt (p0 : List Taint) : En := .call 75 [.sl (Taint.rows p0)] []
def Q1k4 (p0 : List Taint) : Rs := .ret (.agg (Val.cells (Q16d p0))) []
def Q1h3 (p0 : List Taint) : Prop := LSm Taint.sm p0
theorem Q1cc (p0 : List Taint) (H : Q1h3 p0) : (Qf8 p0) ∧ True := by
  exact ⟨⟨Nat.le_trans H.1 (Nat.le_of_ble_eq_true rfl), trivial⟩, trivial⟩
theorem Q1rg (p0 : List Taint) (H : Q1h3 p0) : Qi G (Q1mt p0) (Q1k4 p0) := by
 unfold Q1k4
 rw [Q1q8]
 have hl0 := Qvx p0 ((Q1cc p0 H).1) p0 0 [] (by simp) (by simp)
 obtain ⟨z0, zo0, hl0⟩ := hl0
 exact Qm (fn := Ir.K37) rfl VOK.nil [hS 0 true (Val.Qp (Q5n p0 p0 0 []) 5 rfl), hQ (Val.Q9 (Q5n p0 p0 0 [])).symm] [aV [(1, Val.rows (Q5n p0 p0 0 []))] hl0, aN (Qer (Q5n p0 p0 0 []))] (by kernel_rfl)
def Q57 (p0 : List Image) : List Image → Nat → (List Val) → List Val
 | [], _i0, v0_1 =>
  v0_1
 | x0 :: r0, i0, v0_1 =>
  Q57 p0 r0 (i0 + 1) (v0_1 ++ [(Q1t ([(Q6 Qf (Q1b x0.name)), (Q6 Q26 (Qy x0.size)), (Q6 Q2b (Qy x0.used))]))])
theorem Q113 (p0 : List Image) : ∀ (l : List Image) (i : Nat) (a : List Val), Q57 p0 l i a = a ++ l.map (fun x0 => (Q1t ([(Q6 Qf (Q1b x0.name)), (Q6 Q26 (Qy x0.size)), (Q6 Q2b (Qy x0.used))])))
  | [], _, _ => by simp [Q57]
  | x :: r, i, a => by rw [Q57, Q113 p0 r]; simp
def Quv (p0 : List Image) (i0 : Nat) (v0_1 : List Val) : List PV :=
  [.sl (Image.rows p0), .un, .bx 0 0, .ms 1 5 0 (List.length v0_1), .int .i64 (i0 : Int)] ++ nuns 34
def Qmw (_p0 : List Image) (_i0 : Nat) (v0_1 : List Val) : List Ob :=
  [⟨5, 0, true, [.int .i64 0, .int .i64 0, .str eB, .ms 2 5 0 0, .ms 3 6 0 0]⟩, ⟨5, 0, true, (Val.rows v0_1).flatten⟩, ⟨5, 0, true, []⟩, ⟨6, 0, true, []⟩]
def Qfu (p0 : List Image) (i0 : Nat) (v0_1 : List Val) : En := .loop 0 Ir.Ql7 Ir.Q1dt (Quv p0 i0 v0_1) (Qmw p0 i0 v0_1)
def Qo7 (_p0 : List Image) (q0 : List Val) (z : Nat → PV) (_zo : Nat → List PV) : St :=
  ⟨[z 0, z 1, .bx 0 0, .ms 1 5 0 (List.length q0)] ++ zr z 4 35, [(0, ⟨5, 0, true, [.int .i64 0, .int .i64 0, .str eB, .ms 2 5 0 0, .ms 3 6 0 0]⟩), (1, ⟨5, 0, true, (Val.rows q0).flatten⟩), (2, ⟨5, 0, true, []⟩), (3, ⟨6, 0, true, []⟩)], 260⟩
theorem Q11r (p0 : List Image) (i0 : Nat) (v0_1 : List Val) : VOK (Go.Pv.look (number 0 (Qmw p0 i0 v0_1))) [(1, Val.rows v0_1)] := (VOK.cons (show Seen _ _ from Q42 (ob := ⟨5, 0, true, (Val.rows v0_1).flatten⟩) (Val.Qp v0_1 5 rfl)) VOK.nil)
def Qfe (p0 : List Image) (e : En) (q : List Val) : Prop := ∃ z zo, Qi G e (.st (.exit 0) (Qo7 p0 q z zo))
theorem Qu6 (p0 : List Image) {e e' : En} (h : ∀ r, Qi G e r → Qi G e' r) : ∀ q, Qfe p0 e q → Qfe p0 e' q
  | _, ⟨z, zo, hz⟩ => ⟨z, zo, h _ hz⟩
def Qg2 (p0 : List Image) : Prop := (List.length p0 ≤ 137438953472) ∧ True
def Qp7 (p0 : List Image) (i0 : Nat) (_v0_1 : List Val) : List PV :=
  [.sl (Image.rows p0), .un, .un, .un, .int .i64 (i0 : Int), .int .i64 (i0 : Int), .sl (Image.rows p0), .int .i64 ((List.length p0) : Int), .bool false]
def Qky (_p0 : List Image) (_i0 : Nat) (_v0_1 : List Val) : List (Nat × List PV) :=
  []
theorem Q167 (p0 : List Image) (_H : Qg2 p0) (i0 : Nat) (v0_1 : List Val) (_ho0_0 : List.length v0_1 ≤ i0) (hc0 : (decide ((i0 : Int) < ((List.length p0) : Int))) = false) : Qfe p0 (Qfu p0 i0 v0_1) v0_1 := by
 exact ⟨(envF (Qp7 p0 i0 v0_1)), (zoF (Qky p0 i0 v0_1)), Q10 (Q11r p0 i0 v0_1) (x := ((.exit 0), Qo7 p0 v0_1 (envF (Qp7 p0 i0 v0_1)) (zoF (Qky p0 i0 v0_1)))) [hP 2 (Qz (Image.rows p0) (List.length p0) (Image.Q9 p0)), hB 0 hc0] [] (by kernel_rfl)⟩
theorem Q170 (p0 : List Image) (H : Qg2 p0) (x0 : Image) (i0 : Nat) (v0_1 : List Val) (hx0 : p0[i0]? = some x0) (hi0 : i0 < List.length p0) (ho0_0 : List.length v0_1 ≤ i0) (hc0 : (decide ((i0 : Int) < ((List.length p0) : Int))) = true) {r : Rs} (hr : Qi G (Qfu p0 (i0 + 1) (v0_1 ++ [(Q1t ([(Q6 Qf (Q1b x0.name)), (Q6 Q26 (Qy x0.size)), (Q6 Q2b (Qy x0.used))]))])) r) : Qi G (Qfu p0 i0 v0_1) r := by
 have hB0 := H.1
 exact Qw (Q11r p0 i0 v0_1) (y := (Quv p0 (i0 + 1) (v0_1 ++ [(Q1t ([(Q6 Qf (Q1b x0.name)), (Q6 Q26 (Qy x0.size)), (Q6 Q2b (Qy x0.used))]))]), Qmw p0 (i0 + 1) (v0_1 ++ [(Q1t ([(Q6 Qf (Q1b x0.name)), (Q6 Q26 (Qy x0.size)), (Q6 Q2b (Qy x0.used))]))]))) [hP 2 (Qz (Image.rows p0) (List.length p0) (Image.Q9 p0)), hB 0 hc0, hP 3 (Q15 3 (Image.rows p0) i0 _ (Image.Qe hx0) rfl), hP 6 (Q15 3 (Image.rows p0) i0 _ (Image.Qe hx0) rfl), hP 6 (Q15 3 (Image.rows p0) i0 _ (Image.Qe hx0) rfl), hV 7 [(1860, Val.rows (v0_1 ++ [(Q1t ([(Q6 Qf (Q1b x0.name)), (Q6 Q26 (Qy x0.size)), (Q6 Q2b (Qy x0.used))]))]))] (Q3g 1 1796 1860 5 80 0 0 true (Val.rows v0_1) (Val.rows (v0_1 ++ [(Q1t ([(Q6 Qf (Q1b x0.name)), (Q6 Q26 (Qy x0.size)), (Q6 Q2b (Qy x0.used))]))])) (Val.cells (Q1t ([(Q6 Qf (Q1b x0.name)), (Q6 Q26 (Qy x0.size)), (Q6 Q2b (Qy x0.used))]))) (List.length v0_1) (List.length (v0_1 ++ [(Q1t ([(Q6 Qf (Q1b x0.name)), (Q6 Q26 (Qy x0.size)), (Q6 Q2b (Qy x0.used))]))])) rfl (Val.Q9 v0_1).symm (Val.Q9 (v0_1 ++ [(Q1t ([(Q6 Qf (Q1b x0.name)), (Q6 Q26 (Qy x0.size)), (Q6 Q2b (Qy x0.used))]))])).symm (Val.Q1n v0_1 (Q1t ([(Q6 Qf (Q1b x0.name)), (Q6 Q26 (Qy x0.size)), (Q6 Q2b (Qy x0.used))]))) (Val.Q16 v0_1) rfl (by omega)), hS 0 true (Val.Qp (v0_1 ++ [(Q1t ([(Q6 Qf (Q1b x0.name)), (Q6 Q26 (Qy x0.size)), (Q6 Q2b (Qy x0.used))]))]) 5 rfl), hP 2 (Q25 i0 (by omega))] [aN (Q98 x0.name), aN (Q2r Qf (Q1b x0.name)), aN (Q5v x0.size), aN (Q2r Q26 (Qy x0.size)), aN (Q5v x0.used), aN (Q2r Q2b (Qy x0.used)), aN (Q8w (e' := .call 70 [.sl [(Fld.cells (Q6 Qf (Q1b x0.name))), (Fld.cells (Q6 Q26 (Qy x0.size))), (Fld.cells (Q6 Q2b (Qy x0.used)))]] []) (Q90 ([(Q6 Qf (Q1b x0.name)), (Q6 Q26 (Qy x0.size)), (Q6 Q2b (Qy x0.used))])) (by simp only [Q8u, Fld.Q3e, Fld.Q49]))] (by kernel_rfl) hr
theorem Qui (p0 : List Image) (H : Qg2 p0) : ∀ (r0 : List Image) (i0 : Nat) (v0_1 : List Val), List.drop i0 p0 = r0 → List.length v0_1 ≤ i0 → Qfe p0 (Qfu p0 i0 v0_1) (Q57 p0 r0 i0 v0_1)
 | [], i0, v0_1, hd, ho0_0 => by
  have hc0 : (decide ((i0 : Int) < ((List.length p0) : Int))) = false := by have := Q1v hd; simp; omega
  rw [Q57]
  exact Q167 p0 H i0 v0_1 ho0_0 hc0
 | x0 :: r0, i0, v0_1, hd, ho0_0 => by
  obtain ⟨hx0, hi0, hd'⟩ := Q1s hd
  have hc0 : (decide ((i0 : Int) < ((List.length p0) : Int))) = true := by simp; omega
  rw [Q57]
  exact Qu6 p0 (fun r hr => Q170 p0 H x0 i0 v0_1 hx0 hi0 ho0_0 hc0 hr) _ (Qui p0 H r0 (i0 + 1) (v0_1 ++ [(Q1t ([(Q6 Qf (Q1b x0.name)), (Q6 Q26 (Qy x0.size)), (Q6 Q2b (Qy x0.used))]))]) hd' (by first | omega | (simp; omega)))
def Q15u (p0 : List Image) : Val := vL (p0.map Image.enc)
theorem Q1ph (p0 : List Image) : Q15u p0 = ((Qd9 (Q57 p0 p0 0 []))) := by
  rw [Q113]
  rfl
def Q1t1 (p0 : List Image) : En := .call 76 [.sl (Image.rows p0)] []
def Q1jm (p0 : List Image) : Rs := .ret (.agg (Val.cells (Q15u p0))) []
def Q1hb (p0 : List Image) : Prop := LSm Image.sm p0
theorem Q1c3 (p0 : List Image) (H : Q1hb p0) : (Qg2 p0) ∧ True := by
  exact ⟨⟨Nat.le_trans H.1 (Nat.le_of_ble_eq_true rfl), trivial⟩, trivial⟩
theorem Q1s5 (p0 : List Image) (H : Q1hb p0) : Qi G (Q1t1 p0) (Q1jm p0) := by
 unfold Q1jm
 rw [Q1ph]
 have hl0 := Qui p0 ((Q1c3 p0 H).1) p0 0 [] (by simp) (by simp)
 obtain ⟨z0, zo0, hl0⟩ := hl0
 exact Qm (fn := Ir.K2y) rfl VOK.nil [hS 0 true (Val.Qp (Q57 p0 p0 0 []) 5 rfl), hQ (Val.Q9 (Q57 p0 p0 0 [])).symm] [aV [(1, Val.rows (Q57 p0 p0 0 []))] hl0, aN (Qer (Q57 p0 p0 0 []))] (by kernel_rfl)
end Go.Proofs.YtiflaadeikaghaaGreat
end

section
/- Metadata that are copied (printed by a program). -/
namespace Go.Proofs.YtiflaadeikaghaaGreat
open Go.Pv
structure Owner where
  kind : ByteArray
  name : ByteArray
  uid : Int
  controller : Bool
  block : Bool
def Owner.cells (x : Owner) : List PV :=
  [.str x.kind, .str x.name, .int .i64 x.uid, .bool x.controller, .bool x.block]
def Owner.rows (l : List Owner) : List (List PV) := l.map Owner.cells
theorem Owner.Q9 (l : List Owner) : (Owner.rows l).length = l.length := by simp [Owner.rows]
theorem Owner.Qe {l : List Owner} {i : Nat} {x : Owner} (h : l[i]? = some x) : (Owner.rows l)[i]? = some (Owner.cells x) := Go.Pv.Qe h
theorem Owner.Q1n (l : List Owner) (x : Owner) : Owner.rows (l ++ [x]) = Owner.rows l ++ [Owner.cells x] := by simp [Owner.rows]
theorem Owner.Q16 (l : List Owner) : ∀ r ∈ Owner.rows l, r.length = 5 := Q3h (f := Owner.cells) (fun _ => rfl) l
theorem Owner.Qp (l : List Owner) (sz : Nat) (h : sz = 5) : ViewOK sz (Owner.rows l).flatten (Owner.rows l) := by subst h; exact ⟨rfl, Owner.Q16 l, Q2z (f := Owner.cells) (fun _ => rfl) l⟩
structure Manager where
  name : ByteArray
  fields : List ByteArray
def Manager.cells (x : Manager) : List PV :=
  [.str x.name, .sl (Qv x.fields)]
def Manager.rows (l : List Manager) : List (List PV) := l.map Manager.cells
theorem Manager.Q9 (l : List Manager) : (Manager.rows l).length = l.length := by simp [Manager.rows]
theorem Manager.Qe {l : List Manager} {i : Nat} {x : Manager} (h : l[i]? = some x) : (Manager.rows l)[i]? = some (Manager.cells x) := Go.Pv.Qe h
theorem Manager.Q1n (l : List Manager) (x : Manager) : Manager.rows (l ++ [x]) = Manager.rows l ++ [Manager.cells x] := by simp [Manager.rows]
theorem Manager.Q16 (l : List Manager) : ∀ r ∈ Manager.rows l, r.length = 2 := Q3h (f := Manager.cells) (fun _ => rfl) l
theorem Manager.Qp (l : List Manager) (sz : Nat) (h : sz = 2) : ViewOK sz (Manager.rows l).flatten (Manager.rows l) := by subst h; exact ⟨rfl, Manager.Q16 l, Q2z (f := Manager.cells) (fun _ => rfl) l⟩
structure Meta where
  kind : ByteArray
  namespace_ : ByteArray
  name : ByteArray
  uid : Int
  version : Int
  generation : Int
  created : Int
  deleting : Bool
  deleteAt : Int
  labels : List Label
  owners : List Owner
  finalizers : List ByteArray
  managers : List Manager
def Meta.cells (x : Meta) : List PV :=
  [.str x.kind, .str x.namespace_, .str x.name, .int .i64 x.uid, .int .i64 x.version, .int .i64 x.generation, .int .i64 x.created, .bool x.deleting, .int .i64 x.deleteAt, .sl (Label.rows x.labels), .sl (Owner.rows x.owners), .sl (Qv x.finalizers), .sl (Manager.rows x.managers)]
def Meta.rows (l : List Meta) : List (List PV) := l.map Meta.cells
theorem Meta.Q9 (l : List Meta) : (Meta.rows l).length = l.length := by simp [Meta.rows]
theorem Meta.Qe {l : List Meta} {i : Nat} {x : Meta} (h : l[i]? = some x) : (Meta.rows l)[i]? = some (Meta.cells x) := Go.Pv.Qe h
theorem Meta.Q1n (l : List Meta) (x : Meta) : Meta.rows (l ++ [x]) = Meta.rows l ++ [Meta.cells x] := by simp [Meta.rows]
theorem Meta.Q16 (l : List Meta) : ∀ r ∈ Meta.rows l, r.length = 13 := Q3h (f := Meta.cells) (fun _ => rfl) l
theorem Meta.Qp (l : List Meta) (sz : Nat) (h : sz = 13) : ViewOK sz (Meta.rows l).flatten (Meta.rows l) := by subst h; exact ⟨rfl, Meta.Q16 l, Q2z (f := Meta.cells) (fun _ => rfl) l⟩
structure Pod where
  meta_ : Meta
  spec : PodSpec
  status : PodStatus
def Pod.cells (x : Pod) : List PV :=
  [.str x.meta_.kind, .str x.meta_.namespace_, .str x.meta_.name, .int .i64 x.meta_.uid, .int .i64 x.meta_.version, .int .i64 x.meta_.generation, .int .i64 x.meta_.created, .bool x.meta_.deleting, .int .i64 x.meta_.deleteAt, .sl (Label.rows x.meta_.labels), .sl (Owner.rows x.meta_.owners), .sl (Qv x.meta_.finalizers), .sl (Manager.rows x.meta_.managers), .str x.spec.node, .int .i64 x.spec.priority, .int .i64 x.spec.restart, .int .i64 x.spec.grace, .sl (Container.rows x.spec.containers), .sl (Requirement.rows x.spec.nodeSelector), .sl (NodeTerm.rows x.spec.nodeTerms), .sl (PodTerm.rows x.spec.podTerms), .sl (SpreadRule.rows x.spec.spread), .sl (Toleration.rows x.spec.tolerations), .int .i64 x.status.phase, .bool x.status.ready, .int .i64 x.status.readySince, .int .i64 x.status.started, .int .i64 x.status.finished, .sl (ContainerStatus.rows x.status.containers), .int .i64 x.status.address, .str x.status.nominated, .str x.status.reason]
def Pod.rows (l : List Pod) : List (List PV) := l.map Pod.cells
theorem Pod.Q9 (l : List Pod) : (Pod.rows l).length = l.length := by simp [Pod.rows]
theorem Pod.Qe {l : List Pod} {i : Nat} {x : Pod} (h : l[i]? = some x) : (Pod.rows l)[i]? = some (Pod.cells x) := Go.Pv.Qe h
theorem Pod.Q1n (l : List Pod) (x : Pod) : Pod.rows (l ++ [x]) = Pod.rows l ++ [Pod.cells x] := by simp [Pod.rows]
theorem Pod.Q16 (l : List Pod) : ∀ r ∈ Pod.rows l, r.length = 32 := Q3h (f := Pod.cells) (fun _ => rfl) l
theorem Pod.Qp (l : List Pod) (sz : Nat) (h : sz = 32) : ViewOK sz (Pod.rows l).flatten (Pod.rows l) := by subst h; exact ⟨rfl, Pod.Q16 l, Q2z (f := Pod.cells) (fun _ => rfl) l⟩
structure Node where
  meta_ : Meta
  capacity : Resources
  maxPods : Int
  cordoned : Bool
  taints : List Taint
  ready : Bool
  beat : Int
  lowMem : Bool
  lowDisk : Bool
  images : List Image
def Node.cells (x : Node) : List PV :=
  [.str x.meta_.kind, .str x.meta_.namespace_, .str x.meta_.name, .int .i64 x.meta_.uid, .int .i64 x.meta_.version, .int .i64 x.meta_.generation, .int .i64 x.meta_.created, .bool x.meta_.deleting, .int .i64 x.meta_.deleteAt, .sl (Label.rows x.meta_.labels), .sl (Owner.rows x.meta_.owners), .sl (Qv x.meta_.finalizers), .sl (Manager.rows x.meta_.managers), .int .i64 x.capacity.cPU, .int .i64 x.capacity.memory, .int .i64 x.capacity.disk, .int .i64 x.maxPods, .bool x.cordoned, .sl (Taint.rows x.taints), .bool x.ready, .int .i64 x.beat, .bool x.lowMem, .bool x.lowDisk, .sl (Image.rows x.images)]
def Node.rows (l : List Node) : List (List PV) := l.map Node.cells
theorem Node.Q9 (l : List Node) : (Node.rows l).length = l.length := by simp [Node.rows]
theorem Node.Qe {l : List Node} {i : Nat} {x : Node} (h : l[i]? = some x) : (Node.rows l)[i]? = some (Node.cells x) := Go.Pv.Qe h
theorem Node.Q1n (l : List Node) (x : Node) : Node.rows (l ++ [x]) = Node.rows l ++ [Node.cells x] := by simp [Node.rows]
theorem Node.Q16 (l : List Node) : ∀ r ∈ Node.rows l, r.length = 24 := Q3h (f := Node.cells) (fun _ => rfl) l
theorem Node.Qp (l : List Node) (sz : Nat) (h : sz = 24) : ViewOK sz (Node.rows l).flatten (Node.rows l) := by subst h; exact ⟨rfl, Node.Q16 l, Q2z (f := Node.cells) (fun _ => rfl) l⟩
structure Object where
  meta_ : Meta
  spec : Val
  status : Val
def Object.cells (x : Object) : List PV :=
  [.str x.meta_.kind, .str x.meta_.namespace_, .str x.meta_.name, .int .i64 x.meta_.uid, .int .i64 x.meta_.version, .int .i64 x.meta_.generation, .int .i64 x.meta_.created, .bool x.meta_.deleting, .int .i64 x.meta_.deleteAt, .sl (Label.rows x.meta_.labels), .sl (Owner.rows x.meta_.owners), .sl (Qv x.meta_.finalizers), .sl (Manager.rows x.meta_.managers), .int .i64 x.spec.kind, .int .i64 x.spec.n, .str x.spec.s, .sl (Val.rows x.spec.list), .sl (Fld.rows x.spec.fields), .int .i64 x.status.kind, .int .i64 x.status.n, .str x.status.s, .sl (Val.rows x.status.list), .sl (Fld.rows x.status.fields)]
def Object.rows (l : List Object) : List (List PV) := l.map Object.cells
theorem Object.Q9 (l : List Object) : (Object.rows l).length = l.length := by simp [Object.rows]
theorem Object.Qe {l : List Object} {i : Nat} {x : Object} (h : l[i]? = some x) : (Object.rows l)[i]? = some (Object.cells x) := Go.Pv.Qe h
theorem Object.Q1n (l : List Object) (x : Object) : Object.rows (l ++ [x]) = Object.rows l ++ [Object.cells x] := by simp [Object.rows]
theorem Object.Q16 (l : List Object) : ∀ r ∈ Object.rows l, r.length = 23 := Q3h (f := Object.cells) (fun _ => rfl) l
theorem Object.Qp (l : List Object) (sz : Nat) (h : sz = 23) : ViewOK sz (Object.rows l).flatten (Object.rows l) := by subst h; exact ⟨rfl, Object.Q16 l, Q2z (f := Object.cells) (fun _ => rfl) l⟩
def Q1am (p0 : Meta) : List Manager → Nat → Unit
 | [], _i0 =>
  ()
 | _x0 :: r0, i0 =>
  Q1am p0 r0 (i0 + 1)
def Q13k (p0 : Meta) (i0 : Nat) : List PV :=
  [.un, .bx 0 0, .bx 1 0] ++ nuns 19 ++ [.int .i64 ((List.length p0.managers) : Int), .int .i64 (i0 : Int)] ++ nuns 16
def Qub (p0 : Meta) (_i0 : Nat) : List Ob :=
  [⟨13, 0, true, [.str p0.kind, .str p0.namespace_, .str p0.name, .int .i64 p0.uid, .int .i64 p0.version, .int .i64 p0.generation, .int .i64 p0.created, .bool p0.deleting, .int .i64 p0.deleteAt, .sl (Label.rows p0.labels), .sl (Owner.rows p0.owners), .sl (Qv p0.finalizers), .ms 2 2 0 (List.length p0.managers)]⟩, ⟨13, 0, true, [.str eB, .str eB, .str eB, .int .i64 0, .int .i64 0, .int .i64 0, .int .i64 0, .bool false, .int .i64 0, .ms 3 2 0 0, .ms 4 5 0 0, .ms 5 1 0 0, .ms 6 2 0 0]⟩, ⟨2, 0, true, (Manager.rows p0.managers).flatten⟩, ⟨2, 0, true, []⟩, ⟨5, 0, true, []⟩, ⟨1, 0, true, []⟩, ⟨2, 0, true, []⟩]
def Qsb (p0 : Meta) (i0 : Nat) : En := .loop 0 Ir.Qpz Ir.Q1jo (Q13k p0 i0) (Qub p0 i0)
def Qwh (p0 : Meta) (z : Nat → PV) (_zo : Nat → List PV) : St :=
  ⟨[z 0, .bx 0 0, .bx 1 0] ++ zr z 3 37, [(0, ⟨13, 0, true, [.str p0.kind, .str p0.namespace_, .str p0.name, .int .i64 p0.uid, .int .i64 p0.version, .int .i64 p0.generation, .int .i64 p0.created, .bool p0.deleting, .int .i64 p0.deleteAt, .sl (Label.rows p0.labels), .sl (Owner.rows p0.owners), .sl (Qv p0.finalizers), .ms 2 2 0 (List.length p0.managers)]⟩), (1, ⟨13, 0, true, [.str eB, .str eB, .str eB, .int .i64 0, .int .i64 0, .int .i64 0, .int .i64 0, .bool false, .int .i64 0, .ms 3 2 0 0, .ms 4 5 0 0, .ms 5 1 0 0, .ms 6 2 0 0]⟩), (2, ⟨2, 0, true, (Manager.rows p0.managers).flatten⟩), (3, ⟨2, 0, true, []⟩), (4, ⟨5, 0, true, []⟩), (5, ⟨1, 0, true, []⟩), (6, ⟨2, 0, true, []⟩)], 71⟩
theorem Q19s (p0 : Meta) (i0 : Nat) : VOK (Go.Pv.look (number 0 (Qub p0 i0))) [(2, Manager.rows p0.managers)] := (VOK.cons (show Seen _ _ from Q42 (ob := ⟨2, 0, true, (Manager.rows p0.managers).flatten⟩) (Manager.Qp p0.managers 2 rfl)) VOK.nil)
def Qdg (p0 : Meta) (e : En) (_q : Unit) : Prop := ∃ z zo, Qi G e (.st (.exit 0) (Qwh p0 z zo))
theorem Qxe (p0 : Meta) {e e' : En} (h : ∀ r, Qi G e r → Qi G e' r) : ∀ q, Qdg p0 e q → Qdg p0 e' q
  | _, ⟨z, zo, hz⟩ => ⟨z, zo, h _ hz⟩
def Qt1 (p0 : Meta) : Prop := (List.length p0.managers ≤ 4611686018427387904) ∧ (∀ x0 ∈ p0.managers, List.length x0.fields * 16 ≤ 140737488355328) ∧ True
def Quo (p0 : Meta) (i0 : Nat) : List PV :=
  nuns 22 ++ [.int .i64 ((List.length p0.managers) : Int), .int .i64 (i0 : Int), .bool false]
def Qrg (_p0 : Meta) (_i0 : Nat) : List (Nat × List PV) :=
  []
theorem Q1b1 (p0 : Meta) (_H : Qt1 p0) (i0 : Nat) (hc0 : (decide ((i0 : Int) < ((List.length p0.managers) : Int))) = false) : Qdg p0 (Qsb p0 i0) () := by
 exact ⟨(envF (Quo p0 i0)), (zoF (Qrg p0 i0)), Q10 (Q19s p0 i0) (x := ((.exit 0), Qwh p0 (envF (Quo p0 i0)) (zoF (Qrg p0 i0)))) [hB 0 hc0] [] (by kernel_rfl)⟩
theorem Q1bk (p0 : Meta) (H : Qt1 p0) (x0 : Manager) (i0 : Nat) (hx0 : p0.managers[i0]? = some x0) (hi0 : i0 < List.length p0.managers) (hc0 : (decide ((i0 : Int) < ((List.length p0.managers) : Int))) = true) {r : Rs} (hr : Qi G (Qsb p0 (i0 + 1)) r) : Qi G (Qsb p0 i0) r := by
 have hB0 := H.1
 exact Qw (Q19s p0 i0) (y := (Q13k p0 (i0 + 1), Qub p0 (i0 + 1))) [hB 0 hc0, hP 8 (Qcv 2 2 (List.length p0.managers) (i0 : Int) i0 (by omega) (by omega) (by omega)), hP 1 (Q1fw 2 2 0 true ((Manager.rows p0.managers).flatten) (Manager.rows p0.managers) 1 false i0 1 (i0 * 2 + 1) (Manager.cells x0) (.sl (Qv x0.fields)) rfl rfl (Manager.Qe hx0) (Manager.Q16 p0.managers) (by decide) rfl), hP 1 (Qcv 2 2 (List.length p0.managers) (i0 : Int) i0 (by omega) (by omega) (by omega)), hV 1 [(2, Manager.rows p0.managers)] (Q180 2 2 true ((Manager.rows p0.managers).flatten) (Manager.rows p0.managers) (Manager.rows p0.managers) 1 i0 1 (i0 * 2 + 1) _ (.sl (Qv x0.fields)) rfl rfl (Manager.Qe hx0) (Manager.Q16 p0.managers) (by decide) rfl rfl (Qz9 (Manager.Qe hx0))), hS 0 true (Manager.Qp p0.managers 2 rfl), hP 0 (Q25 i0 (by omega))] [aN (Q7p (G := G) (f := 82) (sz := 1) (bytes := 16) rfl (Q1q x0.fields) (Q2w x0.fields 1 rfl) (H.2.1 x0 (Q13 hx0)))] (by kernel_rfl) hr
theorem Q12i (p0 : Meta) (H : Qt1 p0) : ∀ (r0 : List Manager) (i0 : Nat), List.drop i0 p0.managers = r0 → Qdg p0 (Qsb p0 i0) (Q1am p0 r0 i0)
 | [], i0, hd => by
  have hc0 : (decide ((i0 : Int) < ((List.length p0.managers) : Int))) = false := by have := Q1v hd; simp; omega
  show Qdg p0 _ ()
  exact Q1b1 p0 H i0 hc0
 | x0 :: r0, i0, hd => by
  obtain ⟨hx0, hi0, hd'⟩ := Q1s hd
  have hc0 : (decide ((i0 : Int) < ((List.length p0.managers) : Int))) = true := by simp; omega
  show Qdg p0 _ ()
  exact Qxe p0 (fun r hr => Q1bk p0 H x0 i0 hx0 hi0 hc0 hr) _ (Q12i p0 H r0 (i0 + 1) hd')
def s_Kf (p0 : Meta) : Meta := p0
theorem e_Kf (p0 : Meta) : s_Kf p0 = (p0) := by
  rfl
def c_Kf (p0 : Meta) : En := .call 31 [.agg (Meta.cells p0)] []
def a_Kf (p0 : Meta) : Rs := .ret (.agg (Meta.cells (s_Kf p0))) []
def H_Kf (p0 : Meta) : Prop := (List.length p0.labels * 32 ≤ 140737488355328) ∧ (List.length p0.owners * 48 ≤ 140737488355328) ∧ (List.length p0.finalizers * 16 ≤ 140737488355328) ∧ (List.length p0.managers * 40 ≤ 140737488355328) ∧ (Qt1 p0) ∧ True
theorem t_Kf (p0 : Meta) (H : H_Kf p0) : Qi G (c_Kf p0) (a_Kf p0) := by
 unfold a_Kf
 rw [e_Kf]
 have hl0 := Q12i p0 (H.2.2.2.2.1) p0.managers 0 (by simp)
 obtain ⟨z0, zo0, hl0⟩ := hl0
 exact Qm (fn := Ir.Kf) rfl VOK.nil [hQ (Manager.Qp p0.managers 2 rfl), hS 0 true (Manager.Qp p0.managers 2 rfl), hQ (Manager.Q9 p0.managers).symm] [aN (Q7p (G := G) (f := 80) (sz := 2) (bytes := 32) rfl (Label.Q9 p0.labels) (Label.Qp p0.labels 2 rfl) H.1), aN (Q7p (G := G) (f := 81) (sz := 5) (bytes := 48) rfl (Owner.Q9 p0.owners) (Owner.Qp p0.owners 5 rfl) H.2.1), aN (Q7p (G := G) (f := 82) (sz := 1) (bytes := 16) rfl (Q1q p0.finalizers) (Q2w p0.finalizers 1 rfl) H.2.2.1), aV [(0, Manager.rows p0.managers)] (Qax (G := G) (f := 83) (sz := 2) (bytes := 40) rfl (Manager.Q9 p0.managers) (Manager.Qp p0.managers 2 rfl) H.2.2.2.1), aV [(2, Manager.rows p0.managers)] hl0] (by kernel_rfl)
end Go.Proofs.YtiflaadeikaghaaGreat
end

section
/- Pods, nodes and templates to and from objects (printed by a program). -/
namespace Go.Proofs.YtiflaadeikaghaaGreat
open Go.Pv
def zPod : Pod := (Pod.mk (Meta.mk eB eB eB 0 0 0 0 false 0 [] [] [] []) (PodSpec.mk eB 0 0 0 [] [] [] [] [] []) (PodStatus.mk 0 false 0 0 0 [] 0 eB eB))
def Q1lf : Node := (Node.mk (Meta.mk eB eB eB 0 0 0 0 false 0 [] [] [] []) (Resources.mk 0 0 0) 0 false [] false 0 false false [])
def Qx9 : Template := (Template.mk [] (PodSpec.mk eB 0 0 0 [] [] [] [] [] []))
def Pod.obj (x : Pod) : Object := ⟨{ x.meta_ with kind := Q4w }, PodSpec.enc x.spec, PodStatus.enc x.status⟩
def Node.encS (x : Node) : Val := vM [.mk Qt (Resources.enc x.capacity), .mk Q1l (vB x.cordoned), .mk Q1o (vN x.maxPods), .mk Q18 (vL (x.taints.map Taint.enc))]
def Node.encT (x : Node) : Val := vM [.mk Q2s (vN x.beat), .mk Q1k (vL (x.images.map Image.enc)), .mk Q29 (vB x.lowDisk), .mk Q2d (vB x.lowMem), .mk Qa (vB x.ready)]
def Node.obj (x : Node) : Object := ⟨{ x.meta_ with kind := Qh }, Node.encS x, Node.encT x⟩
def podQ (o : Object) : Bool := (PodSpec.dec o.spec).2 && (PodStatus.dec o.status).2
def Q1fz (o : Object) : Pod := ⟨o.meta_, (PodSpec.dec o.spec).1, (PodStatus.dec o.status).1⟩
def podR (o : Object) : Pod × Int := bif !(sEq o.meta_.kind Q4w) || !(podQ o) then (zPod, 6) else (Q1fz o, 0)
def Q1bn (o : Object) : Bool := isM o.spec && isM o.status && (dT Resources.dec o.spec Qt).2 && (dB o.spec Q1l).2 && (dN o.spec Q1o).2 && (dE Taint.dec o.spec Q18).2 && (dN o.status Q2s).2 && (dE Image.dec o.status Q1k).2 && (dB o.status Q29).2 && (dB o.status Q2d).2 && (dB o.status Qa).2
def Q10n (o : Object) : Node := ⟨o.meta_, (dT Resources.dec o.spec Qt).1, (dN o.spec Q1o).1, (dB o.spec Q1l).1, (dE Taint.dec o.spec Q18).1, (dB o.status Qa).1, (dN o.status Q2s).1, (dB o.status Q2d).1, (dB o.status Q29).1, (dE Image.dec o.status Q1k).1⟩
def Qvg (o : Object) : Node × Int := bif !(sEq o.meta_.kind Qh) || !(Q1bn o) then (Q1lf, 6) else (Q10n o, 0)
def Qxd (v : Val) : Template × Int := bif !(Template.dec v).2 then (Qx9, 6) else ((Template.dec v).1, 0)
def Pod.sm (x : Pod) : Prop := PodSpec.sm x.spec ∧ PodStatus.sm x.status
def Node.sm (x : Node) : Prop := LSm Taint.sm x.taints ∧ LSm Image.sm x.images
def Object.sm (x : Object) : Prop := Val.Sm sB x.spec ∧ Val.Sm sB x.status
theorem Node.Q1gz {x : Node} (h : Node.sm x) : Val.Sm sB (Node.encS x) := Q8v (Nat.le_of_ble_eq_true rfl) (List.forall_mem_cons.2 ⟨Resources.Q34 trivial, List.forall_mem_cons.2 ⟨Val.Sm.leaf 1 _ _, List.forall_mem_cons.2 ⟨Val.Sm.leaf 2 _ _, List.forall_mem_cons.2 ⟨Q4j (fun _ h => Taint.Q34 h) h.1, fun _ h => by cases h⟩⟩⟩⟩)
theorem Node.Q1ff {x : Node} (h : Node.sm x) : Val.Sm sB (Node.encT x) := Q8v (Nat.le_of_ble_eq_true rfl) (List.forall_mem_cons.2 ⟨Val.Sm.leaf 2 _ _, List.forall_mem_cons.2 ⟨Q4j (fun _ h => Image.Q34 h) h.2, List.forall_mem_cons.2 ⟨Val.Sm.leaf 1 _ _, List.forall_mem_cons.2 ⟨Val.Sm.leaf 1 _ _, List.forall_mem_cons.2 ⟨Val.Sm.leaf 1 _ _, fun _ h => by cases h⟩⟩⟩⟩⟩)
theorem Pod.Q1ab {x : Pod} (h : Pod.sm x) : Object.sm (Pod.obj x) := ⟨PodSpec.Q34 h.1, PodStatus.Q34 h.2⟩
theorem Node.Q1ab {x : Node} (h : Node.sm x) : Object.sm (Node.obj x) := ⟨Node.Q1gz h, Node.Q1ff h⟩
theorem Q1cf {o : Object} (h : Object.sm o) : Pod.sm (Q1fz o) := ⟨PodSpec.Q35 h.1, PodStatus.Q35 h.2⟩
theorem Q1av {o : Object} (h : Object.sm o) : Node.sm (Q10n o) := ⟨Q8x (fun _ h => Taint.Q35 h) (Q2h h.1 _), Q8x (fun _ h => Image.Q35 h) (Q2h h.2 _)⟩
def Qxl (p0 : Pod) : Object := Pod.obj p0
theorem Q1qj (p0 : Pod) : Qxl p0 = ((Object.mk (Meta.mk Q4w p0.meta_.namespace_ p0.meta_.name p0.meta_.uid p0.meta_.version p0.meta_.generation p0.meta_.created p0.meta_.deleting p0.meta_.deleteAt p0.meta_.labels p0.meta_.owners p0.meta_.finalizers p0.meta_.managers) (Qz3 p0.spec) (Q1fl p0.status))) := by
  rfl
def Q1o5 (p0 : Pod) : En := .call 25 [.agg (Pod.cells p0)] []
def Q1j8 (p0 : Pod) : Rs := .ret (.agg (Object.cells (Qxl p0))) []
def Q1c1 (p0 : Pod) : Prop := Pod.sm p0
theorem Q13a (p0 : Pod) (H : Q1c1 p0) : (Q1d4 p0.spec) ∧ (Q1fv p0.status) ∧ True := by
  repeat' with_reducible apply And.intro
  all_goals first | exact True.intro | exact H.1 | exact H.2
theorem Q1lp (p0 : Pod) (H : Q1c1 p0) : Qi G (Q1o5 p0) (Q1j8 p0) := by
 unfold Q1j8
 rw [Q1qj]
 exact Qm (fn := Ir.K2b) rfl VOK.nil [] [aN (Q1l9 p0.spec (Q13a p0 H).1), aN (Q1ot p0.status (Q13a p0 H).2.1)] (by kernel_rfl)
def Qyd (p0 : Node) : Object := Node.obj p0
theorem Q1s7 (p0 : Node) : Qyd p0 = ((Object.mk (Meta.mk Qh p0.meta_.namespace_ p0.meta_.name p0.meta_.uid p0.meta_.version p0.meta_.generation p0.meta_.created p0.meta_.deleting p0.meta_.deleteAt p0.meta_.labels p0.meta_.owners p0.meta_.finalizers p0.meta_.managers) (Q1t ([(Q6 Qt (Q44 p0.capacity)), (Q6 Q1l (Q20 p0.cordoned)), (Q6 Q1o (Qy p0.maxPods)), (Q6 Q18 (Q16d p0.taints))])) (Q1t ([(Q6 Q2s (Qy p0.beat)), (Q6 Q1k (Q15u p0.images)), (Q6 Q29 (Q20 p0.lowDisk)), (Q6 Q2d (Q20 p0.lowMem)), (Q6 Qa (Q20 p0.ready))])))) := by
  rfl
def Q1ol (p0 : Node) : En := .call 27 [.agg (Node.cells p0)] []
def Q1kw (p0 : Node) : Rs := .ret (.agg (Object.cells (Qyd p0))) []
def Q1cl (p0 : Node) : Prop := Node.sm p0
theorem Q10v (p0 : Node) (H : Q1cl p0) : (Q1h3 p0.taints) ∧ (Q1hb p0.images) ∧ True := by
  repeat' with_reducible apply And.intro
  all_goals first | exact True.intro | exact H.1 | exact H.2
theorem Q1l5 (p0 : Node) (H : Q1cl p0) : Qi G (Q1ol p0) (Q1kw p0) := by
 unfold Q1kw
 rw [Q1s7]
 exact Qm (fn := Ir.K2a) rfl VOK.nil [] [aN (Q1gx p0.capacity), aN (Q2r Qt (Q44 p0.capacity)), aN (Qep p0.cordoned), aN (Q2r Q1l (Q20 p0.cordoned)), aN (Q5v p0.maxPods), aN (Q2r Q1o (Qy p0.maxPods)), aN (Q1rg p0.taints (Q10v p0 H).1), aN (Q2r Q18 (Q16d p0.taints)), aN (Q8w (e' := .call 70 [.sl [(Fld.cells (Q6 Qt (Q44 p0.capacity))), (Fld.cells (Q6 Q1l (Q20 p0.cordoned))), (Fld.cells (Q6 Q1o (Qy p0.maxPods))), (Fld.cells (Q6 Q18 (Q16d p0.taints)))]] []) (Q90 ([(Q6 Qt (Q44 p0.capacity)), (Q6 Q1l (Q20 p0.cordoned)), (Q6 Q1o (Qy p0.maxPods)), (Q6 Q18 (Q16d p0.taints))])) (by simp only [Q8u, Fld.Q3e, Fld.Q49])), aN (Q5v p0.beat), aN (Q2r Q2s (Qy p0.beat)), aN (Q1s5 p0.images (Q10v p0 H).2.1), aN (Q2r Q1k (Q15u p0.images)), aN (Qep p0.lowDisk), aN (Q2r Q29 (Q20 p0.lowDisk)), aN (Qep p0.lowMem), aN (Q2r Q2d (Q20 p0.lowMem)), aN (Qep p0.ready), aN (Q2r Qa (Q20 p0.ready)), aN (Q8w (e' := .call 70 [.sl [(Fld.cells (Q6 Q2s (Qy p0.beat))), (Fld.cells (Q6 Q1k (Q15u p0.images))), (Fld.cells (Q6 Q29 (Q20 p0.lowDisk))), (Fld.cells (Q6 Q2d (Q20 p0.lowMem))), (Fld.cells (Q6 Qa (Q20 p0.ready)))]] []) (Q90 ([(Q6 Q2s (Qy p0.beat)), (Q6 Q1k (Q15u p0.images)), (Q6 Q29 (Q20 p0.lowDisk)), (Q6 Q2d (Q20 p0.lowMem)), (Q6 Qa (Q20 p0.ready))])) (by simp only [Q8u, Fld.Q3e, Fld.Q49]))] (by kernel_rfl)
def s_Kd (p0 : Object) : Pod × Int := podR p0
theorem e_Kd (p0 : Object) : s_Kd p0 = (bif (s_Ku p0.status (s_Ks p0.spec (Decoder.mk (!(sEq p0.meta_.kind Q4w)))).2).2.failed then
    ((Pod.mk (Meta.mk eB eB eB 0 0 0 0 false 0 [] [] [] []) (PodSpec.mk eB 0 0 0 [] [] [] [] [] []) (PodStatus.mk 0 false 0 0 0 [] 0 eB eB)), 6)
  else
    ((Pod.mk p0.meta_ (s_Ks p0.spec (Decoder.mk (!(sEq p0.meta_.kind Q4w)))).1 (s_Ku p0.status (s_Ks p0.spec (Decoder.mk (!(sEq p0.meta_.kind Q4w)))).2).1), 0)) := by
  unfold s_Kd podR podQ
  simp only [s_Ks, s_Ku, ft]
  cases (sEq p0.meta_.kind Q4w) <;> cases (PodSpec.dec p0.spec).2 <;> cases (PodStatus.dec p0.status).2 <;> rfl
def c_Kd (p0 : Object) : En := .call 11 [.agg (Object.cells p0)] []
def a_Kd (p0 : Object) : Rs := .ret (.tup [.agg (Pod.cells (s_Kd p0).1), .int .i64 (s_Kd p0).2]) []
def H_Kd (p0 : Object) : Prop := H_Kf p0.meta_ ∧ Object.sm p0
theorem Qe9 (p0 : Object) (H : H_Kd p0) : (H_Kf p0.meta_) ∧ (H_Ks p0.spec) ∧ (H_Ku p0.status) ∧ True := by
  repeat' with_reducible apply And.intro
  all_goals first | exact True.intro | exact H.1 | exact H.2.1 | exact H.2.2
theorem t_Kd (p0 : Object) (H : H_Kd p0) : Qi G (c_Kd p0) (a_Kd p0) := by
 unfold a_Kd
 rw [e_Kd]
 cases h0 : (s_Ku p0.status (s_Ks p0.spec (Decoder.mk (!(sEq p0.meta_.kind Q4w)))).2).2.failed with
 | true =>
  exact Qm (fn := Ir.Kd) rfl VOK.nil [hP 27 (decR (s_Ku p0.status (s_Ks p0.spec (Decoder.mk (!(sEq p0.meta_.kind Q4w)))).2).2.failed true [512] h0)] [aN (t_Kf p0.meta_ (Qe9 p0 H).1), aN (t_Ks p0.spec (Decoder.mk (!(sEq p0.meta_.kind Q4w))) (Qe9 p0 H).2.1), aN (t_Ku p0.status (s_Ks p0.spec (Decoder.mk (!(sEq p0.meta_.kind Q4w)))).2 (Qe9 p0 H).2.2.1)] (by kernel_rfl)
 | false =>
  exact Qm (fn := Ir.Kd) rfl VOK.nil [hP 27 (decR (s_Ku p0.status (s_Ks p0.spec (Decoder.mk (!(sEq p0.meta_.kind Q4w)))).2).2.failed false [512] h0)] [aN (t_Kf p0.meta_ (Qe9 p0 H).1), aN (t_Ks p0.spec (Decoder.mk (!(sEq p0.meta_.kind Q4w))) (Qe9 p0 H).2.1), aN (t_Ku p0.status (s_Ks p0.spec (Decoder.mk (!(sEq p0.meta_.kind Q4w)))).2 (Qe9 p0 H).2.2.1)] (by kernel_rfl)
def Q5r (p1 : Val) (p2 : BA) (o0 : Decoder) : List Val → Nat → Bool → (List Taint) → Bool × (List Taint)
 | [], _i0, v0_1, v0_2 =>
  (v0_1, v0_2)
 | x0 :: r0, i0, v0_1, v0_2 =>
  Q5r p1 p2 o0 r0 (i0 + 1) (s_Ky x0 (Decoder.mk v0_1)).2.failed (v0_2 ++ [(s_Ky x0 (Decoder.mk v0_1)).1])
def Qvq (p1 : Val) (p2 : BA) (o0 : Decoder) (i0 : Nat) (_v0_1 : Bool) (v0_2 : List Taint) : List PV :=
  [.un, .un, .un, .fn 42 [.bx 0 0] []] ++ nuns 5 ++ [.ms 1 4 0 (List.length v0_2)] ++ nuns 6 ++ [.sl (Val.rows (s_Kj p1 p2 4 o0).1.list), .int .i64 ((List.length (s_Kj p1 p2 4 o0).1.list) : Int), .int .i64 (i0 : Int)] ++ nuns 11
def Qlg (_p1 : Val) (_p2 : BA) (_o0 : Decoder) (_i0 : Nat) (v0_1 : Bool) (v0_2 : List Taint) : List Ob :=
  [⟨1, 0, false, [.bool v0_1]⟩, ⟨4, 0, true, (Taint.rows v0_2).flatten⟩]
def Qgv (p1 : Val) (p2 : BA) (o0 : Decoder) (i0 : Nat) (v0_1 : Bool) (v0_2 : List Taint) : En := .loop 1 Ir.Qih Ir.Q1f7 (Qvq p1 p2 o0 i0 v0_1 v0_2) (Qlg p1 p2 o0 i0 v0_1 v0_2)
def Qpo (_p1 : Val) (_p2 : BA) (_o0 : Decoder) (q0 : Bool) (q1 : List Taint) (z : Nat → PV) (_zo : Nat → List PV) : St :=
  ⟨zr z 0 9 ++ [.ms 1 4 0 (List.length q1)] ++ zr z 10 20, [(0, ⟨1, 0, false, [.bool q0]⟩), (1, ⟨4, 0, true, (Taint.rows q1).flatten⟩)], 66⟩
theorem Q12h (p1 : Val) (p2 : BA) (o0 : Decoder) (i0 : Nat) (v0_1 : Bool) (v0_2 : List Taint) : VOK (Go.Pv.look (number 0 (Qlg p1 p2 o0 i0 v0_1 v0_2))) [(1, Taint.rows v0_2)] := (VOK.cons (show Seen _ _ from Q42 (ob := ⟨4, 0, true, (Taint.rows v0_2).flatten⟩) (Taint.Qp v0_2 4 rfl)) VOK.nil)
def Qgd (p1 : Val) (p2 : BA) (o0 : Decoder) (e : En) (q : Bool × (List Taint)) : Prop := ∃ z zo, Qi G e (.st (.exit 0) (Qpo p1 p2 o0 q.1 q.2 z zo))
theorem Qtq (p1 : Val) (p2 : BA) (o0 : Decoder) {e e' : En} (h : ∀ r, Qi G e r → Qi G e' r) : ∀ q, Qgd p1 p2 o0 e q → Qgd p1 p2 o0 e' q
  | _, ⟨z, zo, hz⟩ => ⟨z, zo, h _ hz⟩
def Qd1 (p1 : Val) (p2 : BA) (o0 : Decoder) : Prop := (List.length (s_Kj p1 p2 4 o0).1.list ≤ 137438953472) ∧ (∀ x0 ∈ (s_Kj p1 p2 4 o0).1.list, H_Ky x0) ∧ True
def Qpc (p1 : Val) (p2 : BA) (o0 : Decoder) (i0 : Nat) (_v0_1 : Bool) (_v0_2 : List Taint) : List PV :=
  [.un, .un, .un, .fn 42 [.bx 0 0] []] ++ nuns 12 ++ [.sl (Val.rows (s_Kj p1 p2 4 o0).1.list), .int .i64 ((List.length (s_Kj p1 p2 4 o0).1.list) : Int), .int .i64 (i0 : Int), .bool false]
def Ql9 (_p1 : Val) (_p2 : BA) (_o0 : Decoder) (_i0 : Nat) (_v0_1 : Bool) (_v0_2 : List Taint) : List (Nat × List PV) :=
  []
theorem Q19c (p1 : Val) (p2 : BA) (o0 : Decoder) (_H : Qd1 p1 p2 o0) (i0 : Nat) (v0_1 : Bool) (v0_2 : List Taint) (_ho0_0 : List.length v0_2 ≤ i0) (hc0 : (decide ((i0 : Int) < ((List.length (s_Kj p1 p2 4 o0).1.list) : Int))) = false) : Qgd p1 p2 o0 (Qgv p1 p2 o0 i0 v0_1 v0_2) (v0_1, v0_2) := by
 exact ⟨(envF (Qpc p1 p2 o0 i0 v0_1 v0_2)), (zoF (Ql9 p1 p2 o0 i0 v0_1 v0_2)), Q10 (Q12h p1 p2 o0 i0 v0_1 v0_2) (x := ((.exit 0), Qpo p1 p2 o0 v0_1 v0_2 (envF (Qpc p1 p2 o0 i0 v0_1 v0_2)) (zoF (Ql9 p1 p2 o0 i0 v0_1 v0_2)))) [hB 0 hc0] [] (by kernel_rfl)⟩
theorem Q19b (p1 : Val) (p2 : BA) (o0 : Decoder) (H : Qd1 p1 p2 o0) (x0 : Val) (i0 : Nat) (v0_1 : Bool) (v0_2 : List Taint) (hx0 : (s_Kj p1 p2 4 o0).1.list[i0]? = some x0) (hi0 : i0 < List.length (s_Kj p1 p2 4 o0).1.list) (ho0_0 : List.length v0_2 ≤ i0) (hc0 : (decide ((i0 : Int) < ((List.length (s_Kj p1 p2 4 o0).1.list) : Int))) = true) {r : Rs} (hr : Qi G (Qgv p1 p2 o0 (i0 + 1) (s_Ky x0 (Decoder.mk v0_1)).2.failed (v0_2 ++ [(s_Ky x0 (Decoder.mk v0_1)).1])) r) : Qi G (Qgv p1 p2 o0 i0 v0_1 v0_2) r := by
 have hB0 := H.1
 exact Qw (Q12h p1 p2 o0 i0 v0_1 v0_2) (y := (Qvq p1 p2 o0 (i0 + 1) (s_Ky x0 (Decoder.mk v0_1)).2.failed (v0_2 ++ [(s_Ky x0 (Decoder.mk v0_1)).1]), Qlg p1 p2 o0 (i0 + 1) (s_Ky x0 (Decoder.mk v0_1)).2.failed (v0_2 ++ [(s_Ky x0 (Decoder.mk v0_1)).1]))) [hB 0 hc0, hP 0 (Q15 5 (Val.rows (s_Kj p1 p2 4 o0).1.list) i0 _ (Val.Qe hx0) rfl), hV 8 [(642, Taint.rows (v0_2 ++ [(s_Ky x0 (Decoder.mk v0_1)).1]))] (Q3g 1 578 642 4 48 0 0 true (Taint.rows v0_2) (Taint.rows (v0_2 ++ [(s_Ky x0 (Decoder.mk v0_1)).1])) (Taint.cells (s_Ky x0 (Decoder.mk v0_1)).1) (List.length v0_2) (List.length (v0_2 ++ [(s_Ky x0 (Decoder.mk v0_1)).1])) rfl (Taint.Q9 v0_2).symm (Taint.Q9 (v0_2 ++ [(s_Ky x0 (Decoder.mk v0_1)).1])).symm (Taint.Q1n v0_2 (s_Ky x0 (Decoder.mk v0_1)).1) (Taint.Q16 v0_2) rfl (by omega)), hS 0 true (Taint.Qp (v0_2 ++ [(s_Ky x0 (Decoder.mk v0_1)).1]) 4 rfl), hP 1 (Q25 i0 (by omega))] [aN (t_Ky x0 (Decoder.mk v0_1) (H.2.1 x0 (Q13 hx0)))] (by kernel_rfl) hr
theorem Qvl (p1 : Val) (p2 : BA) (o0 : Decoder) (H : Qd1 p1 p2 o0) : ∀ (r0 : List Val) (i0 : Nat) (v0_1 : Bool) (v0_2 : List Taint), List.drop i0 (s_Kj p1 p2 4 o0).1.list = r0 → List.length v0_2 ≤ i0 → Qgd p1 p2 o0 (Qgv p1 p2 o0 i0 v0_1 v0_2) (Q5r p1 p2 o0 r0 i0 v0_1 v0_2)
 | [], i0, v0_1, v0_2, hd, ho0_0 => by
  have hc0 : (decide ((i0 : Int) < ((List.length (s_Kj p1 p2 4 o0).1.list) : Int))) = false := by have := Q1v hd; simp; omega
  rw [Q5r]
  exact Q19c p1 p2 o0 H i0 v0_1 v0_2 ho0_0 hc0
 | x0 :: r0, i0, v0_1, v0_2, hd, ho0_0 => by
  obtain ⟨hx0, hi0, hd'⟩ := Q1s hd
  have hc0 : (decide ((i0 : Int) < ((List.length (s_Kj p1 p2 4 o0).1.list) : Int))) = true := by simp; omega
  rw [Q5r]
  exact Qtq p1 p2 o0 (fun r hr => Q19b p1 p2 o0 H x0 i0 v0_1 v0_2 hx0 hi0 ho0_0 hc0 hr) _ (Qvl p1 p2 o0 H r0 (i0 + 1) (s_Ky x0 (Decoder.mk v0_1)).2.failed (v0_2 ++ [(s_Ky x0 (Decoder.mk v0_1)).1]) hd' (by first | omega | (simp; omega)))
def Q6g (p1 : Val) (p2 : BA) (o0 : Decoder) : List Taint × Decoder := ((dE Taint.dec p1 p2).1, ft o0 (isM p1 && (dE Taint.dec p1 p2).2))
theorem Q136 (p1 : Val) (p2 : BA) (o0 : Decoder) : ∀ (l : List Val) (i : Nat) (b : Bool) (a : List Taint), Q5r p1 p2 o0 l i b a = (b || !(l.all fun x => (Taint.dec x).2), a ++ l.map (fun x => (Taint.dec x).1))
  | [], _, b, a => by rw [Q5r]; simp
  | x :: l, i, b, a => by
    rw [Q5r]
    refine (Q136 p1 p2 o0 l (i + 1) (b || !(Taint.dec x).2) (a ++ [(Taint.dec x).1])).trans ?_
    simp only [List.append_assoc, List.singleton_append, List.map_cons, List.all_cons, Bool.not_and, Bool.or_assoc]
theorem Q1pv (p1 : Val) (p2 : BA) (o0 : Decoder) : Q6g p1 p2 o0 = (((Q5r p1 p2 o0 (s_Kj p1 p2 4 o0).1.list 0 (s_Kj p1 p2 4 o0).2.failed []).2, (Decoder.mk (Q5r p1 p2 o0 (s_Kj p1 p2 4 o0).1.list 0 (s_Kj p1 p2 4 o0).2.failed []).1))) := by
  rw [Q136]
  unfold s_Kj Q6g
  simp only [getL, Q3t]
  refine Prod.ext rfl ?_
  rw [Q6f o0.failed (isM p1) _ _ _ (Qeq (prt p1 p2)), Q46]
  rfl
def Q1qi (p1 : Val) (p2 : BA) (o0 : Decoder) : En := .call 41 [.bx 0 0, .agg (Val.cells p1), .str p2, .fn 42 [.bx 0 0] []] [⟨1, 0, false, (Decoder.cells o0)⟩]
def Q1mf (_p1 : Val) (_p2 : BA) (_o0 : Decoder) (q0 : List Taint) (q1 : Decoder) : Rs := .ret (.sl (Taint.rows q0)) [⟨1, 0, false, (Decoder.cells q1)⟩]
def Q1jh (p1 : Val) (p2 : BA) (o0 : Decoder) : Rs := Q1mf p1 p2 o0 (Q6g p1 p2 o0).1 (Q6g p1 p2 o0).2
def Q1fk (p1 : Val) : Prop := Val.Sm 1000000000 p1
theorem Q11j (p1 : Val) (p2 : BA) (o0 : Decoder) (H : Q1fk p1) : (H_Kj p1) ∧ (Qd1 p1 p2 o0) ∧ True := by
  have hl := Q6h (Q2h H p2)
  refine ⟨H, ?_, trivial⟩
  unfold Qd1 s_Kj
  simp only [getL]
  exact ⟨Nat.le_trans hl.1 (Nat.le_of_ble_eq_true rfl), hl.2, trivial⟩
theorem Q1lr (p1 : Val) (p2 : BA) (o0 : Decoder) (H : Q1fk p1) : Qi G (Q1qi p1 p2 o0) (Q1jh p1 p2 o0) := by
 unfold Q1jh
 rw [Q1pv]
 have hl0 := Qvl p1 p2 o0 ((Q11j p1 p2 o0 H).2.1) (s_Kj p1 p2 4 o0).1.list 0 (s_Kj p1 p2 4 o0).2.failed [] (by simp) (by simp)
 obtain ⟨z0, zo0, hl0⟩ := hl0
 exact Qm (fn := Ir.K11) rfl (h := [⟨1, 0, false, (Decoder.cells o0)⟩]) (vw := []) VOK.nil [hP 8 (Qz (Val.rows (s_Kj p1 p2 4 o0).1.list) (List.length (s_Kj p1 p2 4 o0).1.list) (Val.Q9 (s_Kj p1 p2 4 o0).1.list)), hS 0 true (Taint.Qp (Q5r p1 p2 o0 (s_Kj p1 p2 4 o0).1.list 0 (s_Kj p1 p2 4 o0).2.failed []).2 4 rfl), hQ (Taint.Q9 (Q5r p1 p2 o0 (s_Kj p1 p2 4 o0).1.list 0 (s_Kj p1 p2 4 o0).2.failed []).2).symm] [aN (t_Kj p1 p2 4 o0 (Q11j p1 p2 o0 H).1), aV [(1, Taint.rows (Q5r p1 p2 o0 (s_Kj p1 p2 4 o0).1.list 0 (s_Kj p1 p2 4 o0).2.failed []).2)] hl0] (by kernel_rfl)
def Q5i (p1 : Val) (p2 : BA) (o0 : Decoder) : List Val → Nat → Bool → (List Image) → Bool × (List Image)
 | [], _i0, v0_1, v0_2 =>
  (v0_1, v0_2)
 | x0 :: r0, i0, v0_1, v0_2 =>
  Q5i p1 p2 o0 r0 (i0 + 1) (s_Kk x0 (Decoder.mk v0_1)).2.failed (v0_2 ++ [(s_Kk x0 (Decoder.mk v0_1)).1])
def Qy7 (p1 : Val) (p2 : BA) (o0 : Decoder) (i0 : Nat) (_v0_1 : Bool) (v0_2 : List Image) : List PV :=
  [.un, .un, .un, .fn 44 [.bx 0 0] []] ++ nuns 5 ++ [.ms 1 3 0 (List.length v0_2)] ++ nuns 6 ++ [.sl (Val.rows (s_Kj p1 p2 4 o0).1.list), .int .i64 ((List.length (s_Kj p1 p2 4 o0).1.list) : Int), .int .i64 (i0 : Int)] ++ nuns 11
def Qhx (_p1 : Val) (_p2 : BA) (_o0 : Decoder) (_i0 : Nat) (v0_1 : Bool) (v0_2 : List Image) : List Ob :=
  [⟨1, 0, false, [.bool v0_1]⟩, ⟨3, 0, true, (Image.rows v0_2).flatten⟩]
def Qgs (p1 : Val) (p2 : BA) (o0 : Decoder) (i0 : Nat) (v0_1 : Bool) (v0_2 : List Image) : En := .loop 1 Ir.Qm1 Ir.Q1ep (Qy7 p1 p2 o0 i0 v0_1 v0_2) (Qhx p1 p2 o0 i0 v0_1 v0_2)
def Qqo (_p1 : Val) (_p2 : BA) (_o0 : Decoder) (q0 : Bool) (q1 : List Image) (z : Nat → PV) (_zo : Nat → List PV) : St :=
  ⟨zr z 0 9 ++ [.ms 1 3 0 (List.length q1)] ++ zr z 10 20, [(0, ⟨1, 0, false, [.bool q0]⟩), (1, ⟨3, 0, true, (Image.rows q1).flatten⟩)], 66⟩
theorem Q134 (p1 : Val) (p2 : BA) (o0 : Decoder) (i0 : Nat) (v0_1 : Bool) (v0_2 : List Image) : VOK (Go.Pv.look (number 0 (Qhx p1 p2 o0 i0 v0_1 v0_2))) [(1, Image.rows v0_2)] := (VOK.cons (show Seen _ _ from Q42 (ob := ⟨3, 0, true, (Image.rows v0_2).flatten⟩) (Image.Qp v0_2 3 rfl)) VOK.nil)
def Qf1 (p1 : Val) (p2 : BA) (o0 : Decoder) (e : En) (q : Bool × (List Image)) : Prop := ∃ z zo, Qi G e (.st (.exit 0) (Qqo p1 p2 o0 q.1 q.2 z zo))
theorem Qu4 (p1 : Val) (p2 : BA) (o0 : Decoder) {e e' : En} (h : ∀ r, Qi G e r → Qi G e' r) : ∀ q, Qf1 p1 p2 o0 e q → Qf1 p1 p2 o0 e' q
  | _, ⟨z, zo, hz⟩ => ⟨z, zo, h _ hz⟩
def Qd3 (p1 : Val) (p2 : BA) (o0 : Decoder) : Prop := (List.length (s_Kj p1 p2 4 o0).1.list ≤ 137438953472) ∧ (∀ x0 ∈ (s_Kj p1 p2 4 o0).1.list, H_Kk x0) ∧ True
def Qpv (p1 : Val) (p2 : BA) (o0 : Decoder) (i0 : Nat) (_v0_1 : Bool) (_v0_2 : List Image) : List PV :=
  [.un, .un, .un, .fn 44 [.bx 0 0] []] ++ nuns 12 ++ [.sl (Val.rows (s_Kj p1 p2 4 o0).1.list), .int .i64 ((List.length (s_Kj p1 p2 4 o0).1.list) : Int), .int .i64 (i0 : Int), .bool false]
def Qhj (_p1 : Val) (_p2 : BA) (_o0 : Decoder) (_i0 : Nat) (_v0_1 : Bool) (_v0_2 : List Image) : List (Nat × List PV) :=
  []
theorem Q173 (p1 : Val) (p2 : BA) (o0 : Decoder) (_H : Qd3 p1 p2 o0) (i0 : Nat) (v0_1 : Bool) (v0_2 : List Image) (_ho0_0 : List.length v0_2 ≤ i0) (hc0 : (decide ((i0 : Int) < ((List.length (s_Kj p1 p2 4 o0).1.list) : Int))) = false) : Qf1 p1 p2 o0 (Qgs p1 p2 o0 i0 v0_1 v0_2) (v0_1, v0_2) := by
 exact ⟨(envF (Qpv p1 p2 o0 i0 v0_1 v0_2)), (zoF (Qhj p1 p2 o0 i0 v0_1 v0_2)), Q10 (Q134 p1 p2 o0 i0 v0_1 v0_2) (x := ((.exit 0), Qqo p1 p2 o0 v0_1 v0_2 (envF (Qpv p1 p2 o0 i0 v0_1 v0_2)) (zoF (Qhj p1 p2 o0 i0 v0_1 v0_2)))) [hB 0 hc0] [] (by kernel_rfl)⟩
theorem Q178 (p1 : Val) (p2 : BA) (o0 : Decoder) (H : Qd3 p1 p2 o0) (x0 : Val) (i0 : Nat) (v0_1 : Bool) (v0_2 : List Image) (hx0 : (s_Kj p1 p2 4 o0).1.list[i0]? = some x0) (hi0 : i0 < List.length (s_Kj p1 p2 4 o0).1.list) (ho0_0 : List.length v0_2 ≤ i0) (hc0 : (decide ((i0 : Int) < ((List.length (s_Kj p1 p2 4 o0).1.list) : Int))) = true) {r : Rs} (hr : Qi G (Qgs p1 p2 o0 (i0 + 1) (s_Kk x0 (Decoder.mk v0_1)).2.failed (v0_2 ++ [(s_Kk x0 (Decoder.mk v0_1)).1])) r) : Qi G (Qgs p1 p2 o0 i0 v0_1 v0_2) r := by
 have hB0 := H.1
 exact Qw (Q134 p1 p2 o0 i0 v0_1 v0_2) (y := (Qy7 p1 p2 o0 (i0 + 1) (s_Kk x0 (Decoder.mk v0_1)).2.failed (v0_2 ++ [(s_Kk x0 (Decoder.mk v0_1)).1]), Qhx p1 p2 o0 (i0 + 1) (s_Kk x0 (Decoder.mk v0_1)).2.failed (v0_2 ++ [(s_Kk x0 (Decoder.mk v0_1)).1]))) [hB 0 hc0, hP 0 (Q15 5 (Val.rows (s_Kj p1 p2 4 o0).1.list) i0 _ (Val.Qe hx0) rfl), hV 8 [(642, Image.rows (v0_2 ++ [(s_Kk x0 (Decoder.mk v0_1)).1]))] (Q3g 1 578 642 3 32 0 0 true (Image.rows v0_2) (Image.rows (v0_2 ++ [(s_Kk x0 (Decoder.mk v0_1)).1])) (Image.cells (s_Kk x0 (Decoder.mk v0_1)).1) (List.length v0_2) (List.length (v0_2 ++ [(s_Kk x0 (Decoder.mk v0_1)).1])) rfl (Image.Q9 v0_2).symm (Image.Q9 (v0_2 ++ [(s_Kk x0 (Decoder.mk v0_1)).1])).symm (Image.Q1n v0_2 (s_Kk x0 (Decoder.mk v0_1)).1) (Image.Q16 v0_2) rfl (by omega)), hS 0 true (Image.Qp (v0_2 ++ [(s_Kk x0 (Decoder.mk v0_1)).1]) 3 rfl), hP 1 (Q25 i0 (by omega))] [aN (t_Kk x0 (Decoder.mk v0_1) (H.2.1 x0 (Q13 hx0)))] (by kernel_rfl) hr
theorem Qys (p1 : Val) (p2 : BA) (o0 : Decoder) (H : Qd3 p1 p2 o0) : ∀ (r0 : List Val) (i0 : Nat) (v0_1 : Bool) (v0_2 : List Image), List.drop i0 (s_Kj p1 p2 4 o0).1.list = r0 → List.length v0_2 ≤ i0 → Qf1 p1 p2 o0 (Qgs p1 p2 o0 i0 v0_1 v0_2) (Q5i p1 p2 o0 r0 i0 v0_1 v0_2)
 | [], i0, v0_1, v0_2, hd, ho0_0 => by
  have hc0 : (decide ((i0 : Int) < ((List.length (s_Kj p1 p2 4 o0).1.list) : Int))) = false := by have := Q1v hd; simp; omega
  rw [Q5i]
  exact Q173 p1 p2 o0 H i0 v0_1 v0_2 ho0_0 hc0
 | x0 :: r0, i0, v0_1, v0_2, hd, ho0_0 => by
  obtain ⟨hx0, hi0, hd'⟩ := Q1s hd
  have hc0 : (decide ((i0 : Int) < ((List.length (s_Kj p1 p2 4 o0).1.list) : Int))) = true := by simp; omega
  rw [Q5i]
  exact Qu4 p1 p2 o0 (fun r hr => Q178 p1 p2 o0 H x0 i0 v0_1 v0_2 hx0 hi0 ho0_0 hc0 hr) _ (Qys p1 p2 o0 H r0 (i0 + 1) (s_Kk x0 (Decoder.mk v0_1)).2.failed (v0_2 ++ [(s_Kk x0 (Decoder.mk v0_1)).1]) hd' (by first | omega | (simp; omega)))
def Qnd (p1 : Val) (p2 : BA) (o0 : Decoder) : List Image × Decoder := ((dE Image.dec p1 p2).1, ft o0 (isM p1 && (dE Image.dec p1 p2).2))
theorem Q11d (p1 : Val) (p2 : BA) (o0 : Decoder) : ∀ (l : List Val) (i : Nat) (b : Bool) (a : List Image), Q5i p1 p2 o0 l i b a = (b || !(l.all fun x => (Image.dec x).2), a ++ l.map (fun x => (Image.dec x).1))
  | [], _, b, a => by rw [Q5i]; simp
  | x :: l, i, b, a => by
    rw [Q5i]
    refine (Q11d p1 p2 o0 l (i + 1) (b || !(Image.dec x).2) (a ++ [(Image.dec x).1])).trans ?_
    simp only [List.append_assoc, List.singleton_append, List.map_cons, List.all_cons, Bool.not_and, Bool.or_assoc]
theorem Q1on (p1 : Val) (p2 : BA) (o0 : Decoder) : Qnd p1 p2 o0 = (((Q5i p1 p2 o0 (s_Kj p1 p2 4 o0).1.list 0 (s_Kj p1 p2 4 o0).2.failed []).2, (Decoder.mk (Q5i p1 p2 o0 (s_Kj p1 p2 4 o0).1.list 0 (s_Kj p1 p2 4 o0).2.failed []).1))) := by
  rw [Q11d]
  unfold s_Kj Qnd
  simp only [getL, Q3t]
  refine Prod.ext rfl ?_
  rw [Q6f o0.failed (isM p1) _ _ _ (Qeq (prt p1 p2)), Q46]
  rfl
def Q1ry (p1 : Val) (p2 : BA) (o0 : Decoder) : En := .call 43 [.bx 0 0, .agg (Val.cells p1), .str p2, .fn 44 [.bx 0 0] []] [⟨1, 0, false, (Decoder.cells o0)⟩]
def Q1qu (_p1 : Val) (_p2 : BA) (_o0 : Decoder) (q0 : List Image) (q1 : Decoder) : Rs := .ret (.sl (Image.rows q0)) [⟨1, 0, false, (Decoder.cells q1)⟩]
def Q1ke (p1 : Val) (p2 : BA) (o0 : Decoder) : Rs := Q1qu p1 p2 o0 (Qnd p1 p2 o0).1 (Qnd p1 p2 o0).2
def Q1gc (p1 : Val) : Prop := Val.Sm 1000000000 p1
theorem Q10g (p1 : Val) (p2 : BA) (o0 : Decoder) (H : Q1gc p1) : (H_Kj p1) ∧ (Qd3 p1 p2 o0) ∧ True := by
  have hl := Q6h (Q2h H p2)
  refine ⟨H, ?_, trivial⟩
  unfold Qd3 s_Kj
  simp only [getL]
  exact ⟨Nat.le_trans hl.1 (Nat.le_of_ble_eq_true rfl), hl.2, trivial⟩
theorem Q1lw (p1 : Val) (p2 : BA) (o0 : Decoder) (H : Q1gc p1) : Qi G (Q1ry p1 p2 o0) (Q1ke p1 p2 o0) := by
 unfold Q1ke
 rw [Q1on]
 have hl0 := Qys p1 p2 o0 ((Q10g p1 p2 o0 H).2.1) (s_Kj p1 p2 4 o0).1.list 0 (s_Kj p1 p2 4 o0).2.failed [] (by simp) (by simp)
 obtain ⟨z0, zo0, hl0⟩ := hl0
 exact Qm (fn := Ir.K14) rfl (h := [⟨1, 0, false, (Decoder.cells o0)⟩]) (vw := []) VOK.nil [hP 8 (Qz (Val.rows (s_Kj p1 p2 4 o0).1.list) (List.length (s_Kj p1 p2 4 o0).1.list) (Val.Q9 (s_Kj p1 p2 4 o0).1.list)), hS 0 true (Image.Qp (Q5i p1 p2 o0 (s_Kj p1 p2 4 o0).1.list 0 (s_Kj p1 p2 4 o0).2.failed []).2 3 rfl), hQ (Image.Q9 (Q5i p1 p2 o0 (s_Kj p1 p2 4 o0).1.list 0 (s_Kj p1 p2 4 o0).2.failed []).2).symm] [aN (t_Kj p1 p2 4 o0 (Q10g p1 p2 o0 H).1), aV [(1, Image.rows (Q5i p1 p2 o0 (s_Kj p1 p2 4 o0).1.list 0 (s_Kj p1 p2 4 o0).2.failed []).2)] hl0] (by kernel_rfl)
def s_Kc (p0 : Object) : Node × Int := Qvg p0
theorem e_Kc (p0 : Object) : s_Kc p0 = (bif (Qnd (s_Kw p0.status (s_Kw p0.spec (Decoder.mk (!(sEq p0.meta_.kind Qh)))).2).1 Q1k (s_Ki (s_Kw p0.status (s_Kw p0.spec (Decoder.mk (!(sEq p0.meta_.kind Qh)))).2).1 Q29 (s_Ki (s_Kw p0.status (s_Kw p0.spec (Decoder.mk (!(sEq p0.meta_.kind Qh)))).2).1 Q2d (s_Kn (s_Kw p0.status (s_Kw p0.spec (Decoder.mk (!(sEq p0.meta_.kind Qh)))).2).1 Q2s (s_Ki (s_Kw p0.status (s_Kw p0.spec (Decoder.mk (!(sEq p0.meta_.kind Qh)))).2).1 Qa (Q6g (s_Kw p0.spec (Decoder.mk (!(sEq p0.meta_.kind Qh)))).1 Q18 (s_Ki (s_Kw p0.spec (Decoder.mk (!(sEq p0.meta_.kind Qh)))).1 Q1l (s_Kn (s_Kw p0.spec (Decoder.mk (!(sEq p0.meta_.kind Qh)))).1 Q1o (s_Kr (s_Kx (s_Kw p0.spec (Decoder.mk (!(sEq p0.meta_.kind Qh)))).1 Qt (s_Kw p0.status (s_Kw p0.spec (Decoder.mk (!(sEq p0.meta_.kind Qh)))).2).2).1 (s_Kx (s_Kw p0.spec (Decoder.mk (!(sEq p0.meta_.kind Qh)))).1 Qt (s_Kw p0.status (s_Kw p0.spec (Decoder.mk (!(sEq p0.meta_.kind Qh)))).2).2).2).2).2).2).2).2).2).2).2).2.failed then
    ((Node.mk (Meta.mk eB eB eB 0 0 0 0 false 0 [] [] [] []) (Resources.mk 0 0 0) 0 false [] false 0 false false []), 6)
  else
    ((Node.mk p0.meta_ (s_Kr (s_Kx (s_Kw p0.spec (Decoder.mk (!(sEq p0.meta_.kind Qh)))).1 Qt (s_Kw p0.status (s_Kw p0.spec (Decoder.mk (!(sEq p0.meta_.kind Qh)))).2).2).1 (s_Kx (s_Kw p0.spec (Decoder.mk (!(sEq p0.meta_.kind Qh)))).1 Qt (s_Kw p0.status (s_Kw p0.spec (Decoder.mk (!(sEq p0.meta_.kind Qh)))).2).2).2).1 (s_Kn (s_Kw p0.spec (Decoder.mk (!(sEq p0.meta_.kind Qh)))).1 Q1o (s_Kr (s_Kx (s_Kw p0.spec (Decoder.mk (!(sEq p0.meta_.kind Qh)))).1 Qt (s_Kw p0.status (s_Kw p0.spec (Decoder.mk (!(sEq p0.meta_.kind Qh)))).2).2).1 (s_Kx (s_Kw p0.spec (Decoder.mk (!(sEq p0.meta_.kind Qh)))).1 Qt (s_Kw p0.status (s_Kw p0.spec (Decoder.mk (!(sEq p0.meta_.kind Qh)))).2).2).2).2).1 (s_Ki (s_Kw p0.spec (Decoder.mk (!(sEq p0.meta_.kind Qh)))).1 Q1l (s_Kn (s_Kw p0.spec (Decoder.mk (!(sEq p0.meta_.kind Qh)))).1 Q1o (s_Kr (s_Kx (s_Kw p0.spec (Decoder.mk (!(sEq p0.meta_.kind Qh)))).1 Qt (s_Kw p0.status (s_Kw p0.spec (Decoder.mk (!(sEq p0.meta_.kind Qh)))).2).2).1 (s_Kx (s_Kw p0.spec (Decoder.mk (!(sEq p0.meta_.kind Qh)))).1 Qt (s_Kw p0.status (s_Kw p0.spec (Decoder.mk (!(sEq p0.meta_.kind Qh)))).2).2).2).2).2).1 (Q6g (s_Kw p0.spec (Decoder.mk (!(sEq p0.meta_.kind Qh)))).1 Q18 (s_Ki (s_Kw p0.spec (Decoder.mk (!(sEq p0.meta_.kind Qh)))).1 Q1l (s_Kn (s_Kw p0.spec (Decoder.mk (!(sEq p0.meta_.kind Qh)))).1 Q1o (s_Kr (s_Kx (s_Kw p0.spec (Decoder.mk (!(sEq p0.meta_.kind Qh)))).1 Qt (s_Kw p0.status (s_Kw p0.spec (Decoder.mk (!(sEq p0.meta_.kind Qh)))).2).2).1 (s_Kx (s_Kw p0.spec (Decoder.mk (!(sEq p0.meta_.kind Qh)))).1 Qt (s_Kw p0.status (s_Kw p0.spec (Decoder.mk (!(sEq p0.meta_.kind Qh)))).2).2).2).2).2).2).1 (s_Ki (s_Kw p0.status (s_Kw p0.spec (Decoder.mk (!(sEq p0.meta_.kind Qh)))).2).1 Qa (Q6g (s_Kw p0.spec (Decoder.mk (!(sEq p0.meta_.kind Qh)))).1 Q18 (s_Ki (s_Kw p0.spec (Decoder.mk (!(sEq p0.meta_.kind Qh)))).1 Q1l (s_Kn (s_Kw p0.spec (Decoder.mk (!(sEq p0.meta_.kind Qh)))).1 Q1o (s_Kr (s_Kx (s_Kw p0.spec (Decoder.mk (!(sEq p0.meta_.kind Qh)))).1 Qt (s_Kw p0.status (s_Kw p0.spec (Decoder.mk (!(sEq p0.meta_.kind Qh)))).2).2).1 (s_Kx (s_Kw p0.spec (Decoder.mk (!(sEq p0.meta_.kind Qh)))).1 Qt (s_Kw p0.status (s_Kw p0.spec (Decoder.mk (!(sEq p0.meta_.kind Qh)))).2).2).2).2).2).2).2).1 (s_Kn (s_Kw p0.status (s_Kw p0.spec (Decoder.mk (!(sEq p0.meta_.kind Qh)))).2).1 Q2s (s_Ki (s_Kw p0.status (s_Kw p0.spec (Decoder.mk (!(sEq p0.meta_.kind Qh)))).2).1 Qa (Q6g (s_Kw p0.spec (Decoder.mk (!(sEq p0.meta_.kind Qh)))).1 Q18 (s_Ki (s_Kw p0.spec (Decoder.mk (!(sEq p0.meta_.kind Qh)))).1 Q1l (s_Kn (s_Kw p0.spec (Decoder.mk (!(sEq p0.meta_.kind Qh)))).1 Q1o (s_Kr (s_Kx (s_Kw p0.spec (Decoder.mk (!(sEq p0.meta_.kind Qh)))).1 Qt (s_Kw p0.status (s_Kw p0.spec (Decoder.mk (!(sEq p0.meta_.kind Qh)))).2).2).1 (s_Kx (s_Kw p0.spec (Decoder.mk (!(sEq p0.meta_.kind Qh)))).1 Qt (s_Kw p0.status (s_Kw p0.spec (Decoder.mk (!(sEq p0.meta_.kind Qh)))).2).2).2).2).2).2).2).2).1 (s_Ki (s_Kw p0.status (s_Kw p0.spec (Decoder.mk (!(sEq p0.meta_.kind Qh)))).2).1 Q2d (s_Kn (s_Kw p0.status (s_Kw p0.spec (Decoder.mk (!(sEq p0.meta_.kind Qh)))).2).1 Q2s (s_Ki (s_Kw p0.status (s_Kw p0.spec (Decoder.mk (!(sEq p0.meta_.kind Qh)))).2).1 Qa (Q6g (s_Kw p0.spec (Decoder.mk (!(sEq p0.meta_.kind Qh)))).1 Q18 (s_Ki (s_Kw p0.spec (Decoder.mk (!(sEq p0.meta_.kind Qh)))).1 Q1l (s_Kn (s_Kw p0.spec (Decoder.mk (!(sEq p0.meta_.kind Qh)))).1 Q1o (s_Kr (s_Kx (s_Kw p0.spec (Decoder.mk (!(sEq p0.meta_.kind Qh)))).1 Qt (s_Kw p0.status (s_Kw p0.spec (Decoder.mk (!(sEq p0.meta_.kind Qh)))).2).2).1 (s_Kx (s_Kw p0.spec (Decoder.mk (!(sEq p0.meta_.kind Qh)))).1 Qt (s_Kw p0.status (s_Kw p0.spec (Decoder.mk (!(sEq p0.meta_.kind Qh)))).2).2).2).2).2).2).2).2).2).1 (s_Ki (s_Kw p0.status (s_Kw p0.spec (Decoder.mk (!(sEq p0.meta_.kind Qh)))).2).1 Q29 (s_Ki (s_Kw p0.status (s_Kw p0.spec (Decoder.mk (!(sEq p0.meta_.kind Qh)))).2).1 Q2d (s_Kn (s_Kw p0.status (s_Kw p0.spec (Decoder.mk (!(sEq p0.meta_.kind Qh)))).2).1 Q2s (s_Ki (s_Kw p0.status (s_Kw p0.spec (Decoder.mk (!(sEq p0.meta_.kind Qh)))).2).1 Qa (Q6g (s_Kw p0.spec (Decoder.mk (!(sEq p0.meta_.kind Qh)))).1 Q18 (s_Ki (s_Kw p0.spec (Decoder.mk (!(sEq p0.meta_.kind Qh)))).1 Q1l (s_Kn (s_Kw p0.spec (Decoder.mk (!(sEq p0.meta_.kind Qh)))).1 Q1o (s_Kr (s_Kx (s_Kw p0.spec (Decoder.mk (!(sEq p0.meta_.kind Qh)))).1 Qt (s_Kw p0.status (s_Kw p0.spec (Decoder.mk (!(sEq p0.meta_.kind Qh)))).2).2).1 (s_Kx (s_Kw p0.spec (Decoder.mk (!(sEq p0.meta_.kind Qh)))).1 Qt (s_Kw p0.status (s_Kw p0.spec (Decoder.mk (!(sEq p0.meta_.kind Qh)))).2).2).2).2).2).2).2).2).2).2).1 (Qnd (s_Kw p0.status (s_Kw p0.spec (Decoder.mk (!(sEq p0.meta_.kind Qh)))).2).1 Q1k (s_Ki (s_Kw p0.status (s_Kw p0.spec (Decoder.mk (!(sEq p0.meta_.kind Qh)))).2).1 Q29 (s_Ki (s_Kw p0.status (s_Kw p0.spec (Decoder.mk (!(sEq p0.meta_.kind Qh)))).2).1 Q2d (s_Kn (s_Kw p0.status (s_Kw p0.spec (Decoder.mk (!(sEq p0.meta_.kind Qh)))).2).1 Q2s (s_Ki (s_Kw p0.status (s_Kw p0.spec (Decoder.mk (!(sEq p0.meta_.kind Qh)))).2).1 Qa (Q6g (s_Kw p0.spec (Decoder.mk (!(sEq p0.meta_.kind Qh)))).1 Q18 (s_Ki (s_Kw p0.spec (Decoder.mk (!(sEq p0.meta_.kind Qh)))).1 Q1l (s_Kn (s_Kw p0.spec (Decoder.mk (!(sEq p0.meta_.kind Qh)))).1 Q1o (s_Kr (s_Kx (s_Kw p0.spec (Decoder.mk (!(sEq p0.meta_.kind Qh)))).1 Qt (s_Kw p0.status (s_Kw p0.spec (Decoder.mk (!(sEq p0.meta_.kind Qh)))).2).2).1 (s_Kx (s_Kw p0.spec (Decoder.mk (!(sEq p0.meta_.kind Qh)))).1 Qt (s_Kw p0.status (s_Kw p0.spec (Decoder.mk (!(sEq p0.meta_.kind Qh)))).2).2).2).2).2).2).2).2).2).2).2).1), 0)) := by
  unfold s_Kc Qvg Q1bn Q10n
  simp only [s_Kw, s_Kn, s_Ki, s_Kx, s_Kr, Q6g, Qnd, Resources.sub1, dT, Resources.sub2, Qal, Q3t, Bool.and_assoc, Bool.and_left_comm, Bool.and_comm, Bool.and_self_left]
  rfl
def c_Kc (p0 : Object) : En := .call 13 [.agg (Object.cells p0)] []
def a_Kc (p0 : Object) : Rs := .ret (.tup [.agg (Node.cells (s_Kc p0).1), .int .i64 (s_Kc p0).2]) []
def H_Kc (p0 : Object) : Prop := H_Kf p0.meta_ ∧ Object.sm p0
theorem Q3r (p0 : Object) (H : H_Kc p0) : (H_Kf p0.meta_) ∧ (H_Kx (s_Kw p0.spec (Decoder.mk (!(sEq p0.meta_.kind Qh)))).1) ∧ (H_Kr (s_Kx (s_Kw p0.spec (Decoder.mk (!(sEq p0.meta_.kind Qh)))).1 Qt (s_Kw p0.status (s_Kw p0.spec (Decoder.mk (!(sEq p0.meta_.kind Qh)))).2).2).1) ∧ (H_Kn (s_Kw p0.spec (Decoder.mk (!(sEq p0.meta_.kind Qh)))).1) ∧ (H_Ki (s_Kw p0.spec (Decoder.mk (!(sEq p0.meta_.kind Qh)))).1) ∧ (Q1fk (s_Kw p0.spec (Decoder.mk (!(sEq p0.meta_.kind Qh)))).1) ∧ (H_Ki (s_Kw p0.status (s_Kw p0.spec (Decoder.mk (!(sEq p0.meta_.kind Qh)))).2).1) ∧ (H_Kn (s_Kw p0.status (s_Kw p0.spec (Decoder.mk (!(sEq p0.meta_.kind Qh)))).2).1) ∧ (Q1gc (s_Kw p0.status (s_Kw p0.spec (Decoder.mk (!(sEq p0.meta_.kind Qh)))).2).1) ∧ True := by
  repeat' with_reducible apply And.intro
  all_goals first | exact True.intro | exact H.1 | exact H.2.1 | exact H.2.2 | exact Qag (Q2h H.2.1 _)
theorem t_Kc (p0 : Object) (H : H_Kc p0) : Qi G (c_Kc p0) (a_Kc p0) := by
 unfold a_Kc
 rw [e_Kc]
 cases h0 : (Qnd (s_Kw p0.status (s_Kw p0.spec (Decoder.mk (!(sEq p0.meta_.kind Qh)))).2).1 Q1k (s_Ki (s_Kw p0.status (s_Kw p0.spec (Decoder.mk (!(sEq p0.meta_.kind Qh)))).2).1 Q29 (s_Ki (s_Kw p0.status (s_Kw p0.spec (Decoder.mk (!(sEq p0.meta_.kind Qh)))).2).1 Q2d (s_Kn (s_Kw p0.status (s_Kw p0.spec (Decoder.mk (!(sEq p0.meta_.kind Qh)))).2).1 Q2s (s_Ki (s_Kw p0.status (s_Kw p0.spec (Decoder.mk (!(sEq p0.meta_.kind Qh)))).2).1 Qa (Q6g (s_Kw p0.spec (Decoder.mk (!(sEq p0.meta_.kind Qh)))).1 Q18 (s_Ki (s_Kw p0.spec (Decoder.mk (!(sEq p0.meta_.kind Qh)))).1 Q1l (s_Kn (s_Kw p0.spec (Decoder.mk (!(sEq p0.meta_.kind Qh)))).1 Q1o (s_Kr (s_Kx (s_Kw p0.spec (Decoder.mk (!(sEq p0.meta_.kind Qh)))).1 Qt (s_Kw p0.status (s_Kw p0.spec (Decoder.mk (!(sEq p0.meta_.kind Qh)))).2).2).1 (s_Kx (s_Kw p0.spec (Decoder.mk (!(sEq p0.meta_.kind Qh)))).1 Qt (s_Kw p0.status (s_Kw p0.spec (Decoder.mk (!(sEq p0.meta_.kind Qh)))).2).2).2).2).2).2).2).2).2).2).2).2.failed with
 | true =>
  exact Qm (fn := Ir.Kc) rfl VOK.nil [hP 64 (decR (Qnd (s_Kw p0.status (s_Kw p0.spec (Decoder.mk (!(sEq p0.meta_.kind Qh)))).2).1 Q1k (s_Ki (s_Kw p0.status (s_Kw p0.spec (Decoder.mk (!(sEq p0.meta_.kind Qh)))).2).1 Q29 (s_Ki (s_Kw p0.status (s_Kw p0.spec (Decoder.mk (!(sEq p0.meta_.kind Qh)))).2).1 Q2d (s_Kn (s_Kw p0.status (s_Kw p0.spec (Decoder.mk (!(sEq p0.meta_.kind Qh)))).2).1 Q2s (s_Ki (s_Kw p0.status (s_Kw p0.spec (Decoder.mk (!(sEq p0.meta_.kind Qh)))).2).1 Qa (Q6g (s_Kw p0.spec (Decoder.mk (!(sEq p0.meta_.kind Qh)))).1 Q18 (s_Ki (s_Kw p0.spec (Decoder.mk (!(sEq p0.meta_.kind Qh)))).1 Q1l (s_Kn (s_Kw p0.spec (Decoder.mk (!(sEq p0.meta_.kind Qh)))).1 Q1o (s_Kr (s_Kx (s_Kw p0.spec (Decoder.mk (!(sEq p0.meta_.kind Qh)))).1 Qt (s_Kw p0.status (s_Kw p0.spec (Decoder.mk (!(sEq p0.meta_.kind Qh)))).2).2).1 (s_Kx (s_Kw p0.spec (Decoder.mk (!(sEq p0.meta_.kind Qh)))).1 Qt (s_Kw p0.status (s_Kw p0.spec (Decoder.mk (!(sEq p0.meta_.kind Qh)))).2).2).2).2).2).2).2).2).2).2).2).2.failed true [512] h0)] [aN (t_Kw p0.spec (Decoder.mk (!(sEq p0.meta_.kind Qh)))), aN (t_Kw p0.status (s_Kw p0.spec (Decoder.mk (!(sEq p0.meta_.kind Qh)))).2), aN (t_Kf p0.meta_ (Q3r p0 H).1), aN (t_Kx (s_Kw p0.spec (Decoder.mk (!(sEq p0.meta_.kind Qh)))).1 Qt (s_Kw p0.status (s_Kw p0.spec (Decoder.mk (!(sEq p0.meta_.kind Qh)))).2).2 (Q3r p0 H).2.1), aN (t_Kr (s_Kx (s_Kw p0.spec (Decoder.mk (!(sEq p0.meta_.kind Qh)))).1 Qt (s_Kw p0.status (s_Kw p0.spec (Decoder.mk (!(sEq p0.meta_.kind Qh)))).2).2).1 (s_Kx (s_Kw p0.spec (Decoder.mk (!(sEq p0.meta_.kind Qh)))).1 Qt (s_Kw p0.status (s_Kw p0.spec (Decoder.mk (!(sEq p0.meta_.kind Qh)))).2).2).2 (Q3r p0 H).2.2.1), aN (t_Kn (s_Kw p0.spec (Decoder.mk (!(sEq p0.meta_.kind Qh)))).1 Q1o (s_Kr (s_Kx (s_Kw p0.spec (Decoder.mk (!(sEq p0.meta_.kind Qh)))).1 Qt (s_Kw p0.status (s_Kw p0.spec (Decoder.mk (!(sEq p0.meta_.kind Qh)))).2).2).1 (s_Kx (s_Kw p0.spec (Decoder.mk (!(sEq p0.meta_.kind Qh)))).1 Qt (s_Kw p0.status (s_Kw p0.spec (Decoder.mk (!(sEq p0.meta_.kind Qh)))).2).2).2).2 (Q3r p0 H).2.2.2.1), aN (t_Ki (s_Kw p0.spec (Decoder.mk (!(sEq p0.meta_.kind Qh)))).1 Q1l (s_Kn (s_Kw p0.spec (Decoder.mk (!(sEq p0.meta_.kind Qh)))).1 Q1o (s_Kr (s_Kx (s_Kw p0.spec (Decoder.mk (!(sEq p0.meta_.kind Qh)))).1 Qt (s_Kw p0.status (s_Kw p0.spec (Decoder.mk (!(sEq p0.meta_.kind Qh)))).2).2).1 (s_Kx (s_Kw p0.spec (Decoder.mk (!(sEq p0.meta_.kind Qh)))).1 Qt (s_Kw p0.status (s_Kw p0.spec (Decoder.mk (!(sEq p0.meta_.kind Qh)))).2).2).2).2).2 (Q3r p0 H).2.2.2.2.1), aN (Q1lr (s_Kw p0.spec (Decoder.mk (!(sEq p0.meta_.kind Qh)))).1 Q18 (s_Ki (s_Kw p0.spec (Decoder.mk (!(sEq p0.meta_.kind Qh)))).1 Q1l (s_Kn (s_Kw p0.spec (Decoder.mk (!(sEq p0.meta_.kind Qh)))).1 Q1o (s_Kr (s_Kx (s_Kw p0.spec (Decoder.mk (!(sEq p0.meta_.kind Qh)))).1 Qt (s_Kw p0.status (s_Kw p0.spec (Decoder.mk (!(sEq p0.meta_.kind Qh)))).2).2).1 (s_Kx (s_Kw p0.spec (Decoder.mk (!(sEq p0.meta_.kind Qh)))).1 Qt (s_Kw p0.status (s_Kw p0.spec (Decoder.mk (!(sEq p0.meta_.kind Qh)))).2).2).2).2).2).2 (Q3r p0 H).2.2.2.2.2.1), aN (t_Ki (s_Kw p0.status (s_Kw p0.spec (Decoder.mk (!(sEq p0.meta_.kind Qh)))).2).1 Qa (Q6g (s_Kw p0.spec (Decoder.mk (!(sEq p0.meta_.kind Qh)))).1 Q18 (s_Ki (s_Kw p0.spec (Decoder.mk (!(sEq p0.meta_.kind Qh)))).1 Q1l (s_Kn (s_Kw p0.spec (Decoder.mk (!(sEq p0.meta_.kind Qh)))).1 Q1o (s_Kr (s_Kx (s_Kw p0.spec (Decoder.mk (!(sEq p0.meta_.kind Qh)))).1 Qt (s_Kw p0.status (s_Kw p0.spec (Decoder.mk (!(sEq p0.meta_.kind Qh)))).2).2).1 (s_Kx (s_Kw p0.spec (Decoder.mk (!(sEq p0.meta_.kind Qh)))).1 Qt (s_Kw p0.status (s_Kw p0.spec (Decoder.mk (!(sEq p0.meta_.kind Qh)))).2).2).2).2).2).2).2 (Q3r p0 H).2.2.2.2.2.2.1), aN (t_Kn (s_Kw p0.status (s_Kw p0.spec (Decoder.mk (!(sEq p0.meta_.kind Qh)))).2).1 Q2s (s_Ki (s_Kw p0.status (s_Kw p0.spec (Decoder.mk (!(sEq p0.meta_.kind Qh)))).2).1 Qa (Q6g (s_Kw p0.spec (Decoder.mk (!(sEq p0.meta_.kind Qh)))).1 Q18 (s_Ki (s_Kw p0.spec (Decoder.mk (!(sEq p0.meta_.kind Qh)))).1 Q1l (s_Kn (s_Kw p0.spec (Decoder.mk (!(sEq p0.meta_.kind Qh)))).1 Q1o (s_Kr (s_Kx (s_Kw p0.spec (Decoder.mk (!(sEq p0.meta_.kind Qh)))).1 Qt (s_Kw p0.status (s_Kw p0.spec (Decoder.mk (!(sEq p0.meta_.kind Qh)))).2).2).1 (s_Kx (s_Kw p0.spec (Decoder.mk (!(sEq p0.meta_.kind Qh)))).1 Qt (s_Kw p0.status (s_Kw p0.spec (Decoder.mk (!(sEq p0.meta_.kind Qh)))).2).2).2).2).2).2).2).2 (Q3r p0 H).2.2.2.2.2.2.2.1), aN (t_Ki (s_Kw p0.status (s_Kw p0.spec (Decoder.mk (!(sEq p0.meta_.kind Qh)))).2).1 Q2d (s_Kn (s_Kw p0.status (s_Kw p0.spec (Decoder.mk (!(sEq p0.meta_.kind Qh)))).2).1 Q2s (s_Ki (s_Kw p0.status (s_Kw p0.spec (Decoder.mk (!(sEq p0.meta_.kind Qh)))).2).1 Qa (Q6g (s_Kw p0.spec (Decoder.mk (!(sEq p0.meta_.kind Qh)))).1 Q18 (s_Ki (s_Kw p0.spec (Decoder.mk (!(sEq p0.meta_.kind Qh)))).1 Q1l (s_Kn (s_Kw p0.spec (Decoder.mk (!(sEq p0.meta_.kind Qh)))).1 Q1o (s_Kr (s_Kx (s_Kw p0.spec (Decoder.mk (!(sEq p0.meta_.kind Qh)))).1 Qt (s_Kw p0.status (s_Kw p0.spec (Decoder.mk (!(sEq p0.meta_.kind Qh)))).2).2).1 (s_Kx (s_Kw p0.spec (Decoder.mk (!(sEq p0.meta_.kind Qh)))).1 Qt (s_Kw p0.status (s_Kw p0.spec (Decoder.mk (!(sEq p0.meta_.kind Qh)))).2).2).2).2).2).2).2).2).2 (Q3r p0 H).2.2.2.2.2.2.1), aN (t_Ki (s_Kw p0.status (s_Kw p0.spec (Decoder.mk (!(sEq p0.meta_.kind Qh)))).2).1 Q29 (s_Ki (s_Kw p0.status (s_Kw p0.spec (Decoder.mk (!(sEq p0.meta_.kind Qh)))).2).1 Q2d (s_Kn (s_Kw p0.status (s_Kw p0.spec (Decoder.mk (!(sEq p0.meta_.kind Qh)))).2).1 Q2s (s_Ki (s_Kw p0.status (s_Kw p0.spec (Decoder.mk (!(sEq p0.meta_.kind Qh)))).2).1 Qa (Q6g (s_Kw p0.spec (Decoder.mk (!(sEq p0.meta_.kind Qh)))).1 Q18 (s_Ki (s_Kw p0.spec (Decoder.mk (!(sEq p0.meta_.kind Qh)))).1 Q1l (s_Kn (s_Kw p0.spec (Decoder.mk (!(sEq p0.meta_.kind Qh)))).1 Q1o (s_Kr (s_Kx (s_Kw p0.spec (Decoder.mk (!(sEq p0.meta_.kind Qh)))).1 Qt (s_Kw p0.status (s_Kw p0.spec (Decoder.mk (!(sEq p0.meta_.kind Qh)))).2).2).1 (s_Kx (s_Kw p0.spec (Decoder.mk (!(sEq p0.meta_.kind Qh)))).1 Qt (s_Kw p0.status (s_Kw p0.spec (Decoder.mk (!(sEq p0.meta_.kind Qh)))).2).2).2).2).2).2).2).2).2).2 (Q3r p0 H).2.2.2.2.2.2.1), aN (Q1lw (s_Kw p0.status (s_Kw p0.spec (Decoder.mk (!(sEq p0.meta_.kind Qh)))).2).1 Q1k (s_Ki (s_Kw p0.status (s_Kw p0.spec (Decoder.mk (!(sEq p0.meta_.kind Qh)))).2).1 Q29 (s_Ki (s_Kw p0.status (s_Kw p0.spec (Decoder.mk (!(sEq p0.meta_.kind Qh)))).2).1 Q2d (s_Kn (s_Kw p0.status (s_Kw p0.spec (Decoder.mk (!(sEq p0.meta_.kind Qh)))).2).1 Q2s (s_Ki (s_Kw p0.status (s_Kw p0.spec (Decoder.mk (!(sEq p0.meta_.kind Qh)))).2).1 Qa (Q6g (s_Kw p0.spec (Decoder.mk (!(sEq p0.meta_.kind Qh)))).1 Q18 (s_Ki (s_Kw p0.spec (Decoder.mk (!(sEq p0.meta_.kind Qh)))).1 Q1l (s_Kn (s_Kw p0.spec (Decoder.mk (!(sEq p0.meta_.kind Qh)))).1 Q1o (s_Kr (s_Kx (s_Kw p0.spec (Decoder.mk (!(sEq p0.meta_.kind Qh)))).1 Qt (s_Kw p0.status (s_Kw p0.spec (Decoder.mk (!(sEq p0.meta_.kind Qh)))).2).2).1 (s_Kx (s_Kw p0.spec (Decoder.mk (!(sEq p0.meta_.kind Qh)))).1 Qt (s_Kw p0.status (s_Kw p0.spec (Decoder.mk (!(sEq p0.meta_.kind Qh)))).2).2).2).2).2).2).2).2).2).2).2 (Q3r p0 H).2.2.2.2.2.2.2.2.1)] (by kernel_rfl)
 | false =>
  exact Qm (fn := Ir.Kc) rfl VOK.nil [hP 64 (decR (Qnd (s_Kw p0.status (s_Kw p0.spec (Decoder.mk (!(sEq p0.meta_.kind Qh)))).2).1 Q1k (s_Ki (s_Kw p0.status (s_Kw p0.spec (Decoder.mk (!(sEq p0.meta_.kind Qh)))).2).1 Q29 (s_Ki (s_Kw p0.status (s_Kw p0.spec (Decoder.mk (!(sEq p0.meta_.kind Qh)))).2).1 Q2d (s_Kn (s_Kw p0.status (s_Kw p0.spec (Decoder.mk (!(sEq p0.meta_.kind Qh)))).2).1 Q2s (s_Ki (s_Kw p0.status (s_Kw p0.spec (Decoder.mk (!(sEq p0.meta_.kind Qh)))).2).1 Qa (Q6g (s_Kw p0.spec (Decoder.mk (!(sEq p0.meta_.kind Qh)))).1 Q18 (s_Ki (s_Kw p0.spec (Decoder.mk (!(sEq p0.meta_.kind Qh)))).1 Q1l (s_Kn (s_Kw p0.spec (Decoder.mk (!(sEq p0.meta_.kind Qh)))).1 Q1o (s_Kr (s_Kx (s_Kw p0.spec (Decoder.mk (!(sEq p0.meta_.kind Qh)))).1 Qt (s_Kw p0.status (s_Kw p0.spec (Decoder.mk (!(sEq p0.meta_.kind Qh)))).2).2).1 (s_Kx (s_Kw p0.spec (Decoder.mk (!(sEq p0.meta_.kind Qh)))).1 Qt (s_Kw p0.status (s_Kw p0.spec (Decoder.mk (!(sEq p0.meta_.kind Qh)))).2).2).2).2).2).2).2).2).2).2).2).2.failed false [512] h0)] [aN (t_Kw p0.spec (Decoder.mk (!(sEq p0.meta_.kind Qh)))), aN (t_Kw p0.status (s_Kw p0.spec (Decoder.mk (!(sEq p0.meta_.kind Qh)))).2), aN (t_Kf p0.meta_ (Q3r p0 H).1), aN (t_Kx (s_Kw p0.spec (Decoder.mk (!(sEq p0.meta_.kind Qh)))).1 Qt (s_Kw p0.status (s_Kw p0.spec (Decoder.mk (!(sEq p0.meta_.kind Qh)))).2).2 (Q3r p0 H).2.1), aN (t_Kr (s_Kx (s_Kw p0.spec (Decoder.mk (!(sEq p0.meta_.kind Qh)))).1 Qt (s_Kw p0.status (s_Kw p0.spec (Decoder.mk (!(sEq p0.meta_.kind Qh)))).2).2).1 (s_Kx (s_Kw p0.spec (Decoder.mk (!(sEq p0.meta_.kind Qh)))).1 Qt (s_Kw p0.status (s_Kw p0.spec (Decoder.mk (!(sEq p0.meta_.kind Qh)))).2).2).2 (Q3r p0 H).2.2.1), aN (t_Kn (s_Kw p0.spec (Decoder.mk (!(sEq p0.meta_.kind Qh)))).1 Q1o (s_Kr (s_Kx (s_Kw p0.spec (Decoder.mk (!(sEq p0.meta_.kind Qh)))).1 Qt (s_Kw p0.status (s_Kw p0.spec (Decoder.mk (!(sEq p0.meta_.kind Qh)))).2).2).1 (s_Kx (s_Kw p0.spec (Decoder.mk (!(sEq p0.meta_.kind Qh)))).1 Qt (s_Kw p0.status (s_Kw p0.spec (Decoder.mk (!(sEq p0.meta_.kind Qh)))).2).2).2).2 (Q3r p0 H).2.2.2.1), aN (t_Ki (s_Kw p0.spec (Decoder.mk (!(sEq p0.meta_.kind Qh)))).1 Q1l (s_Kn (s_Kw p0.spec (Decoder.mk (!(sEq p0.meta_.kind Qh)))).1 Q1o (s_Kr (s_Kx (s_Kw p0.spec (Decoder.mk (!(sEq p0.meta_.kind Qh)))).1 Qt (s_Kw p0.status (s_Kw p0.spec (Decoder.mk (!(sEq p0.meta_.kind Qh)))).2).2).1 (s_Kx (s_Kw p0.spec (Decoder.mk (!(sEq p0.meta_.kind Qh)))).1 Qt (s_Kw p0.status (s_Kw p0.spec (Decoder.mk (!(sEq p0.meta_.kind Qh)))).2).2).2).2).2 (Q3r p0 H).2.2.2.2.1), aN (Q1lr (s_Kw p0.spec (Decoder.mk (!(sEq p0.meta_.kind Qh)))).1 Q18 (s_Ki (s_Kw p0.spec (Decoder.mk (!(sEq p0.meta_.kind Qh)))).1 Q1l (s_Kn (s_Kw p0.spec (Decoder.mk (!(sEq p0.meta_.kind Qh)))).1 Q1o (s_Kr (s_Kx (s_Kw p0.spec (Decoder.mk (!(sEq p0.meta_.kind Qh)))).1 Qt (s_Kw p0.status (s_Kw p0.spec (Decoder.mk (!(sEq p0.meta_.kind Qh)))).2).2).1 (s_Kx (s_Kw p0.spec (Decoder.mk (!(sEq p0.meta_.kind Qh)))).1 Qt (s_Kw p0.status (s_Kw p0.spec (Decoder.mk (!(sEq p0.meta_.kind Qh)))).2).2).2).2).2).2 (Q3r p0 H).2.2.2.2.2.1), aN (t_Ki (s_Kw p0.status (s_Kw p0.spec (Decoder.mk (!(sEq p0.meta_.kind Qh)))).2).1 Qa (Q6g (s_Kw p0.spec (Decoder.mk (!(sEq p0.meta_.kind Qh)))).1 Q18 (s_Ki (s_Kw p0.spec (Decoder.mk (!(sEq p0.meta_.kind Qh)))).1 Q1l (s_Kn (s_Kw p0.spec (Decoder.mk (!(sEq p0.meta_.kind Qh)))).1 Q1o (s_Kr (s_Kx (s_Kw p0.spec (Decoder.mk (!(sEq p0.meta_.kind Qh)))).1 Qt (s_Kw p0.status (s_Kw p0.spec (Decoder.mk (!(sEq p0.meta_.kind Qh)))).2).2).1 (s_Kx (s_Kw p0.spec (Decoder.mk (!(sEq p0.meta_.kind Qh)))).1 Qt (s_Kw p0.status (s_Kw p0.spec (Decoder.mk (!(sEq p0.meta_.kind Qh)))).2).2).2).2).2).2).2 (Q3r p0 H).2.2.2.2.2.2.1), aN (t_Kn (s_Kw p0.status (s_Kw p0.spec (Decoder.mk (!(sEq p0.meta_.kind Qh)))).2).1 Q2s (s_Ki (s_Kw p0.status (s_Kw p0.spec (Decoder.mk (!(sEq p0.meta_.kind Qh)))).2).1 Qa (Q6g (s_Kw p0.spec (Decoder.mk (!(sEq p0.meta_.kind Qh)))).1 Q18 (s_Ki (s_Kw p0.spec (Decoder.mk (!(sEq p0.meta_.kind Qh)))).1 Q1l (s_Kn (s_Kw p0.spec (Decoder.mk (!(sEq p0.meta_.kind Qh)))).1 Q1o (s_Kr (s_Kx (s_Kw p0.spec (Decoder.mk (!(sEq p0.meta_.kind Qh)))).1 Qt (s_Kw p0.status (s_Kw p0.spec (Decoder.mk (!(sEq p0.meta_.kind Qh)))).2).2).1 (s_Kx (s_Kw p0.spec (Decoder.mk (!(sEq p0.meta_.kind Qh)))).1 Qt (s_Kw p0.status (s_Kw p0.spec (Decoder.mk (!(sEq p0.meta_.kind Qh)))).2).2).2).2).2).2).2).2 (Q3r p0 H).2.2.2.2.2.2.2.1), aN (t_Ki (s_Kw p0.status (s_Kw p0.spec (Decoder.mk (!(sEq p0.meta_.kind Qh)))).2).1 Q2d (s_Kn (s_Kw p0.status (s_Kw p0.spec (Decoder.mk (!(sEq p0.meta_.kind Qh)))).2).1 Q2s (s_Ki (s_Kw p0.status (s_Kw p0.spec (Decoder.mk (!(sEq p0.meta_.kind Qh)))).2).1 Qa (Q6g (s_Kw p0.spec (Decoder.mk (!(sEq p0.meta_.kind Qh)))).1 Q18 (s_Ki (s_Kw p0.spec (Decoder.mk (!(sEq p0.meta_.kind Qh)))).1 Q1l (s_Kn (s_Kw p0.spec (Decoder.mk (!(sEq p0.meta_.kind Qh)))).1 Q1o (s_Kr (s_Kx (s_Kw p0.spec (Decoder.mk (!(sEq p0.meta_.kind Qh)))).1 Qt (s_Kw p0.status (s_Kw p0.spec (Decoder.mk (!(sEq p0.meta_.kind Qh)))).2).2).1 (s_Kx (s_Kw p0.spec (Decoder.mk (!(sEq p0.meta_.kind Qh)))).1 Qt (s_Kw p0.status (s_Kw p0.spec (Decoder.mk (!(sEq p0.meta_.kind Qh)))).2).2).2).2).2).2).2).2).2 (Q3r p0 H).2.2.2.2.2.2.1), aN (t_Ki (s_Kw p0.status (s_Kw p0.spec (Decoder.mk (!(sEq p0.meta_.kind Qh)))).2).1 Q29 (s_Ki (s_Kw p0.status (s_Kw p0.spec (Decoder.mk (!(sEq p0.meta_.kind Qh)))).2).1 Q2d (s_Kn (s_Kw p0.status (s_Kw p0.spec (Decoder.mk (!(sEq p0.meta_.kind Qh)))).2).1 Q2s (s_Ki (s_Kw p0.status (s_Kw p0.spec (Decoder.mk (!(sEq p0.meta_.kind Qh)))).2).1 Qa (Q6g (s_Kw p0.spec (Decoder.mk (!(sEq p0.meta_.kind Qh)))).1 Q18 (s_Ki (s_Kw p0.spec (Decoder.mk (!(sEq p0.meta_.kind Qh)))).1 Q1l (s_Kn (s_Kw p0.spec (Decoder.mk (!(sEq p0.meta_.kind Qh)))).1 Q1o (s_Kr (s_Kx (s_Kw p0.spec (Decoder.mk (!(sEq p0.meta_.kind Qh)))).1 Qt (s_Kw p0.status (s_Kw p0.spec (Decoder.mk (!(sEq p0.meta_.kind Qh)))).2).2).1 (s_Kx (s_Kw p0.spec (Decoder.mk (!(sEq p0.meta_.kind Qh)))).1 Qt (s_Kw p0.status (s_Kw p0.spec (Decoder.mk (!(sEq p0.meta_.kind Qh)))).2).2).2).2).2).2).2).2).2).2 (Q3r p0 H).2.2.2.2.2.2.1), aN (Q1lw (s_Kw p0.status (s_Kw p0.spec (Decoder.mk (!(sEq p0.meta_.kind Qh)))).2).1 Q1k (s_Ki (s_Kw p0.status (s_Kw p0.spec (Decoder.mk (!(sEq p0.meta_.kind Qh)))).2).1 Q29 (s_Ki (s_Kw p0.status (s_Kw p0.spec (Decoder.mk (!(sEq p0.meta_.kind Qh)))).2).1 Q2d (s_Kn (s_Kw p0.status (s_Kw p0.spec (Decoder.mk (!(sEq p0.meta_.kind Qh)))).2).1 Q2s (s_Ki (s_Kw p0.status (s_Kw p0.spec (Decoder.mk (!(sEq p0.meta_.kind Qh)))).2).1 Qa (Q6g (s_Kw p0.spec (Decoder.mk (!(sEq p0.meta_.kind Qh)))).1 Q18 (s_Ki (s_Kw p0.spec (Decoder.mk (!(sEq p0.meta_.kind Qh)))).1 Q1l (s_Kn (s_Kw p0.spec (Decoder.mk (!(sEq p0.meta_.kind Qh)))).1 Q1o (s_Kr (s_Kx (s_Kw p0.spec (Decoder.mk (!(sEq p0.meta_.kind Qh)))).1 Qt (s_Kw p0.status (s_Kw p0.spec (Decoder.mk (!(sEq p0.meta_.kind Qh)))).2).2).1 (s_Kx (s_Kw p0.spec (Decoder.mk (!(sEq p0.meta_.kind Qh)))).1 Qt (s_Kw p0.status (s_Kw p0.spec (Decoder.mk (!(sEq p0.meta_.kind Qh)))).2).2).2).2).2).2).2).2).2).2).2 (Q3r p0 H).2.2.2.2.2.2.2.2.1)] (by kernel_rfl)
def Q5j (p1 : Val) (p2 : BA) (o0 : Decoder) : List Val → Nat → Bool → (List Label) → Bool × (List Label)
 | [], _i0, v0_1, v0_2 =>
  (v0_1, v0_2)
 | x0 :: r0, i0, v0_1, v0_2 =>
  Q5j p1 p2 o0 r0 (i0 + 1) (s_Kl x0 (Decoder.mk v0_1)).2.failed (v0_2 ++ [(s_Kl x0 (Decoder.mk v0_1)).1])
def Qxq (p1 : Val) (p2 : BA) (o0 : Decoder) (i0 : Nat) (_v0_1 : Bool) (v0_2 : List Label) : List PV :=
  [.un, .un, .un, .fn 52 [.bx 0 0] []] ++ nuns 5 ++ [.ms 1 2 0 (List.length v0_2)] ++ nuns 6 ++ [.sl (Val.rows (s_Kj p1 p2 4 o0).1.list), .int .i64 ((List.length (s_Kj p1 p2 4 o0).1.list) : Int), .int .i64 (i0 : Int)] ++ nuns 11
def Qks (_p1 : Val) (_p2 : BA) (_o0 : Decoder) (_i0 : Nat) (v0_1 : Bool) (v0_2 : List Label) : List Ob :=
  [⟨1, 0, false, [.bool v0_1]⟩, ⟨2, 0, true, (Label.rows v0_2).flatten⟩]
def Qg4 (p1 : Val) (p2 : BA) (o0 : Decoder) (i0 : Nat) (v0_1 : Bool) (v0_2 : List Label) : En := .loop 1 Ir.Qin Ir.Q1dr (Qxq p1 p2 o0 i0 v0_1 v0_2) (Qks p1 p2 o0 i0 v0_1 v0_2)
def Qpw (_p1 : Val) (_p2 : BA) (_o0 : Decoder) (q0 : Bool) (q1 : List Label) (z : Nat → PV) (_zo : Nat → List PV) : St :=
  ⟨zr z 0 9 ++ [.ms 1 2 0 (List.length q1)] ++ zr z 10 20, [(0, ⟨1, 0, false, [.bool q0]⟩), (1, ⟨2, 0, true, (Label.rows q1).flatten⟩)], 66⟩
theorem Q10d (p1 : Val) (p2 : BA) (o0 : Decoder) (i0 : Nat) (v0_1 : Bool) (v0_2 : List Label) : VOK (Go.Pv.look (number 0 (Qks p1 p2 o0 i0 v0_1 v0_2))) [(1, Label.rows v0_2)] := (VOK.cons (show Seen _ _ from Q42 (ob := ⟨2, 0, true, (Label.rows v0_2).flatten⟩) (Label.Qp v0_2 2 rfl)) VOK.nil)
def Qgo (p1 : Val) (p2 : BA) (o0 : Decoder) (e : En) (q : Bool × (List Label)) : Prop := ∃ z zo, Qi G e (.st (.exit 0) (Qpw p1 p2 o0 q.1 q.2 z zo))
theorem Qt7 (p1 : Val) (p2 : BA) (o0 : Decoder) {e e' : En} (h : ∀ r, Qi G e r → Qi G e' r) : ∀ q, Qgo p1 p2 o0 e q → Qgo p1 p2 o0 e' q
  | _, ⟨z, zo, hz⟩ => ⟨z, zo, h _ hz⟩
def Qc4 (p1 : Val) (p2 : BA) (o0 : Decoder) : Prop := (List.length (s_Kj p1 p2 4 o0).1.list ≤ 137438953472) ∧ (∀ x0 ∈ (s_Kj p1 p2 4 o0).1.list, H_Kl x0) ∧ True
def Qrj (p1 : Val) (p2 : BA) (o0 : Decoder) (i0 : Nat) (_v0_1 : Bool) (_v0_2 : List Label) : List PV :=
  [.un, .un, .un, .fn 52 [.bx 0 0] []] ++ nuns 12 ++ [.sl (Val.rows (s_Kj p1 p2 4 o0).1.list), .int .i64 ((List.length (s_Kj p1 p2 4 o0).1.list) : Int), .int .i64 (i0 : Int), .bool false]
def Qjn (_p1 : Val) (_p2 : BA) (_o0 : Decoder) (_i0 : Nat) (_v0_1 : Bool) (_v0_2 : List Label) : List (Nat × List PV) :=
  []
theorem Q18z (p1 : Val) (p2 : BA) (o0 : Decoder) (_H : Qc4 p1 p2 o0) (i0 : Nat) (v0_1 : Bool) (v0_2 : List Label) (_ho0_0 : List.length v0_2 ≤ i0) (hc0 : (decide ((i0 : Int) < ((List.length (s_Kj p1 p2 4 o0).1.list) : Int))) = false) : Qgo p1 p2 o0 (Qg4 p1 p2 o0 i0 v0_1 v0_2) (v0_1, v0_2) := by
 exact ⟨(envF (Qrj p1 p2 o0 i0 v0_1 v0_2)), (zoF (Qjn p1 p2 o0 i0 v0_1 v0_2)), Q10 (Q10d p1 p2 o0 i0 v0_1 v0_2) (x := ((.exit 0), Qpw p1 p2 o0 v0_1 v0_2 (envF (Qrj p1 p2 o0 i0 v0_1 v0_2)) (zoF (Qjn p1 p2 o0 i0 v0_1 v0_2)))) [hB 0 hc0] [] (by kernel_rfl)⟩
theorem Q14x (p1 : Val) (p2 : BA) (o0 : Decoder) (H : Qc4 p1 p2 o0) (x0 : Val) (i0 : Nat) (v0_1 : Bool) (v0_2 : List Label) (hx0 : (s_Kj p1 p2 4 o0).1.list[i0]? = some x0) (hi0 : i0 < List.length (s_Kj p1 p2 4 o0).1.list) (ho0_0 : List.length v0_2 ≤ i0) (hc0 : (decide ((i0 : Int) < ((List.length (s_Kj p1 p2 4 o0).1.list) : Int))) = true) {r : Rs} (hr : Qi G (Qg4 p1 p2 o0 (i0 + 1) (s_Kl x0 (Decoder.mk v0_1)).2.failed (v0_2 ++ [(s_Kl x0 (Decoder.mk v0_1)).1])) r) : Qi G (Qg4 p1 p2 o0 i0 v0_1 v0_2) r := by
 have hB0 := H.1
 exact Qw (Q10d p1 p2 o0 i0 v0_1 v0_2) (y := (Qxq p1 p2 o0 (i0 + 1) (s_Kl x0 (Decoder.mk v0_1)).2.failed (v0_2 ++ [(s_Kl x0 (Decoder.mk v0_1)).1]), Qks p1 p2 o0 (i0 + 1) (s_Kl x0 (Decoder.mk v0_1)).2.failed (v0_2 ++ [(s_Kl x0 (Decoder.mk v0_1)).1]))) [hB 0 hc0, hP 0 (Q15 5 (Val.rows (s_Kj p1 p2 4 o0).1.list) i0 _ (Val.Qe hx0) rfl), hV 8 [(642, Label.rows (v0_2 ++ [(s_Kl x0 (Decoder.mk v0_1)).1]))] (Q3g 1 578 642 2 32 0 0 true (Label.rows v0_2) (Label.rows (v0_2 ++ [(s_Kl x0 (Decoder.mk v0_1)).1])) (Label.cells (s_Kl x0 (Decoder.mk v0_1)).1) (List.length v0_2) (List.length (v0_2 ++ [(s_Kl x0 (Decoder.mk v0_1)).1])) rfl (Label.Q9 v0_2).symm (Label.Q9 (v0_2 ++ [(s_Kl x0 (Decoder.mk v0_1)).1])).symm (Label.Q1n v0_2 (s_Kl x0 (Decoder.mk v0_1)).1) (Label.Q16 v0_2) rfl (by omega)), hS 0 true (Label.Qp (v0_2 ++ [(s_Kl x0 (Decoder.mk v0_1)).1]) 2 rfl), hP 1 (Q25 i0 (by omega))] [aN (t_Kl x0 (Decoder.mk v0_1) (H.2.1 x0 (Q13 hx0)))] (by kernel_rfl) hr
theorem Qvc (p1 : Val) (p2 : BA) (o0 : Decoder) (H : Qc4 p1 p2 o0) : ∀ (r0 : List Val) (i0 : Nat) (v0_1 : Bool) (v0_2 : List Label), List.drop i0 (s_Kj p1 p2 4 o0).1.list = r0 → List.length v0_2 ≤ i0 → Qgo p1 p2 o0 (Qg4 p1 p2 o0 i0 v0_1 v0_2) (Q5j p1 p2 o0 r0 i0 v0_1 v0_2)
 | [], i0, v0_1, v0_2, hd, ho0_0 => by
  have hc0 : (decide ((i0 : Int) < ((List.length (s_Kj p1 p2 4 o0).1.list) : Int))) = false := by have := Q1v hd; simp; omega
  rw [Q5j]
  exact Q18z p1 p2 o0 H i0 v0_1 v0_2 ho0_0 hc0
 | x0 :: r0, i0, v0_1, v0_2, hd, ho0_0 => by
  obtain ⟨hx0, hi0, hd'⟩ := Q1s hd
  have hc0 : (decide ((i0 : Int) < ((List.length (s_Kj p1 p2 4 o0).1.list) : Int))) = true := by simp; omega
  rw [Q5j]
  exact Qt7 p1 p2 o0 (fun r hr => Q14x p1 p2 o0 H x0 i0 v0_1 v0_2 hx0 hi0 ho0_0 hc0 hr) _ (Qvc p1 p2 o0 H r0 (i0 + 1) (s_Kl x0 (Decoder.mk v0_1)).2.failed (v0_2 ++ [(s_Kl x0 (Decoder.mk v0_1)).1]) hd' (by first | omega | (simp; omega)))
def Q76 (p1 : Val) (p2 : BA) (o0 : Decoder) : List Label × Decoder := ((dE Label.dec p1 p2).1, ft o0 (isM p1 && (dE Label.dec p1 p2).2))
theorem Q13x (p1 : Val) (p2 : BA) (o0 : Decoder) : ∀ (l : List Val) (i : Nat) (b : Bool) (a : List Label), Q5j p1 p2 o0 l i b a = (b || !(l.all fun x => (Label.dec x).2), a ++ l.map (fun x => (Label.dec x).1))
  | [], _, b, a => by rw [Q5j]; simp
  | x :: l, i, b, a => by
    rw [Q5j]
    refine (Q13x p1 p2 o0 l (i + 1) (b || !(Label.dec x).2) (a ++ [(Label.dec x).1])).trans ?_
    simp only [List.append_assoc, List.singleton_append, List.map_cons, List.all_cons, Bool.not_and, Bool.or_assoc]
theorem Q1md (p1 : Val) (p2 : BA) (o0 : Decoder) : Q76 p1 p2 o0 = (((Q5j p1 p2 o0 (s_Kj p1 p2 4 o0).1.list 0 (s_Kj p1 p2 4 o0).2.failed []).2, (Decoder.mk (Q5j p1 p2 o0 (s_Kj p1 p2 4 o0).1.list 0 (s_Kj p1 p2 4 o0).2.failed []).1))) := by
  rw [Q13x]
  unfold s_Kj Q76
  simp only [getL, Q3t]
  refine Prod.ext rfl ?_
  rw [Q6f o0.failed (isM p1) _ _ _ (Qeq (prt p1 p2)), Q46]
  rfl
def Q1sj (p1 : Val) (p2 : BA) (o0 : Decoder) : En := .call 51 [.bx 0 0, .agg (Val.cells p1), .str p2, .fn 52 [.bx 0 0] []] [⟨1, 0, false, (Decoder.cells o0)⟩]
def Q1qw (_p1 : Val) (_p2 : BA) (_o0 : Decoder) (q0 : List Label) (q1 : Decoder) : Rs := .ret (.sl (Label.rows q0)) [⟨1, 0, false, (Decoder.cells q1)⟩]
def Q1jc (p1 : Val) (p2 : BA) (o0 : Decoder) : Rs := Q1qw p1 p2 o0 (Q76 p1 p2 o0).1 (Q76 p1 p2 o0).2
def Q1gi (p1 : Val) : Prop := Val.Sm 1000000000 p1
theorem Q111 (p1 : Val) (p2 : BA) (o0 : Decoder) (H : Q1gi p1) : (H_Kj p1) ∧ (Qc4 p1 p2 o0) ∧ True := by
  have hl := Q6h (Q2h H p2)
  refine ⟨H, ?_, trivial⟩
  unfold Qc4 s_Kj
  simp only [getL]
  exact ⟨Nat.le_trans hl.1 (Nat.le_of_ble_eq_true rfl), hl.2, trivial⟩
theorem Q1kd (p1 : Val) (p2 : BA) (o0 : Decoder) (H : Q1gi p1) : Qi G (Q1sj p1 p2 o0) (Q1jc p1 p2 o0) := by
 unfold Q1jc
 rw [Q1md]
 have hl0 := Qvc p1 p2 o0 ((Q111 p1 p2 o0 H).2.1) (s_Kj p1 p2 4 o0).1.list 0 (s_Kj p1 p2 4 o0).2.failed [] (by simp) (by simp)
 obtain ⟨z0, zo0, hl0⟩ := hl0
 exact Qm (fn := Ir.K15) rfl (h := [⟨1, 0, false, (Decoder.cells o0)⟩]) (vw := []) VOK.nil [hP 8 (Qz (Val.rows (s_Kj p1 p2 4 o0).1.list) (List.length (s_Kj p1 p2 4 o0).1.list) (Val.Q9 (s_Kj p1 p2 4 o0).1.list)), hS 0 true (Label.Qp (Q5j p1 p2 o0 (s_Kj p1 p2 4 o0).1.list 0 (s_Kj p1 p2 4 o0).2.failed []).2 2 rfl), hQ (Label.Q9 (Q5j p1 p2 o0 (s_Kj p1 p2 4 o0).1.list 0 (s_Kj p1 p2 4 o0).2.failed []).2).symm] [aN (t_Kj p1 p2 4 o0 (Q111 p1 p2 o0 H).1), aV [(1, Label.rows (Q5j p1 p2 o0 (s_Kj p1 p2 4 o0).1.list 0 (s_Kj p1 p2 4 o0).2.failed []).2)] hl0] (by kernel_rfl)
def s_Ke (p0 : Val) : Template × Int := Qxd p0
theorem e_Ke (p0 : Val) : s_Ke p0 = (bif (s_Ks (s_Kx p0 Q2p (Q76 p0 Q11 (s_Kw p0 (Decoder.mk false)).2).2).1 (s_Kx p0 Q2p (Q76 p0 Q11 (s_Kw p0 (Decoder.mk false)).2).2).2).2.failed then
    ((Template.mk [] (PodSpec.mk eB 0 0 0 [] [] [] [] [] [])), 6)
  else
    ((Template.mk (Q76 p0 Q11 (s_Kw p0 (Decoder.mk false)).2).1 (s_Ks (s_Kx p0 Q2p (Q76 p0 Q11 (s_Kw p0 (Decoder.mk false)).2).2).1 (s_Kx p0 Q2p (Q76 p0 Q11 (s_Kw p0 (Decoder.mk false)).2).2).2).1), 0)) := by
  unfold s_Ke Qxd Template.dec
  simp only [s_Kw, s_Kx, s_Ks, Q76, PodSpec.sub1, dT, PodSpec.sub2, Qal, Q3t, Bool.false_or, Bool.and_assoc, Bool.and_left_comm, Bool.and_comm, Bool.and_self_left]
  rfl
def c_Ke (p0 : Val) : En := .call 15 [.agg (Val.cells p0)] []
def a_Ke (p0 : Val) : Rs := .ret (.tup [.agg (Template.cells (s_Ke p0).1), .int .i64 (s_Ke p0).2]) []
def H_Ke (p0 : Val) : Prop := Val.Sm 1000000000 p0
theorem Qdz (p0 : Val) (H : H_Ke p0) : (Q1gi p0) ∧ (H_Kx p0) ∧ (H_Ks (s_Kx p0 Q2p (Q76 p0 Q11 (s_Kw p0 (Decoder.mk false)).2).2).1) ∧ True := by
  repeat' with_reducible apply And.intro
  all_goals first | exact True.intro | exact H | exact Qag (Q2h H _)
theorem t_Ke (p0 : Val) (H : H_Ke p0) : Qi G (c_Ke p0) (a_Ke p0) := by
 unfold a_Ke
 rw [e_Ke]
 cases h0 : (s_Ks (s_Kx p0 Q2p (Q76 p0 Q11 (s_Kw p0 (Decoder.mk false)).2).2).1 (s_Kx p0 Q2p (Q76 p0 Q11 (s_Kw p0 (Decoder.mk false)).2).2).2).2.failed with
 | true =>
  exact Qm (fn := Ir.Ke) rfl VOK.nil [hP 25 (decR (s_Ks (s_Kx p0 Q2p (Q76 p0 Q11 (s_Kw p0 (Decoder.mk false)).2).2).1 (s_Kx p0 Q2p (Q76 p0 Q11 (s_Kw p0 (Decoder.mk false)).2).2).2).2.failed true [256] h0)] [aN (t_Kw p0 (Decoder.mk false)), aN (Q1kd p0 Q11 (s_Kw p0 (Decoder.mk false)).2 (Qdz p0 H).1), aN (t_Kx p0 Q2p (Q76 p0 Q11 (s_Kw p0 (Decoder.mk false)).2).2 (Qdz p0 H).2.1), aN (t_Ks (s_Kx p0 Q2p (Q76 p0 Q11 (s_Kw p0 (Decoder.mk false)).2).2).1 (s_Kx p0 Q2p (Q76 p0 Q11 (s_Kw p0 (Decoder.mk false)).2).2).2 (Qdz p0 H).2.2.1)] (by kernel_rfl)
 | false =>
  exact Qm (fn := Ir.Ke) rfl VOK.nil [hP 25 (decR (s_Ks (s_Kx p0 Q2p (Q76 p0 Q11 (s_Kw p0 (Decoder.mk false)).2).2).1 (s_Kx p0 Q2p (Q76 p0 Q11 (s_Kw p0 (Decoder.mk false)).2).2).2).2.failed false [256] h0)] [aN (t_Kw p0 (Decoder.mk false)), aN (Q1kd p0 Q11 (s_Kw p0 (Decoder.mk false)).2 (Qdz p0 H).1), aN (t_Kx p0 Q2p (Q76 p0 Q11 (s_Kw p0 (Decoder.mk false)).2).2 (Qdz p0 H).2.1), aN (t_Ks (s_Kx p0 Q2p (Q76 p0 Q11 (s_Kw p0 (Decoder.mk false)).2).2).1 (s_Kx p0 Q2p (Q76 p0 Q11 (s_Kw p0 (Decoder.mk false)).2).2).2 (Qdz p0 H).2.2.1)] (by kernel_rfl)
end Go.Proofs.YtiflaadeikaghaaGreat
end

