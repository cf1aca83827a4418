/- Texts of the claim, merged by a program; what the statement does not reach is left out. -/
import Derived.Test.YtbagpdebihicnaaBWorkcodecLimits3

section
/- What the program's encoders compute (printed by a program). -/
namespace Go.Proofs.Ytbagpdebihicnaa
open Go.Pv
def Qvk (p0 : BA) (p1 : Meta) (p2 : Val) (p3 : Val) : Object :=
 (Object.mk (Meta.mk p0 p1.namespace_ p1.name p1.uid p1.version p1.generation p1.created p1.deleting p1.deleteAt p1.labels p1.owners p1.finalizers p1.managers) p2 p3)
def Q15y (p0 : BA) (p1 : Meta) (p2 : Val) (p3 : Val) : En := .call 43 [.str p0, .agg (Meta.cells p1), .agg (Val.cells p2), .agg (Val.cells p3)] []
def Q11u (p0 : BA) (p1 : Meta) (p2 : Val) (p3 : Val) : Rs := .ret (.agg (Object.cells (Qvk p0 p1 p2 p3))) []
def Qze (_p0 : BA) (p1 : Meta) (_p2 : Val) (_p3 : Val) : Prop := (Qgx p1) ∧ True
theorem Q133 (p0 : BA) (p1 : Meta) (p2 : Val) (p3 : Val) (H : Qze p0 p1 p2 p3) : Q7 G (Q15y p0 p1 p2 p3) (Q11u p0 p1 p2 p3) := by
 unfold Q11u Qvk
 exact Qa (fn := Ir.K28) rfl VOK.nil [] [aN (Q104 p1 H.1)] (by kernel_rfl)
theorem Qys {k : ByteArray} {m : Meta} {a b p q : List Fld} (ha : a.length ≤ 20) (hb : b.length ≤ 20) (h1 : mapOf a = p) (h2 : mapOf b = q) : Qvk k m (Q4a a) (Q4a b) = ⟨{ m with kind := k }, vM p, vM q⟩ := by
  rw [Q8t ha h1, Q8t hb h2]
  rfl
def Q65 (p0 : BA) : Val :=
 (Val.mk 3 0 p0 [] [])
def Q156 (p0 : BA) : En := .call 78 [.str p0] []
def Q112 (p0 : BA) : Rs := .ret (.agg (Val.cells (Q65 p0))) []
theorem Q12v (p0 : BA) : Q7 G (Q156 p0) (Q112 p0) := by
 unfold Q112 Q65
 exact Qa (fn := Ir.K17) rfl VOK.nil [] [] (by kernel_rfl)
def Q26 (p0 : BA) (p1 : Val) : Fld := .mk p0 p1
theorem Q170 (p0 : BA) (p1 : Val) : Q26 p0 p1 = ((Fld.mk p0 p1)) := by
  rfl
def Q160 (p0 : BA) (p1 : Val) : En := .call 36 [.str p0, .agg (Val.cells p1)] []
def Q11w (p0 : BA) (p1 : Val) : Rs := .ret (.agg (Fld.cells (Q26 p0 p1))) []
theorem Qdk (p0 : BA) (p1 : Val) : Q7 G (Q160 p0 p1) (Q11w p0 p1) := by
 unfold Q11w
 rw [Q170]
 exact Qa (fn := Ir.K2a) rfl VOK.nil [] [] (by kernel_rfl)
def Qdj (p0 : BA) (p1 : BA) : Fld := .mk p0 (vS p1)
theorem Q172 (p0 : BA) (p1 : BA) : Qdj p0 p1 = ((Q26 p0 (Q65 p1))) := by
  rfl
def Q164 (p0 : BA) (p1 : BA) : En := .call 41 [.str p0, .str p1] []
def Q120 (p0 : BA) (p1 : BA) : Rs := .ret (.agg (Fld.cells (Qdj p0 p1))) []
theorem Q13b (p0 : BA) (p1 : BA) : Q7 G (Q164 p0 p1) (Q120 p0 p1) := by
 unfold Q120
 rw [Q172]
 exact Qa (fn := Ir.K2f) rfl VOK.nil [] [aN (Q12v p1), aN (Qdk p0 (Q65 p1))] (by kernel_rfl)
def Qxy (p0 : Int) : Val :=
 (Val.mk 2 p0 eB [] [])
def Q154 (p0 : Int) : En := .call 79 [.int .i64 p0] []
def Q10z (p0 : Int) : Rs := .ret (.agg (Val.cells (Qxy p0))) []
theorem Q17x (p0 : Int) : Q7 G (Q154 p0) (Q10z p0) := by
 unfold Q10z Qxy
 exact Qa (fn := Ir.K14) rfl VOK.nil [] [] (by kernel_rfl)
def Q1i (p0 : BA) (p1 : Int) : Fld := .mk p0 (vN p1)
theorem Q16y (p0 : BA) (p1 : Int) : Q1i p0 p1 = ((Q26 p0 (Qxy p1))) := by
  rfl
def Q15x (p0 : BA) (p1 : Int) : En := .call 42 [.str p0, .int .i64 p1] []
def Q11t (p0 : BA) (p1 : Int) : Rs := .ret (.agg (Fld.cells (Q1i p0 p1))) []
theorem Q8r (p0 : BA) (p1 : Int) : Q7 G (Q15x p0 p1) (Q11t p0 p1) := by
 unfold Q11t
 rw [Q16y]
 exact Qa (fn := Ir.K27) rfl VOK.nil [] [aN (Q17x p1), aN (Qdk p0 (Qxy p1))] (by kernel_rfl)
def Q37 (p0 : List ByteArray) : List ByteArray → Nat → (List Val) → List Val
 | [], _i0, v0_1 =>
  v0_1
 | x0 :: r0, i0, v0_1 =>
  Q37 p0 r0 (i0 + 1) (v0_1 ++ [(Q65 x0)])
theorem Qqd (p0 : List ByteArray) : ∀ (l : List ByteArray) (i : Nat) (a : List Val), Q37 p0 l i a = a ++ l.map (fun x0 => (Q65 x0))
  | [], _, _ => by simp [Q37]
  | x :: r, i, a => by rw [Q37, Qqd p0 r]; simp
def Qj4 (p0 : List ByteArray) (i0 : Nat) (v0_1 : List Val) : List PV :=
  [.un, .fn 78 [] [], .un, .un, .bx 0 0, .ms 1 5 0 (List.length v0_1), .un, .un, .sl (Qg p0), .int .i64 ((List.length p0) : Int), .int .i64 (i0 : Int)] ++ nuns 12
def Qau (_p0 : List ByteArray) (_i0 : Nat) (v0_1 : List Val) : List Ob :=
  [⟨5, 0, true, [.int .i64 0, .int .i64 0, .str eB, .ms 2 5 0 0, .ms 3 6 0 0]⟩, ⟨5, 0, true, (Val.rows v0_1).flatten⟩, ⟨5, 0, true, []⟩, ⟨6, 0, true, []⟩]
def Q9n (p0 : List ByteArray) (i0 : Nat) (v0_1 : List Val) : En := .loop 0 Ir.Qbh Ir.Qyj (Qj4 p0 i0 v0_1) (Qau p0 i0 v0_1)
def Qej (_p0 : List ByteArray) (q0 : List Val) (z : Nat → PV) (_zo : Nat → List PV) : St :=
  ⟨[z 0, z 1, z 2, z 3, .bx 0 0, .ms 1 5 0 (List.length q0)] ++ zr z 6 17, [(0, ⟨5, 0, true, [.int .i64 0, .int .i64 0, .str eB, .ms 2 5 0 0, .ms 3 6 0 0]⟩), (1, ⟨5, 0, true, (Val.rows q0).flatten⟩), (2, ⟨5, 0, true, []⟩), (3, ⟨6, 0, true, []⟩)], 68⟩
theorem Qox (p0 : List ByteArray) (i0 : Nat) (v0_1 : List Val) : VOK (Go.Pv.look (number 0 (Qau p0 i0 v0_1))) [(1, Val.rows v0_1)] := (VOK.cons (show Seen _ _ from Q3n (ob := ⟨5, 0, true, (Val.rows v0_1).flatten⟩) (Val.Qb v0_1 5 rfl)) VOK.nil)
def Qa5 (p0 : List ByteArray) (e : En) (q : List Val) : Prop := ∃ z zo, Q7 G e (.st (.exit 0) (Qej p0 q z zo))
theorem Qho (p0 : List ByteArray) {e e' : En} (h : ∀ r, Q7 G e r → Q7 G e' r) : ∀ q, Qa5 p0 e q → Qa5 p0 e' q
  | _, ⟨z, zo, hz⟩ => ⟨z, zo, h _ hz⟩
def Q9v (p0 : List ByteArray) : Prop := (List.length p0 ≤ 137438953472) ∧ True
def Qfm (p0 : List ByteArray) (i0 : Nat) (_v0_1 : List Val) : List PV :=
  [.un, .fn 78 [] []] ++ nuns 6 ++ [.sl (Qg p0), .int .i64 ((List.length p0) : Int), .int .i64 (i0 : Int), .bool false]
def Qc8 (_p0 : List ByteArray) (_i0 : Nat) (_v0_1 : List Val) : List (Nat × List PV) :=
  []
theorem Qso (p0 : List ByteArray) (_H : Q9v p0) (i0 : Nat) (v0_1 : List Val) (_ho0_0 : List.length v0_1 ≤ i0) (hc0 : (decide ((i0 : Int) < ((List.length p0) : Int))) = false) : Qa5 p0 (Q9n p0 i0 v0_1) v0_1 := by
 exact ⟨(envF (Qfm p0 i0 v0_1)), (zoF (Qc8 p0 i0 v0_1)), Qm (Qox p0 i0 v0_1) (x := ((.exit 0), Qej p0 v0_1 (envF (Qfm p0 i0 v0_1)) (zoF (Qc8 p0 i0 v0_1)))) [hB 0 hc0] [] (by kernel_rfl)⟩
theorem Qru (p0 : List ByteArray) (H : Q9v p0) (x0 : BA) (i0 : Nat) (v0_1 : List Val) (hx0 : p0[i0]? = some x0) (hi0 : i0 < List.length p0) (ho0_0 : List.length v0_1 ≤ i0) (hc0 : (decide ((i0 : Int) < ((List.length p0) : Int))) = true) {r : Rs} (hr : Q7 G (Q9n p0 (i0 + 1) (v0_1 ++ [(Q65 x0)])) r) : Q7 G (Q9n p0 i0 v0_1) r := by
 have hB0 := H.1
 exact Qn (Qox p0 i0 v0_1) (y := (Qj4 p0 (i0 + 1) (v0_1 ++ [(Q65 x0)]), Qau p0 (i0 + 1) (v0_1 ++ [(Q65 x0)]))) [hB 0 hc0, hP 0 (Q1x 1 (Qg p0) i0 _ (Q6i hx0) rfl), hV 7 [(580, Val.rows (v0_1 ++ [(Q65 x0)]))] (Q6y 1 516 580 5 80 0 0 true (Val.rows v0_1) (Val.rows (v0_1 ++ [(Q65 x0)])) (Val.cells (Q65 x0)) (List.length v0_1) (List.length (v0_1 ++ [(Q65 x0)])) rfl (Val.Q8 v0_1).symm (Val.Q8 (v0_1 ++ [(Q65 x0)])).symm (Val.Q1g v0_1 (Q65 x0)) (Val.Qh v0_1) rfl (by omega)), hS 0 true (Val.Qb (v0_1 ++ [(Q65 x0)]) 5 rfl), hP 1 (Q1o i0 (by omega))] [aN (Q12v x0)] (by kernel_rfl) hr
theorem Qm0 (p0 : List ByteArray) (H : Q9v p0) : ∀ (r0 : List ByteArray) (i0 : Nat) (v0_1 : List Val), List.drop i0 p0 = r0 → List.length v0_1 ≤ i0 → Qa5 p0 (Q9n p0 i0 v0_1) (Q37 p0 r0 i0 v0_1)
 | [], i0, v0_1, hd, ho0_0 => by
  have hc0 : (decide ((i0 : Int) < ((List.length p0) : Int))) = false := by have := Q1d hd; simp; omega
  rw [Q37]
  exact Qso p0 H i0 v0_1 ho0_0 hc0
 | x0 :: r0, i0, v0_1, hd, ho0_0 => by
  obtain ⟨hx0, hi0, hd'⟩ := Q19 hd
  have hc0 : (decide ((i0 : Int) < ((List.length p0) : Int))) = true := by simp; omega
  rw [Q37]
  exact Qho p0 (fun r hr => Qru p0 H x0 i0 v0_1 hx0 hi0 ho0_0 hc0 hr) _ (Qm0 p0 H r0 (i0 + 1) (v0_1 ++ [(Q65 x0)]) hd' (by first | omega | (simp; omega)))
def Q4c (p0 : List ByteArray) : Val := vL (p0.map vS)
theorem Qtg (p0 : List ByteArray) : Q4c p0 = ((Val.mk 4 0 eB (Q37 p0 p0 0 []) [])) := by
  rw [Qqd]
  rfl
def Qt6 (p0 : List ByteArray) : En := .call 93 [.sl (Qg p0), .fn 78 [] []] []
def Qkw (p0 : List ByteArray) : Rs := .ret (.agg (Val.cells (Q4c p0))) []
def Qay (p0 : List ByteArray) : Prop := LSm (fun _ : ByteArray => True) p0
theorem Qlf (p0 : List ByteArray) (H : Qay p0) : (Q9v p0) ∧ True := by
  exact ⟨⟨Nat.le_trans H.1 (Nat.le_of_ble_eq_true rfl), trivial⟩, trivial⟩
theorem Qvr (p0 : List ByteArray) (H : Qay p0) : Q7 G (Qt6 p0) (Qkw p0) := by
 unfold Qkw
 rw [Qtg]
 have hl0 := Qm0 p0 ((Qlf p0 H).1) p0 0 [] (by simp) (by simp)
 obtain ⟨z0, zo0, hl0⟩ := hl0
 exact Qa (fn := Ir.K26) rfl VOK.nil [hP 3 (Qs (Qg p0) (List.length p0) (Q1h p0)), hS 0 true (Val.Qb (Q37 p0 p0 0 []) 5 rfl), hQ (Val.Q8 (Q37 p0 p0 0 [])).symm] [aV [(1, Val.rows (Q37 p0 p0 0 []))] hl0] (by kernel_rfl)
def Q7a (p0 : Requirement) : Val := Requirement.enc p0
theorem Q16x (p0 : Requirement) : Q7a p0 = ((Q4a ([(Qdj Q10 p0.key), (Q1i Q32 p0.op), (Q26 Qy (Q4c p0.values))]))) := by
  exact Eq.symm (Q8t (by exact Nat.le_of_ble_eq_true rfl) (by kernel_rfl))
def Q15w (p0 : Requirement) : En := .call 92 [.agg (Requirement.cells p0)] []
def Q11s (p0 : Requirement) : Rs := .ret (.agg (Val.cells (Q7a p0))) []
def Qzd (p0 : Requirement) : Prop := Requirement.sm p0
theorem Qpg (p0 : Requirement) (H : Qzd p0) : (Qay p0.values) ∧ (Qdc ([(Qdj Q10 p0.key), (Q1i Q32 p0.op), (Q26 Qy (Q4c p0.values))])) ∧ True := by
  exact ⟨(by first | exact True.intro | exact H | exact H.1), Qj7 (by exact Nat.le_of_ble_eq_true rfl) (List.forall_mem_cons.2 ⟨Val.Sm.leaf _ _ _, List.forall_mem_cons.2 ⟨Val.Sm.leaf _ _ _, List.forall_mem_cons.2 ⟨Q4y (fun _ h => Val.Sm.leaf _ _ _) H.1, List.forall_mem_nil _⟩⟩⟩), trivial⟩
theorem Q18d (p0 : Requirement) (H : Qzd p0) : Q7 G (Q15w p0) (Q11s p0) := by
 unfold Q11s
 rw [Q16x]
 exact Qa (fn := Ir.K22) rfl VOK.nil [] [aN (Q13b Q10 p0.key), aN (Q8r Q32 p0.op), aN (Qvr p0.values (Qpg p0 H).1), aN (Qdk Qy (Q4c p0.values)), aN (Q6n (e' := .call 34 [.sl [(Fld.cells (Qdj Q10 p0.key)), (Fld.cells (Q1i Q32 p0.op)), (Fld.cells (Q26 Qy (Q4c p0.values)))]] []) (Qmj ([(Qdj Q10 p0.key), (Q1i Q32 p0.op), (Q26 Qy (Q4c p0.values))]) (Qpg p0 H).2.1) (by simp only [Qhz, Fld.Q14, Fld.Q1f]))] (by kernel_rfl)
def Q36 (p0 : List Requirement) : List Requirement → Nat → (List Val) → List Val
 | [], _i0, v0_1 =>
  v0_1
 | x0 :: r0, i0, v0_1 =>
  Q36 p0 r0 (i0 + 1) (v0_1 ++ [(Q7a x0)])
theorem Qqc (p0 : List Requirement) : ∀ (l : List Requirement) (i : Nat) (a : List Val), Q36 p0 l i a = a ++ l.map (fun x0 => (Q7a x0))
  | [], _, _ => by simp [Q36]
  | x :: r, i, a => by rw [Q36, Qqc p0 r]; simp
def Qj3 (p0 : List Requirement) (i0 : Nat) (v0_1 : List Val) : List PV :=
  [.un, .fn 92 [] [], .un, .un, .bx 0 0, .ms 1 5 0 (List.length v0_1), .un, .un, .sl (Requirement.rows p0), .int .i64 ((List.length p0) : Int), .int .i64 (i0 : Int)] ++ nuns 12
def Qat (_p0 : List Requirement) (_i0 : Nat) (v0_1 : List Val) : List Ob :=
  [⟨5, 0, true, [.int .i64 0, .int .i64 0, .str eB, .ms 2 5 0 0, .ms 3 6 0 0]⟩, ⟨5, 0, true, (Val.rows v0_1).flatten⟩, ⟨5, 0, true, []⟩, ⟨6, 0, true, []⟩]
def Q9m (p0 : List Requirement) (i0 : Nat) (v0_1 : List Val) : En := .loop 0 Ir.Qbg Ir.Qyi (Qj3 p0 i0 v0_1) (Qat p0 i0 v0_1)
def Qei (_p0 : List Requirement) (q0 : List Val) (z : Nat → PV) (_zo : Nat → List PV) : St :=
  ⟨[z 0, z 1, z 2, z 3, .bx 0 0, .ms 1 5 0 (List.length q0)] ++ zr z 6 17, [(0, ⟨5, 0, true, [.int .i64 0, .int .i64 0, .str eB, .ms 2 5 0 0, .ms 3 6 0 0]⟩), (1, ⟨5, 0, true, (Val.rows q0).flatten⟩), (2, ⟨5, 0, true, []⟩), (3, ⟨6, 0, true, []⟩)], 68⟩
theorem Qow (p0 : List Requirement) (i0 : Nat) (v0_1 : List Val) : VOK (Go.Pv.look (number 0 (Qat p0 i0 v0_1))) [(1, Val.rows v0_1)] := (VOK.cons (show Seen _ _ from Q3n (ob := ⟨5, 0, true, (Val.rows v0_1).flatten⟩) (Val.Qb v0_1 5 rfl)) VOK.nil)
def Qa4 (p0 : List Requirement) (e : En) (q : List Val) : Prop := ∃ z zo, Q7 G e (.st (.exit 0) (Qei p0 q z zo))
theorem Qhn (p0 : List Requirement) {e e' : En} (h : ∀ r, Q7 G e r → Q7 G e' r) : ∀ q, Qa4 p0 e q → Qa4 p0 e' q
  | _, ⟨z, zo, hz⟩ => ⟨z, zo, h _ hz⟩
def Q9u (p0 : List Requirement) : Prop := (List.length p0 ≤ 137438953472) ∧ (∀ x0 ∈ p0, Qzd x0) ∧ True
def Qfl (p0 : List Requirement) (i0 : Nat) (_v0_1 : List Val) : List PV :=
  [.un, .fn 92 [] []] ++ nuns 6 ++ [.sl (Requirement.rows p0), .int .i64 ((List.length p0) : Int), .int .i64 (i0 : Int), .bool false]
def Qc7 (_p0 : List Requirement) (_i0 : Nat) (_v0_1 : List Val) : List (Nat × List PV) :=
  []
theorem Qsn (p0 : List Requirement) (_H : Q9u p0) (i0 : Nat) (v0_1 : List Val) (_ho0_0 : List.length v0_1 ≤ i0) (hc0 : (decide ((i0 : Int) < ((List.length p0) : Int))) = false) : Qa4 p0 (Q9m p0 i0 v0_1) v0_1 := by
 exact ⟨(envF (Qfl p0 i0 v0_1)), (zoF (Qc7 p0 i0 v0_1)), Qm (Qow p0 i0 v0_1) (x := ((.exit 0), Qei p0 v0_1 (envF (Qfl p0 i0 v0_1)) (zoF (Qc7 p0 i0 v0_1)))) [hB 0 hc0] [] (by kernel_rfl)⟩
theorem Qrt (p0 : List Requirement) (H : Q9u p0) (x0 : Requirement) (i0 : Nat) (v0_1 : List Val) (hx0 : p0[i0]? = some x0) (hi0 : i0 < List.length p0) (ho0_0 : List.length v0_1 ≤ i0) (hc0 : (decide ((i0 : Int) < ((List.length p0) : Int))) = true) {r : Rs} (hr : Q7 G (Q9m p0 (i0 + 1) (v0_1 ++ [(Q7a x0)])) r) : Q7 G (Q9m p0 i0 v0_1) r := by
 have hB0 := H.1
 exact Qn (Qow p0 i0 v0_1) (y := (Qj3 p0 (i0 + 1) (v0_1 ++ [(Q7a x0)]), Qat p0 (i0 + 1) (v0_1 ++ [(Q7a x0)]))) [hB 0 hc0, hP 0 (Q1x 3 (Requirement.rows p0) i0 _ (Requirement.Qf hx0) rfl), hV 8 [(644, Val.rows (v0_1 ++ [(Q7a x0)]))] (Q6y 1 580 644 5 80 0 0 true (Val.rows v0_1) (Val.rows (v0_1 ++ [(Q7a x0)])) (Val.cells (Q7a x0)) (List.length v0_1) (List.length (v0_1 ++ [(Q7a x0)])) rfl (Val.Q8 v0_1).symm (Val.Q8 (v0_1 ++ [(Q7a x0)])).symm (Val.Q1g v0_1 (Q7a x0)) (Val.Qh v0_1) rfl (by omega)), hS 0 true (Val.Qb (v0_1 ++ [(Q7a x0)]) 5 rfl), hP 1 (Q1o i0 (by omega))] [aN (Q18d x0 (H.2.1 x0 (Q29 hx0)))] (by kernel_rfl) hr
theorem Qlz (p0 : List Requirement) (H : Q9u p0) : ∀ (r0 : List Requirement) (i0 : Nat) (v0_1 : List Val), List.drop i0 p0 = r0 → List.length v0_1 ≤ i0 → Qa4 p0 (Q9m p0 i0 v0_1) (Q36 p0 r0 i0 v0_1)
 | [], i0, v0_1, hd, ho0_0 => by
  have hc0 : (decide ((i0 : Int) < ((List.length p0) : Int))) = false := by have := Q1d hd; simp; omega
  rw [Q36]
  exact Qsn p0 H i0 v0_1 ho0_0 hc0
 | x0 :: r0, i0, v0_1, hd, ho0_0 => by
  obtain ⟨hx0, hi0, hd'⟩ := Q19 hd
  have hc0 : (decide ((i0 : Int) < ((List.length p0) : Int))) = true := by simp; omega
  rw [Q36]
  exact Qhn p0 (fun r hr => Qrt p0 H x0 i0 v0_1 hx0 hi0 ho0_0 hc0 hr) _ (Qlz p0 H r0 (i0 + 1) (v0_1 ++ [(Q7a x0)]) hd' (by first | omega | (simp; omega)))
def Qd4 (p0 : List Requirement) : Val := vL (p0.map Requirement.enc)
theorem Qtf (p0 : List Requirement) : Qd4 p0 = ((Val.mk 4 0 eB (Q36 p0 p0 0 []) [])) := by
  rw [Qqc]
  rfl
def Qt5 (p0 : List Requirement) : En := .call 91 [.sl (Requirement.rows p0), .fn 92 [] []] []
def Qkv (p0 : List Requirement) : Rs := .ret (.agg (Val.cells (Qd4 p0))) []
def Qax (p0 : List Requirement) : Prop := LSm Requirement.sm p0
theorem Qle (p0 : List Requirement) (H : Qax p0) : (Q9u p0) ∧ True := by
  exact ⟨⟨Nat.le_trans H.1 (Nat.le_of_ble_eq_true rfl), H.2, trivial⟩, trivial⟩
theorem Qvq (p0 : List Requirement) (H : Qax p0) : Q7 G (Qt5 p0) (Qkv p0) := by
 unfold Qkv
 rw [Qtf]
 have hl0 := Qlz p0 ((Qle p0 H).1) p0 0 [] (by simp) (by simp)
 obtain ⟨z0, zo0, hl0⟩ := hl0
 exact Qa (fn := Ir.K25) rfl VOK.nil [hP 3 (Qs (Requirement.rows p0) (List.length p0) (Requirement.Q8 p0)), hS 0 true (Val.Qb (Q36 p0 p0 0 []) 5 rfl), hQ (Val.Q8 (Q36 p0 p0 0 [])).symm] [aV [(1, Val.rows (Q36 p0 p0 0 []))] hl0] (by kernel_rfl)
def Qxz (p0 : List Requirement) : Val := vL (p0.map Requirement.enc)
theorem Q16w (p0 : List Requirement) : Qxz p0 = ((Qd4 p0)) := by
  rfl
def Q15v (p0 : List Requirement) : En := .call 76 [.sl (Requirement.rows p0)] []
def Q11r (p0 : List Requirement) : Rs := .ret (.agg (Val.cells (Qxz p0))) []
def Qzc (p0 : List Requirement) : Prop := LSm Requirement.sm p0
theorem Qxe (p0 : List Requirement) (H : Qzc p0) : (Qax p0) ∧ True := by
  repeat' with_reducible apply And.intro
  all_goals first | exact True.intro | exact H
theorem Q18c (p0 : List Requirement) (H : Qzc p0) : Q7 G (Q15v p0) (Q11r p0) := by
 unfold Q11r
 rw [Q16w]
 exact Qa (fn := Ir.K21) rfl VOK.nil [] [aN (Qvq p0 (Qxe p0 H).1)] (by kernel_rfl)
def Qme (p0 : List Requirement) : Fld := .mk Q17 (vL (p0.map Requirement.enc))
theorem Q171 (p0 : List Requirement) : Qme p0 = ((Q26 Q17 (Qxz p0))) := by
  rfl
def Q163 (p0 : List Requirement) : En := .call 35 [.sl (Requirement.rows p0)] []
def Q11z (p0 : List Requirement) : Rs := .ret (.agg (Fld.cells (Qme p0))) []
def Qzf (p0 : List Requirement) : Prop := LSm Requirement.sm p0
theorem Qxf (p0 : List Requirement) (H : Qzf p0) : (Qzc p0) ∧ True := by
  repeat' with_reducible apply And.intro
  all_goals first | exact True.intro | exact H
theorem Q18g (p0 : List Requirement) (H : Qzf p0) : Q7 G (Q163 p0) (Q11z p0) := by
 unfold Q11z
 rw [Q171]
 exact Qa (fn := Ir.K2e) rfl VOK.nil [] [aN (Q18c p0 (Qxf p0 H).1), aN (Qdk Q17 (Qxz p0))] (by kernel_rfl)
def Qxx (p0 : Bool) : Val := vB p0
theorem Q166 (p0 : Bool) : Qxx p0 = (bif p0 then
    (Val.mk 1 1 eB [] [])
  else
    (Val.mk 1 0 eB [] [])) := by
  cases p0 <;> rfl
def Q152 (p0 : Bool) : En := .call 94 [.bool p0] []
def Q10x (p0 : Bool) : Rs := .ret (.agg (Val.cells (Qxx p0))) []
theorem Q17v (p0 : Bool) : Q7 G (Q152 p0) (Q10x p0) := by
 unfold Q10x
 rw [Q166]
 cases h0 : p0 with
 | true =>
  exact Qa (fn := Ir.K12) rfl VOK.nil [] [] (by kernel_rfl)
 | false =>
  exact Qa (fn := Ir.K12) rfl VOK.nil [] [] (by kernel_rfl)
def Qs3 (p0 : BA) (p1 : Bool) : Fld := .mk p0 (vB p1)
theorem Q173 (p0 : BA) (p1 : Bool) : Qs3 p0 p1 = ((Q26 p0 (Qxx p1))) := by
  rfl
def Q165 (p0 : BA) (p1 : Bool) : En := .call 77 [.str p0, .bool p1] []
def Q121 (p0 : BA) (p1 : Bool) : Rs := .ret (.agg (Fld.cells (Qs3 p0 p1))) []
theorem Q18h (p0 : BA) (p1 : Bool) : Q7 G (Q165 p0 p1) (Q121 p0 p1) := by
 unfold Q121
 rw [Q173]
 exact Qa (fn := Ir.K2g) rfl VOK.nil [] [aN (Q17v p1), aN (Qdk p0 (Qxx p1))] (by kernel_rfl)
def Q79 (p0 : Amount) : Val := Amount.enc p0
theorem Q16u (p0 : Amount) : Q79 p0 = ((Q4a ([(Qs3 Q1b p0.percent), (Q1i kw_n p0.n)]))) := by
  exact Eq.symm (Q8t (by exact Nat.le_of_ble_eq_true rfl) (by kernel_rfl))
def Q15t (p0 : Amount) : En := .call 38 [.agg (Amount.cells p0)] []
def Q11p (p0 : Amount) : Rs := .ret (.agg (Val.cells (Q79 p0))) []
def Qzb (p0 : Amount) : Prop := Amount.sm p0
theorem Qxc (p0 : Amount) (_H : Qzb p0) : (Qdc ([(Qs3 Q1b p0.percent), (Q1i kw_n p0.n)])) ∧ True := by
  exact ⟨Qj7 (by exact Nat.le_of_ble_eq_true rfl) (List.forall_mem_cons.2 ⟨Val.Sm.leaf _ _ _, List.forall_mem_cons.2 ⟨Val.Sm.leaf _ _ _, List.forall_mem_nil _⟩⟩), trivial⟩
theorem Q18b (p0 : Amount) (H : Qzb p0) : Q7 G (Q15t p0) (Q11p p0) := by
 unfold Q11p
 rw [Q16u]
 exact Qa (fn := Ir.K1z) rfl VOK.nil [] [aN (Q18h Q1b p0.percent), aN (Q8r kw_n p0.n), aN (Q6n (e' := .call 34 [.sl [(Fld.cells (Qs3 Q1b p0.percent)), (Fld.cells (Q1i kw_n p0.n))]] []) (Qmj ([(Qs3 Q1b p0.percent), (Q1i kw_n p0.n)]) (Qxc p0 H).1) (by simp only [Qhz, Fld.Q14, Fld.Q1f]))] (by kernel_rfl)
def Q34 (p0 : List Amount) : List Amount → Nat → (List Val) → List Val
 | [], _i0, v0_1 =>
  v0_1
 | x0 :: r0, i0, v0_1 =>
  Q34 p0 r0 (i0 + 1) (v0_1 ++ [(Q79 x0)])
theorem Qqa (p0 : List Amount) : ∀ (l : List Amount) (i : Nat) (a : List Val), Q34 p0 l i a = a ++ l.map (fun x0 => (Q79 x0))
  | [], _, _ => by simp [Q34]
  | x :: r, i, a => by rw [Q34, Qqa p0 r]; simp
def Qj1 (p0 : List Amount) (i0 : Nat) (v0_1 : List Val) : List PV :=
  [.un, .fn 38 [] [], .un, .un, .bx 0 0, .ms 1 5 0 (List.length v0_1), .un, .un, .sl (Amount.rows p0), .int .i64 ((List.length p0) : Int), .int .i64 (i0 : Int)] ++ nuns 12
def Qar (_p0 : List Amount) (_i0 : Nat) (v0_1 : List Val) : List Ob :=
  [⟨5, 0, true, [.int .i64 0, .int .i64 0, .str eB, .ms 2 5 0 0, .ms 3 6 0 0]⟩, ⟨5, 0, true, (Val.rows v0_1).flatten⟩, ⟨5, 0, true, []⟩, ⟨6, 0, true, []⟩]
def Q9k (p0 : List Amount) (i0 : Nat) (v0_1 : List Val) : En := .loop 0 Ir.Qbe Ir.Qyg (Qj1 p0 i0 v0_1) (Qar p0 i0 v0_1)
def Qeg (_p0 : List Amount) (q0 : List Val) (z : Nat → PV) (_zo : Nat → List PV) : St :=
  ⟨[z 0, z 1, z 2, z 3, .bx 0 0, .ms 1 5 0 (List.length q0)] ++ zr z 6 17, [(0, ⟨5, 0, true, [.int .i64 0, .int .i64 0, .str eB, .ms 2 5 0 0, .ms 3 6 0 0]⟩), (1, ⟨5, 0, true, (Val.rows q0).flatten⟩), (2, ⟨5, 0, true, []⟩), (3, ⟨6, 0, true, []⟩)], 68⟩
theorem Qou (p0 : List Amount) (i0 : Nat) (v0_1 : List Val) : VOK (Go.Pv.look (number 0 (Qar p0 i0 v0_1))) [(1, Val.rows v0_1)] := (VOK.cons (show Seen _ _ from Q3n (ob := ⟨5, 0, true, (Val.rows v0_1).flatten⟩) (Val.Qb v0_1 5 rfl)) VOK.nil)
def Qa2 (p0 : List Amount) (e : En) (q : List Val) : Prop := ∃ z zo, Q7 G e (.st (.exit 0) (Qeg p0 q z zo))
theorem Qhl (p0 : List Amount) {e e' : En} (h : ∀ r, Q7 G e r → Q7 G e' r) : ∀ q, Qa2 p0 e q → Qa2 p0 e' q
  | _, ⟨z, zo, hz⟩ => ⟨z, zo, h _ hz⟩
def Q9s (p0 : List Amount) : Prop := (List.length p0 ≤ 137438953472) ∧ (∀ x0 ∈ p0, Qzb x0) ∧ True
def Qfj (p0 : List Amount) (i0 : Nat) (_v0_1 : List Val) : List PV :=
  [.un, .fn 38 [] []] ++ nuns 6 ++ [.sl (Amount.rows p0), .int .i64 ((List.length p0) : Int), .int .i64 (i0 : Int), .bool false]
def Qc5 (_p0 : List Amount) (_i0 : Nat) (_v0_1 : List Val) : List (Nat × List PV) :=
  []
theorem Qsl (p0 : List Amount) (_H : Q9s p0) (i0 : Nat) (v0_1 : List Val) (_ho0_0 : List.length v0_1 ≤ i0) (hc0 : (decide ((i0 : Int) < ((List.length p0) : Int))) = false) : Qa2 p0 (Q9k p0 i0 v0_1) v0_1 := by
 exact ⟨(envF (Qfj p0 i0 v0_1)), (zoF (Qc5 p0 i0 v0_1)), Qm (Qou p0 i0 v0_1) (x := ((.exit 0), Qeg p0 v0_1 (envF (Qfj p0 i0 v0_1)) (zoF (Qc5 p0 i0 v0_1)))) [hB 0 hc0] [] (by kernel_rfl)⟩
theorem Qrr (p0 : List Amount) (H : Q9s p0) (x0 : Amount) (i0 : Nat) (v0_1 : List Val) (hx0 : p0[i0]? = some x0) (hi0 : i0 < List.length p0) (ho0_0 : List.length v0_1 ≤ i0) (hc0 : (decide ((i0 : Int) < ((List.length p0) : Int))) = true) {r : Rs} (hr : Q7 G (Q9k p0 (i0 + 1) (v0_1 ++ [(Q79 x0)])) r) : Q7 G (Q9k p0 i0 v0_1) r := by
 have hB0 := H.1
 exact Qn (Qou p0 i0 v0_1) (y := (Qj1 p0 (i0 + 1) (v0_1 ++ [(Q79 x0)]), Qar p0 (i0 + 1) (v0_1 ++ [(Q79 x0)]))) [hB 0 hc0, hP 0 (Q1x 2 (Amount.rows p0) i0 _ (Amount.Qf hx0) rfl), hV 8 [(644, Val.rows (v0_1 ++ [(Q79 x0)]))] (Q6y 1 580 644 5 80 0 0 true (Val.rows v0_1) (Val.rows (v0_1 ++ [(Q79 x0)])) (Val.cells (Q79 x0)) (List.length v0_1) (List.length (v0_1 ++ [(Q79 x0)])) rfl (Val.Q8 v0_1).symm (Val.Q8 (v0_1 ++ [(Q79 x0)])).symm (Val.Q1g v0_1 (Q79 x0)) (Val.Qh v0_1) rfl (by omega)), hS 0 true (Val.Qb (v0_1 ++ [(Q79 x0)]) 5 rfl), hP 1 (Q1o i0 (by omega))] [aN (Q18b x0 (H.2.1 x0 (Q29 hx0)))] (by kernel_rfl) hr
theorem Qlx (p0 : List Amount) (H : Q9s p0) : ∀ (r0 : List Amount) (i0 : Nat) (v0_1 : List Val), List.drop i0 p0 = r0 → List.length v0_1 ≤ i0 → Qa2 p0 (Q9k p0 i0 v0_1) (Q34 p0 r0 i0 v0_1)
 | [], i0, v0_1, hd, ho0_0 => by
  have hc0 : (decide ((i0 : Int) < ((List.length p0) : Int))) = false := by have := Q1d hd; simp; omega
  rw [Q34]
  exact Qsl p0 H i0 v0_1 ho0_0 hc0
 | x0 :: r0, i0, v0_1, hd, ho0_0 => by
  obtain ⟨hx0, hi0, hd'⟩ := Q19 hd
  have hc0 : (decide ((i0 : Int) < ((List.length p0) : Int))) = true := by simp; omega
  rw [Q34]
  exact Qhl p0 (fun r hr => Qrr p0 H x0 i0 v0_1 hx0 hi0 ho0_0 hc0 hr) _ (Qlx p0 H r0 (i0 + 1) (v0_1 ++ [(Q79 x0)]) hd' (by first | omega | (simp; omega)))
def Q1q (p0 : List Amount) : Val := vL (p0.map Amount.enc)
theorem Qtd (p0 : List Amount) : Q1q p0 = ((Val.mk 4 0 eB (Q34 p0 p0 0 []) [])) := by
  rw [Qqa]
  rfl
def Qt3 (p0 : List Amount) : En := .call 37 [.sl (Amount.rows p0), .fn 38 [] []] []
def Qkt (p0 : List Amount) : Rs := .ret (.agg (Val.cells (Q1q p0))) []
def Q7j (p0 : List Amount) : Prop := LSm Amount.sm p0
theorem Qlc (p0 : List Amount) (H : Q7j p0) : (Q9s p0) ∧ True := by
  exact ⟨⟨Nat.le_trans H.1 (Nat.le_of_ble_eq_true rfl), H.2, trivial⟩, trivial⟩
theorem Qmk (p0 : List Amount) (H : Q7j p0) : Q7 G (Qt3 p0) (Qkt p0) := by
 unfold Qkt
 rw [Qtd]
 have hl0 := Qlx p0 ((Qlc p0 H).1) p0 0 [] (by simp) (by simp)
 obtain ⟨z0, zo0, hl0⟩ := hl0
 exact Qa (fn := Ir.K23) rfl VOK.nil [hP 3 (Qs (Amount.rows p0) (List.length p0) (Amount.Q8 p0)), hS 0 true (Val.Qb (Q34 p0 p0 0 []) 5 rfl), hQ (Val.Q8 (Q34 p0 p0 0 [])).symm] [aV [(1, Val.rows (Q34 p0 p0 0 []))] hl0] (by kernel_rfl)
def Q78 (p0 : WorkItem) : Val := WorkItem.enc p0
theorem Q169 (p0 : WorkItem) : Q78 p0 = ((Q4a ([(Qdj Q10 p0.key), (Q1i Q31 p0.at_)]))) := by
  exact Eq.symm (Q8t (by exact Nat.le_of_ble_eq_true rfl) (by kernel_rfl))
def Q158 (p0 : WorkItem) : En := .call 40 [.agg (WorkItem.cells p0)] []
def Q114 (p0 : WorkItem) : Rs := .ret (.agg (Val.cells (Q78 p0))) []
def Qz0 (p0 : WorkItem) : Prop := WorkItem.sm p0
theorem Qx5 (p0 : WorkItem) (_H : Qz0 p0) : (Qdc ([(Qdj Q10 p0.key), (Q1i Q31 p0.at_)])) ∧ True := by
  exact ⟨Qj7 (by exact Nat.le_of_ble_eq_true rfl) (List.forall_mem_cons.2 ⟨Val.Sm.leaf _ _ _, List.forall_mem_cons.2 ⟨Val.Sm.leaf _ _ _, List.forall_mem_nil _⟩⟩), trivial⟩
theorem Q17y (p0 : WorkItem) (H : Qz0 p0) : Q7 G (Q158 p0) (Q114 p0) := by
 unfold Q114
 rw [Q169]
 exact Qa (fn := Ir.K1a) rfl VOK.nil [] [aN (Q13b Q10 p0.key), aN (Q8r Q31 p0.at_), aN (Q6n (e' := .call 34 [.sl [(Fld.cells (Qdj Q10 p0.key)), (Fld.cells (Q1i Q31 p0.at_))]] []) (Qmj ([(Qdj Q10 p0.key), (Q1i Q31 p0.at_)]) (Qx5 p0 H).1) (by simp only [Qhz, Fld.Q14, Fld.Q1f]))] (by kernel_rfl)
def Q35 (p0 : List WorkItem) : List WorkItem → Nat → (List Val) → List Val
 | [], _i0, v0_1 =>
  v0_1
 | x0 :: r0, i0, v0_1 =>
  Q35 p0 r0 (i0 + 1) (v0_1 ++ [(Q78 x0)])
theorem Qqb (p0 : List WorkItem) : ∀ (l : List WorkItem) (i : Nat) (a : List Val), Q35 p0 l i a = a ++ l.map (fun x0 => (Q78 x0))
  | [], _, _ => by simp [Q35]
  | x :: r, i, a => by rw [Q35, Qqb p0 r]; simp
def Qj2 (p0 : List WorkItem) (i0 : Nat) (v0_1 : List Val) : List PV :=
  [.un, .fn 40 [] [], .un, .un, .bx 0 0, .ms 1 5 0 (List.length v0_1), .un, .un, .sl (WorkItem.rows p0), .int .i64 ((List.length p0) : Int), .int .i64 (i0 : Int)] ++ nuns 12
def Qas (_p0 : List WorkItem) (_i0 : Nat) (v0_1 : List Val) : List Ob :=
  [⟨5, 0, true, [.int .i64 0, .int .i64 0, .str eB, .ms 2 5 0 0, .ms 3 6 0 0]⟩, ⟨5, 0, true, (Val.rows v0_1).flatten⟩, ⟨5, 0, true, []⟩, ⟨6, 0, true, []⟩]
def Q9l (p0 : List WorkItem) (i0 : Nat) (v0_1 : List Val) : En := .loop 0 Ir.Qbf Ir.Qyh (Qj2 p0 i0 v0_1) (Qas p0 i0 v0_1)
def Qeh (_p0 : List WorkItem) (q0 : List Val) (z : Nat → PV) (_zo : Nat → List PV) : St :=
  ⟨[z 0, z 1, z 2, z 3, .bx 0 0, .ms 1 5 0 (List.length q0)] ++ zr z 6 17, [(0, ⟨5, 0, true, [.int .i64 0, .int .i64 0, .str eB, .ms 2 5 0 0, .ms 3 6 0 0]⟩), (1, ⟨5, 0, true, (Val.rows q0).flatten⟩), (2, ⟨5, 0, true, []⟩), (3, ⟨6, 0, true, []⟩)], 68⟩
theorem Qov (p0 : List WorkItem) (i0 : Nat) (v0_1 : List Val) : VOK (Go.Pv.look (number 0 (Qas p0 i0 v0_1))) [(1, Val.rows v0_1)] := (VOK.cons (show Seen _ _ from Q3n (ob := ⟨5, 0, true, (Val.rows v0_1).flatten⟩) (Val.Qb v0_1 5 rfl)) VOK.nil)
def Qa3 (p0 : List WorkItem) (e : En) (q : List Val) : Prop := ∃ z zo, Q7 G e (.st (.exit 0) (Qeh p0 q z zo))
theorem Qhm (p0 : List WorkItem) {e e' : En} (h : ∀ r, Q7 G e r → Q7 G e' r) : ∀ q, Qa3 p0 e q → Qa3 p0 e' q
  | _, ⟨z, zo, hz⟩ => ⟨z, zo, h _ hz⟩
def Q9t (p0 : List WorkItem) : Prop := (List.length p0 ≤ 137438953472) ∧ (∀ x0 ∈ p0, Qz0 x0) ∧ True
def Qfk (p0 : List WorkItem) (i0 : Nat) (_v0_1 : List Val) : List PV :=
  [.un, .fn 40 [] []] ++ nuns 6 ++ [.sl (WorkItem.rows p0), .int .i64 ((List.length p0) : Int), .int .i64 (i0 : Int), .bool false]
def Qc6 (_p0 : List WorkItem) (_i0 : Nat) (_v0_1 : List Val) : List (Nat × List PV) :=
  []
theorem Qsm (p0 : List WorkItem) (_H : Q9t p0) (i0 : Nat) (v0_1 : List Val) (_ho0_0 : List.length v0_1 ≤ i0) (hc0 : (decide ((i0 : Int) < ((List.length p0) : Int))) = false) : Qa3 p0 (Q9l p0 i0 v0_1) v0_1 := by
 exact ⟨(envF (Qfk p0 i0 v0_1)), (zoF (Qc6 p0 i0 v0_1)), Qm (Qov p0 i0 v0_1) (x := ((.exit 0), Qeh p0 v0_1 (envF (Qfk p0 i0 v0_1)) (zoF (Qc6 p0 i0 v0_1)))) [hB 0 hc0] [] (by kernel_rfl)⟩
theorem Qrs (p0 : List WorkItem) (H : Q9t p0) (x0 : WorkItem) (i0 : Nat) (v0_1 : List Val) (hx0 : p0[i0]? = some x0) (hi0 : i0 < List.length p0) (ho0_0 : List.length v0_1 ≤ i0) (hc0 : (decide ((i0 : Int) < ((List.length p0) : Int))) = true) {r : Rs} (hr : Q7 G (Q9l p0 (i0 + 1) (v0_1 ++ [(Q78 x0)])) r) : Q7 G (Q9l p0 i0 v0_1) r := by
 have hB0 := H.1
 exact Qn (Qov p0 i0 v0_1) (y := (Qj2 p0 (i0 + 1) (v0_1 ++ [(Q78 x0)]), Qas p0 (i0 + 1) (v0_1 ++ [(Q78 x0)]))) [hB 0 hc0, hP 0 (Q1x 2 (WorkItem.rows p0) i0 _ (WorkItem.Qf hx0) rfl), hV 8 [(644, Val.rows (v0_1 ++ [(Q78 x0)]))] (Q6y 1 580 644 5 80 0 0 true (Val.rows v0_1) (Val.rows (v0_1 ++ [(Q78 x0)])) (Val.cells (Q78 x0)) (List.length v0_1) (List.length (v0_1 ++ [(Q78 x0)])) rfl (Val.Q8 v0_1).symm (Val.Q8 (v0_1 ++ [(Q78 x0)])).symm (Val.Q1g v0_1 (Q78 x0)) (Val.Qh v0_1) rfl (by omega)), hS 0 true (Val.Qb (v0_1 ++ [(Q78 x0)]) 5 rfl), hP 1 (Q1o i0 (by omega))] [aN (Q17y x0 (H.2.1 x0 (Q29 hx0)))] (by kernel_rfl) hr
theorem Qly (p0 : List WorkItem) (H : Q9t p0) : ∀ (r0 : List WorkItem) (i0 : Nat) (v0_1 : List Val), List.drop i0 p0 = r0 → List.length v0_1 ≤ i0 → Qa3 p0 (Q9l p0 i0 v0_1) (Q35 p0 r0 i0 v0_1)
 | [], i0, v0_1, hd, ho0_0 => by
  have hc0 : (decide ((i0 : Int) < ((List.length p0) : Int))) = false := by have := Q1d hd; simp; omega
  rw [Q35]
  exact Qsm p0 H i0 v0_1 ho0_0 hc0
 | x0 :: r0, i0, v0_1, hd, ho0_0 => by
  obtain ⟨hx0, hi0, hd'⟩ := Q19 hd
  have hc0 : (decide ((i0 : Int) < ((List.length p0) : Int))) = true := by simp; omega
  rw [Q35]
  exact Qhm p0 (fun r hr => Qrs p0 H x0 i0 v0_1 hx0 hi0 ho0_0 hc0 hr) _ (Qly p0 H r0 (i0 + 1) (v0_1 ++ [(Q78 x0)]) hd' (by first | omega | (simp; omega)))
def Q39 (p0 : List WorkItem) : Val := vL (p0.map WorkItem.enc)
theorem Qte (p0 : List WorkItem) : Q39 p0 = ((Val.mk 4 0 eB (Q35 p0 p0 0 []) [])) := by
  rw [Qqb]
  rfl
def Qt4 (p0 : List WorkItem) : En := .call 39 [.sl (WorkItem.rows p0), .fn 40 [] []] []
def Qku (p0 : List WorkItem) : Rs := .ret (.agg (Val.cells (Q39 p0))) []
def Qaw (p0 : List WorkItem) : Prop := LSm WorkItem.sm p0
theorem Qld (p0 : List WorkItem) (H : Qaw p0) : (Q9t p0) ∧ True := by
  exact ⟨⟨Nat.le_trans H.1 (Nat.le_of_ble_eq_true rfl), H.2, trivial⟩, trivial⟩
theorem Qvp (p0 : List WorkItem) (H : Qaw p0) : Q7 G (Qt4 p0) (Qku p0) := by
 unfold Qku
 rw [Qte]
 have hl0 := Qly p0 ((Qld p0 H).1) p0 0 [] (by simp) (by simp)
 obtain ⟨z0, zo0, hl0⟩ := hl0
 exact Qa (fn := Ir.K24) rfl VOK.nil [hP 3 (Qs (WorkItem.rows p0) (List.length p0) (WorkItem.Q8 p0)), hS 0 true (Val.Qb (Q35 p0 p0 0 []) 5 rfl), hQ (Val.Q8 (Q35 p0 p0 0 [])).symm] [aV [(1, Val.rows (Q35 p0 p0 0 []))] hl0] (by kernel_rfl)
def Qih (p0 : Budget) : Object := Budget.obj p0
theorem Q168 (p0 : Budget) : Qih p0 = ((Qvk Qk p0.meta_ (Q4a ([(Qme p0.selector), (Q26 Q6 (Q1q p0.minAvailable)), (Q26 Q5 (Q1q p0.maxUnavailable))])) (Q4a ([(Q1i Qj p0.observed), (Q1i Qp p0.healthy), (Q1i Qw p0.desired), (Q1i Qv p0.expected), (Q1i Q13 p0.allowed), (Q26 Q9 (Q39 p0.disrupted))])))) := by
  exact Eq.symm (Qys (by exact Nat.le_of_ble_eq_true rfl) (by exact Nat.le_of_ble_eq_true rfl) (by kernel_rfl) (by kernel_rfl))
def Q157 (p0 : Budget) : En := .call 9 [.agg (Budget.cells p0)] []
def Q113 (p0 : Budget) : Rs := .ret (.agg (Object.cells (Qih p0))) []
def Qwk (p0 : Budget) : Prop := Qgx p0.meta_ ∧ Budget.sm p0
theorem Q5d (p0 : Budget) (H : Qwk p0) : (Qzf p0.selector) ∧ (Q7j p0.minAvailable) ∧ (Q7j p0.maxUnavailable) ∧ (Qdc ([(Qme p0.selector), (Q26 Q6 (Q1q p0.minAvailable)), (Q26 Q5 (Q1q p0.maxUnavailable))])) ∧ (Qaw p0.disrupted) ∧ (Qdc ([(Q1i Qj p0.observed), (Q1i Qp p0.healthy), (Q1i Qw p0.desired), (Q1i Qv p0.expected), (Q1i Q13 p0.allowed), (Q26 Q9 (Q39 p0.disrupted))])) ∧ (Qze Qk p0.meta_ (Q4a ([(Qme p0.selector), (Q26 Q6 (Q1q p0.minAvailable)), (Q26 Q5 (Q1q p0.maxUnavailable))])) (Q4a ([(Q1i Qj p0.observed), (Q1i Qp p0.healthy), (Q1i Qw p0.desired), (Q1i Qv p0.expected), (Q1i Q13 p0.allowed), (Q26 Q9 (Q39 p0.disrupted))]))) ∧ True := by
  exact ⟨(by first | exact True.intro | exact H.1 | exact ⟨H.1, trivial⟩ | exact H.2 | exact H.2.1 | exact H.2.2.1 | exact H.2.2.2.1 | exact H.2.2.2.2.1), (by first | exact True.intro | exact H.1 | exact ⟨H.1, trivial⟩ | exact H.2 | exact H.2.1 | exact H.2.2.1 | exact H.2.2.2.1 | exact H.2.2.2.2.1), (by first | exact True.intro | exact H.1 | exact ⟨H.1, trivial⟩ | exact H.2 | exact H.2.1 | exact H.2.2.1 | exact H.2.2.2.1 | exact H.2.2.2.2.1), Qj7 (by exact Nat.le_of_ble_eq_true rfl) (List.forall_mem_cons.2 ⟨Q4y (fun _ h => Requirement.Q42 h) H.2.1, List.forall_mem_cons.2 ⟨Q4y (fun _ h => Amount.Q42 h) H.2.2.1, List.forall_mem_cons.2 ⟨Q4y (fun _ h => Amount.Q42 h) H.2.2.2.1, List.forall_mem_nil _⟩⟩⟩), (by first | exact True.intro | exact H.1 | exact ⟨H.1, trivial⟩ | exact H.2 | exact H.2.1 | exact H.2.2.1 | exact H.2.2.2.1 | exact H.2.2.2.2.1), Qj7 (by exact Nat.le_of_ble_eq_true rfl) (List.forall_mem_cons.2 ⟨Val.Sm.leaf _ _ _, List.forall_mem_cons.2 ⟨Val.Sm.leaf _ _ _, List.forall_mem_cons.2 ⟨Val.Sm.leaf _ _ _, List.forall_mem_cons.2 ⟨Val.Sm.leaf _ _ _, List.forall_mem_cons.2 ⟨Val.Sm.leaf _ _ _, List.forall_mem_cons.2 ⟨Q4y (fun _ h => WorkItem.Q42 h) H.2.2.2.2.1, List.forall_mem_nil _⟩⟩⟩⟩⟩⟩), (by first | exact True.intro | exact H.1 | exact ⟨H.1, trivial⟩ | exact H.2 | exact H.2.1 | exact H.2.2.1 | exact H.2.2.2.1 | exact H.2.2.2.2.1), trivial⟩
theorem Q12x (p0 : Budget) (H : Qwk p0) : Q7 G (Q157 p0) (Q113 p0) := by
 unfold Q113
 rw [Q168]
 exact Qa (fn := Ir.K19) rfl VOK.nil [] [aN (Q18g p0.selector (Q5d p0 H).1), aN (Qmk p0.minAvailable (Q5d p0 H).2.1), aN (Qdk Q6 (Q1q p0.minAvailable)), aN (Qmk p0.maxUnavailable (Q5d p0 H).2.2.1), aN (Qdk Q5 (Q1q p0.maxUnavailable)), aN (Q6n (e' := .call 34 [.sl [(Fld.cells (Qme p0.selector)), (Fld.cells (Q26 Q6 (Q1q p0.minAvailable))), (Fld.cells (Q26 Q5 (Q1q p0.maxUnavailable)))]] []) (Qmj ([(Qme p0.selector), (Q26 Q6 (Q1q p0.minAvailable)), (Q26 Q5 (Q1q p0.maxUnavailable))]) (Q5d p0 H).2.2.2.1) (by simp only [Qhz, Fld.Q14, Fld.Q1f])), aN (Qvp p0.disrupted (Q5d p0 H).2.2.2.2.1), aN (Q8r Qj p0.observed), aN (Q8r Qp p0.healthy), aN (Q8r Qw p0.desired), aN (Q8r Qv p0.expected), aN (Q8r Q13 p0.allowed), aN (Qdk Q9 (Q39 p0.disrupted)), aN (Q6n (e' := .call 34 [.sl [(Fld.cells (Q1i Qj p0.observed)), (Fld.cells (Q1i Qp p0.healthy)), (Fld.cells (Q1i Qw p0.desired)), (Fld.cells (Q1i Qv p0.expected)), (Fld.cells (Q1i Q13 p0.allowed)), (Fld.cells (Q26 Q9 (Q39 p0.disrupted)))]] []) (Qmj ([(Q1i Qj p0.observed), (Q1i Qp p0.healthy), (Q1i Qw p0.desired), (Q1i Qv p0.expected), (Q1i Q13 p0.allowed), (Q26 Q9 (Q39 p0.disrupted))]) (Q5d p0 H).2.2.2.2.2.1) (by simp only [Qhz, Fld.Q14, Fld.Q1f])), aN (Q133 Qk p0.meta_ (Q4a ([(Qme p0.selector), (Q26 Q6 (Q1q p0.minAvailable)), (Q26 Q5 (Q1q p0.maxUnavailable))])) (Q4a ([(Q1i Qj p0.observed), (Q1i Qp p0.healthy), (Q1i Qw p0.desired), (Q1i Qv p0.expected), (Q1i Q13 p0.allowed), (Q26 Q9 (Q39 p0.disrupted))])) (Q5d p0 H).2.2.2.2.2.2.1)] (by kernel_rfl)
def Q6m (p0 : Resources) : Val := Resources.enc p0
theorem Q16v (p0 : Resources) : Q6m p0 = ((Q4a ([(Q1i Q2i p0.cPU), (Q1i Q1k p0.memory), (Q1i Q2b p0.disk)]))) := by
  exact Eq.symm (Q8t (by exact Nat.le_of_ble_eq_true rfl) (by kernel_rfl))
def Q15u (p0 : Resources) : En := .call 47 [.agg (Resources.cells p0)] []
def Q11q (p0 : Resources) : Rs := .ret (.agg (Val.cells (Q6m p0))) []
def Qwq (p0 : Resources) : Prop := Resources.sm p0
theorem Qxd (p0 : Resources) (_H : Qwq p0) : (Qdc ([(Q1i Q2i p0.cPU), (Q1i Q1k p0.memory), (Q1i Q2b p0.disk)])) ∧ True := by
  exact ⟨Qj7 (by exact Nat.le_of_ble_eq_true rfl) (List.forall_mem_cons.2 ⟨Val.Sm.leaf _ _ _, List.forall_mem_cons.2 ⟨Val.Sm.leaf _ _ _, List.forall_mem_cons.2 ⟨Val.Sm.leaf _ _ _, List.forall_mem_nil _⟩⟩⟩), trivial⟩
theorem Q132 (p0 : Resources) (H : Qwq p0) : Q7 G (Q15u p0) (Q11q p0) := by
 unfold Q11q
 rw [Q16v]
 exact Qa (fn := Ir.K20) rfl VOK.nil [] [aN (Q8r Q2i p0.cPU), aN (Q8r Q1k p0.memory), aN (Q8r Q2b p0.disk), aN (Q6n (e' := .call 34 [.sl [(Fld.cells (Q1i Q2i p0.cPU)), (Fld.cells (Q1i Q1k p0.memory)), (Fld.cells (Q1i Q2b p0.disk))]] []) (Qmj ([(Q1i Q2i p0.cPU), (Q1i Q1k p0.memory), (Q1i Q2b p0.disk)]) (Qxd p0 H).1) (by simp only [Qhz, Fld.Q14, Fld.Q1f]))] (by kernel_rfl)
def Qii (p0 : Quota) : Object := Quota.obj p0
theorem Q16a (p0 : Quota) : Qii p0 = ((Qvk Qd p0.meta_ (Q4a ([(Q26 Qi (Q6m p0.hard)), (Q1i Q12 p0.pods)])) (Q4a ([(Q26 Q15 (Q6m p0.used)), (Q1i Q27 p0.has)])))) := by
  exact Eq.symm (Qys (by exact Nat.le_of_ble_eq_true rfl) (by exact Nat.le_of_ble_eq_true rfl) (by kernel_rfl) (by kernel_rfl))
def Q159 (p0 : Quota) : En := .call 11 [.agg (Quota.cells p0)] []
def Q115 (p0 : Quota) : Rs := .ret (.agg (Object.cells (Qii p0))) []
def Qwl (p0 : Quota) : Prop := Qgx p0.meta_ ∧ Quota.sm p0
theorem Q7s (p0 : Quota) (H : Qwl p0) : (Qwq p0.hard) ∧ (Qdc ([(Q26 Qi (Q6m p0.hard)), (Q1i Q12 p0.pods)])) ∧ (Qwq p0.used) ∧ (Qdc ([(Q26 Q15 (Q6m p0.used)), (Q1i Q27 p0.has)])) ∧ (Qze Qd p0.meta_ (Q4a ([(Q26 Qi (Q6m p0.hard)), (Q1i Q12 p0.pods)])) (Q4a ([(Q26 Q15 (Q6m p0.used)), (Q1i Q27 p0.has)]))) ∧ True := by
  exact ⟨(by first | exact True.intro | exact H.1 | exact ⟨H.1, trivial⟩ | exact H.2 | exact H.2.1 | exact H.2.2.1), Qj7 (by exact Nat.le_of_ble_eq_true rfl) (List.forall_mem_cons.2 ⟨Resources.Q42 H.2.1, List.forall_mem_cons.2 ⟨Val.Sm.leaf _ _ _, List.forall_mem_nil _⟩⟩), (by first | exact True.intro | exact H.1 | exact ⟨H.1, trivial⟩ | exact H.2 | exact H.2.1 | exact H.2.2.1), Qj7 (by exact Nat.le_of_ble_eq_true rfl) (List.forall_mem_cons.2 ⟨Resources.Q42 H.2.2.1, List.forall_mem_cons.2 ⟨Val.Sm.leaf _ _ _, List.forall_mem_nil _⟩⟩), (by first | exact True.intro | exact H.1 | exact ⟨H.1, trivial⟩ | exact H.2 | exact H.2.1 | exact H.2.2.1), trivial⟩
theorem Q12y (p0 : Quota) (H : Qwl p0) : Q7 G (Q159 p0) (Q115 p0) := by
 unfold Q115
 rw [Q16a]
 exact Qa (fn := Ir.K1b) rfl VOK.nil [] [aN (Q132 p0.hard (Q7s p0 H).1), aN (Qdk Qi (Q6m p0.hard)), aN (Q8r Q12 p0.pods), aN (Q6n (e' := .call 34 [.sl [(Fld.cells (Q26 Qi (Q6m p0.hard))), (Fld.cells (Q1i Q12 p0.pods))]] []) (Qmj ([(Q26 Qi (Q6m p0.hard)), (Q1i Q12 p0.pods)]) (Q7s p0 H).2.1) (by simp only [Qhz, Fld.Q14, Fld.Q1f])), aN (Q132 p0.used (Q7s p0 H).2.2.1), aN (Qdk Q15 (Q6m p0.used)), aN (Q8r Q27 p0.has), aN (Q6n (e' := .call 34 [.sl [(Fld.cells (Q26 Q15 (Q6m p0.used))), (Fld.cells (Q1i Q27 p0.has))]] []) (Qmj ([(Q26 Q15 (Q6m p0.used)), (Q1i Q27 p0.has)]) (Q7s p0 H).2.2.2.1) (by simp only [Qhz, Fld.Q14, Fld.Q1f])), aN (Q133 Qd p0.meta_ (Q4a ([(Q26 Qi (Q6m p0.hard)), (Q1i Q12 p0.pods)])) (Q4a ([(Q26 Q15 (Q6m p0.used)), (Q1i Q27 p0.has)])) (Q7s p0 H).2.2.2.2.1)] (by kernel_rfl)
end Go.Proofs.Ytbagpdebihicnaa
end

section
/- What the program's decoders compute (printed by a program). -/
namespace Go.Proofs.Ytbagpdebihicnaa
open Go.Pv
structure Decoder where
  wrong : Int
def Decoder.cells (x : Decoder) : List PV :=
  [.int .i64 x.wrong]
def Decoder.rows (l : List Decoder) : List (List PV) := l.map Decoder.cells
theorem Decoder.Q8 (l : List Decoder) : (Decoder.rows l).length = l.length := by simp [Decoder.rows]
theorem Decoder.Qf {l : List Decoder} {i : Nat} {x : Decoder} (h : l[i]? = some x) : (Decoder.rows l)[i]? = some (Decoder.cells x) := Go.Pv.Qf h
theorem Decoder.Q1g (l : List Decoder) (x : Decoder) : Decoder.rows (l ++ [x]) = Decoder.rows l ++ [Decoder.cells x] := by simp [Decoder.rows]
theorem Decoder.Q30 (l m : List Decoder) : Decoder.rows (l ++ m) = Decoder.rows l ++ Decoder.rows m := by simp [Decoder.rows]
theorem Decoder.Q2k (l : List Decoder) (k : Nat) (x : Decoder) : Decoder.rows (l.set k x) = (Decoder.rows l).set k (Decoder.cells x) := by simp [Decoder.rows, List.map_set]
theorem Decoder.Q23 (l : List Decoder) (n : Nat) : Decoder.rows (l.take n) = (Decoder.rows l).take n := by simp [Decoder.rows, List.map_take]
theorem Decoder.Q2a (l : List Decoder) (n : Nat) : Decoder.rows (l.drop n) = (Decoder.rows l).drop n := by simp [Decoder.rows, List.map_drop]
theorem Decoder.Qh (l : List Decoder) : ∀ r ∈ Decoder.rows l, r.length = 1 := Q2w (f := Decoder.cells) (fun _ => rfl) l
theorem Decoder.Qb (l : List Decoder) (sz : Nat) (h : sz = 1) : ViewOK sz (Decoder.rows l).flatten (Decoder.rows l) := by subst h; exact ⟨rfl, Decoder.Qh l, Q28 (f := Decoder.cells) (fun _ => rfl) l⟩
def bp (o : Decoder) (n : Nat) : Decoder := ⟨bw o.wrong n⟩
theorem Q6z (o : Decoder) (a b : Nat) : bp (bp o a) b = bp o (a + b) := by unfold bp; rw [Qhy]
theorem Qae (o : Decoder) (n : Nat) : (bp o n).wrong = bw o.wrong n := rfl
def Ql (p1 : Val) (p2 : Int) (o0 : Decoder) : Val × Decoder := (bif p1.kind == p2 then p1 else vZ, bp o0 (cK p2 p1))
theorem Q16h (p1 : Val) (p2 : Int) (o0 : Decoder) : Ql p1 p2 o0 = (bif (p1.kind == p2) then
    (p1, o0)
  else
    bif (p1.kind == 0) then
      ((Val.mk 0 0 eB [] []), o0)
    else
      ((Val.mk 0 0 eB [] []), (Decoder.mk (w64 (o0.wrong + 1))))) := by
  obtain ⟨w⟩ := o0
  unfold Ql bp cK nb
  cases (p1.kind == p2) <;> cases (p1.kind == 0) <;> rfl
def Q15g (p1 : Val) (p2 : Int) (o0 : Decoder) : En := .call 62 [.bx 0 0, .agg (Val.cells p1), .int .i64 p2] [⟨1, 0, false, (Decoder.cells o0)⟩]
def Q17c (_p1 : Val) (_p2 : Int) (_o0 : Decoder) (q0 : Val) (q1 : Decoder) : Rs := .ret (.agg (Val.cells q0)) [⟨1, 0, false, (Decoder.cells q1)⟩]
def Q11c (p1 : Val) (p2 : Int) (o0 : Decoder) : Rs := Q17c p1 p2 o0 (Ql p1 p2 o0).1 (Ql p1 p2 o0).2
theorem Q83 (p1 : Val) (p2 : Int) (o0 : Decoder) : Q7 G (Q15g p1 p2 o0) (Q11c p1 p2 o0) := by
 unfold Q11c
 rw [Q16h]
 cases h0 : (p1.kind == p2) with
 | true =>
  exact Qa (fn := Ir.K1j) rfl (h := [⟨1, 0, false, (Decoder.cells o0)⟩]) (vw := []) VOK.nil [hB 5 h0] [] (by kernel_rfl)
 | false =>
  cases h1 : (p1.kind == 0) with
  | true =>
   exact Qa (fn := Ir.K1j) rfl (h := [⟨1, 0, false, (Decoder.cells o0)⟩]) (vw := []) VOK.nil [hB 5 h0, hP 2 (dec (!(p1.kind == 0)) false (by rw [h1]; rfl))] [] (by kernel_rfl)
  | false =>
   exact Qa (fn := Ir.K1j) rfl (h := [⟨1, 0, false, (Decoder.cells o0)⟩]) (vw := []) VOK.nil [hB 5 h0, hP 2 (dec (!(p1.kind == 0)) true (by rw [h1]; rfl))] [] (by kernel_rfl)
def Q0 (p1 : Val) (p2 : BA) (o0 : Decoder) : Val × Decoder := (prt p1 p2, bp o0 (cM p1))
theorem Q16i (p1 : Val) (p2 : BA) (o0 : Decoder) : Q0 p1 p2 o0 = (((Qs2 (Ql p1 5 o0).1 p2).1, (Ql p1 5 o0).2)) := by
  unfold Q0
  rw [vprt]
  unfold Ql
  cases h : (p1.kind == 5) with
  | true => rfl
  | false => rw [Qzx h]; rfl
def Q15h (p1 : Val) (p2 : BA) (o0 : Decoder) : En := .call 46 [.bx 0 0, .agg (Val.cells p1), .str p2] [⟨1, 0, false, (Decoder.cells o0)⟩]
def Q17d (_p1 : Val) (_p2 : BA) (_o0 : Decoder) (q0 : Val) (q1 : Decoder) : Rs := .ret (.agg (Val.cells q0)) [⟨1, 0, false, (Decoder.cells q1)⟩]
def Q11d (p1 : Val) (p2 : BA) (o0 : Decoder) : Rs := Q17d p1 p2 o0 (Q0 p1 p2 o0).1 (Q0 p1 p2 o0).2
def Qav (p1 : Val) : Prop := Val.Sm 1000000000 p1
theorem Qx7 (p1 : Val) (p2 : BA) (o0 : Decoder) (H : Qav p1) : (Qyz (Ql p1 5 o0).1 p2) ∧ True := by
  refine ⟨Q13d ?_ _, trivial⟩
  unfold Ql
  cases (p1.kind == 5) with
  | true => exact H
  | false => exact Q17t
theorem Qin (p1 : Val) (p2 : BA) (o0 : Decoder) (H : Qav p1) : Q7 G (Q15h p1 p2 o0) (Q11d p1 p2 o0) := by
 unfold Q11d
 rw [Q16i]
 exact Qa (fn := Ir.K1k) rfl (h := [⟨1, 0, false, (Decoder.cells o0)⟩]) (vw := []) VOK.nil [] [aN (Q83 p1 5 o0), aN (Q17w (Ql p1 5 o0).1 p2 (Qx7 p1 p2 o0 H).1)] (by kernel_rfl)
def Qr (p1 : Val) (p2 : BA) (o0 : Decoder) : Int × Decoder := ((dN p1 p2).1, bp o0 (pK 2 p1 p2))
theorem Q16j (p1 : Val) (p2 : BA) (o0 : Decoder) : Qr p1 p2 o0 = (((Ql (Q0 p1 p2 o0).1 2 (Q0 p1 p2 o0).2).1.n, (Ql (Q0 p1 p2 o0).1 2 (Q0 p1 p2 o0).2).2)) := by
  unfold Qr Q0 Ql
  simp only [Q6z]
  exact Prod.ext (getN (prt p1 p2)).symm rfl
def Q15i (p1 : Val) (p2 : BA) (o0 : Decoder) : En := .call 27 [.bx 0 0, .agg (Val.cells p1), .str p2] [⟨1, 0, false, (Decoder.cells o0)⟩]
def Q17e (_p1 : Val) (_p2 : BA) (_o0 : Decoder) (q0 : Int) (q1 : Decoder) : Rs := .ret (.int .i64 q0) [⟨1, 0, false, (Decoder.cells q1)⟩]
def Q11e (p1 : Val) (p2 : BA) (o0 : Decoder) : Rs := Q17e p1 p2 o0 (Qr p1 p2 o0).1 (Qr p1 p2 o0).2
def Qgy (p1 : Val) : Prop := Val.Sm 1000000000 p1
theorem Qx8 (p1 : Val) (_p2 : BA) (_o0 : Decoder) (H : Qgy p1) : (Qav p1) ∧ True := by
  exact ⟨H, trivial⟩
theorem Q8q (p1 : Val) (p2 : BA) (o0 : Decoder) (H : Qgy p1) : Q7 G (Q15i p1 p2 o0) (Q11e p1 p2 o0) := by
 unfold Q11e
 rw [Q16j]
 exact Qa (fn := Ir.K1l) rfl (h := [⟨1, 0, false, (Decoder.cells o0)⟩]) (vw := []) VOK.nil [] [aN (Qin p1 p2 o0 (Qx8 p1 p2 o0 H).1), aN (Q83 (Q0 p1 p2 o0).1 2 (Q0 p1 p2 o0).2)] (by kernel_rfl)
def Q5l (p1 : Val) (p2 : BA) (o0 : Decoder) : ByteArray × Decoder := ((dS p1 p2).1, bp o0 (pK 3 p1 p2))
theorem Q16o (p1 : Val) (p2 : BA) (o0 : Decoder) : Q5l p1 p2 o0 = (((Ql (Q0 p1 p2 o0).1 3 (Q0 p1 p2 o0).2).1.s, (Ql (Q0 p1 p2 o0).1 3 (Q0 p1 p2 o0).2).2)) := by
  unfold Q5l Q0 Ql
  simp only [Q6z]
  exact Prod.ext (getS (prt p1 p2)).symm rfl
def Q15n (p1 : Val) (p2 : BA) (o0 : Decoder) : En := .call 26 [.bx 0 0, .agg (Val.cells p1), .str p2] [⟨1, 0, false, (Decoder.cells o0)⟩]
def Q17j (_p1 : Val) (_p2 : BA) (_o0 : Decoder) (q0 : BA) (q1 : Decoder) : Rs := .ret (.str q0) [⟨1, 0, false, (Decoder.cells q1)⟩]
def Q11j (p1 : Val) (p2 : BA) (o0 : Decoder) : Rs := Q17j p1 p2 o0 (Q5l p1 p2 o0).1 (Q5l p1 p2 o0).2
def Qwp (p1 : Val) : Prop := Val.Sm 1000000000 p1
theorem Qxa (p1 : Val) (_p2 : BA) (_o0 : Decoder) (H : Qwp p1) : (Qav p1) ∧ True := by
  exact ⟨H, trivial⟩
theorem Q130 (p1 : Val) (p2 : BA) (o0 : Decoder) (H : Qwp p1) : Q7 G (Q15n p1 p2 o0) (Q11j p1 p2 o0) := by
 unfold Q11j
 rw [Q16o]
 exact Qa (fn := Ir.K1s) rfl (h := [⟨1, 0, false, (Decoder.cells o0)⟩]) (vw := []) VOK.nil [] [aN (Qin p1 p2 o0 (Qxa p1 p2 o0 H).1), aN (Q83 (Q0 p1 p2 o0).1 3 (Q0 p1 p2 o0).2)] (by kernel_rfl)
def Q81 (p1 : Val) (p2 : BA) (o0 : Decoder) : Bool × Decoder := ((dB p1 p2).1, bp o0 (pK 1 p1 p2))
theorem Q16p (p1 : Val) (p2 : BA) (o0 : Decoder) : Q81 p1 p2 o0 = (((!((Ql (Q0 p1 p2 o0).1 1 (Q0 p1 p2 o0).2).1.n == 0)), (Ql (Q0 p1 p2 o0).1 1 (Q0 p1 p2 o0).2).2)) := by
  unfold Q81 Q0 Ql
  simp only [Q6z]
  exact Prod.ext (getB (prt p1 p2)).symm rfl
def Q15o (p1 : Val) (p2 : BA) (o0 : Decoder) : En := .call 61 [.bx 0 0, .agg (Val.cells p1), .str p2] [⟨1, 0, false, (Decoder.cells o0)⟩]
def Q17k (_p1 : Val) (_p2 : BA) (_o0 : Decoder) (q0 : Bool) (q1 : Decoder) : Rs := .ret (.bool q0) [⟨1, 0, false, (Decoder.cells q1)⟩]
def Q11k (p1 : Val) (p2 : BA) (o0 : Decoder) : Rs := Q17k p1 p2 o0 (Q81 p1 p2 o0).1 (Q81 p1 p2 o0).2
def Qz6 (p1 : Val) : Prop := Val.Sm 1000000000 p1
theorem Qxb (p1 : Val) (_p2 : BA) (_o0 : Decoder) (H : Qz6 p1) : (Qav p1) ∧ True := by
  exact ⟨H, trivial⟩
theorem Q187 (p1 : Val) (p2 : BA) (o0 : Decoder) (H : Qz6 p1) : Q7 G (Q15o p1 p2 o0) (Q11k p1 p2 o0) := by
 unfold Q11k
 rw [Q16p]
 exact Qa (fn := Ir.K1t) rfl (h := [⟨1, 0, false, (Decoder.cells o0)⟩]) (vw := []) VOK.nil [] [aN (Qin p1 p2 o0 (Qxb p1 p2 o0 H).1), aN (Q83 (Q0 p1 p2 o0).1 1 (Q0 p1 p2 o0).2)] (by kernel_rfl)
def Qx (p0 : Object) (p1 : BA) : Decoder := bp ⟨0⟩ (nb (sEq p0.meta_.kind p1) + cM p0.spec + cM p0.status)
theorem Q16z (p0 : Object) (p1 : BA) : Qx p0 p1 = (bif (sEq p0.meta_.kind p1) then
    (Ql p0.status 5 (Ql p0.spec 5 (Decoder.mk 0)).2).2
  else
    (Ql p0.status 5 (Ql p0.spec 5 (Decoder.mk 1)).2).2) := by
  unfold Qx
  simp only [Ql, Q6z]
  cases sEq p0.meta_.kind p1 with
  | true => exact congrArg (bp ⟨0⟩) (by show 0 + cM p0.spec + cM p0.status = cK 5 p0.spec + cK 5 p0.status; unfold cM; omega)
  | false =>
    refine Eq.trans ?_ (Q6z ⟨0⟩ 1 (cK 5 p0.spec + cK 5 p0.status)).symm
    exact congrArg (bp ⟨0⟩) (by show 1 + cM p0.spec + cM p0.status = 1 + (cK 5 p0.spec + cK 5 p0.status); unfold cM; omega)
def Q15z (p0 : Object) (p1 : BA) : En := .call 23 [.agg (Object.cells p0), .str p1] []
def Q17p (_p0 : Object) (_p1 : BA) (q0 : Decoder) : Rs := .ret (.bx 0 0) [⟨1, 0, true, (Decoder.cells q0)⟩]
def Q11v (p0 : Object) (p1 : BA) : Rs := Q17p p0 p1 (Qx p0 p1)
theorem Q134 (p0 : Object) (p1 : BA) : Q7 G (Q15z p0 p1) (Q11v p0 p1) := by
 unfold Q11v
 rw [Q16z]
 cases h0 : (sEq p0.meta_.kind p1) with
 | true =>
  exact Qa (fn := Ir.K29) rfl VOK.nil [hP 9 (dec (!(sEq p0.meta_.kind p1)) false (by rw [h0]; rfl))] [aN (Q83 p0.spec 5 (Decoder.mk 0)), aN (Q83 p0.status 5 (Ql p0.spec 5 (Decoder.mk 0)).2)] (by kernel_rfl)
 | false =>
  exact Qa (fn := Ir.K29) rfl VOK.nil [hP 9 (dec (!(sEq p0.meta_.kind p1)) true (by rw [h0]; rfl))] [aN (Q83 p0.spec 5 (Decoder.mk 1)), aN (Q83 p0.status 5 (Ql p0.spec 5 (Decoder.mk 1)).2)] (by kernel_rfl)
def Q3m (p0 : Val) (o1 : Decoder) : WorkItem × Decoder := ((WorkItem.dec p0).1, bp o1 (WorkItem.cnt p0))
theorem Q16c (p0 : Val) (o1 : Decoder) : Q3m p0 o1 = (((WorkItem.mk (Q5l p0 Q10 o1).1 (Qr p0 Q31 (Q5l p0 Q10 o1).2).1), (Qr p0 Q31 (Q5l p0 Q10 o1).2).2)) := by
  simp only [Qr, Q5l, Q3m, Q6z]
  refine Prod.ext rfl (congrArg (bp o1) ?_)
  show WorkItem.cnt p0 = _
  try unfold WorkItem.cnt
  try unfold cM
  first | rfl | omega
def Q15b (p0 : Val) (o1 : Decoder) : En := .call 25 [.agg (Val.cells p0), .bx 0 0] [⟨1, 0, false, [.bx 1 0]⟩, ⟨1, 0, false, (Decoder.cells o1)⟩]
def Q179 (_p0 : Val) (_o1 : Decoder) (q0 : WorkItem) (q1 : Decoder) : Rs := .ret (.agg (WorkItem.cells q0)) [⟨1, 0, false, [.bx 1 0]⟩, ⟨1, 0, false, (Decoder.cells q1)⟩]
def Q117 (p0 : Val) (o1 : Decoder) : Rs := Q179 p0 o1 (Q3m p0 o1).1 (Q3m p0 o1).2
def Qz1 (p0 : Val) : Prop := Val.Sm 1000000000 p0
theorem Qpa (p0 : Val) (_o1 : Decoder) (H : Qz1 p0) : (Qwp p0) ∧ (Qgy p0) ∧ True := by
  repeat' with_reducible apply And.intro
  all_goals first | exact True.intro | exact H | exact Q4e H _
theorem Q180 (p0 : Val) (o1 : Decoder) (H : Qz1 p0) : Q7 G (Q15b p0 o1) (Q117 p0 o1) := by
 unfold Q117
 rw [Q16c]
 exact Qa (fn := Ir.K1d) rfl (h := [⟨1, 0, false, [.bx 1 0]⟩, ⟨1, 0, false, (Decoder.cells o1)⟩]) (vw := []) VOK.nil [] [aN (Q130 p0 Q10 o1 (Qpa p0 o1 H).1), aN (Q8q p0 Q31 (Q5l p0 Q10 o1).2 (Qpa p0 o1 H).2.1)] (by kernel_rfl)
def Q2q (p1 : Val) (p2 : BA) (o0 : Decoder) : List Val → Nat → Int → (List WorkItem) → Int × (List WorkItem)
 | [], _i0, v0_1, v0_2 =>
  (v0_1, v0_2)
 | x0 :: r0, i0, v0_1, v0_2 =>
  Q2q p1 p2 o0 r0 (i0 + 1) (Q3m x0 (Decoder.mk v0_1)).2.wrong (v0_2 ++ [(Q3m x0 (Decoder.mk v0_1)).1])
def Qix (p1 : Val) (p2 : BA) (o0 : Decoder) (i0 : Nat) (_v0_1 : Int) (v0_2 : List WorkItem) : List PV :=
  [.un, .un, .un, .fn 25 [] [.bx 1 0]] ++ nuns 5 ++ [.ms 2 2 0 (List.length v0_2)] ++ nuns 8 ++ [.sl (Val.rows (Ql (Q0 p1 p2 o0).1 4 (Q0 p1 p2 o0).2).1.list), .int .i64 ((List.length (Ql (Q0 p1 p2 o0).1 4 (Q0 p1 p2 o0).2).1.list) : Int), .int .i64 (i0 : Int)] ++ nuns 11
def Qan (_p1 : Val) (_p2 : BA) (_o0 : Decoder) (_i0 : Nat) (v0_1 : Int) (v0_2 : List WorkItem) : List Ob :=
  [⟨1, 0, false, [.int .i64 v0_1]⟩, ⟨1, 0, false, [.bx 0 0]⟩, ⟨2, 0, true, (WorkItem.rows v0_2).flatten⟩]
def Q9g (p1 : Val) (p2 : BA) (o0 : Decoder) (i0 : Nat) (v0_1 : Int) (v0_2 : List WorkItem) : En := .loop 2 Ir.Qba Ir.Qyc (Qix p1 p2 o0 i0 v0_1 v0_2) (Qan p1 p2 o0 i0 v0_1 v0_2)
def Qec (_p1 : Val) (_p2 : BA) (_o0 : Decoder) (q0 : Int) (q1 : List WorkItem) (z : Nat → PV) (_zo : Nat → List PV) : St :=
  ⟨zr z 0 9 ++ [.ms 2 2 0 (List.length q1)] ++ zr z 10 22, [(0, ⟨1, 0, false, [.int .i64 q0]⟩), (1, ⟨1, 0, false, [.bx 0 0]⟩), (2, ⟨2, 0, true, (WorkItem.rows q1).flatten⟩)], 67⟩
theorem Qoq (p1 : Val) (p2 : BA) (o0 : Decoder) (i0 : Nat) (v0_1 : Int) (v0_2 : List WorkItem) : VOK (Go.Pv.look (number 0 (Qan p1 p2 o0 i0 v0_1 v0_2))) [(2, WorkItem.rows v0_2)] := (VOK.cons (show Seen _ _ from Q3n (ob := ⟨2, 0, true, (WorkItem.rows v0_2).flatten⟩) (WorkItem.Qb v0_2 2 rfl)) VOK.nil)
def Q9y (p1 : Val) (p2 : BA) (o0 : Decoder) (e : En) (q : Int × (List WorkItem)) : Prop := ∃ z zo, Q7 G e (.st (.exit 0) (Qec p1 p2 o0 q.1 q.2 z zo))
theorem Qhh (p1 : Val) (p2 : BA) (o0 : Decoder) {e e' : En} (h : ∀ r, Q7 G e r → Q7 G e' r) : ∀ q, Q9y p1 p2 o0 e q → Q9y p1 p2 o0 e' q
  | _, ⟨z, zo, hz⟩ => ⟨z, zo, h _ hz⟩
def Q7f (p1 : Val) (p2 : BA) (o0 : Decoder) : Prop := (List.length (Ql (Q0 p1 p2 o0).1 4 (Q0 p1 p2 o0).2).1.list ≤ 137438953472) ∧ (∀ x0 ∈ (Ql (Q0 p1 p2 o0).1 4 (Q0 p1 p2 o0).2).1.list, Qz1 x0) ∧ True
def Qff (p1 : Val) (p2 : BA) (o0 : Decoder) (i0 : Nat) (_v0_1 : Int) (_v0_2 : List WorkItem) : List PV :=
  [.un, .un, .un, .fn 25 [] [.bx 1 0]] ++ nuns 14 ++ [.sl (Val.rows (Ql (Q0 p1 p2 o0).1 4 (Q0 p1 p2 o0).2).1.list), .int .i64 ((List.length (Ql (Q0 p1 p2 o0).1 4 (Q0 p1 p2 o0).2).1.list) : Int), .int .i64 (i0 : Int), .bool false]
def Qc1 (_p1 : Val) (_p2 : BA) (_o0 : Decoder) (_i0 : Nat) (_v0_1 : Int) (_v0_2 : List WorkItem) : List (Nat × List PV) :=
  []
theorem Qsh (p1 : Val) (p2 : BA) (o0 : Decoder) (_H : Q7f p1 p2 o0) (i0 : Nat) (v0_1 : Int) (v0_2 : List WorkItem) (_ho0_0 : List.length v0_2 ≤ i0) (hc0 : (decide ((i0 : Int) < ((List.length (Ql (Q0 p1 p2 o0).1 4 (Q0 p1 p2 o0).2).1.list) : Int))) = false) : Q9y p1 p2 o0 (Q9g p1 p2 o0 i0 v0_1 v0_2) (v0_1, v0_2) := by
 exact ⟨(envF (Qff p1 p2 o0 i0 v0_1 v0_2)), (zoF (Qc1 p1 p2 o0 i0 v0_1 v0_2)), Qm (Qoq p1 p2 o0 i0 v0_1 v0_2) (x := ((.exit 0), Qec p1 p2 o0 v0_1 v0_2 (envF (Qff p1 p2 o0 i0 v0_1 v0_2)) (zoF (Qc1 p1 p2 o0 i0 v0_1 v0_2)))) [hB 0 hc0] [] (by kernel_rfl)⟩
theorem Qrn (p1 : Val) (p2 : BA) (o0 : Decoder) (H : Q7f p1 p2 o0) (x0 : Val) (i0 : Nat) (v0_1 : Int) (v0_2 : List WorkItem) (hx0 : (Ql (Q0 p1 p2 o0).1 4 (Q0 p1 p2 o0).2).1.list[i0]? = some x0) (hi0 : i0 < List.length (Ql (Q0 p1 p2 o0).1 4 (Q0 p1 p2 o0).2).1.list) (ho0_0 : List.length v0_2 ≤ i0) (hc0 : (decide ((i0 : Int) < ((List.length (Ql (Q0 p1 p2 o0).1 4 (Q0 p1 p2 o0).2).1.list) : Int))) = true) {r : Rs} (hr : Q7 G (Q9g p1 p2 o0 (i0 + 1) (Q3m x0 (Decoder.mk v0_1)).2.wrong (v0_2 ++ [(Q3m x0 (Decoder.mk v0_1)).1])) r) : Q7 G (Q9g p1 p2 o0 i0 v0_1 v0_2) r := by
 have hB0 := H.1
 exact Qn (Qoq p1 p2 o0 i0 v0_1 v0_2) (y := (Qix p1 p2 o0 (i0 + 1) (Q3m x0 (Decoder.mk v0_1)).2.wrong (v0_2 ++ [(Q3m x0 (Decoder.mk v0_1)).1]), Qan p1 p2 o0 (i0 + 1) (Q3m x0 (Decoder.mk v0_1)).2.wrong (v0_2 ++ [(Q3m x0 (Decoder.mk v0_1)).1]))) [hB 0 hc0, hP 0 (Q1x 5 (Val.rows (Ql (Q0 p1 p2 o0).1 4 (Q0 p1 p2 o0).2).1.list) i0 _ (Val.Qf hx0) rfl), hV 8 [(643, WorkItem.rows (v0_2 ++ [(Q3m x0 (Decoder.mk v0_1)).1]))] (Q6y 2 579 643 2 24 0 0 true (WorkItem.rows v0_2) (WorkItem.rows (v0_2 ++ [(Q3m x0 (Decoder.mk v0_1)).1])) (WorkItem.cells (Q3m x0 (Decoder.mk v0_1)).1) (List.length v0_2) (List.length (v0_2 ++ [(Q3m x0 (Decoder.mk v0_1)).1])) rfl (WorkItem.Q8 v0_2).symm (WorkItem.Q8 (v0_2 ++ [(Q3m x0 (Decoder.mk v0_1)).1])).symm (WorkItem.Q1g v0_2 (Q3m x0 (Decoder.mk v0_1)).1) (WorkItem.Qh v0_2) rfl (by omega)), hS 0 true (WorkItem.Qb (v0_2 ++ [(Q3m x0 (Decoder.mk v0_1)).1]) 2 rfl), hP 1 (Q1o i0 (by omega))] [aN (Q180 x0 (Decoder.mk v0_1) (H.2.1 x0 (Q29 hx0)))] (by kernel_rfl) hr
theorem Qlt (p1 : Val) (p2 : BA) (o0 : Decoder) (H : Q7f p1 p2 o0) : ∀ (r0 : List Val) (i0 : Nat) (v0_1 : Int) (v0_2 : List WorkItem), List.drop i0 (Ql (Q0 p1 p2 o0).1 4 (Q0 p1 p2 o0).2).1.list = r0 → List.length v0_2 ≤ i0 → Q9y p1 p2 o0 (Q9g p1 p2 o0 i0 v0_1 v0_2) (Q2q p1 p2 o0 r0 i0 v0_1 v0_2)
 | [], i0, v0_1, v0_2, hd, ho0_0 => by
  have hc0 : (decide ((i0 : Int) < ((List.length (Ql (Q0 p1 p2 o0).1 4 (Q0 p1 p2 o0).2).1.list) : Int))) = false := by have := Q1d hd; simp; omega
  rw [Q2q]
  exact Qsh p1 p2 o0 H i0 v0_1 v0_2 ho0_0 hc0
 | x0 :: r0, i0, v0_1, v0_2, hd, ho0_0 => by
  obtain ⟨hx0, hi0, hd'⟩ := Q19 hd
  have hc0 : (decide ((i0 : Int) < ((List.length (Ql (Q0 p1 p2 o0).1 4 (Q0 p1 p2 o0).2).1.list) : Int))) = true := by simp; omega
  rw [Q2q]
  exact Qhh p1 p2 o0 (fun r hr => Qrn p1 p2 o0 H x0 i0 v0_1 v0_2 hx0 hi0 ho0_0 hc0 hr) _ (Qlt p1 p2 o0 H r0 (i0 + 1) (Q3m x0 (Decoder.mk v0_1)).2.wrong (v0_2 ++ [(Q3m x0 (Decoder.mk v0_1)).1]) hd' (by first | omega | (simp; omega)))
def Q1u (p1 : Val) (p2 : BA) (o0 : Decoder) : List WorkItem × Decoder := ((dE WorkItem.dec p1 p2).1, bp o0 (pE (WorkItem.cnt) p1 p2))
theorem Qqg (p1 : Val) (p2 : BA) (o0 : Decoder) : ∀ (l : List Val) (i : Nat) (b : Int) (a : List WorkItem), Q2q p1 p2 o0 l i b a = (bw b (sumC (WorkItem.cnt) l), a ++ l.map (fun x => (WorkItem.dec x).1))
  | [], _, b, a => by rw [Q2q]; simp [sumC, bw]
  | x :: l, i, b, a => by
    rw [Q2q]
    refine (Qqg p1 p2 o0 l (i + 1) (bw b ((WorkItem.cnt) x)) (a ++ [(WorkItem.dec x).1])).trans ?_
    rw [Qhy]
    simp only [List.append_assoc, List.singleton_append, List.map_cons, sumC]
theorem Q16q (p1 : Val) (p2 : BA) (o0 : Decoder) : Q1u p1 p2 o0 = (((Q2q p1 p2 o0 (Ql (Q0 p1 p2 o0).1 4 (Q0 p1 p2 o0).2).1.list 0 (Ql (Q0 p1 p2 o0).1 4 (Q0 p1 p2 o0).2).2.wrong []).2, (Decoder.mk (Q2q p1 p2 o0 (Ql (Q0 p1 p2 o0).1 4 (Q0 p1 p2 o0).2).1.list 0 (Ql (Q0 p1 p2 o0).1 4 (Q0 p1 p2 o0).2).2.wrong []).1))) := by
  rw [Qqg]
  unfold Q0 Ql Q1u
  simp only [Q6z, getL, Qae, Qhy]
  rfl
def Q15p (p1 : Val) (p2 : BA) (o0 : Decoder) : En := .call 24 [.bx 0 0, .agg (Val.cells p1), .str p2, .fn 25 [] [.bx 1 0]] [⟨1, 0, false, (Decoder.cells o0)⟩, ⟨1, 0, false, [.bx 0 0]⟩]
def Q17l (_p1 : Val) (_p2 : BA) (_o0 : Decoder) (q0 : List WorkItem) (q1 : Decoder) : Rs := .ret (.sl (WorkItem.rows q0)) [⟨1, 0, false, (Decoder.cells q1)⟩, ⟨1, 0, false, [.bx 0 0]⟩]
def Q11l (p1 : Val) (p2 : BA) (o0 : Decoder) : Rs := Q17l p1 p2 o0 (Q1u p1 p2 o0).1 (Q1u p1 p2 o0).2
def Qz7 (p1 : Val) : Prop := Val.Sm 1000000000 p1
theorem Qpc (p1 : Val) (p2 : BA) (o0 : Decoder) (H : Qz7 p1) : (Qav p1) ∧ (Q7f p1 p2 o0) ∧ True := by
  have hl := Qy4 (Q4e H p2)
  refine ⟨H, ?_, trivial⟩
  unfold Q7f Q0 Ql
  simp only [getL]
  exact ⟨Nat.le_trans hl.1 (Nat.le_of_ble_eq_true rfl), hl.2, trivial⟩
theorem Q188 (p1 : Val) (p2 : BA) (o0 : Decoder) (H : Qz7 p1) : Q7 G (Q15p p1 p2 o0) (Q11l p1 p2 o0) := by
 unfold Q11l
 rw [Q16q]
 have hl0 := Qlt p1 p2 o0 ((Qpc p1 p2 o0 H).2.1) (Ql (Q0 p1 p2 o0).1 4 (Q0 p1 p2 o0).2).1.list 0 (Ql (Q0 p1 p2 o0).1 4 (Q0 p1 p2 o0).2).2.wrong [] (by simp) (by simp)
 obtain ⟨z0, zo0, hl0⟩ := hl0
 exact Qa (fn := Ir.K1u) rfl (h := [⟨1, 0, false, (Decoder.cells o0)⟩, ⟨1, 0, false, [.bx 0 0]⟩]) (vw := []) VOK.nil [hP 10 (Qs (Val.rows (Ql (Q0 p1 p2 o0).1 4 (Q0 p1 p2 o0).2).1.list) (List.length (Ql (Q0 p1 p2 o0).1 4 (Q0 p1 p2 o0).2).1.list) (Val.Q8 (Ql (Q0 p1 p2 o0).1 4 (Q0 p1 p2 o0).2).1.list)), hS 0 true (WorkItem.Qb (Q2q p1 p2 o0 (Ql (Q0 p1 p2 o0).1 4 (Q0 p1 p2 o0).2).1.list 0 (Ql (Q0 p1 p2 o0).1 4 (Q0 p1 p2 o0).2).2.wrong []).2 2 rfl), hQ (WorkItem.Q8 (Q2q p1 p2 o0 (Ql (Q0 p1 p2 o0).1 4 (Q0 p1 p2 o0).2).1.list 0 (Ql (Q0 p1 p2 o0).1 4 (Q0 p1 p2 o0).2).2.wrong []).2).symm] [aN (Qin p1 p2 o0 (Qpc p1 p2 o0 H).1), aN (Q83 (Q0 p1 p2 o0).1 4 (Q0 p1 p2 o0).2), aV [(2, WorkItem.rows (Q2q p1 p2 o0 (Ql (Q0 p1 p2 o0).1 4 (Q0 p1 p2 o0).2).1.list 0 (Ql (Q0 p1 p2 o0).1 4 (Q0 p1 p2 o0).2).2.wrong []).2)] hl0] (by kernel_rfl)
def Q3r (p0 : Val) (o1 : Decoder) : ByteArray × Decoder := ((xS p0).1, bp o1 (cK 3 p0))
theorem Q16n (p0 : Val) (o1 : Decoder) : Q3r p0 o1 = (((Ql p0 3 o1).1.s, (Ql p0 3 o1).2)) := by
  exact Prod.ext (getS p0).symm rfl
def Q15m (p0 : Val) (o1 : Decoder) : En := .call 70 [.agg (Val.cells p0), .bx 0 0] [⟨1, 0, false, [.bx 1 0]⟩, ⟨1, 0, false, (Decoder.cells o1)⟩]
def Q17i (_p0 : Val) (_o1 : Decoder) (q0 : BA) (q1 : Decoder) : Rs := .ret (.str q0) [⟨1, 0, false, [.bx 1 0]⟩, ⟨1, 0, false, (Decoder.cells q1)⟩]
def Q11i (p0 : Val) (o1 : Decoder) : Rs := Q17i p0 o1 (Q3r p0 o1).1 (Q3r p0 o1).2
theorem Q186 (p0 : Val) (o1 : Decoder) : Q7 G (Q15m p0 o1) (Q11i p0 o1) := by
 unfold Q11i
 rw [Q16n]
 exact Qa (fn := Ir.K1r) rfl (h := [⟨1, 0, false, [.bx 1 0]⟩, ⟨1, 0, false, (Decoder.cells o1)⟩]) (vw := []) VOK.nil [] [aN (Q83 p0 3 o1)] (by kernel_rfl)
def Q2t (p1 : Val) (p2 : BA) (o0 : Decoder) : List Val → Nat → Int → (List ByteArray) → Int × (List ByteArray)
 | [], _i0, v0_1, v0_2 =>
  (v0_1, v0_2)
 | x0 :: r0, i0, v0_1, v0_2 =>
  Q2t p1 p2 o0 r0 (i0 + 1) (Q3r x0 (Decoder.mk v0_1)).2.wrong (v0_2 ++ [(Q3r x0 (Decoder.mk v0_1)).1])
def Qj0 (p1 : Val) (p2 : BA) (o0 : Decoder) (i0 : Nat) (_v0_1 : Int) (v0_2 : List ByteArray) : List PV :=
  [.un, .un, .un, .fn 70 [] [.bx 1 0]] ++ nuns 5 ++ [.ms 2 1 0 (List.length v0_2)] ++ nuns 8 ++ [.sl (Val.rows (Ql (Q0 p1 p2 o0).1 4 (Q0 p1 p2 o0).2).1.list), .int .i64 ((List.length (Ql (Q0 p1 p2 o0).1 4 (Q0 p1 p2 o0).2).1.list) : Int), .int .i64 (i0 : Int)] ++ nuns 11
def Qaq (_p1 : Val) (_p2 : BA) (_o0 : Decoder) (_i0 : Nat) (v0_1 : Int) (v0_2 : List ByteArray) : List Ob :=
  [⟨1, 0, false, [.int .i64 v0_1]⟩, ⟨1, 0, false, [.bx 0 0]⟩, ⟨1, 0, true, (Qg v0_2).flatten⟩]
def Q9j (p1 : Val) (p2 : BA) (o0 : Decoder) (i0 : Nat) (v0_1 : Int) (v0_2 : List ByteArray) : En := .loop 2 Ir.Qbd Ir.Qyf (Qj0 p1 p2 o0 i0 v0_1 v0_2) (Qaq p1 p2 o0 i0 v0_1 v0_2)
def Qef (_p1 : Val) (_p2 : BA) (_o0 : Decoder) (q0 : Int) (q1 : List ByteArray) (z : Nat → PV) (_zo : Nat → List PV) : St :=
  ⟨zr z 0 9 ++ [.ms 2 1 0 (List.length q1)] ++ zr z 10 22, [(0, ⟨1, 0, false, [.int .i64 q0]⟩), (1, ⟨1, 0, false, [.bx 0 0]⟩), (2, ⟨1, 0, true, (Qg q1).flatten⟩)], 67⟩
theorem Qot (p1 : Val) (p2 : BA) (o0 : Decoder) (i0 : Nat) (v0_1 : Int) (v0_2 : List ByteArray) : VOK (Go.Pv.look (number 0 (Qaq p1 p2 o0 i0 v0_1 v0_2))) [(2, Qg v0_2)] := (VOK.cons (show Seen _ _ from Q3n (ob := ⟨1, 0, true, (Qg v0_2).flatten⟩) (Q4f v0_2 1 rfl)) VOK.nil)
def Qa1 (p1 : Val) (p2 : BA) (o0 : Decoder) (e : En) (q : Int × (List ByteArray)) : Prop := ∃ z zo, Q7 G e (.st (.exit 0) (Qef p1 p2 o0 q.1 q.2 z zo))
theorem Qhk (p1 : Val) (p2 : BA) (o0 : Decoder) {e e' : En} (h : ∀ r, Q7 G e r → Q7 G e' r) : ∀ q, Qa1 p1 p2 o0 e q → Qa1 p1 p2 o0 e' q
  | _, ⟨z, zo, hz⟩ => ⟨z, zo, h _ hz⟩
def Q7i (p1 : Val) (p2 : BA) (o0 : Decoder) : Prop := (List.length (Ql (Q0 p1 p2 o0).1 4 (Q0 p1 p2 o0).2).1.list ≤ 137438953472) ∧ True
def Qfi (p1 : Val) (p2 : BA) (o0 : Decoder) (i0 : Nat) (_v0_1 : Int) (_v0_2 : List ByteArray) : List PV :=
  [.un, .un, .un, .fn 70 [] [.bx 1 0]] ++ nuns 14 ++ [.sl (Val.rows (Ql (Q0 p1 p2 o0).1 4 (Q0 p1 p2 o0).2).1.list), .int .i64 ((List.length (Ql (Q0 p1 p2 o0).1 4 (Q0 p1 p2 o0).2).1.list) : Int), .int .i64 (i0 : Int), .bool false]
def Qc4 (_p1 : Val) (_p2 : BA) (_o0 : Decoder) (_i0 : Nat) (_v0_1 : Int) (_v0_2 : List ByteArray) : List (Nat × List PV) :=
  []
theorem Qsk (p1 : Val) (p2 : BA) (o0 : Decoder) (_H : Q7i p1 p2 o0) (i0 : Nat) (v0_1 : Int) (v0_2 : List ByteArray) (_ho0_0 : List.length v0_2 ≤ i0) (hc0 : (decide ((i0 : Int) < ((List.length (Ql (Q0 p1 p2 o0).1 4 (Q0 p1 p2 o0).2).1.list) : Int))) = false) : Qa1 p1 p2 o0 (Q9j p1 p2 o0 i0 v0_1 v0_2) (v0_1, v0_2) := by
 exact ⟨(envF (Qfi p1 p2 o0 i0 v0_1 v0_2)), (zoF (Qc4 p1 p2 o0 i0 v0_1 v0_2)), Qm (Qot p1 p2 o0 i0 v0_1 v0_2) (x := ((.exit 0), Qef p1 p2 o0 v0_1 v0_2 (envF (Qfi p1 p2 o0 i0 v0_1 v0_2)) (zoF (Qc4 p1 p2 o0 i0 v0_1 v0_2)))) [hB 0 hc0] [] (by kernel_rfl)⟩
theorem Qrq (p1 : Val) (p2 : BA) (o0 : Decoder) (H : Q7i p1 p2 o0) (x0 : Val) (i0 : Nat) (v0_1 : Int) (v0_2 : List ByteArray) (hx0 : (Ql (Q0 p1 p2 o0).1 4 (Q0 p1 p2 o0).2).1.list[i0]? = some x0) (hi0 : i0 < List.length (Ql (Q0 p1 p2 o0).1 4 (Q0 p1 p2 o0).2).1.list) (ho0_0 : List.length v0_2 ≤ i0) (hc0 : (decide ((i0 : Int) < ((List.length (Ql (Q0 p1 p2 o0).1 4 (Q0 p1 p2 o0).2).1.list) : Int))) = true) {r : Rs} (hr : Q7 G (Q9j p1 p2 o0 (i0 + 1) (Q3r x0 (Decoder.mk v0_1)).2.wrong (v0_2 ++ [(Q3r x0 (Decoder.mk v0_1)).1])) r) : Q7 G (Q9j p1 p2 o0 i0 v0_1 v0_2) r := by
 have hB0 := H.1
 exact Qn (Qot p1 p2 o0 i0 v0_1 v0_2) (y := (Qj0 p1 p2 o0 (i0 + 1) (Q3r x0 (Decoder.mk v0_1)).2.wrong (v0_2 ++ [(Q3r x0 (Decoder.mk v0_1)).1]), Qaq p1 p2 o0 (i0 + 1) (Q3r x0 (Decoder.mk v0_1)).2.wrong (v0_2 ++ [(Q3r x0 (Decoder.mk v0_1)).1]))) [hB 0 hc0, hP 0 (Q1x 5 (Val.rows (Ql (Q0 p1 p2 o0).1 4 (Q0 p1 p2 o0).2).1.list) i0 _ (Val.Qf hx0) rfl), hV 8 [(643, Qg (v0_2 ++ [(Q3r x0 (Decoder.mk v0_1)).1]))] (Q6y 2 579 643 1 16 0 0 true (Qg v0_2) (Qg (v0_2 ++ [(Q3r x0 (Decoder.mk v0_1)).1])) [.str (Q3r x0 (Decoder.mk v0_1)).1] (List.length v0_2) (List.length (v0_2 ++ [(Q3r x0 (Decoder.mk v0_1)).1])) rfl (Q1h v0_2).symm (Q1h (v0_2 ++ [(Q3r x0 (Decoder.mk v0_1)).1])).symm (Qnm v0_2 (Q3r x0 (Decoder.mk v0_1)).1) (Qd5 v0_2) rfl (by omega)), hS 0 true (Q4f (v0_2 ++ [(Q3r x0 (Decoder.mk v0_1)).1]) 1 rfl), hP 1 (Q1o i0 (by omega))] [aN (Q186 x0 (Decoder.mk v0_1))] (by kernel_rfl) hr
theorem Qlw (p1 : Val) (p2 : BA) (o0 : Decoder) (H : Q7i p1 p2 o0) : ∀ (r0 : List Val) (i0 : Nat) (v0_1 : Int) (v0_2 : List ByteArray), List.drop i0 (Ql (Q0 p1 p2 o0).1 4 (Q0 p1 p2 o0).2).1.list = r0 → List.length v0_2 ≤ i0 → Qa1 p1 p2 o0 (Q9j p1 p2 o0 i0 v0_1 v0_2) (Q2t p1 p2 o0 r0 i0 v0_1 v0_2)
 | [], i0, v0_1, v0_2, hd, ho0_0 => by
  have hc0 : (decide ((i0 : Int) < ((List.length (Ql (Q0 p1 p2 o0).1 4 (Q0 p1 p2 o0).2).1.list) : Int))) = false := by have := Q1d hd; simp; omega
  rw [Q2t]
  exact Qsk p1 p2 o0 H i0 v0_1 v0_2 ho0_0 hc0
 | x0 :: r0, i0, v0_1, v0_2, hd, ho0_0 => by
  obtain ⟨hx0, hi0, hd'⟩ := Q19 hd
  have hc0 : (decide ((i0 : Int) < ((List.length (Ql (Q0 p1 p2 o0).1 4 (Q0 p1 p2 o0).2).1.list) : Int))) = true := by simp; omega
  rw [Q2t]
  exact Qhk p1 p2 o0 (fun r hr => Qrq p1 p2 o0 H x0 i0 v0_1 v0_2 hx0 hi0 ho0_0 hc0 hr) _ (Qlw p1 p2 o0 H r0 (i0 + 1) (Q3r x0 (Decoder.mk v0_1)).2.wrong (v0_2 ++ [(Q3r x0 (Decoder.mk v0_1)).1]) hd' (by first | omega | (simp; omega)))
def Q6l (p1 : Val) (p2 : BA) (o0 : Decoder) : List ByteArray × Decoder := ((dE xS p1 p2).1, bp o0 (pE (cK 3) p1 p2))
theorem Qqj (p1 : Val) (p2 : BA) (o0 : Decoder) : ∀ (l : List Val) (i : Nat) (b : Int) (a : List ByteArray), Q2t p1 p2 o0 l i b a = (bw b (sumC (cK 3) l), a ++ l.map (fun x => (xS x).1))
  | [], _, b, a => by rw [Q2t]; simp [sumC, bw]
  | x :: l, i, b, a => by
    rw [Q2t]
    refine (Qqj p1 p2 o0 l (i + 1) (bw b ((cK 3) x)) (a ++ [(xS x).1])).trans ?_
    rw [Qhy]
    simp only [List.append_assoc, List.singleton_append, List.map_cons, sumC]
theorem Q16t (p1 : Val) (p2 : BA) (o0 : Decoder) : Q6l p1 p2 o0 = (((Q2t p1 p2 o0 (Ql (Q0 p1 p2 o0).1 4 (Q0 p1 p2 o0).2).1.list 0 (Ql (Q0 p1 p2 o0).1 4 (Q0 p1 p2 o0).2).2.wrong []).2, (Decoder.mk (Q2t p1 p2 o0 (Ql (Q0 p1 p2 o0).1 4 (Q0 p1 p2 o0).2).1.list 0 (Ql (Q0 p1 p2 o0).1 4 (Q0 p1 p2 o0).2).2.wrong []).1))) := by
  rw [Qqj]
  unfold Q0 Ql Q6l
  simp only [Q6z, getL, Qae, Qhy]
  rfl
def Q15s (p1 : Val) (p2 : BA) (o0 : Decoder) : En := .call 69 [.bx 0 0, .agg (Val.cells p1), .str p2, .fn 70 [] [.bx 1 0]] [⟨1, 0, false, (Decoder.cells o0)⟩, ⟨1, 0, false, [.bx 0 0]⟩]
def Q17o (_p1 : Val) (_p2 : BA) (_o0 : Decoder) (q0 : List ByteArray) (q1 : Decoder) : Rs := .ret (.sl (Qg q0)) [⟨1, 0, false, (Decoder.cells q1)⟩, ⟨1, 0, false, [.bx 0 0]⟩]
def Q11o (p1 : Val) (p2 : BA) (o0 : Decoder) : Rs := Q17o p1 p2 o0 (Q6l p1 p2 o0).1 (Q6l p1 p2 o0).2
def Qza (p1 : Val) : Prop := Val.Sm 1000000000 p1
theorem Qpf (p1 : Val) (p2 : BA) (o0 : Decoder) (H : Qza p1) : (Qav p1) ∧ (Q7i p1 p2 o0) ∧ True := by
  have hl := Qy4 (Q4e H p2)
  refine ⟨H, ?_, trivial⟩
  unfold Q7i Q0 Ql
  simp only [getL]
  exact ⟨Nat.le_trans hl.1 (Nat.le_of_ble_eq_true rfl), trivial⟩
theorem Q18a (p1 : Val) (p2 : BA) (o0 : Decoder) (H : Qza p1) : Q7 G (Q15s p1 p2 o0) (Q11o p1 p2 o0) := by
 unfold Q11o
 rw [Q16t]
 have hl0 := Qlw p1 p2 o0 ((Qpf p1 p2 o0 H).2.1) (Ql (Q0 p1 p2 o0).1 4 (Q0 p1 p2 o0).2).1.list 0 (Ql (Q0 p1 p2 o0).1 4 (Q0 p1 p2 o0).2).2.wrong [] (by simp) (by simp)
 obtain ⟨z0, zo0, hl0⟩ := hl0
 exact Qa (fn := Ir.K1x) rfl (h := [⟨1, 0, false, (Decoder.cells o0)⟩, ⟨1, 0, false, [.bx 0 0]⟩]) (vw := []) VOK.nil [hP 10 (Qs (Val.rows (Ql (Q0 p1 p2 o0).1 4 (Q0 p1 p2 o0).2).1.list) (List.length (Ql (Q0 p1 p2 o0).1 4 (Q0 p1 p2 o0).2).1.list) (Val.Q8 (Ql (Q0 p1 p2 o0).1 4 (Q0 p1 p2 o0).2).1.list)), hS 0 true (Q4f (Q2t p1 p2 o0 (Ql (Q0 p1 p2 o0).1 4 (Q0 p1 p2 o0).2).1.list 0 (Ql (Q0 p1 p2 o0).1 4 (Q0 p1 p2 o0).2).2.wrong []).2 1 rfl), hQ (Q1h (Q2t p1 p2 o0 (Ql (Q0 p1 p2 o0).1 4 (Q0 p1 p2 o0).2).1.list 0 (Ql (Q0 p1 p2 o0).1 4 (Q0 p1 p2 o0).2).2.wrong []).2).symm] [aN (Qin p1 p2 o0 (Qpf p1 p2 o0 H).1), aN (Q83 (Q0 p1 p2 o0).1 4 (Q0 p1 p2 o0).2), aV [(2, Qg (Q2t p1 p2 o0 (Ql (Q0 p1 p2 o0).1 4 (Q0 p1 p2 o0).2).1.list 0 (Ql (Q0 p1 p2 o0).1 4 (Q0 p1 p2 o0).2).2.wrong []).2)] hl0] (by kernel_rfl)
def Q3q (p0 : Val) (o1 : Decoder) : Requirement × Decoder := ((Requirement.dec p0).1, bp o1 (Requirement.cnt p0))
theorem Q16m (p0 : Val) (o1 : Decoder) : Q3q p0 o1 = (((Requirement.mk (Q5l p0 Q10 (Ql p0 5 (Q6l p0 Qy o1).2).2).1 (Qr p0 Q32 (Q5l p0 Q10 (Ql p0 5 (Q6l p0 Qy o1).2).2).2).1 (Q6l p0 Qy o1).1), (Qr p0 Q32 (Q5l p0 Q10 (Ql p0 5 (Q6l p0 Qy o1).2).2).2).2)) := by
  simp only [Ql, Qr, Q5l, Q6l, Q3q, Q6z]
  refine Prod.ext rfl (congrArg (bp o1) ?_)
  show Requirement.cnt p0 = _
  try unfold Requirement.cnt
  try unfold cM
  first | rfl | omega
def Q15l (p0 : Val) (o1 : Decoder) : En := .call 68 [.agg (Val.cells p0), .bx 0 0] [⟨1, 0, false, [.bx 1 0]⟩, ⟨1, 0, false, (Decoder.cells o1)⟩]
def Q17h (_p0 : Val) (_o1 : Decoder) (q0 : Requirement) (q1 : Decoder) : Rs := .ret (.agg (Requirement.cells q0)) [⟨1, 0, false, [.bx 1 0]⟩, ⟨1, 0, false, (Decoder.cells q1)⟩]
def Q11h (p0 : Val) (o1 : Decoder) : Rs := Q17h p0 o1 (Q3q p0 o1).1 (Q3q p0 o1).2
def Qz5 (p0 : Val) : Prop := Val.Sm 1000000000 p0
theorem Qi7 (p0 : Val) (_o1 : Decoder) (H : Qz5 p0) : (Qza p0) ∧ (Qwp p0) ∧ (Qgy p0) ∧ True := by
  repeat' with_reducible apply And.intro
  all_goals first | exact True.intro | exact H | exact Q4e H _
theorem Q185 (p0 : Val) (o1 : Decoder) (H : Qz5 p0) : Q7 G (Q15l p0 o1) (Q11h p0 o1) := by
 unfold Q11h
 rw [Q16m]
 exact Qa (fn := Ir.K1q) rfl (h := [⟨1, 0, false, [.bx 1 0]⟩, ⟨1, 0, false, (Decoder.cells o1)⟩]) (vw := []) VOK.nil [] [aN (Q18a p0 Qy o1 (Qi7 p0 o1 H).1), aN (Q83 p0 5 (Q6l p0 Qy o1).2), aN (Q130 p0 Q10 (Ql p0 5 (Q6l p0 Qy o1).2).2 (Qi7 p0 o1 H).2.1), aN (Q8q p0 Q32 (Q5l p0 Q10 (Ql p0 5 (Q6l p0 Qy o1).2).2).2 (Qi7 p0 o1 H).2.2.1)] (by kernel_rfl)
def Q2s (p1 : Val) (p2 : BA) (o0 : Decoder) : List Val → Nat → Int → (List Requirement) → Int × (List Requirement)
 | [], _i0, v0_1, v0_2 =>
  (v0_1, v0_2)
 | x0 :: r0, i0, v0_1, v0_2 =>
  Q2s p1 p2 o0 r0 (i0 + 1) (Q3q x0 (Decoder.mk v0_1)).2.wrong (v0_2 ++ [(Q3q x0 (Decoder.mk v0_1)).1])
def Qiz (p1 : Val) (p2 : BA) (o0 : Decoder) (i0 : Nat) (_v0_1 : Int) (v0_2 : List Requirement) : List PV :=
  [.un, .un, .un, .fn 68 [] [.bx 1 0]] ++ nuns 5 ++ [.ms 2 3 0 (List.length v0_2)] ++ nuns 8 ++ [.sl (Val.rows (Ql (Q0 p1 p2 o0).1 4 (Q0 p1 p2 o0).2).1.list), .int .i64 ((List.length (Ql (Q0 p1 p2 o0).1 4 (Q0 p1 p2 o0).2).1.list) : Int), .int .i64 (i0 : Int)] ++ nuns 11
def Qap (_p1 : Val) (_p2 : BA) (_o0 : Decoder) (_i0 : Nat) (v0_1 : Int) (v0_2 : List Requirement) : List Ob :=
  [⟨1, 0, false, [.int .i64 v0_1]⟩, ⟨1, 0, false, [.bx 0 0]⟩, ⟨3, 0, true, (Requirement.rows v0_2).flatten⟩]
def Q9i (p1 : Val) (p2 : BA) (o0 : Decoder) (i0 : Nat) (v0_1 : Int) (v0_2 : List Requirement) : En := .loop 2 Ir.Qbc Ir.Qye (Qiz p1 p2 o0 i0 v0_1 v0_2) (Qap p1 p2 o0 i0 v0_1 v0_2)
def Qee (_p1 : Val) (_p2 : BA) (_o0 : Decoder) (q0 : Int) (q1 : List Requirement) (z : Nat → PV) (_zo : Nat → List PV) : St :=
  ⟨zr z 0 9 ++ [.ms 2 3 0 (List.length q1)] ++ zr z 10 22, [(0, ⟨1, 0, false, [.int .i64 q0]⟩), (1, ⟨1, 0, false, [.bx 0 0]⟩), (2, ⟨3, 0, true, (Requirement.rows q1).flatten⟩)], 67⟩
theorem Qos (p1 : Val) (p2 : BA) (o0 : Decoder) (i0 : Nat) (v0_1 : Int) (v0_2 : List Requirement) : VOK (Go.Pv.look (number 0 (Qap p1 p2 o0 i0 v0_1 v0_2))) [(2, Requirement.rows v0_2)] := (VOK.cons (show Seen _ _ from Q3n (ob := ⟨3, 0, true, (Requirement.rows v0_2).flatten⟩) (Requirement.Qb v0_2 3 rfl)) VOK.nil)
def Qa0 (p1 : Val) (p2 : BA) (o0 : Decoder) (e : En) (q : Int × (List Requirement)) : Prop := ∃ z zo, Q7 G e (.st (.exit 0) (Qee p1 p2 o0 q.1 q.2 z zo))
theorem Qhj (p1 : Val) (p2 : BA) (o0 : Decoder) {e e' : En} (h : ∀ r, Q7 G e r → Q7 G e' r) : ∀ q, Qa0 p1 p2 o0 e q → Qa0 p1 p2 o0 e' q
  | _, ⟨z, zo, hz⟩ => ⟨z, zo, h _ hz⟩
def Q7h (p1 : Val) (p2 : BA) (o0 : Decoder) : Prop := (List.length (Ql (Q0 p1 p2 o0).1 4 (Q0 p1 p2 o0).2).1.list ≤ 137438953472) ∧ (∀ x0 ∈ (Ql (Q0 p1 p2 o0).1 4 (Q0 p1 p2 o0).2).1.list, Qz5 x0) ∧ True
def Qfh (p1 : Val) (p2 : BA) (o0 : Decoder) (i0 : Nat) (_v0_1 : Int) (_v0_2 : List Requirement) : List PV :=
  [.un, .un, .un, .fn 68 [] [.bx 1 0]] ++ nuns 14 ++ [.sl (Val.rows (Ql (Q0 p1 p2 o0).1 4 (Q0 p1 p2 o0).2).1.list), .int .i64 ((List.length (Ql (Q0 p1 p2 o0).1 4 (Q0 p1 p2 o0).2).1.list) : Int), .int .i64 (i0 : Int), .bool false]
def Qc3 (_p1 : Val) (_p2 : BA) (_o0 : Decoder) (_i0 : Nat) (_v0_1 : Int) (_v0_2 : List Requirement) : List (Nat × List PV) :=
  []
theorem Qsj (p1 : Val) (p2 : BA) (o0 : Decoder) (_H : Q7h p1 p2 o0) (i0 : Nat) (v0_1 : Int) (v0_2 : List Requirement) (_ho0_0 : List.length v0_2 ≤ i0) (hc0 : (decide ((i0 : Int) < ((List.length (Ql (Q0 p1 p2 o0).1 4 (Q0 p1 p2 o0).2).1.list) : Int))) = false) : Qa0 p1 p2 o0 (Q9i p1 p2 o0 i0 v0_1 v0_2) (v0_1, v0_2) := by
 exact ⟨(envF (Qfh p1 p2 o0 i0 v0_1 v0_2)), (zoF (Qc3 p1 p2 o0 i0 v0_1 v0_2)), Qm (Qos p1 p2 o0 i0 v0_1 v0_2) (x := ((.exit 0), Qee p1 p2 o0 v0_1 v0_2 (envF (Qfh p1 p2 o0 i0 v0_1 v0_2)) (zoF (Qc3 p1 p2 o0 i0 v0_1 v0_2)))) [hB 0 hc0] [] (by kernel_rfl)⟩
theorem Qrp (p1 : Val) (p2 : BA) (o0 : Decoder) (H : Q7h p1 p2 o0) (x0 : Val) (i0 : Nat) (v0_1 : Int) (v0_2 : List Requirement) (hx0 : (Ql (Q0 p1 p2 o0).1 4 (Q0 p1 p2 o0).2).1.list[i0]? = some x0) (hi0 : i0 < List.length (Ql (Q0 p1 p2 o0).1 4 (Q0 p1 p2 o0).2).1.list) (ho0_0 : List.length v0_2 ≤ i0) (hc0 : (decide ((i0 : Int) < ((List.length (Ql (Q0 p1 p2 o0).1 4 (Q0 p1 p2 o0).2).1.list) : Int))) = true) {r : Rs} (hr : Q7 G (Q9i p1 p2 o0 (i0 + 1) (Q3q x0 (Decoder.mk v0_1)).2.wrong (v0_2 ++ [(Q3q x0 (Decoder.mk v0_1)).1])) r) : Q7 G (Q9i p1 p2 o0 i0 v0_1 v0_2) r := by
 have hB0 := H.1
 exact Qn (Qos p1 p2 o0 i0 v0_1 v0_2) (y := (Qiz p1 p2 o0 (i0 + 1) (Q3q x0 (Decoder.mk v0_1)).2.wrong (v0_2 ++ [(Q3q x0 (Decoder.mk v0_1)).1]), Qap p1 p2 o0 (i0 + 1) (Q3q x0 (Decoder.mk v0_1)).2.wrong (v0_2 ++ [(Q3q x0 (Decoder.mk v0_1)).1]))) [hB 0 hc0, hP 0 (Q1x 5 (Val.rows (Ql (Q0 p1 p2 o0).1 4 (Q0 p1 p2 o0).2).1.list) i0 _ (Val.Qf hx0) rfl), hV 8 [(643, Requirement.rows (v0_2 ++ [(Q3q x0 (Decoder.mk v0_1)).1]))] (Q6y 2 579 643 3 48 0 0 true (Requirement.rows v0_2) (Requirement.rows (v0_2 ++ [(Q3q x0 (Decoder.mk v0_1)).1])) (Requirement.cells (Q3q x0 (Decoder.mk v0_1)).1) (List.length v0_2) (List.length (v0_2 ++ [(Q3q x0 (Decoder.mk v0_1)).1])) rfl (Requirement.Q8 v0_2).symm (Requirement.Q8 (v0_2 ++ [(Q3q x0 (Decoder.mk v0_1)).1])).symm (Requirement.Q1g v0_2 (Q3q x0 (Decoder.mk v0_1)).1) (Requirement.Qh v0_2) rfl (by omega)), hS 0 true (Requirement.Qb (v0_2 ++ [(Q3q x0 (Decoder.mk v0_1)).1]) 3 rfl), hP 1 (Q1o i0 (by omega))] [aN (Q185 x0 (Decoder.mk v0_1) (H.2.1 x0 (Q29 hx0)))] (by kernel_rfl) hr
theorem Qlv (p1 : Val) (p2 : BA) (o0 : Decoder) (H : Q7h p1 p2 o0) : ∀ (r0 : List Val) (i0 : Nat) (v0_1 : Int) (v0_2 : List Requirement), List.drop i0 (Ql (Q0 p1 p2 o0).1 4 (Q0 p1 p2 o0).2).1.list = r0 → List.length v0_2 ≤ i0 → Qa0 p1 p2 o0 (Q9i p1 p2 o0 i0 v0_1 v0_2) (Q2s p1 p2 o0 r0 i0 v0_1 v0_2)
 | [], i0, v0_1, v0_2, hd, ho0_0 => by
  have hc0 : (decide ((i0 : Int) < ((List.length (Ql (Q0 p1 p2 o0).1 4 (Q0 p1 p2 o0).2).1.list) : Int))) = false := by have := Q1d hd; simp; omega
  rw [Q2s]
  exact Qsj p1 p2 o0 H i0 v0_1 v0_2 ho0_0 hc0
 | x0 :: r0, i0, v0_1, v0_2, hd, ho0_0 => by
  obtain ⟨hx0, hi0, hd'⟩ := Q19 hd
  have hc0 : (decide ((i0 : Int) < ((List.length (Ql (Q0 p1 p2 o0).1 4 (Q0 p1 p2 o0).2).1.list) : Int))) = true := by simp; omega
  rw [Q2s]
  exact Qhj p1 p2 o0 (fun r hr => Qrp p1 p2 o0 H x0 i0 v0_1 v0_2 hx0 hi0 ho0_0 hc0 hr) _ (Qlv p1 p2 o0 H r0 (i0 + 1) (Q3q x0 (Decoder.mk v0_1)).2.wrong (v0_2 ++ [(Q3q x0 (Decoder.mk v0_1)).1]) hd' (by first | omega | (simp; omega)))
def Qdi (p1 : Val) (p2 : BA) (o0 : Decoder) : List Requirement × Decoder := ((dE Requirement.dec p1 p2).1, bp o0 (pE (Requirement.cnt) p1 p2))
theorem Qqi (p1 : Val) (p2 : BA) (o0 : Decoder) : ∀ (l : List Val) (i : Nat) (b : Int) (a : List Requirement), Q2s p1 p2 o0 l i b a = (bw b (sumC (Requirement.cnt) l), a ++ l.map (fun x => (Requirement.dec x).1))
  | [], _, b, a => by rw [Q2s]; simp [sumC, bw]
  | x :: l, i, b, a => by
    rw [Q2s]
    refine (Qqi p1 p2 o0 l (i + 1) (bw b ((Requirement.cnt) x)) (a ++ [(Requirement.dec x).1])).trans ?_
    rw [Qhy]
    simp only [List.append_assoc, List.singleton_append, List.map_cons, sumC]
theorem Q16s (p1 : Val) (p2 : BA) (o0 : Decoder) : Qdi p1 p2 o0 = (((Q2s p1 p2 o0 (Ql (Q0 p1 p2 o0).1 4 (Q0 p1 p2 o0).2).1.list 0 (Ql (Q0 p1 p2 o0).1 4 (Q0 p1 p2 o0).2).2.wrong []).2, (Decoder.mk (Q2s p1 p2 o0 (Ql (Q0 p1 p2 o0).1 4 (Q0 p1 p2 o0).2).1.list 0 (Ql (Q0 p1 p2 o0).1 4 (Q0 p1 p2 o0).2).2.wrong []).1))) := by
  rw [Qqi]
  unfold Q0 Ql Qdi
  simp only [Q6z, getL, Qae, Qhy]
  rfl
def Q15r (p1 : Val) (p2 : BA) (o0 : Decoder) : En := .call 67 [.bx 0 0, .agg (Val.cells p1), .str p2, .fn 68 [] [.bx 1 0]] [⟨1, 0, false, (Decoder.cells o0)⟩, ⟨1, 0, false, [.bx 0 0]⟩]
def Q17n (_p1 : Val) (_p2 : BA) (_o0 : Decoder) (q0 : List Requirement) (q1 : Decoder) : Rs := .ret (.sl (Requirement.rows q0)) [⟨1, 0, false, (Decoder.cells q1)⟩, ⟨1, 0, false, [.bx 0 0]⟩]
def Q11n (p1 : Val) (p2 : BA) (o0 : Decoder) : Rs := Q17n p1 p2 o0 (Qdi p1 p2 o0).1 (Qdi p1 p2 o0).2
def Qz9 (p1 : Val) : Prop := Val.Sm 1000000000 p1
theorem Qpe (p1 : Val) (p2 : BA) (o0 : Decoder) (H : Qz9 p1) : (Qav p1) ∧ (Q7h p1 p2 o0) ∧ True := by
  have hl := Qy4 (Q4e H p2)
  refine ⟨H, ?_, trivial⟩
  unfold Q7h Q0 Ql
  simp only [getL]
  exact ⟨Nat.le_trans hl.1 (Nat.le_of_ble_eq_true rfl), hl.2, trivial⟩
theorem Q189 (p1 : Val) (p2 : BA) (o0 : Decoder) (H : Qz9 p1) : Q7 G (Q15r p1 p2 o0) (Q11n p1 p2 o0) := by
 unfold Q11n
 rw [Q16s]
 have hl0 := Qlv p1 p2 o0 ((Qpe p1 p2 o0 H).2.1) (Ql (Q0 p1 p2 o0).1 4 (Q0 p1 p2 o0).2).1.list 0 (Ql (Q0 p1 p2 o0).1 4 (Q0 p1 p2 o0).2).2.wrong [] (by simp) (by simp)
 obtain ⟨z0, zo0, hl0⟩ := hl0
 exact Qa (fn := Ir.K1w) rfl (h := [⟨1, 0, false, (Decoder.cells o0)⟩, ⟨1, 0, false, [.bx 0 0]⟩]) (vw := []) VOK.nil [hP 10 (Qs (Val.rows (Ql (Q0 p1 p2 o0).1 4 (Q0 p1 p2 o0).2).1.list) (List.length (Ql (Q0 p1 p2 o0).1 4 (Q0 p1 p2 o0).2).1.list) (Val.Q8 (Ql (Q0 p1 p2 o0).1 4 (Q0 p1 p2 o0).2).1.list)), hS 0 true (Requirement.Qb (Q2s p1 p2 o0 (Ql (Q0 p1 p2 o0).1 4 (Q0 p1 p2 o0).2).1.list 0 (Ql (Q0 p1 p2 o0).1 4 (Q0 p1 p2 o0).2).2.wrong []).2 3 rfl), hQ (Requirement.Q8 (Q2s p1 p2 o0 (Ql (Q0 p1 p2 o0).1 4 (Q0 p1 p2 o0).2).1.list 0 (Ql (Q0 p1 p2 o0).1 4 (Q0 p1 p2 o0).2).2.wrong []).2).symm] [aN (Qin p1 p2 o0 (Qpe p1 p2 o0 H).1), aN (Q83 (Q0 p1 p2 o0).1 4 (Q0 p1 p2 o0).2), aV [(2, Requirement.rows (Q2s p1 p2 o0 (Ql (Q0 p1 p2 o0).1 4 (Q0 p1 p2 o0).2).1.list 0 (Ql (Q0 p1 p2 o0).1 4 (Q0 p1 p2 o0).2).2.wrong []).2)] hl0] (by kernel_rfl)
def Q25 (p1 : Val) (o0 : Decoder) : List Requirement × Decoder := ((dE Requirement.dec p1 Q17).1, bp o0 (pE Requirement.cnt p1 Q17))
theorem Q16l (p1 : Val) (o0 : Decoder) : Q25 p1 o0 = (((Qdi p1 Q17 o0).1, (Qdi p1 Q17 o0).2)) := by
  rfl
def Q15k (p1 : Val) (o0 : Decoder) : En := .call 32 [.bx 0 0, .agg (Val.cells p1)] [⟨1, 0, false, (Decoder.cells o0)⟩]
def Q17g (_p1 : Val) (_o0 : Decoder) (q0 : List Requirement) (q1 : Decoder) : Rs := .ret (.sl (Requirement.rows q0)) [⟨1, 0, false, (Decoder.cells q1)⟩]
def Q11g (p1 : Val) (o0 : Decoder) : Rs := Q17g p1 o0 (Q25 p1 o0).1 (Q25 p1 o0).2
def Qz4 (p1 : Val) : Prop := Val.Sm 1000000000 p1
theorem Qx9 (p1 : Val) (_o0 : Decoder) (H : Qz4 p1) : (Qz9 p1) ∧ True := by
  repeat' with_reducible apply And.intro
  all_goals first | exact True.intro | exact H
theorem Q184 (p1 : Val) (o0 : Decoder) (H : Qz4 p1) : Q7 G (Q15k p1 o0) (Q11g p1 o0) := by
 unfold Q11g
 rw [Q16l]
 exact Qa (fn := Ir.K1p) rfl (h := [⟨1, 0, false, (Decoder.cells o0)⟩]) (vw := []) VOK.nil [] [aN (Q189 p1 Q17 o0 (Qx9 p1 o0 H).1)] (by kernel_rfl)
def Qij (p1 : Val) (o0 : Decoder) : Amount × Decoder := ((Amount.dec p1).1, bp o0 (Amount.cnt p1))
theorem Q16g (p1 : Val) (o0 : Decoder) : Qij p1 o0 = (((Amount.mk (Q81 p1 Q1b o0).1 (Qr p1 kw_n (Q81 p1 Q1b o0).2).1), (Qr p1 kw_n (Q81 p1 Q1b o0).2).2)) := by
  simp only [Qr, Q81, Qij, Q6z]
  refine Prod.ext rfl (congrArg (bp o0) ?_)
  show Amount.cnt p1 = _
  try unfold Amount.cnt
  try unfold cM
  first | rfl | omega
def Q15f (p1 : Val) (o0 : Decoder) : En := .call 29 [.bx 0 0, .agg (Val.cells p1)] [⟨1, 0, false, (Decoder.cells o0)⟩]
def Q17b (_p1 : Val) (_o0 : Decoder) (q0 : Amount) (q1 : Decoder) : Rs := .ret (.agg (Amount.cells q0)) [⟨1, 0, false, (Decoder.cells q1)⟩]
def Q11b (p1 : Val) (o0 : Decoder) : Rs := Q17b p1 o0 (Qij p1 o0).1 (Qij p1 o0).2
def Qz3 (p1 : Val) : Prop := Val.Sm 1000000000 p1
theorem Qpb (p1 : Val) (_o0 : Decoder) (H : Qz3 p1) : (Qz6 p1) ∧ (Qgy p1) ∧ True := by
  repeat' with_reducible apply And.intro
  all_goals first | exact True.intro | exact H | exact Q4e H _
theorem Q183 (p1 : Val) (o0 : Decoder) (H : Qz3 p1) : Q7 G (Q15f p1 o0) (Q11b p1 o0) := by
 unfold Q11b
 rw [Q16g]
 exact Qa (fn := Ir.K1i) rfl (h := [⟨1, 0, false, (Decoder.cells o0)⟩]) (vw := []) VOK.nil [] [aN (Q187 p1 Q1b o0 (Qpb p1 o0 H).1), aN (Q8q p1 kw_n (Q81 p1 Q1b o0).2 (Qpb p1 o0 H).2.1)] (by kernel_rfl)
def Q4b (p0 : Val) (o1 : Decoder) : Amount × Decoder := ((Amount.dec p0).1, bp o1 (Amount.cnt p0))
theorem Q16d (p0 : Val) (o1 : Decoder) : Q4b p0 o1 = (((Qij p0 o1).1, (Qij p0 o1).2)) := by
  rfl
def Q15c (p0 : Val) (o1 : Decoder) : En := .call 28 [.agg (Val.cells p0), .bx 0 0] [⟨1, 0, false, [.bx 1 0]⟩, ⟨1, 0, false, (Decoder.cells o1)⟩]
def Q17a (_p0 : Val) (_o1 : Decoder) (q0 : Amount) (q1 : Decoder) : Rs := .ret (.agg (Amount.cells q0)) [⟨1, 0, false, [.bx 1 0]⟩, ⟨1, 0, false, (Decoder.cells q1)⟩]
def Q118 (p0 : Val) (o1 : Decoder) : Rs := Q17a p0 o1 (Q4b p0 o1).1 (Q4b p0 o1).2
def Qz2 (p0 : Val) : Prop := Val.Sm 1000000000 p0
theorem Qx6 (p0 : Val) (_o1 : Decoder) (H : Qz2 p0) : (Qz3 p0) ∧ True := by
  repeat' with_reducible apply And.intro
  all_goals first | exact True.intro | exact H
theorem Q181 (p0 : Val) (o1 : Decoder) (H : Qz2 p0) : Q7 G (Q15c p0 o1) (Q118 p0 o1) := by
 unfold Q118
 rw [Q16d]
 exact Qa (fn := Ir.K1e) rfl (h := [⟨1, 0, false, [.bx 1 0]⟩, ⟨1, 0, false, (Decoder.cells o1)⟩]) (vw := []) VOK.nil [] [aN (Q183 p0 o1 (Qx6 p0 o1 H).1)] (by kernel_rfl)
def Q2r (p1 : Val) (p2 : BA) (o0 : Decoder) : List Val → Nat → Int → (List Amount) → Int × (List Amount)
 | [], _i0, v0_1, v0_2 =>
  (v0_1, v0_2)
 | x0 :: r0, i0, v0_1, v0_2 =>
  Q2r p1 p2 o0 r0 (i0 + 1) (Q4b x0 (Decoder.mk v0_1)).2.wrong (v0_2 ++ [(Q4b x0 (Decoder.mk v0_1)).1])
def Qiy (p1 : Val) (p2 : BA) (o0 : Decoder) (i0 : Nat) (_v0_1 : Int) (v0_2 : List Amount) : List PV :=
  [.un, .un, .un, .fn 28 [] [.bx 1 0]] ++ nuns 5 ++ [.ms 2 2 0 (List.length v0_2)] ++ nuns 8 ++ [.sl (Val.rows (Ql (Q0 p1 p2 o0).1 4 (Q0 p1 p2 o0).2).1.list), .int .i64 ((List.length (Ql (Q0 p1 p2 o0).1 4 (Q0 p1 p2 o0).2).1.list) : Int), .int .i64 (i0 : Int)] ++ nuns 11
def Qao (_p1 : Val) (_p2 : BA) (_o0 : Decoder) (_i0 : Nat) (v0_1 : Int) (v0_2 : List Amount) : List Ob :=
  [⟨1, 0, false, [.int .i64 v0_1]⟩, ⟨1, 0, false, [.bx 0 0]⟩, ⟨2, 0, true, (Amount.rows v0_2).flatten⟩]
def Q9h (p1 : Val) (p2 : BA) (o0 : Decoder) (i0 : Nat) (v0_1 : Int) (v0_2 : List Amount) : En := .loop 2 Ir.Qbb Ir.Qyd (Qiy p1 p2 o0 i0 v0_1 v0_2) (Qao p1 p2 o0 i0 v0_1 v0_2)
def Qed (_p1 : Val) (_p2 : BA) (_o0 : Decoder) (q0 : Int) (q1 : List Amount) (z : Nat → PV) (_zo : Nat → List PV) : St :=
  ⟨zr z 0 9 ++ [.ms 2 2 0 (List.length q1)] ++ zr z 10 22, [(0, ⟨1, 0, false, [.int .i64 q0]⟩), (1, ⟨1, 0, false, [.bx 0 0]⟩), (2, ⟨2, 0, true, (Amount.rows q1).flatten⟩)], 67⟩
theorem Qor (p1 : Val) (p2 : BA) (o0 : Decoder) (i0 : Nat) (v0_1 : Int) (v0_2 : List Amount) : VOK (Go.Pv.look (number 0 (Qao p1 p2 o0 i0 v0_1 v0_2))) [(2, Amount.rows v0_2)] := (VOK.cons (show Seen _ _ from Q3n (ob := ⟨2, 0, true, (Amount.rows v0_2).flatten⟩) (Amount.Qb v0_2 2 rfl)) VOK.nil)
def Q9z (p1 : Val) (p2 : BA) (o0 : Decoder) (e : En) (q : Int × (List Amount)) : Prop := ∃ z zo, Q7 G e (.st (.exit 0) (Qed p1 p2 o0 q.1 q.2 z zo))
theorem Qhi (p1 : Val) (p2 : BA) (o0 : Decoder) {e e' : En} (h : ∀ r, Q7 G e r → Q7 G e' r) : ∀ q, Q9z p1 p2 o0 e q → Q9z p1 p2 o0 e' q
  | _, ⟨z, zo, hz⟩ => ⟨z, zo, h _ hz⟩
def Q7g (p1 : Val) (p2 : BA) (o0 : Decoder) : Prop := (List.length (Ql (Q0 p1 p2 o0).1 4 (Q0 p1 p2 o0).2).1.list ≤ 137438953472) ∧ (∀ x0 ∈ (Ql (Q0 p1 p2 o0).1 4 (Q0 p1 p2 o0).2).1.list, Qz2 x0) ∧ True
def Qfg (p1 : Val) (p2 : BA) (o0 : Decoder) (i0 : Nat) (_v0_1 : Int) (_v0_2 : List Amount) : List PV :=
  [.un, .un, .un, .fn 28 [] [.bx 1 0]] ++ nuns 14 ++ [.sl (Val.rows (Ql (Q0 p1 p2 o0).1 4 (Q0 p1 p2 o0).2).1.list), .int .i64 ((List.length (Ql (Q0 p1 p2 o0).1 4 (Q0 p1 p2 o0).2).1.list) : Int), .int .i64 (i0 : Int), .bool false]
def Qc2 (_p1 : Val) (_p2 : BA) (_o0 : Decoder) (_i0 : Nat) (_v0_1 : Int) (_v0_2 : List Amount) : List (Nat × List PV) :=
  []
theorem Qsi (p1 : Val) (p2 : BA) (o0 : Decoder) (_H : Q7g p1 p2 o0) (i0 : Nat) (v0_1 : Int) (v0_2 : List Amount) (_ho0_0 : List.length v0_2 ≤ i0) (hc0 : (decide ((i0 : Int) < ((List.length (Ql (Q0 p1 p2 o0).1 4 (Q0 p1 p2 o0).2).1.list) : Int))) = false) : Q9z p1 p2 o0 (Q9h p1 p2 o0 i0 v0_1 v0_2) (v0_1, v0_2) := by
 exact ⟨(envF (Qfg p1 p2 o0 i0 v0_1 v0_2)), (zoF (Qc2 p1 p2 o0 i0 v0_1 v0_2)), Qm (Qor p1 p2 o0 i0 v0_1 v0_2) (x := ((.exit 0), Qed p1 p2 o0 v0_1 v0_2 (envF (Qfg p1 p2 o0 i0 v0_1 v0_2)) (zoF (Qc2 p1 p2 o0 i0 v0_1 v0_2)))) [hB 0 hc0] [] (by kernel_rfl)⟩
theorem Qro (p1 : Val) (p2 : BA) (o0 : Decoder) (H : Q7g p1 p2 o0) (x0 : Val) (i0 : Nat) (v0_1 : Int) (v0_2 : List Amount) (hx0 : (Ql (Q0 p1 p2 o0).1 4 (Q0 p1 p2 o0).2).1.list[i0]? = some x0) (hi0 : i0 < List.length (Ql (Q0 p1 p2 o0).1 4 (Q0 p1 p2 o0).2).1.list) (ho0_0 : List.length v0_2 ≤ i0) (hc0 : (decide ((i0 : Int) < ((List.length (Ql (Q0 p1 p2 o0).1 4 (Q0 p1 p2 o0).2).1.list) : Int))) = true) {r : Rs} (hr : Q7 G (Q9h p1 p2 o0 (i0 + 1) (Q4b x0 (Decoder.mk v0_1)).2.wrong (v0_2 ++ [(Q4b x0 (Decoder.mk v0_1)).1])) r) : Q7 G (Q9h p1 p2 o0 i0 v0_1 v0_2) r := by
 have hB0 := H.1
 exact Qn (Qor p1 p2 o0 i0 v0_1 v0_2) (y := (Qiy p1 p2 o0 (i0 + 1) (Q4b x0 (Decoder.mk v0_1)).2.wrong (v0_2 ++ [(Q4b x0 (Decoder.mk v0_1)).1]), Qao p1 p2 o0 (i0 + 1) (Q4b x0 (Decoder.mk v0_1)).2.wrong (v0_2 ++ [(Q4b x0 (Decoder.mk v0_1)).1]))) [hB 0 hc0, hP 0 (Q1x 5 (Val.rows (Ql (Q0 p1 p2 o0).1 4 (Q0 p1 p2 o0).2).1.list) i0 _ (Val.Qf hx0) rfl), hV 8 [(643, Amount.rows (v0_2 ++ [(Q4b x0 (Decoder.mk v0_1)).1]))] (Q6y 2 579 643 2 16 0 0 true (Amount.rows v0_2) (Amount.rows (v0_2 ++ [(Q4b x0 (Decoder.mk v0_1)).1])) (Amount.cells (Q4b x0 (Decoder.mk v0_1)).1) (List.length v0_2) (List.length (v0_2 ++ [(Q4b x0 (Decoder.mk v0_1)).1])) rfl (Amount.Q8 v0_2).symm (Amount.Q8 (v0_2 ++ [(Q4b x0 (Decoder.mk v0_1)).1])).symm (Amount.Q1g v0_2 (Q4b x0 (Decoder.mk v0_1)).1) (Amount.Qh v0_2) rfl (by omega)), hS 0 true (Amount.Qb (v0_2 ++ [(Q4b x0 (Decoder.mk v0_1)).1]) 2 rfl), hP 1 (Q1o i0 (by omega))] [aN (Q181 x0 (Decoder.mk v0_1) (H.2.1 x0 (Q29 hx0)))] (by kernel_rfl) hr
theorem Qlu (p1 : Val) (p2 : BA) (o0 : Decoder) (H : Q7g p1 p2 o0) : ∀ (r0 : List Val) (i0 : Nat) (v0_1 : Int) (v0_2 : List Amount), List.drop i0 (Ql (Q0 p1 p2 o0).1 4 (Q0 p1 p2 o0).2).1.list = r0 → List.length v0_2 ≤ i0 → Q9z p1 p2 o0 (Q9h p1 p2 o0 i0 v0_1 v0_2) (Q2r p1 p2 o0 r0 i0 v0_1 v0_2)
 | [], i0, v0_1, v0_2, hd, ho0_0 => by
  have hc0 : (decide ((i0 : Int) < ((List.length (Ql (Q0 p1 p2 o0).1 4 (Q0 p1 p2 o0).2).1.list) : Int))) = false := by have := Q1d hd; simp; omega
  rw [Q2r]
  exact Qsi p1 p2 o0 H i0 v0_1 v0_2 ho0_0 hc0
 | x0 :: r0, i0, v0_1, v0_2, hd, ho0_0 => by
  obtain ⟨hx0, hi0, hd'⟩ := Q19 hd
  have hc0 : (decide ((i0 : Int) < ((List.length (Ql (Q0 p1 p2 o0).1 4 (Q0 p1 p2 o0).2).1.list) : Int))) = true := by simp; omega
  rw [Q2r]
  exact Qhi p1 p2 o0 (fun r hr => Qro p1 p2 o0 H x0 i0 v0_1 v0_2 hx0 hi0 ho0_0 hc0 hr) _ (Qlu p1 p2 o0 H r0 (i0 + 1) (Q4b x0 (Decoder.mk v0_1)).2.wrong (v0_2 ++ [(Q4b x0 (Decoder.mk v0_1)).1]) hd' (by first | omega | (simp; omega)))
def Q1j (p1 : Val) (p2 : BA) (o0 : Decoder) : List Amount × Decoder := ((dE Amount.dec p1 p2).1, bp o0 (pE (Amount.cnt) p1 p2))
theorem Qqh (p1 : Val) (p2 : BA) (o0 : Decoder) : ∀ (l : List Val) (i : Nat) (b : Int) (a : List Amount), Q2r p1 p2 o0 l i b a = (bw b (sumC (Amount.cnt) l), a ++ l.map (fun x => (Amount.dec x).1))
  | [], _, b, a => by rw [Q2r]; simp [sumC, bw]
  | x :: l, i, b, a => by
    rw [Q2r]
    refine (Qqh p1 p2 o0 l (i + 1) (bw b ((Amount.cnt) x)) (a ++ [(Amount.dec x).1])).trans ?_
    rw [Qhy]
    simp only [List.append_assoc, List.singleton_append, List.map_cons, sumC]
theorem Q16r (p1 : Val) (p2 : BA) (o0 : Decoder) : Q1j p1 p2 o0 = (((Q2r p1 p2 o0 (Ql (Q0 p1 p2 o0).1 4 (Q0 p1 p2 o0).2).1.list 0 (Ql (Q0 p1 p2 o0).1 4 (Q0 p1 p2 o0).2).2.wrong []).2, (Decoder.mk (Q2r p1 p2 o0 (Ql (Q0 p1 p2 o0).1 4 (Q0 p1 p2 o0).2).1.list 0 (Ql (Q0 p1 p2 o0).1 4 (Q0 p1 p2 o0).2).2.wrong []).1))) := by
  rw [Qqh]
  unfold Q0 Ql Q1j
  simp only [Q6z, getL, Qae, Qhy]
  rfl
def Q15q (p1 : Val) (p2 : BA) (o0 : Decoder) : En := .call 33 [.bx 0 0, .agg (Val.cells p1), .str p2, .fn 28 [] [.bx 1 0]] [⟨1, 0, false, (Decoder.cells o0)⟩, ⟨1, 0, false, [.bx 0 0]⟩]
def Q17m (_p1 : Val) (_p2 : BA) (_o0 : Decoder) (q0 : List Amount) (q1 : Decoder) : Rs := .ret (.sl (Amount.rows q0)) [⟨1, 0, false, (Decoder.cells q1)⟩, ⟨1, 0, false, [.bx 0 0]⟩]
def Q11m (p1 : Val) (p2 : BA) (o0 : Decoder) : Rs := Q17m p1 p2 o0 (Q1j p1 p2 o0).1 (Q1j p1 p2 o0).2
def Qz8 (p1 : Val) : Prop := Val.Sm 1000000000 p1
theorem Qpd (p1 : Val) (p2 : BA) (o0 : Decoder) (H : Qz8 p1) : (Qav p1) ∧ (Q7g p1 p2 o0) ∧ True := by
  have hl := Qy4 (Q4e H p2)
  refine ⟨H, ?_, trivial⟩
  unfold Q7g Q0 Ql
  simp only [getL]
  exact ⟨Nat.le_trans hl.1 (Nat.le_of_ble_eq_true rfl), hl.2, trivial⟩
theorem Q131 (p1 : Val) (p2 : BA) (o0 : Decoder) (H : Qz8 p1) : Q7 G (Q15q p1 p2 o0) (Q11m p1 p2 o0) := by
 unfold Q11m
 rw [Q16r]
 have hl0 := Qlu p1 p2 o0 ((Qpd p1 p2 o0 H).2.1) (Ql (Q0 p1 p2 o0).1 4 (Q0 p1 p2 o0).2).1.list 0 (Ql (Q0 p1 p2 o0).1 4 (Q0 p1 p2 o0).2).2.wrong [] (by simp) (by simp)
 obtain ⟨z0, zo0, hl0⟩ := hl0
 exact Qa (fn := Ir.K1v) rfl (h := [⟨1, 0, false, (Decoder.cells o0)⟩, ⟨1, 0, false, [.bx 0 0]⟩]) (vw := []) VOK.nil [hP 10 (Qs (Val.rows (Ql (Q0 p1 p2 o0).1 4 (Q0 p1 p2 o0).2).1.list) (List.length (Ql (Q0 p1 p2 o0).1 4 (Q0 p1 p2 o0).2).1.list) (Val.Q8 (Ql (Q0 p1 p2 o0).1 4 (Q0 p1 p2 o0).2).1.list)), hS 0 true (Amount.Qb (Q2r p1 p2 o0 (Ql (Q0 p1 p2 o0).1 4 (Q0 p1 p2 o0).2).1.list 0 (Ql (Q0 p1 p2 o0).1 4 (Q0 p1 p2 o0).2).2.wrong []).2 2 rfl), hQ (Amount.Q8 (Q2r p1 p2 o0 (Ql (Q0 p1 p2 o0).1 4 (Q0 p1 p2 o0).2).1.list 0 (Ql (Q0 p1 p2 o0).1 4 (Q0 p1 p2 o0).2).2.wrong []).2).symm] [aN (Qin p1 p2 o0 (Qpd p1 p2 o0 H).1), aN (Q83 (Q0 p1 p2 o0).1 4 (Q0 p1 p2 o0).2), aV [(2, Amount.rows (Q2r p1 p2 o0 (Ql (Q0 p1 p2 o0).1 4 (Q0 p1 p2 o0).2).1.list 0 (Ql (Q0 p1 p2 o0).1 4 (Q0 p1 p2 o0).2).2.wrong []).2)] hl0] (by kernel_rfl)
def Qik (p1 : Budget) (o0 : Decoder) : Budget × Int :=
 bif (decide (0 < o0.wrong)) then
  ((Budget.mk (Meta.mk eB eB eB 0 0 0 0 false 0 [] [] [] []) [] [] [] 0 0 0 0 0 []), 6)
 else
  (p1, 0)
def Q161 (p1 : Budget) (o0 : Decoder) : En := .call 30 [.bx 0 0, .agg (Budget.cells p1)] [⟨1, 0, false, (Decoder.cells o0)⟩]
def Q17q (_p1 : Budget) (o0 : Decoder) (q0 : Budget) (q1 : Int) : Rs := .ret (.tup [.agg (Budget.cells q0), .int .i64 q1]) [⟨1, 0, false, (Decoder.cells o0)⟩]
def Q11x (p1 : Budget) (o0 : Decoder) : Rs := Q17q p1 o0 (Qik p1 o0).1 (Qik p1 o0).2
theorem Q18e (p1 : Budget) (o0 : Decoder) : Q7 G (Q161 p1 o0) (Q11x p1 o0) := by
 unfold Q11x Qik
 cases h0 : (decide (0 < o0.wrong)) with
 | true =>
  exact Qa (fn := Ir.K2b) rfl (h := [⟨1, 0, false, (Decoder.cells o0)⟩]) (vw := []) VOK.nil [hB 7 h0] [] (by kernel_rfl)
 | false =>
  exact Qa (fn := Ir.K2b) rfl (h := [⟨1, 0, false, (Decoder.cells o0)⟩]) (vw := []) VOK.nil [hB 7 h0] [] (by kernel_rfl)
def Qvi (p0 : Object) : Budget × Int := resC (Budget.cnt p0) (Budget.of p0) Budget.z
theorem Qs0 (n : Nat) (x : Budget) : Qik x (bp ⟨0⟩ n) = resC n x Budget.z := rfl
theorem Q16b (p0 : Object) : Qvi p0 = (((Qik (Budget.mk p0.meta_ (Q25 p0.spec (Q1u p0.status Q9 (Qx p0 Qk)).2).1 (Q1j p0.spec Q6 (Q25 p0.spec (Q1u p0.status Q9 (Qx p0 Qk)).2).2).1 (Q1j p0.spec Q5 (Q1j p0.spec Q6 (Q25 p0.spec (Q1u p0.status Q9 (Qx p0 Qk)).2).2).2).1 (Qr p0.status Qj (Q1j p0.spec Q5 (Q1j p0.spec Q6 (Q25 p0.spec (Q1u p0.status Q9 (Qx p0 Qk)).2).2).2).2).1 (Qr p0.status Qp (Qr p0.status Qj (Q1j p0.spec Q5 (Q1j p0.spec Q6 (Q25 p0.spec (Q1u p0.status Q9 (Qx p0 Qk)).2).2).2).2).2).1 (Qr p0.status Qw (Qr p0.status Qp (Qr p0.status Qj (Q1j p0.spec Q5 (Q1j p0.spec Q6 (Q25 p0.spec (Q1u p0.status Q9 (Qx p0 Qk)).2).2).2).2).2).2).1 (Qr p0.status Qv (Qr p0.status Qw (Qr p0.status Qp (Qr p0.status Qj (Q1j p0.spec Q5 (Q1j p0.spec Q6 (Q25 p0.spec (Q1u p0.status Q9 (Qx p0 Qk)).2).2).2).2).2).2).2).1 (Qr p0.status Q13 (Qr p0.status Qv (Qr p0.status Qw (Qr p0.status Qp (Qr p0.status Qj (Q1j p0.spec Q5 (Q1j p0.spec Q6 (Q25 p0.spec (Q1u p0.status Q9 (Qx p0 Qk)).2).2).2).2).2).2).2).2).1 (Q1u p0.status Q9 (Qx p0 Qk)).1) (Qr p0.status Q13 (Qr p0.status Qv (Qr p0.status Qw (Qr p0.status Qp (Qr p0.status Qj (Q1j p0.spec Q5 (Q1j p0.spec Q6 (Q25 p0.spec (Q1u p0.status Q9 (Qx p0 Qk)).2).2).2).2).2).2).2).2).2).1, (Qik (Budget.mk p0.meta_ (Q25 p0.spec (Q1u p0.status Q9 (Qx p0 Qk)).2).1 (Q1j p0.spec Q6 (Q25 p0.spec (Q1u p0.status Q9 (Qx p0 Qk)).2).2).1 (Q1j p0.spec Q5 (Q1j p0.spec Q6 (Q25 p0.spec (Q1u p0.status Q9 (Qx p0 Qk)).2).2).2).1 (Qr p0.status Qj (Q1j p0.spec Q5 (Q1j p0.spec Q6 (Q25 p0.spec (Q1u p0.status Q9 (Qx p0 Qk)).2).2).2).2).1 (Qr p0.status Qp (Qr p0.status Qj (Q1j p0.spec Q5 (Q1j p0.spec Q6 (Q25 p0.spec (Q1u p0.status Q9 (Qx p0 Qk)).2).2).2).2).2).1 (Qr p0.status Qw (Qr p0.status Qp (Qr p0.status Qj (Q1j p0.spec Q5 (Q1j p0.spec Q6 (Q25 p0.spec (Q1u p0.status Q9 (Qx p0 Qk)).2).2).2).2).2).2).1 (Qr p0.status Qv (Qr p0.status Qw (Qr p0.status Qp (Qr p0.status Qj (Q1j p0.spec Q5 (Q1j p0.spec Q6 (Q25 p0.spec (Q1u p0.status Q9 (Qx p0 Qk)).2).2).2).2).2).2).2).1 (Qr p0.status Q13 (Qr p0.status Qv (Qr p0.status Qw (Qr p0.status Qp (Qr p0.status Qj (Q1j p0.spec Q5 (Q1j p0.spec Q6 (Q25 p0.spec (Q1u p0.status Q9 (Qx p0 Qk)).2).2).2).2).2).2).2).2).1 (Q1u p0.status Q9 (Qx p0 Qk)).1) (Qr p0.status Q13 (Qr p0.status Qv (Qr p0.status Qw (Qr p0.status Qp (Qr p0.status Qj (Q1j p0.spec Q5 (Q1j p0.spec Q6 (Q25 p0.spec (Q1u p0.status Q9 (Qx p0 Qk)).2).2).2).2).2).2).2).2).2).2)) := by
  simp only [Qr, Q1u, Q25, Q1j, Qik, Qx, Q6z]
  refine Eq.trans ?_ (Qs0 _ _).symm
  refine Qvd ?_ rfl
  unfold Budget.cnt
  omega
def Q15a (p0 : Object) : En := .call 8 [.agg (Object.cells p0)] []
def Q116 (p0 : Object) : Rs := .ret (.tup [.agg (Budget.cells (Qvi p0).1), .int .i64 (Qvi p0).2]) []
def Qwm (p0 : Object) : Prop := Qgx p0.meta_ ∧ Object.sm p0
theorem Q3j (p0 : Object) (H : Qwm p0) : (Qz7 p0.status) ∧ (Qgx p0.meta_) ∧ (Qz4 p0.spec) ∧ (Qz8 p0.spec) ∧ (Qgy p0.status) ∧ True := by
  repeat' with_reducible apply And.intro
  all_goals first | exact True.intro | exact H.1 | exact H.2 | exact H.2.1 | exact H.2.2 | exact Q4e H.2.1 _ | exact Q4e H.2.2 _
theorem Q17z (p0 : Object) (H : Qwm p0) : Q7 G (Q15a p0) (Q116 p0) := by
 unfold Q116
 rw [Q16b]
 exact Qa (fn := Ir.K1c) rfl VOK.nil [] [aN (Q134 p0 Qk), aN (Q188 p0.status Q9 (Qx p0 Qk) (Q3j p0 H).1), aN (Q104 p0.meta_ (Q3j p0 H).2.1), aN (Q184 p0.spec (Q1u p0.status Q9 (Qx p0 Qk)).2 (Q3j p0 H).2.2.1), aN (Q131 p0.spec Q6 (Q25 p0.spec (Q1u p0.status Q9 (Qx p0 Qk)).2).2 (Q3j p0 H).2.2.2.1), aN (Q131 p0.spec Q5 (Q1j p0.spec Q6 (Q25 p0.spec (Q1u p0.status Q9 (Qx p0 Qk)).2).2).2 (Q3j p0 H).2.2.2.1), aN (Q8q p0.status Qj (Q1j p0.spec Q5 (Q1j p0.spec Q6 (Q25 p0.spec (Q1u p0.status Q9 (Qx p0 Qk)).2).2).2).2 (Q3j p0 H).2.2.2.2.1), aN (Q8q p0.status Qp (Qr p0.status Qj (Q1j p0.spec Q5 (Q1j p0.spec Q6 (Q25 p0.spec (Q1u p0.status Q9 (Qx p0 Qk)).2).2).2).2).2 (Q3j p0 H).2.2.2.2.1), aN (Q8q p0.status Qw (Qr p0.status Qp (Qr p0.status Qj (Q1j p0.spec Q5 (Q1j p0.spec Q6 (Q25 p0.spec (Q1u p0.status Q9 (Qx p0 Qk)).2).2).2).2).2).2 (Q3j p0 H).2.2.2.2.1), aN (Q8q p0.status Qv (Qr p0.status Qw (Qr p0.status Qp (Qr p0.status Qj (Q1j p0.spec Q5 (Q1j p0.spec Q6 (Q25 p0.spec (Q1u p0.status Q9 (Qx p0 Qk)).2).2).2).2).2).2).2 (Q3j p0 H).2.2.2.2.1), aN (Q8q p0.status Q13 (Qr p0.status Qv (Qr p0.status Qw (Qr p0.status Qp (Qr p0.status Qj (Q1j p0.spec Q5 (Q1j p0.spec Q6 (Q25 p0.spec (Q1u p0.status Q9 (Qx p0 Qk)).2).2).2).2).2).2).2).2 (Q3j p0 H).2.2.2.2.1), aN (Q18e (Budget.mk p0.meta_ (Q25 p0.spec (Q1u p0.status Q9 (Qx p0 Qk)).2).1 (Q1j p0.spec Q6 (Q25 p0.spec (Q1u p0.status Q9 (Qx p0 Qk)).2).2).1 (Q1j p0.spec Q5 (Q1j p0.spec Q6 (Q25 p0.spec (Q1u p0.status Q9 (Qx p0 Qk)).2).2).2).1 (Qr p0.status Qj (Q1j p0.spec Q5 (Q1j p0.spec Q6 (Q25 p0.spec (Q1u p0.status Q9 (Qx p0 Qk)).2).2).2).2).1 (Qr p0.status Qp (Qr p0.status Qj (Q1j p0.spec Q5 (Q1j p0.spec Q6 (Q25 p0.spec (Q1u p0.status Q9 (Qx p0 Qk)).2).2).2).2).2).1 (Qr p0.status Qw (Qr p0.status Qp (Qr p0.status Qj (Q1j p0.spec Q5 (Q1j p0.spec Q6 (Q25 p0.spec (Q1u p0.status Q9 (Qx p0 Qk)).2).2).2).2).2).2).1 (Qr p0.status Qv (Qr p0.status Qw (Qr p0.status Qp (Qr p0.status Qj (Q1j p0.spec Q5 (Q1j p0.spec Q6 (Q25 p0.spec (Q1u p0.status Q9 (Qx p0 Qk)).2).2).2).2).2).2).2).1 (Qr p0.status Q13 (Qr p0.status Qv (Qr p0.status Qw (Qr p0.status Qp (Qr p0.status Qj (Q1j p0.spec Q5 (Q1j p0.spec Q6 (Q25 p0.spec (Q1u p0.status Q9 (Qx p0 Qk)).2).2).2).2).2).2).2).2).1 (Q1u p0.status Q9 (Qx p0 Qk)).1) (Qr p0.status Q13 (Qr p0.status Qv (Qr p0.status Qw (Qr p0.status Qp (Qr p0.status Qj (Q1j p0.spec Q5 (Q1j p0.spec Q6 (Q25 p0.spec (Q1u p0.status Q9 (Qx p0 Qk)).2).2).2).2).2).2).2).2).2)] (by kernel_rfl)
def Q1w (p1 : Val) (o0 : Decoder) : Resources × Decoder := ((Resources.dec p1).1, bp o0 (Resources.cnt p1))
theorem Q16k (p1 : Val) (o0 : Decoder) : Q1w p1 o0 = (((Resources.mk (Qr p1 Q2i o0).1 (Qr p1 Q1k (Qr p1 Q2i o0).2).1 (Qr p1 Q2b (Qr p1 Q1k (Qr p1 Q2i o0).2).2).1), (Qr p1 Q2b (Qr p1 Q1k (Qr p1 Q2i o0).2).2).2)) := by
  simp only [Qr, Q1w, Q6z]
  refine Prod.ext rfl (congrArg (bp o0) ?_)
  show Resources.cnt p1 = _
  try unfold Resources.cnt
  try unfold cM
  first | rfl | omega
def Q15j (p1 : Val) (o0 : Decoder) : En := .call 45 [.bx 0 0, .agg (Val.cells p1)] [⟨1, 0, false, (Decoder.cells o0)⟩]
def Q17f (_p1 : Val) (_o0 : Decoder) (q0 : Resources) (q1 : Decoder) : Rs := .ret (.agg (Resources.cells q0)) [⟨1, 0, false, (Decoder.cells q1)⟩]
def Q11f (p1 : Val) (o0 : Decoder) : Rs := Q17f p1 o0 (Q1w p1 o0).1 (Q1w p1 o0).2
def Qwo (p1 : Val) : Prop := Val.Sm 1000000000 p1
theorem Qi6 (p1 : Val) (_o0 : Decoder) (H : Qwo p1) : (Qgy p1) ∧ True := by
  repeat' with_reducible apply And.intro
  all_goals first | exact True.intro | exact H | exact Q4e H _
theorem Q12z (p1 : Val) (o0 : Decoder) (H : Qwo p1) : Q7 G (Q15j p1 o0) (Q11f p1 o0) := by
 unfold Q11f
 rw [Q16k]
 exact Qa (fn := Ir.K1o) rfl (h := [⟨1, 0, false, (Decoder.cells o0)⟩]) (vw := []) VOK.nil [] [aN (Q8q p1 Q2i o0 (Qi6 p1 o0 H).1), aN (Q8q p1 Q1k (Qr p1 Q2i o0).2 (Qi6 p1 o0 H).1), aN (Q8q p1 Q2b (Qr p1 Q1k (Qr p1 Q2i o0).2).2 (Qi6 p1 o0 H).1)] (by kernel_rfl)
def Qni (p1 : Quota) (o0 : Decoder) : Quota × Int :=
 bif (decide (0 < o0.wrong)) then
  ((Quota.mk (Meta.mk eB eB eB 0 0 0 0 false 0 [] [] [] []) (Resources.mk 0 0 0) (Resources.mk 0 0 0) 0 0), 6)
 else
  (p1, 0)
def Q162 (p1 : Quota) (o0 : Decoder) : En := .call 44 [.bx 0 0, .agg (Quota.cells p1)] [⟨1, 0, false, (Decoder.cells o0)⟩]
def Q17r (_p1 : Quota) (o0 : Decoder) (q0 : Quota) (q1 : Int) : Rs := .ret (.tup [.agg (Quota.cells q0), .int .i64 q1]) [⟨1, 0, false, (Decoder.cells o0)⟩]
def Q11y (p1 : Quota) (o0 : Decoder) : Rs := Q17r p1 o0 (Qni p1 o0).1 (Qni p1 o0).2
theorem Q18f (p1 : Quota) (o0 : Decoder) : Q7 G (Q162 p1 o0) (Q11y p1 o0) := by
 unfold Q11y Qni
 cases h0 : (decide (0 < o0.wrong)) with
 | true =>
  exact Qa (fn := Ir.K2c) rfl (h := [⟨1, 0, false, (Decoder.cells o0)⟩]) (vw := []) VOK.nil [hB 7 h0] [] (by kernel_rfl)
 | false =>
  exact Qa (fn := Ir.K2c) rfl (h := [⟨1, 0, false, (Decoder.cells o0)⟩]) (vw := []) VOK.nil [hB 7 h0] [] (by kernel_rfl)
def Qvj (p0 : Object) : Quota × Int := resC (Quota.cnt p0) (Quota.of p0) Quota.z
theorem Qvg (n : Nat) (x : Quota) : Qni x (bp ⟨0⟩ n) = resC n x Quota.z := rfl
theorem Q16e (p0 : Object) : Qvj p0 = (((Qni (Quota.mk p0.meta_ (Q1w (Q0 p0.spec Qi (Qx p0 Qd)).1 (Q0 p0.spec Qi (Qx p0 Qd)).2).1 (Q1w (Q0 p0.status Q15 (Qr p0.spec Q12 (Q1w (Q0 p0.spec Qi (Qx p0 Qd)).1 (Q0 p0.spec Qi (Qx p0 Qd)).2).2).2).1 (Q0 p0.status Q15 (Qr p0.spec Q12 (Q1w (Q0 p0.spec Qi (Qx p0 Qd)).1 (Q0 p0.spec Qi (Qx p0 Qd)).2).2).2).2).1 (Qr p0.spec Q12 (Q1w (Q0 p0.spec Qi (Qx p0 Qd)).1 (Q0 p0.spec Qi (Qx p0 Qd)).2).2).1 (Qr p0.status Q27 (Q1w (Q0 p0.status Q15 (Qr p0.spec Q12 (Q1w (Q0 p0.spec Qi (Qx p0 Qd)).1 (Q0 p0.spec Qi (Qx p0 Qd)).2).2).2).1 (Q0 p0.status Q15 (Qr p0.spec Q12 (Q1w (Q0 p0.spec Qi (Qx p0 Qd)).1 (Q0 p0.spec Qi (Qx p0 Qd)).2).2).2).2).2).1) (Qr p0.status Q27 (Q1w (Q0 p0.status Q15 (Qr p0.spec Q12 (Q1w (Q0 p0.spec Qi (Qx p0 Qd)).1 (Q0 p0.spec Qi (Qx p0 Qd)).2).2).2).1 (Q0 p0.status Q15 (Qr p0.spec Q12 (Q1w (Q0 p0.spec Qi (Qx p0 Qd)).1 (Q0 p0.spec Qi (Qx p0 Qd)).2).2).2).2).2).2).1, (Qni (Quota.mk p0.meta_ (Q1w (Q0 p0.spec Qi (Qx p0 Qd)).1 (Q0 p0.spec Qi (Qx p0 Qd)).2).1 (Q1w (Q0 p0.status Q15 (Qr p0.spec Q12 (Q1w (Q0 p0.spec Qi (Qx p0 Qd)).1 (Q0 p0.spec Qi (Qx p0 Qd)).2).2).2).1 (Q0 p0.status Q15 (Qr p0.spec Q12 (Q1w (Q0 p0.spec Qi (Qx p0 Qd)).1 (Q0 p0.spec Qi (Qx p0 Qd)).2).2).2).2).1 (Qr p0.spec Q12 (Q1w (Q0 p0.spec Qi (Qx p0 Qd)).1 (Q0 p0.spec Qi (Qx p0 Qd)).2).2).1 (Qr p0.status Q27 (Q1w (Q0 p0.status Q15 (Qr p0.spec Q12 (Q1w (Q0 p0.spec Qi (Qx p0 Qd)).1 (Q0 p0.spec Qi (Qx p0 Qd)).2).2).2).1 (Q0 p0.status Q15 (Qr p0.spec Q12 (Q1w (Q0 p0.spec Qi (Qx p0 Qd)).1 (Q0 p0.spec Qi (Qx p0 Qd)).2).2).2).2).2).1) (Qr p0.status Q27 (Q1w (Q0 p0.status Q15 (Qr p0.spec Q12 (Q1w (Q0 p0.spec Qi (Qx p0 Qd)).1 (Q0 p0.spec Qi (Qx p0 Qd)).2).2).2).1 (Q0 p0.status Q15 (Qr p0.spec Q12 (Q1w (Q0 p0.spec Qi (Qx p0 Qd)).1 (Q0 p0.spec Qi (Qx p0 Qd)).2).2).2).2).2).2).2)) := by
  simp only [Q0, Qr, Q1w, Qni, Qx, Q6z]
  refine Eq.trans ?_ (Qvg _ _).symm
  refine Qvd ?_ rfl
  unfold Quota.cnt
  omega
def Q15d (p0 : Object) : En := .call 10 [.agg (Object.cells p0)] []
def Q119 (p0 : Object) : Rs := .ret (.tup [.agg (Quota.cells (Qvj p0).1), .int .i64 (Qvj p0).2]) []
def Qwn (p0 : Object) : Prop := Qgx p0.meta_ ∧ Object.sm p0
theorem Q5e (p0 : Object) (H : Qwn p0) : (Qgx p0.meta_) ∧ (Qav p0.spec) ∧ (Qwo (Q0 p0.spec Qi (Qx p0 Qd)).1) ∧ (Qgy p0.spec) ∧ (Qav p0.status) ∧ (Qwo (Q0 p0.status Q15 (Qr p0.spec Q12 (Q1w (Q0 p0.spec Qi (Qx p0 Qd)).1 (Q0 p0.spec Qi (Qx p0 Qd)).2).2).2).1) ∧ (Qgy p0.status) ∧ True := by
  repeat' with_reducible apply And.intro
  all_goals first | exact True.intro | exact H.1 | exact H.2 | exact H.2.1 | exact H.2.2 | exact Q4e H.2.1 _ | exact Q4e H.2.2 _
theorem Q182 (p0 : Object) (H : Qwn p0) : Q7 G (Q15d p0) (Q119 p0) := by
 unfold Q119
 rw [Q16e]
 exact Qa (fn := Ir.K1f) rfl VOK.nil [] [aN (Q134 p0 Qd), aN (Q104 p0.meta_ (Q5e p0 H).1), aN (Qin p0.spec Qi (Qx p0 Qd) (Q5e p0 H).2.1), aN (Q12z (Q0 p0.spec Qi (Qx p0 Qd)).1 (Q0 p0.spec Qi (Qx p0 Qd)).2 (Q5e p0 H).2.2.1), aN (Q8q p0.spec Q12 (Q1w (Q0 p0.spec Qi (Qx p0 Qd)).1 (Q0 p0.spec Qi (Qx p0 Qd)).2).2 (Q5e p0 H).2.2.2.1), aN (Qin p0.status Q15 (Qr p0.spec Q12 (Q1w (Q0 p0.spec Qi (Qx p0 Qd)).1 (Q0 p0.spec Qi (Qx p0 Qd)).2).2).2 (Q5e p0 H).2.2.2.2.1), aN (Q12z (Q0 p0.status Q15 (Qr p0.spec Q12 (Q1w (Q0 p0.spec Qi (Qx p0 Qd)).1 (Q0 p0.spec Qi (Qx p0 Qd)).2).2).2).1 (Q0 p0.status Q15 (Qr p0.spec Q12 (Q1w (Q0 p0.spec Qi (Qx p0 Qd)).1 (Q0 p0.spec Qi (Qx p0 Qd)).2).2).2).2 (Q5e p0 H).2.2.2.2.2.1), aN (Q8q p0.status Q27 (Q1w (Q0 p0.status Q15 (Qr p0.spec Q12 (Q1w (Q0 p0.spec Qi (Qx p0 Qd)).1 (Q0 p0.spec Qi (Qx p0 Qd)).2).2).2).1 (Q0 p0.status Q15 (Qr p0.spec Q12 (Q1w (Q0 p0.spec Qi (Qx p0 Qd)).1 (Q0 p0.spec Qi (Qx p0 Qd)).2).2).2).2).2 (Q5e p0 H).2.2.2.2.2.2.1), aN (Q18f (Quota.mk p0.meta_ (Q1w (Q0 p0.spec Qi (Qx p0 Qd)).1 (Q0 p0.spec Qi (Qx p0 Qd)).2).1 (Q1w (Q0 p0.status Q15 (Qr p0.spec Q12 (Q1w (Q0 p0.spec Qi (Qx p0 Qd)).1 (Q0 p0.spec Qi (Qx p0 Qd)).2).2).2).1 (Q0 p0.status Q15 (Qr p0.spec Q12 (Q1w (Q0 p0.spec Qi (Qx p0 Qd)).1 (Q0 p0.spec Qi (Qx p0 Qd)).2).2).2).2).1 (Qr p0.spec Q12 (Q1w (Q0 p0.spec Qi (Qx p0 Qd)).1 (Q0 p0.spec Qi (Qx p0 Qd)).2).2).1 (Qr p0.status Q27 (Q1w (Q0 p0.status Q15 (Qr p0.spec Q12 (Q1w (Q0 p0.spec Qi (Qx p0 Qd)).1 (Q0 p0.spec Qi (Qx p0 Qd)).2).2).2).1 (Q0 p0.status Q15 (Qr p0.spec Q12 (Q1w (Q0 p0.spec Qi (Qx p0 Qd)).1 (Q0 p0.spec Qi (Qx p0 Qd)).2).2).2).2).2).1) (Qr p0.status Q27 (Q1w (Q0 p0.status Q15 (Qr p0.spec Q12 (Q1w (Q0 p0.spec Qi (Qx p0 Qd)).1 (Q0 p0.spec Qi (Qx p0 Qd)).2).2).2).1 (Q0 p0.status Q15 (Qr p0.spec Q12 (Q1w (Q0 p0.spec Qi (Qx p0 Qd)).1 (Q0 p0.spec Qi (Qx p0 Qd)).2).2).2).2).2).2)] (by kernel_rfl)
end Go.Proofs.Ytbagpdebihicnaa
end

section
/- What the reference's encoders compute (printed by a program). -/
namespace Go.Proofs.Ytbagpdebihicnaa
open Go.Pv
def Qe (p0 : List Fld) (i0 : Nat) (v0_1 : List Fld) : Nat → Int → Int
 | 0, v1_0 => v1_0
 | k1 + 1, v1_0 =>
  bif (decide (v1_0 < ((List.length v0_1) : Int))) then
   bif (sLt (List.getD v0_1 (Int.toNat v1_0) zF).name (List.getD p0 i0 zF).name) then
    Qe p0 i0 v0_1 k1 (v1_0 + 1)
   else
    v1_0
  else
   v1_0
def Qo3 (p0 : List Fld) (i0 : Nat) (v0_1 : List Fld) (v1_0 : Int) : List PV :=
  [.sl (Fld.rows p0), .un, .bx 0 0, .ms 1 6 0 (List.length v0_1), .int .i64 (i0 : Int), .int .i64 v1_0] ++ nuns 46
def Qgr (_p0 : List Fld) (_i0 : Nat) (v0_1 : List Fld) (_v1_0 : Int) : List Ob :=
  [⟨5, 0, true, [.int .i64 0, .int .i64 0, .str eB, .ms 2 5 0 0, .ms 3 6 0 0]⟩, ⟨6, 0, true, (Fld.rows v0_1).flatten⟩, ⟨5, 0, true, []⟩, ⟨6, 0, true, []⟩]
def Q6u (p0 : List Fld) (i0 : Nat) (v0_1 : List Fld) (v1_0 : Int) : En := .loop 0 Ir.Qdx Ir.Q10n (Qo3 p0 i0 v0_1 v1_0) (Qgr p0 i0 v0_1 v1_0)
def Q5s (p0 : List Fld) (i0 : Nat) (v0_1 : List Fld) (q0 : Int) (z : Nat → PV) (_zo : Nat → List PV) : St :=
  ⟨[.sl (Fld.rows p0), z 1, .bx 0 0, .ms 1 6 0 (List.length v0_1), .int .i64 (i0 : Int), .int .i64 q0] ++ zr z 6 46, [(0, ⟨5, 0, true, [.int .i64 0, .int .i64 0, .str eB, .ms 2 5 0 0, .ms 3 6 0 0]⟩), (1, ⟨6, 0, true, (Fld.rows v0_1).flatten⟩), (2, ⟨5, 0, true, []⟩), (3, ⟨6, 0, true, []⟩)], 1092⟩
theorem Qmw (p0 : List Fld) (i0 : Nat) (v0_1 : List Fld) (v1_0 : Int) : VOK (Go.Pv.look (number 0 (Qgr p0 i0 v0_1 v1_0))) [(1, Fld.rows v0_1)] := (VOK.cons (show Seen _ _ from Q3n (ob := ⟨6, 0, true, (Fld.rows v0_1).flatten⟩) (Fld.Qb v0_1 6 rfl)) VOK.nil)
def Qbl (p0 : List Fld) (i0 : Nat) (v0_1 : List Fld) (e : En) (q : Int) : Prop := ∃ z zo, Q7 G e (.st (.exit 2) (Q5s p0 i0 v0_1 q z zo))
theorem Qjn (p0 : List Fld) (i0 : Nat) (v0_1 : List Fld) {e e' : En} (h : ∀ r, Q7 G e r → Q7 G e' r) : ∀ q, Qbl p0 i0 v0_1 e q → Qbl p0 i0 v0_1 e' q
  | _, ⟨z, zo, hz⟩ => ⟨z, zo, h _ hz⟩
theorem Quv (p0 : List Fld) (i0 : Nat) (v0_1 : List Fld) (v1_0 : Int) (ho1_0 : 0 ≤ v1_0) (_ho1_1 : v1_0 ≤ (List.length v0_1 : Int)) (ho1_2 : i0 < List.length p0) (ho1_3 : List.length (v0_1 : List Fld) ≤ 137438953472) (h0 : (decide (v1_0 < ((List.length v0_1) : Int))) = true) (h1 : (sLt (List.getD v0_1 (Int.toNat v1_0) zF).name (List.getD p0 i0 zF).name) = true) {r : Rs} (hr : Q7 G (Q6u p0 i0 v0_1 (v1_0 + 1)) r) : Q7 G (Q6u p0 i0 v0_1 v1_0) r := by
 have e0 := of_decide_eq_true h0
 exact Qn (Qmw p0 i0 v0_1 v1_0) (y := (Qo3 p0 i0 v0_1 (v1_0 + 1), Qgr p0 i0 v0_1 (v1_0 + 1))) [hB 3 h0, hP 3 (Q2n 1 6 (List.length v0_1) v1_0 (Int.toNat v1_0) rfl (by omega) (by omega)), hP 1 (Q6k 1 6 0 true ((Fld.rows v0_1).flatten) (Fld.rows v0_1) 1 false (Int.toNat v1_0) 0 ((Int.toNat v1_0) * 6) (Fld.cells (List.getD v0_1 (Int.toNat v1_0) zF)) (.str (List.getD v0_1 (Int.toNat v1_0) zF).name) rfl rfl (Fld.Qf (Q2u v0_1 (Int.toNat v1_0) zF (by omega))) (Fld.Qh v0_1) (by decide) rfl), hP 2 (Qyo 6 (Fld.rows p0) (i0 : Int) _ (by omega) (Fld.Qf (Q2u p0 (Int.toNat (i0 : Int)) zF (by omega))) rfl), hB 2 h1, hP 2 (w_ok (v1_0 + 1) (by omega))] [] (by kernel_rfl) hr
def Qkl (p0 : List Fld) (i0 : Nat) (v0_1 : List Fld) (v1_0 : Int) : List PV :=
  nuns 13 ++ [.int .i64 v1_0, .ms 1 6 0 (List.length v0_1), .int .i64 ((List.length v0_1) : Int), .bool true, .bool true, .ms 1 6 0 (List.length v0_1), .int .i64 v1_0, .bx 1 ((Int.toNat v1_0) * 6), .bx 1 ((Int.toNat v1_0) * 6), .str (List.getD v0_1 (Int.toNat v1_0) zF).name, .sl (Fld.rows p0), .int .i64 (i0 : Int), .rf [.str (List.getD p0 i0 zF).name, .int .i64 (List.getD p0 i0 zF).v.kind, .int .i64 (List.getD p0 i0 zF).v.n, .str (List.getD p0 i0 zF).v.s, .sl (Val.rows (List.getD p0 i0 zF).v.list), .sl (Fld.rows (List.getD p0 i0 zF).v.fields)], .rf [.str (List.getD p0 i0 zF).name, .int .i64 (List.getD p0 i0 zF).v.kind, .int .i64 (List.getD p0 i0 zF).v.n, .str (List.getD p0 i0 zF).v.s, .sl (Val.rows (List.getD p0 i0 zF).v.list), .sl (Fld.rows (List.getD p0 i0 zF).v.fields)], .str (List.getD p0 i0 zF).name, .bool false, .bool false]
def Qf0 (_p0 : List Fld) (_i0 : Nat) (_v0_1 : List Fld) (_v1_0 : Int) : List (Nat × List PV) :=
  []
theorem Qwb (p0 : List Fld) (i0 : Nat) (v0_1 : List Fld) (v1_0 : Int) (ho1_0 : 0 ≤ v1_0) (_ho1_1 : v1_0 ≤ (List.length v0_1 : Int)) (ho1_2 : i0 < List.length p0) (ho1_3 : List.length (v0_1 : List Fld) ≤ 137438953472) (h0 : (decide (v1_0 < ((List.length v0_1) : Int))) = true) (h1 : (sLt (List.getD v0_1 (Int.toNat v1_0) zF).name (List.getD p0 i0 zF).name) = false) : Qbl p0 i0 v0_1 (Q6u p0 i0 v0_1 v1_0) v1_0 := by
 have e0 := of_decide_eq_true h0
 exact ⟨(envF (Qkl p0 i0 v0_1 v1_0)), (zoF (Qf0 p0 i0 v0_1 v1_0)), Qm (Qmw p0 i0 v0_1 v1_0) (x := ((.exit 2), Q5s p0 i0 v0_1 v1_0 (envF (Qkl p0 i0 v0_1 v1_0)) (zoF (Qf0 p0 i0 v0_1 v1_0)))) [hB 3 h0, hP 3 (Q2n 1 6 (List.length v0_1) v1_0 (Int.toNat v1_0) rfl (by omega) (by omega)), hP 1 (Q6k 1 6 0 true ((Fld.rows v0_1).flatten) (Fld.rows v0_1) 1 false (Int.toNat v1_0) 0 ((Int.toNat v1_0) * 6) (Fld.cells (List.getD v0_1 (Int.toNat v1_0) zF)) (.str (List.getD v0_1 (Int.toNat v1_0) zF).name) rfl rfl (Fld.Qf (Q2u v0_1 (Int.toNat v1_0) zF (by omega))) (Fld.Qh v0_1) (by decide) rfl), hP 2 (Qyo 6 (Fld.rows p0) (i0 : Int) _ (by omega) (Fld.Qf (Q2u p0 (Int.toNat (i0 : Int)) zF (by omega))) rfl), hB 2 h1] [] (by kernel_rfl)⟩
def Qkm (_p0 : List Fld) (_i0 : Nat) (v0_1 : List Fld) (v1_0 : Int) : List PV :=
  nuns 13 ++ [.int .i64 v1_0, .ms 1 6 0 (List.length v0_1), .int .i64 ((List.length v0_1) : Int), .bool false, .bool false, .tup [], .tup [], .tup [], .tup [], .tup [], .tup [], .tup [], .tup [], .tup [], .tup [], .tup [], .bool false]
def Qf1 (_p0 : List Fld) (_i0 : Nat) (_v0_1 : List Fld) (_v1_0 : Int) : List (Nat × List PV) :=
  []
theorem Qwc (p0 : List Fld) (i0 : Nat) (v0_1 : List Fld) (v1_0 : Int) (_ho1_0 : 0 ≤ v1_0) (_ho1_1 : v1_0 ≤ (List.length v0_1 : Int)) (_ho1_2 : i0 < List.length p0) (_ho1_3 : List.length (v0_1 : List Fld) ≤ 137438953472) (h0 : (decide (v1_0 < ((List.length v0_1) : Int))) = false) : Qbl p0 i0 v0_1 (Q6u p0 i0 v0_1 v1_0) v1_0 := by
 exact ⟨(envF (Qkm p0 i0 v0_1 v1_0)), (zoF (Qf1 p0 i0 v0_1 v1_0)), Qm (Qmw p0 i0 v0_1 v1_0) (x := ((.exit 2), Q5s p0 i0 v0_1 v1_0 (envF (Qkm p0 i0 v0_1 v1_0)) (zoF (Qf1 p0 i0 v0_1 v1_0)))) [hB 3 h0] [] (by kernel_rfl)⟩
theorem Qq4 (p0 : List Fld) (i0 : Nat) (v0_1 : List Fld) : ∀ (k1 : Nat) (v1_0 : Int), 0 ≤ v1_0 → v1_0 ≤ (List.length v0_1 : Int) → i0 < List.length p0 → List.length (v0_1 : List Fld) ≤ 137438953472 → Int.toNat ((List.length v0_1 : Int) - v1_0) < k1 → Qbl p0 i0 v0_1 (Q6u p0 i0 v0_1 v1_0) (Qe p0 i0 v0_1 k1 v1_0)
 | 0, v1_0, _, _, _, _, hm => absurd hm (Nat.not_lt_zero _)
 | k1 + 1, v1_0, ho1_0, ho1_1, ho1_2, ho1_3, hm => by
  rw [Qe]
  cases h0 : (decide (v1_0 < ((List.length v0_1) : Int))) with
  | true =>
   have e0 := of_decide_eq_true h0
   cases h1 : (sLt (List.getD v0_1 (Int.toNat v1_0) zF).name (List.getD p0 i0 zF).name) with
   | true =>
    exact Qjn p0 i0 v0_1 (fun r hr => Quv p0 i0 v0_1 v1_0 ho1_0 ho1_1 ho1_2 ho1_3 h0 h1 hr) _ (Qq4 p0 i0 v0_1 k1 (v1_0 + 1) (by omega) (by omega) (by omega) (by omega) (by omega))
   | false =>
    exact Qwb p0 i0 v0_1 v1_0 ho1_0 ho1_1 ho1_2 ho1_3 h0 h1
  | false =>
   exact Qwc p0 i0 v0_1 v1_0 ho1_0 ho1_1 ho1_2 ho1_3 h0
theorem Q20 (p0 : List Fld) (i0 : Nat) (v0_1 : List Fld) : ∀ (k1 : Nat) (v1_0 : Int), 0 ≤ v1_0 → v1_0 ≤ (List.length v0_1 : Int) → i0 < List.length p0 → List.length (v0_1 : List Fld) ≤ 137438953472 → Int.toNat ((List.length v0_1 : Int) - v1_0) < k1 → 0 ≤ (Qe p0 i0 v0_1 k1 v1_0) ∧ (Qe p0 i0 v0_1 k1 v1_0) ≤ (List.length v0_1 : Int)
 | 0, v1_0, _, _, _, _, hm => absurd hm (Nat.not_lt_zero _)
 | k1 + 1, v1_0, ho1_0, ho1_1, ho1_2, ho1_3, hm => by
  rw [Qe]
  cases h0 : (decide (v1_0 < ((List.length v0_1) : Int))) with
  | true =>
   have e0 := of_decide_eq_true h0
   cases h1 : (sLt (List.getD v0_1 (Int.toNat v1_0) zF).name (List.getD p0 i0 zF).name) with
   | true =>
    exact Q20 p0 i0 v0_1 k1 (v1_0 + 1) (by omega) (by omega) (by omega) (by omega) (by omega)
   | false =>
    exact (show 0 ≤ v1_0 ∧ v1_0 ≤ (List.length v0_1 : Int) from ⟨(by omega), (by omega)⟩)
  | false =>
   have e0 := of_decide_eq_false h0
   exact (show 0 ≤ v1_0 ∧ v1_0 ≤ (List.length v0_1 : Int) from ⟨(by omega), (by omega)⟩)
def Q5f (p0 : List Fld) : List Fld → Nat → (List Fld) → List Fld
 | [], _i0, v0_1 =>
  v0_1
 | x0 :: r0, i0, v0_1 =>
  bif ((Int.toNat (Qe p0 i0 v0_1 ((Int.toNat ((List.length v0_1 : Int) - 0)) + 1) 0)) == 0) then
   Q5f p0 r0 (i0 + 1) ([x0] ++ (List.take ((List.length v0_1) - (Int.toNat (Qe p0 i0 v0_1 ((Int.toNat ((List.length v0_1 : Int) - 0)) + 1) 0))) (List.drop (Int.toNat (Qe p0 i0 v0_1 ((Int.toNat ((List.length v0_1 : Int) - 0)) + 1) 0)) v0_1)))
  else
   Q5f p0 r0 (i0 + 1) (((List.take (Int.toNat (Qe p0 i0 v0_1 ((Int.toNat ((List.length v0_1 : Int) - 0)) + 1) 0)) v0_1) ++ [x0]) ++ (List.take ((List.length v0_1) - (Int.toNat (Qe p0 i0 v0_1 ((Int.toNat ((List.length v0_1 : Int) - 0)) + 1) 0))) (List.drop (Int.toNat (Qe p0 i0 v0_1 ((Int.toNat ((List.length v0_1 : Int) - 0)) + 1) 0)) v0_1)))
def Qgo (p0 : List Fld) (i0 : Nat) (v0_1 : List Fld) : List PV :=
  [.sl (Fld.rows p0), .un, .bx 0 0, .ms 1 6 0 (List.length v0_1), .int .i64 (i0 : Int)] ++ nuns 47
def Q9o (_p0 : List Fld) (_i0 : Nat) (v0_1 : List Fld) : List Ob :=
  [⟨5, 0, true, [.int .i64 0, .int .i64 0, .str eB, .ms 2 5 0 0, .ms 3 6 0 0]⟩, ⟨6, 0, true, (Fld.rows v0_1).flatten⟩, ⟨5, 0, true, []⟩, ⟨6, 0, true, []⟩]
def Q86 (p0 : List Fld) (i0 : Nat) (v0_1 : List Fld) : En := .loop 0 Ir.Qdw Ir.Q10m (Qgo p0 i0 v0_1) (Q9o p0 i0 v0_1)
def Qk1 (_p0 : List Fld) (q0 : List Fld) (z : Nat → PV) (_zo : Nat → List PV) : St :=
  ⟨[z 0, z 1, .bx 0 0, .ms 1 6 0 (List.length q0)] ++ zr z 4 48, [(0, ⟨5, 0, true, [.int .i64 0, .int .i64 0, .str eB, .ms 2 5 0 0, .ms 3 6 0 0]⟩), (1, ⟨6, 0, true, (Fld.rows q0).flatten⟩), (2, ⟨5, 0, true, []⟩), (3, ⟨6, 0, true, []⟩)], 260⟩
theorem Qmv (p0 : List Fld) (i0 : Nat) (v0_1 : List Fld) : VOK (Go.Pv.look (number 0 (Q9o p0 i0 v0_1))) [(1, Fld.rows v0_1)] := (VOK.cons (show Seen _ _ from Q3n (ob := ⟨6, 0, true, (Fld.rows v0_1).flatten⟩) (Fld.Qb v0_1 6 rfl)) VOK.nil)
def Qhr (p0 : List Fld) (e : En) (q : List Fld) : Prop := ∃ z zo, Q7 G e (.st (.exit 0) (Qk1 p0 q z zo))
theorem Q8w (p0 : List Fld) {e e' : En} (h : ∀ r, Q7 G e r → Q7 G e' r) : ∀ q, Qhr p0 e q → Qhr p0 e' q
  | _, ⟨z, zo, hz⟩ => ⟨z, zo, h _ hz⟩
def Qb2 (p0 : List Fld) : Prop := (List.length p0 ≤ 137438953472) ∧ (∀ (i0 : Nat) (v0_1 : List Fld) (x0 : Fld), p0[i0]? = some x0 → List.length v0_1 ≤ i0 → List.length (v0_1 : List Fld) ≤ i0 → ((Int.toNat (Qe p0 i0 v0_1 ((Int.toNat ((List.length v0_1 : Int) - 0)) + 1) 0)) == 0) = false → ((List.length (List.take (Int.toNat (Qe p0 i0 v0_1 ((Int.toNat ((List.length v0_1 : Int) - 0)) + 1) 0)) v0_1)) + 1) * 96 ≤ 140737488355328) ∧ (∀ (i0 : Nat) (v0_1 : List Fld) (x0 : Fld), p0[i0]? = some x0 → List.length v0_1 ≤ i0 → List.length (v0_1 : List Fld) ≤ i0 → ((Int.toNat (Qe p0 i0 v0_1 ((Int.toNat ((List.length v0_1 : Int) - 0)) + 1) 0)) == 0) = true → List.length (([x0] ++ (List.take ((List.length v0_1) - (Int.toNat (Qe p0 i0 v0_1 ((Int.toNat ((List.length v0_1 : Int) - 0)) + 1) 0))) (List.drop (Int.toNat (Qe p0 i0 v0_1 ((Int.toNat ((List.length v0_1 : Int) - 0)) + 1) 0)) v0_1))) : List Fld) ≤ (i0 + 1)) ∧ (∀ (i0 : Nat) (v0_1 : List Fld) (x0 : Fld), p0[i0]? = some x0 → List.length v0_1 ≤ i0 → List.length (v0_1 : List Fld) ≤ i0 → ((Int.toNat (Qe p0 i0 v0_1 ((Int.toNat ((List.length v0_1 : Int) - 0)) + 1) 0)) == 0) = false → List.length ((((List.take (Int.toNat (Qe p0 i0 v0_1 ((Int.toNat ((List.length v0_1 : Int) - 0)) + 1) 0)) v0_1) ++ [x0]) ++ (List.take ((List.length v0_1) - (Int.toNat (Qe p0 i0 v0_1 ((Int.toNat ((List.length v0_1 : Int) - 0)) + 1) 0))) (List.drop (Int.toNat (Qe p0 i0 v0_1 ((Int.toNat ((List.length v0_1 : Int) - 0)) + 1) 0)) v0_1))) : List Fld) ≤ (i0 + 1)) ∧ True
def Qkk (p0 : List Fld) (i0 : Nat) (_v0_1 : List Fld) : List PV :=
  [.sl (Fld.rows p0), .un, .un, .un, .int .i64 (i0 : Int), .un, .un, .int .i64 (i0 : Int), .sl (Fld.rows p0), .int .i64 ((List.length p0) : Int), .bool false]
def Qez (_p0 : List Fld) (_i0 : Nat) (_v0_1 : List Fld) : List (Nat × List PV) :=
  []
theorem Qwa (p0 : List Fld) (_H : Qb2 p0) (i0 : Nat) (v0_1 : List Fld) (_ho0_0 : List.length v0_1 ≤ i0) (_ho0_1 : List.length (v0_1 : List Fld) ≤ i0) (hc0 : (decide ((i0 : Int) < ((List.length p0) : Int))) = false) : Qhr p0 (Q86 p0 i0 v0_1) v0_1 := by
 exact ⟨(envF (Qkk p0 i0 v0_1)), (zoF (Qez p0 i0 v0_1)), Qm (Qmv p0 i0 v0_1) (x := ((.exit 0), Qk1 p0 v0_1 (envF (Qkk p0 i0 v0_1)) (zoF (Qez p0 i0 v0_1)))) [hP 2 (Qs (Fld.rows p0) (List.length p0) (Fld.Q8 p0)), hB 0 hc0] [] (by kernel_rfl)⟩
theorem Qut (p0 : List Fld) (H : Qb2 p0) (x0 : Fld) (i0 : Nat) (v0_1 : List Fld) (hx0 : p0[i0]? = some x0) (hi0 : i0 < List.length p0) (ho0_0 : List.length v0_1 ≤ i0) (_ho0_1 : List.length (v0_1 : List Fld) ≤ i0) (hc0 : (decide ((i0 : Int) < ((List.length p0) : Int))) = true) (z0 : Nat → PV) (zo0 : Nat → List PV) (hl0 : Q7 G (Q6u p0 i0 v0_1 0) (.st (.exit 2) (Q5s p0 i0 v0_1 (Qe p0 i0 v0_1 ((Int.toNat ((List.length v0_1 : Int) - 0)) + 1) 0) z0 zo0))) (h0 : ((Int.toNat (Qe p0 i0 v0_1 ((Int.toNat ((List.length v0_1 : Int) - 0)) + 1) 0)) == 0) = true) {r : Rs} (hr : Q7 G (Q86 p0 (i0 + 1) ([x0] ++ (List.take ((List.length v0_1) - (Int.toNat (Qe p0 i0 v0_1 ((Int.toNat ((List.length v0_1 : Int) - 0)) + 1) 0))) (List.drop (Int.toNat (Qe p0 i0 v0_1 ((Int.toNat ((List.length v0_1 : Int) - 0)) + 1) 0)) v0_1)))) r) : Q7 G (Q86 p0 i0 v0_1) r := by
 have hB0 := H.1; have e0 := eq_of_beq h0
 exact Qn (Qmv p0 i0 v0_1) (y := (Qgo p0 (i0 + 1) ([x0] ++ (List.take ((List.length v0_1) - (Int.toNat (Qe p0 i0 v0_1 ((Int.toNat ((List.length v0_1 : Int) - 0)) + 1) 0))) (List.drop (Int.toNat (Qe p0 i0 v0_1 ((Int.toNat ((List.length v0_1 : Int) - 0)) + 1) 0)) v0_1))), Q9o p0 (i0 + 1) ([x0] ++ (List.take ((List.length v0_1) - (Int.toNat (Qe p0 i0 v0_1 ((Int.toNat ((List.length v0_1 : Int) - 0)) + 1) 0))) (List.drop (Int.toNat (Qe p0 i0 v0_1 ((Int.toNat ((List.length v0_1 : Int) - 0)) + 1) 0)) v0_1))))) [hP 2 (Qs (Fld.rows p0) (List.length p0) (Fld.Q8 p0)), hB 0 hc0, hS 0 true (Fld.Qb v0_1 6 rfl), hP 5 (Qqo 1 6 (List.length v0_1) (Qe p0 i0 v0_1 ((Int.toNat ((List.length v0_1 : Int) - 0)) + 1) 0) (by have g0 := Q20 p0 i0 v0_1 ((Int.toNat ((List.length v0_1 : Int) - 0)) + 1) 0 (by omega) (by omega) (by omega) (by omega) (by omega); omega) (by have g0 := Q20 p0 i0 v0_1 ((Int.toNat ((List.length v0_1 : Int) - 0)) + 1) 0 (by omega) (by omega) (by omega) (by omega) (by omega); omega)), hP 0 (Qwt 1 1412 6 96 0 true (Fld.rows v0_1) 0 (Int.toNat (Qe p0 i0 v0_1 ((Int.toNat ((List.length v0_1 : Int) - 0)) + 1) 0)) (Fld.Qh v0_1) (by rw [Fld.Q8]; exact (by have g0 := Q20 p0 i0 v0_1 ((Int.toNat ((List.length v0_1 : Int) - 0)) + 1) 0 (by omega) (by omega) (by omega) (by omega) (by omega); omega)) (eq_of_beq h0)), hP 4 (Q1x 6 (Fld.rows p0) i0 _ (Fld.Qf hx0) rfl), hP 7 (Qp5 1 6 (List.length v0_1) (Qe p0 i0 v0_1 ((Int.toNat ((List.length v0_1 : Int) - 0)) + 1) 0) (by have g0 := Q20 p0 i0 v0_1 ((Int.toNat ((List.length v0_1 : Int) - 0)) + 1) 0 (by omega) (by omega) (by omega) (by omega) (by omega); omega) (by have g0 := Q20 p0 i0 v0_1 ((Int.toNat ((List.length v0_1 : Int) - 0)) + 1) 0 (by omega) (by omega) (by omega) (by omega) (by omega); omega)), hV 0 [(2308, Fld.rows ([x0] ++ (List.take ((List.length v0_1) - (Int.toNat (Qe p0 i0 v0_1 ((Int.toNat ((List.length v0_1 : Int) - 0)) + 1) 0))) (List.drop (Int.toNat (Qe p0 i0 v0_1 ((Int.toNat ((List.length v0_1 : Int) - 0)) + 1) 0)) v0_1))))] (Qt0 1924 1 2308 6 96 0 [.str x0.name, .int .i64 x0.v.kind, .int .i64 x0.v.n, .str x0.v.s, .sl (Val.rows x0.v.list), .sl (Fld.rows x0.v.fields)] (Fld.rows [x0]) 0 true (Fld.rows v0_1) (Fld.rows ([x0] ++ (List.take ((List.length v0_1) - (Int.toNat (Qe p0 i0 v0_1 ((Int.toNat ((List.length v0_1 : Int) - 0)) + 1) 0))) (List.drop (Int.toNat (Qe p0 i0 v0_1 ((Int.toNat ((List.length v0_1 : Int) - 0)) + 1) 0)) v0_1)))) 1 (Int.toNat (Qe p0 i0 v0_1 ((Int.toNat ((List.length v0_1 : Int) - 0)) + 1) 0)) ((List.length v0_1) - (Int.toNat (Qe p0 i0 v0_1 ((Int.toNat ((List.length v0_1 : Int) - 0)) + 1) 0))) (List.length ([x0] ++ (List.take ((List.length v0_1) - (Int.toNat (Qe p0 i0 v0_1 ((Int.toNat ((List.length v0_1 : Int) - 0)) + 1) 0))) (List.drop (Int.toNat (Qe p0 i0 v0_1 ((Int.toNat ((List.length v0_1 : Int) - 0)) + 1) 0)) v0_1)))) rfl (by simp only [Fld.Q14, Fld.Q1f]; rfl) (Fld.Q8 [x0]).symm (Fld.Q8 ([x0] ++ (List.take ((List.length v0_1) - (Int.toNat (Qe p0 i0 v0_1 ((Int.toNat ((List.length v0_1 : Int) - 0)) + 1) 0))) (List.drop (Int.toNat (Qe p0 i0 v0_1 ((Int.toNat ((List.length v0_1 : Int) - 0)) + 1) 0)) v0_1)))).symm (by rw [Fld.Q30, Fld.Q23, Fld.Q2a]) (Fld.Qh [x0]) (Fld.Qh v0_1) (by rw [Fld.Q8]; exact (by have g0 := Q20 p0 i0 v0_1 ((Int.toNat ((List.length v0_1 : Int) - 0)) + 1) 0 (by omega) (by omega) (by omega) (by omega) (by omega); omega)) (by have g0 := Q20 p0 i0 v0_1 ((Int.toNat ((List.length v0_1 : Int) - 0)) + 1) 0 (by omega) (by omega) (by omega) (by omega) (by omega); omega)), hS 0 true (Fld.Qb ([x0] ++ (List.take ((List.length v0_1) - (Int.toNat (Qe p0 i0 v0_1 ((Int.toNat ((List.length v0_1 : Int) - 0)) + 1) 0))) (List.drop (Int.toNat (Qe p0 i0 v0_1 ((Int.toNat ((List.length v0_1 : Int) - 0)) + 1) 0)) v0_1))) 6 rfl), hP 4 (Q1o i0 (by omega))] [aV [(1, Fld.rows v0_1)] hl0] (by kernel_rfl) hr
theorem Quu (p0 : List Fld) (H : Qb2 p0) (x0 : Fld) (i0 : Nat) (v0_1 : List Fld) (hx0 : p0[i0]? = some x0) (hi0 : i0 < List.length p0) (ho0_0 : List.length v0_1 ≤ i0) (ho0_1 : List.length (v0_1 : List Fld) ≤ i0) (hc0 : (decide ((i0 : Int) < ((List.length p0) : Int))) = true) (z0 : Nat → PV) (zo0 : Nat → List PV) (hl0 : Q7 G (Q6u p0 i0 v0_1 0) (.st (.exit 2) (Q5s p0 i0 v0_1 (Qe p0 i0 v0_1 ((Int.toNat ((List.length v0_1 : Int) - 0)) + 1) 0) z0 zo0))) (h0 : ((Int.toNat (Qe p0 i0 v0_1 ((Int.toNat ((List.length v0_1 : Int) - 0)) + 1) 0)) == 0) = false) {r : Rs} (hr : Q7 G (Q86 p0 (i0 + 1) (((List.take (Int.toNat (Qe p0 i0 v0_1 ((Int.toNat ((List.length v0_1 : Int) - 0)) + 1) 0)) v0_1) ++ [x0]) ++ (List.take ((List.length v0_1) - (Int.toNat (Qe p0 i0 v0_1 ((Int.toNat ((List.length v0_1 : Int) - 0)) + 1) 0))) (List.drop (Int.toNat (Qe p0 i0 v0_1 ((Int.toNat ((List.length v0_1 : Int) - 0)) + 1) 0)) v0_1)))) r) : Q7 G (Q86 p0 i0 v0_1) r := by
 have hB0 := H.1; have e0 := beq_eq_false_iff_ne.1 h0
 exact Qn (Qmv p0 i0 v0_1) (y := (Qgo p0 (i0 + 1) (((List.take (Int.toNat (Qe p0 i0 v0_1 ((Int.toNat ((List.length v0_1 : Int) - 0)) + 1) 0)) v0_1) ++ [x0]) ++ (List.take ((List.length v0_1) - (Int.toNat (Qe p0 i0 v0_1 ((Int.toNat ((List.length v0_1 : Int) - 0)) + 1) 0))) (List.drop (Int.toNat (Qe p0 i0 v0_1 ((Int.toNat ((List.length v0_1 : Int) - 0)) + 1) 0)) v0_1))), Q9o p0 (i0 + 1) (((List.take (Int.toNat (Qe p0 i0 v0_1 ((Int.toNat ((List.length v0_1 : Int) - 0)) + 1) 0)) v0_1) ++ [x0]) ++ (List.take ((List.length v0_1) - (Int.toNat (Qe p0 i0 v0_1 ((Int.toNat ((List.length v0_1 : Int) - 0)) + 1) 0))) (List.drop (Int.toNat (Qe p0 i0 v0_1 ((Int.toNat ((List.length v0_1 : Int) - 0)) + 1) 0)) v0_1))))) [hP 2 (Qs (Fld.rows p0) (List.length p0) (Fld.Q8 p0)), hB 0 hc0, hS 0 true (Fld.Qb v0_1 6 rfl), hP 5 (Qqo 1 6 (List.length v0_1) (Qe p0 i0 v0_1 ((Int.toNat ((List.length v0_1 : Int) - 0)) + 1) 0) (by have g0 := Q20 p0 i0 v0_1 ((Int.toNat ((List.length v0_1 : Int) - 0)) + 1) 0 (by omega) (by omega) (by omega) (by omega) (by omega); omega) (by have g0 := Q20 p0 i0 v0_1 ((Int.toNat ((List.length v0_1 : Int) - 0)) + 1) 0 (by omega) (by omega) (by omega) (by omega) (by omega); omega)), hV 0 [(1412, Fld.rows (List.take (Int.toNat (Qe p0 i0 v0_1 ((Int.toNat ((List.length v0_1 : Int) - 0)) + 1) 0)) v0_1))] (Q124 1 1412 6 96 0 true (Fld.rows v0_1) (Fld.rows (List.take (Int.toNat (Qe p0 i0 v0_1 ((Int.toNat ((List.length v0_1 : Int) - 0)) + 1) 0)) v0_1)) 0 (Int.toNat (Qe p0 i0 v0_1 ((Int.toNat ((List.length v0_1 : Int) - 0)) + 1) 0)) (List.length (List.take (Int.toNat (Qe p0 i0 v0_1 ((Int.toNat ((List.length v0_1 : Int) - 0)) + 1) 0)) v0_1)) (Fld.Qh v0_1) (by rw [Fld.Q8]; exact (by have g0 := Q20 p0 i0 v0_1 ((Int.toNat ((List.length v0_1 : Int) - 0)) + 1) 0 (by omega) (by omega) (by omega) (by omega) (by omega); omega)) (beq_eq_false_iff_ne.1 h0) (by rw [Fld.Q23]; rfl) (by have g0 := Q20 p0 i0 v0_1 ((Int.toNat ((List.length v0_1 : Int) - 0)) + 1) 0 (by omega) (by omega) (by omega) (by omega) (by omega); try simp only [List.length_take]; omega) (by have g0 := Q20 p0 i0 v0_1 ((Int.toNat ((List.length v0_1 : Int) - 0)) + 1) 0 (by omega) (by omega) (by omega) (by omega) (by omega); omega)), hS 0 true (Fld.Qb (List.take (Int.toNat (Qe p0 i0 v0_1 ((Int.toNat ((List.length v0_1 : Int) - 0)) + 1) 0)) v0_1) 6 rfl), hP 4 (Q1x 6 (Fld.rows p0) i0 _ (Fld.Qf hx0) rfl), hV 2 [(1924, Fld.rows ((List.take (Int.toNat (Qe p0 i0 v0_1 ((Int.toNat ((List.length v0_1 : Int) - 0)) + 1) 0)) v0_1) ++ [x0]))] (Q6y 1412 1860 1924 6 96 0 0 true (Fld.rows (List.take (Int.toNat (Qe p0 i0 v0_1 ((Int.toNat ((List.length v0_1 : Int) - 0)) + 1) 0)) v0_1)) (Fld.rows ((List.take (Int.toNat (Qe p0 i0 v0_1 ((Int.toNat ((List.length v0_1 : Int) - 0)) + 1) 0)) v0_1) ++ [x0])) (Fld.cells x0) (List.length (List.take (Int.toNat (Qe p0 i0 v0_1 ((Int.toNat ((List.length v0_1 : Int) - 0)) + 1) 0)) v0_1)) (List.length ((List.take (Int.toNat (Qe p0 i0 v0_1 ((Int.toNat ((List.length v0_1 : Int) - 0)) + 1) 0)) v0_1) ++ [x0])) rfl (Fld.Q8 (List.take (Int.toNat (Qe p0 i0 v0_1 ((Int.toNat ((List.length v0_1 : Int) - 0)) + 1) 0)) v0_1)).symm (Fld.Q8 ((List.take (Int.toNat (Qe p0 i0 v0_1 ((Int.toNat ((List.length v0_1 : Int) - 0)) + 1) 0)) v0_1) ++ [x0])).symm (Fld.Q1g (List.take (Int.toNat (Qe p0 i0 v0_1 ((Int.toNat ((List.length v0_1 : Int) - 0)) + 1) 0)) v0_1) x0) (Fld.Qh (List.take (Int.toNat (Qe p0 i0 v0_1 ((Int.toNat ((List.length v0_1 : Int) - 0)) + 1) 0)) v0_1)) rfl ((H.2.1 i0 v0_1 x0 hx0 ho0_0 ho0_1) h0)), hS 0 true (Fld.Qb ((List.take (Int.toNat (Qe p0 i0 v0_1 ((Int.toNat ((List.length v0_1 : Int) - 0)) + 1) 0)) v0_1) ++ [x0]) 6 rfl), hP 4 (Qp5 1 6 (List.length v0_1) (Qe p0 i0 v0_1 ((Int.toNat ((List.length v0_1 : Int) - 0)) + 1) 0) (by have g0 := Q20 p0 i0 v0_1 ((Int.toNat ((List.length v0_1 : Int) - 0)) + 1) 0 (by omega) (by omega) (by omega) (by omega) (by omega); omega) (by have g0 := Q20 p0 i0 v0_1 ((Int.toNat ((List.length v0_1 : Int) - 0)) + 1) 0 (by omega) (by omega) (by omega) (by omega) (by omega); omega)), hV 0 [(2308, Fld.rows (((List.take (Int.toNat (Qe p0 i0 v0_1 ((Int.toNat ((List.length v0_1 : Int) - 0)) + 1) 0)) v0_1) ++ [x0]) ++ (List.take ((List.length v0_1) - (Int.toNat (Qe p0 i0 v0_1 ((Int.toNat ((List.length v0_1 : Int) - 0)) + 1) 0))) (List.drop (Int.toNat (Qe p0 i0 v0_1 ((Int.toNat ((List.length v0_1 : Int) - 0)) + 1) 0)) v0_1))))] (Qt0 1924 1 2308 6 96 0 ((Fld.rows ((List.take (Int.toNat (Qe p0 i0 v0_1 ((Int.toNat ((List.length v0_1 : Int) - 0)) + 1) 0)) v0_1) ++ [x0])).flatten) (Fld.rows ((List.take (Int.toNat (Qe p0 i0 v0_1 ((Int.toNat ((List.length v0_1 : Int) - 0)) + 1) 0)) v0_1) ++ [x0])) 0 true (Fld.rows v0_1) (Fld.rows (((List.take (Int.toNat (Qe p0 i0 v0_1 ((Int.toNat ((List.length v0_1 : Int) - 0)) + 1) 0)) v0_1) ++ [x0]) ++ (List.take ((List.length v0_1) - (Int.toNat (Qe p0 i0 v0_1 ((Int.toNat ((List.length v0_1 : Int) - 0)) + 1) 0))) (List.drop (Int.toNat (Qe p0 i0 v0_1 ((Int.toNat ((List.length v0_1 : Int) - 0)) + 1) 0)) v0_1)))) (List.length ((List.take (Int.toNat (Qe p0 i0 v0_1 ((Int.toNat ((List.length v0_1 : Int) - 0)) + 1) 0)) v0_1) ++ [x0])) (Int.toNat (Qe p0 i0 v0_1 ((Int.toNat ((List.length v0_1 : Int) - 0)) + 1) 0)) ((List.length v0_1) - (Int.toNat (Qe p0 i0 v0_1 ((Int.toNat ((List.length v0_1 : Int) - 0)) + 1) 0))) (List.length (((List.take (Int.toNat (Qe p0 i0 v0_1 ((Int.toNat ((List.length v0_1 : Int) - 0)) + 1) 0)) v0_1) ++ [x0]) ++ (List.take ((List.length v0_1) - (Int.toNat (Qe p0 i0 v0_1 ((Int.toNat ((List.length v0_1 : Int) - 0)) + 1) 0))) (List.drop (Int.toNat (Qe p0 i0 v0_1 ((Int.toNat ((List.length v0_1 : Int) - 0)) + 1) 0)) v0_1)))) rfl rfl (Fld.Q8 ((List.take (Int.toNat (Qe p0 i0 v0_1 ((Int.toNat ((List.length v0_1 : Int) - 0)) + 1) 0)) v0_1) ++ [x0])).symm (Fld.Q8 (((List.take (Int.toNat (Qe p0 i0 v0_1 ((Int.toNat ((List.length v0_1 : Int) - 0)) + 1) 0)) v0_1) ++ [x0]) ++ (List.take ((List.length v0_1) - (Int.toNat (Qe p0 i0 v0_1 ((Int.toNat ((List.length v0_1 : Int) - 0)) + 1) 0))) (List.drop (Int.toNat (Qe p0 i0 v0_1 ((Int.toNat ((List.length v0_1 : Int) - 0)) + 1) 0)) v0_1)))).symm (by rw [Fld.Q30, Fld.Q23, Fld.Q2a]) (Fld.Qh ((List.take (Int.toNat (Qe p0 i0 v0_1 ((Int.toNat ((List.length v0_1 : Int) - 0)) + 1) 0)) v0_1) ++ [x0])) (Fld.Qh v0_1) (by rw [Fld.Q8]; exact (by have g0 := Q20 p0 i0 v0_1 ((Int.toNat ((List.length v0_1 : Int) - 0)) + 1) 0 (by omega) (by omega) (by omega) (by omega) (by omega); omega)) (by have g0 := Q20 p0 i0 v0_1 ((Int.toNat ((List.length v0_1 : Int) - 0)) + 1) 0 (by omega) (by omega) (by omega) (by omega) (by omega); try simp only [List.length_append, List.length_cons, List.length_nil, List.length_take]; omega)), hS 0 true (Fld.Qb (((List.take (Int.toNat (Qe p0 i0 v0_1 ((Int.toNat ((List.length v0_1 : Int) - 0)) + 1) 0)) v0_1) ++ [x0]) ++ (List.take ((List.length v0_1) - (Int.toNat (Qe p0 i0 v0_1 ((Int.toNat ((List.length v0_1 : Int) - 0)) + 1) 0))) (List.drop (Int.toNat (Qe p0 i0 v0_1 ((Int.toNat ((List.length v0_1 : Int) - 0)) + 1) 0)) v0_1))) 6 rfl), hP 4 (Q1o i0 (by omega))] [aV [(1, Fld.rows v0_1)] hl0] (by kernel_rfl) hr
theorem Qia (p0 : List Fld) (H : Qb2 p0) : ∀ (r0 : List Fld) (i0 : Nat) (v0_1 : List Fld), List.drop i0 p0 = r0 → List.length v0_1 ≤ i0 → List.length (v0_1 : List Fld) ≤ i0 → Qhr p0 (Q86 p0 i0 v0_1) (Q5f p0 r0 i0 v0_1)
 | [], i0, v0_1, hd, ho0_0, ho0_1 => by
  have hc0 : (decide ((i0 : Int) < ((List.length p0) : Int))) = false := by have := Q1d hd; simp; omega
  rw [Q5f]
  exact Qwa p0 H i0 v0_1 ho0_0 ho0_1 hc0
 | x0 :: r0, i0, v0_1, hd, ho0_0, ho0_1 => by
  obtain ⟨hx0, hi0, hd'⟩ := Q19 hd
  have hB0 := H.1
  have hc0 : (decide ((i0 : Int) < ((List.length p0) : Int))) = true := by simp; omega
  rw [Q5f]
  have hl0 := Qq4 p0 i0 v0_1 ((Int.toNat ((List.length v0_1 : Int) - 0)) + 1) 0 (by omega) (by omega) (by omega) (by omega) (by omega)
  obtain ⟨z0, zo0, hl0⟩ := hl0
  cases h0 : ((Int.toNat (Qe p0 i0 v0_1 ((Int.toNat ((List.length v0_1 : Int) - 0)) + 1) 0)) == 0) with
  | true =>
   have e0 := eq_of_beq h0
   exact Q8w p0 (fun r hr => Qut p0 H x0 i0 v0_1 hx0 hi0 ho0_0 ho0_1 hc0 z0 zo0 hl0 h0 hr) _ (Qia p0 H r0 (i0 + 1) ([x0] ++ (List.take ((List.length v0_1) - (Int.toNat (Qe p0 i0 v0_1 ((Int.toNat ((List.length v0_1 : Int) - 0)) + 1) 0))) (List.drop (Int.toNat (Qe p0 i0 v0_1 ((Int.toNat ((List.length v0_1 : Int) - 0)) + 1) 0)) v0_1))) hd' (by first | omega | (simp; omega)) ((H.2.2.1 i0 v0_1 x0 hx0 ho0_0 ho0_1) h0))
  | false =>
   have e0 := beq_eq_false_iff_ne.1 h0
   exact Q8w p0 (fun r hr => Quu p0 H x0 i0 v0_1 hx0 hi0 ho0_0 ho0_1 hc0 z0 zo0 hl0 h0 hr) _ (Qia p0 H r0 (i0 + 1) (((List.take (Int.toNat (Qe p0 i0 v0_1 ((Int.toNat ((List.length v0_1 : Int) - 0)) + 1) 0)) v0_1) ++ [x0]) ++ (List.take ((List.length v0_1) - (Int.toNat (Qe p0 i0 v0_1 ((Int.toNat ((List.length v0_1 : Int) - 0)) + 1) 0))) (List.drop (Int.toNat (Qe p0 i0 v0_1 ((Int.toNat ((List.length v0_1 : Int) - 0)) + 1) 0)) v0_1))) hd' (by first | omega | (simp; omega)) ((H.2.2.2.1 i0 v0_1 x0 hx0 ho0_0 ho0_1) h0))
def s_Ko (p0 : List Fld) : Val :=
 (Val.mk 5 0 eB [] (Q5f p0 p0 0 []))
def c_Ko (p0 : List Fld) : En := .call 50 [.sl (Fld.rows p0)] []
def a_Ko (p0 : List Fld) : Rs := .ret (.agg (Val.cells (s_Ko p0))) []
def H_Ko (p0 : List Fld) : Prop := List.length p0 ≤ 20
theorem Qto (p0 : List Fld) (H : H_Ko p0) : (Qb2 p0) ∧ (List.length ([] : List Fld) ≤ 0) ∧ True := by
  have H' : p0.length ≤ 20 := H
  have hl : ∀ (i : Nat) (x : Fld), p0[i]? = some x → i < 20 := fun i x h => Nat.lt_of_lt_of_le (List.getElem?_eq_some_iff.1 h).1 H'
  refine ⟨⟨by omega, fun i v x hx a _ _ => ?_, fun i v x hx a _ _ => ?_, fun i v x hx a _ _ => ?_, trivial⟩, by simp, trivial⟩ <;>
  · have := hl i x hx
    simp only [List.length_append, List.length_take, List.length_drop, List.length_cons, List.length_nil]
    omega
theorem t_Ko (p0 : List Fld) (H : H_Ko p0) : Q7 G (c_Ko p0) (a_Ko p0) := by
 unfold a_Ko s_Ko
 have hl0 := Qia p0 ((Qto p0 H).1) p0 0 [] (by simp) (by simp) ((Qto p0 H).2.1)
 obtain ⟨z0, zo0, hl0⟩ := hl0
 exact Qa (fn := Ir.Ko) rfl VOK.nil [hS 0 true (Fld.Qb (Q5f p0 p0 0 []) 6 rfl), hQ (Fld.Q8 (Q5f p0 p0 0 [])).symm] [aV [(1, Fld.rows (Q5f p0 p0 0 []))] hl0] (by kernel_rfl)
def s_Kt (p0 : BA) : Val :=
 (Val.mk 3 0 p0 [] [])
def c_Kt (p0 : BA) : En := .call 53 [.str p0] []
def a_Kt (p0 : BA) : Rs := .ret (.agg (Val.cells (s_Kt p0))) []
theorem t_Kt (p0 : BA) : Q7 G (c_Kt p0) (a_Kt p0) := by
 unfold a_Kt s_Kt
 exact Qa (fn := Ir.Kt) rfl VOK.nil [] [] (by kernel_rfl)
def s_Kn (p0 : Int) : Val :=
 (Val.mk 2 p0 eB [] [])
def c_Kn (p0 : Int) : En := .call 54 [.int .i64 p0] []
def a_Kn (p0 : Int) : Rs := .ret (.agg (Val.cells (s_Kn p0))) []
theorem t_Kn (p0 : Int) : Q7 G (c_Kn p0) (a_Kn p0) := by
 unfold a_Kn s_Kn
 exact Qa (fn := Ir.Kn) rfl VOK.nil [] [] (by kernel_rfl)
def Q45 (p0 : List ByteArray) : List ByteArray → Nat → (List Val) → List Val
 | [], _i0, v0_1 =>
  v0_1
 | x0 :: r0, i0, v0_1 =>
  Q45 p0 r0 (i0 + 1) (v0_1 ++ [(s_Kt x0)])
theorem Qud (p0 : List ByteArray) : ∀ (l : List ByteArray) (i : Nat) (a : List Val), Q45 p0 l i a = a ++ l.map (fun x0 => (s_Kt x0))
  | [], _, _ => by simp [Q45]
  | x :: r, i, a => by rw [Q45, Qud p0 r]; simp
def Qo5 (p0 : List ByteArray) (i0 : Nat) (v0_1 : List Val) : List PV :=
  [.sl (Qg p0), .un, .bx 0 0, .ms 1 5 0 (List.length v0_1), .int .i64 (i0 : Int)] ++ nuns 16
def Qgt (_p0 : List ByteArray) (_i0 : Nat) (v0_1 : List Val) : List Ob :=
  [⟨5, 0, true, [.int .i64 0, .int .i64 0, .str eB, .ms 2 5 0 0, .ms 3 6 0 0]⟩, ⟨5, 0, true, (Val.rows v0_1).flatten⟩, ⟨5, 0, true, []⟩, ⟨6, 0, true, []⟩]
def Qgm (p0 : List ByteArray) (i0 : Nat) (v0_1 : List Val) : En := .loop 0 Ir.Qdz Ir.Q10p (Qo5 p0 i0 v0_1) (Qgt p0 i0 v0_1)
def Qk3 (_p0 : List ByteArray) (q0 : List Val) (z : Nat → PV) (_zo : Nat → List PV) : St :=
  ⟨[z 0, z 1, .bx 0 0, .ms 1 5 0 (List.length q0)] ++ zr z 4 17, [(0, ⟨5, 0, true, [.int .i64 0, .int .i64 0, .str eB, .ms 2 5 0 0, .ms 3 6 0 0]⟩), (1, ⟨5, 0, true, (Val.rows q0).flatten⟩), (2, ⟨5, 0, true, []⟩), (3, ⟨6, 0, true, []⟩)], 260⟩
theorem Qsv (p0 : List ByteArray) (i0 : Nat) (v0_1 : List Val) : VOK (Go.Pv.look (number 0 (Qgt p0 i0 v0_1))) [(1, Val.rows v0_1)] := (VOK.cons (show Seen _ _ from Q3n (ob := ⟨5, 0, true, (Val.rows v0_1).flatten⟩) (Val.Qb v0_1 5 rfl)) VOK.nil)
def Qht (p0 : List ByteArray) (e : En) (q : List Val) : Prop := ∃ z zo, Q7 G e (.st (.exit 0) (Qk3 p0 q z zo))
theorem Qjp (p0 : List ByteArray) {e e' : En} (h : ∀ r, Q7 G e r → Q7 G e' r) : ∀ q, Qht p0 e q → Qht p0 e' q
  | _, ⟨z, zo, hz⟩ => ⟨z, zo, h _ hz⟩
def Qh6 (p0 : List ByteArray) : Prop := (List.length p0 ≤ 137438953472) ∧ True
def Qko (p0 : List ByteArray) (i0 : Nat) (_v0_1 : List Val) : List PV :=
  [.sl (Qg p0), .un, .un, .un, .int .i64 (i0 : Int), .int .i64 (i0 : Int), .sl (Qg p0), .int .i64 ((List.length p0) : Int), .bool false]
def Qf3 (_p0 : List ByteArray) (_i0 : Nat) (_v0_1 : List Val) : List (Nat × List PV) :=
  []
theorem Qwe (p0 : List ByteArray) (_H : Qh6 p0) (i0 : Nat) (v0_1 : List Val) (_ho0_0 : List.length v0_1 ≤ i0) (hc0 : (decide ((i0 : Int) < ((List.length p0) : Int))) = false) : Qht p0 (Qgm p0 i0 v0_1) v0_1 := by
 exact ⟨(envF (Qko p0 i0 v0_1)), (zoF (Qf3 p0 i0 v0_1)), Qm (Qsv p0 i0 v0_1) (x := ((.exit 0), Qk3 p0 v0_1 (envF (Qko p0 i0 v0_1)) (zoF (Qf3 p0 i0 v0_1)))) [hP 2 (Qs (Qg p0) (List.length p0) (Q1h p0)), hB 0 hc0] [] (by kernel_rfl)⟩
theorem Qux (p0 : List ByteArray) (H : Qh6 p0) (x0 : BA) (i0 : Nat) (v0_1 : List Val) (hx0 : p0[i0]? = some x0) (hi0 : i0 < List.length p0) (ho0_0 : List.length v0_1 ≤ i0) (hc0 : (decide ((i0 : Int) < ((List.length p0) : Int))) = true) {r : Rs} (hr : Q7 G (Qgm p0 (i0 + 1) (v0_1 ++ [(s_Kt x0)])) r) : Q7 G (Qgm p0 i0 v0_1) r := by
 have hB0 := H.1
 exact Qn (Qsv p0 i0 v0_1) (y := (Qo5 p0 (i0 + 1) (v0_1 ++ [(s_Kt x0)]), Qgt p0 (i0 + 1) (v0_1 ++ [(s_Kt x0)]))) [hP 2 (Qs (Qg p0) (List.length p0) (Q1h p0)), hB 0 hc0, hP 3 (Q1x 1 (Qg p0) i0 _ (Q6i hx0) rfl), hV 3 [(708, Val.rows (v0_1 ++ [(s_Kt x0)]))] (Q6y 1 644 708 5 80 0 0 true (Val.rows v0_1) (Val.rows (v0_1 ++ [(s_Kt x0)])) (Val.cells (s_Kt x0)) (List.length v0_1) (List.length (v0_1 ++ [(s_Kt x0)])) rfl (Val.Q8 v0_1).symm (Val.Q8 (v0_1 ++ [(s_Kt x0)])).symm (Val.Q1g v0_1 (s_Kt x0)) (Val.Qh v0_1) rfl (by omega)), hS 0 true (Val.Qb (v0_1 ++ [(s_Kt x0)]) 5 rfl), hP 2 (Q1o i0 (by omega))] [aN (t_Kt x0)] (by kernel_rfl) hr
theorem Qq6 (p0 : List ByteArray) (H : Qh6 p0) : ∀ (r0 : List ByteArray) (i0 : Nat) (v0_1 : List Val), List.drop i0 p0 = r0 → List.length v0_1 ≤ i0 → Qht p0 (Qgm p0 i0 v0_1) (Q45 p0 r0 i0 v0_1)
 | [], i0, v0_1, hd, ho0_0 => by
  have hc0 : (decide ((i0 : Int) < ((List.length p0) : Int))) = false := by have := Q1d hd; simp; omega
  rw [Q45]
  exact Qwe p0 H i0 v0_1 ho0_0 hc0
 | x0 :: r0, i0, v0_1, hd, ho0_0 => by
  obtain ⟨hx0, hi0, hd'⟩ := Q19 hd
  have hc0 : (decide ((i0 : Int) < ((List.length p0) : Int))) = true := by simp; omega
  rw [Q45]
  exact Qjp p0 (fun r hr => Qux p0 H x0 i0 v0_1 hx0 hi0 ho0_0 hc0 hr) _ (Qq6 p0 H r0 (i0 + 1) (v0_1 ++ [(s_Kt x0)]) hd' (by first | omega | (simp; omega)))
def s_Ku (p0 : List ByteArray) : Val := vL (p0.map vS)
theorem e_Ku (p0 : List ByteArray) : s_Ku p0 = ((Val.mk 4 0 eB (Q45 p0 p0 0 []) [])) := by
  rw [Qud]
  kernel_rfl
def c_Ku (p0 : List ByteArray) : En := .call 84 [.sl (Qg p0)] []
def a_Ku (p0 : List ByteArray) : Rs := .ret (.agg (Val.cells (s_Ku p0))) []
def H_Ku (p0 : List ByteArray) : Prop := LSm (fun _ : ByteArray => True) p0
theorem Qzq (p0 : List ByteArray) (H : H_Ku p0) : (Qh6 p0) ∧ True := by
  exact ⟨(by first | exact ⟨Nat.le_trans H.1 (Nat.le_of_ble_eq_true rfl), trivial⟩ | exact ⟨Nat.le_trans H.1 (Nat.le_of_ble_eq_true rfl), H.2, trivial⟩ | exact ⟨Nat.le_trans H.1 (Nat.le_of_ble_eq_true rfl), fun x hx => (H.2 x hx).1, trivial⟩), trivial⟩
theorem t_Ku (p0 : List ByteArray) (H : H_Ku p0) : Q7 G (c_Ku p0) (a_Ku p0) := by
 unfold a_Ku
 rw [e_Ku]
 have hl0 := Qq6 p0 ((Qzq p0 H).1) p0 0 [] (by simp) (by simp)
 obtain ⟨z0, zo0, hl0⟩ := hl0
 exact Qa (fn := Ir.Ku) rfl VOK.nil [hS 0 true (Val.Qb (Q45 p0 p0 0 []) 5 rfl), hQ (Val.Q8 (Q45 p0 p0 0 [])).symm] [aV [(1, Val.rows (Q45 p0 p0 0 []))] hl0] (by kernel_rfl)
def Q44 (p0 : List Requirement) : List Requirement → Nat → (List Val) → List Val
 | [], _i0, v0_1 =>
  v0_1
 | x0 :: r0, i0, v0_1 =>
  Q44 p0 r0 (i0 + 1) (v0_1 ++ [(s_Ko ([(Fld.mk Q10 (s_Kt x0.key)), (Fld.mk Q32 (s_Kn x0.op)), (Fld.mk Qy (s_Ku x0.values))]))])
theorem Quc (p0 : List Requirement) : ∀ (l : List Requirement) (i : Nat) (a : List Val), Q44 p0 l i a = a ++ l.map (fun x0 => (s_Ko ([(Fld.mk Q10 (s_Kt x0.key)), (Fld.mk Q32 (s_Kn x0.op)), (Fld.mk Qy (s_Ku x0.values))])))
  | [], _, _ => by simp [Q44]
  | x :: r, i, a => by rw [Q44, Quc p0 r]; simp
def Qo4 (p0 : List Requirement) (i0 : Nat) (v0_1 : List Val) : List PV :=
  [.sl (Requirement.rows p0), .un, .bx 0 0, .ms 1 5 0 (List.length v0_1), .int .i64 (i0 : Int)] ++ nuns 34
def Qgs (_p0 : List Requirement) (_i0 : Nat) (v0_1 : List Val) : List Ob :=
  [⟨5, 0, true, [.int .i64 0, .int .i64 0, .str eB, .ms 2 5 0 0, .ms 3 6 0 0]⟩, ⟨5, 0, true, (Val.rows v0_1).flatten⟩, ⟨5, 0, true, []⟩, ⟨6, 0, true, []⟩]
def Qgl (p0 : List Requirement) (i0 : Nat) (v0_1 : List Val) : En := .loop 0 Ir.Qdy Ir.Q10o (Qo4 p0 i0 v0_1) (Qgs p0 i0 v0_1)
def Qk2 (_p0 : List Requirement) (q0 : List Val) (z : Nat → PV) (_zo : Nat → List PV) : St :=
  ⟨[z 0, z 1, .bx 0 0, .ms 1 5 0 (List.length q0)] ++ zr z 4 35, [(0, ⟨5, 0, true, [.int .i64 0, .int .i64 0, .str eB, .ms 2 5 0 0, .ms 3 6 0 0]⟩), (1, ⟨5, 0, true, (Val.rows q0).flatten⟩), (2, ⟨5, 0, true, []⟩), (3, ⟨6, 0, true, []⟩)], 260⟩
theorem Qsu (p0 : List Requirement) (i0 : Nat) (v0_1 : List Val) : VOK (Go.Pv.look (number 0 (Qgs p0 i0 v0_1))) [(1, Val.rows v0_1)] := (VOK.cons (show Seen _ _ from Q3n (ob := ⟨5, 0, true, (Val.rows v0_1).flatten⟩) (Val.Qb v0_1 5 rfl)) VOK.nil)
def Qhs (p0 : List Requirement) (e : En) (q : List Val) : Prop := ∃ z zo, Q7 G e (.st (.exit 0) (Qk2 p0 q z zo))
theorem Qjo (p0 : List Requirement) {e e' : En} (h : ∀ r, Q7 G e r → Q7 G e' r) : ∀ q, Qhs p0 e q → Qhs p0 e' q
  | _, ⟨z, zo, hz⟩ => ⟨z, zo, h _ hz⟩
def Qh5 (p0 : List Requirement) : Prop := (List.length p0 ≤ 137438953472) ∧ (∀ x0 ∈ p0, H_Ku x0.values) ∧ True
def Qkn (p0 : List Requirement) (i0 : Nat) (_v0_1 : List Val) : List PV :=
  [.sl (Requirement.rows p0), .un, .un, .un, .int .i64 (i0 : Int), .int .i64 (i0 : Int), .sl (Requirement.rows p0), .int .i64 ((List.length p0) : Int), .bool false]
def Qf2 (_p0 : List Requirement) (_i0 : Nat) (_v0_1 : List Val) : List (Nat × List PV) :=
  []
theorem Qwd (p0 : List Requirement) (_H : Qh5 p0) (i0 : Nat) (v0_1 : List Val) (_ho0_0 : List.length v0_1 ≤ i0) (hc0 : (decide ((i0 : Int) < ((List.length p0) : Int))) = false) : Qhs p0 (Qgl p0 i0 v0_1) v0_1 := by
 exact ⟨(envF (Qkn p0 i0 v0_1)), (zoF (Qf2 p0 i0 v0_1)), Qm (Qsu p0 i0 v0_1) (x := ((.exit 0), Qk2 p0 v0_1 (envF (Qkn p0 i0 v0_1)) (zoF (Qf2 p0 i0 v0_1)))) [hP 2 (Qs (Requirement.rows p0) (List.length p0) (Requirement.Q8 p0)), hB 0 hc0] [] (by kernel_rfl)⟩
theorem Quw (p0 : List Requirement) (H : Qh5 p0) (x0 : Requirement) (i0 : Nat) (v0_1 : List Val) (hx0 : p0[i0]? = some x0) (hi0 : i0 < List.length p0) (ho0_0 : List.length v0_1 ≤ i0) (hc0 : (decide ((i0 : Int) < ((List.length p0) : Int))) = true) {r : Rs} (hr : Q7 G (Qgl p0 (i0 + 1) (v0_1 ++ [(s_Ko ([(Fld.mk Q10 (s_Kt x0.key)), (Fld.mk Q32 (s_Kn x0.op)), (Fld.mk Qy (s_Ku x0.values))]))])) r) : Q7 G (Qgl p0 i0 v0_1) r := by
 have hB0 := H.1
 exact Qn (Qsu p0 i0 v0_1) (y := (Qo4 p0 (i0 + 1) (v0_1 ++ [(s_Ko ([(Fld.mk Q10 (s_Kt x0.key)), (Fld.mk Q32 (s_Kn x0.op)), (Fld.mk Qy (s_Ku x0.values))]))]), Qgs p0 (i0 + 1) (v0_1 ++ [(s_Ko ([(Fld.mk Q10 (s_Kt x0.key)), (Fld.mk Q32 (s_Kn x0.op)), (Fld.mk Qy (s_Ku x0.values))]))]))) [hP 2 (Qs (Requirement.rows p0) (List.length p0) (Requirement.Q8 p0)), hB 0 hc0, hP 3 (Q1x 3 (Requirement.rows p0) i0 _ (Requirement.Qf hx0) rfl), hP 6 (Q1x 3 (Requirement.rows p0) i0 _ (Requirement.Qf hx0) rfl), hP 6 (Q1x 3 (Requirement.rows p0) i0 _ (Requirement.Qf hx0) rfl), hV 7 [(1860, Val.rows (v0_1 ++ [(s_Ko ([(Fld.mk Q10 (s_Kt x0.key)), (Fld.mk Q32 (s_Kn x0.op)), (Fld.mk Qy (s_Ku x0.values))]))]))] (Q6y 1 1796 1860 5 80 0 0 true (Val.rows v0_1) (Val.rows (v0_1 ++ [(s_Ko ([(Fld.mk Q10 (s_Kt x0.key)), (Fld.mk Q32 (s_Kn x0.op)), (Fld.mk Qy (s_Ku x0.values))]))])) (Val.cells (s_Ko ([(Fld.mk Q10 (s_Kt x0.key)), (Fld.mk Q32 (s_Kn x0.op)), (Fld.mk Qy (s_Ku x0.values))]))) (List.length v0_1) (List.length (v0_1 ++ [(s_Ko ([(Fld.mk Q10 (s_Kt x0.key)), (Fld.mk Q32 (s_Kn x0.op)), (Fld.mk Qy (s_Ku x0.values))]))])) rfl (Val.Q8 v0_1).symm (Val.Q8 (v0_1 ++ [(s_Ko ([(Fld.mk Q10 (s_Kt x0.key)), (Fld.mk Q32 (s_Kn x0.op)), (Fld.mk Qy (s_Ku x0.values))]))])).symm (Val.Q1g v0_1 (s_Ko ([(Fld.mk Q10 (s_Kt x0.key)), (Fld.mk Q32 (s_Kn x0.op)), (Fld.mk Qy (s_Ku x0.values))]))) (Val.Qh v0_1) rfl (by omega)), hS 0 true (Val.Qb (v0_1 ++ [(s_Ko ([(Fld.mk Q10 (s_Kt x0.key)), (Fld.mk Q32 (s_Kn x0.op)), (Fld.mk Qy (s_Ku x0.values))]))]) 5 rfl), hP 2 (Q1o i0 (by omega))] [aN (t_Kt x0.key), aN (t_Kn x0.op), aN (t_Ku x0.values (H.2.1 x0 (Q29 hx0))), aN (Q6n (e' := .call 50 [.sl [(Fld.cells (Fld.mk Q10 (s_Kt x0.key))), (Fld.cells (Fld.mk Q32 (s_Kn x0.op))), (Fld.cells (Fld.mk Qy (s_Ku x0.values)))]] []) (t_Ko ([(Fld.mk Q10 (s_Kt x0.key)), (Fld.mk Q32 (s_Kn x0.op)), (Fld.mk Qy (s_Ku x0.values))]) (Nat.le_of_ble_eq_true rfl)) (by simp only [c_Ko, Fld.Q14, Fld.Q1f]))] (by kernel_rfl) hr
theorem Qq5 (p0 : List Requirement) (H : Qh5 p0) : ∀ (r0 : List Requirement) (i0 : Nat) (v0_1 : List Val), List.drop i0 p0 = r0 → List.length v0_1 ≤ i0 → Qhs p0 (Qgl p0 i0 v0_1) (Q44 p0 r0 i0 v0_1)
 | [], i0, v0_1, hd, ho0_0 => by
  have hc0 : (decide ((i0 : Int) < ((List.length p0) : Int))) = false := by have := Q1d hd; simp; omega
  rw [Q44]
  exact Qwd p0 H i0 v0_1 ho0_0 hc0
 | x0 :: r0, i0, v0_1, hd, ho0_0 => by
  obtain ⟨hx0, hi0, hd'⟩ := Q19 hd
  have hc0 : (decide ((i0 : Int) < ((List.length p0) : Int))) = true := by simp; omega
  rw [Q44]
  exact Qjo p0 (fun r hr => Quw p0 H x0 i0 v0_1 hx0 hi0 ho0_0 hc0 hr) _ (Qq5 p0 H r0 (i0 + 1) (v0_1 ++ [(s_Ko ([(Fld.mk Q10 (s_Kt x0.key)), (Fld.mk Q32 (s_Kn x0.op)), (Fld.mk Qy (s_Ku x0.values))]))]) hd' (by first | omega | (simp; omega)))
def s_Ks (p0 : List Requirement) : Val := vL (p0.map Requirement.enc)
theorem e_Ks (p0 : List Requirement) : s_Ks p0 = ((Val.mk 4 0 eB (Q44 p0 p0 0 []) [])) := by
  rw [Quc]
  kernel_rfl
def c_Ks (p0 : List Requirement) : En := .call 51 [.sl (Requirement.rows p0)] []
def a_Ks (p0 : List Requirement) : Rs := .ret (.agg (Val.cells (s_Ks p0))) []
def H_Ks (p0 : List Requirement) : Prop := LSm Requirement.sm p0
theorem Qzp (p0 : List Requirement) (H : H_Ks p0) : (Qh5 p0) ∧ True := by
  exact ⟨(by first | exact ⟨Nat.le_trans H.1 (Nat.le_of_ble_eq_true rfl), trivial⟩ | exact ⟨Nat.le_trans H.1 (Nat.le_of_ble_eq_true rfl), H.2, trivial⟩ | exact ⟨Nat.le_trans H.1 (Nat.le_of_ble_eq_true rfl), fun x hx => (H.2 x hx).1, trivial⟩), trivial⟩
theorem t_Ks (p0 : List Requirement) (H : H_Ks p0) : Q7 G (c_Ks p0) (a_Ks p0) := by
 unfold a_Ks
 rw [e_Ks]
 have hl0 := Qq5 p0 ((Qzp p0 H).1) p0 0 [] (by simp) (by simp)
 obtain ⟨z0, zo0, hl0⟩ := hl0
 exact Qa (fn := Ir.Ks) rfl VOK.nil [hS 0 true (Val.Qb (Q44 p0 p0 0 []) 5 rfl), hQ (Val.Q8 (Q44 p0 p0 0 [])).symm] [aV [(1, Val.rows (Q44 p0 p0 0 []))] hl0] (by kernel_rfl)
def s_Kk (p0 : Bool) : Val := vB p0
theorem e_Kk (p0 : Bool) : s_Kk p0 = (bif p0 then
    (Val.mk 1 1 eB [] [])
  else
    (Val.mk 1 0 eB [] [])) := by
  cases p0 <;> rfl
def c_Kk (p0 : Bool) : En := .call 97 [.bool p0] []
def a_Kk (p0 : Bool) : Rs := .ret (.agg (Val.cells (s_Kk p0))) []
theorem t_Kk (p0 : Bool) : Q7 G (c_Kk p0) (a_Kk p0) := by
 unfold a_Kk
 rw [e_Kk]
 cases h0 : p0 with
 | true =>
  exact Qa (fn := Ir.Kk) rfl VOK.nil [] [] (by kernel_rfl)
 | false =>
  exact Qa (fn := Ir.Kk) rfl VOK.nil [] [] (by kernel_rfl)
def s_Ki (p0 : Amount) : Val := Amount.enc p0
theorem e_Ki (p0 : Amount) : s_Ki p0 = ((s_Ko ([(Fld.mk Q1b (s_Kk p0.percent)), (Fld.mk kw_n (s_Kn p0.n))]))) := by
  kernel_rfl
def c_Ki (p0 : Amount) : En := .call 85 [.agg (Amount.cells p0)] []
def a_Ki (p0 : Amount) : Rs := .ret (.agg (Val.cells (s_Ki p0))) []
theorem t_Ki (p0 : Amount) : Q7 G (c_Ki p0) (a_Ki p0) := by
 unfold a_Ki
 rw [e_Ki]
 exact Qa (fn := Ir.Ki) rfl VOK.nil [] [aN (t_Kk p0.percent), aN (t_Kn p0.n), aN (Q6n (e' := .call 50 [.sl [(Fld.cells (Fld.mk Q1b (s_Kk p0.percent))), (Fld.cells (Fld.mk kw_n (s_Kn p0.n)))]] []) (t_Ko ([(Fld.mk Q1b (s_Kk p0.percent)), (Fld.mk kw_n (s_Kn p0.n))]) (Nat.le_of_ble_eq_true rfl)) (by simp only [c_Ko, Fld.Q14, Fld.Q1f]))] (by kernel_rfl)
def Q43 (p0 : List Amount) : List Amount → Nat → (List Val) → List Val
 | [], _i0, v0_1 =>
  v0_1
 | x0 :: r0, i0, v0_1 =>
  Q43 p0 r0 (i0 + 1) (v0_1 ++ [(s_Ki x0)])
theorem Qu9 (p0 : List Amount) : ∀ (l : List Amount) (i : Nat) (a : List Val), Q43 p0 l i a = a ++ l.map (fun x0 => (s_Ki x0))
  | [], _, _ => by simp [Q43]
  | x :: r, i, a => by rw [Q43, Qu9 p0 r]; simp
def Qo1 (p0 : List Amount) (i0 : Nat) (v0_1 : List Val) : List PV :=
  [.sl (Amount.rows p0), .un, .bx 0 0, .ms 1 5 0 (List.length v0_1), .int .i64 (i0 : Int)] ++ nuns 16
def Qgp (_p0 : List Amount) (_i0 : Nat) (v0_1 : List Val) : List Ob :=
  [⟨5, 0, true, [.int .i64 0, .int .i64 0, .str eB, .ms 2 5 0 0, .ms 3 6 0 0]⟩, ⟨5, 0, true, (Val.rows v0_1).flatten⟩, ⟨5, 0, true, []⟩, ⟨6, 0, true, []⟩]
def Qgj (p0 : List Amount) (i0 : Nat) (v0_1 : List Val) : En := .loop 0 Ir.Qdu Ir.Q10k (Qo1 p0 i0 v0_1) (Qgp p0 i0 v0_1)
def Qjz (_p0 : List Amount) (q0 : List Val) (z : Nat → PV) (_zo : Nat → List PV) : St :=
  ⟨[z 0, z 1, .bx 0 0, .ms 1 5 0 (List.length q0)] ++ zr z 4 17, [(0, ⟨5, 0, true, [.int .i64 0, .int .i64 0, .str eB, .ms 2 5 0 0, .ms 3 6 0 0]⟩), (1, ⟨5, 0, true, (Val.rows q0).flatten⟩), (2, ⟨5, 0, true, []⟩), (3, ⟨6, 0, true, []⟩)], 260⟩
theorem Qss (p0 : List Amount) (i0 : Nat) (v0_1 : List Val) : VOK (Go.Pv.look (number 0 (Qgp p0 i0 v0_1))) [(1, Val.rows v0_1)] := (VOK.cons (show Seen _ _ from Q3n (ob := ⟨5, 0, true, (Val.rows v0_1).flatten⟩) (Val.Qb v0_1 5 rfl)) VOK.nil)
def Qhp (p0 : List Amount) (e : En) (q : List Val) : Prop := ∃ z zo, Q7 G e (.st (.exit 0) (Qjz p0 q z zo))
theorem Qjl (p0 : List Amount) {e e' : En} (h : ∀ r, Q7 G e r → Q7 G e' r) : ∀ q, Qhp p0 e q → Qhp p0 e' q
  | _, ⟨z, zo, hz⟩ => ⟨z, zo, h _ hz⟩
def Qh3 (p0 : List Amount) : Prop := (List.length p0 ≤ 137438953472) ∧ True
def Qki (p0 : List Amount) (i0 : Nat) (_v0_1 : List Val) : List PV :=
  [.sl (Amount.rows p0), .un, .un, .un, .int .i64 (i0 : Int), .int .i64 (i0 : Int), .sl (Amount.rows p0), .int .i64 ((List.length p0) : Int), .bool false]
def Qex (_p0 : List Amount) (_i0 : Nat) (_v0_1 : List Val) : List (Nat × List PV) :=
  []
theorem Qw8 (p0 : List Amount) (_H : Qh3 p0) (i0 : Nat) (v0_1 : List Val) (_ho0_0 : List.length v0_1 ≤ i0) (hc0 : (decide ((i0 : Int) < ((List.length p0) : Int))) = false) : Qhp p0 (Qgj p0 i0 v0_1) v0_1 := by
 exact ⟨(envF (Qki p0 i0 v0_1)), (zoF (Qex p0 i0 v0_1)), Qm (Qss p0 i0 v0_1) (x := ((.exit 0), Qjz p0 v0_1 (envF (Qki p0 i0 v0_1)) (zoF (Qex p0 i0 v0_1)))) [hP 2 (Qs (Amount.rows p0) (List.length p0) (Amount.Q8 p0)), hB 0 hc0] [] (by kernel_rfl)⟩
theorem Qur (p0 : List Amount) (H : Qh3 p0) (x0 : Amount) (i0 : Nat) (v0_1 : List Val) (hx0 : p0[i0]? = some x0) (hi0 : i0 < List.length p0) (ho0_0 : List.length v0_1 ≤ i0) (hc0 : (decide ((i0 : Int) < ((List.length p0) : Int))) = true) {r : Rs} (hr : Q7 G (Qgj p0 (i0 + 1) (v0_1 ++ [(s_Ki x0)])) r) : Q7 G (Qgj p0 i0 v0_1) r := by
 have hB0 := H.1
 exact Qn (Qss p0 i0 v0_1) (y := (Qo1 p0 (i0 + 1) (v0_1 ++ [(s_Ki x0)]), Qgp p0 (i0 + 1) (v0_1 ++ [(s_Ki x0)]))) [hP 2 (Qs (Amount.rows p0) (List.length p0) (Amount.Q8 p0)), hB 0 hc0, hP 3 (Q1x 2 (Amount.rows p0) i0 _ (Amount.Qf hx0) rfl), hV 3 [(708, Val.rows (v0_1 ++ [(s_Ki x0)]))] (Q6y 1 644 708 5 80 0 0 true (Val.rows v0_1) (Val.rows (v0_1 ++ [(s_Ki x0)])) (Val.cells (s_Ki x0)) (List.length v0_1) (List.length (v0_1 ++ [(s_Ki x0)])) rfl (Val.Q8 v0_1).symm (Val.Q8 (v0_1 ++ [(s_Ki x0)])).symm (Val.Q1g v0_1 (s_Ki x0)) (Val.Qh v0_1) rfl (by omega)), hS 0 true (Val.Qb (v0_1 ++ [(s_Ki x0)]) 5 rfl), hP 2 (Q1o i0 (by omega))] [aN (t_Ki x0)] (by kernel_rfl) hr
theorem Qq2 (p0 : List Amount) (H : Qh3 p0) : ∀ (r0 : List Amount) (i0 : Nat) (v0_1 : List Val), List.drop i0 p0 = r0 → List.length v0_1 ≤ i0 → Qhp p0 (Qgj p0 i0 v0_1) (Q43 p0 r0 i0 v0_1)
 | [], i0, v0_1, hd, ho0_0 => by
  have hc0 : (decide ((i0 : Int) < ((List.length p0) : Int))) = false := by have := Q1d hd; simp; omega
  rw [Q43]
  exact Qw8 p0 H i0 v0_1 ho0_0 hc0
 | x0 :: r0, i0, v0_1, hd, ho0_0 => by
  obtain ⟨hx0, hi0, hd'⟩ := Q19 hd
  have hc0 : (decide ((i0 : Int) < ((List.length p0) : Int))) = true := by simp; omega
  rw [Q43]
  exact Qjl p0 (fun r hr => Qur p0 H x0 i0 v0_1 hx0 hi0 ho0_0 hc0 hr) _ (Qq2 p0 H r0 (i0 + 1) (v0_1 ++ [(s_Ki x0)]) hd' (by first | omega | (simp; omega)))
def s_Kj (p0 : List Amount) : Val := vL (p0.map Amount.enc)
theorem e_Kj (p0 : List Amount) : s_Kj p0 = ((Val.mk 4 0 eB (Q43 p0 p0 0 []) [])) := by
  rw [Qu9]
  kernel_rfl
def c_Kj (p0 : List Amount) : En := .call 52 [.sl (Amount.rows p0)] []
def a_Kj (p0 : List Amount) : Rs := .ret (.agg (Val.cells (s_Kj p0))) []
def H_Kj (p0 : List Amount) : Prop := LSm Amount.sm p0
theorem Qzn (p0 : List Amount) (H : H_Kj p0) : (Qh3 p0) ∧ True := by
  exact ⟨(by first | exact ⟨Nat.le_trans H.1 (Nat.le_of_ble_eq_true rfl), trivial⟩ | exact ⟨Nat.le_trans H.1 (Nat.le_of_ble_eq_true rfl), H.2, trivial⟩ | exact ⟨Nat.le_trans H.1 (Nat.le_of_ble_eq_true rfl), fun x hx => (H.2 x hx).1, trivial⟩), trivial⟩
theorem t_Kj (p0 : List Amount) (H : H_Kj p0) : Q7 G (c_Kj p0) (a_Kj p0) := by
 unfold a_Kj
 rw [e_Kj]
 have hl0 := Qq2 p0 ((Qzn p0 H).1) p0 0 [] (by simp) (by simp)
 obtain ⟨z0, zo0, hl0⟩ := hl0
 exact Qa (fn := Ir.Kj) rfl VOK.nil [hS 0 true (Val.Qb (Q43 p0 p0 0 []) 5 rfl), hQ (Val.Q8 (Q43 p0 p0 0 [])).symm] [aV [(1, Val.rows (Q43 p0 p0 0 []))] hl0] (by kernel_rfl)
def s_Kl (p0 : Budget) : Val := Budget.encS p0
theorem e_Kl (p0 : Budget) : s_Kl p0 = ((s_Ko ([(Fld.mk Q17 (s_Ks p0.selector)), (Fld.mk Q6 (s_Kj p0.minAvailable)), (Fld.mk Q5 (s_Kj p0.maxUnavailable))]))) := by
  kernel_rfl
def c_Kl (p0 : Budget) : En := .call 14 [.agg (Budget.cells p0)] []
def a_Kl (p0 : Budget) : Rs := .ret (.agg (Val.cells (s_Kl p0))) []
def H_Kl (p0 : Budget) : Prop := Budget.sm p0
theorem Qn4 (p0 : Budget) (H : H_Kl p0) : (H_Ks p0.selector) ∧ (H_Kj p0.minAvailable) ∧ (H_Kj p0.maxUnavailable) ∧ True := by
  exact ⟨(by first | exact True.intro | exact H | exact H.1 | exact H.2.1 | exact H.2.2.1 | exact H.2.2.2.1), (by first | exact True.intro | exact H | exact H.1 | exact H.2.1 | exact H.2.2.1 | exact H.2.2.2.1), (by first | exact True.intro | exact H | exact H.1 | exact H.2.1 | exact H.2.2.1 | exact H.2.2.2.1), trivial⟩
theorem t_Kl (p0 : Budget) (H : H_Kl p0) : Q7 G (c_Kl p0) (a_Kl p0) := by
 unfold a_Kl
 rw [e_Kl]
 exact Qa (fn := Ir.Kl) rfl VOK.nil [] [aN (t_Ks p0.selector (Qn4 p0 H).1), aN (t_Kj p0.minAvailable (Qn4 p0 H).2.1), aN (t_Kj p0.maxUnavailable (Qn4 p0 H).2.2.1), aN (Q6n (e' := .call 50 [.sl [(Fld.cells (Fld.mk Q17 (s_Ks p0.selector))), (Fld.cells (Fld.mk Q6 (s_Kj p0.minAvailable))), (Fld.cells (Fld.mk Q5 (s_Kj p0.maxUnavailable)))]] []) (t_Ko ([(Fld.mk Q17 (s_Ks p0.selector)), (Fld.mk Q6 (s_Kj p0.minAvailable)), (Fld.mk Q5 (s_Kj p0.maxUnavailable))]) (Nat.le_of_ble_eq_true rfl)) (by simp only [c_Ko, Fld.Q14, Fld.Q1f]))] (by kernel_rfl)
def Q3e (p0 : Budget) : List WorkItem → Nat → (List Val) → List Val
 | [], _i0, v0_1 =>
  v0_1
 | x0 :: r0, i0, v0_1 =>
  Q3e p0 r0 (i0 + 1) (v0_1 ++ [(s_Ko ([(Fld.mk Q10 (s_Kt x0.key)), (Fld.mk Q31 (s_Kn x0.at_))]))])
theorem Qub (p0 : Budget) : ∀ (l : List WorkItem) (i : Nat) (a : List Val), Q3e p0 l i a = a ++ l.map (fun x0 => (s_Ko ([(Fld.mk Q10 (s_Kt x0.key)), (Fld.mk Q31 (s_Kn x0.at_))])))
  | [], _, _ => by simp [Q3e]
  | x :: r, i, a => by rw [Q3e, Qub p0 r]; simp
def Qo2 (_p0 : Budget) (i0 : Nat) (v0_1 : List Val) : List PV :=
  [.un, .bx 0 0, .bx 1 0, .ms 2 5 0 (List.length v0_1), .int .i64 (i0 : Int)] ++ nuns 53
def Qgq (p0 : Budget) (_i0 : Nat) (v0_1 : List Val) : List Ob :=
  [⟨22, 0, true, [.str p0.meta_.kind, .str p0.meta_.namespace_, .str p0.meta_.name, .int .i64 p0.meta_.uid, .int .i64 p0.meta_.version, .int .i64 p0.meta_.generation, .int .i64 p0.meta_.created, .bool p0.meta_.deleting, .int .i64 p0.meta_.deleteAt, .sl (Label.rows p0.meta_.labels), .sl (Owner.rows p0.meta_.owners), .sl (Qg p0.meta_.finalizers), .sl (Manager.rows p0.meta_.managers), .sl (Requirement.rows p0.selector), .sl (Amount.rows p0.minAvailable), .sl (Amount.rows p0.maxUnavailable), .int .i64 p0.observed, .int .i64 p0.healthy, .int .i64 p0.desired, .int .i64 p0.expected, .int .i64 p0.allowed, .sl (WorkItem.rows p0.disrupted)]⟩, ⟨5, 0, true, [.int .i64 0, .int .i64 0, .str eB, .ms 3 5 0 0, .ms 4 6 0 0]⟩, ⟨5, 0, true, (Val.rows v0_1).flatten⟩, ⟨5, 0, true, []⟩, ⟨6, 0, true, []⟩]
def Qgk (p0 : Budget) (i0 : Nat) (v0_1 : List Val) : En := .loop 0 Ir.Qdv Ir.Q10l (Qo2 p0 i0 v0_1) (Qgq p0 i0 v0_1)
def Qk0 (p0 : Budget) (q0 : List Val) (z : Nat → PV) (_zo : Nat → List PV) : St :=
  ⟨[z 0, .bx 0 0, .bx 1 0, .ms 2 5 0 (List.length q0)] ++ zr z 4 54, [(0, ⟨22, 0, true, [.str p0.meta_.kind, .str p0.meta_.namespace_, .str p0.meta_.name, .int .i64 p0.meta_.uid, .int .i64 p0.meta_.version, .int .i64 p0.meta_.generation, .int .i64 p0.meta_.created, .bool p0.meta_.deleting, .int .i64 p0.meta_.deleteAt, .sl (Label.rows p0.meta_.labels), .sl (Owner.rows p0.meta_.owners), .sl (Qg p0.meta_.finalizers), .sl (Manager.rows p0.meta_.managers), .sl (Requirement.rows p0.selector), .sl (Amount.rows p0.minAvailable), .sl (Amount.rows p0.maxUnavailable), .int .i64 p0.observed, .int .i64 p0.healthy, .int .i64 p0.desired, .int .i64 p0.expected, .int .i64 p0.allowed, .sl (WorkItem.rows p0.disrupted)]⟩), (1, ⟨5, 0, true, [.int .i64 0, .int .i64 0, .str eB, .ms 3 5 0 0, .ms 4 6 0 0]⟩), (2, ⟨5, 0, true, (Val.rows q0).flatten⟩), (3, ⟨5, 0, true, []⟩), (4, ⟨6, 0, true, []⟩)], 325⟩
theorem Qst (p0 : Budget) (i0 : Nat) (v0_1 : List Val) : VOK (Go.Pv.look (number 0 (Qgq p0 i0 v0_1))) [(2, Val.rows v0_1)] := (VOK.cons (show Seen _ _ from Q3n (ob := ⟨5, 0, true, (Val.rows v0_1).flatten⟩) (Val.Qb v0_1 5 rfl)) VOK.nil)
def Qhq (p0 : Budget) (e : En) (q : List Val) : Prop := ∃ z zo, Q7 G e (.st (.exit 0) (Qk0 p0 q z zo))
theorem Qjm (p0 : Budget) {e e' : En} (h : ∀ r, Q7 G e r → Q7 G e' r) : ∀ q, Qhq p0 e q → Qhq p0 e' q
  | _, ⟨z, zo, hz⟩ => ⟨z, zo, h _ hz⟩
def Qh4 (p0 : Budget) : Prop := (List.length p0.disrupted ≤ 137438953472) ∧ True
def Qkj (p0 : Budget) (i0 : Nat) (_v0_1 : List Val) : List PV :=
  [.un, .un, .un, .un, .int .i64 (i0 : Int), .int .i64 (i0 : Int), .bx 0 21, .sl (WorkItem.rows p0.disrupted), .int .i64 ((List.length p0.disrupted) : Int), .bool false]
def Qey (_p0 : Budget) (_i0 : Nat) (_v0_1 : List Val) : List (Nat × List PV) :=
  []
theorem Qw9 (p0 : Budget) (_H : Qh4 p0) (i0 : Nat) (v0_1 : List Val) (_ho0_0 : List.length v0_1 ≤ i0) (hc0 : (decide ((i0 : Int) < ((List.length p0.disrupted) : Int))) = false) : Qhq p0 (Qgk p0 i0 v0_1) v0_1 := by
 exact ⟨(envF (Qkj p0 i0 v0_1)), (zoF (Qey p0 i0 v0_1)), Qm (Qst p0 i0 v0_1) (x := ((.exit 0), Qk0 p0 v0_1 (envF (Qkj p0 i0 v0_1)) (zoF (Qey p0 i0 v0_1)))) [hP 3 (Qs (WorkItem.rows p0.disrupted) (List.length p0.disrupted) (WorkItem.Q8 p0.disrupted)), hB 0 hc0] [] (by kernel_rfl)⟩
theorem Qus (p0 : Budget) (H : Qh4 p0) (x0 : WorkItem) (i0 : Nat) (v0_1 : List Val) (hx0 : p0.disrupted[i0]? = some x0) (hi0 : i0 < List.length p0.disrupted) (ho0_0 : List.length v0_1 ≤ i0) (hc0 : (decide ((i0 : Int) < ((List.length p0.disrupted) : Int))) = true) {r : Rs} (hr : Q7 G (Qgk p0 (i0 + 1) (v0_1 ++ [(s_Ko ([(Fld.mk Q10 (s_Kt x0.key)), (Fld.mk Q31 (s_Kn x0.at_))]))])) r) : Q7 G (Qgk p0 i0 v0_1) r := by
 have hB0 := H.1
 exact Qn (Qst p0 i0 v0_1) (y := (Qo2 p0 (i0 + 1) (v0_1 ++ [(s_Ko ([(Fld.mk Q10 (s_Kt x0.key)), (Fld.mk Q31 (s_Kn x0.at_))]))]), Qgq p0 (i0 + 1) (v0_1 ++ [(s_Ko ([(Fld.mk Q10 (s_Kt x0.key)), (Fld.mk Q31 (s_Kn x0.at_))]))]))) [hP 3 (Qs (WorkItem.rows p0.disrupted) (List.length p0.disrupted) (WorkItem.Q8 p0.disrupted)), hB 0 hc0, hP 4 (Q1x 2 (WorkItem.rows p0.disrupted) i0 _ (WorkItem.Qf hx0) rfl), hP 7 (Q1x 2 (WorkItem.rows p0.disrupted) i0 _ (WorkItem.Qf hx0) rfl), hV 7 [(1605, Val.rows (v0_1 ++ [(s_Ko ([(Fld.mk Q10 (s_Kt x0.key)), (Fld.mk Q31 (s_Kn x0.at_))]))]))] (Q6y 2 1541 1605 5 80 0 0 true (Val.rows v0_1) (Val.rows (v0_1 ++ [(s_Ko ([(Fld.mk Q10 (s_Kt x0.key)), (Fld.mk Q31 (s_Kn x0.at_))]))])) (Val.cells (s_Ko ([(Fld.mk Q10 (s_Kt x0.key)), (Fld.mk Q31 (s_Kn x0.at_))]))) (List.length v0_1) (List.length (v0_1 ++ [(s_Ko ([(Fld.mk Q10 (s_Kt x0.key)), (Fld.mk Q31 (s_Kn x0.at_))]))])) rfl (Val.Q8 v0_1).symm (Val.Q8 (v0_1 ++ [(s_Ko ([(Fld.mk Q10 (s_Kt x0.key)), (Fld.mk Q31 (s_Kn x0.at_))]))])).symm (Val.Q1g v0_1 (s_Ko ([(Fld.mk Q10 (s_Kt x0.key)), (Fld.mk Q31 (s_Kn x0.at_))]))) (Val.Qh v0_1) rfl (by omega)), hS 0 true (Val.Qb (v0_1 ++ [(s_Ko ([(Fld.mk Q10 (s_Kt x0.key)), (Fld.mk Q31 (s_Kn x0.at_))]))]) 5 rfl), hP 2 (Q1o i0 (by omega))] [aN (t_Kt x0.key), aN (t_Kn x0.at_), aN (Q6n (e' := .call 50 [.sl [(Fld.cells (Fld.mk Q10 (s_Kt x0.key))), (Fld.cells (Fld.mk Q31 (s_Kn x0.at_)))]] []) (t_Ko ([(Fld.mk Q10 (s_Kt x0.key)), (Fld.mk Q31 (s_Kn x0.at_))]) (Nat.le_of_ble_eq_true rfl)) (by simp only [c_Ko, Fld.Q14, Fld.Q1f]))] (by kernel_rfl) hr
theorem Qq3 (p0 : Budget) (H : Qh4 p0) : ∀ (r0 : List WorkItem) (i0 : Nat) (v0_1 : List Val), List.drop i0 p0.disrupted = r0 → List.length v0_1 ≤ i0 → Qhq p0 (Qgk p0 i0 v0_1) (Q3e p0 r0 i0 v0_1)
 | [], i0, v0_1, hd, ho0_0 => by
  have hc0 : (decide ((i0 : Int) < ((List.length p0.disrupted) : Int))) = false := by have := Q1d hd; simp; omega
  rw [Q3e]
  exact Qw9 p0 H i0 v0_1 ho0_0 hc0
 | x0 :: r0, i0, v0_1, hd, ho0_0 => by
  obtain ⟨hx0, hi0, hd'⟩ := Q19 hd
  have hc0 : (decide ((i0 : Int) < ((List.length p0.disrupted) : Int))) = true := by simp; omega
  rw [Q3e]
  exact Qjm p0 (fun r hr => Qus p0 H x0 i0 v0_1 hx0 hi0 ho0_0 hc0 hr) _ (Qq3 p0 H r0 (i0 + 1) (v0_1 ++ [(s_Ko ([(Fld.mk Q10 (s_Kt x0.key)), (Fld.mk Q31 (s_Kn x0.at_))]))]) hd' (by first | omega | (simp; omega)))
def s_Km (p0 : Budget) : Val := Budget.encT p0
theorem e_Km (p0 : Budget) : s_Km p0 = ((s_Ko ([(Fld.mk Qj (s_Kn p0.observed)), (Fld.mk Qp (s_Kn p0.healthy)), (Fld.mk Qw (s_Kn p0.desired)), (Fld.mk Qv (s_Kn p0.expected)), (Fld.mk Q13 (s_Kn p0.allowed)), (Fld.mk Q9 (Val.mk 4 0 eB (Q3e p0 p0.disrupted 0 []) []))]))) := by
  simp only [Qub]
  kernel_rfl
def c_Km (p0 : Budget) : En := .call 15 [.agg (Budget.cells p0)] []
def a_Km (p0 : Budget) : Rs := .ret (.agg (Val.cells (s_Km p0))) []
def H_Km (p0 : Budget) : Prop := Budget.sm p0
theorem Qzo (p0 : Budget) (H : H_Km p0) : (Qh4 p0) ∧ True := by
  exact ⟨(by first | exact ⟨Nat.le_trans H.1 (Nat.le_of_ble_eq_true rfl), trivial⟩ | exact ⟨Nat.le_trans H.1 (Nat.le_of_ble_eq_true rfl), H.2, trivial⟩ | exact ⟨Nat.le_trans H.1 (Nat.le_of_ble_eq_true rfl), fun x hx => (H.2 x hx).1, trivial⟩ | exact ⟨Nat.le_trans H.1.1 (Nat.le_of_ble_eq_true rfl), trivial⟩ | exact ⟨Nat.le_trans H.1.1 (Nat.le_of_ble_eq_true rfl), H.1.2, trivial⟩ | exact ⟨Nat.le_trans H.1.1 (Nat.le_of_ble_eq_true rfl), fun x hx => (H.1.2 x hx).1, trivial⟩ | exact ⟨Nat.le_trans H.2.1.1 (Nat.le_of_ble_eq_true rfl), trivial⟩ | exact ⟨Nat.le_trans H.2.1.1 (Nat.le_of_ble_eq_true rfl), H.2.1.2, trivial⟩ | exact ⟨Nat.le_trans H.2.1.1 (Nat.le_of_ble_eq_true rfl), fun x hx => (H.2.1.2 x hx).1, trivial⟩ | exact ⟨Nat.le_trans H.2.2.1.1 (Nat.le_of_ble_eq_true rfl), trivial⟩ | exact ⟨Nat.le_trans H.2.2.1.1 (Nat.le_of_ble_eq_true rfl), H.2.2.1.2, trivial⟩ | exact ⟨Nat.le_trans H.2.2.1.1 (Nat.le_of_ble_eq_true rfl), fun x hx => (H.2.2.1.2 x hx).1, trivial⟩ | exact ⟨Nat.le_trans H.2.2.2.1.1 (Nat.le_of_ble_eq_true rfl), trivial⟩ | exact ⟨Nat.le_trans H.2.2.2.1.1 (Nat.le_of_ble_eq_true rfl), H.2.2.2.1.2, trivial⟩ | exact ⟨Nat.le_trans H.2.2.2.1.1 (Nat.le_of_ble_eq_true rfl), fun x hx => (H.2.2.2.1.2 x hx).1, trivial⟩), trivial⟩
theorem t_Km (p0 : Budget) (H : H_Km p0) : Q7 G (c_Km p0) (a_Km p0) := by
 unfold a_Km
 rw [e_Km]
 have hl0 := Qq3 p0 ((Qzo p0 H).1) p0.disrupted 0 [] (by simp) (by simp)
 obtain ⟨z0, zo0, hl0⟩ := hl0
 exact Qa (fn := Ir.Km) rfl VOK.nil [hS 0 true (Val.Qb (Q3e p0 p0.disrupted 0 []) 5 rfl), hQ (Val.Q8 (Q3e p0 p0.disrupted 0 [])).symm] [aV [(2, Val.rows (Q3e p0 p0.disrupted 0 []))] hl0, aN (t_Kn p0.observed), aN (t_Kn p0.healthy), aN (t_Kn p0.desired), aN (t_Kn p0.expected), aN (t_Kn p0.allowed), aN (Q6n (e' := .call 50 [.sl [(Fld.cells (Fld.mk Qj (s_Kn p0.observed))), (Fld.cells (Fld.mk Qp (s_Kn p0.healthy))), (Fld.cells (Fld.mk Qw (s_Kn p0.desired))), (Fld.cells (Fld.mk Qv (s_Kn p0.expected))), (Fld.cells (Fld.mk Q13 (s_Kn p0.allowed))), (Fld.cells (Fld.mk Q9 (Val.mk 4 0 eB (Q3e p0 p0.disrupted 0 []) [])))]] []) (t_Ko ([(Fld.mk Qj (s_Kn p0.observed)), (Fld.mk Qp (s_Kn p0.healthy)), (Fld.mk Qw (s_Kn p0.desired)), (Fld.mk Qv (s_Kn p0.expected)), (Fld.mk Q13 (s_Kn p0.allowed)), (Fld.mk Q9 (Val.mk 4 0 eB (Q3e p0 p0.disrupted 0 []) []))]) (Nat.le_of_ble_eq_true rfl)) (by simp only [c_Ko, Fld.Q14, Fld.Q1f]))] (by kernel_rfl)
def s_Kx (p0 : BA) (p1 : Meta) (p2 : Val) (p3 : Val) : Object :=
 (Object.mk (Meta.mk p0 p1.namespace_ p1.name p1.uid p1.version p1.generation p1.created p1.deleting p1.deleteAt p1.labels p1.owners p1.finalizers p1.managers) p2 p3)
def c_Kx (p0 : BA) (p1 : Meta) (p2 : Val) (p3 : Val) : En := .call 13 [.str p0, .agg (Meta.cells p1), .agg (Val.cells p2), .agg (Val.cells p3)] []
def a_Kx (p0 : BA) (p1 : Meta) (p2 : Val) (p3 : Val) : Rs := .ret (.agg (Object.cells (s_Kx p0 p1 p2 p3))) []
theorem t_Kx (p0 : BA) (p1 : Meta) (p2 : Val) (p3 : Val) : Q7 G (c_Kx p0 p1 p2 p3) (a_Kx p0 p1 p2 p3) := by
 unfold a_Kx s_Kx
 exact Qa (fn := Ir.Kx) rfl VOK.nil [] [] (by kernel_rfl)
def s_Kv (p0 : Budget) : Object := Budget.obj p0
theorem e_Kv (p0 : Budget) : s_Kv p0 = ((s_Kx Qk p0.meta_ (s_Kl p0) (s_Km p0))) := by
  first | rfl | kernel_rfl
def c_Kv (p0 : Budget) : En := .call 4 [.agg (Budget.cells p0)] []
def a_Kv (p0 : Budget) : Rs := .ret (.agg (Object.cells (s_Kv p0))) []
def H_Kv (p0 : Budget) : Prop := Budget.sm p0
theorem Qtp (p0 : Budget) (H : H_Kv p0) : (H_Kl p0) ∧ (H_Km p0) ∧ True := by
  exact ⟨(by first | exact True.intro | exact H | exact H.1 | exact H.2.1 | exact H.2.2.1 | exact H.2.2.2.1), (by first | exact True.intro | exact H | exact H.1 | exact H.2.1 | exact H.2.2.1 | exact H.2.2.2.1), trivial⟩
theorem t_Kv (p0 : Budget) (H : H_Kv p0) : Q7 G (c_Kv p0) (a_Kv p0) := by
 unfold a_Kv
 rw [e_Kv]
 exact Qa (fn := Ir.Kv) rfl VOK.nil [] [aN (t_Kl p0 (Qtp p0 H).1), aN (t_Km p0 (Qtp p0 H).2.1), aN (t_Kx Qk p0.meta_ (s_Kl p0) (s_Km p0))] (by kernel_rfl)
def s_Kr (p0 : Resources) : Val := Resources.enc p0
theorem e_Kr (p0 : Resources) : s_Kr p0 = ((s_Ko ([(Fld.mk Q2i (s_Kn p0.cPU)), (Fld.mk Q1k (s_Kn p0.memory)), (Fld.mk Q2b (s_Kn p0.disk))]))) := by
  kernel_rfl
def c_Kr (p0 : Resources) : En := .call 55 [.agg (Resources.cells p0)] []
def a_Kr (p0 : Resources) : Rs := .ret (.agg (Val.cells (s_Kr p0))) []
theorem t_Kr (p0 : Resources) : Q7 G (c_Kr p0) (a_Kr p0) := by
 unfold a_Kr
 rw [e_Kr]
 exact Qa (fn := Ir.Kr) rfl VOK.nil [] [aN (t_Kn p0.cPU), aN (t_Kn p0.memory), aN (t_Kn p0.disk), aN (Q6n (e' := .call 50 [.sl [(Fld.cells (Fld.mk Q2i (s_Kn p0.cPU))), (Fld.cells (Fld.mk Q1k (s_Kn p0.memory))), (Fld.cells (Fld.mk Q2b (s_Kn p0.disk)))]] []) (t_Ko ([(Fld.mk Q2i (s_Kn p0.cPU)), (Fld.mk Q1k (s_Kn p0.memory)), (Fld.mk Q2b (s_Kn p0.disk))]) (Nat.le_of_ble_eq_true rfl)) (by simp only [c_Ko, Fld.Q14, Fld.Q1f]))] (by kernel_rfl)
def s_Kp (p0 : Quota) : Val := Quota.encS p0
theorem e_Kp (p0 : Quota) : s_Kp p0 = ((s_Ko ([(Fld.mk Qi (s_Kr p0.hard)), (Fld.mk Q12 (s_Kn p0.pods))]))) := by
  kernel_rfl
def c_Kp (p0 : Quota) : En := .call 16 [.agg (Quota.cells p0)] []
def a_Kp (p0 : Quota) : Rs := .ret (.agg (Val.cells (s_Kp p0))) []
theorem t_Kp (p0 : Quota) : Q7 G (c_Kp p0) (a_Kp p0) := by
 unfold a_Kp
 rw [e_Kp]
 exact Qa (fn := Ir.Kp) rfl VOK.nil [] [aN (t_Kr p0.hard), aN (t_Kn p0.pods), aN (Q6n (e' := .call 50 [.sl [(Fld.cells (Fld.mk Qi (s_Kr p0.hard))), (Fld.cells (Fld.mk Q12 (s_Kn p0.pods)))]] []) (t_Ko ([(Fld.mk Qi (s_Kr p0.hard)), (Fld.mk Q12 (s_Kn p0.pods))]) (Nat.le_of_ble_eq_true rfl)) (by simp only [c_Ko, Fld.Q14, Fld.Q1f]))] (by kernel_rfl)
def s_Kq (p0 : Quota) : Val := Quota.encT p0
theorem e_Kq (p0 : Quota) : s_Kq p0 = ((s_Ko ([(Fld.mk Q15 (s_Kr p0.used)), (Fld.mk Q27 (s_Kn p0.has))]))) := by
  kernel_rfl
def c_Kq (p0 : Quota) : En := .call 17 [.agg (Quota.cells p0)] []
def a_Kq (p0 : Quota) : Rs := .ret (.agg (Val.cells (s_Kq p0))) []
theorem t_Kq (p0 : Quota) : Q7 G (c_Kq p0) (a_Kq p0) := by
 unfold a_Kq
 rw [e_Kq]
 exact Qa (fn := Ir.Kq) rfl VOK.nil [] [aN (t_Kr p0.used), aN (t_Kn p0.has), aN (Q6n (e' := .call 50 [.sl [(Fld.cells (Fld.mk Q15 (s_Kr p0.used))), (Fld.cells (Fld.mk Q27 (s_Kn p0.has)))]] []) (t_Ko ([(Fld.mk Q15 (s_Kr p0.used)), (Fld.mk Q27 (s_Kn p0.has))]) (Nat.le_of_ble_eq_true rfl)) (by simp only [c_Ko, Fld.Q14, Fld.Q1f]))] (by kernel_rfl)
def s_Kw (p0 : Quota) : Object := Quota.obj p0
theorem e_Kw (p0 : Quota) : s_Kw p0 = ((s_Kx Qd p0.meta_ (s_Kp p0) (s_Kq p0))) := by
  first | rfl | kernel_rfl
def c_Kw (p0 : Quota) : En := .call 5 [.agg (Quota.cells p0)] []
def a_Kw (p0 : Quota) : Rs := .ret (.agg (Object.cells (s_Kw p0))) []
def H_Kw (p0 : Quota) : Prop := Quota.sm p0
theorem t_Kw (p0 : Quota) : Q7 G (c_Kw p0) (a_Kw p0) := by
 unfold a_Kw
 rw [e_Kw]
 exact Qa (fn := Ir.Kw) rfl VOK.nil [] [aN (t_Kp p0), aN (t_Kq p0), aN (t_Kx Qd p0.meta_ (s_Kp p0) (s_Kq p0))] (by kernel_rfl)
end Go.Proofs.Ytbagpdebihicnaa
end

section
/- Equality of metadata and objects that are the same; what is small (printed by a program). -/
namespace Go.Proofs.Ytbagpdebihicnaa
open Go.Pv
def s_Ke (p0 : BA) (p1 : BA) (p2 : BA) : ByteArray :=
 ((((p0 ++ (⟨#[47]⟩ : BA)) ++ p1) ++ (⟨#[47]⟩ : BA)) ++ p2)
def c_Ke (p0 : BA) (p1 : BA) (p2 : BA) : En := .call 95 [.str p0, .str p1, .str p2] []
def a_Ke (p0 : BA) (p1 : BA) (p2 : BA) : Rs := .ret (.str (s_Ke p0 p1 p2)) []
def H_Ke (p0 : BA) (p1 : BA) (p2 : BA) : Prop := (ByteArray.size p0 + ByteArray.size (⟨#[47]⟩ : BA) ≤ 9223372036854775807) ∧ (ByteArray.size (p0 ++ (⟨#[47]⟩ : BA)) + ByteArray.size p1 ≤ 9223372036854775807) ∧ (ByteArray.size ((p0 ++ (⟨#[47]⟩ : BA)) ++ p1) + ByteArray.size (⟨#[47]⟩ : BA) ≤ 9223372036854775807) ∧ (ByteArray.size (((p0 ++ (⟨#[47]⟩ : BA)) ++ p1) ++ (⟨#[47]⟩ : BA)) + ByteArray.size p2 ≤ 9223372036854775807) ∧ True
theorem t_Ke (p0 : BA) (p1 : BA) (p2 : BA) (H : H_Ke p0 p1 p2) : Q7 G (c_Ke p0 p1 p2) (a_Ke p0 p1 p2) := by
 unfold a_Ke s_Ke
 exact Qa (fn := Ir.Ke) rfl VOK.nil [hP 2 (Qp1 p0 (⟨#[47]⟩ : BA) H.1), hP 1 (Qp1 (p0 ++ (⟨#[47]⟩ : BA)) p1 H.2.1), hP 0 (Qp1 ((p0 ++ (⟨#[47]⟩ : BA)) ++ p1) (⟨#[47]⟩ : BA) H.2.2.1), hP 1 (Qp1 (((p0 ++ (⟨#[47]⟩ : BA)) ++ p1) ++ (⟨#[47]⟩ : BA)) p2 H.2.2.2.1)] [] (by kernel_rfl)
def s_Kf (p0 : Meta) : ByteArray :=
 (s_Ke p0.kind p0.namespace_ p0.name)
def c_Kf (p0 : Meta) : En := .call 81 [.agg (Meta.cells p0)] []
def a_Kf (p0 : Meta) : Rs := .ret (.str (s_Kf p0)) []
def H_Kf (p0 : Meta) : Prop := (H_Ke p0.kind p0.namespace_ p0.name) ∧ True
theorem t_Kf (p0 : Meta) (H : H_Kf p0) : Q7 G (c_Kf p0) (a_Kf p0) := by
 unfold a_Kf s_Kf
 exact Qa (fn := Ir.Kf) rfl VOK.nil [] [aN (t_Ke p0.kind p0.namespace_ p0.name H.1)] (by kernel_rfl)
def Qty (p0 : Meta) : List Label → Nat → Unit
 | [], _i0 =>
  ()
 | _x0 :: r0, i0 =>
  Qty p0 r0 (i0 + 1)
def Qnx (_p0 : Meta) (i0 : Nat) : List PV :=
  [.un, .un, .bx 0 0, .bx 1 0, .un, .int .i64 (i0 : Int)] ++ nuns 168
def Qod (p0 : Meta) (_i0 : Nat) : List Ob :=
  [⟨13, 0, true, [.str p0.kind, .str p0.namespace_, .str p0.name, .int .i64 p0.uid, .int .i64 p0.version, .int .i64 p0.generation, .int .i64 p0.created, .bool p0.deleting, .int .i64 p0.deleteAt, .sl (Label.rows p0.labels), .sl (Owner.rows p0.owners), .sl (Qg p0.finalizers), .sl (Manager.rows p0.managers)]⟩, ⟨13, 0, true, [.str p0.kind, .str p0.namespace_, .str p0.name, .int .i64 p0.uid, .int .i64 p0.version, .int .i64 p0.generation, .int .i64 p0.created, .bool p0.deleting, .int .i64 p0.deleteAt, .sl (Label.rows p0.labels), .sl (Owner.rows p0.owners), .sl (Qg p0.finalizers), .sl (Manager.rows p0.managers)]⟩]
def Qgf (p0 : Meta) (i0 : Nat) : En := .loop 0 Ir.Qdq Ir.Q10g (Qnx p0 i0) (Qod p0 i0)
def Qjv (p0 : Meta) (z : Nat → PV) (_zo : Nat → List PV) : St :=
  ⟨[z 0, z 1, .bx 0 0, .bx 1 0] ++ zr z 4 170, [(0, ⟨13, 0, true, [.str p0.kind, .str p0.namespace_, .str p0.name, .int .i64 p0.uid, .int .i64 p0.version, .int .i64 p0.generation, .int .i64 p0.created, .bool p0.deleting, .int .i64 p0.deleteAt, .sl (Label.rows p0.labels), .sl (Owner.rows p0.owners), .sl (Qg p0.finalizers), .sl (Manager.rows p0.managers)]⟩), (1, ⟨13, 0, true, [.str p0.kind, .str p0.namespace_, .str p0.name, .int .i64 p0.uid, .int .i64 p0.version, .int .i64 p0.generation, .int .i64 p0.created, .bool p0.deleting, .int .i64 p0.deleteAt, .sl (Label.rows p0.labels), .sl (Owner.rows p0.owners), .sl (Qg p0.finalizers), .sl (Manager.rows p0.managers)]⟩)], 322⟩
def Q8d (p0 : Meta) (e : En) (_q : Unit) : Prop := ∃ z zo, Q7 G e (.st (.exit 0) (Qjv p0 z zo))
theorem Qjh (p0 : Meta) {e e' : En} (h : ∀ r, Q7 G e r → Q7 G e' r) : ∀ q, Q8d p0 e q → Q8d p0 e' q
  | _, ⟨z, zo, hz⟩ => ⟨z, zo, h _ hz⟩
def Qgz (p0 : Meta) : Prop := (List.length p0.labels ≤ 4611686018427387904) ∧ True
def Qke (p0 : Meta) (i0 : Nat) : List PV :=
  nuns 5 ++ [.int .i64 (i0 : Int)] ++ nuns 96 ++ [.int .i64 (i0 : Int), .bx 0 9, .sl (Label.rows p0.labels), .int .i64 ((List.length p0.labels) : Int), .bool false]
def Qet (_p0 : Meta) (_i0 : Nat) : List (Nat × List PV) :=
  []
theorem Qw4 (p0 : Meta) (_H : Qgz p0) (i0 : Nat) (hc0 : (decide ((i0 : Int) < ((List.length p0.labels) : Int))) = false) : Q8d p0 (Qgf p0 i0) () := by
 exact ⟨(envF (Qke p0 i0)), (zoF (Qet p0 i0)), Qm VOK.nil (x := ((.exit 0), Qjv p0 (envF (Qke p0 i0)) (zoF (Qet p0 i0)))) [hP 3 (Qs (Label.rows p0.labels) (List.length p0.labels) (Label.Q8 p0.labels)), hB 0 hc0] [] (by kernel_rfl)⟩
theorem Qun (p0 : Meta) (H : Qgz p0) (x0 : Label) (i0 : Nat) (hx0 : p0.labels[i0]? = some x0) (hi0 : i0 < List.length p0.labels) (hc0 : (decide ((i0 : Int) < ((List.length p0.labels) : Int))) = true) {r : Rs} (hr : Q7 G (Qgf p0 (i0 + 1)) r) : Q7 G (Qgf p0 i0) r := by
 have hB0 := H.1
 exact Qn VOK.nil (y := (Qnx p0 (i0 + 1), Qod p0 (i0 + 1))) [hP 3 (Qs (Label.rows p0.labels) (List.length p0.labels) (Label.Q8 p0.labels)), hB 0 hc0, hP 3 (Q1x 2 (Label.rows p0.labels) i0 _ (Label.Qf hx0) rfl), hP 4 (Q1x 2 (Label.rows p0.labels) i0 _ (Label.Qf hx0) rfl), hP 1 (dec (!((sEq x0.key x0.key) && ((sEq x0.value x0.value) && true))) false (by rw [(Qc9 (Q2l.2 rfl) (Qc9 (Q2l.2 rfl) rfl))]; rfl)), hP 1 (Q1o i0 (by omega))] [] (by kernel_rfl) hr
theorem Qpy (p0 : Meta) (H : Qgz p0) : ∀ (r0 : List Label) (i0 : Nat), List.drop i0 p0.labels = r0 → Q8d p0 (Qgf p0 i0) (Qty p0 r0 i0)
 | [], i0, hd => by
  have hc0 : (decide ((i0 : Int) < ((List.length p0.labels) : Int))) = false := by have := Q1d hd; simp; omega
  show Q8d p0 _ ()
  exact Qw4 p0 H i0 hc0
 | x0 :: r0, i0, hd => by
  obtain ⟨hx0, hi0, hd'⟩ := Q19 hd
  have hc0 : (decide ((i0 : Int) < ((List.length p0.labels) : Int))) = true := by simp; omega
  show Q8d p0 _ ()
  exact Qjh p0 (fun r hr => Qun p0 H x0 i0 hx0 hi0 hc0 hr) _ (Qpy p0 H r0 (i0 + 1) hd')
def Qtz (p0 : Meta) : List Owner → Nat → Unit
 | [], _i1 =>
  ()
 | _x1 :: r1, i1 =>
  Qtz p0 r1 (i1 + 1)
def Qny (_p0 : Meta) (i1 : Nat) : List PV :=
  [.un, .un, .bx 0 0, .bx 1 0, .un, .un, .int .i64 (i1 : Int)] ++ nuns 167
def Qoe (p0 : Meta) (_i1 : Nat) : List Ob :=
  [⟨13, 0, true, [.str p0.kind, .str p0.namespace_, .str p0.name, .int .i64 p0.uid, .int .i64 p0.version, .int .i64 p0.generation, .int .i64 p0.created, .bool p0.deleting, .int .i64 p0.deleteAt, .sl (Label.rows p0.labels), .sl (Owner.rows p0.owners), .sl (Qg p0.finalizers), .sl (Manager.rows p0.managers)]⟩, ⟨13, 0, true, [.str p0.kind, .str p0.namespace_, .str p0.name, .int .i64 p0.uid, .int .i64 p0.version, .int .i64 p0.generation, .int .i64 p0.created, .bool p0.deleting, .int .i64 p0.deleteAt, .sl (Label.rows p0.labels), .sl (Owner.rows p0.owners), .sl (Qg p0.finalizers), .sl (Manager.rows p0.managers)]⟩]
def Qgg (p0 : Meta) (i1 : Nat) : En := .loop 0 Ir.Qdr Ir.Q10h (Qny p0 i1) (Qoe p0 i1)
def Qjw (p0 : Meta) (z : Nat → PV) (_zo : Nat → List PV) : St :=
  ⟨[z 0, z 1, .bx 0 0, .bx 1 0] ++ zr z 4 170, [(0, ⟨13, 0, true, [.str p0.kind, .str p0.namespace_, .str p0.name, .int .i64 p0.uid, .int .i64 p0.version, .int .i64 p0.generation, .int .i64 p0.created, .bool p0.deleting, .int .i64 p0.deleteAt, .sl (Label.rows p0.labels), .sl (Owner.rows p0.owners), .sl (Qg p0.finalizers), .sl (Manager.rows p0.managers)]⟩), (1, ⟨13, 0, true, [.str p0.kind, .str p0.namespace_, .str p0.name, .int .i64 p0.uid, .int .i64 p0.version, .int .i64 p0.generation, .int .i64 p0.created, .bool p0.deleting, .int .i64 p0.deleteAt, .sl (Label.rows p0.labels), .sl (Owner.rows p0.owners), .sl (Qg p0.finalizers), .sl (Manager.rows p0.managers)]⟩)], 322⟩
def Q8e (p0 : Meta) (e : En) (_q : Unit) : Prop := ∃ z zo, Q7 G e (.st (.exit 2) (Qjw p0 z zo))
theorem Qji (p0 : Meta) {e e' : En} (h : ∀ r, Q7 G e r → Q7 G e' r) : ∀ q, Q8e p0 e q → Q8e p0 e' q
  | _, ⟨z, zo, hz⟩ => ⟨z, zo, h _ hz⟩
def Qh0 (p0 : Meta) : Prop := (List.length p0.owners ≤ 4611686018427387904) ∧ True
def Qkf (p0 : Meta) (i1 : Nat) : List PV :=
  nuns 6 ++ [.int .i64 (i1 : Int)] ++ nuns 113 ++ [.int .i64 (i1 : Int), .bx 0 10, .sl (Owner.rows p0.owners), .int .i64 ((List.length p0.owners) : Int), .bool false]
def Qeu (_p0 : Meta) (_i1 : Nat) : List (Nat × List PV) :=
  []
theorem Qw5 (p0 : Meta) (_H : Qh0 p0) (i1 : Nat) (hc1 : (decide ((i1 : Int) < ((List.length p0.owners) : Int))) = false) : Q8e p0 (Qgg p0 i1) () := by
 exact ⟨(envF (Qkf p0 i1)), (zoF (Qeu p0 i1)), Qm VOK.nil (x := ((.exit 2), Qjw p0 (envF (Qkf p0 i1)) (zoF (Qeu p0 i1)))) [hP 3 (Qs (Owner.rows p0.owners) (List.length p0.owners) (Owner.Q8 p0.owners)), hB 0 hc1] [] (by kernel_rfl)⟩
theorem Quo (p0 : Meta) (H : Qh0 p0) (x1 : Owner) (i1 : Nat) (hx1 : p0.owners[i1]? = some x1) (hi1 : i1 < List.length p0.owners) (hc1 : (decide ((i1 : Int) < ((List.length p0.owners) : Int))) = true) {r : Rs} (hr : Q7 G (Qgg p0 (i1 + 1)) r) : Q7 G (Qgg p0 i1) r := by
 have hB0 := H.1
 exact Qn VOK.nil (y := (Qny p0 (i1 + 1), Qoe p0 (i1 + 1))) [hP 3 (Qs (Owner.rows p0.owners) (List.length p0.owners) (Owner.Q8 p0.owners)), hB 0 hc1, hP 3 (Q1x 5 (Owner.rows p0.owners) i1 _ (Owner.Qf hx1) rfl), hP 4 (Q1x 5 (Owner.rows p0.owners) i1 _ (Owner.Qf hx1) rfl), hP 1 (dec (!((sEq x1.kind x1.kind) && ((sEq x1.name x1.name) && ((x1.uid == x1.uid) && ((x1.controller == x1.controller) && ((x1.block == x1.block) && true)))))) false (by rw [(Qc9 (Q2l.2 rfl) (Qc9 (Q2l.2 rfl) (Qc9 (beq_self_eq_true _) (Qc9 (beq_self_eq_true _) (Qc9 (beq_self_eq_true _) rfl)))))]; rfl)), hP 1 (Q1o i1 (by omega))] [] (by kernel_rfl) hr
theorem Qpz (p0 : Meta) (H : Qh0 p0) : ∀ (r1 : List Owner) (i1 : Nat), List.drop i1 p0.owners = r1 → Q8e p0 (Qgg p0 i1) (Qtz p0 r1 i1)
 | [], i1, hd => by
  have hc1 : (decide ((i1 : Int) < ((List.length p0.owners) : Int))) = false := by have := Q1d hd; simp; omega
  show Q8e p0 _ ()
  exact Qw5 p0 H i1 hc1
 | x1 :: r1, i1, hd => by
  obtain ⟨hx1, hi1, hd'⟩ := Q19 hd
  have hc1 : (decide ((i1 : Int) < ((List.length p0.owners) : Int))) = true := by simp; omega
  show Q8e p0 _ ()
  exact Qji p0 (fun r hr => Quo p0 H x1 i1 hx1 hi1 hc1 hr) _ (Qpz p0 H r1 (i1 + 1) hd')
def Qu0 (p0 : Meta) : List Manager → Nat → Unit
 | [], _i2 =>
  ()
 | _x2 :: r2, i2 =>
  Qu0 p0 r2 (i2 + 1)
def Qnz (_p0 : Meta) (i2 : Nat) : List PV :=
  [.un, .un, .bx 0 0, .bx 1 0, .un, .un, .un, .int .i64 (i2 : Int)] ++ nuns 166
def Qof (p0 : Meta) (_i2 : Nat) : List Ob :=
  [⟨13, 0, true, [.str p0.kind, .str p0.namespace_, .str p0.name, .int .i64 p0.uid, .int .i64 p0.version, .int .i64 p0.generation, .int .i64 p0.created, .bool p0.deleting, .int .i64 p0.deleteAt, .sl (Label.rows p0.labels), .sl (Owner.rows p0.owners), .sl (Qg p0.finalizers), .sl (Manager.rows p0.managers)]⟩, ⟨13, 0, true, [.str p0.kind, .str p0.namespace_, .str p0.name, .int .i64 p0.uid, .int .i64 p0.version, .int .i64 p0.generation, .int .i64 p0.created, .bool p0.deleting, .int .i64 p0.deleteAt, .sl (Label.rows p0.labels), .sl (Owner.rows p0.owners), .sl (Qg p0.finalizers), .sl (Manager.rows p0.managers)]⟩]
def Qgh (p0 : Meta) (i2 : Nat) : En := .loop 0 Ir.Qds Ir.Q10i (Qnz p0 i2) (Qof p0 i2)
def Qjx (p0 : Meta) (z : Nat → PV) (_zo : Nat → List PV) : St :=
  ⟨zr z 0 174, [(0, ⟨13, 0, true, [.str p0.kind, .str p0.namespace_, .str p0.name, .int .i64 p0.uid, .int .i64 p0.version, .int .i64 p0.generation, .int .i64 p0.created, .bool p0.deleting, .int .i64 p0.deleteAt, .sl (Label.rows p0.labels), .sl (Owner.rows p0.owners), .sl (Qg p0.finalizers), .sl (Manager.rows p0.managers)]⟩), (1, ⟨13, 0, true, [.str p0.kind, .str p0.namespace_, .str p0.name, .int .i64 p0.uid, .int .i64 p0.version, .int .i64 p0.generation, .int .i64 p0.created, .bool p0.deleting, .int .i64 p0.deleteAt, .sl (Label.rows p0.labels), .sl (Owner.rows p0.owners), .sl (Qg p0.finalizers), .sl (Manager.rows p0.managers)]⟩)], 322⟩
def Q8f (p0 : Meta) (e : En) (_q : Unit) : Prop := ∃ z zo, Q7 G e (.st (.exit 4) (Qjx p0 z zo))
theorem Qjj (p0 : Meta) {e e' : En} (h : ∀ r, Q7 G e r → Q7 G e' r) : ∀ q, Q8f p0 e q → Q8f p0 e' q
  | _, ⟨z, zo, hz⟩ => ⟨z, zo, h _ hz⟩
def Qh1 (p0 : Meta) : Prop := (List.length p0.managers ≤ 4611686018427387904) ∧ (∀ x2 ∈ p0.managers, H_Kh x2.fields) ∧ True
def Qkg (p0 : Meta) (i2 : Nat) : List PV :=
  [.un, .un, .bx 0 0, .bx 1 0, .un, .un, .un, .int .i64 (i2 : Int)] ++ nuns 130 ++ [.int .i64 (i2 : Int), .bx 0 12, .sl (Manager.rows p0.managers), .int .i64 ((List.length p0.managers) : Int), .bool false]
def Qev (_p0 : Meta) (_i2 : Nat) : List (Nat × List PV) :=
  []
theorem Qw6 (p0 : Meta) (_H : Qh1 p0) (i2 : Nat) (hc2 : (decide ((i2 : Int) < ((List.length p0.managers) : Int))) = false) : Q8f p0 (Qgh p0 i2) () := by
 exact ⟨(envF (Qkg p0 i2)), (zoF (Qev p0 i2)), Qm VOK.nil (x := ((.exit 4), Qjx p0 (envF (Qkg p0 i2)) (zoF (Qev p0 i2)))) [hP 3 (Qs (Manager.rows p0.managers) (List.length p0.managers) (Manager.Q8 p0.managers)), hB 0 hc2] [] (by kernel_rfl)⟩
theorem Qup (p0 : Meta) (H : Qh1 p0) (x2 : Manager) (i2 : Nat) (hx2 : p0.managers[i2]? = some x2) (hi2 : i2 < List.length p0.managers) (hc2 : (decide ((i2 : Int) < ((List.length p0.managers) : Int))) = true) {r : Rs} (hr : Q7 G (Qgh p0 (i2 + 1)) r) : Q7 G (Qgh p0 i2) r := by
 have hB0 := H.1
 exact Qn VOK.nil (y := (Qnz p0 (i2 + 1), Qof p0 (i2 + 1))) [hP 3 (Qs (Manager.rows p0.managers) (List.length p0.managers) (Manager.Q8 p0.managers)), hB 0 hc2, hP 3 (Q1x 2 (Manager.rows p0.managers) i2 _ (Manager.Qf hx2) rfl), hP 5 (Q1x 2 (Manager.rows p0.managers) i2 _ (Manager.Qf hx2) rfl), hP 2 (dec (!(sEq x2.name x2.name)) false (by rw [(Q2l.2 rfl)]; rfl)), hP 4 (Q1x 2 (Manager.rows p0.managers) i2 _ (Manager.Qf hx2) rfl), hP 5 (Q1x 2 (Manager.rows p0.managers) i2 _ (Manager.Qf hx2) rfl), hP 6 (Q1o i2 (by omega))] [aN (Q4v (c := fun y => .call 82 [.sl (Qg x2.fields), .sl (Qg y)] []) rfl (t_Kh x2.fields (H.2.1 x2 (Q29 hx2))))] (by kernel_rfl) hr
theorem Qq0 (p0 : Meta) (H : Qh1 p0) : ∀ (r2 : List Manager) (i2 : Nat), List.drop i2 p0.managers = r2 → Q8f p0 (Qgh p0 i2) (Qu0 p0 r2 i2)
 | [], i2, hd => by
  have hc2 : (decide ((i2 : Int) < ((List.length p0.managers) : Int))) = false := by have := Q1d hd; simp; omega
  show Q8f p0 _ ()
  exact Qw6 p0 H i2 hc2
 | x2 :: r2, i2, hd => by
  obtain ⟨hx2, hi2, hd'⟩ := Q19 hd
  have hc2 : (decide ((i2 : Int) < ((List.length p0.managers) : Int))) = true := by simp; omega
  show Q8f p0 _ ()
  exact Qjj p0 (fun r hr => Qup p0 H x2 i2 hx2 hi2 hc2 hr) _ (Qq0 p0 H r2 (i2 + 1) hd')
def s_Kg (_p0 : Meta) : Bool :=
 true
def c_Kg (p0 : Meta) : En := .call 48 [.agg (Meta.cells p0), .agg (Meta.cells p0)] []
def a_Kg (p0 : Meta) : Rs := .ret (.bool (s_Kg p0)) []
def H_Kg (p0 : Meta) : Prop := (H_Kf p0) ∧ (H_Kh p0.finalizers) ∧ (Qgz p0) ∧ (Qh0 p0) ∧ (Qh1 p0) ∧ True
theorem t_Kg (p0 : Meta) (H : H_Kg p0) : Q7 G (c_Kg p0) (a_Kg p0) := by
 unfold a_Kg s_Kg
 have hl0 := Qpy p0 (H.2.2.1) p0.labels 0 (by simp)
 obtain ⟨z0, zo0, hl0⟩ := hl0
 have hl1 := Qpz p0 (H.2.2.2.1) p0.owners 0 (by simp)
 obtain ⟨z1, zo1, hl1⟩ := hl1
 have hl2 := Qq0 p0 (H.2.2.2.2.1) p0.managers 0 (by simp)
 obtain ⟨z2, zo2, hl2⟩ := hl2
 exact Qa (fn := Ir.Kg) rfl VOK.nil [hP 7 (dec (!(sEq (s_Kf p0) (s_Kf p0))) false (by rw [(Q2l.2 rfl)]; rfl)), hP 5 (dec (!(sEq p0.kind p0.kind)) false (by rw [(Q2l.2 rfl)]; rfl)), hP 6 (dec (!(sEq p0.namespace_ p0.namespace_)) false (by rw [(Q2l.2 rfl)]; rfl)), hP 6 (dec (!(p0.uid == p0.uid)) false (by rw [(beq_self_eq_true _)]; rfl)), hP 6 (dec (!(p0.version == p0.version)) false (by rw [(beq_self_eq_true _)]; rfl)), hP 6 (dec (!(p0.generation == p0.generation)) false (by rw [(beq_self_eq_true _)]; rfl)), hP 6 (dec (!(p0.created == p0.created)) false (by rw [(beq_self_eq_true _)]; rfl)), hP 6 (dec (!(p0.deleting == p0.deleting)) false (by rw [(beq_self_eq_true _)]; rfl)), hP 6 (dec (!(p0.deleteAt == p0.deleteAt)) false (by rw [(beq_self_eq_true _)]; rfl)), hP 3 (Qs (Label.rows p0.labels) (List.length p0.labels) (Label.Q8 p0.labels)), hP 2 (Qs (Label.rows p0.labels) (List.length p0.labels) (Label.Q8 p0.labels)), hP 0 (dec (!(((List.length p0.labels) : Int) == ((List.length p0.labels) : Int))) false (by rw [(beq_self_eq_true _)]; rfl)), hP 3 (Qs (Owner.rows p0.owners) (List.length p0.owners) (Owner.Q8 p0.owners)), hP 2 (Qs (Owner.rows p0.owners) (List.length p0.owners) (Owner.Q8 p0.owners)), hP 0 (dec (!(((List.length p0.owners) : Int) == ((List.length p0.owners) : Int))) false (by rw [(beq_self_eq_true _)]; rfl)), hP 4 (Qs (Manager.rows p0.managers) (List.length p0.managers) (Manager.Q8 p0.managers)), hP 2 (Qs (Manager.rows p0.managers) (List.length p0.managers) (Manager.Q8 p0.managers)), hP 0 (dec (!(((List.length p0.managers) : Int) == ((List.length p0.managers) : Int))) false (by rw [(beq_self_eq_true _)]; rfl))] [aN (t_Kf p0 H.1), aN (t_Kf p0 H.1), aN (Q4v (c := fun y => .call 82 [.sl (Qg p0.finalizers), .sl (Qg y)] []) rfl (t_Kh p0.finalizers H.2.1)), aN hl0, aN hl1, aN hl2] (by kernel_rfl)
def s_Kd (_p0 : Object) : Bool :=
 true
def c_Kd (p0 : Object) : En := .call 12 [.agg (Object.cells p0), .agg (Object.cells p0)] []
def a_Kd (p0 : Object) : Rs := .ret (.bool (s_Kd p0)) []
def H_Kd (p0 : Object) : Prop := (H_Kg p0.meta_) ∧ (H_K5 p0.spec) ∧ (H_K5 p0.status) ∧ True
theorem t_Kd (p0 : Object) (H : H_Kd p0) : Q7 G (c_Kd p0) (a_Kd p0) := by
 unfold a_Kd s_Kd
 exact Qa (fn := Ir.Kd) rfl VOK.nil [] [aN (Q4v (c := fun y => .call 48 [.agg (Meta.cells p0.meta_), .agg (Meta.cells y)] []) rfl (t_Kg p0.meta_ H.1)), aN (Q4v (c := fun y => .call 49 [.agg (Val.cells p0.spec), .agg (Val.cells y)] []) rfl (t_K5 p0.spec H.2.1)), aN (Q4v (c := fun y => .call 49 [.agg (Val.cells p0.status), .agg (Val.cells y)] []) rfl (t_K5 p0.status H.2.2.1))] (by kernel_rfl)
inductive Qsr where
  | k0
  | k1
def Q71 (p0 : Object) : List Manager → Nat → Qsr
 | [], _i0 =>
  (.k0)
 | x0 :: r0, i0 =>
  bif (decide (60 < ((List.length x0.fields) : Int))) then
   (.k1)
  else
   Q71 p0 r0 (i0 + 1)
def Qns (_p0 : Object) (i0 : Nat) : List PV :=
  [.un, .bx 0 0, .un, .bx 1 0, .int .i64 (i0 : Int)] ++ nuns 47
def Qo8 (p0 : Object) (_i0 : Nat) : List Ob :=
  [⟨23, 0, true, [.str p0.meta_.kind, .str p0.meta_.namespace_, .str p0.meta_.name, .int .i64 p0.meta_.uid, .int .i64 p0.meta_.version, .int .i64 p0.meta_.generation, .int .i64 p0.meta_.created, .bool p0.meta_.deleting, .int .i64 p0.meta_.deleteAt, .sl (Label.rows p0.meta_.labels), .sl (Owner.rows p0.meta_.owners), .sl (Qg p0.meta_.finalizers), .sl (Manager.rows p0.meta_.managers), .int .i64 p0.spec.kind, .int .i64 p0.spec.n, .str p0.spec.s, .sl (Val.rows p0.spec.list), .sl (Fld.rows p0.spec.fields), .int .i64 p0.status.kind, .int .i64 p0.status.n, .str p0.status.s, .sl (Val.rows p0.status.list), .sl (Fld.rows p0.status.fields)]⟩, ⟨13, 0, true, [.str p0.meta_.kind, .str p0.meta_.namespace_, .str p0.meta_.name, .int .i64 p0.meta_.uid, .int .i64 p0.meta_.version, .int .i64 p0.meta_.generation, .int .i64 p0.meta_.created, .bool p0.meta_.deleting, .int .i64 p0.meta_.deleteAt, .sl (Label.rows p0.meta_.labels), .sl (Owner.rows p0.meta_.owners), .sl (Qg p0.meta_.finalizers), .sl (Manager.rows p0.meta_.managers)]⟩]
def Q6t (p0 : Object) (i0 : Nat) : En := .loop 0 Ir.Qdl Ir.Q10b (Qns p0 i0) (Qo8 p0 i0)
def Qbo (p0 : Object) (z : Nat → PV) (_zo : Nat → List PV) : St :=
  ⟨[z 0, .bx 0 0] ++ zr z 2 50, [(0, ⟨23, 0, true, [.str p0.meta_.kind, .str p0.meta_.namespace_, .str p0.meta_.name, .int .i64 p0.meta_.uid, .int .i64 p0.meta_.version, .int .i64 p0.meta_.generation, .int .i64 p0.meta_.created, .bool p0.meta_.deleting, .int .i64 p0.meta_.deleteAt, .sl (Label.rows p0.meta_.labels), .sl (Owner.rows p0.meta_.owners), .sl (Qg p0.meta_.finalizers), .sl (Manager.rows p0.meta_.managers), .int .i64 p0.spec.kind, .int .i64 p0.spec.n, .str p0.spec.s, .sl (Val.rows p0.spec.list), .sl (Fld.rows p0.spec.fields), .int .i64 p0.status.kind, .int .i64 p0.status.n, .str p0.status.s, .sl (Val.rows p0.status.list), .sl (Fld.rows p0.status.fields)]⟩), (1, ⟨13, 0, true, [.str p0.meta_.kind, .str p0.meta_.namespace_, .str p0.meta_.name, .int .i64 p0.meta_.uid, .int .i64 p0.meta_.version, .int .i64 p0.meta_.generation, .int .i64 p0.meta_.created, .bool p0.meta_.deleting, .int .i64 p0.meta_.deleteAt, .sl (Label.rows p0.meta_.labels), .sl (Owner.rows p0.meta_.owners), .sl (Qg p0.meta_.finalizers), .sl (Manager.rows p0.meta_.managers)]⟩)], 322⟩
def Qbp (_p0 : Object) (z : Nat → PV) (zo : Nat → List PV) : St :=
  ⟨[z 0, z 1, .bool false] ++ zr z 3 49, [(0, ⟨23, 0, true, zo 0⟩), (1, ⟨13, 0, true, zo 1⟩)], 898⟩
def Qbj (p0 : Object) (e : En) : Qsr → Prop
  | .k0 => ∃ z zo, Q7 G e (.st (.exit 0) (Qbo p0 z zo))
  | .k1 => ∃ z zo, Q7 G e (.st .ret (Qbp p0 z zo))
theorem Qjc (p0 : Object) {e e' : En} (h : ∀ r, Q7 G e r → Q7 G e' r) : ∀ q, Qbj p0 e q → Qbj p0 e' q
  | .k0, ⟨z, zo, hz⟩ => ⟨z, zo, h _ hz⟩
  | .k1, ⟨z, zo, hz⟩ => ⟨z, zo, h _ hz⟩
def Qaz (p0 : Object) : Prop := (List.length p0.meta_.managers ≤ 4611686018427387904) ∧ True
def Qk5 (p0 : Object) (i0 : Nat) : List PV :=
  [.un, .un, .un, .bx 1 0, .int .i64 (i0 : Int)] ++ nuns 24 ++ [.int .i64 (i0 : Int), .bx 1 12, .sl (Manager.rows p0.meta_.managers), .int .i64 ((List.length p0.meta_.managers) : Int), .bool false]
def Qek (_p0 : Object) (_i0 : Nat) : List (Nat × List PV) :=
  []
theorem Qvv (p0 : Object) (_H : Qaz p0) (i0 : Nat) (hc0 : (decide ((i0 : Int) < ((List.length p0.meta_.managers) : Int))) = false) : Qbj p0 (Q6t p0 i0) (.k0) := by
 exact ⟨(envF (Qk5 p0 i0)), (zoF (Qek p0 i0)), Qm VOK.nil (x := ((.exit 0), Qbo p0 (envF (Qk5 p0 i0)) (zoF (Qek p0 i0)))) [hP 3 (Qs (Manager.rows p0.meta_.managers) (List.length p0.meta_.managers) (Manager.Q8 p0.meta_.managers)), hB 0 hc0] [] (by kernel_rfl)⟩
def Qk6 (p0 : Object) (i0 : Nat) (x0 : Manager) : List PV :=
  [.un, .bx 0 0, .un, .bx 1 0, .int .i64 (i0 : Int)] ++ nuns 24 ++ [.int .i64 (i0 : Int), .bx 1 12, .sl (Manager.rows p0.meta_.managers), .int .i64 ((List.length p0.meta_.managers) : Int), .bool true, .un, .un, .bx 1 12, .sl (Manager.rows p0.meta_.managers), .int .i64 (i0 : Int), .rf [.str x0.name, .sl (Qg x0.fields)], .rf [.sl (Qg x0.fields)], .sl (Qg x0.fields), .int .i64 ((List.length x0.fields) : Int), .bool true]
def Qel (p0 : Object) (_i0 : Nat) (_x0 : Manager) : List (Nat × List PV) :=
  [(0, [.str p0.meta_.kind, .str p0.meta_.namespace_, .str p0.meta_.name, .int .i64 p0.meta_.uid, .int .i64 p0.meta_.version, .int .i64 p0.meta_.generation, .int .i64 p0.meta_.created, .bool p0.meta_.deleting, .int .i64 p0.meta_.deleteAt, .sl (Label.rows p0.meta_.labels), .sl (Owner.rows p0.meta_.owners), .sl (Qg p0.meta_.finalizers), .sl (Manager.rows p0.meta_.managers), .int .i64 p0.spec.kind, .int .i64 p0.spec.n, .str p0.spec.s, .sl (Val.rows p0.spec.list), .sl (Fld.rows p0.spec.fields), .int .i64 p0.status.kind, .int .i64 p0.status.n, .str p0.status.s, .sl (Val.rows p0.status.list), .sl (Fld.rows p0.status.fields)]), (1, [.str p0.meta_.kind, .str p0.meta_.namespace_, .str p0.meta_.name, .int .i64 p0.meta_.uid, .int .i64 p0.meta_.version, .int .i64 p0.meta_.generation, .int .i64 p0.meta_.created, .bool p0.meta_.deleting, .int .i64 p0.meta_.deleteAt, .sl (Label.rows p0.meta_.labels), .sl (Owner.rows p0.meta_.owners), .sl (Qg p0.meta_.finalizers), .sl (Manager.rows p0.meta_.managers)])]
theorem Qvw (p0 : Object) (_H : Qaz p0) (x0 : Manager) (i0 : Nat) (hx0 : p0.meta_.managers[i0]? = some x0) (_hi0 : i0 < List.length p0.meta_.managers) (hc0 : (decide ((i0 : Int) < ((List.length p0.meta_.managers) : Int))) = true) (h0 : (decide (60 < ((List.length x0.fields) : Int))) = true) : Qbj p0 (Q6t p0 i0) (.k1) := by
 exact ⟨(envF (Qk6 p0 i0 x0)), (zoF (Qel p0 i0 x0)), Qm VOK.nil (x := (.ret, Qbp p0 (envF (Qk6 p0 i0 x0)) (zoF (Qel p0 i0 x0)))) [hP 3 (Qs (Manager.rows p0.meta_.managers) (List.length p0.meta_.managers) (Manager.Q8 p0.meta_.managers)), hB 0 hc0, hP 3 (Q1x 2 (Manager.rows p0.meta_.managers) i0 _ (Manager.Qf hx0) rfl), hP 2 (Qs (Qg x0.fields) (List.length x0.fields) (Q1h x0.fields)), hB 0 h0] [] (by kernel_rfl)⟩
theorem Qui (p0 : Object) (H : Qaz p0) (x0 : Manager) (i0 : Nat) (hx0 : p0.meta_.managers[i0]? = some x0) (hi0 : i0 < List.length p0.meta_.managers) (hc0 : (decide ((i0 : Int) < ((List.length p0.meta_.managers) : Int))) = true) (h0 : (decide (60 < ((List.length x0.fields) : Int))) = false) {r : Rs} (hr : Q7 G (Q6t p0 (i0 + 1)) r) : Q7 G (Q6t p0 i0) r := by
 have hB0 := H.1; have e0 := of_decide_eq_false h0
 exact Qn VOK.nil (y := (Qns p0 (i0 + 1), Qo8 p0 (i0 + 1))) [hP 3 (Qs (Manager.rows p0.meta_.managers) (List.length p0.meta_.managers) (Manager.Q8 p0.meta_.managers)), hB 0 hc0, hP 3 (Q1x 2 (Manager.rows p0.meta_.managers) i0 _ (Manager.Qf hx0) rfl), hP 2 (Qs (Qg x0.fields) (List.length x0.fields) (Q1h x0.fields)), hB 0 h0, hP 1 (Q1o i0 (by omega))] [] (by kernel_rfl) hr
theorem Qpt (p0 : Object) (H : Qaz p0) : ∀ (r0 : List Manager) (i0 : Nat), List.drop i0 p0.meta_.managers = r0 → Qbj p0 (Q6t p0 i0) (Q71 p0 r0 i0)
 | [], i0, hd => by
  have hc0 : (decide ((i0 : Int) < ((List.length p0.meta_.managers) : Int))) = false := by have := Q1d hd; simp; omega
  rw [Q71]
  exact Qvv p0 H i0 hc0
 | x0 :: r0, i0, hd => by
  obtain ⟨hx0, hi0, hd'⟩ := Q19 hd
  have hc0 : (decide ((i0 : Int) < ((List.length p0.meta_.managers) : Int))) = true := by simp; omega
  rw [Q71]
  cases h0 : (decide (60 < ((List.length x0.fields) : Int))) with
  | true =>
   exact Qvw p0 H x0 i0 hx0 hi0 hc0 h0
  | false =>
   exact Qjc p0 (fun r hr => Qui p0 H x0 i0 hx0 hi0 hc0 h0 hr) _ (Qpt p0 H r0 (i0 + 1) hd')
def s_K2 (p0 : Object) : Bool :=
 bif (decide (40 < ((List.length p0.meta_.labels) : Int))) then
  false
 else
  bif (decide (40 < ((List.length p0.meta_.owners) : Int))) then
   false
  else
   bif (decide (40 < ((List.length p0.meta_.finalizers) : Int))) then
    false
   else
    bif (decide (40 < ((List.length p0.meta_.managers) : Int))) then
     false
    else
     (match (Q71 p0 p0.meta_.managers 0) with
     | .k0 => bif (s_K9 p0.spec 900) then
       (s_K9 p0.status 300)
      else
       false
     | .k1 => false)
def c_K2 (p0 : Object) : En := .call 6 [.agg (Object.cells p0)] []
def a_K2 (p0 : Object) : Rs := .ret (.bool (s_K2 p0)) []
def H_K2 (p0 : Object) : Prop := (Qaz p0) ∧ (H_K9 p0.spec 900) ∧ (H_K9 p0.status 300) ∧ True
theorem Q135 (p0 : Object) (_H : H_K2 p0) (h0 : (decide (40 < ((List.length p0.meta_.labels) : Int))) = true) : Q7 G (c_K2 p0) (.ret (.bool (false)) []) := by
 exact Qa (fn := Ir.K2) rfl VOK.nil [hP 8 (Qs (Label.rows p0.meta_.labels) (List.length p0.meta_.labels) (Label.Q8 p0.meta_.labels)), hB 0 h0] [] (by kernel_rfl)
theorem Q136 (p0 : Object) (_H : H_K2 p0) (h0 : (decide (40 < ((List.length p0.meta_.labels) : Int))) = false) (h1 : (decide (40 < ((List.length p0.meta_.owners) : Int))) = true) : Q7 G (c_K2 p0) (.ret (.bool (false)) []) := by
 exact Qa (fn := Ir.K2) rfl VOK.nil [hP 8 (Qs (Label.rows p0.meta_.labels) (List.length p0.meta_.labels) (Label.Q8 p0.meta_.labels)), hB 0 h0, hP 3 (Qs (Owner.rows p0.meta_.owners) (List.length p0.meta_.owners) (Owner.Q8 p0.meta_.owners)), hB 0 h1] [] (by kernel_rfl)
theorem Q137 (p0 : Object) (_H : H_K2 p0) (h0 : (decide (40 < ((List.length p0.meta_.labels) : Int))) = false) (h1 : (decide (40 < ((List.length p0.meta_.owners) : Int))) = false) (h2 : (decide (40 < ((List.length p0.meta_.finalizers) : Int))) = true) : Q7 G (c_K2 p0) (.ret (.bool (false)) []) := by
 exact Qa (fn := Ir.K2) rfl VOK.nil [hP 8 (Qs (Label.rows p0.meta_.labels) (List.length p0.meta_.labels) (Label.Q8 p0.meta_.labels)), hB 0 h0, hP 3 (Qs (Owner.rows p0.meta_.owners) (List.length p0.meta_.owners) (Owner.Q8 p0.meta_.owners)), hB 0 h1, hP 4 (Qs (Qg p0.meta_.finalizers) (List.length p0.meta_.finalizers) (Q1h p0.meta_.finalizers)), hB 0 h2] [] (by kernel_rfl)
theorem Q138 (p0 : Object) (_H : H_K2 p0) (h0 : (decide (40 < ((List.length p0.meta_.labels) : Int))) = false) (h1 : (decide (40 < ((List.length p0.meta_.owners) : Int))) = false) (h2 : (decide (40 < ((List.length p0.meta_.finalizers) : Int))) = false) (h3 : (decide (40 < ((List.length p0.meta_.managers) : Int))) = true) : Q7 G (c_K2 p0) (.ret (.bool (false)) []) := by
 exact Qa (fn := Ir.K2) rfl VOK.nil [hP 8 (Qs (Label.rows p0.meta_.labels) (List.length p0.meta_.labels) (Label.Q8 p0.meta_.labels)), hB 0 h0, hP 3 (Qs (Owner.rows p0.meta_.owners) (List.length p0.meta_.owners) (Owner.Q8 p0.meta_.owners)), hB 0 h1, hP 4 (Qs (Qg p0.meta_.finalizers) (List.length p0.meta_.finalizers) (Q1h p0.meta_.finalizers)), hB 0 h2, hP 4 (Qs (Manager.rows p0.meta_.managers) (List.length p0.meta_.managers) (Manager.Q8 p0.meta_.managers)), hB 0 h3] [] (by kernel_rfl)
theorem Q139 (p0 : Object) (H : H_K2 p0) (h0 : (decide (40 < ((List.length p0.meta_.labels) : Int))) = false) (h1 : (decide (40 < ((List.length p0.meta_.owners) : Int))) = false) (h2 : (decide (40 < ((List.length p0.meta_.finalizers) : Int))) = false) (h3 : (decide (40 < ((List.length p0.meta_.managers) : Int))) = false) (z4 : Nat → PV) (zo4 : Nat → List PV) (hl4 : Q7 G (Q6t p0 0) (.st (.exit 0) (Qbo p0 z4 zo4))) : Q7 G (c_K2 p0) (.ret (.bool (bif (s_K9 p0.spec 900) then
   (s_K9 p0.status 300)
 else
   false)) []) := by
 cases h4 : (s_K9 p0.spec 900) with
 | true =>
  exact Qa (fn := Ir.K2) rfl VOK.nil [hP 8 (Qs (Label.rows p0.meta_.labels) (List.length p0.meta_.labels) (Label.Q8 p0.meta_.labels)), hB 0 h0, hP 3 (Qs (Owner.rows p0.meta_.owners) (List.length p0.meta_.owners) (Owner.Q8 p0.meta_.owners)), hB 0 h1, hP 4 (Qs (Qg p0.meta_.finalizers) (List.length p0.meta_.finalizers) (Q1h p0.meta_.finalizers)), hB 0 h2, hP 4 (Qs (Manager.rows p0.meta_.managers) (List.length p0.meta_.managers) (Manager.Q8 p0.meta_.managers)), hB 0 h3] [aN hl4, aB (t_K9 p0.spec 900 H.2.1) h4, aN (t_K9 p0.status 300 H.2.2.1)] (by kernel_rfl)
 | false =>
  exact Qa (fn := Ir.K2) rfl VOK.nil [hP 8 (Qs (Label.rows p0.meta_.labels) (List.length p0.meta_.labels) (Label.Q8 p0.meta_.labels)), hB 0 h0, hP 3 (Qs (Owner.rows p0.meta_.owners) (List.length p0.meta_.owners) (Owner.Q8 p0.meta_.owners)), hB 0 h1, hP 4 (Qs (Qg p0.meta_.finalizers) (List.length p0.meta_.finalizers) (Q1h p0.meta_.finalizers)), hB 0 h2, hP 4 (Qs (Manager.rows p0.meta_.managers) (List.length p0.meta_.managers) (Manager.Q8 p0.meta_.managers)), hB 0 h3] [aN hl4, aB (t_K9 p0.spec 900 H.2.1) h4] (by kernel_rfl)
theorem Q13a (p0 : Object) (_H : H_K2 p0) (h0 : (decide (40 < ((List.length p0.meta_.labels) : Int))) = false) (h1 : (decide (40 < ((List.length p0.meta_.owners) : Int))) = false) (h2 : (decide (40 < ((List.length p0.meta_.finalizers) : Int))) = false) (h3 : (decide (40 < ((List.length p0.meta_.managers) : Int))) = false) (z4 : Nat → PV) (zo4 : Nat → List PV) (hl4 : Q7 G (Q6t p0 0) (.st .ret (Qbp p0 z4 zo4))) : Q7 G (c_K2 p0) (.ret (.bool (false)) []) := by
 exact Qa (fn := Ir.K2) rfl VOK.nil [hP 8 (Qs (Label.rows p0.meta_.labels) (List.length p0.meta_.labels) (Label.Q8 p0.meta_.labels)), hB 0 h0, hP 3 (Qs (Owner.rows p0.meta_.owners) (List.length p0.meta_.owners) (Owner.Q8 p0.meta_.owners)), hB 0 h1, hP 4 (Qs (Qg p0.meta_.finalizers) (List.length p0.meta_.finalizers) (Q1h p0.meta_.finalizers)), hB 0 h2, hP 4 (Qs (Manager.rows p0.meta_.managers) (List.length p0.meta_.managers) (Manager.Q8 p0.meta_.managers)), hB 0 h3] [aN hl4] (by kernel_rfl)
theorem t_K2 (p0 : Object) (H : H_K2 p0) : Q7 G (c_K2 p0) (a_K2 p0) := by
 unfold a_K2 s_K2
 cases h0 : (decide (40 < ((List.length p0.meta_.labels) : Int))) with
 | true =>
  exact Q135 p0 H h0
 | false =>
  cases h1 : (decide (40 < ((List.length p0.meta_.owners) : Int))) with
  | true =>
   exact Q136 p0 H h0 h1
  | false =>
   cases h2 : (decide (40 < ((List.length p0.meta_.finalizers) : Int))) with
   | true =>
    exact Q137 p0 H h0 h1 h2
   | false =>
    cases h3 : (decide (40 < ((List.length p0.meta_.managers) : Int))) with
    | true =>
     exact Q138 p0 H h0 h1 h2 h3
    | false =>
     have hl4 := Qpt p0 (H.1) p0.meta_.managers 0 (by simp)
     cases hr4 : (Q71 p0 p0.meta_.managers 0) with
     | k0 =>
      rw [hr4] at hl4
      obtain ⟨z4, zo4, hl4⟩ := hl4
      try dsimp only
      exact Q139 p0 H h0 h1 h2 h3 z4 zo4 hl4
     | k1 =>
      rw [hr4] at hl4
      obtain ⟨z4, zo4, hl4⟩ := hl4
      exact Q13a p0 H h0 h1 h2 h3 z4 zo4 hl4
end Go.Proofs.Ytbagpdebihicnaa
end

section
/- The chapter's examples (printed by a program). -/
namespace Go.Proofs.Ytbagpdebihicnaa
open Go.Pv
theorem t_K1 : Q7 G (.call 7 [] []) (.ret (.bool true) []) := ⟨400, by kernel_rfl⟩
end Go.Proofs.Ytbagpdebihicnaa
end

