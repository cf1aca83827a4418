/- Texts of the claim, merged by a program; what the statement does not reach is left out. -/
import Derived.Test.YtimjjohlpnkacaaGreatBWorkcodecDecodes7

section
/- What chapter 19's decoders compute (printed by a program). -/
namespace Go.Proofs.YtimjjohlpnkacaaGreat
open Go.Pv
inductive Q15v where
  | k0
  | k1 (q0 : Val)
def Q5z (p0 : Val) (p1 : BA) : List Fld → Nat → Q15v
 | [], _i0 =>
  (.k0)
 | x0 :: r0, i0 =>
  bif (p0.kind == 5) then
   bif (sEq x0.name p1) then
    (.k1 x0.v)
   else
    Q5z p0 p1 r0 (i0 + 1)
  else
   Q5z p0 p1 r0 (i0 + 1)
def Q1fl (_p0 : Val) (p1 : BA) (i0 : Nat) : List PV :=
  [.un, .str p1, .bx 0 0, .un, .bx 1 0, iN (i0 : Int)] ++ nuns 27
def Q1gl (p0 : Val) (_p1 : BA) (_i0 : Nat) : List Ob :=
  [⟨5, 0, true, (Val.cells p0)⟩, ⟨5, 0, true, [iN 0, iN 0, .str eB, .ms 2 5 0 0, .ms 3 6 0 0]⟩, ⟨5, 0, true, []⟩, ⟨6, 0, true, []⟩]
def Qa1 (p0 : Val) (p1 : BA) (i0 : Nat) : En := .loop 0 Ir.Qlf Ir.Q1o0 (Q1fl p0 p1 i0) (Q1gl p0 p1 i0)
def Qsi (p0 : Val) (_p1 : BA) (z : Nat → PV) (_zo : Nat → List PV) : St :=
  ⟨[z 0, z 1, z 2, z 3, .bx 1 0] ++ zr z 5 28, [(0, ⟨5, 0, true, (Val.cells p0)⟩), (1, ⟨5, 0, true, [iN 0, iN 0, .str eB, .ms 2 5 0 0, .ms 3 6 0 0]⟩), (2, ⟨5, 0, true, []⟩), (3, ⟨6, 0, true, []⟩)], 324⟩
def Qsj (_p0 : Val) (_p1 : BA) (q0 : Val) (z : Nat → PV) (zo : Nat → List PV) : St :=
  ⟨[z 0, z 1, z 2, z 3, .bx 1 0] ++ zr z 5 28, [(0, ⟨5, 0, true, zo 0⟩), (1, ⟨5, 0, true, (Val.cells q0)⟩), (2, ⟨5, 0, true, zo 2⟩), (3, ⟨6, 0, true, zo 3⟩)], 1604⟩
def Qed (p0 : Val) (p1 : BA) (e : En) : Q15v → Prop
  | .k0 => ∃ z zo, Q0 G e (.st (.exit 0) (Qsi p0 p1 z zo))
  | .k1 q0 => ∃ z zo, Q0 G e (.st .ret (Qsj p0 p1 q0 z zo))
theorem Qee (p0 : Val) (p1 : BA) {e e' : En} (h : ∀ r, Q0 G e r → Q0 G e' r) : ∀ q, Qed p0 p1 e q → Qed p0 p1 e' q
  | .k0, ⟨z, zo, hz⟩ => ⟨z, zo, h _ hz⟩
  | .k1 _, ⟨z, zo, hz⟩ => ⟨z, zo, h _ hz⟩
def Qbo (p0 : Val) (_p1 : BA) : Prop := (List.length p0.fields ≤ 4611686018427387904) ∧ True
def Quk (p0 : Val) (p1 : BA) (i0 : Nat) : List PV :=
  [.un, .str p1, .bx 0 0, .un, .un, iN (i0 : Int), iN (i0 : Int), .bx 0 4, .sl (Fld.rows p0.fields), iN ((List.length p0.fields) : Int), .bool false]
def Qn8 (_p0 : Val) (_p1 : BA) (_i0 : Nat) : List (Nat × List PV) :=
  []
theorem Q1dy (p0 : Val) (p1 : BA) (_H : Qbo p0 p1) (i0 : Nat) (bC : (decide ((i0 : Int) < ((List.length p0.fields) : Int))) = false) : Qed p0 p1 (Qa1 p0 p1 i0) (.k0) := by
 exact ⟨(envF (Quk p0 p1 i0)), (zoF (Qn8 p0 p1 i0)), Qh VOK.nil (x := ((.exit 0), Qsi p0 p1 (envF (Quk p0 p1 i0)) (zoF (Qn8 p0 p1 i0)))) [hP 3 (Qs _ _ (Fld.Q5 p0.fields)), hB 0 bC] [] (by kernel_rfl)⟩
def Qul (p0 : Val) (p1 : BA) (i0 : Nat) (x0 : Fld) : List PV :=
  [.un, .str p1, .bx 0 0, .un, .un, iN (i0 : Int), iN (i0 : Int), .bx 0 4, .sl (Fld.rows p0.fields), iN ((List.length p0.fields) : Int), .bool true, .un, .un, .bx 0 0, iN p0.kind, .bool true, .bool true, .bx 0 4, .sl (Fld.rows p0.fields), iN (i0 : Int), .rf [.str x0.name, iN x0.v.kind, iN x0.v.n, .str x0.v.s, .sl (Val.rows x0.v.list), .sl (Fld.rows x0.v.fields)], .rf [.str x0.name, iN x0.v.kind, iN x0.v.n, .str x0.v.s, .sl (Val.rows x0.v.list), .sl (Fld.rows x0.v.fields)], .str x0.name, .str p1, .bool true, .bool true, .bx 0 4, .sl (Fld.rows p0.fields), iN (i0 : Int), .rf [.str x0.name, iN x0.v.kind, iN x0.v.n, .str x0.v.s, .sl (Val.rows x0.v.list), .sl (Fld.rows x0.v.fields)], .rf [iN x0.v.kind, iN x0.v.n, .str x0.v.s, .sl (Val.rows x0.v.list), .sl (Fld.rows x0.v.fields)], .agg [iN x0.v.kind, iN x0.v.n, .str x0.v.s, .sl (Val.rows x0.v.list), .sl (Fld.rows x0.v.fields)]]
def Qn9 (p0 : Val) (_p1 : BA) (_i0 : Nat) (_x0 : Fld) : List (Nat × List PV) :=
  [(0, (Val.cells p0)), (2, []), (3, [])]
theorem Q1dz (p0 : Val) (p1 : BA) (_H : Qbo p0 p1) (x0 : Fld) (i0 : Nat) (bF : p0.fields[i0]? = some x0) (_bR : i0 < List.length p0.fields) (bC : (decide ((i0 : Int) < ((List.length p0.fields) : Int))) = true) (h0 : (p0.kind == 5) = true) (h1 : (sEq x0.name p1) = true) : Qed p0 p1 (Qa1 p0 p1 i0) (.k1 x0.v) := by
 exact ⟨(envF (Qul p0 p1 i0 x0)), (zoF (Qn9 p0 p1 i0 x0)), Qh VOK.nil (x := (.ret, Qsj p0 p1 x0.v (envF (Qul p0 p1 i0 x0)) (zoF (Qn9 p0 p1 i0 x0)))) [hP 3 (Qs _ _ (Fld.Q5 p0.fields)), hB 0 bC, hB 2 h0, hP 4 (Q1l 6 _ i0 _ (Fld.Qb bF) rfl), hB 3 h1, hP 4 (Q1l 6 _ i0 _ (Fld.Qb bF) rfl)] [] (by kernel_rfl)⟩
theorem Q1be (p0 : Val) (p1 : BA) (H : Qbo p0 p1) (x0 : Fld) (i0 : Nat) (bF : p0.fields[i0]? = some x0) (bR : i0 < List.length p0.fields) (bC : (decide ((i0 : Int) < ((List.length p0.fields) : Int))) = true) (h0 : (p0.kind == 5) = true) (h1 : (sEq x0.name p1) = false) {r : Rs} (hr : Q0 G (Qa1 p0 p1 (i0 + 1)) r) : Q0 G (Qa1 p0 p1 i0) r := by
 have hB0 := H.1; have e0 := eq_of_beq h0
 exact Qc VOK.nil [hP 3 (Qs _ _ (Fld.Q5 p0.fields)), hB 0 bC, hB 2 h0, hP 4 (Q1l 6 _ i0 _ (Fld.Qb bF) rfl), hB 3 h1, hP 2 (Q26 i0 (by omega))] [] hr (by kernel_rfl)
theorem Q1bf (p0 : Val) (p1 : BA) (H : Qbo p0 p1) (x0 : Fld) (i0 : Nat) (_bF : p0.fields[i0]? = some x0) (bR : i0 < List.length p0.fields) (bC : (decide ((i0 : Int) < ((List.length p0.fields) : Int))) = true) (h0 : (p0.kind == 5) = false) {r : Rs} (hr : Q0 G (Qa1 p0 p1 (i0 + 1)) r) : Q0 G (Qa1 p0 p1 i0) r := by
 have hB0 := H.1; have e0 := beq_eq_false_iff_ne.1 h0
 exact Qc VOK.nil [hP 3 (Qs _ _ (Fld.Q5 p0.fields)), hB 0 bC, hB 2 h0, hP 11 (Q26 i0 (by omega))] [] hr (by kernel_rfl)
theorem Qop (p0 : Val) (p1 : BA) (H : Qbo p0 p1) : ∀ (r0 : List Fld) (i0 : Nat), List.drop i0 p0.fields = r0 → Qed p0 p1 (Qa1 p0 p1 i0) (Q5z p0 p1 r0 i0)
 | [], i0, hd => by
  have bC : (decide ((i0 : Int) < ((List.length p0.fields) : Int))) = false := by have := Q1o hd; simp; omega
  rw [Q5z]
  exact Q1dy p0 p1 H i0 bC
 | x0 :: r0, i0, hd => by
  obtain ⟨bF, bR, hd'⟩ := Q1p hd
  have bC : (decide ((i0 : Int) < ((List.length p0.fields) : Int))) = true := by simp; omega
  rw [Q5z]
  cases h0 : (p0.kind == 5) with
  | true =>
   cases h1 : (sEq x0.name p1) with
   | true =>
    exact Q1dz p0 p1 H x0 i0 bF bR bC h0 h1
   | false =>
    exact Qee p0 p1 (fun r hr => Q1be p0 p1 H x0 i0 bF bR bC h0 h1 hr) _ (Qop p0 p1 H r0 _ hd')
  | false =>
   exact Qee p0 p1 (fun r hr => Q1bf p0 p1 H x0 i0 bF bR bC h0 hr) _ (Qop p0 p1 H r0 _ hd')
def Q3t (p0 : Val) (p1 : BA) : Val := prt p0 p1
theorem Q1p2 (p0 : Val) (p1 : BA) (h : (p0.kind == 5) = true) : ∀ (l : List Fld) (i : Nat), (match Q5z p0 p1 l i with | .k0 => vZ | .k1 y => y) = Q120 p1 l
  | [], _ => by rw [Q5z]; rfl
  | x :: l, i => by
    rw [Q5z, h, cond_true, Q120]
    cases sEq x.name p1 with
    | true => rfl
    | false => exact Q1p2 p0 p1 h l (i + 1)
theorem Q1io (p0 : Val) (p1 : BA) (h : (p0.kind == 5) = false) : ∀ (l : List Fld) (i : Nat), (match Q5z p0 p1 l i with | .k0 => vZ | .k1 y => y) = vZ
  | [], _ => by rw [Q5z]
  | x :: l, i => by
    rw [Q5z, h, cond_false]
    exact Q1io p0 p1 h l (i + 1)
theorem Q2b2 (p0 : Val) (p1 : BA) : Q3t p0 p1 = ((match (Q5z p0 p1 p0.fields 0) with
  | .k0 => (Val.mk 0 0 eB [] [])
  | .k1 jh => jh)) := by
  unfold Q3t prt
  cases h : (p0.kind == 5) with
  | true => exact (Q1p2 p0 p1 h _ _).symm
  | false => exact (Q1io p0 p1 h _ _).symm
def Q27z (p0 : Val) (p1 : BA) : En := .call 203 [.agg (Val.cells p0), .str p1] []
def Q1x6 (p0 : Val) (p1 : BA) : Rs := .ret (.agg (Val.cells (Q3t p0 p1))) []
def Qpq (p0 : Val) : Prop := Val.Sm 1000000000 p0
theorem Q1lw (p0 : Val) (p1 : BA) (H : Qpq p0) : (Qbo p0 p1) ∧ True := by
  exact ⟨⟨Nat.le_trans H.all.2.1 (Nat.le_of_ble_eq_true rfl), trivial⟩, trivial⟩
theorem Qci (p0 : Val) (p1 : BA) (H : Qpq p0) : Q0 G (Q27z p0 p1) (Q1x6 p0 p1) := by
 unfold Q1x6
 rw [Q2b2]
 have hl0 := Qop p0 p1 ((Q1lw p0 p1 H).1) p0.fields 0 (by simp)
 cases hr0 : (Q5z p0 p1 p0.fields 0) with
 | k0 =>
  rw [hr0] at hl0
  obtain ⟨z0, fA, hl0⟩ := hl0
  exact Q7 (fn := Ir.K34) (by kernel_rfl) VOK.nil [] [aN hl0] (by kernel_rfl)
 | k1 jh =>
  rw [hr0] at hl0
  obtain ⟨z0, fA, hl0⟩ := hl0
  exact Q7 (fn := Ir.K34) (by kernel_rfl) VOK.nil [] [aN hl0] (by kernel_rfl)
def Q2z (p0 : Val) : Bool := isM p0
theorem Q2b1 (p0 : Val) : Q2z p0 = (bif (p0.kind == 5) then
    true
  else
    (p0.kind == 0)) := by
  unfold Q2z isM
  cases (p0.kind == 5) <;> rfl
def Q27y (p0 : Val) : En := .call 208 [.agg (Val.cells p0)] []
def Q1x5 (p0 : Val) : Rs := .ret (.bool (Q2z p0)) []
theorem Q9w (p0 : Val) : Q0 G (Q27y p0) (Q1x5 p0) := by
 unfold Q1x5
 rw [Q2b1]
 cases h0 : (p0.kind == 5) with
 | true =>
  exact Q7 (fn := Ir.K33) (by kernel_rfl) VOK.nil [hB 4 h0] [] (by kernel_rfl)
 | false =>
  exact Q7 (fn := Ir.K33) (by kernel_rfl) VOK.nil [hB 4 h0] [] (by kernel_rfl)
def Q1k (p0 : Val) (p1 : BA) : Int × Bool := dN p0 p1
theorem Q2b0 (p0 : Val) (p1 : BA) : Q1k p0 p1 = (bif ((Q3t p0 p1).kind == 2) then
    ((Q3t p0 p1).n, true)
  else
    (0, ((Q3t p0 p1).kind == 0))) := by
  rfl
def Q27x (p0 : Val) (p1 : BA) : En := .call 200 [.agg (Val.cells p0), .str p1] []
def Q1x4 (p0 : Val) (p1 : BA) : Rs := .ret (.tup [iN (Q1k p0 p1).1, .bool (Q1k p0 p1).2]) []
def Qkc (p0 : Val) : Prop := Val.Sm 1000000000 p0
theorem Q17g (p0 : Val) (_p1 : BA) (H : Qkc p0) : (Qpq p0) ∧ True := by
  exact ⟨H, trivial⟩
theorem Q7v (p0 : Val) (p1 : BA) (H : Qkc p0) : Q0 G (Q27x p0 p1) (Q1x4 p0 p1) := by
 unfold Q1x4
 rw [Q2b0]
 cases h0 : ((Q3t p0 p1).kind == 2) with
 | true =>
  exact Q7 (fn := Ir.K32) (by kernel_rfl) VOK.nil [hB 10 h0] [aN (Qci p0 p1 (Q17g p0 p1 H).1)] (by kernel_rfl)
 | false =>
  exact Q7 (fn := Ir.K32) (by kernel_rfl) VOK.nil [hB 10 h0] [aN (Qci p0 p1 (Q17g p0 p1 H).1)] (by kernel_rfl)
def Q1g (p0 : Val) (p1 : BA) : ByteArray × Bool := dS p0 p1
theorem Q2b4 (p0 : Val) (p1 : BA) : Q1g p0 p1 = (bif ((Q3t p0 p1).kind == 3) then
    ((Q3t p0 p1).s, true)
  else
    (eB, ((Q3t p0 p1).kind == 0))) := by
  rfl
def Q281 (p0 : Val) (p1 : BA) : En := .call 209 [.agg (Val.cells p0), .str p1] []
def Q1x8 (p0 : Val) (p1 : BA) : Rs := .ret (.tup [.str (Q1g p0 p1).1, .bool (Q1g p0 p1).2]) []
def Qpr (p0 : Val) : Prop := Val.Sm 1000000000 p0
theorem Q17i (p0 : Val) (_p1 : BA) (H : Qpr p0) : (Qpq p0) ∧ True := by
  exact ⟨H, trivial⟩
theorem Q6a (p0 : Val) (p1 : BA) (H : Qpr p0) : Q0 G (Q281 p0 p1) (Q1x8 p0 p1) := by
 unfold Q1x8
 rw [Q2b4]
 cases h0 : ((Q3t p0 p1).kind == 3) with
 | true =>
  exact Q7 (fn := Ir.K36) (by kernel_rfl) VOK.nil [hB 10 h0] [aN (Qci p0 p1 (Q17i p0 p1 H).1)] (by kernel_rfl)
 | false =>
  exact Q7 (fn := Ir.K36) (by kernel_rfl) VOK.nil [hB 10 h0] [aN (Qci p0 p1 (Q17i p0 p1 H).1)] (by kernel_rfl)
def Q2r (p0 : Val) (p1 : BA) : Bool × Bool := dB p0 p1
theorem Q2b8 (p0 : Val) (p1 : BA) : Q2r p0 p1 = (bif ((Q3t p0 p1).kind == 1) then
    ((!((Q3t p0 p1).n == 0)), true)
  else
    (false, ((Q3t p0 p1).kind == 0))) := by
  rfl
def Q285 (p0 : Val) (p1 : BA) : En := .call 204 [.agg (Val.cells p0), .str p1] []
def Q1xc (p0 : Val) (p1 : BA) : Rs := .ret (.tup [.bool (Q2r p0 p1).1, .bool (Q2r p0 p1).2]) []
def Q140 (p0 : Val) : Prop := Val.Sm 1000000000 p0
theorem Q17j (p0 : Val) (_p1 : BA) (H : Q140 p0) : (Qpq p0) ∧ True := by
  exact ⟨H, trivial⟩
theorem Qpg (p0 : Val) (p1 : BA) (H : Q140 p0) : Q0 G (Q285 p0 p1) (Q1xc p0 p1) := by
 unfold Q1xc
 rw [Q2b8]
 cases h0 : ((Q3t p0 p1).kind == 1) with
 | true =>
  exact Q7 (fn := Ir.K3a) (by kernel_rfl) VOK.nil [hB 10 h0] [aN (Qci p0 p1 (Q17j p0 p1 H).1)] (by kernel_rfl)
 | false =>
  exact Q7 (fn := Ir.K3a) (by kernel_rfl) VOK.nil [hB 10 h0] [aN (Qci p0 p1 (Q17j p0 p1 H).1)] (by kernel_rfl)
def Qd (p0 : Val) (p1 : BA) : List Val × Bool := dL p0 p1
theorem Q2az (p0 : Val) (p1 : BA) : Qd p0 p1 = (bif ((Q3t p0 p1).kind == 4) then
    ((Q3t p0 p1).list, true)
  else
    ([], ((Q3t p0 p1).kind == 0))) := by
  rfl
def Q27w (p0 : Val) (p1 : BA) : En := .call 207 [.agg (Val.cells p0), .str p1] []
def Q1x3 (p0 : Val) (p1 : BA) : Rs := .ret (.tup [.sl (Val.rows (Qd p0 p1).1), .bool (Qd p0 p1).2]) []
def Qgo (p0 : Val) : Prop := Val.Sm 1000000000 p0
theorem Q17f (p0 : Val) (_p1 : BA) (H : Qgo p0) : (Qpq p0) ∧ True := by
  exact ⟨H, trivial⟩
theorem Qfi (p0 : Val) (p1 : BA) (H : Qgo p0) : Q0 G (Q27w p0 p1) (Q1x3 p0 p1) := by
 unfold Q1x3
 rw [Q2az]
 cases h0 : ((Q3t p0 p1).kind == 4) with
 | true =>
  exact Q7 (fn := Ir.K31) (by kernel_rfl) VOK.nil [hB 10 h0] [aN (Qci p0 p1 (Q17f p0 p1 H).1)] (by kernel_rfl)
 | false =>
  exact Q7 (fn := Ir.K31) (by kernel_rfl) VOK.nil [hB 10 h0] [aN (Qci p0 p1 (Q17f p0 p1 H).1)] (by kernel_rfl)
def Q3v (p0 : Val) (p1 : BA) : bq × Bool := dT bq.dec p0 p1
theorem Q2bf (p0 : Val) (p1 : BA) : Q3v p0 p1 = (((bq.mk (Q1k (Q3t p0 p1) Q5o).1 (Q1k (Q3t p0 p1) Q4f).1 (Q1k (Q3t p0 p1) Q5p).1), ((((Q2z (Q3t p0 p1)) && (Q1k (Q3t p0 p1) Q5o).2) && (Q1k (Q3t p0 p1) Q5p).2) && (Q1k (Q3t p0 p1) Q4f).2))) := by
  rfl
def Q28b (p0 : Val) (p1 : BA) : En := .call 288 [.agg (Val.cells p0), .str p1] []
def Q1xj (p0 : Val) (p1 : BA) : Rs := .ret (.tup [.agg (bq.cells (Q3v p0 p1).1), .bool (Q3v p0 p1).2]) []
def Q1q0 (p0 : Val) : Prop := Val.Sm 1000000000 p0
theorem Qjz (p0 : Val) (p1 : BA) (H : Q1q0 p0) : (Qpq p0) ∧ (Qkc (Q3t p0 p1)) ∧ True := by
  repeat' with_reducible apply And.intro
  all_goals first | exact True.intro | exact H | exact Qg H _
theorem Qcj (p0 : Val) (p1 : BA) (H : Q1q0 p0) : Q0 G (Q28b p0 p1) (Q1xj p0 p1) := by
 unfold Q1xj
 rw [Q2bf]
 exact Q7 (fn := Ir.K3h) (by kernel_rfl) VOK.nil [hP 36 (Q6v (Q2z (Q3t p0 p1)) (.bool (Q1k (Q3t p0 p1) Q5o).2)), hP 0 (Q6w (Q2z (Q3t p0 p1)) (Q1k (Q3t p0 p1) Q5o).2), hP 1 (Q6v ((Q2z (Q3t p0 p1)) && (Q1k (Q3t p0 p1) Q5o).2) (.bool (Q1k (Q3t p0 p1) Q5p).2)), hP 0 (Q6w ((Q2z (Q3t p0 p1)) && (Q1k (Q3t p0 p1) Q5o).2) (Q1k (Q3t p0 p1) Q5p).2), hP 1 (Q6v (((Q2z (Q3t p0 p1)) && (Q1k (Q3t p0 p1) Q5o).2) && (Q1k (Q3t p0 p1) Q5p).2) (.bool (Q1k (Q3t p0 p1) Q4f).2)), hP 0 (Q6w (((Q2z (Q3t p0 p1)) && (Q1k (Q3t p0 p1) Q5o).2) && (Q1k (Q3t p0 p1) Q5p).2) (Q1k (Q3t p0 p1) Q4f).2)] [aN (Qci p0 p1 (Qjz p0 p1 H).1), aN (Q7v (Q3t p0 p1) Q5o (Qjz p0 p1 H).2.1), aN (Q7v (Q3t p0 p1) Q5p (Qjz p0 p1 H).2.1), aN (Q7v (Q3t p0 p1) Q4f (Qjz p0 p1 H).2.1), aN (Q9w (Q3t p0 p1))] (by kernel_rfl)
def Qpc (p0 : Val) : bg × Bool := bg.dec p0
theorem Q2bd (p0 : Val) : Qpc p0 = (((bg.mk (Q1k p0 Q3a).1 (Q1k p0 Q1z).1 (Q1k p0 Q3g).1 (Q1k p0 Q35).1), (((((Q2z p0) && (Q1k p0 Q3a).2) && (Q1k p0 Q35).2) && (Q1k p0 Q1z).2) && (Q1k p0 Q3g).2))) := by
  rfl
def Q289 (p0 : Val) : En := .call 290 [.agg (Val.cells p0)] []
def Q1xh (p0 : Val) : Rs := .ret (.tup [.agg (bg.cells (Qpc p0).1), .bool (Qpc p0).2]) []
def Q1py (p0 : Val) : Prop := Val.Sm 1000000000 p0
theorem Qjy (p0 : Val) (H : Q1py p0) : (Qkc p0) ∧ True := by
  repeat' with_reducible apply And.intro
  all_goals first | exact True.intro | exact H | exact Qg H _
theorem Q2fu (p0 : Val) (H : Q1py p0) : Q0 G (Q289 p0) (Q1xh p0) := by
 unfold Q1xh
 rw [Q2bd]
 exact Q7 (fn := Ir.K3f) (by kernel_rfl) VOK.nil [hP 39 (Q6v (Q2z p0) (.bool (Q1k p0 Q3a).2)), hP 0 (Q6w (Q2z p0) (Q1k p0 Q3a).2), hP 1 (Q6v ((Q2z p0) && (Q1k p0 Q3a).2) (.bool (Q1k p0 Q35).2)), hP 0 (Q6w ((Q2z p0) && (Q1k p0 Q3a).2) (Q1k p0 Q35).2), hP 1 (Q6v (((Q2z p0) && (Q1k p0 Q3a).2) && (Q1k p0 Q35).2) (.bool (Q1k p0 Q1z).2)), hP 0 (Q6w (((Q2z p0) && (Q1k p0 Q3a).2) && (Q1k p0 Q35).2) (Q1k p0 Q1z).2), hP 1 (Q6v ((((Q2z p0) && (Q1k p0 Q3a).2) && (Q1k p0 Q35).2) && (Q1k p0 Q1z).2) (.bool (Q1k p0 Q3g).2)), hP 0 (Q6w ((((Q2z p0) && (Q1k p0 Q3a).2) && (Q1k p0 Q35).2) && (Q1k p0 Q1z).2) (Q1k p0 Q3g).2)] [aN (Q7v p0 Q3a (Qjy p0 H).1), aN (Q7v p0 Q35 (Qjy p0 H).1), aN (Q7v p0 Q1z (Qjy p0 H).1), aN (Q7v p0 Q3g (Qjy p0 H).1), aN (Q9w p0)] (by kernel_rfl)
def Q6l (p0 : Val) (p1 : BA) : List Val → Nat → (List bg) → Bool → (List bg) × Bool
 | [], _i0, ah, ay =>
  (ah, ay)
 | x0 :: r0, i0, ah, ay =>
  Q6l p0 p1 r0 (i0 + 1) (ah ++ [(Qpc x0).1]) (ay && (Qpc x0).2)
def Q1ft (p0 : Val) (p1 : BA) (i0 : Nat) (ah : List bg) (ay : Bool) : List PV :=
  nuns 6 ++ [.sl (Val.rows (Qd p0 p1).1), .bool ay, .ms 0 4 0 (List.length ah), iN (i0 : Int)] ++ nuns 32
def Qzz (_p0 : Val) (_p1 : BA) (_i0 : Nat) (ah : List bg) (_ay : Bool) : List Ob :=
  [⟨4, 0, true, (bg.rows ah).flatten⟩]
def Qhn (p0 : Val) (p1 : BA) (i0 : Nat) (ah : List bg) (ay : Bool) : En := .loop 0 Ir.Qln Ir.Q1o8 (Q1ft p0 p1 i0 ah ay) (Qzz p0 p1 i0 ah ay)
def Qss (_p0 : Val) (_p1 : BA) (q0 : List bg) (q1 : Bool) (z : Nat → PV) (_zo : Nat → List PV) : St :=
  ⟨zr z 0 7 ++ [.bool q1, .ms 0 4 0 (List.length q0)] ++ zr z 9 33, [(0, ⟨4, 0, true, (bg.rows q0).flatten⟩)], 257⟩
theorem Q16g (p0 : Val) (p1 : BA) (i0 : Nat) (ah : List bg) (ay : Bool) : VOK (Go.Pv.look (number 0 (Qzz p0 p1 i0 ah ay))) [(0, bg.rows ah)] := (VOK.cons (show Seen _ _ from Q4a (ob := ⟨4, 0, true, (bg.rows ah).flatten⟩) (bg.Q8 ah 4 rfl)) VOK.nil)
def Qjg (p0 : Val) (p1 : BA) (e : En) (q : (List bg) × Bool) : Prop := ∃ z zo, Q0 G e (.st (.exit 0) (Qss p0 p1 q.1 q.2 z zo))
theorem Qxa (p0 : Val) (p1 : BA) {e e' : En} (h : ∀ r, Q0 G e r → Q0 G e' r) : ∀ q, Qjg p0 p1 e q → Qjg p0 p1 e' q
  | _, ⟨z, zo, hz⟩ => ⟨z, zo, h _ hz⟩
def Qdx (p0 : Val) (p1 : BA) : Prop := (List.length (Qd p0 p1).1 ≤ 137438953472) ∧ (∀ x0 ∈ (Qd p0 p1).1, Q1py x0) ∧ True
def Quu (p0 : Val) (p1 : BA) (i0 : Nat) (_ah : List bg) (_ay : Bool) : List PV :=
  nuns 6 ++ [.sl (Val.rows (Qd p0 p1).1), .un, .un, iN (i0 : Int)] ++ nuns 8 ++ [iN (i0 : Int), .sl (Val.rows (Qd p0 p1).1), iN ((List.length (Qd p0 p1).1) : Int), .bool false]
def Qni (_p0 : Val) (_p1 : BA) (_i0 : Nat) (_ah : List bg) (_ay : Bool) : List (Nat × List PV) :=
  []
theorem Q1e8 (p0 : Val) (p1 : BA) (_H : Qdx p0 p1) (i0 : Nat) (ah : List bg) (ay : Bool) (_aP : List.length ah ≤ i0) (bC : (decide ((i0 : Int) < ((List.length (Qd p0 p1).1) : Int))) = false) : Qjg p0 p1 (Qhn p0 p1 i0 ah ay) (ah, ay) := by
 exact ⟨(envF (Quu p0 p1 i0 ah ay)), (zoF (Qni p0 p1 i0 ah ay)), Qh (Q16g p0 p1 i0 ah ay) (x := ((.exit 0), Qss p0 p1 ah ay (envF (Quu p0 p1 i0 ah ay)) (zoF (Qni p0 p1 i0 ah ay)))) [hP 2 (Qs _ _ (Val.Q5 (Qd p0 p1).1)), hB 0 bC] [] (by kernel_rfl)⟩
theorem Q1bw (p0 : Val) (p1 : BA) (H : Qdx p0 p1) (x0 : Val) (i0 : Nat) (ah : List bg) (ay : Bool) (bF : (Qd p0 p1).1[i0]? = some x0) (bR : i0 < List.length (Qd p0 p1).1) (aP : List.length ah ≤ i0) (bC : (decide ((i0 : Int) < ((List.length (Qd p0 p1).1) : Int))) = true) {r : Rs} (hr : Q0 G (Qhn p0 p1 (i0 + 1) (ah ++ [(Qpc x0).1]) (ay && (Qpc x0).2)) r) : Q0 G (Qhn p0 p1 i0 ah ay) r := by
 have hB0 := H.1
 exact Qc (Q16g p0 p1 i0 ah ay) [hP 2 (Qs _ _ (Val.Q5 (Qd p0 p1).1)), hB 0 bC, hP 2 (Q1l 5 _ i0 _ (Val.Qb bF) rfl), hA 11 0 1089 1153 4 32 0 0 true bg.Q5 bg.Q1n ah (Qpc x0).1 (bg.Qw ah) rfl rfl (by omega), hS 0 true (bg.Q8 (ah ++ [(Qpc x0).1]) 4 rfl), hP 3 (Q6v ay (.bool (Qpc x0).2)), hP 0 (Q6w ay (Qpc x0).2), hP 2 (Q26 i0 (by omega))] [aN (Q2fu x0 (H.2.1 x0 (Q1i bF)))] hr (by kernel_rfl)
theorem Q12u (p0 : Val) (p1 : BA) (H : Qdx p0 p1) : ∀ (r0 : List Val) (i0 : Nat) (ah : List bg) (ay : Bool), List.drop i0 (Qd p0 p1).1 = r0 → List.length ah ≤ i0 → Qjg p0 p1 (Qhn p0 p1 i0 ah ay) (Q6l p0 p1 r0 i0 ah ay)
 | [], i0, ah, ay, hd, aP => by
  have bC : (decide ((i0 : Int) < ((List.length (Qd p0 p1).1) : Int))) = false := by have := Q1o hd; simp; omega
  rw [Q6l]
  exact Q1e8 p0 p1 H i0 ah ay aP bC
 | x0 :: r0, i0, ah, ay, hd, aP => by
  obtain ⟨bF, bR, hd'⟩ := Q1p hd
  have bC : (decide ((i0 : Int) < ((List.length (Qd p0 p1).1) : Int))) = true := by simp; omega
  rw [Q6l]
  exact Qxa p0 p1 (fun r hr => Q1bw p0 p1 H x0 i0 ah ay bF bR aP bC hr) _ (Q12u p0 p1 H r0 _ _ _ hd' (by first | omega | (simp; omega)))
def Q2s (p0 : Val) (p1 : BA) : List bg × Bool := dE bg.dec p0 p1
theorem Qyu (p0 : Val) (p1 : BA) : ∀ (l : List Val) (i : Nat) (a : List bg) (b : Bool), Q6l p0 p1 l i a b = (a ++ l.map (fun x => (bg.dec x).1), b && l.all fun x => (bg.dec x).2)
  | [], _, a, b => by rw [Q6l]; simp
  | x :: l, i, a, b => by
    rw [Q6l]
    cases b with
    | false => exact (Qyu p0 p1 l (i + 1) (a ++ [(bg.dec x).1]) false).trans (by simp only [List.append_assoc, List.singleton_append, List.map_cons, List.all_cons, Bool.false_and])
    | true => exact (Qyu p0 p1 l (i + 1) (a ++ [(bg.dec x).1]) (bg.dec x).2).trans (by simp only [List.append_assoc, List.singleton_append, List.map_cons, List.all_cons, Bool.true_and])
theorem Q2be (p0 : Val) (p1 : BA) : Q2s p0 p1 = (((Q6l p0 p1 (Qd p0 p1).1 0 [] (Qd p0 p1).2).1, (Q6l p0 p1 (Qd p0 p1).1 0 [] (Qd p0 p1).2).2)) := by
  rw [Qyu]
  rfl
def Q28a (p0 : Val) (p1 : BA) : En := .call 289 [.agg (Val.cells p0), .str p1] []
def Q1xi (p0 : Val) (p1 : BA) : Rs := .ret (.tup [.sl (bg.rows (Q2s p0 p1).1), .bool (Q2s p0 p1).2]) []
def Q1pz (p0 : Val) : Prop := Val.Sm 1000000000 p0
theorem Q17n (p0 : Val) (p1 : BA) (H : Q1pz p0) : (Qgo p0) ∧ (Qdx p0 p1) ∧ True := by
  have hl := Q71 (Qg H p1)
  have g : ∀ x ∈ (dL p0 p1).1, Val.Sm sB x := hl.2
  refine ⟨H, ?_, trivial⟩
  unfold Qdx
  refine ⟨Nat.le_trans hl.1 (Nat.le_of_ble_eq_true rfl), ?_⟩
  repeat' with_reducible apply And.intro
  all_goals first | exact True.intro | exact g
theorem Q8h (p0 : Val) (p1 : BA) (H : Q1pz p0) : Q0 G (Q28a p0 p1) (Q1xi p0 p1) := by
 unfold Q1xi
 rw [Q2be]
 have hl0 := Q12u p0 p1 ((Q17n p0 p1 H).2.1) (Qd p0 p1).1 0 [] (Qd p0 p1).2 (by simp) (by simp)
 obtain ⟨z0, fA, hl0⟩ := hl0
 exact Q7 (fn := Ir.K3g) (by kernel_rfl) VOK.nil [hS 0 true (bg.Q8 (Q6l p0 p1 (Qd p0 p1).1 0 [] (Qd p0 p1).2).1 4 rfl), hQ (bg.Q5 (Q6l p0 p1 (Qd p0 p1).1 0 [] (Qd p0 p1).2).1).symm] [aN (Qfi p0 p1 (Q17n p0 p1 H).1), aV [(0, bg.rows (Q6l p0 p1 (Qd p0 p1).1 0 [] (Qd p0 p1).2).1)] hl0] (by kernel_rfl)
def Qgu (p0 : Val) : aH × Bool := aH.dec p0
theorem Q2b9 (p0 : Val) : Qgu p0 = (bif (Q2z p0) then
    bif (Q1g p0 Qt).2 then
      bif (Q3v p0 Q1f).2 then
        bif (Q2s p0 Q2b).2 then
          bif (Q1g p0 Ql).2 then
            bif (Q2s p0 Q14).2 then
              bif (Q3v p0 Qe).2 then
                ((aH.mk (Q1g p0 Ql).1 (Q1g p0 Qt).1 (Q3v p0 Qe).1 (Q3v p0 Q1f).1 (Q2s p0 Q2b).1 (Q2s p0 Q14).1 (Q2s p0 Q1m).1), (Q2s p0 Q1m).2)
              else
                ((aH.mk (Q1g p0 Ql).1 (Q1g p0 Qt).1 (Q3v p0 Qe).1 (Q3v p0 Q1f).1 (Q2s p0 Q2b).1 (Q2s p0 Q14).1 (Q2s p0 Q1m).1), false)
            else
              ((aH.mk (Q1g p0 Ql).1 (Q1g p0 Qt).1 (Q3v p0 Qe).1 (Q3v p0 Q1f).1 (Q2s p0 Q2b).1 (Q2s p0 Q14).1 (Q2s p0 Q1m).1), false)
          else
            ((aH.mk (Q1g p0 Ql).1 (Q1g p0 Qt).1 (Q3v p0 Qe).1 (Q3v p0 Q1f).1 (Q2s p0 Q2b).1 (Q2s p0 Q14).1 (Q2s p0 Q1m).1), false)
        else
          ((aH.mk (Q1g p0 Ql).1 (Q1g p0 Qt).1 (Q3v p0 Qe).1 (Q3v p0 Q1f).1 (Q2s p0 Q2b).1 (Q2s p0 Q14).1 (Q2s p0 Q1m).1), false)
      else
        ((aH.mk (Q1g p0 Ql).1 (Q1g p0 Qt).1 (Q3v p0 Qe).1 (Q3v p0 Q1f).1 (Q2s p0 Q2b).1 (Q2s p0 Q14).1 (Q2s p0 Q1m).1), false)
    else
      ((aH.mk (Q1g p0 Ql).1 (Q1g p0 Qt).1 (Q3v p0 Qe).1 (Q3v p0 Q1f).1 (Q2s p0 Q2b).1 (Q2s p0 Q14).1 (Q2s p0 Q1m).1), false)
  else
    ((aH.mk (Q1g p0 Ql).1 (Q1g p0 Qt).1 (Q3v p0 Qe).1 (Q3v p0 Q1f).1 (Q2s p0 Q2b).1 (Q2s p0 Q14).1 (Q2s p0 Q1m).1), false)) := by
  simp only [Q1hc]
  refine Prod.ext rfl ?_
  simp only [Qgu, aH.dec, Q2z, Q1g, Q3v, Q2s, Bool.and_assoc]
def Q1l7 (p0 : Val) : En := .call 286 [.agg (Val.cells p0)] []
def Q1xd (p0 : Val) : Rs := .ret (.tup [.agg (aH.cells (Qgu p0).1), .bool (Qgu p0).2]) []
def Q1a0 (p0 : Val) : Prop := Val.Sm 1000000000 p0
theorem Q1y (p0 : Val) (H : Q1a0 p0) : (Qpr p0) ∧ (Q1q0 p0) ∧ (Q1pz p0) ∧ True := by
  repeat' with_reducible apply And.intro
  all_goals first | exact True.intro | exact H | exact Qg H _
theorem Q1rc (p0 : Val) (H : Q1a0 p0) (h0 : (Q2z p0) = true) (h1 : (Q1g p0 Qt).2 = true) : Q0 G (Q1l7 p0) (.ret (.tup [.agg (aH.cells (bif (Q3v p0 Q1f).2 then
   bif (Q2s p0 Q2b).2 then
     bif (Q1g p0 Ql).2 then
       bif (Q2s p0 Q14).2 then
        bif (Q3v p0 Qe).2 then
         ((aH.mk (Q1g p0 Ql).1 (Q1g p0 Qt).1 (Q3v p0 Qe).1 (Q3v p0 Q1f).1 (Q2s p0 Q2b).1 (Q2s p0 Q14).1 (Q2s p0 Q1m).1), (Q2s p0 Q1m).2)
        else
         ((aH.mk (Q1g p0 Ql).1 (Q1g p0 Qt).1 (Q3v p0 Qe).1 (Q3v p0 Q1f).1 (Q2s p0 Q2b).1 (Q2s p0 Q14).1 (Q2s p0 Q1m).1), false)
       else
        ((aH.mk (Q1g p0 Ql).1 (Q1g p0 Qt).1 (Q3v p0 Qe).1 (Q3v p0 Q1f).1 (Q2s p0 Q2b).1 (Q2s p0 Q14).1 (Q2s p0 Q1m).1), false)
     else
       ((aH.mk (Q1g p0 Ql).1 (Q1g p0 Qt).1 (Q3v p0 Qe).1 (Q3v p0 Q1f).1 (Q2s p0 Q2b).1 (Q2s p0 Q14).1 (Q2s p0 Q1m).1), false)
   else
     ((aH.mk (Q1g p0 Ql).1 (Q1g p0 Qt).1 (Q3v p0 Qe).1 (Q3v p0 Q1f).1 (Q2s p0 Q2b).1 (Q2s p0 Q14).1 (Q2s p0 Q1m).1), false)
 else
   ((aH.mk (Q1g p0 Ql).1 (Q1g p0 Qt).1 (Q3v p0 Qe).1 (Q3v p0 Q1f).1 (Q2s p0 Q2b).1 (Q2s p0 Q14).1 (Q2s p0 Q1m).1), false)).1), .bool (bif (Q3v p0 Q1f).2 then
   bif (Q2s p0 Q2b).2 then
     bif (Q1g p0 Ql).2 then
       bif (Q2s p0 Q14).2 then
        bif (Q3v p0 Qe).2 then
         ((aH.mk (Q1g p0 Ql).1 (Q1g p0 Qt).1 (Q3v p0 Qe).1 (Q3v p0 Q1f).1 (Q2s p0 Q2b).1 (Q2s p0 Q14).1 (Q2s p0 Q1m).1), (Q2s p0 Q1m).2)
        else
         ((aH.mk (Q1g p0 Ql).1 (Q1g p0 Qt).1 (Q3v p0 Qe).1 (Q3v p0 Q1f).1 (Q2s p0 Q2b).1 (Q2s p0 Q14).1 (Q2s p0 Q1m).1), false)
       else
        ((aH.mk (Q1g p0 Ql).1 (Q1g p0 Qt).1 (Q3v p0 Qe).1 (Q3v p0 Q1f).1 (Q2s p0 Q2b).1 (Q2s p0 Q14).1 (Q2s p0 Q1m).1), false)
     else
       ((aH.mk (Q1g p0 Ql).1 (Q1g p0 Qt).1 (Q3v p0 Qe).1 (Q3v p0 Q1f).1 (Q2s p0 Q2b).1 (Q2s p0 Q14).1 (Q2s p0 Q1m).1), false)
   else
     ((aH.mk (Q1g p0 Ql).1 (Q1g p0 Qt).1 (Q3v p0 Qe).1 (Q3v p0 Q1f).1 (Q2s p0 Q2b).1 (Q2s p0 Q14).1 (Q2s p0 Q1m).1), false)
 else
   ((aH.mk (Q1g p0 Ql).1 (Q1g p0 Qt).1 (Q3v p0 Qe).1 (Q3v p0 Q1f).1 (Q2s p0 Q2b).1 (Q2s p0 Q14).1 (Q2s p0 Q1m).1), false)).2]) []) := by
 cases h2 : (Q3v p0 Q1f).2 with
 | true =>
  cases h3 : (Q2s p0 Q2b).2 with
  | true =>
   cases h4 : (Q1g p0 Ql).2 with
   | true =>
    cases h5 : (Q2s p0 Q14).2 with
    | true =>
     cases h6 : (Q3v p0 Qe).2 with
     | true =>
      exact Q7 (fn := Ir.K3b) (by kernel_rfl) VOK.nil [hP 107 (decR (Q1g p0 Qt).2 true [448] h1), hP 3 (decR (Q3v p0 Q1f).2 true [448] h2), hP 3 (decR (Q2s p0 Q2b).2 true [448] h3), hP 3 (decR (Q1g p0 Ql).2 true [448] h4), hP 3 (decR (Q2s p0 Q14).2 true [448] h5), hP 3 (decR (Q3v p0 Qe).2 true [448] h6)] [aN (Q6a p0 Qt (Q1y p0 H).1), aN (Qcj p0 Q1f (Q1y p0 H).2.1), aN (Q8h p0 Q2b (Q1y p0 H).2.2.1), aN (Q6a p0 Ql (Q1y p0 H).1), aN (Q8h p0 Q14 (Q1y p0 H).2.2.1), aN (Qcj p0 Qe (Q1y p0 H).2.1), aN (Q8h p0 Q1m (Q1y p0 H).2.2.1), aB (Q9w p0) h0] (by kernel_rfl)
     | false =>
      exact Q7 (fn := Ir.K3b) (by kernel_rfl) VOK.nil [hP 107 (decR (Q1g p0 Qt).2 true [448] h1), hP 3 (decR (Q3v p0 Q1f).2 true [448] h2), hP 3 (decR (Q2s p0 Q2b).2 true [448] h3), hP 3 (decR (Q1g p0 Ql).2 true [448] h4), hP 3 (decR (Q2s p0 Q14).2 true [448] h5), hP 3 (decR (Q3v p0 Qe).2 false [448] h6)] [aN (Q6a p0 Qt (Q1y p0 H).1), aN (Qcj p0 Q1f (Q1y p0 H).2.1), aN (Q8h p0 Q2b (Q1y p0 H).2.2.1), aN (Q6a p0 Ql (Q1y p0 H).1), aN (Q8h p0 Q14 (Q1y p0 H).2.2.1), aN (Qcj p0 Qe (Q1y p0 H).2.1), aN (Q8h p0 Q1m (Q1y p0 H).2.2.1), aB (Q9w p0) h0] (by kernel_rfl)
    | false =>
     exact Q7 (fn := Ir.K3b) (by kernel_rfl) VOK.nil [hP 107 (decR (Q1g p0 Qt).2 true [448] h1), hP 3 (decR (Q3v p0 Q1f).2 true [448] h2), hP 3 (decR (Q2s p0 Q2b).2 true [448] h3), hP 3 (decR (Q1g p0 Ql).2 true [448] h4), hP 3 (decR (Q2s p0 Q14).2 false [448] h5)] [aN (Q6a p0 Qt (Q1y p0 H).1), aN (Qcj p0 Q1f (Q1y p0 H).2.1), aN (Q8h p0 Q2b (Q1y p0 H).2.2.1), aN (Q6a p0 Ql (Q1y p0 H).1), aN (Q8h p0 Q14 (Q1y p0 H).2.2.1), aN (Qcj p0 Qe (Q1y p0 H).2.1), aN (Q8h p0 Q1m (Q1y p0 H).2.2.1), aB (Q9w p0) h0] (by kernel_rfl)
   | false =>
    exact Q7 (fn := Ir.K3b) (by kernel_rfl) VOK.nil [hP 107 (decR (Q1g p0 Qt).2 true [448] h1), hP 3 (decR (Q3v p0 Q1f).2 true [448] h2), hP 3 (decR (Q2s p0 Q2b).2 true [448] h3), hP 3 (decR (Q1g p0 Ql).2 false [448] h4)] [aN (Q6a p0 Qt (Q1y p0 H).1), aN (Qcj p0 Q1f (Q1y p0 H).2.1), aN (Q8h p0 Q2b (Q1y p0 H).2.2.1), aN (Q6a p0 Ql (Q1y p0 H).1), aN (Q8h p0 Q14 (Q1y p0 H).2.2.1), aN (Qcj p0 Qe (Q1y p0 H).2.1), aN (Q8h p0 Q1m (Q1y p0 H).2.2.1), aB (Q9w p0) h0] (by kernel_rfl)
  | false =>
   exact Q7 (fn := Ir.K3b) (by kernel_rfl) VOK.nil [hP 107 (decR (Q1g p0 Qt).2 true [448] h1), hP 3 (decR (Q3v p0 Q1f).2 true [448] h2), hP 3 (decR (Q2s p0 Q2b).2 false [448] h3)] [aN (Q6a p0 Qt (Q1y p0 H).1), aN (Qcj p0 Q1f (Q1y p0 H).2.1), aN (Q8h p0 Q2b (Q1y p0 H).2.2.1), aN (Q6a p0 Ql (Q1y p0 H).1), aN (Q8h p0 Q14 (Q1y p0 H).2.2.1), aN (Qcj p0 Qe (Q1y p0 H).2.1), aN (Q8h p0 Q1m (Q1y p0 H).2.2.1), aB (Q9w p0) h0] (by kernel_rfl)
 | false =>
  exact Q7 (fn := Ir.K3b) (by kernel_rfl) VOK.nil [hP 107 (decR (Q1g p0 Qt).2 true [448] h1), hP 3 (decR (Q3v p0 Q1f).2 false [448] h2)] [aN (Q6a p0 Qt (Q1y p0 H).1), aN (Qcj p0 Q1f (Q1y p0 H).2.1), aN (Q8h p0 Q2b (Q1y p0 H).2.2.1), aN (Q6a p0 Ql (Q1y p0 H).1), aN (Q8h p0 Q14 (Q1y p0 H).2.2.1), aN (Qcj p0 Qe (Q1y p0 H).2.1), aN (Q8h p0 Q1m (Q1y p0 H).2.2.1), aB (Q9w p0) h0] (by kernel_rfl)
theorem Q1rd (p0 : Val) (H : Q1a0 p0) (h0 : (Q2z p0) = true) (h1 : (Q1g p0 Qt).2 = false) : Q0 G (Q1l7 p0) (.ret (.tup [.agg (aH.cells (((aH.mk (Q1g p0 Ql).1 (Q1g p0 Qt).1 (Q3v p0 Qe).1 (Q3v p0 Q1f).1 (Q2s p0 Q2b).1 (Q2s p0 Q14).1 (Q2s p0 Q1m).1), false)).1), .bool (((aH.mk (Q1g p0 Ql).1 (Q1g p0 Qt).1 (Q3v p0 Qe).1 (Q3v p0 Q1f).1 (Q2s p0 Q2b).1 (Q2s p0 Q14).1 (Q2s p0 Q1m).1), false)).2]) []) := by
 exact Q7 (fn := Ir.K3b) (by kernel_rfl) VOK.nil [hP 107 (decR (Q1g p0 Qt).2 false [448] h1)] [aN (Q6a p0 Qt (Q1y p0 H).1), aN (Qcj p0 Q1f (Q1y p0 H).2.1), aN (Q8h p0 Q2b (Q1y p0 H).2.2.1), aN (Q6a p0 Ql (Q1y p0 H).1), aN (Q8h p0 Q14 (Q1y p0 H).2.2.1), aN (Qcj p0 Qe (Q1y p0 H).2.1), aN (Q8h p0 Q1m (Q1y p0 H).2.2.1), aB (Q9w p0) h0] (by kernel_rfl)
theorem Q1re (p0 : Val) (H : Q1a0 p0) (h0 : (Q2z p0) = false) : Q0 G (Q1l7 p0) (.ret (.tup [.agg (aH.cells (((aH.mk (Q1g p0 Ql).1 (Q1g p0 Qt).1 (Q3v p0 Qe).1 (Q3v p0 Q1f).1 (Q2s p0 Q2b).1 (Q2s p0 Q14).1 (Q2s p0 Q1m).1), false)).1), .bool (((aH.mk (Q1g p0 Ql).1 (Q1g p0 Qt).1 (Q3v p0 Qe).1 (Q3v p0 Q1f).1 (Q2s p0 Q2b).1 (Q2s p0 Q14).1 (Q2s p0 Q1m).1), false)).2]) []) := by
 exact Q7 (fn := Ir.K3b) (by kernel_rfl) VOK.nil [] [aN (Q6a p0 Qt (Q1y p0 H).1), aN (Qcj p0 Q1f (Q1y p0 H).2.1), aN (Q8h p0 Q2b (Q1y p0 H).2.2.1), aN (Q6a p0 Ql (Q1y p0 H).1), aN (Q8h p0 Q14 (Q1y p0 H).2.2.1), aN (Qcj p0 Qe (Q1y p0 H).2.1), aN (Q8h p0 Q1m (Q1y p0 H).2.2.1), aB (Q9w p0) h0] (by kernel_rfl)
theorem Q2ft (p0 : Val) (H : Q1a0 p0) : Q0 G (Q1l7 p0) (Q1xd p0) := by
 unfold Q1xd
 rw [Q2b9]
 cases h0 : (Q2z p0) with
 | true =>
  cases h1 : (Q1g p0 Qt).2 with
  | true =>
   exact Q1rc p0 H h0 h1
  | false =>
   exact Q1rd p0 H h0 h1
 | false =>
  exact Q1re p0 H h0
def Q6k (p0 : Val) : List Val → Nat → (List aH) → Bool → (List aH) × Bool
 | [], _i0, ah, ay =>
  (ah, ay)
 | x0 :: r0, i0, ah, ay =>
  Q6k p0 r0 (i0 + 1) (ah ++ [(Qgu x0).1]) (ay && (Qgu x0).2)
def Q1fq (p0 : Val) (i0 : Nat) (ah : List aH) (ay : Bool) : List PV :=
  [.un, .un, .un, .un, .sl (Val.rows (Qd p0 Qq).1), .bool ay, .ms 0 11 0 (List.length ah), iN (i0 : Int)] ++ nuns 31
def Qzw (_p0 : Val) (_i0 : Nat) (ah : List aH) (_ay : Bool) : List Ob :=
  [⟨11, 0, true, (aH.rows ah).flatten⟩]
def Qhm (p0 : Val) (i0 : Nat) (ah : List aH) (ay : Bool) : En := .loop 0 Ir.Qlk Ir.Q1o5 (Q1fq p0 i0 ah ay) (Qzw p0 i0 ah ay)
def Qsp (_p0 : Val) (q0 : List aH) (q1 : Bool) (z : Nat → PV) (_zo : Nat → List PV) : St :=
  ⟨zr z 0 5 ++ [.bool q1, .ms 0 11 0 (List.length q0)] ++ zr z 7 32, [(0, ⟨11, 0, true, (aH.rows q0).flatten⟩)], 257⟩
theorem Q16f (p0 : Val) (i0 : Nat) (ah : List aH) (ay : Bool) : VOK (Go.Pv.look (number 0 (Qzw p0 i0 ah ay))) [(0, aH.rows ah)] := (VOK.cons (show Seen _ _ from Q4a (ob := ⟨11, 0, true, (aH.rows ah).flatten⟩) (aH.Q8 ah 11 rfl)) VOK.nil)
def Qjd (p0 : Val) (e : En) (q : (List aH) × Bool) : Prop := ∃ z zo, Q0 G e (.st (.exit 0) (Qsp p0 q.1 q.2 z zo))
theorem Qx9 (p0 : Val) {e e' : En} (h : ∀ r, Q0 G e r → Q0 G e' r) : ∀ q, Qjd p0 e q → Qjd p0 e' q
  | _, ⟨z, zo, hz⟩ => ⟨z, zo, h _ hz⟩
def Qdw (p0 : Val) : Prop := (List.length (Qd p0 Qq).1 ≤ 137438953472) ∧ (∀ x0 ∈ (Qd p0 Qq).1, Q1a0 x0) ∧ True
def Qur (p0 : Val) (i0 : Nat) (_ah : List aH) (_ay : Bool) : List PV :=
  [.un, .un, .un, .un, .sl (Val.rows (Qd p0 Qq).1), .un, .un, iN (i0 : Int)] ++ nuns 7 ++ [iN (i0 : Int), .sl (Val.rows (Qd p0 Qq).1), iN ((List.length (Qd p0 Qq).1) : Int), .bool false]
def Qnf (_p0 : Val) (_i0 : Nat) (_ah : List aH) (_ay : Bool) : List (Nat × List PV) :=
  []
theorem Q1e5 (p0 : Val) (_H : Qdw p0) (i0 : Nat) (ah : List aH) (ay : Bool) (_aP : List.length ah ≤ i0) (bC : (decide ((i0 : Int) < ((List.length (Qd p0 Qq).1) : Int))) = false) : Qjd p0 (Qhm p0 i0 ah ay) (ah, ay) := by
 exact ⟨(envF (Qur p0 i0 ah ay)), (zoF (Qnf p0 i0 ah ay)), Qh (Q16f p0 i0 ah ay) (x := ((.exit 0), Qsp p0 ah ay (envF (Qur p0 i0 ah ay)) (zoF (Qnf p0 i0 ah ay)))) [hP 2 (Qs _ _ (Val.Q5 (Qd p0 Qq).1)), hB 0 bC] [] (by kernel_rfl)⟩
theorem Q1br (p0 : Val) (H : Qdw p0) (x0 : Val) (i0 : Nat) (ah : List aH) (ay : Bool) (bF : (Qd p0 Qq).1[i0]? = some x0) (bR : i0 < List.length (Qd p0 Qq).1) (aP : List.length ah ≤ i0) (bC : (decide ((i0 : Int) < ((List.length (Qd p0 Qq).1) : Int))) = true) {r : Rs} (hr : Q0 G (Qhm p0 (i0 + 1) (ah ++ [(Qgu x0).1]) (ay && (Qgu x0).2)) r) : Q0 G (Qhm p0 i0 ah ay) r := by
 have hB0 := H.1
 exact Qc (Q16f p0 i0 ah ay) [hP 2 (Qs _ _ (Val.Q5 (Qd p0 Qq).1)), hB 0 bC, hP 2 (Q1l 5 _ i0 _ (Val.Qb bF) rfl), hA 11 0 1089 1153 11 152 0 0 true aH.Q5 aH.Q1n ah (Qgu x0).1 (aH.Qw ah) rfl rfl (by omega), hS 0 true (aH.Q8 (ah ++ [(Qgu x0).1]) 11 rfl), hP 3 (Q6v ay (.bool (Qgu x0).2)), hP 0 (Q6w ay (Qgu x0).2), hP 2 (Q26 i0 (by omega))] [aN (Q2ft x0 (H.2.1 x0 (Q1i bF)))] hr (by kernel_rfl)
theorem Q12t (p0 : Val) (H : Qdw p0) : ∀ (r0 : List Val) (i0 : Nat) (ah : List aH) (ay : Bool), List.drop i0 (Qd p0 Qq).1 = r0 → List.length ah ≤ i0 → Qjd p0 (Qhm p0 i0 ah ay) (Q6k p0 r0 i0 ah ay)
 | [], i0, ah, ay, hd, aP => by
  have bC : (decide ((i0 : Int) < ((List.length (Qd p0 Qq).1) : Int))) = false := by have := Q1o hd; simp; omega
  rw [Q6k]
  exact Q1e5 p0 H i0 ah ay aP bC
 | x0 :: r0, i0, ah, ay, hd, aP => by
  obtain ⟨bF, bR, hd'⟩ := Q1p hd
  have bC : (decide ((i0 : Int) < ((List.length (Qd p0 Qq).1) : Int))) = true := by simp; omega
  rw [Q6k]
  exact Qx9 p0 (fun r hr => Q1br p0 H x0 i0 ah ay bF bR aP bC hr) _ (Q12t p0 H r0 _ _ _ hd' (by first | omega | (simp; omega)))
def Qf9 (p0 : Val) : List aH × Bool := dE aH.dec p0 Qq
theorem Qyr (p0 : Val) : ∀ (l : List Val) (i : Nat) (a : List aH) (b : Bool), Q6k p0 l i a b = (a ++ l.map (fun x => (aH.dec x).1), b && l.all fun x => (aH.dec x).2)
  | [], _, a, b => by rw [Q6k]; simp
  | x :: l, i, a, b => by
    rw [Q6k]
    cases b with
    | false => exact (Qyr p0 l (i + 1) (a ++ [(aH.dec x).1]) false).trans (by simp only [List.append_assoc, List.singleton_append, List.map_cons, List.all_cons, Bool.false_and])
    | true => exact (Qyr p0 l (i + 1) (a ++ [(aH.dec x).1]) (aH.dec x).2).trans (by simp only [List.append_assoc, List.singleton_append, List.map_cons, List.all_cons, Bool.true_and])
theorem Q2ba (p0 : Val) : Qf9 p0 = (((Q6k p0 (Qd p0 Qq).1 0 [] (Qd p0 Qq).2).1, (Q6k p0 (Qd p0 Qq).1 0 [] (Qd p0 Qq).2).2)) := by
  rw [Qyr]
  rfl
def Q286 (p0 : Val) : En := .call 269 [.agg (Val.cells p0)] []
def Q1xe (p0 : Val) : Rs := .ret (.tup [.sl (aH.rows (Qf9 p0).1), .bool (Qf9 p0).2]) []
def Q1pv (p0 : Val) : Prop := Val.Sm 1000000000 p0
theorem Q17k (p0 : Val) (H : Q1pv p0) : (Qgo p0) ∧ (Qdw p0) ∧ True := by
  have hl := Q71 (Qg H Qq)
  have g : ∀ x ∈ (dL p0 Qq).1, Val.Sm sB x := hl.2
  refine ⟨H, ?_, trivial⟩
  unfold Qdw
  refine ⟨Nat.le_trans hl.1 (Nat.le_of_ble_eq_true rfl), ?_⟩
  repeat' with_reducible apply And.intro
  all_goals first | exact True.intro | exact g
theorem Q20j (p0 : Val) (H : Q1pv p0) : Q0 G (Q286 p0) (Q1xe p0) := by
 unfold Q1xe
 rw [Q2ba]
 have hl0 := Q12t p0 ((Q17k p0 H).2.1) (Qd p0 Qq).1 0 [] (Qd p0 Qq).2 (by simp) (by simp)
 obtain ⟨z0, fA, hl0⟩ := hl0
 exact Q7 (fn := Ir.K3c) (by kernel_rfl) VOK.nil [hS 0 true (aH.Q8 (Q6k p0 (Qd p0 Qq).1 0 [] (Qd p0 Qq).2).1 11 rfl), hQ (aH.Q5 (Q6k p0 (Qd p0 Qq).1 0 [] (Qd p0 Qq).2).1).symm] [aN (Qfi p0 Qq (Q17k p0 H).1), aV [(0, aH.rows (Q6k p0 (Qd p0 Qq).1 0 [] (Qd p0 Qq).2).1)] hl0] (by kernel_rfl)
def Q4m (p0 : Val) (p1 : BA) : List Val → Nat → (List ByteArray) → Bool → Nat → (List ByteArray) × Bool × Nat
 | [], _i0, ah, ay, bH =>
  (ah, ay, bH)
 | x0 :: r0, i0, ah, ay, bH =>
  bif (ay == true) then
   bif (x0.kind == 3) then
    bif (x0.kind == 0) then
     Q4m p0 p1 r0 (i0 + 1) (List.set (List.take bH ah ++ [x0.s]) i0 eB) true (List.length (List.take bH ah ++ [x0.s]))
    else
     Q4m p0 p1 r0 (i0 + 1) (List.take bH ah ++ [x0.s]) true (List.length (List.take bH ah ++ [x0.s]))
   else
    bif (x0.kind == 0) then
     Q4m p0 p1 r0 (i0 + 1) (List.set (List.take bH ah ++ [x0.s]) i0 eB) true (List.length (List.take bH ah ++ [x0.s]))
    else
     Q4m p0 p1 r0 (i0 + 1) (List.take bH ah ++ [x0.s]) false (List.length (List.take bH ah ++ [x0.s]))
  else
   bif (x0.kind == 0) then
    Q4m p0 p1 r0 (i0 + 1) (List.set (List.take bH ah ++ [x0.s]) i0 eB) false (List.length (List.take bH ah ++ [x0.s]))
   else
    Q4m p0 p1 r0 (i0 + 1) (List.take bH ah ++ [x0.s]) false (List.length (List.take bH ah ++ [x0.s]))
def Q1fn (p0 : Val) (p1 : BA) (i0 : Nat) (_ah : List ByteArray) (ay : Bool) (bH : Nat) : List PV :=
  nuns 6 ++ [.sl (Val.rows (Qd p0 p1).1), .bool ay, .ms 0 1 0 bH, iN (i0 : Int)] ++ nuns 48
def Qzu (_p0 : Val) (_p1 : BA) (_i0 : Nat) (ah : List ByteArray) (_ay : Bool) (_bH : Nat) : List Ob :=
  [⟨1, 0, true, (Q15 ah).flatten⟩]
def Q5l (p0 : Val) (p1 : BA) (i0 : Nat) (ah : List ByteArray) (ay : Bool) (bH : Nat) : En := .loop 0 Ir.Qlh Ir.Q1o2 (Q1fn p0 p1 i0 ah ay bH) (Qzu p0 p1 i0 ah ay bH)
def Qsl (_p0 : Val) (_p1 : BA) (q0 : List ByteArray) (q1 : Bool) (q2 : Nat) (z : Nat → PV) (_zo : Nat → List PV) : St :=
  ⟨zr z 0 7 ++ [.bool q1, .ms 0 1 0 q2] ++ zr z 9 49, [(0, ⟨1, 0, true, (Q15 q0).flatten⟩)], 257⟩
theorem Qa4 (p0 : Val) (p1 : BA) (i0 : Nat) (ah : List ByteArray) (ay : Bool) (bH : Nat) : VOK (Go.Pv.look (number 0 (Qzu p0 p1 i0 ah ay bH))) [(0, Q15 ah)] := (VOK.cons (show Seen _ _ from Q4a (ob := ⟨1, 0, true, (Q15 ah).flatten⟩) (Q39 ah 1 rfl)) VOK.nil)
def Qjb (p0 : Val) (p1 : BA) (e : En) (q : (List ByteArray) × Bool × Nat) : Prop := ∃ z zo, Q0 G e (.st (.exit 0) (Qsl p0 p1 q.1 q.2.1 q.2.2 z zo))
theorem Q5v (p0 : Val) (p1 : BA) {e e' : En} (h : ∀ r, Q0 G e r → Q0 G e' r) : ∀ q, Qjb p0 p1 e q → Qjb p0 p1 e' q
  | _, ⟨z, zo, hz⟩ => ⟨z, zo, h _ hz⟩
def Q7o (p0 : Val) (p1 : BA) : Prop := (List.length (Qd p0 p1).1 ≤ 137438953472) ∧ (∀ (i0 : Nat) (ah : List ByteArray) (ay : Bool) (bH : Nat) (x0 : Val), (Qd p0 p1).1[i0]? = some x0 → List.length ah ≤ i0 → bH = i0 → List.length (ah : List ByteArray) = i0 → (ay == true) = true → (x0.kind == 3) = true → (x0.kind == 0) = true → (List.length (List.take bH ah ++ [x0.s])) = (i0 + 1)) ∧ (∀ (i0 : Nat) (ah : List ByteArray) (ay : Bool) (bH : Nat) (x0 : Val), (Qd p0 p1).1[i0]? = some x0 → List.length ah ≤ i0 → bH = i0 → List.length (ah : List ByteArray) = i0 → (ay == true) = true → (x0.kind == 3) = true → (x0.kind == 0) = true → List.length ((List.set (List.take bH ah ++ [x0.s]) i0 eB) : List ByteArray) = (i0 + 1)) ∧ (∀ (i0 : Nat) (ah : List ByteArray) (ay : Bool) (bH : Nat) (x0 : Val), (Qd p0 p1).1[i0]? = some x0 → List.length ah ≤ i0 → bH = i0 → List.length (ah : List ByteArray) = i0 → (ay == true) = true → (x0.kind == 3) = true → (x0.kind == 0) = false → (List.length (List.take bH ah ++ [x0.s])) = (i0 + 1)) ∧ (∀ (i0 : Nat) (ah : List ByteArray) (ay : Bool) (bH : Nat) (x0 : Val), (Qd p0 p1).1[i0]? = some x0 → List.length ah ≤ i0 → bH = i0 → List.length (ah : List ByteArray) = i0 → (ay == true) = true → (x0.kind == 3) = true → (x0.kind == 0) = false → List.length ((List.take bH ah ++ [x0.s]) : List ByteArray) = (i0 + 1)) ∧ (∀ (i0 : Nat) (ah : List ByteArray) (ay : Bool) (bH : Nat) (x0 : Val), (Qd p0 p1).1[i0]? = some x0 → List.length ah ≤ i0 → bH = i0 → List.length (ah : List ByteArray) = i0 → (ay == true) = true → (x0.kind == 3) = false → (x0.kind == 0) = true → (List.length (List.take bH ah ++ [x0.s])) = (i0 + 1)) ∧ (∀ (i0 : Nat) (ah : List ByteArray) (ay : Bool) (bH : Nat) (x0 : Val), (Qd p0 p1).1[i0]? = some x0 → List.length ah ≤ i0 → bH = i0 → List.length (ah : List ByteArray) = i0 → (ay == true) = true → (x0.kind == 3) = false → (x0.kind == 0) = true → List.length ((List.set (List.take bH ah ++ [x0.s]) i0 eB) : List ByteArray) = (i0 + 1)) ∧ (∀ (i0 : Nat) (ah : List ByteArray) (ay : Bool) (bH : Nat) (x0 : Val), (Qd p0 p1).1[i0]? = some x0 → List.length ah ≤ i0 → bH = i0 → List.length (ah : List ByteArray) = i0 → (ay == true) = true → (x0.kind == 3) = false → (x0.kind == 0) = false → (List.length (List.take bH ah ++ [x0.s])) = (i0 + 1)) ∧ (∀ (i0 : Nat) (ah : List ByteArray) (ay : Bool) (bH : Nat) (x0 : Val), (Qd p0 p1).1[i0]? = some x0 → List.length ah ≤ i0 → bH = i0 → List.length (ah : List ByteArray) = i0 → (ay == true) = true → (x0.kind == 3) = false → (x0.kind == 0) = false → List.length ((List.take bH ah ++ [x0.s]) : List ByteArray) = (i0 + 1)) ∧ (∀ (i0 : Nat) (ah : List ByteArray) (ay : Bool) (bH : Nat) (x0 : Val), (Qd p0 p1).1[i0]? = some x0 → List.length ah ≤ i0 → bH = i0 → List.length (ah : List ByteArray) = i0 → (ay == true) = false → (x0.kind == 0) = true → (List.length (List.take bH ah ++ [x0.s])) = (i0 + 1)) ∧ (∀ (i0 : Nat) (ah : List ByteArray) (ay : Bool) (bH : Nat) (x0 : Val), (Qd p0 p1).1[i0]? = some x0 → List.length ah ≤ i0 → bH = i0 → List.length (ah : List ByteArray) = i0 → (ay == true) = false → (x0.kind == 0) = true → List.length ((List.set (List.take bH ah ++ [x0.s]) i0 eB) : List ByteArray) = (i0 + 1)) ∧ (∀ (i0 : Nat) (ah : List ByteArray) (ay : Bool) (bH : Nat) (x0 : Val), (Qd p0 p1).1[i0]? = some x0 → List.length ah ≤ i0 → bH = i0 → List.length (ah : List ByteArray) = i0 → (ay == true) = false → (x0.kind == 0) = false → (List.length (List.take bH ah ++ [x0.s])) = (i0 + 1)) ∧ (∀ (i0 : Nat) (ah : List ByteArray) (ay : Bool) (bH : Nat) (x0 : Val), (Qd p0 p1).1[i0]? = some x0 → List.length ah ≤ i0 → bH = i0 → List.length (ah : List ByteArray) = i0 → (ay == true) = false → (x0.kind == 0) = false → List.length ((List.take bH ah ++ [x0.s]) : List ByteArray) = (i0 + 1)) ∧ True
def Qun (p0 : Val) (p1 : BA) (i0 : Nat) (_ah : List ByteArray) (_ay : Bool) (_bH : Nat) : List PV :=
  nuns 6 ++ [.sl (Val.rows (Qd p0 p1).1), .un, .un, iN (i0 : Int)] ++ nuns 6 ++ [iN (i0 : Int), .sl (Val.rows (Qd p0 p1).1), iN ((List.length (Qd p0 p1).1) : Int), .bool false]
def Qnb (_p0 : Val) (_p1 : BA) (_i0 : Nat) (_ah : List ByteArray) (_ay : Bool) (_bH : Nat) : List (Nat × List PV) :=
  []
theorem Q1e1 (p0 : Val) (p1 : BA) (_H : Q7o p0 p1) (i0 : Nat) (ah : List ByteArray) (ay : Bool) (bH : Nat) (_aP : List.length ah ≤ i0) (_dA : bH = i0) (_dX : List.length (ah : List ByteArray) = i0) (bC : (decide ((i0 : Int) < ((List.length (Qd p0 p1).1) : Int))) = false) : Qjb p0 p1 (Q5l p0 p1 i0 ah ay bH) (ah, ay, bH) := by
 exact ⟨(envF (Qun p0 p1 i0 ah ay bH)), (zoF (Qnb p0 p1 i0 ah ay bH)), Qh (Qa4 p0 p1 i0 ah ay bH) (x := ((.exit 0), Qsl p0 p1 ah ay bH (envF (Qun p0 p1 i0 ah ay bH)) (zoF (Qnb p0 p1 i0 ah ay bH)))) [hP 2 (Qs _ _ (Val.Q5 (Qd p0 p1).1)), hB 0 bC] [] (by kernel_rfl)⟩
theorem Q1bi (p0 : Val) (p1 : BA) (H : Q7o p0 p1) (x0 : Val) (i0 : Nat) (ah : List ByteArray) (ay : Bool) (bH : Nat) (bF : (Qd p0 p1).1[i0]? = some x0) (_bR : i0 < List.length (Qd p0 p1).1) (_aP : List.length ah ≤ i0) (_dA : bH = i0) (_dX : List.length (ah : List ByteArray) = i0) (bC : (decide ((i0 : Int) < ((List.length (Qd p0 p1).1) : Int))) = true) (h0 : (ay == true) = true) (h1 : (x0.kind == 3) = true) (h2 : (x0.kind == 0) = true) {r : Rs} (hr : Q0 G (Q5l p0 p1 (i0 + 1) (List.set (List.take bH ah ++ [x0.s]) i0 eB) true (List.length (List.take bH ah ++ [x0.s]))) r) : Q0 G (Q5l p0 p1 i0 ah ay bH) r := by
 have hB0 := H.1; have e1 := eq_of_beq h1; have e2 := eq_of_beq h2
 exact Qc (Qa4 p0 p1 i0 ah ay bH) [hP 2 (Qs _ _ (Val.Q5 (Qd p0 p1).1)), hB 0 bC, hP 3 (Q1l 5 _ i0 _ (Val.Qb bF) rfl), hV 3 [(705, Q15 (List.take bH ah ++ [x0.s]))] (Qve 0 641 705 1 16 0 true (Q15 ah) (Q15 (List.take bH ah ++ [x0.s])) [.str x0.s] bH (List.length (List.take bH ah ++ [x0.s])) rfl (by rw [Q2d]; exact (by omega)) (Q2d (List.take bH ah ++ [x0.s])).symm (by rw [Q5t, Q7m]) (Q4o ah) rfl (by omega)), hS 0 true (Q39 (List.take bH ah ++ [x0.s]) 1 rfl), hB 1 (beqT h0), hP 3 (Q1l 5 _ i0 _ (Val.Qb bF) rfl), hB 2 h1, hP 12 (Q1l 5 _ i0 _ (Val.Qb bF) rfl), hB 2 h2, hP 2 (Qb4 705 1 (List.length (List.take bH ah ++ [x0.s])) (i0 : Int) i0 (by omega) (by omega) (by try simp only [List.length_append, List.length_cons, List.length_nil, List.length_take]; omega)), hV 0 [(705, Q15 (List.set (List.take bH ah ++ [x0.s]) i0 eB))] (Q1cs 705 1 true ((Q15 (List.take bH ah ++ [x0.s])).flatten) (Q15 (List.take bH ah ++ [x0.s])) (Q15 (List.set (List.take bH ah ++ [x0.s]) i0 eB)) 1 i0 0 (i0 * 1) _ (.str eB) rfl rfl (Q8m (Qb3 (List.take bH ah ++ [x0.s]) i0 eB (by try simp only [List.length_append, List.length_cons, List.length_nil, List.length_take]; omega))) (Q4o (List.take bH ah ++ [x0.s])) (by decide) rfl rfl (Qg4 (List.take bH ah ++ [x0.s]) i0 eB)), hS 0 true (Q39 (List.set (List.take bH ah ++ [x0.s]) i0 eB) 1 rfl), hP 1 (Q26 i0 (by omega))] [] hr (by kernel_rfl)
theorem Q1bj (p0 : Val) (p1 : BA) (H : Q7o p0 p1) (x0 : Val) (i0 : Nat) (ah : List ByteArray) (ay : Bool) (bH : Nat) (bF : (Qd p0 p1).1[i0]? = some x0) (bR : i0 < List.length (Qd p0 p1).1) (_aP : List.length ah ≤ i0) (dA : bH = i0) (dX : List.length (ah : List ByteArray) = i0) (bC : (decide ((i0 : Int) < ((List.length (Qd p0 p1).1) : Int))) = true) (h0 : (ay == true) = true) (h1 : (x0.kind == 3) = true) (h2 : (x0.kind == 0) = false) {r : Rs} (hr : Q0 G (Q5l p0 p1 (i0 + 1) (List.take bH ah ++ [x0.s]) true (List.length (List.take bH ah ++ [x0.s]))) r) : Q0 G (Q5l p0 p1 i0 ah ay bH) r := by
 have hB0 := H.1; have e1 := eq_of_beq h1; have e2 := beq_eq_false_iff_ne.1 h2
 exact Qc (Qa4 p0 p1 i0 ah ay bH) [hP 2 (Qs _ _ (Val.Q5 (Qd p0 p1).1)), hB 0 bC, hP 3 (Q1l 5 _ i0 _ (Val.Qb bF) rfl), hV 3 [(705, Q15 (List.take bH ah ++ [x0.s]))] (Qve 0 641 705 1 16 0 true (Q15 ah) (Q15 (List.take bH ah ++ [x0.s])) [.str x0.s] bH (List.length (List.take bH ah ++ [x0.s])) rfl (by rw [Q2d]; exact (by omega)) (Q2d (List.take bH ah ++ [x0.s])).symm (by rw [Q5t, Q7m]) (Q4o ah) rfl (by omega)), hS 0 true (Q39 (List.take bH ah ++ [x0.s]) 1 rfl), hB 1 (beqT h0), hP 3 (Q1l 5 _ i0 _ (Val.Qb bF) rfl), hB 2 h1, hP 12 (Q1l 5 _ i0 _ (Val.Qb bF) rfl), hB 2 h2, hP 1 (Q26 i0 (by omega))] [] hr (by kernel_rfl)
theorem Q1bk (p0 : Val) (p1 : BA) (H : Q7o p0 p1) (x0 : Val) (i0 : Nat) (ah : List ByteArray) (ay : Bool) (bH : Nat) (bF : (Qd p0 p1).1[i0]? = some x0) (bR : i0 < List.length (Qd p0 p1).1) (_aP : List.length ah ≤ i0) (dA : bH = i0) (dX : List.length (ah : List ByteArray) = i0) (bC : (decide ((i0 : Int) < ((List.length (Qd p0 p1).1) : Int))) = true) (h0 : (ay == true) = true) (h1 : (x0.kind == 3) = false) (h2 : (x0.kind == 0) = true) {r : Rs} (hr : Q0 G (Q5l p0 p1 (i0 + 1) (List.set (List.take bH ah ++ [x0.s]) i0 eB) true (List.length (List.take bH ah ++ [x0.s]))) r) : Q0 G (Q5l p0 p1 i0 ah ay bH) r := by
 have hB0 := H.1; have e1 := beq_eq_false_iff_ne.1 h1; have e2 := eq_of_beq h2
 exact Qc (Qa4 p0 p1 i0 ah ay bH) [hP 2 (Qs _ _ (Val.Q5 (Qd p0 p1).1)), hB 0 bC, hP 3 (Q1l 5 _ i0 _ (Val.Qb bF) rfl), hV 3 [(705, Q15 (List.take bH ah ++ [x0.s]))] (Qve 0 641 705 1 16 0 true (Q15 ah) (Q15 (List.take bH ah ++ [x0.s])) [.str x0.s] bH (List.length (List.take bH ah ++ [x0.s])) rfl (by rw [Q2d]; exact (by omega)) (Q2d (List.take bH ah ++ [x0.s])).symm (by rw [Q5t, Q7m]) (Q4o ah) rfl (by omega)), hS 0 true (Q39 (List.take bH ah ++ [x0.s]) 1 rfl), hB 1 (beqT h0), hP 3 (Q1l 5 _ i0 _ (Val.Qb bF) rfl), hB 2 h1, hP 3 (Q1l 5 _ i0 _ (Val.Qb bF) rfl), hB 2 h2, hP 5 (Q1l 5 _ i0 _ (Val.Qb bF) rfl), hB 2 h2, hP 2 (Qb4 705 1 (List.length (List.take bH ah ++ [x0.s])) (i0 : Int) i0 (by omega) (by omega) (by try simp only [List.length_append, List.length_cons, List.length_nil, List.length_take]; omega)), hV 0 [(705, Q15 (List.set (List.take bH ah ++ [x0.s]) i0 eB))] (Q1cs 705 1 true ((Q15 (List.take bH ah ++ [x0.s])).flatten) (Q15 (List.take bH ah ++ [x0.s])) (Q15 (List.set (List.take bH ah ++ [x0.s]) i0 eB)) 1 i0 0 (i0 * 1) _ (.str eB) rfl rfl (Q8m (Qb3 (List.take bH ah ++ [x0.s]) i0 eB (by try simp only [List.length_append, List.length_cons, List.length_nil, List.length_take]; omega))) (Q4o (List.take bH ah ++ [x0.s])) (by decide) rfl rfl (Qg4 (List.take bH ah ++ [x0.s]) i0 eB)), hS 0 true (Q39 (List.set (List.take bH ah ++ [x0.s]) i0 eB) 1 rfl), hP 1 (Q26 i0 (by omega))] [] hr (by kernel_rfl)
theorem Q1bl (p0 : Val) (p1 : BA) (H : Q7o p0 p1) (x0 : Val) (i0 : Nat) (ah : List ByteArray) (ay : Bool) (bH : Nat) (bF : (Qd p0 p1).1[i0]? = some x0) (bR : i0 < List.length (Qd p0 p1).1) (_aP : List.length ah ≤ i0) (dA : bH = i0) (dX : List.length (ah : List ByteArray) = i0) (bC : (decide ((i0 : Int) < ((List.length (Qd p0 p1).1) : Int))) = true) (h0 : (ay == true) = true) (h1 : (x0.kind == 3) = false) (h2 : (x0.kind == 0) = false) {r : Rs} (hr : Q0 G (Q5l p0 p1 (i0 + 1) (List.take bH ah ++ [x0.s]) false (List.length (List.take bH ah ++ [x0.s]))) r) : Q0 G (Q5l p0 p1 i0 ah ay bH) r := by
 have hB0 := H.1; have e1 := beq_eq_false_iff_ne.1 h1; have e2 := beq_eq_false_iff_ne.1 h2
 exact Qc (Qa4 p0 p1 i0 ah ay bH) [hP 2 (Qs _ _ (Val.Q5 (Qd p0 p1).1)), hB 0 bC, hP 3 (Q1l 5 _ i0 _ (Val.Qb bF) rfl), hV 3 [(705, Q15 (List.take bH ah ++ [x0.s]))] (Qve 0 641 705 1 16 0 true (Q15 ah) (Q15 (List.take bH ah ++ [x0.s])) [.str x0.s] bH (List.length (List.take bH ah ++ [x0.s])) rfl (by rw [Q2d]; exact (by omega)) (Q2d (List.take bH ah ++ [x0.s])).symm (by rw [Q5t, Q7m]) (Q4o ah) rfl (by omega)), hS 0 true (Q39 (List.take bH ah ++ [x0.s]) 1 rfl), hB 1 (beqT h0), hP 3 (Q1l 5 _ i0 _ (Val.Qb bF) rfl), hB 2 h1, hP 3 (Q1l 5 _ i0 _ (Val.Qb bF) rfl), hB 2 h2, hP 5 (Q1l 5 _ i0 _ (Val.Qb bF) rfl), hB 2 h2, hP 1 (Q26 i0 (by omega))] [] hr (by kernel_rfl)
theorem Q1bm (p0 : Val) (p1 : BA) (H : Q7o p0 p1) (x0 : Val) (i0 : Nat) (ah : List ByteArray) (ay : Bool) (bH : Nat) (bF : (Qd p0 p1).1[i0]? = some x0) (bR : i0 < List.length (Qd p0 p1).1) (_aP : List.length ah ≤ i0) (dA : bH = i0) (dX : List.length (ah : List ByteArray) = i0) (bC : (decide ((i0 : Int) < ((List.length (Qd p0 p1).1) : Int))) = true) (h0 : (ay == true) = false) (h1 : (x0.kind == 0) = true) {r : Rs} (hr : Q0 G (Q5l p0 p1 (i0 + 1) (List.set (List.take bH ah ++ [x0.s]) i0 eB) false (List.length (List.take bH ah ++ [x0.s]))) r) : Q0 G (Q5l p0 p1 i0 ah ay bH) r := by
 have hB0 := H.1; have e1 := eq_of_beq h1
 exact Qc (Qa4 p0 p1 i0 ah ay bH) [hP 2 (Qs _ _ (Val.Q5 (Qd p0 p1).1)), hB 0 bC, hP 3 (Q1l 5 _ i0 _ (Val.Qb bF) rfl), hV 3 [(705, Q15 (List.take bH ah ++ [x0.s]))] (Qve 0 641 705 1 16 0 true (Q15 ah) (Q15 (List.take bH ah ++ [x0.s])) [.str x0.s] bH (List.length (List.take bH ah ++ [x0.s])) rfl (by rw [Q2d]; exact (by omega)) (Q2d (List.take bH ah ++ [x0.s])).symm (by rw [Q5t, Q7m]) (Q4o ah) rfl (by omega)), hS 0 true (Q39 (List.take bH ah ++ [x0.s]) 1 rfl), hB 1 (beqT h0), hP 19 (Q1l 5 _ i0 _ (Val.Qb bF) rfl), hB 2 h1, hP 2 (Qb4 705 1 (List.length (List.take bH ah ++ [x0.s])) (i0 : Int) i0 (by omega) (by omega) (by try simp only [List.length_append, List.length_cons, List.length_nil, List.length_take]; omega)), hV 0 [(705, Q15 (List.set (List.take bH ah ++ [x0.s]) i0 eB))] (Q1cs 705 1 true ((Q15 (List.take bH ah ++ [x0.s])).flatten) (Q15 (List.take bH ah ++ [x0.s])) (Q15 (List.set (List.take bH ah ++ [x0.s]) i0 eB)) 1 i0 0 (i0 * 1) _ (.str eB) rfl rfl (Q8m (Qb3 (List.take bH ah ++ [x0.s]) i0 eB (by try simp only [List.length_append, List.length_cons, List.length_nil, List.length_take]; omega))) (Q4o (List.take bH ah ++ [x0.s])) (by decide) rfl rfl (Qg4 (List.take bH ah ++ [x0.s]) i0 eB)), hS 0 true (Q39 (List.set (List.take bH ah ++ [x0.s]) i0 eB) 1 rfl), hP 1 (Q26 i0 (by omega))] [] hr (by kernel_rfl)
theorem Q1bn (p0 : Val) (p1 : BA) (H : Q7o p0 p1) (x0 : Val) (i0 : Nat) (ah : List ByteArray) (ay : Bool) (bH : Nat) (bF : (Qd p0 p1).1[i0]? = some x0) (bR : i0 < List.length (Qd p0 p1).1) (_aP : List.length ah ≤ i0) (dA : bH = i0) (dX : List.length (ah : List ByteArray) = i0) (bC : (decide ((i0 : Int) < ((List.length (Qd p0 p1).1) : Int))) = true) (h0 : (ay == true) = false) (h1 : (x0.kind == 0) = false) {r : Rs} (hr : Q0 G (Q5l p0 p1 (i0 + 1) (List.take bH ah ++ [x0.s]) false (List.length (List.take bH ah ++ [x0.s]))) r) : Q0 G (Q5l p0 p1 i0 ah ay bH) r := by
 have hB0 := H.1; have e1 := beq_eq_false_iff_ne.1 h1
 exact Qc (Qa4 p0 p1 i0 ah ay bH) [hP 2 (Qs _ _ (Val.Q5 (Qd p0 p1).1)), hB 0 bC, hP 3 (Q1l 5 _ i0 _ (Val.Qb bF) rfl), hV 3 [(705, Q15 (List.take bH ah ++ [x0.s]))] (Qve 0 641 705 1 16 0 true (Q15 ah) (Q15 (List.take bH ah ++ [x0.s])) [.str x0.s] bH (List.length (List.take bH ah ++ [x0.s])) rfl (by rw [Q2d]; exact (by omega)) (Q2d (List.take bH ah ++ [x0.s])).symm (by rw [Q5t, Q7m]) (Q4o ah) rfl (by omega)), hS 0 true (Q39 (List.take bH ah ++ [x0.s]) 1 rfl), hB 1 (beqT h0), hP 19 (Q1l 5 _ i0 _ (Val.Qb bF) rfl), hB 2 h1, hP 1 (Q26 i0 (by omega))] [] hr (by kernel_rfl)
theorem Q8s (p0 : Val) (p1 : BA) (H : Q7o p0 p1) : ∀ (r0 : List Val) (i0 : Nat) (ah : List ByteArray) (ay : Bool) (bH : Nat), List.drop i0 (Qd p0 p1).1 = r0 → List.length ah ≤ i0 → bH = i0 → List.length (ah : List ByteArray) = i0 → Qjb p0 p1 (Q5l p0 p1 i0 ah ay bH) (Q4m p0 p1 r0 i0 ah ay bH)
 | [], i0, ah, ay, bH, hd, aP, dA, dX => by
  have bC : (decide ((i0 : Int) < ((List.length (Qd p0 p1).1) : Int))) = false := by have := Q1o hd; simp; omega
  rw [Q4m]
  exact Q1e1 p0 p1 H i0 ah ay bH aP dA dX bC
 | x0 :: r0, i0, ah, ay, bH, hd, aP, dA, dX => by
  obtain ⟨bF, bR, hd'⟩ := Q1p hd
  have bC : (decide ((i0 : Int) < ((List.length (Qd p0 p1).1) : Int))) = true := by simp; omega
  rw [Q4m]
  cases h0 : (ay == true) with
  | true =>
   cases h1 : (x0.kind == 3) with
   | true =>
    have e1 := eq_of_beq h1
    cases h2 : (x0.kind == 0) with
    | true =>
     have e2 := eq_of_beq h2
     exact Q5v p0 p1 (fun r hr => Q1bi p0 p1 H x0 i0 ah ay bH bF bR aP dA dX bC h0 h1 h2 hr) _ (Q8s p0 p1 H r0 _ _ _ _ hd' (by first | omega | (simp; omega)) ((H.2.1 i0 ah ay bH x0 bF aP dA dX) h0 h1 h2) ((H.2.2.1 i0 ah ay bH x0 bF aP dA dX) h0 h1 h2))
    | false =>
     have e2 := beq_eq_false_iff_ne.1 h2
     exact Q5v p0 p1 (fun r hr => Q1bj p0 p1 H x0 i0 ah ay bH bF bR aP dA dX bC h0 h1 h2 hr) _ (Q8s p0 p1 H r0 _ _ _ _ hd' (by first | omega | (simp; omega)) ((H.2.2.2.1 i0 ah ay bH x0 bF aP dA dX) h0 h1 h2) ((H.2.2.2.2.1 i0 ah ay bH x0 bF aP dA dX) h0 h1 h2))
   | false =>
    have e1 := beq_eq_false_iff_ne.1 h1
    cases h2 : (x0.kind == 0) with
    | true =>
     have e2 := eq_of_beq h2
     exact Q5v p0 p1 (fun r hr => Q1bk p0 p1 H x0 i0 ah ay bH bF bR aP dA dX bC h0 h1 h2 hr) _ (Q8s p0 p1 H r0 _ _ _ _ hd' (by first | omega | (simp; omega)) ((H.2.2.2.2.2.1 i0 ah ay bH x0 bF aP dA dX) h0 h1 h2) ((H.2.2.2.2.2.2.1 i0 ah ay bH x0 bF aP dA dX) h0 h1 h2))
    | false =>
     have e2 := beq_eq_false_iff_ne.1 h2
     exact Q5v p0 p1 (fun r hr => Q1bl p0 p1 H x0 i0 ah ay bH bF bR aP dA dX bC h0 h1 h2 hr) _ (Q8s p0 p1 H r0 _ _ _ _ hd' (by first | omega | (simp; omega)) ((H.2.2.2.2.2.2.2.1 i0 ah ay bH x0 bF aP dA dX) h0 h1 h2) ((H.2.2.2.2.2.2.2.2.1 i0 ah ay bH x0 bF aP dA dX) h0 h1 h2))
  | false =>
   cases h1 : (x0.kind == 0) with
   | true =>
    have e1 := eq_of_beq h1
    exact Q5v p0 p1 (fun r hr => Q1bm p0 p1 H x0 i0 ah ay bH bF bR aP dA dX bC h0 h1 hr) _ (Q8s p0 p1 H r0 _ _ _ _ hd' (by first | omega | (simp; omega)) ((H.2.2.2.2.2.2.2.2.2.1 i0 ah ay bH x0 bF aP dA dX) h0 h1) ((H.2.2.2.2.2.2.2.2.2.2.1 i0 ah ay bH x0 bF aP dA dX) h0 h1))
   | false =>
    have e1 := beq_eq_false_iff_ne.1 h1
    exact Q5v p0 p1 (fun r hr => Q1bn p0 p1 H x0 i0 ah ay bH bF bR aP dA dX bC h0 h1 hr) _ (Q8s p0 p1 H r0 _ _ _ _ hd' (by first | omega | (simp; omega)) ((H.2.2.2.2.2.2.2.2.2.2.2.1 i0 ah ay bH x0 bF aP dA dX) h0 h1) ((H.2.2.2.2.2.2.2.2.2.2.2.2.1 i0 ah ay bH x0 bF aP dA dX) h0 h1))
def Qdb (p0 : Val) (p1 : BA) : List ByteArray × Bool := dE rS p0 p1
theorem Q1v7 {x : Val} (h3 : (x.kind == 3) = true) (h0 : (x.kind == 0) = true) : False := by
  have a := eq_of_beq h3
  have b := eq_of_beq h0
  omega
theorem Qp4 (p0 : Val) (p1 : BA) : ∀ (l : List Val) (i : Nat) (a : List ByteArray) (b : Bool) (n : Nat), a.length = i → n = i → Q4m p0 p1 l i a b n = (a ++ l.map (fun x => (rS x).1), b && l.all (fun x => (rS x).2), i + l.length)
  | [], i, a, b, n, ha, hn => by rw [Q4m, hn]; simp
  | x :: l, i, a, b, n, ha, hn => by
    have ht : List.take n a = a := by rw [hn, ← ha, List.take_length]
    have hs : List.set (a ++ [x.s]) i eB = a ++ [⟨#[]⟩] := by rw [List.set_append_right _ _ (by omega), ← ha, Nat.sub_self]; rfl
    have hl : (a ++ [x.s]).length = i + 1 := by rw [List.length_append, ha]; rfl
    have hl' : (a ++ [eB]).length = i + 1 := by rw [List.length_append, ha]; rfl
    have step : ∀ (y : BA) (c : Bool), (a ++ [y]).length = i + 1 → (rS x) = (y, c) → Q4m p0 p1 l (i + 1) (a ++ [y]) (b && c) (i + 1) = (a ++ (x :: l).map (fun x => (rS x).1), b && (x :: l).all (fun x => (rS x).2), i + (x :: l).length) := by
      intro y c hy he
      rw [Qp4 p0 p1 l (i + 1) (a ++ [y]) (b && c) (i + 1) hy rfl, List.map_cons, List.all_cons, he]
      simp only [List.append_assoc, List.singleton_append, Bool.and_assoc, List.length_cons, Nat.add_assoc, Nat.add_comm 1]
    rw [Q4m, ht, hs, hl]
    cases h3 : (x.kind == 3) with
    | true =>
      cases h0 : (x.kind == 0) with
      | true => exact (Q1v7 h3 h0).elim
      | false =>
        have := step x.s true hl (by unfold rS; rw [h3, h0]; rfl)
        cases b <;> exact this
    | false =>
      cases h0 : (x.kind == 0) with
      | true =>
        have := step ⟨#[]⟩ true hl' (by unfold rS; rw [h3, h0]; rfl)
        cases b <;> exact this
      | false =>
        have := step x.s false hl (by unfold rS; rw [h3, h0]; rfl)
        cases b <;> exact this
theorem Q2b5 (p0 : Val) (p1 : BA) : Qdb p0 p1 = (((Q4m p0 p1 (Qd p0 p1).1 0 [] (Qd p0 p1).2 0).1, (Q4m p0 p1 (Qd p0 p1).1 0 [] (Qd p0 p1).2 0).2.1)) := by
  rw [Qp4 p0 p1 _ 0 [] _ 0 rfl rfl]
  rfl
def Q282 (p0 : Val) (p1 : BA) : En := .call 231 [.agg (Val.cells p0), .str p1] []
def Q1x9 (p0 : Val) (p1 : BA) : Rs := .ret (.tup [.sl (Q15 (Qdb p0 p1).1), .bool (Qdb p0 p1).2]) []
def Q1ps (p0 : Val) : Prop := Val.Sm 1000000000 p0
theorem Qeu (p0 : Val) (p1 : BA) (H : Q1ps p0) : (Qgo p0) ∧ (Q7o p0 p1) ∧ (0 = 0) ∧ (List.length ([] : List ByteArray) = 0) ∧ ((Q4m p0 p1 (Qd p0 p1).1 0 [] (Qd p0 p1).2 0).2.2 = List.length (Q4m p0 p1 (Qd p0 p1).1 0 [] (Qd p0 p1).2 0).1) ∧ True := by
  have hl := Q71 (Qg H p1)
  refine ⟨H, ?_, rfl, rfl, ?_, trivial⟩
  · unfold Q7o
    refine ⟨Nat.le_trans hl.1 (Nat.le_of_ble_eq_true rfl), ?_⟩
    repeat' with_reducible apply And.intro
    all_goals first | exact True.intro | (intro i0 ah ay bH x0 hx h1 h2 h3 h4 h5 h6; simp [h2, h3]) | (intro i0 ah ay bH x0 hx h1 h2 h3 h4 h5; simp [h2, h3])
  · rw [Qp4 p0 p1 _ 0 [] _ 0 rfl rfl]
    simp
theorem Q20i (p0 : Val) (p1 : BA) (H : Q1ps p0) : Q0 G (Q282 p0 p1) (Q1x9 p0 p1) := by
 unfold Q1x9
 rw [Q2b5]
 have hl0 := Q8s p0 p1 ((Qeu p0 p1 H).2.1) (Qd p0 p1).1 0 [] (Qd p0 p1).2 0 (by simp) (by simp) ((Qeu p0 p1 H).2.2.1) ((Qeu p0 p1 H).2.2.2.1)
 obtain ⟨z0, fA, hl0⟩ := hl0
 exact Q7 (fn := Ir.K37) (by kernel_rfl) VOK.nil [hS 0 true (Q39 (Q4m p0 p1 (Qd p0 p1).1 0 [] (Qd p0 p1).2 0).1 1 rfl), hQ (((Qeu p0 p1 H).2.2.2.2.1).trans (Q2d (Q4m p0 p1 (Qd p0 p1).1 0 [] (Qd p0 p1).2 0).1).symm)] [aN (Qfi p0 p1 (Qeu p0 p1 H).1), aV [(0, Q15 (Q4m p0 p1 (Qd p0 p1).1 0 [] (Qd p0 p1).2 0).1)] hl0] (by kernel_rfl)
def Q60 (p0 : Val) (p1 : BA) : List Val → Nat → (List au) → Bool → (List au) × Bool
 | [], _i0, ah, ay =>
  (ah, ay)
 | x0 :: r0, i0, ah, ay =>
  bif (ay == true) then
   Q60 p0 p1 r0 (i0 + 1) (ah ++ [(au.mk (Q1g x0 Q12).1 (Q1k x0 Q5i).1 (Qdb x0 Q28).1)]) ((((Q2z x0) && (Q1g x0 Q12).2) && (Q1k x0 Q5i).2) && (Qdb x0 Q28).2)
  else
   Q60 p0 p1 r0 (i0 + 1) (ah ++ [(au.mk (Q1g x0 Q12).1 (Q1k x0 Q5i).1 (Qdb x0 Q28).1)]) false
def Q1fm (p0 : Val) (p1 : BA) (i0 : Nat) (ah : List au) (ay : Bool) : List PV :=
  nuns 6 ++ [.sl (Val.rows (Qd p0 p1).1), .bool ay, .ms 0 3 0 (List.length ah), iN (i0 : Int)] ++ nuns 68
def Qzt (_p0 : Val) (_p1 : BA) (_i0 : Nat) (ah : List au) (_ay : Bool) : List Ob :=
  [⟨3, 0, true, (au.rows ah).flatten⟩]
def Qbg (p0 : Val) (p1 : BA) (i0 : Nat) (ah : List au) (ay : Bool) : En := .loop 0 Ir.Qlg Ir.Q1o1 (Q1fm p0 p1 i0 ah ay) (Qzt p0 p1 i0 ah ay)
def Qsk (_p0 : Val) (_p1 : BA) (q0 : List au) (q1 : Bool) (z : Nat → PV) (_zo : Nat → List PV) : St :=
  ⟨zr z 0 7 ++ [.bool q1, .ms 0 3 0 (List.length q0)] ++ zr z 9 69, [(0, ⟨3, 0, true, (au.rows q0).flatten⟩)], 257⟩
theorem Qy1 (p0 : Val) (p1 : BA) (i0 : Nat) (ah : List au) (ay : Bool) : VOK (Go.Pv.look (number 0 (Qzt p0 p1 i0 ah ay))) [(0, au.rows ah)] := (VOK.cons (show Seen _ _ from Q4a (ob := ⟨3, 0, true, (au.rows ah).flatten⟩) (au.Q8 ah 3 rfl)) VOK.nil)
def Qja (p0 : Val) (p1 : BA) (e : En) (q : (List au) × Bool) : Prop := ∃ z zo, Q0 G e (.st (.exit 0) (Qsk p0 p1 q.1 q.2 z zo))
theorem Qef (p0 : Val) (p1 : BA) {e e' : En} (h : ∀ r, Q0 G e r → Q0 G e' r) : ∀ q, Qja p0 p1 e q → Qja p0 p1 e' q
  | _, ⟨z, zo, hz⟩ => ⟨z, zo, h _ hz⟩
def Qbp (p0 : Val) (p1 : BA) : Prop := (List.length (Qd p0 p1).1 ≤ 137438953472) ∧ (∀ x0 ∈ (Qd p0 p1).1, Qpr x0) ∧ (∀ x0 ∈ (Qd p0 p1).1, Qkc x0) ∧ (∀ x0 ∈ (Qd p0 p1).1, Q1ps x0) ∧ True
def Qum (p0 : Val) (p1 : BA) (i0 : Nat) (_ah : List au) (_ay : Bool) : List PV :=
  nuns 6 ++ [.sl (Val.rows (Qd p0 p1).1), .un, .un, iN (i0 : Int)] ++ nuns 12 ++ [iN (i0 : Int), .sl (Val.rows (Qd p0 p1).1), iN ((List.length (Qd p0 p1).1) : Int), .bool false]
def Qna (_p0 : Val) (_p1 : BA) (_i0 : Nat) (_ah : List au) (_ay : Bool) : List (Nat × List PV) :=
  []
theorem Q1e0 (p0 : Val) (p1 : BA) (_H : Qbp p0 p1) (i0 : Nat) (ah : List au) (ay : Bool) (_aP : List.length ah ≤ i0) (bC : (decide ((i0 : Int) < ((List.length (Qd p0 p1).1) : Int))) = false) : Qja p0 p1 (Qbg p0 p1 i0 ah ay) (ah, ay) := by
 exact ⟨(envF (Qum p0 p1 i0 ah ay)), (zoF (Qna p0 p1 i0 ah ay)), Qh (Qy1 p0 p1 i0 ah ay) (x := ((.exit 0), Qsk p0 p1 ah ay (envF (Qum p0 p1 i0 ah ay)) (zoF (Qna p0 p1 i0 ah ay)))) [hP 2 (Qs _ _ (Val.Q5 (Qd p0 p1).1)), hB 0 bC] [] (by kernel_rfl)⟩
theorem Q1bg (p0 : Val) (p1 : BA) (H : Qbp p0 p1) (x0 : Val) (i0 : Nat) (ah : List au) (ay : Bool) (bF : (Qd p0 p1).1[i0]? = some x0) (bR : i0 < List.length (Qd p0 p1).1) (aP : List.length ah ≤ i0) (bC : (decide ((i0 : Int) < ((List.length (Qd p0 p1).1) : Int))) = true) (h0 : (ay == true) = true) {r : Rs} (hr : Q0 G (Qbg p0 p1 (i0 + 1) (ah ++ [(au.mk (Q1g x0 Q12).1 (Q1k x0 Q5i).1 (Qdb x0 Q28).1)]) ((((Q2z x0) && (Q1g x0 Q12).2) && (Q1k x0 Q5i).2) && (Qdb x0 Q28).2)) r) : Q0 G (Qbg p0 p1 i0 ah ay) r := by
 have hB0 := H.1
 exact Qc (Qy1 p0 p1 i0 ah ay) [hP 2 (Qs _ _ (Val.Q5 (Qd p0 p1).1)), hB 0 bC, hP 2 (Q1l 5 _ i0 _ (Val.Qb bF) rfl), hP 9 (Q1l 5 _ i0 _ (Val.Qb bF) rfl), hP 9 (Q1l 5 _ i0 _ (Val.Qb bF) rfl), hA 13 0 2497 2561 3 48 0 0 true au.Q5 au.Q1n ah (au.mk (Q1g x0 Q12).1 (Q1k x0 Q5i).1 (Qdb x0 Q28).1) (au.Qw ah) rfl rfl (by omega), hS 0 true (au.Q8 (ah ++ [(au.mk (Q1g x0 Q12).1 (Q1k x0 Q5i).1 (Qdb x0 Q28).1)]) 3 rfl), hB 1 (beqT h0), hP 3 (Q1l 5 _ i0 _ (Val.Qb bF) rfl), hP 4 (Q6v (Q2z x0) (.bool (Q1g x0 Q12).2)), hP 0 (Q6w (Q2z x0) (Q1g x0 Q12).2), hP 1 (Q6v ((Q2z x0) && (Q1g x0 Q12).2) (.bool (Q1k x0 Q5i).2)), hP 0 (Q6w ((Q2z x0) && (Q1g x0 Q12).2) (Q1k x0 Q5i).2), hP 1 (Q6v (((Q2z x0) && (Q1g x0 Q12).2) && (Q1k x0 Q5i).2) (.bool (Qdb x0 Q28).2)), hP 0 (Q6w (((Q2z x0) && (Q1g x0 Q12).2) && (Q1k x0 Q5i).2) (Qdb x0 Q28).2), hP 2 (Q26 i0 (by omega))] [aN (Q6a x0 Q12 (H.2.1 x0 (Q1i bF))), aN (Q7v x0 Q5i (H.2.2.1 x0 (Q1i bF))), aN (Q20i x0 Q28 (H.2.2.2.1 x0 (Q1i bF))), aN (Q9w x0)] hr (by kernel_rfl)
theorem Q1bh (p0 : Val) (p1 : BA) (H : Qbp p0 p1) (x0 : Val) (i0 : Nat) (ah : List au) (ay : Bool) (bF : (Qd p0 p1).1[i0]? = some x0) (bR : i0 < List.length (Qd p0 p1).1) (aP : List.length ah ≤ i0) (bC : (decide ((i0 : Int) < ((List.length (Qd p0 p1).1) : Int))) = true) (h0 : (ay == true) = false) {r : Rs} (hr : Q0 G (Qbg p0 p1 (i0 + 1) (ah ++ [(au.mk (Q1g x0 Q12).1 (Q1k x0 Q5i).1 (Qdb x0 Q28).1)]) false) r) : Q0 G (Qbg p0 p1 i0 ah ay) r := by
 have hB0 := H.1
 exact Qc (Qy1 p0 p1 i0 ah ay) [hP 2 (Qs _ _ (Val.Q5 (Qd p0 p1).1)), hB 0 bC, hP 2 (Q1l 5 _ i0 _ (Val.Qb bF) rfl), hP 9 (Q1l 5 _ i0 _ (Val.Qb bF) rfl), hP 9 (Q1l 5 _ i0 _ (Val.Qb bF) rfl), hA 13 0 2497 2561 3 48 0 0 true au.Q5 au.Q1n ah (au.mk (Q1g x0 Q12).1 (Q1k x0 Q5i).1 (Qdb x0 Q28).1) (au.Qw ah) rfl rfl (by omega), hS 0 true (au.Q8 (ah ++ [(au.mk (Q1g x0 Q12).1 (Q1k x0 Q5i).1 (Qdb x0 Q28).1)]) 3 rfl), hB 1 (beqT h0), hP 18 (Q26 i0 (by omega))] [aN (Q6a x0 Q12 (H.2.1 x0 (Q1i bF))), aN (Q7v x0 Q5i (H.2.2.1 x0 (Q1i bF))), aN (Q20i x0 Q28 (H.2.2.2.1 x0 (Q1i bF)))] hr (by kernel_rfl)
theorem Qoq (p0 : Val) (p1 : BA) (H : Qbp p0 p1) : ∀ (r0 : List Val) (i0 : Nat) (ah : List au) (ay : Bool), List.drop i0 (Qd p0 p1).1 = r0 → List.length ah ≤ i0 → Qja p0 p1 (Qbg p0 p1 i0 ah ay) (Q60 p0 p1 r0 i0 ah ay)
 | [], i0, ah, ay, hd, aP => by
  have bC : (decide ((i0 : Int) < ((List.length (Qd p0 p1).1) : Int))) = false := by have := Q1o hd; simp; omega
  rw [Q60]
  exact Q1e0 p0 p1 H i0 ah ay aP bC
 | x0 :: r0, i0, ah, ay, hd, aP => by
  obtain ⟨bF, bR, hd'⟩ := Q1p hd
  have bC : (decide ((i0 : Int) < ((List.length (Qd p0 p1).1) : Int))) = true := by simp; omega
  rw [Q60]
  cases h0 : (ay == true) with
  | true =>
   exact Qef p0 p1 (fun r hr => Q1bg p0 p1 H x0 i0 ah ay bF bR aP bC h0 hr) _ (Qoq p0 p1 H r0 _ _ _ hd' (by first | omega | (simp; omega)))
  | false =>
   exact Qef p0 p1 (fun r hr => Q1bh p0 p1 H x0 i0 ah ay bF bR aP bC h0 hr) _ (Qoq p0 p1 H r0 _ _ _ hd' (by first | omega | (simp; omega)))
def Q42 (p0 : Val) (p1 : BA) : List au × Bool := dE au.rdec p0 p1
theorem Qyp (p0 : Val) (p1 : BA) : ∀ (l : List Val) (i : Nat) (a : List au) (b : Bool), Q60 p0 p1 l i a b = (a ++ l.map (fun x => (au.rdec x).1), b && l.all fun x => (au.rdec x).2)
  | [], _, a, b => by rw [Q60]; simp
  | x :: l, i, a, b => by
    rw [Q60]
    cases b with
    | false => exact (Qyp p0 p1 l (i + 1) (a ++ [(au.rdec x).1]) false).trans (by simp only [List.append_assoc, List.singleton_append, List.map_cons, List.all_cons, Bool.false_and])
    | true => exact (Qyp p0 p1 l (i + 1) (a ++ [(au.rdec x).1]) (au.rdec x).2).trans (by simp only [List.append_assoc, List.singleton_append, List.map_cons, List.all_cons, Bool.true_and])
theorem Q2b3 (p0 : Val) (p1 : BA) : Q42 p0 p1 = (((Q60 p0 p1 (Qd p0 p1).1 0 [] (Qd p0 p1).2).1, (Q60 p0 p1 (Qd p0 p1).1 0 [] (Qd p0 p1).2).2)) := by
  rw [Qyp]
  rfl
def Q280 (p0 : Val) (p1 : BA) : En := .call 201 [.agg (Val.cells p0), .str p1] []
def Q1x7 (p0 : Val) (p1 : BA) : Rs := .ret (.tup [.sl (au.rows (Q42 p0 p1).1), .bool (Q42 p0 p1).2]) []
def Q13z (p0 : Val) : Prop := Val.Sm 1000000000 p0
theorem Q17h (p0 : Val) (p1 : BA) (H : Q13z p0) : (Qgo p0) ∧ (Qbp p0 p1) ∧ True := by
  have hl := Q71 (Qg H p1)
  have g : ∀ x ∈ (dL p0 p1).1, Val.Sm sB x := hl.2
  refine ⟨H, ?_, trivial⟩
  unfold Qbp
  refine ⟨Nat.le_trans hl.1 (Nat.le_of_ble_eq_true rfl), ?_⟩
  repeat' with_reducible apply And.intro
  all_goals first | exact True.intro | exact g
theorem Qz3 (p0 : Val) (p1 : BA) (H : Q13z p0) : Q0 G (Q280 p0 p1) (Q1x7 p0 p1) := by
 unfold Q1x7
 rw [Q2b3]
 have hl0 := Qoq p0 p1 ((Q17h p0 p1 H).2.1) (Qd p0 p1).1 0 [] (Qd p0 p1).2 (by simp) (by simp)
 obtain ⟨z0, fA, hl0⟩ := hl0
 exact Q7 (fn := Ir.K35) (by kernel_rfl) VOK.nil [hS 0 true (au.Q8 (Q60 p0 p1 (Qd p0 p1).1 0 [] (Qd p0 p1).2).1 3 rfl), hQ (au.Q5 (Q60 p0 p1 (Qd p0 p1).1 0 [] (Qd p0 p1).2).1).symm] [aN (Qfi p0 p1 (Q17h p0 p1 H).1), aV [(0, au.rows (Q60 p0 p1 (Qd p0 p1).1 0 [] (Qd p0 p1).2).1)] hl0] (by kernel_rfl)
def Q61 (p0 : Val) : List Val → Nat → (List aK) → Bool → (List aK) × Bool
 | [], _i0, ah, ay =>
  (ah, ay)
 | x0 :: r0, i0, ah, ay =>
  bif (ay == true) then
   Q61 p0 r0 (i0 + 1) (ah ++ [(aK.mk (Q2r x0 Qa).1 (Q42 x0 Q6).1 (Q1k x0 Q1j).1)]) ((((Q2z x0) && (Q2r x0 Qa).2) && (Q42 x0 Q6).2) && (Q1k x0 Q1j).2)
  else
   Q61 p0 r0 (i0 + 1) (ah ++ [(aK.mk (Q2r x0 Qa).1 (Q42 x0 Q6).1 (Q1k x0 Q1j).1)]) false
def Q1fr (p0 : Val) (i0 : Nat) (ah : List aK) (ay : Bool) : List PV :=
  [.un, .un, .un, .un, .sl (Val.rows (Qd p0 Qv).1), .bool ay, .ms 0 3 0 (List.length ah), iN (i0 : Int)] ++ nuns 67
def Qzx (_p0 : Val) (_i0 : Nat) (ah : List aK) (_ay : Bool) : List Ob :=
  [⟨3, 0, true, (aK.rows ah).flatten⟩]
def Qbi (p0 : Val) (i0 : Nat) (ah : List aK) (ay : Bool) : En := .loop 0 Ir.Qll Ir.Q1o6 (Q1fr p0 i0 ah ay) (Qzx p0 i0 ah ay)
def Qsq (_p0 : Val) (q0 : List aK) (q1 : Bool) (z : Nat → PV) (_zo : Nat → List PV) : St :=
  ⟨zr z 0 5 ++ [.bool q1, .ms 0 3 0 (List.length q0)] ++ zr z 7 68, [(0, ⟨3, 0, true, (aK.rows q0).flatten⟩)], 257⟩
theorem Qy3 (p0 : Val) (i0 : Nat) (ah : List aK) (ay : Bool) : VOK (Go.Pv.look (number 0 (Qzx p0 i0 ah ay))) [(0, aK.rows ah)] := (VOK.cons (show Seen _ _ from Q4a (ob := ⟨3, 0, true, (aK.rows ah).flatten⟩) (aK.Q8 ah 3 rfl)) VOK.nil)
def Qje (p0 : Val) (e : En) (q : (List aK) × Bool) : Prop := ∃ z zo, Q0 G e (.st (.exit 0) (Qsq p0 q.1 q.2 z zo))
theorem Qei (p0 : Val) {e e' : En} (h : ∀ r, Q0 G e r → Q0 G e' r) : ∀ q, Qje p0 e q → Qje p0 e' q
  | _, ⟨z, zo, hz⟩ => ⟨z, zo, h _ hz⟩
def Qbr (p0 : Val) : Prop := (List.length (Qd p0 Qv).1 ≤ 137438953472) ∧ (∀ x0 ∈ (Qd p0 Qv).1, Q140 x0) ∧ (∀ x0 ∈ (Qd p0 Qv).1, Q13z x0) ∧ (∀ x0 ∈ (Qd p0 Qv).1, Qkc x0) ∧ True
def Qus (p0 : Val) (i0 : Nat) (_ah : List aK) (_ay : Bool) : List PV :=
  [.un, .un, .un, .un, .sl (Val.rows (Qd p0 Qv).1), .un, .un, iN (i0 : Int)] ++ nuns 11 ++ [iN (i0 : Int), .sl (Val.rows (Qd p0 Qv).1), iN ((List.length (Qd p0 Qv).1) : Int), .bool false]
def Qng (_p0 : Val) (_i0 : Nat) (_ah : List aK) (_ay : Bool) : List (Nat × List PV) :=
  []
theorem Q1e6 (p0 : Val) (_H : Qbr p0) (i0 : Nat) (ah : List aK) (ay : Bool) (_aP : List.length ah ≤ i0) (bC : (decide ((i0 : Int) < ((List.length (Qd p0 Qv).1) : Int))) = false) : Qje p0 (Qbi p0 i0 ah ay) (ah, ay) := by
 exact ⟨(envF (Qus p0 i0 ah ay)), (zoF (Qng p0 i0 ah ay)), Qh (Qy3 p0 i0 ah ay) (x := ((.exit 0), Qsq p0 ah ay (envF (Qus p0 i0 ah ay)) (zoF (Qng p0 i0 ah ay)))) [hP 2 (Qs _ _ (Val.Q5 (Qd p0 Qv).1)), hB 0 bC] [] (by kernel_rfl)⟩
theorem Q1bs (p0 : Val) (H : Qbr p0) (x0 : Val) (i0 : Nat) (ah : List aK) (ay : Bool) (bF : (Qd p0 Qv).1[i0]? = some x0) (bR : i0 < List.length (Qd p0 Qv).1) (aP : List.length ah ≤ i0) (bC : (decide ((i0 : Int) < ((List.length (Qd p0 Qv).1) : Int))) = true) (h0 : (ay == true) = true) {r : Rs} (hr : Q0 G (Qbi p0 (i0 + 1) (ah ++ [(aK.mk (Q2r x0 Qa).1 (Q42 x0 Q6).1 (Q1k x0 Q1j).1)]) ((((Q2z x0) && (Q2r x0 Qa).2) && (Q42 x0 Q6).2) && (Q1k x0 Q1j).2)) r) : Q0 G (Qbi p0 i0 ah ay) r := by
 have hB0 := H.1
 exact Qc (Qy3 p0 i0 ah ay) [hP 2 (Qs _ _ (Val.Q5 (Qd p0 Qv).1)), hB 0 bC, hP 2 (Q1l 5 _ i0 _ (Val.Qb bF) rfl), hP 9 (Q1l 5 _ i0 _ (Val.Qb bF) rfl), hP 9 (Q1l 5 _ i0 _ (Val.Qb bF) rfl), hA 13 0 2497 2561 3 40 0 0 true aK.Q5 aK.Q1n ah (aK.mk (Q2r x0 Qa).1 (Q42 x0 Q6).1 (Q1k x0 Q1j).1) (aK.Qw ah) rfl rfl (by omega), hS 0 true (aK.Q8 (ah ++ [(aK.mk (Q2r x0 Qa).1 (Q42 x0 Q6).1 (Q1k x0 Q1j).1)]) 3 rfl), hB 1 (beqT h0), hP 3 (Q1l 5 _ i0 _ (Val.Qb bF) rfl), hP 4 (Q6v (Q2z x0) (.bool (Q2r x0 Qa).2)), hP 0 (Q6w (Q2z x0) (Q2r x0 Qa).2), hP 1 (Q6v ((Q2z x0) && (Q2r x0 Qa).2) (.bool (Q42 x0 Q6).2)), hP 0 (Q6w ((Q2z x0) && (Q2r x0 Qa).2) (Q42 x0 Q6).2), hP 1 (Q6v (((Q2z x0) && (Q2r x0 Qa).2) && (Q42 x0 Q6).2) (.bool (Q1k x0 Q1j).2)), hP 0 (Q6w (((Q2z x0) && (Q2r x0 Qa).2) && (Q42 x0 Q6).2) (Q1k x0 Q1j).2), hP 2 (Q26 i0 (by omega))] [aN (Qpg x0 Qa (H.2.1 x0 (Q1i bF))), aN (Qz3 x0 Q6 (H.2.2.1 x0 (Q1i bF))), aN (Q7v x0 Q1j (H.2.2.2.1 x0 (Q1i bF))), aN (Q9w x0)] hr (by kernel_rfl)
theorem Q1bt (p0 : Val) (H : Qbr p0) (x0 : Val) (i0 : Nat) (ah : List aK) (ay : Bool) (bF : (Qd p0 Qv).1[i0]? = some x0) (bR : i0 < List.length (Qd p0 Qv).1) (aP : List.length ah ≤ i0) (bC : (decide ((i0 : Int) < ((List.length (Qd p0 Qv).1) : Int))) = true) (h0 : (ay == true) = false) {r : Rs} (hr : Q0 G (Qbi p0 (i0 + 1) (ah ++ [(aK.mk (Q2r x0 Qa).1 (Q42 x0 Q6).1 (Q1k x0 Q1j).1)]) false) r) : Q0 G (Qbi p0 i0 ah ay) r := by
 have hB0 := H.1
 exact Qc (Qy3 p0 i0 ah ay) [hP 2 (Qs _ _ (Val.Q5 (Qd p0 Qv).1)), hB 0 bC, hP 2 (Q1l 5 _ i0 _ (Val.Qb bF) rfl), hP 9 (Q1l 5 _ i0 _ (Val.Qb bF) rfl), hP 9 (Q1l 5 _ i0 _ (Val.Qb bF) rfl), hA 13 0 2497 2561 3 40 0 0 true aK.Q5 aK.Q1n ah (aK.mk (Q2r x0 Qa).1 (Q42 x0 Q6).1 (Q1k x0 Q1j).1) (aK.Qw ah) rfl rfl (by omega), hS 0 true (aK.Q8 (ah ++ [(aK.mk (Q2r x0 Qa).1 (Q42 x0 Q6).1 (Q1k x0 Q1j).1)]) 3 rfl), hB 1 (beqT h0), hP 18 (Q26 i0 (by omega))] [aN (Qpg x0 Qa (H.2.1 x0 (Q1i bF))), aN (Qz3 x0 Q6 (H.2.2.1 x0 (Q1i bF))), aN (Q7v x0 Q1j (H.2.2.2.1 x0 (Q1i bF)))] hr (by kernel_rfl)
theorem Qos (p0 : Val) (H : Qbr p0) : ∀ (r0 : List Val) (i0 : Nat) (ah : List aK) (ay : Bool), List.drop i0 (Qd p0 Qv).1 = r0 → List.length ah ≤ i0 → Qje p0 (Qbi p0 i0 ah ay) (Q61 p0 r0 i0 ah ay)
 | [], i0, ah, ay, hd, aP => by
  have bC : (decide ((i0 : Int) < ((List.length (Qd p0 Qv).1) : Int))) = false := by have := Q1o hd; simp; omega
  rw [Q61]
  exact Q1e6 p0 H i0 ah ay aP bC
 | x0 :: r0, i0, ah, ay, hd, aP => by
  obtain ⟨bF, bR, hd'⟩ := Q1p hd
  have bC : (decide ((i0 : Int) < ((List.length (Qd p0 Qv).1) : Int))) = true := by simp; omega
  rw [Q61]
  cases h0 : (ay == true) with
  | true =>
   exact Qei p0 (fun r hr => Q1bs p0 H x0 i0 ah ay bF bR aP bC h0 hr) _ (Qos p0 H r0 _ _ _ hd' (by first | omega | (simp; omega)))
  | false =>
   exact Qei p0 (fun r hr => Q1bt p0 H x0 i0 ah ay bF bR aP bC h0 hr) _ (Qos p0 H r0 _ _ _ hd' (by first | omega | (simp; omega)))
def Qfa (p0 : Val) : List aK × Bool := dE aK.rdec p0 Qv
theorem Qys (p0 : Val) : ∀ (l : List Val) (i : Nat) (a : List aK) (b : Bool), Q61 p0 l i a b = (a ++ l.map (fun x => (aK.rdec x).1), b && l.all fun x => (aK.rdec x).2)
  | [], _, a, b => by rw [Q61]; simp
  | x :: l, i, a, b => by
    rw [Q61]
    cases b with
    | false => exact (Qys p0 l (i + 1) (a ++ [(aK.rdec x).1]) false).trans (by simp only [List.append_assoc, List.singleton_append, List.map_cons, List.all_cons, Bool.false_and])
    | true => exact (Qys p0 l (i + 1) (a ++ [(aK.rdec x).1]) (aK.rdec x).2).trans (by simp only [List.append_assoc, List.singleton_append, List.map_cons, List.all_cons, Bool.true_and])
theorem Q2bb (p0 : Val) : Qfa p0 = (((Q61 p0 (Qd p0 Qv).1 0 [] (Qd p0 Qv).2).1, (Q61 p0 (Qd p0 Qv).1 0 [] (Qd p0 Qv).2).2)) := by
  rw [Qys]
  rfl
def Q287 (p0 : Val) : En := .call 270 [.agg (Val.cells p0)] []
def Q1xf (p0 : Val) : Rs := .ret (.tup [.sl (aK.rows (Qfa p0).1), .bool (Qfa p0).2]) []
def Q1pw (p0 : Val) : Prop := Val.Sm 1000000000 p0
theorem Q17l (p0 : Val) (H : Q1pw p0) : (Qgo p0) ∧ (Qbr p0) ∧ True := by
  have hl := Q71 (Qg H Qv)
  have g : ∀ x ∈ (dL p0 Qv).1, Val.Sm sB x := hl.2
  refine ⟨H, ?_, trivial⟩
  unfold Qbr
  refine ⟨Nat.le_trans hl.1 (Nat.le_of_ble_eq_true rfl), ?_⟩
  repeat' with_reducible apply And.intro
  all_goals first | exact True.intro | exact g
theorem Q20k (p0 : Val) (H : Q1pw p0) : Q0 G (Q287 p0) (Q1xf p0) := by
 unfold Q1xf
 rw [Q2bb]
 have hl0 := Qos p0 ((Q17l p0 H).2.1) (Qd p0 Qv).1 0 [] (Qd p0 Qv).2 (by simp) (by simp)
 obtain ⟨z0, fA, hl0⟩ := hl0
 exact Q7 (fn := Ir.K3d) (by kernel_rfl) VOK.nil [hS 0 true (aK.Q8 (Q61 p0 (Qd p0 Qv).1 0 [] (Qd p0 Qv).2).1 3 rfl), hQ (aK.Q5 (Q61 p0 (Qd p0 Qv).1 0 [] (Qd p0 Qv).2).1).symm] [aN (Qfi p0 Qv (Q17l p0 H).1), aV [(0, aK.rows (Q61 p0 (Qd p0 Qv).1 0 [] (Qd p0 Qv).2).1)] hl0] (by kernel_rfl)
def Q62 (p0 : Val) : List Val → Nat → (List aQ) → Bool → (List aQ) × Bool
 | [], _i0, ah, ay =>
  (ah, ay)
 | x0 :: r0, i0, ah, ay =>
  bif (ay == true) then
   Q62 p0 r0 (i0 + 1) (ah ++ [(aQ.mk (Q2r x0 Qa).1 (Q2r x0 Q2x).1 (Q42 x0 Q6).1 (Q1g x0 Qo).1 (Q1k x0 Q1j).1)]) ((((((Q2z x0) && (Q2r x0 Q2x).2) && (Q2r x0 Qa).2) && (Q42 x0 Q6).2) && (Q1g x0 Qo).2) && (Q1k x0 Q1j).2)
  else
   Q62 p0 r0 (i0 + 1) (ah ++ [(aQ.mk (Q2r x0 Qa).1 (Q2r x0 Q2x).1 (Q42 x0 Q6).1 (Q1g x0 Qo).1 (Q1k x0 Q1j).1)]) false
def Q1fs (p0 : Val) (i0 : Nat) (ah : List aQ) (ay : Bool) : List PV :=
  [.un, .un, .un, .un, .sl (Val.rows (Qd p0 Q13).1), .bool ay, .ms 0 5 0 (List.length ah), iN (i0 : Int)] ++ nuns 95
def Qzy (_p0 : Val) (_i0 : Nat) (ah : List aQ) (_ay : Bool) : List Ob :=
  [⟨5, 0, true, (aQ.rows ah).flatten⟩]
def Qbj (p0 : Val) (i0 : Nat) (ah : List aQ) (ay : Bool) : En := .loop 0 Ir.Qlm Ir.Q1o7 (Q1fs p0 i0 ah ay) (Qzy p0 i0 ah ay)
def Qsr (_p0 : Val) (q0 : List aQ) (q1 : Bool) (z : Nat → PV) (_zo : Nat → List PV) : St :=
  ⟨zr z 0 5 ++ [.bool q1, .ms 0 5 0 (List.length q0)] ++ zr z 7 96, [(0, ⟨5, 0, true, (aQ.rows q0).flatten⟩)], 257⟩
theorem Qy4 (p0 : Val) (i0 : Nat) (ah : List aQ) (ay : Bool) : VOK (Go.Pv.look (number 0 (Qzy p0 i0 ah ay))) [(0, aQ.rows ah)] := (VOK.cons (show Seen _ _ from Q4a (ob := ⟨5, 0, true, (aQ.rows ah).flatten⟩) (aQ.Q8 ah 5 rfl)) VOK.nil)
def Qjf (p0 : Val) (e : En) (q : (List aQ) × Bool) : Prop := ∃ z zo, Q0 G e (.st (.exit 0) (Qsr p0 q.1 q.2 z zo))
theorem Qej (p0 : Val) {e e' : En} (h : ∀ r, Q0 G e r → Q0 G e' r) : ∀ q, Qjf p0 e q → Qjf p0 e' q
  | _, ⟨z, zo, hz⟩ => ⟨z, zo, h _ hz⟩
def Qbs (p0 : Val) : Prop := (List.length (Qd p0 Q13).1 ≤ 137438953472) ∧ (∀ x0 ∈ (Qd p0 Q13).1, Q140 x0) ∧ (∀ x0 ∈ (Qd p0 Q13).1, Q13z x0) ∧ (∀ x0 ∈ (Qd p0 Q13).1, Qpr x0) ∧ (∀ x0 ∈ (Qd p0 Q13).1, Qkc x0) ∧ True
def Qut (p0 : Val) (i0 : Nat) (_ah : List aQ) (_ay : Bool) : List PV :=
  [.un, .un, .un, .un, .sl (Val.rows (Qd p0 Q13).1), .un, .un, iN (i0 : Int)] ++ nuns 15 ++ [iN (i0 : Int), .sl (Val.rows (Qd p0 Q13).1), iN ((List.length (Qd p0 Q13).1) : Int), .bool false]
def Qnh (_p0 : Val) (_i0 : Nat) (_ah : List aQ) (_ay : Bool) : List (Nat × List PV) :=
  []
theorem Q1e7 (p0 : Val) (_H : Qbs p0) (i0 : Nat) (ah : List aQ) (ay : Bool) (_aP : List.length ah ≤ i0) (bC : (decide ((i0 : Int) < ((List.length (Qd p0 Q13).1) : Int))) = false) : Qjf p0 (Qbj p0 i0 ah ay) (ah, ay) := by
 exact ⟨(envF (Qut p0 i0 ah ay)), (zoF (Qnh p0 i0 ah ay)), Qh (Qy4 p0 i0 ah ay) (x := ((.exit 0), Qsr p0 ah ay (envF (Qut p0 i0 ah ay)) (zoF (Qnh p0 i0 ah ay)))) [hP 2 (Qs _ _ (Val.Q5 (Qd p0 Q13).1)), hB 0 bC] [] (by kernel_rfl)⟩
theorem Q1bu (p0 : Val) (H : Qbs p0) (x0 : Val) (i0 : Nat) (ah : List aQ) (ay : Bool) (bF : (Qd p0 Q13).1[i0]? = some x0) (bR : i0 < List.length (Qd p0 Q13).1) (aP : List.length ah ≤ i0) (bC : (decide ((i0 : Int) < ((List.length (Qd p0 Q13).1) : Int))) = true) (h0 : (ay == true) = true) {r : Rs} (hr : Q0 G (Qbj p0 (i0 + 1) (ah ++ [(aQ.mk (Q2r x0 Qa).1 (Q2r x0 Q2x).1 (Q42 x0 Q6).1 (Q1g x0 Qo).1 (Q1k x0 Q1j).1)]) ((((((Q2z x0) && (Q2r x0 Q2x).2) && (Q2r x0 Qa).2) && (Q42 x0 Q6).2) && (Q1g x0 Qo).2) && (Q1k x0 Q1j).2)) r) : Q0 G (Qbj p0 i0 ah ay) r := by
 have hB0 := H.1
 exact Qc (Qy4 p0 i0 ah ay) [hP 2 (Qs _ _ (Val.Q5 (Qd p0 Q13).1)), hB 0 bC, hP 2 (Q1l 5 _ i0 _ (Val.Qb bF) rfl), hP 9 (Q1l 5 _ i0 _ (Val.Qb bF) rfl), hP 9 (Q1l 5 _ i0 _ (Val.Qb bF) rfl), hP 9 (Q1l 5 _ i0 _ (Val.Qb bF) rfl), hP 9 (Q1l 5 _ i0 _ (Val.Qb bF) rfl), hA 15 0 3905 3969 5 56 0 0 true aQ.Q5 aQ.Q1n ah (aQ.mk (Q2r x0 Qa).1 (Q2r x0 Q2x).1 (Q42 x0 Q6).1 (Q1g x0 Qo).1 (Q1k x0 Q1j).1) (aQ.Qw ah) rfl rfl (by omega), hS 0 true (aQ.Q8 (ah ++ [(aQ.mk (Q2r x0 Qa).1 (Q2r x0 Q2x).1 (Q42 x0 Q6).1 (Q1g x0 Qo).1 (Q1k x0 Q1j).1)]) 5 rfl), hB 1 (beqT h0), hP 3 (Q1l 5 _ i0 _ (Val.Qb bF) rfl), hP 4 (Q6v (Q2z x0) (.bool (Q2r x0 Q2x).2)), hP 0 (Q6w (Q2z x0) (Q2r x0 Q2x).2), hP 1 (Q6v ((Q2z x0) && (Q2r x0 Q2x).2) (.bool (Q2r x0 Qa).2)), hP 0 (Q6w ((Q2z x0) && (Q2r x0 Q2x).2) (Q2r x0 Qa).2), hP 1 (Q6v (((Q2z x0) && (Q2r x0 Q2x).2) && (Q2r x0 Qa).2) (.bool (Q42 x0 Q6).2)), hP 0 (Q6w (((Q2z x0) && (Q2r x0 Q2x).2) && (Q2r x0 Qa).2) (Q42 x0 Q6).2), hP 1 (Q6v ((((Q2z x0) && (Q2r x0 Q2x).2) && (Q2r x0 Qa).2) && (Q42 x0 Q6).2) (.bool (Q1g x0 Qo).2)), hP 0 (Q6w ((((Q2z x0) && (Q2r x0 Q2x).2) && (Q2r x0 Qa).2) && (Q42 x0 Q6).2) (Q1g x0 Qo).2), hP 1 (Q6v (((((Q2z x0) && (Q2r x0 Q2x).2) && (Q2r x0 Qa).2) && (Q42 x0 Q6).2) && (Q1g x0 Qo).2) (.bool (Q1k x0 Q1j).2)), hP 0 (Q6w (((((Q2z x0) && (Q2r x0 Q2x).2) && (Q2r x0 Qa).2) && (Q42 x0 Q6).2) && (Q1g x0 Qo).2) (Q1k x0 Q1j).2), hP 2 (Q26 i0 (by omega))] [aN (Qpg x0 Q2x (H.2.1 x0 (Q1i bF))), aN (Qpg x0 Qa (H.2.1 x0 (Q1i bF))), aN (Qz3 x0 Q6 (H.2.2.1 x0 (Q1i bF))), aN (Q6a x0 Qo (H.2.2.2.1 x0 (Q1i bF))), aN (Q7v x0 Q1j (H.2.2.2.2.1 x0 (Q1i bF))), aN (Q9w x0)] hr (by kernel_rfl)
theorem Q1bv (p0 : Val) (H : Qbs p0) (x0 : Val) (i0 : Nat) (ah : List aQ) (ay : Bool) (bF : (Qd p0 Q13).1[i0]? = some x0) (bR : i0 < List.length (Qd p0 Q13).1) (aP : List.length ah ≤ i0) (bC : (decide ((i0 : Int) < ((List.length (Qd p0 Q13).1) : Int))) = true) (h0 : (ay == true) = false) {r : Rs} (hr : Q0 G (Qbj p0 (i0 + 1) (ah ++ [(aQ.mk (Q2r x0 Qa).1 (Q2r x0 Q2x).1 (Q42 x0 Q6).1 (Q1g x0 Qo).1 (Q1k x0 Q1j).1)]) false) r) : Q0 G (Qbj p0 i0 ah ay) r := by
 have hB0 := H.1
 exact Qc (Qy4 p0 i0 ah ay) [hP 2 (Qs _ _ (Val.Q5 (Qd p0 Q13).1)), hB 0 bC, hP 2 (Q1l 5 _ i0 _ (Val.Qb bF) rfl), hP 9 (Q1l 5 _ i0 _ (Val.Qb bF) rfl), hP 9 (Q1l 5 _ i0 _ (Val.Qb bF) rfl), hP 9 (Q1l 5 _ i0 _ (Val.Qb bF) rfl), hP 9 (Q1l 5 _ i0 _ (Val.Qb bF) rfl), hA 15 0 3905 3969 5 56 0 0 true aQ.Q5 aQ.Q1n ah (aQ.mk (Q2r x0 Qa).1 (Q2r x0 Q2x).1 (Q42 x0 Q6).1 (Q1g x0 Qo).1 (Q1k x0 Q1j).1) (aQ.Qw ah) rfl rfl (by omega), hS 0 true (aQ.Q8 (ah ++ [(aQ.mk (Q2r x0 Qa).1 (Q2r x0 Q2x).1 (Q42 x0 Q6).1 (Q1g x0 Qo).1 (Q1k x0 Q1j).1)]) 5 rfl), hB 1 (beqT h0), hP 24 (Q26 i0 (by omega))] [aN (Qpg x0 Q2x (H.2.1 x0 (Q1i bF))), aN (Qpg x0 Qa (H.2.1 x0 (Q1i bF))), aN (Qz3 x0 Q6 (H.2.2.1 x0 (Q1i bF))), aN (Q6a x0 Qo (H.2.2.2.1 x0 (Q1i bF))), aN (Q7v x0 Q1j (H.2.2.2.2.1 x0 (Q1i bF)))] hr (by kernel_rfl)
theorem Qot (p0 : Val) (H : Qbs p0) : ∀ (r0 : List Val) (i0 : Nat) (ah : List aQ) (ay : Bool), List.drop i0 (Qd p0 Q13).1 = r0 → List.length ah ≤ i0 → Qjf p0 (Qbj p0 i0 ah ay) (Q62 p0 r0 i0 ah ay)
 | [], i0, ah, ay, hd, aP => by
  have bC : (decide ((i0 : Int) < ((List.length (Qd p0 Q13).1) : Int))) = false := by have := Q1o hd; simp; omega
  rw [Q62]
  exact Q1e7 p0 H i0 ah ay aP bC
 | x0 :: r0, i0, ah, ay, hd, aP => by
  obtain ⟨bF, bR, hd'⟩ := Q1p hd
  have bC : (decide ((i0 : Int) < ((List.length (Qd p0 Q13).1) : Int))) = true := by simp; omega
  rw [Q62]
  cases h0 : (ay == true) with
  | true =>
   exact Qej p0 (fun r hr => Q1bu p0 H x0 i0 ah ay bF bR aP bC h0 hr) _ (Qot p0 H r0 _ _ _ hd' (by first | omega | (simp; omega)))
  | false =>
   exact Qej p0 (fun r hr => Q1bv p0 H x0 i0 ah ay bF bR aP bC h0 hr) _ (Qot p0 H r0 _ _ _ hd' (by first | omega | (simp; omega)))
def Qfb (p0 : Val) : List aQ × Bool := dE aQ.rdec p0 Q13
theorem Qyt (p0 : Val) : ∀ (l : List Val) (i : Nat) (a : List aQ) (b : Bool), Q62 p0 l i a b = (a ++ l.map (fun x => (aQ.rdec x).1), b && l.all fun x => (aQ.rdec x).2)
  | [], _, a, b => by rw [Q62]; simp
  | x :: l, i, a, b => by
    rw [Q62]
    cases b with
    | false => exact (Qyt p0 l (i + 1) (a ++ [(aQ.rdec x).1]) false).trans (by simp only [List.append_assoc, List.singleton_append, List.map_cons, List.all_cons, Bool.false_and])
    | true => exact (Qyt p0 l (i + 1) (a ++ [(aQ.rdec x).1]) (aQ.rdec x).2).trans (by simp only [List.append_assoc, List.singleton_append, List.map_cons, List.all_cons, Bool.true_and])
theorem Q2bc (p0 : Val) : Qfb p0 = (((Q62 p0 (Qd p0 Q13).1 0 [] (Qd p0 Q13).2).1, (Q62 p0 (Qd p0 Q13).1 0 [] (Qd p0 Q13).2).2)) := by
  rw [Qyt]
  rfl
def Q288 (p0 : Val) : En := .call 271 [.agg (Val.cells p0)] []
def Q1xg (p0 : Val) : Rs := .ret (.tup [.sl (aQ.rows (Qfb p0).1), .bool (Qfb p0).2]) []
def Q1px (p0 : Val) : Prop := Val.Sm 1000000000 p0
theorem Q17m (p0 : Val) (H : Q1px p0) : (Qgo p0) ∧ (Qbs p0) ∧ True := by
  have hl := Q71 (Qg H Q13)
  have g : ∀ x ∈ (dL p0 Q13).1, Val.Sm sB x := hl.2
  refine ⟨H, ?_, trivial⟩
  unfold Qbs
  refine ⟨Nat.le_trans hl.1 (Nat.le_of_ble_eq_true rfl), ?_⟩
  repeat' with_reducible apply And.intro
  all_goals first | exact True.intro | exact g
theorem Q20l (p0 : Val) (H : Q1px p0) : Q0 G (Q288 p0) (Q1xg p0) := by
 unfold Q1xg
 rw [Q2bc]
 have hl0 := Qot p0 ((Q17m p0 H).2.1) (Qd p0 Q13).1 0 [] (Qd p0 Q13).2 (by simp) (by simp)
 obtain ⟨z0, fA, hl0⟩ := hl0
 exact Q7 (fn := Ir.K3e) (by kernel_rfl) VOK.nil [hS 0 true (aQ.Q8 (Q62 p0 (Qd p0 Q13).1 0 [] (Qd p0 Q13).2).1 5 rfl), hQ (aQ.Q5 (Q62 p0 (Qd p0 Q13).1 0 [] (Qd p0 Q13).2).1).symm] [aN (Qfi p0 Q13 (Q17m p0 H).1), aV [(0, aQ.rows (Q62 p0 (Qd p0 Q13).1 0 [] (Qd p0 Q13).2).1)] hl0] (by kernel_rfl)
def Q63 (p0 : Val) : List Val → Nat → (List aD) → Bool → (List aD) × Bool
 | [], _i0, ah, ay =>
  (ah, ay)
 | x0 :: r0, i0, ah, ay =>
  bif (ay == true) then
   Q63 p0 r0 (i0 + 1) (ah ++ [(aD.mk (Q1k x0 Q1v).1 (Q1g x0 Qo).1 (Q42 x0 Q6).1 (Q2r x0 Qa).1)]) (((((Q2z x0) && (Q1k x0 Q1v).2) && (Q2r x0 Qa).2) && (Q42 x0 Q6).2) && (Q1g x0 Qo).2)
  else
   Q63 p0 r0 (i0 + 1) (ah ++ [(aD.mk (Q1k x0 Q1v).1 (Q1g x0 Qo).1 (Q42 x0 Q6).1 (Q2r x0 Qa).1)]) false
def Q1fu (p0 : Val) (i0 : Nat) (ah : List aD) (ay : Bool) : List PV :=
  [.un, .un, .un, .un, .sl (Val.rows (Qd p0 Q1r).1), .bool ay, .ms 0 4 0 (List.length ah), iN (i0 : Int)] ++ nuns 81
def Q100 (_p0 : Val) (_i0 : Nat) (ah : List aD) (_ay : Bool) : List Ob :=
  [⟨4, 0, true, (aD.rows ah).flatten⟩]
def Qbk (p0 : Val) (i0 : Nat) (ah : List aD) (ay : Bool) : En := .loop 0 Ir.Qlo Ir.Q1o9 (Q1fu p0 i0 ah ay) (Q100 p0 i0 ah ay)
def Qst (_p0 : Val) (q0 : List aD) (q1 : Bool) (z : Nat → PV) (_zo : Nat → List PV) : St :=
  ⟨zr z 0 5 ++ [.bool q1, .ms 0 4 0 (List.length q0)] ++ zr z 7 82, [(0, ⟨4, 0, true, (aD.rows q0).flatten⟩)], 257⟩
theorem Qy5 (p0 : Val) (i0 : Nat) (ah : List aD) (ay : Bool) : VOK (Go.Pv.look (number 0 (Q100 p0 i0 ah ay))) [(0, aD.rows ah)] := (VOK.cons (show Seen _ _ from Q4a (ob := ⟨4, 0, true, (aD.rows ah).flatten⟩) (aD.Q8 ah 4 rfl)) VOK.nil)
def Qjh (p0 : Val) (e : En) (q : (List aD) × Bool) : Prop := ∃ z zo, Q0 G e (.st (.exit 0) (Qst p0 q.1 q.2 z zo))
theorem Qek (p0 : Val) {e e' : En} (h : ∀ r, Q0 G e r → Q0 G e' r) : ∀ q, Qjh p0 e q → Qjh p0 e' q
  | _, ⟨z, zo, hz⟩ => ⟨z, zo, h _ hz⟩
def Qbt (p0 : Val) : Prop := (List.length (Qd p0 Q1r).1 ≤ 137438953472) ∧ (∀ x0 ∈ (Qd p0 Q1r).1, Qkc x0) ∧ (∀ x0 ∈ (Qd p0 Q1r).1, Q140 x0) ∧ (∀ x0 ∈ (Qd p0 Q1r).1, Q13z x0) ∧ (∀ x0 ∈ (Qd p0 Q1r).1, Qpr x0) ∧ True
def Quv (p0 : Val) (i0 : Nat) (_ah : List aD) (_ay : Bool) : List PV :=
  [.un, .un, .un, .un, .sl (Val.rows (Qd p0 Q1r).1), .un, .un, iN (i0 : Int)] ++ nuns 13 ++ [iN (i0 : Int), .sl (Val.rows (Qd p0 Q1r).1), iN ((List.length (Qd p0 Q1r).1) : Int), .bool false]
def Qnj (_p0 : Val) (_i0 : Nat) (_ah : List aD) (_ay : Bool) : List (Nat × List PV) :=
  []
theorem Q1e9 (p0 : Val) (_H : Qbt p0) (i0 : Nat) (ah : List aD) (ay : Bool) (_aP : List.length ah ≤ i0) (bC : (decide ((i0 : Int) < ((List.length (Qd p0 Q1r).1) : Int))) = false) : Qjh p0 (Qbk p0 i0 ah ay) (ah, ay) := by
 exact ⟨(envF (Quv p0 i0 ah ay)), (zoF (Qnj p0 i0 ah ay)), Qh (Qy5 p0 i0 ah ay) (x := ((.exit 0), Qst p0 ah ay (envF (Quv p0 i0 ah ay)) (zoF (Qnj p0 i0 ah ay)))) [hP 2 (Qs _ _ (Val.Q5 (Qd p0 Q1r).1)), hB 0 bC] [] (by kernel_rfl)⟩
theorem Q1bx (p0 : Val) (H : Qbt p0) (x0 : Val) (i0 : Nat) (ah : List aD) (ay : Bool) (bF : (Qd p0 Q1r).1[i0]? = some x0) (bR : i0 < List.length (Qd p0 Q1r).1) (aP : List.length ah ≤ i0) (bC : (decide ((i0 : Int) < ((List.length (Qd p0 Q1r).1) : Int))) = true) (h0 : (ay == true) = true) {r : Rs} (hr : Q0 G (Qbk p0 (i0 + 1) (ah ++ [(aD.mk (Q1k x0 Q1v).1 (Q1g x0 Qo).1 (Q42 x0 Q6).1 (Q2r x0 Qa).1)]) (((((Q2z x0) && (Q1k x0 Q1v).2) && (Q2r x0 Qa).2) && (Q42 x0 Q6).2) && (Q1g x0 Qo).2)) r) : Q0 G (Qbk p0 i0 ah ay) r := by
 have hB0 := H.1
 exact Qc (Qy5 p0 i0 ah ay) [hP 2 (Qs _ _ (Val.Q5 (Qd p0 Q1r).1)), hB 0 bC, hP 2 (Q1l 5 _ i0 _ (Val.Qb bF) rfl), hP 9 (Q1l 5 _ i0 _ (Val.Qb bF) rfl), hP 9 (Q1l 5 _ i0 _ (Val.Qb bF) rfl), hP 9 (Q1l 5 _ i0 _ (Val.Qb bF) rfl), hA 14 0 3201 3265 4 56 0 0 true aD.Q5 aD.Q1n ah (aD.mk (Q1k x0 Q1v).1 (Q1g x0 Qo).1 (Q42 x0 Q6).1 (Q2r x0 Qa).1) (aD.Qw ah) rfl rfl (by omega), hS 0 true (aD.Q8 (ah ++ [(aD.mk (Q1k x0 Q1v).1 (Q1g x0 Qo).1 (Q42 x0 Q6).1 (Q2r x0 Qa).1)]) 4 rfl), hB 1 (beqT h0), hP 3 (Q1l 5 _ i0 _ (Val.Qb bF) rfl), hP 4 (Q6v (Q2z x0) (.bool (Q1k x0 Q1v).2)), hP 0 (Q6w (Q2z x0) (Q1k x0 Q1v).2), hP 1 (Q6v ((Q2z x0) && (Q1k x0 Q1v).2) (.bool (Q2r x0 Qa).2)), hP 0 (Q6w ((Q2z x0) && (Q1k x0 Q1v).2) (Q2r x0 Qa).2), hP 1 (Q6v (((Q2z x0) && (Q1k x0 Q1v).2) && (Q2r x0 Qa).2) (.bool (Q42 x0 Q6).2)), hP 0 (Q6w (((Q2z x0) && (Q1k x0 Q1v).2) && (Q2r x0 Qa).2) (Q42 x0 Q6).2), hP 1 (Q6v ((((Q2z x0) && (Q1k x0 Q1v).2) && (Q2r x0 Qa).2) && (Q42 x0 Q6).2) (.bool (Q1g x0 Qo).2)), hP 0 (Q6w ((((Q2z x0) && (Q1k x0 Q1v).2) && (Q2r x0 Qa).2) && (Q42 x0 Q6).2) (Q1g x0 Qo).2), hP 2 (Q26 i0 (by omega))] [aN (Q7v x0 Q1v (H.2.1 x0 (Q1i bF))), aN (Qpg x0 Qa (H.2.2.1 x0 (Q1i bF))), aN (Qz3 x0 Q6 (H.2.2.2.1 x0 (Q1i bF))), aN (Q6a x0 Qo (H.2.2.2.2.1 x0 (Q1i bF))), aN (Q9w x0)] hr (by kernel_rfl)
theorem Q1by (p0 : Val) (H : Qbt p0) (x0 : Val) (i0 : Nat) (ah : List aD) (ay : Bool) (bF : (Qd p0 Q1r).1[i0]? = some x0) (bR : i0 < List.length (Qd p0 Q1r).1) (aP : List.length ah ≤ i0) (bC : (decide ((i0 : Int) < ((List.length (Qd p0 Q1r).1) : Int))) = true) (h0 : (ay == true) = false) {r : Rs} (hr : Q0 G (Qbk p0 (i0 + 1) (ah ++ [(aD.mk (Q1k x0 Q1v).1 (Q1g x0 Qo).1 (Q42 x0 Q6).1 (Q2r x0 Qa).1)]) false) r) : Q0 G (Qbk p0 i0 ah ay) r := by
 have hB0 := H.1
 exact Qc (Qy5 p0 i0 ah ay) [hP 2 (Qs _ _ (Val.Q5 (Qd p0 Q1r).1)), hB 0 bC, hP 2 (Q1l 5 _ i0 _ (Val.Qb bF) rfl), hP 9 (Q1l 5 _ i0 _ (Val.Qb bF) rfl), hP 9 (Q1l 5 _ i0 _ (Val.Qb bF) rfl), hP 9 (Q1l 5 _ i0 _ (Val.Qb bF) rfl), hA 14 0 3201 3265 4 56 0 0 true aD.Q5 aD.Q1n ah (aD.mk (Q1k x0 Q1v).1 (Q1g x0 Qo).1 (Q42 x0 Q6).1 (Q2r x0 Qa).1) (aD.Qw ah) rfl rfl (by omega), hS 0 true (aD.Q8 (ah ++ [(aD.mk (Q1k x0 Q1v).1 (Q1g x0 Qo).1 (Q42 x0 Q6).1 (Q2r x0 Qa).1)]) 4 rfl), hB 1 (beqT h0), hP 21 (Q26 i0 (by omega))] [aN (Q7v x0 Q1v (H.2.1 x0 (Q1i bF))), aN (Qpg x0 Qa (H.2.2.1 x0 (Q1i bF))), aN (Qz3 x0 Q6 (H.2.2.2.1 x0 (Q1i bF))), aN (Q6a x0 Qo (H.2.2.2.2.1 x0 (Q1i bF)))] hr (by kernel_rfl)
theorem Qou (p0 : Val) (H : Qbt p0) : ∀ (r0 : List Val) (i0 : Nat) (ah : List aD) (ay : Bool), List.drop i0 (Qd p0 Q1r).1 = r0 → List.length ah ≤ i0 → Qjh p0 (Qbk p0 i0 ah ay) (Q63 p0 r0 i0 ah ay)
 | [], i0, ah, ay, hd, aP => by
  have bC : (decide ((i0 : Int) < ((List.length (Qd p0 Q1r).1) : Int))) = false := by have := Q1o hd; simp; omega
  rw [Q63]
  exact Q1e9 p0 H i0 ah ay aP bC
 | x0 :: r0, i0, ah, ay, hd, aP => by
  obtain ⟨bF, bR, hd'⟩ := Q1p hd
  have bC : (decide ((i0 : Int) < ((List.length (Qd p0 Q1r).1) : Int))) = true := by simp; omega
  rw [Q63]
  cases h0 : (ay == true) with
  | true =>
   exact Qek p0 (fun r hr => Q1bx p0 H x0 i0 ah ay bF bR aP bC h0 hr) _ (Qou p0 H r0 _ _ _ hd' (by first | omega | (simp; omega)))
  | false =>
   exact Qek p0 (fun r hr => Q1by p0 H x0 i0 ah ay bF bR aP bC h0 hr) _ (Qou p0 H r0 _ _ _ hd' (by first | omega | (simp; omega)))
def Qfc (p0 : Val) : List aD × Bool := dE aD.rdec p0 Q1r
theorem Qyv (p0 : Val) : ∀ (l : List Val) (i : Nat) (a : List aD) (b : Bool), Q63 p0 l i a b = (a ++ l.map (fun x => (aD.rdec x).1), b && l.all fun x => (aD.rdec x).2)
  | [], _, a, b => by rw [Q63]; simp
  | x :: l, i, a, b => by
    rw [Q63]
    cases b with
    | false => exact (Qyv p0 l (i + 1) (a ++ [(aD.rdec x).1]) false).trans (by simp only [List.append_assoc, List.singleton_append, List.map_cons, List.all_cons, Bool.false_and])
    | true => exact (Qyv p0 l (i + 1) (a ++ [(aD.rdec x).1]) (aD.rdec x).2).trans (by simp only [List.append_assoc, List.singleton_append, List.map_cons, List.all_cons, Bool.true_and])
theorem Q2bg (p0 : Val) : Qfc p0 = (((Q63 p0 (Qd p0 Q1r).1 0 [] (Qd p0 Q1r).2).1, (Q63 p0 (Qd p0 Q1r).1 0 [] (Qd p0 Q1r).2).2)) := by
  rw [Qyv]
  rfl
def Q28c (p0 : Val) : En := .call 272 [.agg (Val.cells p0)] []
def Q1xk (p0 : Val) : Rs := .ret (.tup [.sl (aD.rows (Qfc p0).1), .bool (Qfc p0).2]) []
def Q1q1 (p0 : Val) : Prop := Val.Sm 1000000000 p0
theorem Q17o (p0 : Val) (H : Q1q1 p0) : (Qgo p0) ∧ (Qbt p0) ∧ True := by
  have hl := Q71 (Qg H Q1r)
  have g : ∀ x ∈ (dL p0 Q1r).1, Val.Sm sB x := hl.2
  refine ⟨H, ?_, trivial⟩
  unfold Qbt
  refine ⟨Nat.le_trans hl.1 (Nat.le_of_ble_eq_true rfl), ?_⟩
  repeat' with_reducible apply And.intro
  all_goals first | exact True.intro | exact g
theorem Q20m (p0 : Val) (H : Q1q1 p0) : Q0 G (Q28c p0) (Q1xk p0) := by
 unfold Q1xk
 rw [Q2bg]
 have hl0 := Qou p0 ((Q17o p0 H).2.1) (Qd p0 Q1r).1 0 [] (Qd p0 Q1r).2 (by simp) (by simp)
 obtain ⟨z0, fA, hl0⟩ := hl0
 exact Q7 (fn := Ir.K3i) (by kernel_rfl) VOK.nil [hS 0 true (aD.Q8 (Q63 p0 (Qd p0 Q1r).1 0 [] (Qd p0 Q1r).2).1 4 rfl), hQ (aD.Q5 (Q63 p0 (Qd p0 Q1r).1 0 [] (Qd p0 Q1r).2).1).symm] [aN (Qfi p0 Q1r (Q17o p0 H).1), aV [(0, aD.rows (Q63 p0 (Qd p0 Q1r).1 0 [] (Qd p0 Q1r).2).1)] hl0] (by kernel_rfl)
def Q64 (p0 : Val) : List Val → Nat → (List aG) → Bool → (List aG) × Bool
 | [], _i0, ah, ay =>
  (ah, ay)
 | x0 :: r0, i0, ah, ay =>
  bif (ay == true) then
   Q64 p0 r0 (i0 + 1) (ah ++ [(aG.mk (Q1g x0 Q12).1 (Q1g x0 Q1t).1 (Q2r x0 Q2f).1 (Q1k x0 Q2e).1 (Q1k x0 Q2l).1)]) ((((((Q2z x0) && (Q1k x0 Q2e).2) && (Q2r x0 Q2f).2) && (Q1g x0 Q12).2) && (Q1k x0 Q2l).2) && (Q1g x0 Q1t).2)
  else
   Q64 p0 r0 (i0 + 1) (ah ++ [(aG.mk (Q1g x0 Q12).1 (Q1g x0 Q1t).1 (Q2r x0 Q2f).1 (Q1k x0 Q2e).1 (Q1k x0 Q2l).1)]) false
def Q1fv (p0 : Val) (i0 : Nat) (ah : List aG) (ay : Bool) : List PV :=
  [.un, .un, .un, .un, .sl (Val.rows (Qd p0 Qm).1), .bool ay, .ms 0 5 0 (List.length ah), iN (i0 : Int)] ++ nuns 95
def Q101 (_p0 : Val) (_i0 : Nat) (ah : List aG) (_ay : Bool) : List Ob :=
  [⟨5, 0, true, (aG.rows ah).flatten⟩]
def Qbl (p0 : Val) (i0 : Nat) (ah : List aG) (ay : Bool) : En := .loop 0 Ir.Qlp Ir.Q1oa (Q1fv p0 i0 ah ay) (Q101 p0 i0 ah ay)
def Qsu (_p0 : Val) (q0 : List aG) (q1 : Bool) (z : Nat → PV) (_zo : Nat → List PV) : St :=
  ⟨zr z 0 5 ++ [.bool q1, .ms 0 5 0 (List.length q0)] ++ zr z 7 96, [(0, ⟨5, 0, true, (aG.rows q0).flatten⟩)], 257⟩
theorem Qy6 (p0 : Val) (i0 : Nat) (ah : List aG) (ay : Bool) : VOK (Go.Pv.look (number 0 (Q101 p0 i0 ah ay))) [(0, aG.rows ah)] := (VOK.cons (show Seen _ _ from Q4a (ob := ⟨5, 0, true, (aG.rows ah).flatten⟩) (aG.Q8 ah 5 rfl)) VOK.nil)
def Qji (p0 : Val) (e : En) (q : (List aG) × Bool) : Prop := ∃ z zo, Q0 G e (.st (.exit 0) (Qsu p0 q.1 q.2 z zo))
theorem Qel (p0 : Val) {e e' : En} (h : ∀ r, Q0 G e r → Q0 G e' r) : ∀ q, Qji p0 e q → Qji p0 e' q
  | _, ⟨z, zo, hz⟩ => ⟨z, zo, h _ hz⟩
def Qbu (p0 : Val) : Prop := (List.length (Qd p0 Qm).1 ≤ 137438953472) ∧ (∀ x0 ∈ (Qd p0 Qm).1, Qkc x0) ∧ (∀ x0 ∈ (Qd p0 Qm).1, Q140 x0) ∧ (∀ x0 ∈ (Qd p0 Qm).1, Qpr x0) ∧ True
def Quw (p0 : Val) (i0 : Nat) (_ah : List aG) (_ay : Bool) : List PV :=
  [.un, .un, .un, .un, .sl (Val.rows (Qd p0 Qm).1), .un, .un, iN (i0 : Int)] ++ nuns 15 ++ [iN (i0 : Int), .sl (Val.rows (Qd p0 Qm).1), iN ((List.length (Qd p0 Qm).1) : Int), .bool false]
def Qnk (_p0 : Val) (_i0 : Nat) (_ah : List aG) (_ay : Bool) : List (Nat × List PV) :=
  []
theorem Q1ea (p0 : Val) (_H : Qbu p0) (i0 : Nat) (ah : List aG) (ay : Bool) (_aP : List.length ah ≤ i0) (bC : (decide ((i0 : Int) < ((List.length (Qd p0 Qm).1) : Int))) = false) : Qji p0 (Qbl p0 i0 ah ay) (ah, ay) := by
 exact ⟨(envF (Quw p0 i0 ah ay)), (zoF (Qnk p0 i0 ah ay)), Qh (Qy6 p0 i0 ah ay) (x := ((.exit 0), Qsu p0 ah ay (envF (Quw p0 i0 ah ay)) (zoF (Qnk p0 i0 ah ay)))) [hP 2 (Qs _ _ (Val.Q5 (Qd p0 Qm).1)), hB 0 bC] [] (by kernel_rfl)⟩
theorem Q1bz (p0 : Val) (H : Qbu p0) (x0 : Val) (i0 : Nat) (ah : List aG) (ay : Bool) (bF : (Qd p0 Qm).1[i0]? = some x0) (bR : i0 < List.length (Qd p0 Qm).1) (aP : List.length ah ≤ i0) (bC : (decide ((i0 : Int) < ((List.length (Qd p0 Qm).1) : Int))) = true) (h0 : (ay == true) = true) {r : Rs} (hr : Q0 G (Qbl p0 (i0 + 1) (ah ++ [(aG.mk (Q1g x0 Q12).1 (Q1g x0 Q1t).1 (Q2r x0 Q2f).1 (Q1k x0 Q2e).1 (Q1k x0 Q2l).1)]) ((((((Q2z x0) && (Q1k x0 Q2e).2) && (Q2r x0 Q2f).2) && (Q1g x0 Q12).2) && (Q1k x0 Q2l).2) && (Q1g x0 Q1t).2)) r) : Q0 G (Qbl p0 i0 ah ay) r := by
 have hB0 := H.1
 exact Qc (Qy6 p0 i0 ah ay) [hP 2 (Qs _ _ (Val.Q5 (Qd p0 Qm).1)), hB 0 bC, hP 2 (Q1l 5 _ i0 _ (Val.Qb bF) rfl), hP 9 (Q1l 5 _ i0 _ (Val.Qb bF) rfl), hP 9 (Q1l 5 _ i0 _ (Val.Qb bF) rfl), hP 9 (Q1l 5 _ i0 _ (Val.Qb bF) rfl), hP 9 (Q1l 5 _ i0 _ (Val.Qb bF) rfl), hA 15 0 3905 3969 5 56 0 0 true aG.Q5 aG.Q1n ah (aG.mk (Q1g x0 Q12).1 (Q1g x0 Q1t).1 (Q2r x0 Q2f).1 (Q1k x0 Q2e).1 (Q1k x0 Q2l).1) (aG.Qw ah) rfl rfl (by omega), hS 0 true (aG.Q8 (ah ++ [(aG.mk (Q1g x0 Q12).1 (Q1g x0 Q1t).1 (Q2r x0 Q2f).1 (Q1k x0 Q2e).1 (Q1k x0 Q2l).1)]) 5 rfl), hB 1 (beqT h0), hP 3 (Q1l 5 _ i0 _ (Val.Qb bF) rfl), hP 4 (Q6v (Q2z x0) (.bool (Q1k x0 Q2e).2)), hP 0 (Q6w (Q2z x0) (Q1k x0 Q2e).2), hP 1 (Q6v ((Q2z x0) && (Q1k x0 Q2e).2) (.bool (Q2r x0 Q2f).2)), hP 0 (Q6w ((Q2z x0) && (Q1k x0 Q2e).2) (Q2r x0 Q2f).2), hP 1 (Q6v (((Q2z x0) && (Q1k x0 Q2e).2) && (Q2r x0 Q2f).2) (.bool (Q1g x0 Q12).2)), hP 0 (Q6w (((Q2z x0) && (Q1k x0 Q2e).2) && (Q2r x0 Q2f).2) (Q1g x0 Q12).2), hP 1 (Q6v ((((Q2z x0) && (Q1k x0 Q2e).2) && (Q2r x0 Q2f).2) && (Q1g x0 Q12).2) (.bool (Q1k x0 Q2l).2)), hP 0 (Q6w ((((Q2z x0) && (Q1k x0 Q2e).2) && (Q2r x0 Q2f).2) && (Q1g x0 Q12).2) (Q1k x0 Q2l).2), hP 1 (Q6v (((((Q2z x0) && (Q1k x0 Q2e).2) && (Q2r x0 Q2f).2) && (Q1g x0 Q12).2) && (Q1k x0 Q2l).2) (.bool (Q1g x0 Q1t).2)), hP 0 (Q6w (((((Q2z x0) && (Q1k x0 Q2e).2) && (Q2r x0 Q2f).2) && (Q1g x0 Q12).2) && (Q1k x0 Q2l).2) (Q1g x0 Q1t).2), hP 2 (Q26 i0 (by omega))] [aN (Q7v x0 Q2e (H.2.1 x0 (Q1i bF))), aN (Qpg x0 Q2f (H.2.2.1 x0 (Q1i bF))), aN (Q6a x0 Q12 (H.2.2.2.1 x0 (Q1i bF))), aN (Q7v x0 Q2l (H.2.1 x0 (Q1i bF))), aN (Q6a x0 Q1t (H.2.2.2.1 x0 (Q1i bF))), aN (Q9w x0)] hr (by kernel_rfl)
theorem Q1c0 (p0 : Val) (H : Qbu p0) (x0 : Val) (i0 : Nat) (ah : List aG) (ay : Bool) (bF : (Qd p0 Qm).1[i0]? = some x0) (bR : i0 < List.length (Qd p0 Qm).1) (aP : List.length ah ≤ i0) (bC : (decide ((i0 : Int) < ((List.length (Qd p0 Qm).1) : Int))) = true) (h0 : (ay == true) = false) {r : Rs} (hr : Q0 G (Qbl p0 (i0 + 1) (ah ++ [(aG.mk (Q1g x0 Q12).1 (Q1g x0 Q1t).1 (Q2r x0 Q2f).1 (Q1k x0 Q2e).1 (Q1k x0 Q2l).1)]) false) r) : Q0 G (Qbl p0 i0 ah ay) r := by
 have hB0 := H.1
 exact Qc (Qy6 p0 i0 ah ay) [hP 2 (Qs _ _ (Val.Q5 (Qd p0 Qm).1)), hB 0 bC, hP 2 (Q1l 5 _ i0 _ (Val.Qb bF) rfl), hP 9 (Q1l 5 _ i0 _ (Val.Qb bF) rfl), hP 9 (Q1l 5 _ i0 _ (Val.Qb bF) rfl), hP 9 (Q1l 5 _ i0 _ (Val.Qb bF) rfl), hP 9 (Q1l 5 _ i0 _ (Val.Qb bF) rfl), hA 15 0 3905 3969 5 56 0 0 true aG.Q5 aG.Q1n ah (aG.mk (Q1g x0 Q12).1 (Q1g x0 Q1t).1 (Q2r x0 Q2f).1 (Q1k x0 Q2e).1 (Q1k x0 Q2l).1) (aG.Qw ah) rfl rfl (by omega), hS 0 true (aG.Q8 (ah ++ [(aG.mk (Q1g x0 Q12).1 (Q1g x0 Q1t).1 (Q2r x0 Q2f).1 (Q1k x0 Q2e).1 (Q1k x0 Q2l).1)]) 5 rfl), hB 1 (beqT h0), hP 24 (Q26 i0 (by omega))] [aN (Q7v x0 Q2e (H.2.1 x0 (Q1i bF))), aN (Qpg x0 Q2f (H.2.2.1 x0 (Q1i bF))), aN (Q6a x0 Q12 (H.2.2.2.1 x0 (Q1i bF))), aN (Q7v x0 Q2l (H.2.1 x0 (Q1i bF))), aN (Q6a x0 Q1t (H.2.2.2.1 x0 (Q1i bF)))] hr (by kernel_rfl)
theorem Qov (p0 : Val) (H : Qbu p0) : ∀ (r0 : List Val) (i0 : Nat) (ah : List aG) (ay : Bool), List.drop i0 (Qd p0 Qm).1 = r0 → List.length ah ≤ i0 → Qji p0 (Qbl p0 i0 ah ay) (Q64 p0 r0 i0 ah ay)
 | [], i0, ah, ay, hd, aP => by
  have bC : (decide ((i0 : Int) < ((List.length (Qd p0 Qm).1) : Int))) = false := by have := Q1o hd; simp; omega
  rw [Q64]
  exact Q1ea p0 H i0 ah ay aP bC
 | x0 :: r0, i0, ah, ay, hd, aP => by
  obtain ⟨bF, bR, hd'⟩ := Q1p hd
  have bC : (decide ((i0 : Int) < ((List.length (Qd p0 Qm).1) : Int))) = true := by simp; omega
  rw [Q64]
  cases h0 : (ay == true) with
  | true =>
   exact Qel p0 (fun r hr => Q1bz p0 H x0 i0 ah ay bF bR aP bC h0 hr) _ (Qov p0 H r0 _ _ _ hd' (by first | omega | (simp; omega)))
  | false =>
   exact Qel p0 (fun r hr => Q1c0 p0 H x0 i0 ah ay bF bR aP bC h0 hr) _ (Qov p0 H r0 _ _ _ hd' (by first | omega | (simp; omega)))
def Qfd (p0 : Val) : List aG × Bool := dE aG.dec p0 Qm
theorem Qyw (p0 : Val) : ∀ (l : List Val) (i : Nat) (a : List aG) (b : Bool), Q64 p0 l i a b = (a ++ l.map (fun x => (aG.dec x).1), b && l.all fun x => (aG.dec x).2)
  | [], _, a, b => by rw [Q64]; simp
  | x :: l, i, a, b => by
    rw [Q64]
    cases b with
    | false => exact (Qyw p0 l (i + 1) (a ++ [(aG.dec x).1]) false).trans (by simp only [List.append_assoc, List.singleton_append, List.map_cons, List.all_cons, Bool.false_and])
    | true => exact (Qyw p0 l (i + 1) (a ++ [(aG.dec x).1]) (aG.dec x).2).trans (by simp only [List.append_assoc, List.singleton_append, List.map_cons, List.all_cons, Bool.true_and])
theorem Q2bh (p0 : Val) : Qfd p0 = (((Q64 p0 (Qd p0 Qm).1 0 [] (Qd p0 Qm).2).1, (Q64 p0 (Qd p0 Qm).1 0 [] (Qd p0 Qm).2).2)) := by
  rw [Qyw]
  rfl
def Q28d (p0 : Val) : En := .call 273 [.agg (Val.cells p0)] []
def Q1xl (p0 : Val) : Rs := .ret (.tup [.sl (aG.rows (Qfd p0).1), .bool (Qfd p0).2]) []
def Q1q2 (p0 : Val) : Prop := Val.Sm 1000000000 p0
theorem Q17p (p0 : Val) (H : Q1q2 p0) : (Qgo p0) ∧ (Qbu p0) ∧ True := by
  have hl := Q71 (Qg H Qm)
  have g : ∀ x ∈ (dL p0 Qm).1, Val.Sm sB x := hl.2
  refine ⟨H, ?_, trivial⟩
  unfold Qbu
  refine ⟨Nat.le_trans hl.1 (Nat.le_of_ble_eq_true rfl), ?_⟩
  repeat' with_reducible apply And.intro
  all_goals first | exact True.intro | exact g
theorem Q20n (p0 : Val) (H : Q1q2 p0) : Q0 G (Q28d p0) (Q1xl p0) := by
 unfold Q1xl
 rw [Q2bh]
 have hl0 := Qov p0 ((Q17p p0 H).2.1) (Qd p0 Qm).1 0 [] (Qd p0 Qm).2 (by simp) (by simp)
 obtain ⟨z0, fA, hl0⟩ := hl0
 exact Q7 (fn := Ir.K3j) (by kernel_rfl) VOK.nil [hS 0 true (aG.Q8 (Q64 p0 (Qd p0 Qm).1 0 [] (Qd p0 Qm).2).1 5 rfl), hQ (aG.Q5 (Q64 p0 (Qd p0 Qm).1 0 [] (Qd p0 Qm).2).1).symm] [aN (Qfi p0 Qm (Q17p p0 H).1), aV [(0, aG.rows (Q64 p0 (Qd p0 Qm).1 0 [] (Qd p0 Qm).2).1)] hl0] (by kernel_rfl)
def Q58 (p0 : Val) : List Bool := [(Qf9 p0).2, (Q1k p0 Q2v).2, (Q1g p0 Q2w).2, (Q42 p0 Q18).2, (Qfa p0).2, (Qfb p0).2, (Q1k p0 Q1q).2, (Q1k p0 Q21).2, (Qfc p0).2, (Qfd p0).2]
inductive Q15w where
  | k0
  | k1
def Q8e (p0 : Val) : List Bool → Nat → Q15w
 | [], _i0 =>
  (.k0)
 | x0 :: r0, i0 =>
  bif (x0 == true) then
   Q8e p0 r0 (i0 + 1)
  else
   (.k1)
def Q1fo (_p0 : Val) (i0 : Nat) : List PV :=
  [.un, .bx 0 0, .bx 1 0, .un, .bx 2 0, .bx 3 0] ++ nuns 20 ++ [iN (i0 : Int)] ++ nuns 104
def Q1gm (p0 : Val) (_i0 : Nat) : List Ob :=
  [⟨5, 0, true, (Val.cells p0)⟩, ⟨10, 0, true, [.str eB, iN 0, iN 0, iN 0, .ms 4 11 0 0, .ms 5 3 0 0, .ms 6 3 0 0, .ms 7 5 0 0, .ms 8 4 0 0, .ms 9 5 0 0]⟩, ⟨10, 0, true, [.str (Q1g p0 Q2w).1, iN (Q1k p0 Q1q).1, iN (Q1k p0 Q21).1, iN (Q1k p0 Q2v).1, .sl (aH.rows (Qf9 p0).1), .sl (au.rows (Q42 p0 Q18).1), .sl (aK.rows (Qfa p0).1), .sl (aQ.rows (Qfb p0).1), .sl (aD.rows (Qfc p0).1), .sl (aG.rows (Qfd p0).1)]⟩, ⟨10, 0, true, [.bool (Qf9 p0).2, .bool (Q1k p0 Q2v).2, .bool (Q1g p0 Q2w).2, .bool (Q42 p0 Q18).2, .bool (Qfa p0).2, .bool (Qfb p0).2, .bool (Q1k p0 Q1q).2, .bool (Q1k p0 Q21).2, .bool (Qfc p0).2, .bool (Qfd p0).2]⟩, ⟨11, 0, true, []⟩, ⟨3, 0, true, []⟩, ⟨3, 0, true, []⟩, ⟨5, 0, true, []⟩, ⟨4, 0, true, []⟩, ⟨5, 0, true, []⟩]
def Qdp (p0 : Val) (i0 : Nat) : En := .loop 0 Ir.Qli Ir.Q1o3 (Q1fo p0 i0) (Q1gm p0 i0)
def Qsm (p0 : Val) (z : Nat → PV) (_zo : Nat → List PV) : St :=
  ⟨[z 0, .bx 0 0, .bx 1 0, z 3, .bx 2 0] ++ zr z 5 126, [(0, ⟨5, 0, true, (Val.cells p0)⟩), (1, ⟨10, 0, true, [.str eB, iN 0, iN 0, iN 0, .ms 4 11 0 0, .ms 5 3 0 0, .ms 6 3 0 0, .ms 7 5 0 0, .ms 8 4 0 0, .ms 9 5 0 0]⟩), (2, ⟨10, 0, true, [.str (Q1g p0 Q2w).1, iN (Q1k p0 Q1q).1, iN (Q1k p0 Q21).1, iN (Q1k p0 Q2v).1, .sl (aH.rows (Qf9 p0).1), .sl (au.rows (Q42 p0 Q18).1), .sl (aK.rows (Qfa p0).1), .sl (aQ.rows (Qfb p0).1), .sl (aD.rows (Qfc p0).1), .sl (aG.rows (Qfd p0).1)]⟩), (3, ⟨10, 0, true, [.bool (Qf9 p0).2, .bool (Q1k p0 Q2v).2, .bool (Q1g p0 Q2w).2, .bool (Q42 p0 Q18).2, .bool (Qfa p0).2, .bool (Qfb p0).2, .bool (Q1k p0 Q1q).2, .bool (Q1k p0 Q21).2, .bool (Qfc p0).2, .bool (Qfd p0).2]⟩), (4, ⟨11, 0, true, []⟩), (5, ⟨3, 0, true, []⟩), (6, ⟨3, 0, true, []⟩), (7, ⟨5, 0, true, []⟩), (8, ⟨4, 0, true, []⟩), (9, ⟨5, 0, true, []⟩)], 138⟩
def Qsn (_p0 : Val) (z : Nat → PV) (zo : Nat → List PV) : St :=
  ⟨[z 0, z 1, .bx 1 0, .bool false] ++ zr z 4 127, [(0, ⟨5, 0, true, zo 0⟩), (1, ⟨10, 0, true, [.str eB, iN 0, iN 0, iN 0, .ns 11, .ns 3, .ns 3, .ns 5, .ns 4, .ns 5]⟩), (2, ⟨10, 0, true, zo 2⟩), (3, ⟨10, 0, true, zo 3⟩), (4, ⟨11, 0, true, zo 4⟩), (5, ⟨3, 0, true, zo 5⟩), (6, ⟨3, 0, true, zo 6⟩), (7, ⟨5, 0, true, zo 7⟩), (8, ⟨4, 0, true, zo 8⟩), (9, ⟨5, 0, true, zo 9⟩)], 586⟩
def Qeg (p0 : Val) (e : En) : Q15w → Prop
  | .k0 => ∃ z zo, Q0 G e (.st (.exit 0) (Qsm p0 z zo))
  | .k1 => ∃ z zo, Q0 G e (.st .ret (Qsn p0 z zo))
theorem Qx8 (p0 : Val) {e e' : En} (h : ∀ r, Q0 G e r → Q0 G e' r) : ∀ q, Qeg p0 e q → Qeg p0 e' q
  | .k0, ⟨z, zo, hz⟩ => ⟨z, zo, h _ hz⟩
  | .k1, ⟨z, zo, hz⟩ => ⟨z, zo, h _ hz⟩
def Qdv (p0 : Val) : Prop := (List.length (Q58 p0) ≤ 4611686018427387904) ∧ True
def Quo (_p0 : Val) (i0 : Nat) : List PV :=
  nuns 5 ++ [.bx 3 0] ++ nuns 20 ++ [iN (i0 : Int)] ++ nuns 92 ++ [iN (i0 : Int), .bool false]
def Qnc (_p0 : Val) (_i0 : Nat) : List (Nat × List PV) :=
  []
theorem Q1e2 (p0 : Val) (_H : Qdv p0) (i0 : Nat) (bC : (decide ((i0 : Int) < 10)) = false) : Qeg p0 (Qdp p0 i0) (.k0) := by
 exact ⟨(envF (Quo p0 i0)), (zoF (Qnc p0 i0)), Qh VOK.nil (x := ((.exit 0), Qsm p0 (envF (Quo p0 i0)) (zoF (Qnc p0 i0)))) [hB 1 bC] [] (by kernel_rfl)⟩
theorem Q1bo (p0 : Val) (H : Qdv p0) (x0 : Bool) (i0 : Nat) (bF : (Q58 p0)[i0]? = some x0) (bR : i0 < List.length (Q58 p0)) (bC : (decide ((i0 : Int) < 10)) = true) (h0 : (x0 == true) = true) {r : Rs} (hr : Q0 G (Qdp p0 (i0 + 1)) r) : Q0 G (Qdp p0 i0) r := by
 have hB0 := H.1
 exact Qc VOK.nil [hB 1 bC, hP 1 (Q1or 10 1 3 0 i0 (Nat.lt_of_lt_of_eq bR rfl)), hP 0 (Q1os 3 10 0 true [.bool (Qf9 p0).2, .bool (Q1k p0 Q2v).2, .bool (Q1g p0 Q2w).2, .bool (Q42 p0 Q18).2, .bool (Qfa p0).2, .bool (Qfb p0).2, .bool (Q1k p0 Q1q).2, .bool (Q1k p0 Q21).2, .bool (Qfc p0).2, .bool (Qfd p0).2] (Q58 p0) i0 x0 true bF (beqT h0)), hP 2 (Q26 i0 (by omega))] [] hr (by kernel_rfl)
def Qup (_p0 : Val) (i0 : Nat) (_x0 : Bool) : List PV :=
  [.un, .bx 0 0, .un, .un, .bx 2 0, .bx 3 0] ++ nuns 20 ++ [iN (i0 : Int)] ++ nuns 92 ++ [iN (i0 : Int), .bool true, .un, .un, iN (i0 : Int), .bx 3 (0 + i0 * 1), .bool false, .bool true, .agg [.str eB, iN 0, iN 0, iN 0, .ns 11, .ns 3, .ns 3, .ns 5, .ns 4, .ns 5]]
def Qnd (p0 : Val) (_i0 : Nat) (_x0 : Bool) : List (Nat × List PV) :=
  [(0, (Val.cells p0)), (2, [.str (Q1g p0 Q2w).1, iN (Q1k p0 Q1q).1, iN (Q1k p0 Q21).1, iN (Q1k p0 Q2v).1, .sl (aH.rows (Qf9 p0).1), .sl (au.rows (Q42 p0 Q18).1), .sl (aK.rows (Qfa p0).1), .sl (aQ.rows (Qfb p0).1), .sl (aD.rows (Qfc p0).1), .sl (aG.rows (Qfd p0).1)]), (3, [.bool (Qf9 p0).2, .bool (Q1k p0 Q2v).2, .bool (Q1g p0 Q2w).2, .bool (Q42 p0 Q18).2, .bool (Qfa p0).2, .bool (Qfb p0).2, .bool (Q1k p0 Q1q).2, .bool (Q1k p0 Q21).2, .bool (Qfc p0).2, .bool (Qfd p0).2]), (4, []), (5, []), (6, []), (7, []), (8, []), (9, [])]
theorem Q1e3 (p0 : Val) (_H : Qdv p0) (x0 : Bool) (i0 : Nat) (bF : (Q58 p0)[i0]? = some x0) (bR : i0 < List.length (Q58 p0)) (bC : (decide ((i0 : Int) < 10)) = true) (h0 : (x0 == true) = false) : Qeg p0 (Qdp p0 i0) (.k1) := by
 exact ⟨(envF (Qup p0 i0 x0)), (zoF (Qnd p0 i0 x0)), Qh VOK.nil (x := (.ret, Qsn p0 (envF (Qup p0 i0 x0)) (zoF (Qnd p0 i0 x0)))) [hB 1 bC, hP 1 (Q1or 10 1 3 0 i0 (Nat.lt_of_lt_of_eq bR rfl)), hP 0 (Q1os 3 10 0 true [.bool (Qf9 p0).2, .bool (Q1k p0 Q2v).2, .bool (Q1g p0 Q2w).2, .bool (Q42 p0 Q18).2, .bool (Qfa p0).2, .bool (Qfb p0).2, .bool (Q1k p0 Q1q).2, .bool (Q1k p0 Q21).2, .bool (Qfc p0).2, .bool (Qfd p0).2] (Q58 p0) i0 x0 false bF (beqT h0))] [] (by kernel_rfl)⟩
theorem Q12s (p0 : Val) (H : Qdv p0) : ∀ (r0 : List Bool) (i0 : Nat), List.drop i0 (Q58 p0) = r0 → Qeg p0 (Qdp p0 i0) (Q8e p0 r0 i0)
 | [], i0, hd => by
  have bC : (decide ((i0 : Int) < 10)) = false := by have hL := (show List.length (Q58 p0) = 10 from rfl); have := Q1o hd; simp; omega
  rw [Q8e]
  exact Q1e2 p0 H i0 bC
 | x0 :: r0, i0, hd => by
  obtain ⟨bF, bR, hd'⟩ := Q1p hd
  have bC : (decide ((i0 : Int) < 10)) = true := by have hL := (show List.length (Q58 p0) = 10 from rfl); simp; omega
  rw [Q8e]
  cases h0 : (x0 == true) with
  | true =>
   exact Qx8 p0 (fun r hr => Q1bo p0 H x0 i0 bF bR bC h0 hr) _ (Q12s p0 H r0 _ hd')
  | false =>
   exact Q1e3 p0 H x0 i0 bF bR bC h0
def Q13n (p0 : Val) : bn × Bool := bif (bn.dec p0).2 then ((bn.dec p0).1, true) else ((bn.mk eB 0 0 0 [] [] [] [] [] []), false)
theorem Q19g (p0 : Val) : ∀ (l : List Bool) (i : Nat), Q8e p0 l i = bif l.all id then .k0 else .k1
  | [], _ => by rw [Q8e]; rfl
  | x :: l, i => by
    rw [Q8e]
    cases x with
    | true => exact Q19g p0 l (i + 1)
    | false => rfl
theorem Q2b6 (p0 : Val) : Q13n p0 = ((match (Q8e p0 (Q58 p0) 0) with
  | .k0 => ((bn.mk (Q1g p0 Q2w).1 (Q1k p0 Q1q).1 (Q1k p0 Q21).1 (Q1k p0 Q2v).1 (Qf9 p0).1 (Q42 p0 Q18).1 (Qfa p0).1 (Qfb p0).1 (Qfc p0).1 (Qfd p0).1), (Q2z p0))
  | .k1 => ((bn.mk eB 0 0 0 [] [] [] [] [] []), false))) := by
  rw [Q19g]
  have e : (bn.rdec p0).2 = (isM p0 && (Q58 p0).all id) := by
    simp only [bn.rdec, Q58, List.all_cons, List.all_nil, id, Bool.true_and, Q1k, Q1g, Qf9, Q42, Qfa, Qfb, Qfc, Qfd, Bool.and_assoc, Bool.and_left_comm, Bool.and_comm]
  have ag : (bn.rdec p0).2 = (bn.dec p0).2 ∧ ((bn.dec p0).2 = true → (bn.rdec p0).1 = (bn.dec p0).1) := bn.agr p0
  unfold Q13n
  rw [← ag.1, e]
  cases h : (Q58 p0).all id with
  | false => rw [Bool.and_false]; rfl
  | true =>
    cases hm : isM p0 with
    | true =>
      have hv := ag.2 (by rw [← ag.1, e, h, hm]; rfl)
      exact Prod.ext hv.symm hm.symm
    | false =>
      have hz : (bn.rdec p0).1 = (bn.mk eB 0 0 0 [] [] [] [] [] []) := by
        unfold bn.rdec
        simp only [dN, dS, dE, Qg1 (Q1zu hm)]
        rfl
      exact Prod.ext hz.symm hm.symm
def Q283 (p0 : Val) : En := .call 232 [.agg (Val.cells p0)] []
def Q1xa (p0 : Val) : Rs := .ret (.tup [.agg (bn.cells (Q13n p0).1), .bool (Q13n p0).2]) []
def Q1pt (p0 : Val) : Prop := Val.Sm 1000000000 p0
theorem Q4b (p0 : Val) (H : Q1pt p0) : (Q1pv p0) ∧ (Qkc p0) ∧ (Qpr p0) ∧ (Q13z p0) ∧ (Q1pw p0) ∧ (Q1px p0) ∧ (Q1q1 p0) ∧ (Q1q2 p0) ∧ (Qdv p0) ∧ True := by
  repeat' with_reducible apply And.intro
  all_goals first | exact True.intro | exact H | exact ⟨Nat.le_of_ble_eq_true rfl, trivial⟩ | exact Qg H _
theorem Q1jd (p0 : Val) (H : Q1pt p0) : Q0 G (Q283 p0) (Q1xa p0) := by
 unfold Q1xa
 rw [Q2b6]
 have hl0 := Q12s p0 ((Q4b p0 H).2.2.2.2.2.2.2.2.1) (Q58 p0) 0 (by simp)
 cases hr0 : (Q8e p0 (Q58 p0) 0) with
 | k0 =>
  rw [hr0] at hl0
  obtain ⟨z0, fA, hl0⟩ := hl0
  exact Q7 (fn := Ir.K38) (by kernel_rfl) VOK.nil [] [aN (Q20j p0 (Q4b p0 H).1), aN (Q7v p0 Q2v (Q4b p0 H).2.1), aN (Q6a p0 Q2w (Q4b p0 H).2.2.1), aN (Qz3 p0 Q18 (Q4b p0 H).2.2.2.1), aN (Q20k p0 (Q4b p0 H).2.2.2.2.1), aN (Q20l p0 (Q4b p0 H).2.2.2.2.2.1), aN (Q7v p0 Q1q (Q4b p0 H).2.1), aN (Q7v p0 Q21 (Q4b p0 H).2.1), aN (Q20m p0 (Q4b p0 H).2.2.2.2.2.2.1), aN (Q20n p0 (Q4b p0 H).2.2.2.2.2.2.2.1), aN hl0, aN (Q9w p0)] (by kernel_rfl)
 | k1 =>
  rw [hr0] at hl0
  obtain ⟨z0, fA, hl0⟩ := hl0
  exact Q7 (fn := Ir.K38) (by kernel_rfl) VOK.nil [] [aN (Q20j p0 (Q4b p0 H).1), aN (Q7v p0 Q2v (Q4b p0 H).2.1), aN (Q6a p0 Q2w (Q4b p0 H).2.2.1), aN (Qz3 p0 Q18 (Q4b p0 H).2.2.2.1), aN (Q20k p0 (Q4b p0 H).2.2.2.2.1), aN (Q20l p0 (Q4b p0 H).2.2.2.2.2.1), aN (Q7v p0 Q1q (Q4b p0 H).2.1), aN (Q7v p0 Q21 (Q4b p0 H).2.1), aN (Q20m p0 (Q4b p0 H).2.2.2.2.2.2.1), aN (Q20n p0 (Q4b p0 H).2.2.2.2.2.2.2.1), aN hl0] (by kernel_rfl)
def Q3w (p0 : Val) : List Val → Nat → (List aU) → Bool → (List aU) × Bool
 | [], _i0, ah, ay =>
  (ah, ay)
 | x0 :: r0, i0, ah, ay =>
  bif (ay == true) then
   Q3w p0 r0 (i0 + 1) (ah ++ [(aU.mk (Q1g x0 Q12).1 (Q1g x0 Q1t).1)]) (((Q2z x0) && (Q1g x0 Q12).2) && (Q1g x0 Q1t).2)
  else
   Q3w p0 r0 (i0 + 1) (ah ++ [(aU.mk (Q1g x0 Q12).1 (Q1g x0 Q1t).1)]) false
def Q1fp (p0 : Val) (i0 : Nat) (_ah : List aU) (ay : Bool) : List PV :=
  [.un, .bx 0 0, .bx 1 0, .un, .sl (Val.rows (Qd p0 Qk).1), .bool ay, .bx 2 0, iN (i0 : Int)] ++ nuns 77
def Qzv (p0 : Val) (_i0 : Nat) (ah : List aU) (_ay : Bool) : List Ob :=
  [⟨5, 0, true, (Val.cells p0)⟩, ⟨11, 0, true, [.ms 3 2 0 0, .str eB, iN 0, iN 0, iN 0, .ms 4 11 0 0, .ms 5 3 0 0, .ms 6 3 0 0, .ms 7 5 0 0, .ms 8 4 0 0, .ms 9 5 0 0]⟩, ⟨11, 0, true, [.ms 10 2 0 (List.length ah), .str eB, iN 0, iN 0, iN 0, .ms 11 11 0 0, .ms 12 3 0 0, .ms 13 3 0 0, .ms 14 5 0 0, .ms 15 4 0 0, .ms 16 5 0 0]⟩, ⟨2, 0, true, []⟩, ⟨11, 0, true, []⟩, ⟨3, 0, true, []⟩, ⟨3, 0, true, []⟩, ⟨5, 0, true, []⟩, ⟨4, 0, true, []⟩, ⟨5, 0, true, []⟩, ⟨2, 0, true, (aU.rows ah).flatten⟩, ⟨11, 0, true, []⟩, ⟨3, 0, true, []⟩, ⟨3, 0, true, []⟩, ⟨5, 0, true, []⟩, ⟨4, 0, true, []⟩, ⟨5, 0, true, []⟩]
def Qbh (p0 : Val) (i0 : Nat) (ah : List aU) (ay : Bool) : En := .loop 0 Ir.Qlj Ir.Q1o4 (Q1fp p0 i0 ah ay) (Qzv p0 i0 ah ay)
def Qso (p0 : Val) (q0 : List aU) (q1 : Bool) (z : Nat → PV) (_zo : Nat → List PV) : St :=
  ⟨[z 0, .bx 0 0, .bx 1 0, z 3, z 4, .bool q1, .bx 2 0] ++ zr z 7 78, [(0, ⟨5, 0, true, (Val.cells p0)⟩), (1, ⟨11, 0, true, [.ms 3 2 0 0, .str eB, iN 0, iN 0, iN 0, .ms 4 11 0 0, .ms 5 3 0 0, .ms 6 3 0 0, .ms 7 5 0 0, .ms 8 4 0 0, .ms 9 5 0 0]⟩), (2, ⟨11, 0, true, [.ms 10 2 0 (List.length q0), .str eB, iN 0, iN 0, iN 0, .ms 11 11 0 0, .ms 12 3 0 0, .ms 13 3 0 0, .ms 14 5 0 0, .ms 15 4 0 0, .ms 16 5 0 0]⟩), (3, ⟨2, 0, true, []⟩), (4, ⟨11, 0, true, []⟩), (5, ⟨3, 0, true, []⟩), (6, ⟨3, 0, true, []⟩), (7, ⟨5, 0, true, []⟩), (8, ⟨4, 0, true, []⟩), (9, ⟨5, 0, true, []⟩), (10, ⟨2, 0, true, (aU.rows q0).flatten⟩), (11, ⟨11, 0, true, []⟩), (12, ⟨3, 0, true, []⟩), (13, ⟨3, 0, true, []⟩), (14, ⟨5, 0, true, []⟩), (15, ⟨4, 0, true, []⟩), (16, ⟨5, 0, true, []⟩)], 273⟩
theorem Qy2 (p0 : Val) (i0 : Nat) (ah : List aU) (ay : Bool) : VOK (Go.Pv.look (number 0 (Qzv p0 i0 ah ay))) [(10, aU.rows ah)] := (VOK.cons (show Seen _ _ from Q4a (ob := ⟨2, 0, true, (aU.rows ah).flatten⟩) (aU.Q8 ah 2 rfl)) VOK.nil)
def Qjc (p0 : Val) (e : En) (q : (List aU) × Bool) : Prop := ∃ z zo, Q0 G e (.st (.exit 0) (Qso p0 q.1 q.2 z zo))
theorem Qeh (p0 : Val) {e e' : En} (h : ∀ r, Q0 G e r → Q0 G e' r) : ∀ q, Qjc p0 e q → Qjc p0 e' q
  | _, ⟨z, zo, hz⟩ => ⟨z, zo, h _ hz⟩
def Qbq (p0 : Val) : Prop := (List.length (Qd p0 Qk).1 ≤ 137438953472) ∧ (∀ x0 ∈ (Qd p0 Qk).1, Qpr x0) ∧ True
def Quq (p0 : Val) (i0 : Nat) (_ah : List aU) (_ay : Bool) : List PV :=
  [.un, .un, .un, .un, .sl (Val.rows (Qd p0 Qk).1), .un, .un, iN (i0 : Int)] ++ nuns 12 ++ [iN (i0 : Int), .sl (Val.rows (Qd p0 Qk).1), iN ((List.length (Qd p0 Qk).1) : Int), .bool false]
def Qne (_p0 : Val) (_i0 : Nat) (_ah : List aU) (_ay : Bool) : List (Nat × List PV) :=
  []
theorem Q1e4 (p0 : Val) (_H : Qbq p0) (i0 : Nat) (ah : List aU) (ay : Bool) (_aP : List.length ah ≤ i0) (bC : (decide ((i0 : Int) < ((List.length (Qd p0 Qk).1) : Int))) = false) : Qjc p0 (Qbh p0 i0 ah ay) (ah, ay) := by
 exact ⟨(envF (Quq p0 i0 ah ay)), (zoF (Qne p0 i0 ah ay)), Qh (Qy2 p0 i0 ah ay) (x := ((.exit 0), Qso p0 ah ay (envF (Quq p0 i0 ah ay)) (zoF (Qne p0 i0 ah ay)))) [hP 2 (Qs _ _ (Val.Q5 (Qd p0 Qk).1)), hB 0 bC] [] (by kernel_rfl)⟩
theorem Q1bp (p0 : Val) (H : Qbq p0) (x0 : Val) (i0 : Nat) (ah : List aU) (ay : Bool) (bF : (Qd p0 Qk).1[i0]? = some x0) (bR : i0 < List.length (Qd p0 Qk).1) (aP : List.length ah ≤ i0) (bC : (decide ((i0 : Int) < ((List.length (Qd p0 Qk).1) : Int))) = true) (h0 : (ay == true) = true) {r : Rs} (hr : Q0 G (Qbh p0 (i0 + 1) (ah ++ [(aU.mk (Q1g x0 Q12).1 (Q1g x0 Q1t).1)]) (((Q2z x0) && (Q1g x0 Q12).2) && (Q1g x0 Q1t).2)) r) : Q0 G (Qbh p0 i0 ah ay) r := by
 have hB0 := H.1
 exact Qc (Qy2 p0 i0 ah ay) [hP 2 (Qs _ _ (Val.Q5 (Qd p0 Qk).1)), hB 0 bC, hP 2 (Q1l 5 _ i0 _ (Val.Qb bF) rfl), hP 9 (Q1l 5 _ i0 _ (Val.Qb bF) rfl), hA 13 10 1873 1937 2 32 0 0 true aU.Q5 aU.Q1n ah (aU.mk (Q1g x0 Q12).1 (Q1g x0 Q1t).1) (aU.Qw ah) rfl rfl (by omega), hS 0 true (aU.Q8 (ah ++ [(aU.mk (Q1g x0 Q12).1 (Q1g x0 Q1t).1)]) 2 rfl), hB 2 (beqT h0), hP 3 (Q1l 5 _ i0 _ (Val.Qb bF) rfl), hP 4 (Q6v (Q2z x0) (.bool (Q1g x0 Q12).2)), hP 0 (Q6w (Q2z x0) (Q1g x0 Q12).2), hP 1 (Q6v ((Q2z x0) && (Q1g x0 Q12).2) (.bool (Q1g x0 Q1t).2)), hP 0 (Q6w ((Q2z x0) && (Q1g x0 Q12).2) (Q1g x0 Q1t).2), hP 2 (Q26 i0 (by omega))] [aN (Q6a x0 Q12 (H.2.1 x0 (Q1i bF))), aN (Q6a x0 Q1t (H.2.1 x0 (Q1i bF))), aN (Q9w x0)] hr (by kernel_rfl)
theorem Q1bq (p0 : Val) (H : Qbq p0) (x0 : Val) (i0 : Nat) (ah : List aU) (ay : Bool) (bF : (Qd p0 Qk).1[i0]? = some x0) (bR : i0 < List.length (Qd p0 Qk).1) (aP : List.length ah ≤ i0) (bC : (decide ((i0 : Int) < ((List.length (Qd p0 Qk).1) : Int))) = true) (h0 : (ay == true) = false) {r : Rs} (hr : Q0 G (Qbh p0 (i0 + 1) (ah ++ [(aU.mk (Q1g x0 Q12).1 (Q1g x0 Q1t).1)]) false) r) : Q0 G (Qbh p0 i0 ah ay) r := by
 have hB0 := H.1
 exact Qc (Qy2 p0 i0 ah ay) [hP 2 (Qs _ _ (Val.Q5 (Qd p0 Qk).1)), hB 0 bC, hP 2 (Q1l 5 _ i0 _ (Val.Qb bF) rfl), hP 9 (Q1l 5 _ i0 _ (Val.Qb bF) rfl), hA 13 10 1873 1937 2 32 0 0 true aU.Q5 aU.Q1n ah (aU.mk (Q1g x0 Q12).1 (Q1g x0 Q1t).1) (aU.Qw ah) rfl rfl (by omega), hS 0 true (aU.Q8 (ah ++ [(aU.mk (Q1g x0 Q12).1 (Q1g x0 Q1t).1)]) 2 rfl), hB 2 (beqT h0), hP 15 (Q26 i0 (by omega))] [aN (Q6a x0 Q12 (H.2.1 x0 (Q1i bF))), aN (Q6a x0 Q1t (H.2.1 x0 (Q1i bF)))] hr (by kernel_rfl)
theorem Qor (p0 : Val) (H : Qbq p0) : ∀ (r0 : List Val) (i0 : Nat) (ah : List aU) (ay : Bool), List.drop i0 (Qd p0 Qk).1 = r0 → List.length ah ≤ i0 → Qjc p0 (Qbh p0 i0 ah ay) (Q3w p0 r0 i0 ah ay)
 | [], i0, ah, ay, hd, aP => by
  have bC : (decide ((i0 : Int) < ((List.length (Qd p0 Qk).1) : Int))) = false := by have := Q1o hd; simp; omega
  rw [Q3w]
  exact Q1e4 p0 H i0 ah ay aP bC
 | x0 :: r0, i0, ah, ay, hd, aP => by
  obtain ⟨bF, bR, hd'⟩ := Q1p hd
  have bC : (decide ((i0 : Int) < ((List.length (Qd p0 Qk).1) : Int))) = true := by simp; omega
  rw [Q3w]
  cases h0 : (ay == true) with
  | true =>
   exact Qeh p0 (fun r hr => Q1bp p0 H x0 i0 ah ay bF bR aP bC h0 hr) _ (Qor p0 H r0 _ _ _ hd' (by first | omega | (simp; omega)))
  | false =>
   exact Qeh p0 (fun r hr => Q1bq p0 H x0 i0 ah ay bF bR aP bC h0 hr) _ (Qor p0 H r0 _ _ _ hd' (by first | omega | (simp; omega)))
def Q13o (p0 : Val) : aY × Int := Qq0 p0
theorem Qyq (p0 : Val) : ∀ (l : List Val) (i : Nat) (a : List aU) (b : Bool), Q3w p0 l i a b = (a ++ l.map (fun x => (aU.dec x).1), b && l.all fun x => (aU.dec x).2)
  | [], _, a, b => by rw [Q3w]; simp
  | x :: l, i, a, b => by
    rw [Q3w]
    cases b with
    | false => exact (Qyq p0 l (i + 1) (a ++ [(aU.dec x).1]) false).trans (by simp only [List.append_assoc, List.singleton_append, List.map_cons, List.all_cons, Bool.false_and])
    | true => exact (Qyq p0 l (i + 1) (a ++ [(aU.dec x).1]) (aU.dec x).2).trans (by simp only [List.append_assoc, List.singleton_append, List.map_cons, List.all_cons, Bool.true_and])
theorem Q2b7 (p0 : Val) : Q13o p0 = (bif (Q13n (Q3t p0 Q38)).2 then
    bif (Q3w p0 (Qd p0 Qk).1 0 [] (Qd p0 Qk).2).2 then
      bif (Q2z p0) then
        ((aY.mk (Q3w p0 (Qd p0 Qk).1 0 [] (Qd p0 Qk).2).1 (Q13n (Q3t p0 Q38)).1), 0)
      else
        ((aY.mk [] (bn.mk eB 0 0 0 [] [] [] [] [] [])), 6)
    else
      ((aY.mk [] (bn.mk eB 0 0 0 [] [] [] [] [] [])), 6)
  else
    bif (Q3w p0 (Qd p0 Qk).1 0 [] (Qd p0 Qk).2).2 then
      ((aY.mk [] (bn.mk eB 0 0 0 [] [] [] [] [] [])), 6)
    else
      ((aY.mk [] (bn.mk eB 0 0 0 [] [] [] [] [] [])), 6)) := by
  have q : Q3w p0 (Qd p0 Qk).1 0 [] (Qd p0 Qk).2 = dE aU.dec p0 Qk := Qyq p0 _ 0 [] _
  rw [q]
  unfold Q13o Qq0
  have e : (aY.dec p0).2 = (isM p0 && ((dE aU.dec p0 Qk).2 && (bn.dec (prt p0 Q38)).2)) := by
    unfold aY.dec
    rw [Bool.and_assoc]
  rw [e]
  simp only [Q13n, Q3t, Q2z]
  cases h1 : (bn.dec (prt p0 Q38)).2 <;> cases h2 : (dE aU.dec p0 Qk).2 <;> cases h3 : (isM p0) <;> rfl
def Q284 (p0 : Val) : En := .call 202 [.agg (Val.cells p0)] []
def Q1xb (p0 : Val) : Rs := .ret (.tup [.agg (aY.cells (Q13o p0).1), iN (Q13o p0).2]) []
def Q1pu (p0 : Val) : Prop := Val.Sm 1000000000 p0
theorem Q59 (p0 : Val) (H : Q1pu p0) : (Qgo p0) ∧ (Qbq p0) ∧ (Qpq p0) ∧ (Q1pt (Q3t p0 Q38)) ∧ True := by
  have hl := Q71 (Qg H Qk)
  have g : ∀ x ∈ (dL p0 Qk).1, Val.Sm sB x := hl.2
  refine ⟨H, ?_, H, Qg H _, trivial⟩
  unfold Qbq
  refine ⟨Nat.le_trans hl.1 (Nat.le_of_ble_eq_true rfl), ?_⟩
  repeat' with_reducible apply And.intro
  all_goals first | exact True.intro | exact g
theorem Q2fs (p0 : Val) (H : Q1pu p0) : Q0 G (Q284 p0) (Q1xb p0) := by
 unfold Q1xb
 rw [Q2b7]
 have hl0 := Qor p0 ((Q59 p0 H).2.1) (Qd p0 Qk).1 0 [] (Qd p0 Qk).2 (by simp) (by simp)
 obtain ⟨z0, fA, hl0⟩ := hl0
 cases h0 : (Q13n (Q3t p0 Q38)).2 with
 | true =>
  cases h1 : (Q3w p0 (Qd p0 Qk).1 0 [] (Qd p0 Qk).2).2 with
  | true =>
   cases h2 : (Q2z p0) with
   | true =>
    exact Q7 (fn := Ir.K39) (by kernel_rfl) VOK.nil [hS 0 true (aU.Q8 (Q3w p0 (Qd p0 Qk).1 0 [] (Qd p0 Qk).2).1 2 rfl), hB 19 h0, hB 3 h1, hQ (aU.Q5 (Q3w p0 (Qd p0 Qk).1 0 [] (Qd p0 Qk).2).1).symm] [aN (Qfi p0 Qk (Q59 p0 H).1), aV [(10, aU.rows (Q3w p0 (Qd p0 Qk).1 0 [] (Qd p0 Qk).2).1)] hl0, aN (Qci p0 Q38 (Q59 p0 H).2.2.1), aN (Q1jd (Q3t p0 Q38) (Q59 p0 H).2.2.2.1), aB (Q9w p0) h2] (by kernel_rfl)
   | false =>
    exact Q7 (fn := Ir.K39) (by kernel_rfl) VOK.nil [hS 0 true (aU.Q8 (Q3w p0 (Qd p0 Qk).1 0 [] (Qd p0 Qk).2).1 2 rfl), hB 19 h0, hB 3 h1] [aN (Qfi p0 Qk (Q59 p0 H).1), aV [(10, aU.rows (Q3w p0 (Qd p0 Qk).1 0 [] (Qd p0 Qk).2).1)] hl0, aN (Qci p0 Q38 (Q59 p0 H).2.2.1), aN (Q1jd (Q3t p0 Q38) (Q59 p0 H).2.2.2.1), aB (Q9w p0) h2] (by kernel_rfl)
  | false =>
   exact Q7 (fn := Ir.K39) (by kernel_rfl) VOK.nil [hS 0 true (aU.Q8 (Q3w p0 (Qd p0 Qk).1 0 [] (Qd p0 Qk).2).1 2 rfl), hB 19 h0, hB 3 h1] [aN (Qfi p0 Qk (Q59 p0 H).1), aV [(10, aU.rows (Q3w p0 (Qd p0 Qk).1 0 [] (Qd p0 Qk).2).1)] hl0, aN (Qci p0 Q38 (Q59 p0 H).2.2.1), aN (Q1jd (Q3t p0 Q38) (Q59 p0 H).2.2.2.1)] (by kernel_rfl)
 | false =>
  cases h1 : (Q3w p0 (Qd p0 Qk).1 0 [] (Qd p0 Qk).2).2 with
  | true =>
   exact Q7 (fn := Ir.K39) (by kernel_rfl) VOK.nil [hS 0 true (aU.Q8 (Q3w p0 (Qd p0 Qk).1 0 [] (Qd p0 Qk).2).1 2 rfl), hB 19 h0, hB 3 h1] [aN (Qfi p0 Qk (Q59 p0 H).1), aV [(10, aU.rows (Q3w p0 (Qd p0 Qk).1 0 [] (Qd p0 Qk).2).1)] hl0, aN (Qci p0 Q38 (Q59 p0 H).2.2.1), aN (Q1jd (Q3t p0 Q38) (Q59 p0 H).2.2.2.1)] (by kernel_rfl)
  | false =>
   exact Q7 (fn := Ir.K39) (by kernel_rfl) VOK.nil [hS 0 true (aU.Q8 (Q3w p0 (Qd p0 Qk).1 0 [] (Qd p0 Qk).2).1 2 rfl), hB 19 h0, hB 3 h1] [aN (Qfi p0 Qk (Q59 p0 H).1), aV [(10, aU.rows (Q3w p0 (Qd p0 Qk).1 0 [] (Qd p0 Qk).2).1)] hl0, aN (Qci p0 Q38 (Q59 p0 H).2.2.1), aN (Q1jd (Q3t p0 Q38) (Q59 p0 H).2.2.2.1)] (by kernel_rfl)
end Go.Proofs.YtimjjohlpnkacaaGreat
end

