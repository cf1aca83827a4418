/- Texts of the claim, merged by a program; what the statement does not reach is left out. -/
import Derived.Test.YtimjjohlpnkacaaGreatBWorkcodecReads7

section
/- What chapter 19's decoders compute (printed by a program). -/
namespace Go.Proofs.YtimjjohlpnkacaaGreat
open Go.Pv
inductive Q14z where
  | k0
  | k1 (q0 : Val)
def Q58 (p0 : Val) (p1 : BA) : List Fld → Nat → Q14z
 | [], _i0 =>
  (.k0)
 | x0 :: r0, i0 =>
  bif (p0.kind == 5) then
   bif (sEq x0.name p1) then
    (.k1 x0.v)
   else
    Q58 p0 p1 r0 (i0 + 1)
  else
   Q58 p0 p1 r0 (i0 + 1)
def Q1eu (_p0 : Val) (p1 : BA) (i0 : Nat) : List PV :=
  [.un, .str p1, .bx 0 0, .un, .bx 1 0, iN (i0 : Int)] ++ nuns 27
def Q1fu (p0 : Val) (_p1 : BA) (_i0 : Nat) : List Ob :=
  [⟨5, 0, true, (Val.cells p0)⟩, ⟨5, 0, true, [iN 0, iN 0, .str eB, .ms 2 5 0 0, .ms 3 6 0 0]⟩, ⟨5, 0, true, []⟩, ⟨6, 0, true, []⟩]
def Q9l (p0 : Val) (p1 : BA) (i0 : Nat) : En := .loop 0 Ir.Qkw Ir.Q1n9 (Q1eu p0 p1 i0) (Q1fu p0 p1 i0)
def Qrq (p0 : Val) (_p1 : BA) (z : Nat → PV) (_zo : Nat → List PV) : St :=
  ⟨[z 0, z 1, z 2, z 3, .bx 1 0] ++ zr z 5 28, [(0, ⟨5, 0, true, (Val.cells p0)⟩), (1, ⟨5, 0, true, [iN 0, iN 0, .str eB, .ms 2 5 0 0, .ms 3 6 0 0]⟩), (2, ⟨5, 0, true, []⟩), (3, ⟨6, 0, true, []⟩)], 324⟩
def Qrr (_p0 : Val) (_p1 : BA) (q0 : Val) (z : Nat → PV) (zo : Nat → List PV) : St :=
  ⟨[z 0, z 1, z 2, z 3, .bx 1 0] ++ zr z 5 28, [(0, ⟨5, 0, true, zo 0⟩), (1, ⟨5, 0, true, (Val.cells q0)⟩), (2, ⟨5, 0, true, zo 2⟩), (3, ⟨6, 0, true, zo 3⟩)], 1604⟩
def Qdp (p0 : Val) (p1 : BA) (e : En) : Q14z → Prop
  | .k0 => ∃ z zo, Q5 G e (.st (.exit 0) (Qrq p0 p1 z zo))
  | .k1 q0 => ∃ z zo, Q5 G e (.st .ret (Qrr p0 p1 q0 z zo))
theorem Qdq (p0 : Val) (p1 : BA) {e e' : En} (h : ∀ r, Q5 G e r → Q5 G e' r) : ∀ q, Qdp p0 p1 e q → Qdp p0 p1 e' q
  | .k0, ⟨z, zo, hz⟩ => ⟨z, zo, h _ hz⟩
  | .k1 _, ⟨z, zo, hz⟩ => ⟨z, zo, h _ hz⟩
def Qb8 (p0 : Val) (_p1 : BA) : Prop := (List.length p0.fields ≤ 4611686018427387904) ∧ True
def Qtr (p0 : Val) (p1 : BA) (i0 : Nat) : List PV :=
  [.un, .str p1, .bx 0 0, .un, .un, iN (i0 : Int), iN (i0 : Int), .bx 0 4, .sl (Fld.rows p0.fields), iN ((List.length p0.fields) : Int), .bool false]
def Qmp (_p0 : Val) (_p1 : BA) (_i0 : Nat) : List (Nat × List PV) :=
  []
theorem Q1d7 (p0 : Val) (p1 : BA) (_H : Qb8 p0 p1) (i0 : Nat) (bF : (decide ((i0 : Int) < ((List.length p0.fields) : Int))) = false) : Qdp p0 p1 (Q9l p0 p1 i0) (.k0) := by
 exact ⟨(envF (Qtr p0 p1 i0)), (zoF (Qmp p0 p1 i0)), Qg VOK.nil (x := ((.exit 0), Qrq p0 p1 (envF (Qtr p0 p1 i0)) (zoF (Qmp p0 p1 i0)))) [hP 3 (Qq _ _ (Fld.Q7 p0.fields)), hB 0 bF] [] (by kernel_rfl)⟩
def Qts (p0 : Val) (p1 : BA) (i0 : Nat) (x0 : Fld) : List PV :=
  [.un, .str p1, .bx 0 0, .un, .un, iN (i0 : Int), iN (i0 : Int), .bx 0 4, .sl (Fld.rows p0.fields), iN ((List.length p0.fields) : Int), .bool true, .un, .un, .bx 0 0, iN p0.kind, .bool true, .bool true, .bx 0 4, .sl (Fld.rows p0.fields), iN (i0 : Int), .rf [.str x0.name, iN x0.v.kind, iN x0.v.n, .str x0.v.s, .sl (Val.rows x0.v.list), .sl (Fld.rows x0.v.fields)], .rf [.str x0.name, iN x0.v.kind, iN x0.v.n, .str x0.v.s, .sl (Val.rows x0.v.list), .sl (Fld.rows x0.v.fields)], .str x0.name, .str p1, .bool true, .bool true, .bx 0 4, .sl (Fld.rows p0.fields), iN (i0 : Int), .rf [.str x0.name, iN x0.v.kind, iN x0.v.n, .str x0.v.s, .sl (Val.rows x0.v.list), .sl (Fld.rows x0.v.fields)], .rf [iN x0.v.kind, iN x0.v.n, .str x0.v.s, .sl (Val.rows x0.v.list), .sl (Fld.rows x0.v.fields)], .agg [iN x0.v.kind, iN x0.v.n, .str x0.v.s, .sl (Val.rows x0.v.list), .sl (Fld.rows x0.v.fields)]]
def Qmq (p0 : Val) (_p1 : BA) (_i0 : Nat) (_x0 : Fld) : List (Nat × List PV) :=
  [(0, (Val.cells p0)), (2, []), (3, [])]
theorem Q1d8 (p0 : Val) (p1 : BA) (_H : Qb8 p0 p1) (x0 : Fld) (i0 : Nat) (bH : p0.fields[i0]? = some x0) (_bT : i0 < List.length p0.fields) (bF : (decide ((i0 : Int) < ((List.length p0.fields) : Int))) = true) (h0 : (p0.kind == 5) = true) (h1 : (sEq x0.name p1) = true) : Qdp p0 p1 (Q9l p0 p1 i0) (.k1 x0.v) := by
 exact ⟨(envF (Qts p0 p1 i0 x0)), (zoF (Qmq p0 p1 i0 x0)), Qg VOK.nil (x := (.ret, Qrr p0 p1 x0.v (envF (Qts p0 p1 i0 x0)) (zoF (Qmq p0 p1 i0 x0)))) [hP 3 (Qq _ _ (Fld.Q7 p0.fields)), hB 0 bF, hB 2 h0, hP 4 (Q1f 6 _ i0 _ (Fld.Qb bH) rfl), hB 3 h1, hP 4 (Q1f 6 _ i0 _ (Fld.Qb bH) rfl)] [] (by kernel_rfl)⟩
theorem Q1am (p0 : Val) (p1 : BA) (H : Qb8 p0 p1) (x0 : Fld) (i0 : Nat) (bH : p0.fields[i0]? = some x0) (bT : i0 < List.length p0.fields) (bF : (decide ((i0 : Int) < ((List.length p0.fields) : Int))) = true) (h0 : (p0.kind == 5) = true) (h1 : (sEq x0.name p1) = false) {r : Rs} (hr : Q5 G (Q9l p0 p1 (i0 + 1)) r) : Q5 G (Q9l p0 p1 i0) r := by
 have hB0 := H.1; have e0 := eq_of_beq h0
 exact Qc VOK.nil [hP 3 (Qq _ _ (Fld.Q7 p0.fields)), hB 0 bF, hB 2 h0, hP 4 (Q1f 6 _ i0 _ (Fld.Qb bH) rfl), hB 3 h1, hP 2 (Q26 i0 (by omega))] [] hr (by kernel_rfl)
theorem Q1an (p0 : Val) (p1 : BA) (H : Qb8 p0 p1) (x0 : Fld) (i0 : Nat) (_bH : p0.fields[i0]? = some x0) (bT : i0 < List.length p0.fields) (bF : (decide ((i0 : Int) < ((List.length p0.fields) : Int))) = true) (h0 : (p0.kind == 5) = false) {r : Rs} (hr : Q5 G (Q9l p0 p1 (i0 + 1)) r) : Q5 G (Q9l p0 p1 i0) r := by
 have hB0 := H.1; have e0 := beq_eq_false_iff_ne.1 h0
 exact Qc VOK.nil [hP 3 (Qq _ _ (Fld.Q7 p0.fields)), hB 0 bF, hB 2 h0, hP 11 (Q26 i0 (by omega))] [] hr (by kernel_rfl)
theorem Qo6 (p0 : Val) (p1 : BA) (H : Qb8 p0 p1) : ∀ (r0 : List Fld) (i0 : Nat), List.drop i0 p0.fields = r0 → Qdp p0 p1 (Q9l p0 p1 i0) (Q58 p0 p1 r0 i0)
 | [], i0, hd => by
  have bF : (decide ((i0 : Int) < ((List.length p0.fields) : Int))) = false := by have := Q1n hd; simp; omega
  rw [Q58]
  exact Q1d7 p0 p1 H i0 bF
 | x0 :: r0, i0, hd => by
  obtain ⟨bH, bT, hd'⟩ := Q1o hd
  have bF : (decide ((i0 : Int) < ((List.length p0.fields) : Int))) = true := by simp; omega
  rw [Q58]
  cases h0 : (p0.kind == 5) with
  | true =>
   cases h1 : (sEq x0.name p1) with
   | true =>
    exact Q1d8 p0 p1 H x0 i0 bH bT bF h0 h1
   | false =>
    exact Qdq p0 p1 (fun r hr => Q1am p0 p1 H x0 i0 bH bT bF h0 h1 hr) _ (Qo6 p0 p1 H r0 _ hd')
  | false =>
   exact Qdq p0 p1 (fun r hr => Q1an p0 p1 H x0 i0 bH bT bF h0 hr) _ (Qo6 p0 p1 H r0 _ hd')
def Q3f (p0 : Val) (p1 : BA) : Val := prt p0 p1
theorem Q1ob (p0 : Val) (p1 : BA) (h : (p0.kind == 5) = true) : ∀ (l : List Fld) (i : Nat), (match Q58 p0 p1 l i with | .k0 => vZ | .k1 y => y) = Q11c p1 l
  | [], _ => by rw [Q58]; rfl
  | x :: l, i => by
    rw [Q58, h, cond_true, Q11c]
    cases sEq x.name p1 with
    | true => rfl
    | false => exact Q1ob p0 p1 h l (i + 1)
theorem Q1i2 (p0 : Val) (p1 : BA) (h : (p0.kind == 5) = false) : ∀ (l : List Fld) (i : Nat), (match Q58 p0 p1 l i with | .k0 => vZ | .k1 y => y) = vZ
  | [], _ => by rw [Q58]
  | x :: l, i => by
    rw [Q58, h, cond_false]
    exact Q1i2 p0 p1 h l (i + 1)
theorem Q2au (p0 : Val) (p1 : BA) : Q3f p0 p1 = ((match (Q58 p0 p1 p0.fields 0) with
  | .k0 => (Val.mk 0 0 eB [] [])
  | .k1 jg => jg)) := by
  unfold Q3f prt
  cases h : (p0.kind == 5) with
  | true => exact (Q1ob p0 p1 h _ _).symm
  | false => exact (Q1i2 p0 p1 h _ _).symm
def Q27h (p0 : Val) (p1 : BA) : En := .call 203 [.agg (Val.cells p0), .str p1] []
def Q1wi (p0 : Val) (p1 : BA) : Rs := .ret (.agg (Val.cells (Q3f p0 p1))) []
def Qpd (p0 : Val) : Prop := Val.Sm 1000000000 p0
theorem Q1l0 (p0 : Val) (p1 : BA) (H : Qpd p0) : (Qb8 p0 p1) ∧ True := by
  exact ⟨⟨Nat.le_trans H.all.2.1 (Nat.le_of_ble_eq_true rfl), trivial⟩, trivial⟩
theorem Qc4 (p0 : Val) (p1 : BA) (H : Qpd p0) : Q5 G (Q27h p0 p1) (Q1wi p0 p1) := by
 unfold Q1wi
 rw [Q2au]
 have hl0 := Qo6 p0 p1 ((Q1l0 p0 p1 H).1) p0.fields 0 (by simp)
 cases hr0 : (Q58 p0 p1 p0.fields 0) with
 | k0 =>
  rw [hr0] at hl0
  obtain ⟨z0, eG, hl0⟩ := hl0
  exact Q6 (fn := Ir.K34) (by kernel_rfl) VOK.nil [] [aN hl0] (by kernel_rfl)
 | k1 jg =>
  rw [hr0] at hl0
  obtain ⟨z0, eG, hl0⟩ := hl0
  exact Q6 (fn := Ir.K34) (by kernel_rfl) VOK.nil [] [aN hl0] (by kernel_rfl)
def Q2u (p0 : Val) : Bool := isM p0
theorem Q2at (p0 : Val) : Q2u p0 = (bif (p0.kind == 5) then
    true
  else
    (p0.kind == 0)) := by
  unfold Q2u isM
  cases (p0.kind == 5) <;> rfl
def Q27g (p0 : Val) : En := .call 208 [.agg (Val.cells p0)] []
def Q1wh (p0 : Val) : Rs := .ret (.bool (Q2u p0)) []
theorem Q9h (p0 : Val) : Q5 G (Q27g p0) (Q1wh p0) := by
 unfold Q1wh
 rw [Q2at]
 cases h0 : (p0.kind == 5) with
 | true =>
  exact Q6 (fn := Ir.K33) (by kernel_rfl) VOK.nil [hB 4 h0] [] (by kernel_rfl)
 | false =>
  exact Q6 (fn := Ir.K33) (by kernel_rfl) VOK.nil [hB 4 h0] [] (by kernel_rfl)
def Q1g (p0 : Val) (p1 : BA) : Int × Bool := dN p0 p1
theorem Q2as (p0 : Val) (p1 : BA) : Q1g p0 p1 = (bif ((Q3f p0 p1).kind == 2) then
    ((Q3f p0 p1).n, true)
  else
    (0, ((Q3f p0 p1).kind == 0))) := by
  rfl
def Q27f (p0 : Val) (p1 : BA) : En := .call 200 [.agg (Val.cells p0), .str p1] []
def Q1wg (p0 : Val) (p1 : BA) : Rs := .ret (.tup [iN (Q1g p0 p1).1, .bool (Q1g p0 p1).2]) []
def Qjs (p0 : Val) : Prop := Val.Sm 1000000000 p0
theorem Q16o (p0 : Val) (_p1 : BA) (H : Qjs p0) : (Qpd p0) ∧ True := by
  exact ⟨H, trivial⟩
theorem Q78 (p0 : Val) (p1 : BA) (H : Qjs p0) : Q5 G (Q27f p0 p1) (Q1wg p0 p1) := by
 unfold Q1wg
 rw [Q2as]
 cases h0 : ((Q3f p0 p1).kind == 2) with
 | true =>
  exact Q6 (fn := Ir.K32) (by kernel_rfl) VOK.nil [hB 10 h0] [aN (Qc4 p0 p1 (Q16o p0 p1 H).1)] (by kernel_rfl)
 | false =>
  exact Q6 (fn := Ir.K32) (by kernel_rfl) VOK.nil [hB 10 h0] [aN (Qc4 p0 p1 (Q16o p0 p1 H).1)] (by kernel_rfl)
def Q19 (p0 : Val) (p1 : BA) : ByteArray × Bool := dS p0 p1
theorem Q2aw (p0 : Val) (p1 : BA) : Q19 p0 p1 = (bif ((Q3f p0 p1).kind == 3) then
    ((Q3f p0 p1).s, true)
  else
    (eB, ((Q3f p0 p1).kind == 0))) := by
  rfl
def Q27j (p0 : Val) (p1 : BA) : En := .call 209 [.agg (Val.cells p0), .str p1] []
def Q1wk (p0 : Val) (p1 : BA) : Rs := .ret (.tup [.str (Q19 p0 p1).1, .bool (Q19 p0 p1).2]) []
def Qpe (p0 : Val) : Prop := Val.Sm 1000000000 p0
theorem Q16q (p0 : Val) (_p1 : BA) (H : Qpe p0) : (Qpd p0) ∧ True := by
  exact ⟨H, trivial⟩
theorem Q5i (p0 : Val) (p1 : BA) (H : Qpe p0) : Q5 G (Q27j p0 p1) (Q1wk p0 p1) := by
 unfold Q1wk
 rw [Q2aw]
 cases h0 : ((Q3f p0 p1).kind == 3) with
 | true =>
  exact Q6 (fn := Ir.K36) (by kernel_rfl) VOK.nil [hB 10 h0] [aN (Qc4 p0 p1 (Q16q p0 p1 H).1)] (by kernel_rfl)
 | false =>
  exact Q6 (fn := Ir.K36) (by kernel_rfl) VOK.nil [hB 10 h0] [aN (Qc4 p0 p1 (Q16q p0 p1 H).1)] (by kernel_rfl)
def Q2m (p0 : Val) (p1 : BA) : Bool × Bool := dB p0 p1
theorem Q2b0 (p0 : Val) (p1 : BA) : Q2m p0 p1 = (bif ((Q3f p0 p1).kind == 1) then
    ((!((Q3f p0 p1).n == 0)), true)
  else
    (false, ((Q3f p0 p1).kind == 0))) := by
  rfl
def Q27n (p0 : Val) (p1 : BA) : En := .call 204 [.agg (Val.cells p0), .str p1] []
def Q1wo (p0 : Val) (p1 : BA) : Rs := .ret (.tup [.bool (Q2m p0 p1).1, .bool (Q2m p0 p1).2]) []
def Q137 (p0 : Val) : Prop := Val.Sm 1000000000 p0
theorem Q16r (p0 : Val) (_p1 : BA) (H : Q137 p0) : (Qpd p0) ∧ True := by
  exact ⟨H, trivial⟩
theorem Qp6 (p0 : Val) (p1 : BA) (H : Q137 p0) : Q5 G (Q27n p0 p1) (Q1wo p0 p1) := by
 unfold Q1wo
 rw [Q2b0]
 cases h0 : ((Q3f p0 p1).kind == 1) with
 | true =>
  exact Q6 (fn := Ir.K3a) (by kernel_rfl) VOK.nil [hB 10 h0] [aN (Qc4 p0 p1 (Q16r p0 p1 H).1)] (by kernel_rfl)
 | false =>
  exact Q6 (fn := Ir.K3a) (by kernel_rfl) VOK.nil [hB 10 h0] [aN (Qc4 p0 p1 (Q16r p0 p1 H).1)] (by kernel_rfl)
def Qd (p0 : Val) (p1 : BA) : List Val × Bool := dL p0 p1
theorem Q2ar (p0 : Val) (p1 : BA) : Qd p0 p1 = (bif ((Q3f p0 p1).kind == 4) then
    ((Q3f p0 p1).list, true)
  else
    ([], ((Q3f p0 p1).kind == 0))) := by
  rfl
def Q27e (p0 : Val) (p1 : BA) : En := .call 207 [.agg (Val.cells p0), .str p1] []
def Q1wf (p0 : Val) (p1 : BA) : Rs := .ret (.tup [.sl (Val.rows (Qd p0 p1).1), .bool (Qd p0 p1).2]) []
def Qfu (p0 : Val) : Prop := Val.Sm 1000000000 p0
theorem Q16n (p0 : Val) (_p1 : BA) (H : Qfu p0) : (Qpd p0) ∧ True := by
  exact ⟨H, trivial⟩
theorem Qev (p0 : Val) (p1 : BA) (H : Qfu p0) : Q5 G (Q27e p0 p1) (Q1wf p0 p1) := by
 unfold Q1wf
 rw [Q2ar]
 cases h0 : ((Q3f p0 p1).kind == 4) with
 | true =>
  exact Q6 (fn := Ir.K31) (by kernel_rfl) VOK.nil [hB 10 h0] [aN (Qc4 p0 p1 (Q16n p0 p1 H).1)] (by kernel_rfl)
 | false =>
  exact Q6 (fn := Ir.K31) (by kernel_rfl) VOK.nil [hB 10 h0] [aN (Qc4 p0 p1 (Q16n p0 p1 H).1)] (by kernel_rfl)
def Q3g (p0 : Val) (p1 : BA) : aW × Bool := dT aW.dec p0 p1
theorem Q2b7 (p0 : Val) (p1 : BA) : Q3g p0 p1 = (((aW.mk (Q1g (Q3f p0 p1) Q3k).1 (Q1g (Q3f p0 p1) Q2p).1 (Q1g (Q3f p0 p1) Q42).1), ((((Q2u (Q3f p0 p1)) && (Q1g (Q3f p0 p1) Q3k).2) && (Q1g (Q3f p0 p1) Q42).2) && (Q1g (Q3f p0 p1) Q2p).2))) := by
  rfl
def Q27t (p0 : Val) (p1 : BA) : En := .call 288 [.agg (Val.cells p0), .str p1] []
def Q1wv (p0 : Val) (p1 : BA) : Rs := .ret (.tup [.agg (aW.cells (Q3g p0 p1).1), .bool (Q3g p0 p1).2]) []
def Q1p5 (p0 : Val) : Prop := Val.Sm 1000000000 p0
theorem Qj8 (p0 : Val) (p1 : BA) (H : Q1p5 p0) : (Qpd p0) ∧ (Qjs (Q3f p0 p1)) ∧ True := by
  repeat' with_reducible apply And.intro
  all_goals first | exact True.intro | exact H | exact Qp H _
theorem Qc5 (p0 : Val) (p1 : BA) (H : Q1p5 p0) : Q5 G (Q27t p0 p1) (Q1wv p0 p1) := by
 unfold Q1wv
 rw [Q2b7]
 exact Q6 (fn := Ir.K3h) (by kernel_rfl) VOK.nil [hP 36 (Q63 (Q2u (Q3f p0 p1)) (.bool (Q1g (Q3f p0 p1) Q3k).2)), hP 0 (Q64 (Q2u (Q3f p0 p1)) (Q1g (Q3f p0 p1) Q3k).2), hP 1 (Q63 ((Q2u (Q3f p0 p1)) && (Q1g (Q3f p0 p1) Q3k).2) (.bool (Q1g (Q3f p0 p1) Q42).2)), hP 0 (Q64 ((Q2u (Q3f p0 p1)) && (Q1g (Q3f p0 p1) Q3k).2) (Q1g (Q3f p0 p1) Q42).2), hP 1 (Q63 (((Q2u (Q3f p0 p1)) && (Q1g (Q3f p0 p1) Q3k).2) && (Q1g (Q3f p0 p1) Q42).2) (.bool (Q1g (Q3f p0 p1) Q2p).2)), hP 0 (Q64 (((Q2u (Q3f p0 p1)) && (Q1g (Q3f p0 p1) Q3k).2) && (Q1g (Q3f p0 p1) Q42).2) (Q1g (Q3f p0 p1) Q2p).2)] [aN (Qc4 p0 p1 (Qj8 p0 p1 H).1), aN (Q78 (Q3f p0 p1) Q3k (Qj8 p0 p1 H).2.1), aN (Q78 (Q3f p0 p1) Q42 (Qj8 p0 p1 H).2.1), aN (Q78 (Q3f p0 p1) Q2p (Qj8 p0 p1 H).2.1), aN (Q9h (Q3f p0 p1))] (by kernel_rfl)
def Qov (p0 : Val) : bA × Bool := bA.dec p0
theorem Q2b5 (p0 : Val) : Qov p0 = (((bA.mk (Q1g p0 Q35).1 (Q1g p0 Q38).1 (Q1g p0 Q39).1 (Q1g p0 Q30).1), (((((Q2u p0) && (Q1g p0 Q35).2) && (Q1g p0 Q30).2) && (Q1g p0 Q38).2) && (Q1g p0 Q39).2))) := by
  rfl
def Q27r (p0 : Val) : En := .call 290 [.agg (Val.cells p0)] []
def Q1wt (p0 : Val) : Rs := .ret (.tup [.agg (bA.cells (Qov p0).1), .bool (Qov p0).2]) []
def Q1p3 (p0 : Val) : Prop := Val.Sm 1000000000 p0
theorem Qj7 (p0 : Val) (H : Q1p3 p0) : (Qjs p0) ∧ True := by
  repeat' with_reducible apply And.intro
  all_goals first | exact True.intro | exact H | exact Qp H _
theorem Q2fg (p0 : Val) (H : Q1p3 p0) : Q5 G (Q27r p0) (Q1wt p0) := by
 unfold Q1wt
 rw [Q2b5]
 exact Q6 (fn := Ir.K3f) (by kernel_rfl) VOK.nil [hP 39 (Q63 (Q2u p0) (.bool (Q1g p0 Q35).2)), hP 0 (Q64 (Q2u p0) (Q1g p0 Q35).2), hP 1 (Q63 ((Q2u p0) && (Q1g p0 Q35).2) (.bool (Q1g p0 Q30).2)), hP 0 (Q64 ((Q2u p0) && (Q1g p0 Q35).2) (Q1g p0 Q30).2), hP 1 (Q63 (((Q2u p0) && (Q1g p0 Q35).2) && (Q1g p0 Q30).2) (.bool (Q1g p0 Q38).2)), hP 0 (Q64 (((Q2u p0) && (Q1g p0 Q35).2) && (Q1g p0 Q30).2) (Q1g p0 Q38).2), hP 1 (Q63 ((((Q2u p0) && (Q1g p0 Q35).2) && (Q1g p0 Q30).2) && (Q1g p0 Q38).2) (.bool (Q1g p0 Q39).2)), hP 0 (Q64 ((((Q2u p0) && (Q1g p0 Q35).2) && (Q1g p0 Q30).2) && (Q1g p0 Q38).2) (Q1g p0 Q39).2)] [aN (Q78 p0 Q35 (Qj7 p0 H).1), aN (Q78 p0 Q30 (Qj7 p0 H).1), aN (Q78 p0 Q38 (Qj7 p0 H).1), aN (Q78 p0 Q39 (Qj7 p0 H).1), aN (Q9h p0)] (by kernel_rfl)
def Q5s (p0 : Val) (p1 : BA) : List Val → Nat → (List bA) → Bool → (List bA) × Bool
 | [], _i0, ah, ay =>
  (ah, ay)
 | x0 :: r0, i0, ah, ay =>
  Q5s p0 p1 r0 (i0 + 1) (ah ++ [(Qov x0).1]) (ay && (Qov x0).2)
def Q1f2 (p0 : Val) (p1 : BA) (i0 : Nat) (ah : List bA) (ay : Bool) : List PV :=
  nuns 6 ++ [.sl (Val.rows (Qd p0 p1).1), .bool ay, .ms 0 4 0 (List.length ah), iN (i0 : Int)] ++ nuns 32
def Qzc (_p0 : Val) (_p1 : BA) (_i0 : Nat) (ah : List bA) (_ay : Bool) : List Ob :=
  [⟨4, 0, true, (bA.rows ah).flatten⟩]
def Qgw (p0 : Val) (p1 : BA) (i0 : Nat) (ah : List bA) (ay : Bool) : En := .loop 0 Ir.Ql4 Ir.Q1nh (Q1f2 p0 p1 i0 ah ay) (Qzc p0 p1 i0 ah ay)
def Qs0 (_p0 : Val) (_p1 : BA) (q0 : List bA) (q1 : Bool) (z : Nat → PV) (_zo : Nat → List PV) : St :=
  ⟨zr z 0 7 ++ [.bool q1, .ms 0 4 0 (List.length q0)] ++ zr z 9 33, [(0, ⟨4, 0, true, (bA.rows q0).flatten⟩)], 257⟩
theorem Q15k (p0 : Val) (p1 : BA) (i0 : Nat) (ah : List bA) (ay : Bool) : VOK (Go.Pv.look (number 0 (Qzc p0 p1 i0 ah ay))) [(0, bA.rows ah)] := (VOK.cons (show Seen _ _ from Q3r (ob := ⟨4, 0, true, (bA.rows ah).flatten⟩) (bA.Q8 ah 4 rfl)) VOK.nil)
def Qip (p0 : Val) (p1 : BA) (e : En) (q : (List bA) × Bool) : Prop := ∃ z zo, Q5 G e (.st (.exit 0) (Qs0 p0 p1 q.1 q.2 z zo))
theorem Qwg (p0 : Val) (p1 : BA) {e e' : En} (h : ∀ r, Q5 G e r → Q5 G e' r) : ∀ q, Qip p0 p1 e q → Qip p0 p1 e' q
  | _, ⟨z, zo, hz⟩ => ⟨z, zo, h _ hz⟩
def Qd8 (p0 : Val) (p1 : BA) : Prop := (List.length (Qd p0 p1).1 ≤ 137438953472) ∧ (∀ x0 ∈ (Qd p0 p1).1, Q1p3 x0) ∧ True
def Qu1 (p0 : Val) (p1 : BA) (i0 : Nat) (_ah : List bA) (_ay : Bool) : List PV :=
  nuns 6 ++ [.sl (Val.rows (Qd p0 p1).1), .un, .un, iN (i0 : Int)] ++ nuns 8 ++ [iN (i0 : Int), .sl (Val.rows (Qd p0 p1).1), iN ((List.length (Qd p0 p1).1) : Int), .bool false]
def Qmz (_p0 : Val) (_p1 : BA) (_i0 : Nat) (_ah : List bA) (_ay : Bool) : List (Nat × List PV) :=
  []
theorem Q1dh (p0 : Val) (p1 : BA) (_H : Qd8 p0 p1) (i0 : Nat) (ah : List bA) (ay : Bool) (_aR : List.length ah ≤ i0) (bF : (decide ((i0 : Int) < ((List.length (Qd p0 p1).1) : Int))) = false) : Qip p0 p1 (Qgw p0 p1 i0 ah ay) (ah, ay) := by
 exact ⟨(envF (Qu1 p0 p1 i0 ah ay)), (zoF (Qmz p0 p1 i0 ah ay)), Qg (Q15k p0 p1 i0 ah ay) (x := ((.exit 0), Qs0 p0 p1 ah ay (envF (Qu1 p0 p1 i0 ah ay)) (zoF (Qmz p0 p1 i0 ah ay)))) [hP 2 (Qq _ _ (Val.Q7 (Qd p0 p1).1)), hB 0 bF] [] (by kernel_rfl)⟩
theorem Q1b4 (p0 : Val) (p1 : BA) (H : Qd8 p0 p1) (x0 : Val) (i0 : Nat) (ah : List bA) (ay : Bool) (bH : (Qd p0 p1).1[i0]? = some x0) (bT : i0 < List.length (Qd p0 p1).1) (aR : List.length ah ≤ i0) (bF : (decide ((i0 : Int) < ((List.length (Qd p0 p1).1) : Int))) = true) {r : Rs} (hr : Q5 G (Qgw p0 p1 (i0 + 1) (ah ++ [(Qov x0).1]) (ay && (Qov x0).2)) r) : Q5 G (Qgw p0 p1 i0 ah ay) r := by
 have hB0 := H.1
 exact Qc (Q15k p0 p1 i0 ah ay) [hP 2 (Qq _ _ (Val.Q7 (Qd p0 p1).1)), hB 0 bF, hP 2 (Q1f 5 _ i0 _ (Val.Qb bH) rfl), hA 11 0 1089 1153 4 32 0 0 true bA.Q7 bA.Q1l ah (Qov x0).1 (bA.Qt ah) rfl rfl (by omega), hS 0 true (bA.Q8 (ah ++ [(Qov x0).1]) 4 rfl), hP 3 (Q63 ay (.bool (Qov x0).2)), hP 0 (Q64 ay (Qov x0).2), hP 2 (Q26 i0 (by omega))] [aN (Q2fg x0 (H.2.1 x0 (Q15 bH)))] hr (by kernel_rfl)
theorem Q126 (p0 : Val) (p1 : BA) (H : Qd8 p0 p1) : ∀ (r0 : List Val) (i0 : Nat) (ah : List bA) (ay : Bool), List.drop i0 (Qd p0 p1).1 = r0 → List.length ah ≤ i0 → Qip p0 p1 (Qgw p0 p1 i0 ah ay) (Q5s p0 p1 r0 i0 ah ay)
 | [], i0, ah, ay, hd, aR => by
  have bF : (decide ((i0 : Int) < ((List.length (Qd p0 p1).1) : Int))) = false := by have := Q1n hd; simp; omega
  rw [Q5s]
  exact Q1dh p0 p1 H i0 ah ay aR bF
 | x0 :: r0, i0, ah, ay, hd, aR => by
  obtain ⟨bH, bT, hd'⟩ := Q1o hd
  have bF : (decide ((i0 : Int) < ((List.length (Qd p0 p1).1) : Int))) = true := by simp; omega
  rw [Q5s]
  exact Qwg p0 p1 (fun r hr => Q1b4 p0 p1 H x0 i0 ah ay bH bT aR bF hr) _ (Q126 p0 p1 H r0 _ _ _ hd' (by first | omega | (simp; omega)))
def Q2o (p0 : Val) (p1 : BA) : List bA × Bool := dE bA.dec p0 p1
theorem Qy4 (p0 : Val) (p1 : BA) : ∀ (l : List Val) (i : Nat) (a : List bA) (b : Bool), Q5s p0 p1 l i a b = (a ++ l.map (fun x => (bA.dec x).1), b && l.all fun x => (bA.dec x).2)
  | [], _, a, b => by rw [Q5s]; simp
  | x :: l, i, a, b => by
    rw [Q5s]
    cases b with
    | false => exact (Qy4 p0 p1 l (i + 1) (a ++ [(bA.dec x).1]) false).trans (by simp only [List.append_assoc, List.singleton_append, List.map_cons, List.all_cons, Bool.false_and])
    | true => exact (Qy4 p0 p1 l (i + 1) (a ++ [(bA.dec x).1]) (bA.dec x).2).trans (by simp only [List.append_assoc, List.singleton_append, List.map_cons, List.all_cons, Bool.true_and])
theorem Q2b6 (p0 : Val) (p1 : BA) : Q2o p0 p1 = (((Q5s p0 p1 (Qd p0 p1).1 0 [] (Qd p0 p1).2).1, (Q5s p0 p1 (Qd p0 p1).1 0 [] (Qd p0 p1).2).2)) := by
  rw [Qy4]
  rfl
def Q27s (p0 : Val) (p1 : BA) : En := .call 289 [.agg (Val.cells p0), .str p1] []
def Q1wu (p0 : Val) (p1 : BA) : Rs := .ret (.tup [.sl (bA.rows (Q2o p0 p1).1), .bool (Q2o p0 p1).2]) []
def Q1p4 (p0 : Val) : Prop := Val.Sm 1000000000 p0
theorem Q16v (p0 : Val) (p1 : BA) (H : Q1p4 p0) : (Qfu p0) ∧ (Qd8 p0 p1) ∧ True := by
  have hl := Q69 (Qp H p1)
  have g : ∀ x ∈ (dL p0 p1).1, Val.Sm sB x := hl.2
  refine ⟨H, ?_, trivial⟩
  unfold Qd8
  refine ⟨Nat.le_trans hl.1 (Nat.le_of_ble_eq_true rfl), ?_⟩
  repeat' with_reducible apply And.intro
  all_goals first | exact True.intro | exact g
theorem Q7x (p0 : Val) (p1 : BA) (H : Q1p4 p0) : Q5 G (Q27s p0 p1) (Q1wu p0 p1) := by
 unfold Q1wu
 rw [Q2b6]
 have hl0 := Q126 p0 p1 ((Q16v p0 p1 H).2.1) (Qd p0 p1).1 0 [] (Qd p0 p1).2 (by simp) (by simp)
 obtain ⟨z0, eG, hl0⟩ := hl0
 exact Q6 (fn := Ir.K3g) (by kernel_rfl) VOK.nil [hS 0 true (bA.Q8 (Q5s p0 p1 (Qd p0 p1).1 0 [] (Qd p0 p1).2).1 4 rfl), hQ (bA.Q7 (Q5s p0 p1 (Qd p0 p1).1 0 [] (Qd p0 p1).2).1).symm] [aN (Qev p0 p1 (Q16v p0 p1 H).1), aV [(0, bA.rows (Q5s p0 p1 (Qd p0 p1).1 0 [] (Qd p0 p1).2).1)] hl0] (by kernel_rfl)
def Qfy (p0 : Val) : aK × Bool := aK.dec p0
theorem Q2b1 (p0 : Val) : Qfy p0 = (bif (Q2u p0) then
    bif (Q19 p0 Qr).2 then
      bif (Q3g p0 Q18).2 then
        bif (Q2o p0 Q2a).2 then
          bif (Q19 p0 Qi).2 then
            bif (Q2o p0 Qh).2 then
              bif (Q3g p0 Qe).2 then
                ((aK.mk (Q19 p0 Qi).1 (Q19 p0 Qr).1 (Q3g p0 Qe).1 (Q3g p0 Q18).1 (Q2o p0 Q2a).1 (Q2o p0 Qh).1 (Q2o p0 Q1j).1), (Q2o p0 Q1j).2)
              else
                ((aK.mk (Q19 p0 Qi).1 (Q19 p0 Qr).1 (Q3g p0 Qe).1 (Q3g p0 Q18).1 (Q2o p0 Q2a).1 (Q2o p0 Qh).1 (Q2o p0 Q1j).1), false)
            else
              ((aK.mk (Q19 p0 Qi).1 (Q19 p0 Qr).1 (Q3g p0 Qe).1 (Q3g p0 Q18).1 (Q2o p0 Q2a).1 (Q2o p0 Qh).1 (Q2o p0 Q1j).1), false)
          else
            ((aK.mk (Q19 p0 Qi).1 (Q19 p0 Qr).1 (Q3g p0 Qe).1 (Q3g p0 Q18).1 (Q2o p0 Q2a).1 (Q2o p0 Qh).1 (Q2o p0 Q1j).1), false)
        else
          ((aK.mk (Q19 p0 Qi).1 (Q19 p0 Qr).1 (Q3g p0 Qe).1 (Q3g p0 Q18).1 (Q2o p0 Q2a).1 (Q2o p0 Qh).1 (Q2o p0 Q1j).1), false)
      else
        ((aK.mk (Q19 p0 Qi).1 (Q19 p0 Qr).1 (Q3g p0 Qe).1 (Q3g p0 Q18).1 (Q2o p0 Q2a).1 (Q2o p0 Qh).1 (Q2o p0 Q1j).1), false)
    else
      ((aK.mk (Q19 p0 Qi).1 (Q19 p0 Qr).1 (Q3g p0 Qe).1 (Q3g p0 Q18).1 (Q2o p0 Q2a).1 (Q2o p0 Qh).1 (Q2o p0 Q1j).1), false)
  else
    ((aK.mk (Q19 p0 Qi).1 (Q19 p0 Qr).1 (Q3g p0 Qe).1 (Q3g p0 Q18).1 (Q2o p0 Q2a).1 (Q2o p0 Qh).1 (Q2o p0 Q1j).1), false)) := by
  simp only [Q1gr]
  refine Prod.ext rfl ?_
  simp only [Qfy, aK.dec, Q2u, Q19, Q3g, Q2o, Bool.and_assoc]
def Q1kh (p0 : Val) : En := .call 286 [.agg (Val.cells p0)] []
def Q1wp (p0 : Val) : Rs := .ret (.tup [.agg (aK.cells (Qfy p0).1), .bool (Qfy p0).2]) []
def Q195 (p0 : Val) : Prop := Val.Sm 1000000000 p0
theorem Q1v (p0 : Val) (H : Q195 p0) : (Qpe p0) ∧ (Q1p5 p0) ∧ (Q1p4 p0) ∧ True := by
  repeat' with_reducible apply And.intro
  all_goals first | exact True.intro | exact H | exact Qp H _
theorem Q1qg (p0 : Val) (H : Q195 p0) (h0 : (Q2u p0) = true) (h1 : (Q19 p0 Qr).2 = true) : Q5 G (Q1kh p0) (.ret (.tup [.agg (aK.cells (bif (Q3g p0 Q18).2 then
   bif (Q2o p0 Q2a).2 then
     bif (Q19 p0 Qi).2 then
       bif (Q2o p0 Qh).2 then
        bif (Q3g p0 Qe).2 then
         ((aK.mk (Q19 p0 Qi).1 (Q19 p0 Qr).1 (Q3g p0 Qe).1 (Q3g p0 Q18).1 (Q2o p0 Q2a).1 (Q2o p0 Qh).1 (Q2o p0 Q1j).1), (Q2o p0 Q1j).2)
        else
         ((aK.mk (Q19 p0 Qi).1 (Q19 p0 Qr).1 (Q3g p0 Qe).1 (Q3g p0 Q18).1 (Q2o p0 Q2a).1 (Q2o p0 Qh).1 (Q2o p0 Q1j).1), false)
       else
        ((aK.mk (Q19 p0 Qi).1 (Q19 p0 Qr).1 (Q3g p0 Qe).1 (Q3g p0 Q18).1 (Q2o p0 Q2a).1 (Q2o p0 Qh).1 (Q2o p0 Q1j).1), false)
     else
       ((aK.mk (Q19 p0 Qi).1 (Q19 p0 Qr).1 (Q3g p0 Qe).1 (Q3g p0 Q18).1 (Q2o p0 Q2a).1 (Q2o p0 Qh).1 (Q2o p0 Q1j).1), false)
   else
     ((aK.mk (Q19 p0 Qi).1 (Q19 p0 Qr).1 (Q3g p0 Qe).1 (Q3g p0 Q18).1 (Q2o p0 Q2a).1 (Q2o p0 Qh).1 (Q2o p0 Q1j).1), false)
 else
   ((aK.mk (Q19 p0 Qi).1 (Q19 p0 Qr).1 (Q3g p0 Qe).1 (Q3g p0 Q18).1 (Q2o p0 Q2a).1 (Q2o p0 Qh).1 (Q2o p0 Q1j).1), false)).1), .bool (bif (Q3g p0 Q18).2 then
   bif (Q2o p0 Q2a).2 then
     bif (Q19 p0 Qi).2 then
       bif (Q2o p0 Qh).2 then
        bif (Q3g p0 Qe).2 then
         ((aK.mk (Q19 p0 Qi).1 (Q19 p0 Qr).1 (Q3g p0 Qe).1 (Q3g p0 Q18).1 (Q2o p0 Q2a).1 (Q2o p0 Qh).1 (Q2o p0 Q1j).1), (Q2o p0 Q1j).2)
        else
         ((aK.mk (Q19 p0 Qi).1 (Q19 p0 Qr).1 (Q3g p0 Qe).1 (Q3g p0 Q18).1 (Q2o p0 Q2a).1 (Q2o p0 Qh).1 (Q2o p0 Q1j).1), false)
       else
        ((aK.mk (Q19 p0 Qi).1 (Q19 p0 Qr).1 (Q3g p0 Qe).1 (Q3g p0 Q18).1 (Q2o p0 Q2a).1 (Q2o p0 Qh).1 (Q2o p0 Q1j).1), false)
     else
       ((aK.mk (Q19 p0 Qi).1 (Q19 p0 Qr).1 (Q3g p0 Qe).1 (Q3g p0 Q18).1 (Q2o p0 Q2a).1 (Q2o p0 Qh).1 (Q2o p0 Q1j).1), false)
   else
     ((aK.mk (Q19 p0 Qi).1 (Q19 p0 Qr).1 (Q3g p0 Qe).1 (Q3g p0 Q18).1 (Q2o p0 Q2a).1 (Q2o p0 Qh).1 (Q2o p0 Q1j).1), false)
 else
   ((aK.mk (Q19 p0 Qi).1 (Q19 p0 Qr).1 (Q3g p0 Qe).1 (Q3g p0 Q18).1 (Q2o p0 Q2a).1 (Q2o p0 Qh).1 (Q2o p0 Q1j).1), false)).2]) []) := by
 cases h2 : (Q3g p0 Q18).2 with
 | true =>
  cases h3 : (Q2o p0 Q2a).2 with
  | true =>
   cases h4 : (Q19 p0 Qi).2 with
   | true =>
    cases h5 : (Q2o p0 Qh).2 with
    | true =>
     cases h6 : (Q3g p0 Qe).2 with
     | true =>
      exact Q6 (fn := Ir.K3b) (by kernel_rfl) VOK.nil [hP 107 (decR (Q19 p0 Qr).2 true [448] h1), hP 3 (decR (Q3g p0 Q18).2 true [448] h2), hP 3 (decR (Q2o p0 Q2a).2 true [448] h3), hP 3 (decR (Q19 p0 Qi).2 true [448] h4), hP 3 (decR (Q2o p0 Qh).2 true [448] h5), hP 3 (decR (Q3g p0 Qe).2 true [448] h6)] [aN (Q5i p0 Qr (Q1v p0 H).1), aN (Qc5 p0 Q18 (Q1v p0 H).2.1), aN (Q7x p0 Q2a (Q1v p0 H).2.2.1), aN (Q5i p0 Qi (Q1v p0 H).1), aN (Q7x p0 Qh (Q1v p0 H).2.2.1), aN (Qc5 p0 Qe (Q1v p0 H).2.1), aN (Q7x p0 Q1j (Q1v p0 H).2.2.1), aB (Q9h p0) h0] (by kernel_rfl)
     | false =>
      exact Q6 (fn := Ir.K3b) (by kernel_rfl) VOK.nil [hP 107 (decR (Q19 p0 Qr).2 true [448] h1), hP 3 (decR (Q3g p0 Q18).2 true [448] h2), hP 3 (decR (Q2o p0 Q2a).2 true [448] h3), hP 3 (decR (Q19 p0 Qi).2 true [448] h4), hP 3 (decR (Q2o p0 Qh).2 true [448] h5), hP 3 (decR (Q3g p0 Qe).2 false [448] h6)] [aN (Q5i p0 Qr (Q1v p0 H).1), aN (Qc5 p0 Q18 (Q1v p0 H).2.1), aN (Q7x p0 Q2a (Q1v p0 H).2.2.1), aN (Q5i p0 Qi (Q1v p0 H).1), aN (Q7x p0 Qh (Q1v p0 H).2.2.1), aN (Qc5 p0 Qe (Q1v p0 H).2.1), aN (Q7x p0 Q1j (Q1v p0 H).2.2.1), aB (Q9h p0) h0] (by kernel_rfl)
    | false =>
     exact Q6 (fn := Ir.K3b) (by kernel_rfl) VOK.nil [hP 107 (decR (Q19 p0 Qr).2 true [448] h1), hP 3 (decR (Q3g p0 Q18).2 true [448] h2), hP 3 (decR (Q2o p0 Q2a).2 true [448] h3), hP 3 (decR (Q19 p0 Qi).2 true [448] h4), hP 3 (decR (Q2o p0 Qh).2 false [448] h5)] [aN (Q5i p0 Qr (Q1v p0 H).1), aN (Qc5 p0 Q18 (Q1v p0 H).2.1), aN (Q7x p0 Q2a (Q1v p0 H).2.2.1), aN (Q5i p0 Qi (Q1v p0 H).1), aN (Q7x p0 Qh (Q1v p0 H).2.2.1), aN (Qc5 p0 Qe (Q1v p0 H).2.1), aN (Q7x p0 Q1j (Q1v p0 H).2.2.1), aB (Q9h p0) h0] (by kernel_rfl)
   | false =>
    exact Q6 (fn := Ir.K3b) (by kernel_rfl) VOK.nil [hP 107 (decR (Q19 p0 Qr).2 true [448] h1), hP 3 (decR (Q3g p0 Q18).2 true [448] h2), hP 3 (decR (Q2o p0 Q2a).2 true [448] h3), hP 3 (decR (Q19 p0 Qi).2 false [448] h4)] [aN (Q5i p0 Qr (Q1v p0 H).1), aN (Qc5 p0 Q18 (Q1v p0 H).2.1), aN (Q7x p0 Q2a (Q1v p0 H).2.2.1), aN (Q5i p0 Qi (Q1v p0 H).1), aN (Q7x p0 Qh (Q1v p0 H).2.2.1), aN (Qc5 p0 Qe (Q1v p0 H).2.1), aN (Q7x p0 Q1j (Q1v p0 H).2.2.1), aB (Q9h p0) h0] (by kernel_rfl)
  | false =>
   exact Q6 (fn := Ir.K3b) (by kernel_rfl) VOK.nil [hP 107 (decR (Q19 p0 Qr).2 true [448] h1), hP 3 (decR (Q3g p0 Q18).2 true [448] h2), hP 3 (decR (Q2o p0 Q2a).2 false [448] h3)] [aN (Q5i p0 Qr (Q1v p0 H).1), aN (Qc5 p0 Q18 (Q1v p0 H).2.1), aN (Q7x p0 Q2a (Q1v p0 H).2.2.1), aN (Q5i p0 Qi (Q1v p0 H).1), aN (Q7x p0 Qh (Q1v p0 H).2.2.1), aN (Qc5 p0 Qe (Q1v p0 H).2.1), aN (Q7x p0 Q1j (Q1v p0 H).2.2.1), aB (Q9h p0) h0] (by kernel_rfl)
 | false =>
  exact Q6 (fn := Ir.K3b) (by kernel_rfl) VOK.nil [hP 107 (decR (Q19 p0 Qr).2 true [448] h1), hP 3 (decR (Q3g p0 Q18).2 false [448] h2)] [aN (Q5i p0 Qr (Q1v p0 H).1), aN (Qc5 p0 Q18 (Q1v p0 H).2.1), aN (Q7x p0 Q2a (Q1v p0 H).2.2.1), aN (Q5i p0 Qi (Q1v p0 H).1), aN (Q7x p0 Qh (Q1v p0 H).2.2.1), aN (Qc5 p0 Qe (Q1v p0 H).2.1), aN (Q7x p0 Q1j (Q1v p0 H).2.2.1), aB (Q9h p0) h0] (by kernel_rfl)
theorem Q1qh (p0 : Val) (H : Q195 p0) (h0 : (Q2u p0) = true) (h1 : (Q19 p0 Qr).2 = false) : Q5 G (Q1kh p0) (.ret (.tup [.agg (aK.cells (((aK.mk (Q19 p0 Qi).1 (Q19 p0 Qr).1 (Q3g p0 Qe).1 (Q3g p0 Q18).1 (Q2o p0 Q2a).1 (Q2o p0 Qh).1 (Q2o p0 Q1j).1), false)).1), .bool (((aK.mk (Q19 p0 Qi).1 (Q19 p0 Qr).1 (Q3g p0 Qe).1 (Q3g p0 Q18).1 (Q2o p0 Q2a).1 (Q2o p0 Qh).1 (Q2o p0 Q1j).1), false)).2]) []) := by
 exact Q6 (fn := Ir.K3b) (by kernel_rfl) VOK.nil [hP 107 (decR (Q19 p0 Qr).2 false [448] h1)] [aN (Q5i p0 Qr (Q1v p0 H).1), aN (Qc5 p0 Q18 (Q1v p0 H).2.1), aN (Q7x p0 Q2a (Q1v p0 H).2.2.1), aN (Q5i p0 Qi (Q1v p0 H).1), aN (Q7x p0 Qh (Q1v p0 H).2.2.1), aN (Qc5 p0 Qe (Q1v p0 H).2.1), aN (Q7x p0 Q1j (Q1v p0 H).2.2.1), aB (Q9h p0) h0] (by kernel_rfl)
theorem Q1qi (p0 : Val) (H : Q195 p0) (h0 : (Q2u p0) = false) : Q5 G (Q1kh p0) (.ret (.tup [.agg (aK.cells (((aK.mk (Q19 p0 Qi).1 (Q19 p0 Qr).1 (Q3g p0 Qe).1 (Q3g p0 Q18).1 (Q2o p0 Q2a).1 (Q2o p0 Qh).1 (Q2o p0 Q1j).1), false)).1), .bool (((aK.mk (Q19 p0 Qi).1 (Q19 p0 Qr).1 (Q3g p0 Qe).1 (Q3g p0 Q18).1 (Q2o p0 Q2a).1 (Q2o p0 Qh).1 (Q2o p0 Q1j).1), false)).2]) []) := by
 exact Q6 (fn := Ir.K3b) (by kernel_rfl) VOK.nil [] [aN (Q5i p0 Qr (Q1v p0 H).1), aN (Qc5 p0 Q18 (Q1v p0 H).2.1), aN (Q7x p0 Q2a (Q1v p0 H).2.2.1), aN (Q5i p0 Qi (Q1v p0 H).1), aN (Q7x p0 Qh (Q1v p0 H).2.2.1), aN (Qc5 p0 Qe (Q1v p0 H).2.1), aN (Q7x p0 Q1j (Q1v p0 H).2.2.1), aB (Q9h p0) h0] (by kernel_rfl)
theorem Q2ff (p0 : Val) (H : Q195 p0) : Q5 G (Q1kh p0) (Q1wp p0) := by
 unfold Q1wp
 rw [Q2b1]
 cases h0 : (Q2u p0) with
 | true =>
  cases h1 : (Q19 p0 Qr).2 with
  | true =>
   exact Q1qg p0 H h0 h1
  | false =>
   exact Q1qh p0 H h0 h1
 | false =>
  exact Q1qi p0 H h0
def Q5r (p0 : Val) : List Val → Nat → (List aK) → Bool → (List aK) × Bool
 | [], _i0, ah, ay =>
  (ah, ay)
 | x0 :: r0, i0, ah, ay =>
  Q5r p0 r0 (i0 + 1) (ah ++ [(Qfy x0).1]) (ay && (Qfy x0).2)
def Q1ez (p0 : Val) (i0 : Nat) (ah : List aK) (ay : Bool) : List PV :=
  [.un, .un, .un, .un, .sl (Val.rows (Qd p0 Qo).1), .bool ay, .ms 0 11 0 (List.length ah), iN (i0 : Int)] ++ nuns 31
def Qz9 (_p0 : Val) (_i0 : Nat) (ah : List aK) (_ay : Bool) : List Ob :=
  [⟨11, 0, true, (aK.rows ah).flatten⟩]
def Qgv (p0 : Val) (i0 : Nat) (ah : List aK) (ay : Bool) : En := .loop 0 Ir.Ql1 Ir.Q1ne (Q1ez p0 i0 ah ay) (Qz9 p0 i0 ah ay)
def Qrx (_p0 : Val) (q0 : List aK) (q1 : Bool) (z : Nat → PV) (_zo : Nat → List PV) : St :=
  ⟨zr z 0 5 ++ [.bool q1, .ms 0 11 0 (List.length q0)] ++ zr z 7 32, [(0, ⟨11, 0, true, (aK.rows q0).flatten⟩)], 257⟩
theorem Q15j (p0 : Val) (i0 : Nat) (ah : List aK) (ay : Bool) : VOK (Go.Pv.look (number 0 (Qz9 p0 i0 ah ay))) [(0, aK.rows ah)] := (VOK.cons (show Seen _ _ from Q3r (ob := ⟨11, 0, true, (aK.rows ah).flatten⟩) (aK.Q8 ah 11 rfl)) VOK.nil)
def Qim (p0 : Val) (e : En) (q : (List aK) × Bool) : Prop := ∃ z zo, Q5 G e (.st (.exit 0) (Qrx p0 q.1 q.2 z zo))
theorem Qwf (p0 : Val) {e e' : En} (h : ∀ r, Q5 G e r → Q5 G e' r) : ∀ q, Qim p0 e q → Qim p0 e' q
  | _, ⟨z, zo, hz⟩ => ⟨z, zo, h _ hz⟩
def Qd7 (p0 : Val) : Prop := (List.length (Qd p0 Qo).1 ≤ 137438953472) ∧ (∀ x0 ∈ (Qd p0 Qo).1, Q195 x0) ∧ True
def Qty (p0 : Val) (i0 : Nat) (_ah : List aK) (_ay : Bool) : List PV :=
  [.un, .un, .un, .un, .sl (Val.rows (Qd p0 Qo).1), .un, .un, iN (i0 : Int)] ++ nuns 7 ++ [iN (i0 : Int), .sl (Val.rows (Qd p0 Qo).1), iN ((List.length (Qd p0 Qo).1) : Int), .bool false]
def Qmw (_p0 : Val) (_i0 : Nat) (_ah : List aK) (_ay : Bool) : List (Nat × List PV) :=
  []
theorem Q1de (p0 : Val) (_H : Qd7 p0) (i0 : Nat) (ah : List aK) (ay : Bool) (_aR : List.length ah ≤ i0) (bF : (decide ((i0 : Int) < ((List.length (Qd p0 Qo).1) : Int))) = false) : Qim p0 (Qgv p0 i0 ah ay) (ah, ay) := by
 exact ⟨(envF (Qty p0 i0 ah ay)), (zoF (Qmw p0 i0 ah ay)), Qg (Q15j p0 i0 ah ay) (x := ((.exit 0), Qrx p0 ah ay (envF (Qty p0 i0 ah ay)) (zoF (Qmw p0 i0 ah ay)))) [hP 2 (Qq _ _ (Val.Q7 (Qd p0 Qo).1)), hB 0 bF] [] (by kernel_rfl)⟩
theorem Q1az (p0 : Val) (H : Qd7 p0) (x0 : Val) (i0 : Nat) (ah : List aK) (ay : Bool) (bH : (Qd p0 Qo).1[i0]? = some x0) (bT : i0 < List.length (Qd p0 Qo).1) (aR : List.length ah ≤ i0) (bF : (decide ((i0 : Int) < ((List.length (Qd p0 Qo).1) : Int))) = true) {r : Rs} (hr : Q5 G (Qgv p0 (i0 + 1) (ah ++ [(Qfy x0).1]) (ay && (Qfy x0).2)) r) : Q5 G (Qgv p0 i0 ah ay) r := by
 have hB0 := H.1
 exact Qc (Q15j p0 i0 ah ay) [hP 2 (Qq _ _ (Val.Q7 (Qd p0 Qo).1)), hB 0 bF, hP 2 (Q1f 5 _ i0 _ (Val.Qb bH) rfl), hA 11 0 1089 1153 11 152 0 0 true aK.Q7 aK.Q1l ah (Qfy x0).1 (aK.Qt ah) rfl rfl (by omega), hS 0 true (aK.Q8 (ah ++ [(Qfy x0).1]) 11 rfl), hP 3 (Q63 ay (.bool (Qfy x0).2)), hP 0 (Q64 ay (Qfy x0).2), hP 2 (Q26 i0 (by omega))] [aN (Q2ff x0 (H.2.1 x0 (Q15 bH)))] hr (by kernel_rfl)
theorem Q125 (p0 : Val) (H : Qd7 p0) : ∀ (r0 : List Val) (i0 : Nat) (ah : List aK) (ay : Bool), List.drop i0 (Qd p0 Qo).1 = r0 → List.length ah ≤ i0 → Qim p0 (Qgv p0 i0 ah ay) (Q5r p0 r0 i0 ah ay)
 | [], i0, ah, ay, hd, aR => by
  have bF : (decide ((i0 : Int) < ((List.length (Qd p0 Qo).1) : Int))) = false := by have := Q1n hd; simp; omega
  rw [Q5r]
  exact Q1de p0 H i0 ah ay aR bF
 | x0 :: r0, i0, ah, ay, hd, aR => by
  obtain ⟨bH, bT, hd'⟩ := Q1o hd
  have bF : (decide ((i0 : Int) < ((List.length (Qd p0 Qo).1) : Int))) = true := by simp; omega
  rw [Q5r]
  exact Qwf p0 (fun r hr => Q1az p0 H x0 i0 ah ay bH bT aR bF hr) _ (Q125 p0 H r0 _ _ _ hd' (by first | omega | (simp; omega)))
def Qej (p0 : Val) : List aK × Bool := dE aK.dec p0 Qo
theorem Qy1 (p0 : Val) : ∀ (l : List Val) (i : Nat) (a : List aK) (b : Bool), Q5r p0 l i a b = (a ++ l.map (fun x => (aK.dec x).1), b && l.all fun x => (aK.dec x).2)
  | [], _, a, b => by rw [Q5r]; simp
  | x :: l, i, a, b => by
    rw [Q5r]
    cases b with
    | false => exact (Qy1 p0 l (i + 1) (a ++ [(aK.dec x).1]) false).trans (by simp only [List.append_assoc, List.singleton_append, List.map_cons, List.all_cons, Bool.false_and])
    | true => exact (Qy1 p0 l (i + 1) (a ++ [(aK.dec x).1]) (aK.dec x).2).trans (by simp only [List.append_assoc, List.singleton_append, List.map_cons, List.all_cons, Bool.true_and])
theorem Q2b2 (p0 : Val) : Qej p0 = (((Q5r p0 (Qd p0 Qo).1 0 [] (Qd p0 Qo).2).1, (Q5r p0 (Qd p0 Qo).1 0 [] (Qd p0 Qo).2).2)) := by
  rw [Qy1]
  rfl
def Q27o (p0 : Val) : En := .call 269 [.agg (Val.cells p0)] []
def Q1wq (p0 : Val) : Rs := .ret (.tup [.sl (aK.rows (Qej p0).1), .bool (Qej p0).2]) []
def Q1p0 (p0 : Val) : Prop := Val.Sm 1000000000 p0
theorem Q16s (p0 : Val) (H : Q1p0 p0) : (Qfu p0) ∧ (Qd7 p0) ∧ True := by
  have hl := Q69 (Qp H Qo)
  have g : ∀ x ∈ (dL p0 Qo).1, Val.Sm sB x := hl.2
  refine ⟨H, ?_, trivial⟩
  unfold Qd7
  refine ⟨Nat.le_trans hl.1 (Nat.le_of_ble_eq_true rfl), ?_⟩
  repeat' with_reducible apply And.intro
  all_goals first | exact True.intro | exact g
theorem Q202 (p0 : Val) (H : Q1p0 p0) : Q5 G (Q27o p0) (Q1wq p0) := by
 unfold Q1wq
 rw [Q2b2]
 have hl0 := Q125 p0 ((Q16s p0 H).2.1) (Qd p0 Qo).1 0 [] (Qd p0 Qo).2 (by simp) (by simp)
 obtain ⟨z0, eG, hl0⟩ := hl0
 exact Q6 (fn := Ir.K3c) (by kernel_rfl) VOK.nil [hS 0 true (aK.Q8 (Q5r p0 (Qd p0 Qo).1 0 [] (Qd p0 Qo).2).1 11 rfl), hQ (aK.Q7 (Q5r p0 (Qd p0 Qo).1 0 [] (Qd p0 Qo).2).1).symm] [aN (Qev p0 Qo (Q16s p0 H).1), aV [(0, aK.rows (Q5r p0 (Qd p0 Qo).1 0 [] (Qd p0 Qo).2).1)] hl0] (by kernel_rfl)
def Q41 (p0 : Val) (p1 : BA) : List Val → Nat → (List ByteArray) → Bool → Nat → (List ByteArray) × Bool × Nat
 | [], _i0, ah, ay, bJ =>
  (ah, ay, bJ)
 | x0 :: r0, i0, ah, ay, bJ =>
  bif (ay == true) then
   bif (x0.kind == 3) then
    bif (x0.kind == 0) then
     Q41 p0 p1 r0 (i0 + 1) (List.set (List.take bJ ah ++ [x0.s]) i0 eB) true (List.length (List.take bJ ah ++ [x0.s]))
    else
     Q41 p0 p1 r0 (i0 + 1) (List.take bJ ah ++ [x0.s]) true (List.length (List.take bJ ah ++ [x0.s]))
   else
    bif (x0.kind == 0) then
     Q41 p0 p1 r0 (i0 + 1) (List.set (List.take bJ ah ++ [x0.s]) i0 eB) true (List.length (List.take bJ ah ++ [x0.s]))
    else
     Q41 p0 p1 r0 (i0 + 1) (List.take bJ ah ++ [x0.s]) false (List.length (List.take bJ ah ++ [x0.s]))
  else
   bif (x0.kind == 0) then
    Q41 p0 p1 r0 (i0 + 1) (List.set (List.take bJ ah ++ [x0.s]) i0 eB) false (List.length (List.take bJ ah ++ [x0.s]))
   else
    Q41 p0 p1 r0 (i0 + 1) (List.take bJ ah ++ [x0.s]) false (List.length (List.take bJ ah ++ [x0.s]))
def Q1ew (p0 : Val) (p1 : BA) (i0 : Nat) (_ah : List ByteArray) (ay : Bool) (bJ : Nat) : List PV :=
  nuns 6 ++ [.sl (Val.rows (Qd p0 p1).1), .bool ay, .ms 0 1 0 bJ, iN (i0 : Int)] ++ nuns 48
def Qz7 (_p0 : Val) (_p1 : BA) (_i0 : Nat) (ah : List ByteArray) (_ay : Bool) (_bJ : Nat) : List Ob :=
  [⟨1, 0, true, (Qz ah).flatten⟩]
def Q4w (p0 : Val) (p1 : BA) (i0 : Nat) (ah : List ByteArray) (ay : Bool) (bJ : Nat) : En := .loop 0 Ir.Qky Ir.Q1nb (Q1ew p0 p1 i0 ah ay bJ) (Qz7 p0 p1 i0 ah ay bJ)
def Qrt (_p0 : Val) (_p1 : BA) (q0 : List ByteArray) (q1 : Bool) (q2 : Nat) (z : Nat → PV) (_zo : Nat → List PV) : St :=
  ⟨zr z 0 7 ++ [.bool q1, .ms 0 1 0 q2] ++ zr z 9 49, [(0, ⟨1, 0, true, (Qz q0).flatten⟩)], 257⟩
theorem Q9o (p0 : Val) (p1 : BA) (i0 : Nat) (ah : List ByteArray) (ay : Bool) (bJ : Nat) : VOK (Go.Pv.look (number 0 (Qz7 p0 p1 i0 ah ay bJ))) [(0, Qz ah)] := (VOK.cons (show Seen _ _ from Q3r (ob := ⟨1, 0, true, (Qz ah).flatten⟩) (Q32 ah 1 rfl)) VOK.nil)
def Qik (p0 : Val) (p1 : BA) (e : En) (q : (List ByteArray) × Bool × Nat) : Prop := ∃ z zo, Q5 G e (.st (.exit 0) (Qrt p0 p1 q.1 q.2.1 q.2.2 z zo))
theorem Q55 (p0 : Val) (p1 : BA) {e e' : En} (h : ∀ r, Q5 G e r → Q5 G e' r) : ∀ q, Qik p0 p1 e q → Qik p0 p1 e' q
  | _, ⟨z, zo, hz⟩ => ⟨z, zo, h _ hz⟩
def Q70 (p0 : Val) (p1 : BA) : Prop := (List.length (Qd p0 p1).1 ≤ 137438953472) ∧ (∀ (i0 : Nat) (ah : List ByteArray) (ay : Bool) (bJ : Nat) (x0 : Val), (Qd p0 p1).1[i0]? = some x0 → List.length ah ≤ i0 → bJ = i0 → List.length (ah : List ByteArray) = i0 → (ay == true) = true → (x0.kind == 3) = true → (x0.kind == 0) = true → (List.length (List.take bJ ah ++ [x0.s])) = (i0 + 1)) ∧ (∀ (i0 : Nat) (ah : List ByteArray) (ay : Bool) (bJ : Nat) (x0 : Val), (Qd p0 p1).1[i0]? = some x0 → List.length ah ≤ i0 → bJ = i0 → List.length (ah : List ByteArray) = i0 → (ay == true) = true → (x0.kind == 3) = true → (x0.kind == 0) = true → List.length ((List.set (List.take bJ ah ++ [x0.s]) i0 eB) : List ByteArray) = (i0 + 1)) ∧ (∀ (i0 : Nat) (ah : List ByteArray) (ay : Bool) (bJ : Nat) (x0 : Val), (Qd p0 p1).1[i0]? = some x0 → List.length ah ≤ i0 → bJ = i0 → List.length (ah : List ByteArray) = i0 → (ay == true) = true → (x0.kind == 3) = true → (x0.kind == 0) = false → (List.length (List.take bJ ah ++ [x0.s])) = (i0 + 1)) ∧ (∀ (i0 : Nat) (ah : List ByteArray) (ay : Bool) (bJ : Nat) (x0 : Val), (Qd p0 p1).1[i0]? = some x0 → List.length ah ≤ i0 → bJ = i0 → List.length (ah : List ByteArray) = i0 → (ay == true) = true → (x0.kind == 3) = true → (x0.kind == 0) = false → List.length ((List.take bJ ah ++ [x0.s]) : List ByteArray) = (i0 + 1)) ∧ (∀ (i0 : Nat) (ah : List ByteArray) (ay : Bool) (bJ : Nat) (x0 : Val), (Qd p0 p1).1[i0]? = some x0 → List.length ah ≤ i0 → bJ = i0 → List.length (ah : List ByteArray) = i0 → (ay == true) = true → (x0.kind == 3) = false → (x0.kind == 0) = true → (List.length (List.take bJ ah ++ [x0.s])) = (i0 + 1)) ∧ (∀ (i0 : Nat) (ah : List ByteArray) (ay : Bool) (bJ : Nat) (x0 : Val), (Qd p0 p1).1[i0]? = some x0 → List.length ah ≤ i0 → bJ = i0 → List.length (ah : List ByteArray) = i0 → (ay == true) = true → (x0.kind == 3) = false → (x0.kind == 0) = true → List.length ((List.set (List.take bJ ah ++ [x0.s]) i0 eB) : List ByteArray) = (i0 + 1)) ∧ (∀ (i0 : Nat) (ah : List ByteArray) (ay : Bool) (bJ : Nat) (x0 : Val), (Qd p0 p1).1[i0]? = some x0 → List.length ah ≤ i0 → bJ = i0 → List.length (ah : List ByteArray) = i0 → (ay == true) = true → (x0.kind == 3) = false → (x0.kind == 0) = false → (List.length (List.take bJ ah ++ [x0.s])) = (i0 + 1)) ∧ (∀ (i0 : Nat) (ah : List ByteArray) (ay : Bool) (bJ : Nat) (x0 : Val), (Qd p0 p1).1[i0]? = some x0 → List.length ah ≤ i0 → bJ = i0 → List.length (ah : List ByteArray) = i0 → (ay == true) = true → (x0.kind == 3) = false → (x0.kind == 0) = false → List.length ((List.take bJ ah ++ [x0.s]) : List ByteArray) = (i0 + 1)) ∧ (∀ (i0 : Nat) (ah : List ByteArray) (ay : Bool) (bJ : Nat) (x0 : Val), (Qd p0 p1).1[i0]? = some x0 → List.length ah ≤ i0 → bJ = i0 → List.length (ah : List ByteArray) = i0 → (ay == true) = false → (x0.kind == 0) = true → (List.length (List.take bJ ah ++ [x0.s])) = (i0 + 1)) ∧ (∀ (i0 : Nat) (ah : List ByteArray) (ay : Bool) (bJ : Nat) (x0 : Val), (Qd p0 p1).1[i0]? = some x0 → List.length ah ≤ i0 → bJ = i0 → List.length (ah : List ByteArray) = i0 → (ay == true) = false → (x0.kind == 0) = true → List.length ((List.set (List.take bJ ah ++ [x0.s]) i0 eB) : List ByteArray) = (i0 + 1)) ∧ (∀ (i0 : Nat) (ah : List ByteArray) (ay : Bool) (bJ : Nat) (x0 : Val), (Qd p0 p1).1[i0]? = some x0 → List.length ah ≤ i0 → bJ = i0 → List.length (ah : List ByteArray) = i0 → (ay == true) = false → (x0.kind == 0) = false → (List.length (List.take bJ ah ++ [x0.s])) = (i0 + 1)) ∧ (∀ (i0 : Nat) (ah : List ByteArray) (ay : Bool) (bJ : Nat) (x0 : Val), (Qd p0 p1).1[i0]? = some x0 → List.length ah ≤ i0 → bJ = i0 → List.length (ah : List ByteArray) = i0 → (ay == true) = false → (x0.kind == 0) = false → List.length ((List.take bJ ah ++ [x0.s]) : List ByteArray) = (i0 + 1)) ∧ True
def Qtu (p0 : Val) (p1 : BA) (i0 : Nat) (_ah : List ByteArray) (_ay : Bool) (_bJ : Nat) : List PV :=
  nuns 6 ++ [.sl (Val.rows (Qd p0 p1).1), .un, .un, iN (i0 : Int)] ++ nuns 6 ++ [iN (i0 : Int), .sl (Val.rows (Qd p0 p1).1), iN ((List.length (Qd p0 p1).1) : Int), .bool false]
def Qms (_p0 : Val) (_p1 : BA) (_i0 : Nat) (_ah : List ByteArray) (_ay : Bool) (_bJ : Nat) : List (Nat × List PV) :=
  []
theorem Q1da (p0 : Val) (p1 : BA) (_H : Q70 p0 p1) (i0 : Nat) (ah : List ByteArray) (ay : Bool) (bJ : Nat) (_aR : List.length ah ≤ i0) (_cZ : bJ = i0) (_dP : List.length (ah : List ByteArray) = i0) (bF : (decide ((i0 : Int) < ((List.length (Qd p0 p1).1) : Int))) = false) : Qik p0 p1 (Q4w p0 p1 i0 ah ay bJ) (ah, ay, bJ) := by
 exact ⟨(envF (Qtu p0 p1 i0 ah ay bJ)), (zoF (Qms p0 p1 i0 ah ay bJ)), Qg (Q9o p0 p1 i0 ah ay bJ) (x := ((.exit 0), Qrt p0 p1 ah ay bJ (envF (Qtu p0 p1 i0 ah ay bJ)) (zoF (Qms p0 p1 i0 ah ay bJ)))) [hP 2 (Qq _ _ (Val.Q7 (Qd p0 p1).1)), hB 0 bF] [] (by kernel_rfl)⟩
theorem Q1aq (p0 : Val) (p1 : BA) (H : Q70 p0 p1) (x0 : Val) (i0 : Nat) (ah : List ByteArray) (ay : Bool) (bJ : Nat) (bH : (Qd p0 p1).1[i0]? = some x0) (_bT : i0 < List.length (Qd p0 p1).1) (_aR : List.length ah ≤ i0) (_cZ : bJ = i0) (_dP : List.length (ah : List ByteArray) = i0) (bF : (decide ((i0 : Int) < ((List.length (Qd p0 p1).1) : Int))) = true) (h0 : (ay == true) = true) (h1 : (x0.kind == 3) = true) (h2 : (x0.kind == 0) = true) {r : Rs} (hr : Q5 G (Q4w p0 p1 (i0 + 1) (List.set (List.take bJ ah ++ [x0.s]) i0 eB) true (List.length (List.take bJ ah ++ [x0.s]))) r) : Q5 G (Q4w p0 p1 i0 ah ay bJ) r := by
 have hB0 := H.1; have e1 := eq_of_beq h1; have e2 := eq_of_beq h2
 exact Qc (Q9o p0 p1 i0 ah ay bJ) [hP 2 (Qq _ _ (Val.Q7 (Qd p0 p1).1)), hB 0 bF, hP 3 (Q1f 5 _ i0 _ (Val.Qb bH) rfl), hV 3 [(705, Qz (List.take bJ ah ++ [x0.s]))] (Qum 0 641 705 1 16 0 true (Qz ah) (Qz (List.take bJ ah ++ [x0.s])) [.str x0.s] bJ (List.length (List.take bJ ah ++ [x0.s])) rfl (by rw [Q2d]; exact (by omega)) (Q2d (List.take bJ ah ++ [x0.s])).symm (by rw [Q53, Q6y]) (Q45 ah) rfl (by omega)), hS 0 true (Q32 (List.take bJ ah ++ [x0.s]) 1 rfl), hB 1 (beqT h0), hP 3 (Q1f 5 _ i0 _ (Val.Qb bH) rfl), hB 2 h1, hP 12 (Q1f 5 _ i0 _ (Val.Qb bH) rfl), hB 2 h2, hP 2 (Qaq 705 1 (List.length (List.take bJ ah ++ [x0.s])) (i0 : Int) i0 (by omega) (by omega) (by try simp only [List.length_append, List.length_cons, List.length_nil, List.length_take]; omega)), hV 0 [(705, Qz (List.set (List.take bJ ah ++ [x0.s]) i0 eB))] (Q1c0 705 1 true ((Qz (List.take bJ ah ++ [x0.s])).flatten) (Qz (List.take bJ ah ++ [x0.s])) (Qz (List.set (List.take bJ ah ++ [x0.s]) i0 eB)) 1 i0 0 (i0 * 1) _ (.str eB) rfl rfl (Q83 (Qap (List.take bJ ah ++ [x0.s]) i0 eB (by try simp only [List.length_append, List.length_cons, List.length_nil, List.length_take]; omega))) (Q45 (List.take bJ ah ++ [x0.s])) (by decide) rfl rfl (Qfd (List.take bJ ah ++ [x0.s]) i0 eB)), hS 0 true (Q32 (List.set (List.take bJ ah ++ [x0.s]) i0 eB) 1 rfl), hP 1 (Q26 i0 (by omega))] [] hr (by kernel_rfl)
theorem Q1ar (p0 : Val) (p1 : BA) (H : Q70 p0 p1) (x0 : Val) (i0 : Nat) (ah : List ByteArray) (ay : Bool) (bJ : Nat) (bH : (Qd p0 p1).1[i0]? = some x0) (bT : i0 < List.length (Qd p0 p1).1) (_aR : List.length ah ≤ i0) (cZ : bJ = i0) (dP : List.length (ah : List ByteArray) = i0) (bF : (decide ((i0 : Int) < ((List.length (Qd p0 p1).1) : Int))) = true) (h0 : (ay == true) = true) (h1 : (x0.kind == 3) = true) (h2 : (x0.kind == 0) = false) {r : Rs} (hr : Q5 G (Q4w p0 p1 (i0 + 1) (List.take bJ ah ++ [x0.s]) true (List.length (List.take bJ ah ++ [x0.s]))) r) : Q5 G (Q4w p0 p1 i0 ah ay bJ) r := by
 have hB0 := H.1; have e1 := eq_of_beq h1; have e2 := beq_eq_false_iff_ne.1 h2
 exact Qc (Q9o p0 p1 i0 ah ay bJ) [hP 2 (Qq _ _ (Val.Q7 (Qd p0 p1).1)), hB 0 bF, hP 3 (Q1f 5 _ i0 _ (Val.Qb bH) rfl), hV 3 [(705, Qz (List.take bJ ah ++ [x0.s]))] (Qum 0 641 705 1 16 0 true (Qz ah) (Qz (List.take bJ ah ++ [x0.s])) [.str x0.s] bJ (List.length (List.take bJ ah ++ [x0.s])) rfl (by rw [Q2d]; exact (by omega)) (Q2d (List.take bJ ah ++ [x0.s])).symm (by rw [Q53, Q6y]) (Q45 ah) rfl (by omega)), hS 0 true (Q32 (List.take bJ ah ++ [x0.s]) 1 rfl), hB 1 (beqT h0), hP 3 (Q1f 5 _ i0 _ (Val.Qb bH) rfl), hB 2 h1, hP 12 (Q1f 5 _ i0 _ (Val.Qb bH) rfl), hB 2 h2, hP 1 (Q26 i0 (by omega))] [] hr (by kernel_rfl)
theorem Q1as (p0 : Val) (p1 : BA) (H : Q70 p0 p1) (x0 : Val) (i0 : Nat) (ah : List ByteArray) (ay : Bool) (bJ : Nat) (bH : (Qd p0 p1).1[i0]? = some x0) (bT : i0 < List.length (Qd p0 p1).1) (_aR : List.length ah ≤ i0) (cZ : bJ = i0) (dP : List.length (ah : List ByteArray) = i0) (bF : (decide ((i0 : Int) < ((List.length (Qd p0 p1).1) : Int))) = true) (h0 : (ay == true) = true) (h1 : (x0.kind == 3) = false) (h2 : (x0.kind == 0) = true) {r : Rs} (hr : Q5 G (Q4w p0 p1 (i0 + 1) (List.set (List.take bJ ah ++ [x0.s]) i0 eB) true (List.length (List.take bJ ah ++ [x0.s]))) r) : Q5 G (Q4w p0 p1 i0 ah ay bJ) r := by
 have hB0 := H.1; have e1 := beq_eq_false_iff_ne.1 h1; have e2 := eq_of_beq h2
 exact Qc (Q9o p0 p1 i0 ah ay bJ) [hP 2 (Qq _ _ (Val.Q7 (Qd p0 p1).1)), hB 0 bF, hP 3 (Q1f 5 _ i0 _ (Val.Qb bH) rfl), hV 3 [(705, Qz (List.take bJ ah ++ [x0.s]))] (Qum 0 641 705 1 16 0 true (Qz ah) (Qz (List.take bJ ah ++ [x0.s])) [.str x0.s] bJ (List.length (List.take bJ ah ++ [x0.s])) rfl (by rw [Q2d]; exact (by omega)) (Q2d (List.take bJ ah ++ [x0.s])).symm (by rw [Q53, Q6y]) (Q45 ah) rfl (by omega)), hS 0 true (Q32 (List.take bJ ah ++ [x0.s]) 1 rfl), hB 1 (beqT h0), hP 3 (Q1f 5 _ i0 _ (Val.Qb bH) rfl), hB 2 h1, hP 3 (Q1f 5 _ i0 _ (Val.Qb bH) rfl), hB 2 h2, hP 5 (Q1f 5 _ i0 _ (Val.Qb bH) rfl), hB 2 h2, hP 2 (Qaq 705 1 (List.length (List.take bJ ah ++ [x0.s])) (i0 : Int) i0 (by omega) (by omega) (by try simp only [List.length_append, List.length_cons, List.length_nil, List.length_take]; omega)), hV 0 [(705, Qz (List.set (List.take bJ ah ++ [x0.s]) i0 eB))] (Q1c0 705 1 true ((Qz (List.take bJ ah ++ [x0.s])).flatten) (Qz (List.take bJ ah ++ [x0.s])) (Qz (List.set (List.take bJ ah ++ [x0.s]) i0 eB)) 1 i0 0 (i0 * 1) _ (.str eB) rfl rfl (Q83 (Qap (List.take bJ ah ++ [x0.s]) i0 eB (by try simp only [List.length_append, List.length_cons, List.length_nil, List.length_take]; omega))) (Q45 (List.take bJ ah ++ [x0.s])) (by decide) rfl rfl (Qfd (List.take bJ ah ++ [x0.s]) i0 eB)), hS 0 true (Q32 (List.set (List.take bJ ah ++ [x0.s]) i0 eB) 1 rfl), hP 1 (Q26 i0 (by omega))] [] hr (by kernel_rfl)
theorem Q1at (p0 : Val) (p1 : BA) (H : Q70 p0 p1) (x0 : Val) (i0 : Nat) (ah : List ByteArray) (ay : Bool) (bJ : Nat) (bH : (Qd p0 p1).1[i0]? = some x0) (bT : i0 < List.length (Qd p0 p1).1) (_aR : List.length ah ≤ i0) (cZ : bJ = i0) (dP : List.length (ah : List ByteArray) = i0) (bF : (decide ((i0 : Int) < ((List.length (Qd p0 p1).1) : Int))) = true) (h0 : (ay == true) = true) (h1 : (x0.kind == 3) = false) (h2 : (x0.kind == 0) = false) {r : Rs} (hr : Q5 G (Q4w p0 p1 (i0 + 1) (List.take bJ ah ++ [x0.s]) false (List.length (List.take bJ ah ++ [x0.s]))) r) : Q5 G (Q4w p0 p1 i0 ah ay bJ) r := by
 have hB0 := H.1; have e1 := beq_eq_false_iff_ne.1 h1; have e2 := beq_eq_false_iff_ne.1 h2
 exact Qc (Q9o p0 p1 i0 ah ay bJ) [hP 2 (Qq _ _ (Val.Q7 (Qd p0 p1).1)), hB 0 bF, hP 3 (Q1f 5 _ i0 _ (Val.Qb bH) rfl), hV 3 [(705, Qz (List.take bJ ah ++ [x0.s]))] (Qum 0 641 705 1 16 0 true (Qz ah) (Qz (List.take bJ ah ++ [x0.s])) [.str x0.s] bJ (List.length (List.take bJ ah ++ [x0.s])) rfl (by rw [Q2d]; exact (by omega)) (Q2d (List.take bJ ah ++ [x0.s])).symm (by rw [Q53, Q6y]) (Q45 ah) rfl (by omega)), hS 0 true (Q32 (List.take bJ ah ++ [x0.s]) 1 rfl), hB 1 (beqT h0), hP 3 (Q1f 5 _ i0 _ (Val.Qb bH) rfl), hB 2 h1, hP 3 (Q1f 5 _ i0 _ (Val.Qb bH) rfl), hB 2 h2, hP 5 (Q1f 5 _ i0 _ (Val.Qb bH) rfl), hB 2 h2, hP 1 (Q26 i0 (by omega))] [] hr (by kernel_rfl)
theorem Q1au (p0 : Val) (p1 : BA) (H : Q70 p0 p1) (x0 : Val) (i0 : Nat) (ah : List ByteArray) (ay : Bool) (bJ : Nat) (bH : (Qd p0 p1).1[i0]? = some x0) (bT : i0 < List.length (Qd p0 p1).1) (_aR : List.length ah ≤ i0) (cZ : bJ = i0) (dP : List.length (ah : List ByteArray) = i0) (bF : (decide ((i0 : Int) < ((List.length (Qd p0 p1).1) : Int))) = true) (h0 : (ay == true) = false) (h1 : (x0.kind == 0) = true) {r : Rs} (hr : Q5 G (Q4w p0 p1 (i0 + 1) (List.set (List.take bJ ah ++ [x0.s]) i0 eB) false (List.length (List.take bJ ah ++ [x0.s]))) r) : Q5 G (Q4w p0 p1 i0 ah ay bJ) r := by
 have hB0 := H.1; have e1 := eq_of_beq h1
 exact Qc (Q9o p0 p1 i0 ah ay bJ) [hP 2 (Qq _ _ (Val.Q7 (Qd p0 p1).1)), hB 0 bF, hP 3 (Q1f 5 _ i0 _ (Val.Qb bH) rfl), hV 3 [(705, Qz (List.take bJ ah ++ [x0.s]))] (Qum 0 641 705 1 16 0 true (Qz ah) (Qz (List.take bJ ah ++ [x0.s])) [.str x0.s] bJ (List.length (List.take bJ ah ++ [x0.s])) rfl (by rw [Q2d]; exact (by omega)) (Q2d (List.take bJ ah ++ [x0.s])).symm (by rw [Q53, Q6y]) (Q45 ah) rfl (by omega)), hS 0 true (Q32 (List.take bJ ah ++ [x0.s]) 1 rfl), hB 1 (beqT h0), hP 19 (Q1f 5 _ i0 _ (Val.Qb bH) rfl), hB 2 h1, hP 2 (Qaq 705 1 (List.length (List.take bJ ah ++ [x0.s])) (i0 : Int) i0 (by omega) (by omega) (by try simp only [List.length_append, List.length_cons, List.length_nil, List.length_take]; omega)), hV 0 [(705, Qz (List.set (List.take bJ ah ++ [x0.s]) i0 eB))] (Q1c0 705 1 true ((Qz (List.take bJ ah ++ [x0.s])).flatten) (Qz (List.take bJ ah ++ [x0.s])) (Qz (List.set (List.take bJ ah ++ [x0.s]) i0 eB)) 1 i0 0 (i0 * 1) _ (.str eB) rfl rfl (Q83 (Qap (List.take bJ ah ++ [x0.s]) i0 eB (by try simp only [List.length_append, List.length_cons, List.length_nil, List.length_take]; omega))) (Q45 (List.take bJ ah ++ [x0.s])) (by decide) rfl rfl (Qfd (List.take bJ ah ++ [x0.s]) i0 eB)), hS 0 true (Q32 (List.set (List.take bJ ah ++ [x0.s]) i0 eB) 1 rfl), hP 1 (Q26 i0 (by omega))] [] hr (by kernel_rfl)
theorem Q1av (p0 : Val) (p1 : BA) (H : Q70 p0 p1) (x0 : Val) (i0 : Nat) (ah : List ByteArray) (ay : Bool) (bJ : Nat) (bH : (Qd p0 p1).1[i0]? = some x0) (bT : i0 < List.length (Qd p0 p1).1) (_aR : List.length ah ≤ i0) (cZ : bJ = i0) (dP : List.length (ah : List ByteArray) = i0) (bF : (decide ((i0 : Int) < ((List.length (Qd p0 p1).1) : Int))) = true) (h0 : (ay == true) = false) (h1 : (x0.kind == 0) = false) {r : Rs} (hr : Q5 G (Q4w p0 p1 (i0 + 1) (List.take bJ ah ++ [x0.s]) false (List.length (List.take bJ ah ++ [x0.s]))) r) : Q5 G (Q4w p0 p1 i0 ah ay bJ) r := by
 have hB0 := H.1; have e1 := beq_eq_false_iff_ne.1 h1
 exact Qc (Q9o p0 p1 i0 ah ay bJ) [hP 2 (Qq _ _ (Val.Q7 (Qd p0 p1).1)), hB 0 bF, hP 3 (Q1f 5 _ i0 _ (Val.Qb bH) rfl), hV 3 [(705, Qz (List.take bJ ah ++ [x0.s]))] (Qum 0 641 705 1 16 0 true (Qz ah) (Qz (List.take bJ ah ++ [x0.s])) [.str x0.s] bJ (List.length (List.take bJ ah ++ [x0.s])) rfl (by rw [Q2d]; exact (by omega)) (Q2d (List.take bJ ah ++ [x0.s])).symm (by rw [Q53, Q6y]) (Q45 ah) rfl (by omega)), hS 0 true (Q32 (List.take bJ ah ++ [x0.s]) 1 rfl), hB 1 (beqT h0), hP 19 (Q1f 5 _ i0 _ (Val.Qb bH) rfl), hB 2 h1, hP 1 (Q26 i0 (by omega))] [] hr (by kernel_rfl)
theorem Q89 (p0 : Val) (p1 : BA) (H : Q70 p0 p1) : ∀ (r0 : List Val) (i0 : Nat) (ah : List ByteArray) (ay : Bool) (bJ : Nat), List.drop i0 (Qd p0 p1).1 = r0 → List.length ah ≤ i0 → bJ = i0 → List.length (ah : List ByteArray) = i0 → Qik p0 p1 (Q4w p0 p1 i0 ah ay bJ) (Q41 p0 p1 r0 i0 ah ay bJ)
 | [], i0, ah, ay, bJ, hd, aR, cZ, dP => by
  have bF : (decide ((i0 : Int) < ((List.length (Qd p0 p1).1) : Int))) = false := by have := Q1n hd; simp; omega
  rw [Q41]
  exact Q1da p0 p1 H i0 ah ay bJ aR cZ dP bF
 | x0 :: r0, i0, ah, ay, bJ, hd, aR, cZ, dP => by
  obtain ⟨bH, bT, hd'⟩ := Q1o hd
  have bF : (decide ((i0 : Int) < ((List.length (Qd p0 p1).1) : Int))) = true := by simp; omega
  rw [Q41]
  cases h0 : (ay == true) with
  | true =>
   cases h1 : (x0.kind == 3) with
   | true =>
    have e1 := eq_of_beq h1
    cases h2 : (x0.kind == 0) with
    | true =>
     have e2 := eq_of_beq h2
     exact Q55 p0 p1 (fun r hr => Q1aq p0 p1 H x0 i0 ah ay bJ bH bT aR cZ dP bF h0 h1 h2 hr) _ (Q89 p0 p1 H r0 _ _ _ _ hd' (by first | omega | (simp; omega)) ((H.2.1 i0 ah ay bJ x0 bH aR cZ dP) h0 h1 h2) ((H.2.2.1 i0 ah ay bJ x0 bH aR cZ dP) h0 h1 h2))
    | false =>
     have e2 := beq_eq_false_iff_ne.1 h2
     exact Q55 p0 p1 (fun r hr => Q1ar p0 p1 H x0 i0 ah ay bJ bH bT aR cZ dP bF h0 h1 h2 hr) _ (Q89 p0 p1 H r0 _ _ _ _ hd' (by first | omega | (simp; omega)) ((H.2.2.2.1 i0 ah ay bJ x0 bH aR cZ dP) h0 h1 h2) ((H.2.2.2.2.1 i0 ah ay bJ x0 bH aR cZ dP) h0 h1 h2))
   | false =>
    have e1 := beq_eq_false_iff_ne.1 h1
    cases h2 : (x0.kind == 0) with
    | true =>
     have e2 := eq_of_beq h2
     exact Q55 p0 p1 (fun r hr => Q1as p0 p1 H x0 i0 ah ay bJ bH bT aR cZ dP bF h0 h1 h2 hr) _ (Q89 p0 p1 H r0 _ _ _ _ hd' (by first | omega | (simp; omega)) ((H.2.2.2.2.2.1 i0 ah ay bJ x0 bH aR cZ dP) h0 h1 h2) ((H.2.2.2.2.2.2.1 i0 ah ay bJ x0 bH aR cZ dP) h0 h1 h2))
    | false =>
     have e2 := beq_eq_false_iff_ne.1 h2
     exact Q55 p0 p1 (fun r hr => Q1at p0 p1 H x0 i0 ah ay bJ bH bT aR cZ dP bF h0 h1 h2 hr) _ (Q89 p0 p1 H r0 _ _ _ _ hd' (by first | omega | (simp; omega)) ((H.2.2.2.2.2.2.2.1 i0 ah ay bJ x0 bH aR cZ dP) h0 h1 h2) ((H.2.2.2.2.2.2.2.2.1 i0 ah ay bJ x0 bH aR cZ dP) h0 h1 h2))
  | false =>
   cases h1 : (x0.kind == 0) with
   | true =>
    have e1 := eq_of_beq h1
    exact Q55 p0 p1 (fun r hr => Q1au p0 p1 H x0 i0 ah ay bJ bH bT aR cZ dP bF h0 h1 hr) _ (Q89 p0 p1 H r0 _ _ _ _ hd' (by first | omega | (simp; omega)) ((H.2.2.2.2.2.2.2.2.2.1 i0 ah ay bJ x0 bH aR cZ dP) h0 h1) ((H.2.2.2.2.2.2.2.2.2.2.1 i0 ah ay bJ x0 bH aR cZ dP) h0 h1))
   | false =>
    have e1 := beq_eq_false_iff_ne.1 h1
    exact Q55 p0 p1 (fun r hr => Q1av p0 p1 H x0 i0 ah ay bJ bH bT aR cZ dP bF h0 h1 hr) _ (Q89 p0 p1 H r0 _ _ _ _ hd' (by first | omega | (simp; omega)) ((H.2.2.2.2.2.2.2.2.2.2.2.1 i0 ah ay bJ x0 bH aR cZ dP) h0 h1) ((H.2.2.2.2.2.2.2.2.2.2.2.2.1 i0 ah ay bJ x0 bH aR cZ dP) h0 h1))
def Qcq (p0 : Val) (p1 : BA) : List ByteArray × Bool := dE rS p0 p1
theorem Q1uj {x : Val} (h3 : (x.kind == 3) = true) (h0 : (x.kind == 0) = true) : False := by
  have a := eq_of_beq h3
  have b := eq_of_beq h0
  omega
theorem Qom (p0 : Val) (p1 : BA) : ∀ (l : List Val) (i : Nat) (a : List ByteArray) (b : Bool) (n : Nat), a.length = i → n = i → Q41 p0 p1 l i a b n = (a ++ l.map (fun x => (rS x).1), b && l.all (fun x => (rS x).2), i + l.length)
  | [], i, a, b, n, ha, hn => by rw [Q41, hn]; simp
  | x :: l, i, a, b, n, ha, hn => by
    have ht : List.take n a = a := by rw [hn, ← ha, List.take_length]
    have hs : List.set (a ++ [x.s]) i eB = a ++ [⟨#[]⟩] := by rw [List.set_append_right _ _ (by omega), ← ha, Nat.sub_self]; rfl
    have hl : (a ++ [x.s]).length = i + 1 := by rw [List.length_append, ha]; rfl
    have hl' : (a ++ [eB]).length = i + 1 := by rw [List.length_append, ha]; rfl
    have step : ∀ (y : BA) (c : Bool), (a ++ [y]).length = i + 1 → (rS x) = (y, c) → Q41 p0 p1 l (i + 1) (a ++ [y]) (b && c) (i + 1) = (a ++ (x :: l).map (fun x => (rS x).1), b && (x :: l).all (fun x => (rS x).2), i + (x :: l).length) := by
      intro y c hy he
      rw [Qom p0 p1 l (i + 1) (a ++ [y]) (b && c) (i + 1) hy rfl, List.map_cons, List.all_cons, he]
      simp only [List.append_assoc, List.singleton_append, Bool.and_assoc, List.length_cons, Nat.add_assoc, Nat.add_comm 1]
    rw [Q41, ht, hs, hl]
    cases h3 : (x.kind == 3) with
    | true =>
      cases h0 : (x.kind == 0) with
      | true => exact (Q1uj h3 h0).elim
      | false =>
        have := step x.s true hl (by unfold rS; rw [h3, h0]; rfl)
        cases b <;> exact this
    | false =>
      cases h0 : (x.kind == 0) with
      | true =>
        have := step ⟨#[]⟩ true hl' (by unfold rS; rw [h3, h0]; rfl)
        cases b <;> exact this
      | false =>
        have := step x.s false hl (by unfold rS; rw [h3, h0]; rfl)
        cases b <;> exact this
theorem Q2ax (p0 : Val) (p1 : BA) : Qcq p0 p1 = (((Q41 p0 p1 (Qd p0 p1).1 0 [] (Qd p0 p1).2 0).1, (Q41 p0 p1 (Qd p0 p1).1 0 [] (Qd p0 p1).2 0).2.1)) := by
  rw [Qom p0 p1 _ 0 [] _ 0 rfl rfl]
  rfl
def Q27k (p0 : Val) (p1 : BA) : En := .call 231 [.agg (Val.cells p0), .str p1] []
def Q1wl (p0 : Val) (p1 : BA) : Rs := .ret (.tup [.sl (Qz (Qcq p0 p1).1), .bool (Qcq p0 p1).2]) []
def Q1ox (p0 : Val) : Prop := Val.Sm 1000000000 p0
theorem Qe4 (p0 : Val) (p1 : BA) (H : Q1ox p0) : (Qfu p0) ∧ (Q70 p0 p1) ∧ (0 = 0) ∧ (List.length ([] : List ByteArray) = 0) ∧ ((Q41 p0 p1 (Qd p0 p1).1 0 [] (Qd p0 p1).2 0).2.2 = List.length (Q41 p0 p1 (Qd p0 p1).1 0 [] (Qd p0 p1).2 0).1) ∧ True := by
  have hl := Q69 (Qp H p1)
  refine ⟨H, ?_, rfl, rfl, ?_, trivial⟩
  · unfold Q70
    refine ⟨Nat.le_trans hl.1 (Nat.le_of_ble_eq_true rfl), ?_⟩
    repeat' with_reducible apply And.intro
    all_goals first | exact True.intro | (intro i0 ah ay bJ x0 hx h1 h2 h3 h4 h5 h6; simp [h2, h3]) | (intro i0 ah ay bJ x0 hx h1 h2 h3 h4 h5; simp [h2, h3])
  · rw [Qom p0 p1 _ 0 [] _ 0 rfl rfl]
    simp
theorem Q201 (p0 : Val) (p1 : BA) (H : Q1ox p0) : Q5 G (Q27k p0 p1) (Q1wl p0 p1) := by
 unfold Q1wl
 rw [Q2ax]
 have hl0 := Q89 p0 p1 ((Qe4 p0 p1 H).2.1) (Qd p0 p1).1 0 [] (Qd p0 p1).2 0 (by simp) (by simp) ((Qe4 p0 p1 H).2.2.1) ((Qe4 p0 p1 H).2.2.2.1)
 obtain ⟨z0, eG, hl0⟩ := hl0
 exact Q6 (fn := Ir.K37) (by kernel_rfl) VOK.nil [hS 0 true (Q32 (Q41 p0 p1 (Qd p0 p1).1 0 [] (Qd p0 p1).2 0).1 1 rfl), hQ (((Qe4 p0 p1 H).2.2.2.2.1).trans (Q2d (Q41 p0 p1 (Qd p0 p1).1 0 [] (Qd p0 p1).2 0).1).symm)] [aN (Qev p0 p1 (Qe4 p0 p1 H).1), aV [(0, Qz (Q41 p0 p1 (Qd p0 p1).1 0 [] (Qd p0 p1).2 0).1)] hl0] (by kernel_rfl)
def Q59 (p0 : Val) (p1 : BA) : List Val → Nat → (List aj) → Bool → (List aj) × Bool
 | [], _i0, ah, ay =>
  (ah, ay)
 | x0 :: r0, i0, ah, ay =>
  bif (ay == true) then
   Q59 p0 p1 r0 (i0 + 1) (ah ++ [(aj.mk (Q19 x0 Q1c).1 (Q1g x0 Q4t).1 (Qcq x0 Q29).1)]) ((((Q2u x0) && (Q19 x0 Q1c).2) && (Q1g x0 Q4t).2) && (Qcq x0 Q29).2)
  else
   Q59 p0 p1 r0 (i0 + 1) (ah ++ [(aj.mk (Q19 x0 Q1c).1 (Q1g x0 Q4t).1 (Qcq x0 Q29).1)]) false
def Q1ev (p0 : Val) (p1 : BA) (i0 : Nat) (ah : List aj) (ay : Bool) : List PV :=
  nuns 6 ++ [.sl (Val.rows (Qd p0 p1).1), .bool ay, .ms 0 3 0 (List.length ah), iN (i0 : Int)] ++ nuns 68
def Qz6 (_p0 : Val) (_p1 : BA) (_i0 : Nat) (ah : List aj) (_ay : Bool) : List Ob :=
  [⟨3, 0, true, (aj.rows ah).flatten⟩]
def Qb0 (p0 : Val) (p1 : BA) (i0 : Nat) (ah : List aj) (ay : Bool) : En := .loop 0 Ir.Qkx Ir.Q1na (Q1ev p0 p1 i0 ah ay) (Qz6 p0 p1 i0 ah ay)
def Qrs (_p0 : Val) (_p1 : BA) (q0 : List aj) (q1 : Bool) (z : Nat → PV) (_zo : Nat → List PV) : St :=
  ⟨zr z 0 7 ++ [.bool q1, .ms 0 3 0 (List.length q0)] ++ zr z 9 69, [(0, ⟨3, 0, true, (aj.rows q0).flatten⟩)], 257⟩
theorem Qx7 (p0 : Val) (p1 : BA) (i0 : Nat) (ah : List aj) (ay : Bool) : VOK (Go.Pv.look (number 0 (Qz6 p0 p1 i0 ah ay))) [(0, aj.rows ah)] := (VOK.cons (show Seen _ _ from Q3r (ob := ⟨3, 0, true, (aj.rows ah).flatten⟩) (aj.Q8 ah 3 rfl)) VOK.nil)
def Qij (p0 : Val) (p1 : BA) (e : En) (q : (List aj) × Bool) : Prop := ∃ z zo, Q5 G e (.st (.exit 0) (Qrs p0 p1 q.1 q.2 z zo))
theorem Qdr (p0 : Val) (p1 : BA) {e e' : En} (h : ∀ r, Q5 G e r → Q5 G e' r) : ∀ q, Qij p0 p1 e q → Qij p0 p1 e' q
  | _, ⟨z, zo, hz⟩ => ⟨z, zo, h _ hz⟩
def Qb9 (p0 : Val) (p1 : BA) : Prop := (List.length (Qd p0 p1).1 ≤ 137438953472) ∧ (∀ x0 ∈ (Qd p0 p1).1, Qpe x0) ∧ (∀ x0 ∈ (Qd p0 p1).1, Qjs x0) ∧ (∀ x0 ∈ (Qd p0 p1).1, Q1ox x0) ∧ True
def Qtt (p0 : Val) (p1 : BA) (i0 : Nat) (_ah : List aj) (_ay : Bool) : List PV :=
  nuns 6 ++ [.sl (Val.rows (Qd p0 p1).1), .un, .un, iN (i0 : Int)] ++ nuns 12 ++ [iN (i0 : Int), .sl (Val.rows (Qd p0 p1).1), iN ((List.length (Qd p0 p1).1) : Int), .bool false]
def Qmr (_p0 : Val) (_p1 : BA) (_i0 : Nat) (_ah : List aj) (_ay : Bool) : List (Nat × List PV) :=
  []
theorem Q1d9 (p0 : Val) (p1 : BA) (_H : Qb9 p0 p1) (i0 : Nat) (ah : List aj) (ay : Bool) (_aR : List.length ah ≤ i0) (bF : (decide ((i0 : Int) < ((List.length (Qd p0 p1).1) : Int))) = false) : Qij p0 p1 (Qb0 p0 p1 i0 ah ay) (ah, ay) := by
 exact ⟨(envF (Qtt p0 p1 i0 ah ay)), (zoF (Qmr p0 p1 i0 ah ay)), Qg (Qx7 p0 p1 i0 ah ay) (x := ((.exit 0), Qrs p0 p1 ah ay (envF (Qtt p0 p1 i0 ah ay)) (zoF (Qmr p0 p1 i0 ah ay)))) [hP 2 (Qq _ _ (Val.Q7 (Qd p0 p1).1)), hB 0 bF] [] (by kernel_rfl)⟩
theorem Q1ao (p0 : Val) (p1 : BA) (H : Qb9 p0 p1) (x0 : Val) (i0 : Nat) (ah : List aj) (ay : Bool) (bH : (Qd p0 p1).1[i0]? = some x0) (bT : i0 < List.length (Qd p0 p1).1) (aR : List.length ah ≤ i0) (bF : (decide ((i0 : Int) < ((List.length (Qd p0 p1).1) : Int))) = true) (h0 : (ay == true) = true) {r : Rs} (hr : Q5 G (Qb0 p0 p1 (i0 + 1) (ah ++ [(aj.mk (Q19 x0 Q1c).1 (Q1g x0 Q4t).1 (Qcq x0 Q29).1)]) ((((Q2u x0) && (Q19 x0 Q1c).2) && (Q1g x0 Q4t).2) && (Qcq x0 Q29).2)) r) : Q5 G (Qb0 p0 p1 i0 ah ay) r := by
 have hB0 := H.1
 exact Qc (Qx7 p0 p1 i0 ah ay) [hP 2 (Qq _ _ (Val.Q7 (Qd p0 p1).1)), hB 0 bF, hP 2 (Q1f 5 _ i0 _ (Val.Qb bH) rfl), hP 9 (Q1f 5 _ i0 _ (Val.Qb bH) rfl), hP 9 (Q1f 5 _ i0 _ (Val.Qb bH) rfl), hA 13 0 2497 2561 3 48 0 0 true aj.Q7 aj.Q1l ah (aj.mk (Q19 x0 Q1c).1 (Q1g x0 Q4t).1 (Qcq x0 Q29).1) (aj.Qt ah) rfl rfl (by omega), hS 0 true (aj.Q8 (ah ++ [(aj.mk (Q19 x0 Q1c).1 (Q1g x0 Q4t).1 (Qcq x0 Q29).1)]) 3 rfl), hB 1 (beqT h0), hP 3 (Q1f 5 _ i0 _ (Val.Qb bH) rfl), hP 4 (Q63 (Q2u x0) (.bool (Q19 x0 Q1c).2)), hP 0 (Q64 (Q2u x0) (Q19 x0 Q1c).2), hP 1 (Q63 ((Q2u x0) && (Q19 x0 Q1c).2) (.bool (Q1g x0 Q4t).2)), hP 0 (Q64 ((Q2u x0) && (Q19 x0 Q1c).2) (Q1g x0 Q4t).2), hP 1 (Q63 (((Q2u x0) && (Q19 x0 Q1c).2) && (Q1g x0 Q4t).2) (.bool (Qcq x0 Q29).2)), hP 0 (Q64 (((Q2u x0) && (Q19 x0 Q1c).2) && (Q1g x0 Q4t).2) (Qcq x0 Q29).2), hP 2 (Q26 i0 (by omega))] [aN (Q5i x0 Q1c (H.2.1 x0 (Q15 bH))), aN (Q78 x0 Q4t (H.2.2.1 x0 (Q15 bH))), aN (Q201 x0 Q29 (H.2.2.2.1 x0 (Q15 bH))), aN (Q9h x0)] hr (by kernel_rfl)
theorem Q1ap (p0 : Val) (p1 : BA) (H : Qb9 p0 p1) (x0 : Val) (i0 : Nat) (ah : List aj) (ay : Bool) (bH : (Qd p0 p1).1[i0]? = some x0) (bT : i0 < List.length (Qd p0 p1).1) (aR : List.length ah ≤ i0) (bF : (decide ((i0 : Int) < ((List.length (Qd p0 p1).1) : Int))) = true) (h0 : (ay == true) = false) {r : Rs} (hr : Q5 G (Qb0 p0 p1 (i0 + 1) (ah ++ [(aj.mk (Q19 x0 Q1c).1 (Q1g x0 Q4t).1 (Qcq x0 Q29).1)]) false) r) : Q5 G (Qb0 p0 p1 i0 ah ay) r := by
 have hB0 := H.1
 exact Qc (Qx7 p0 p1 i0 ah ay) [hP 2 (Qq _ _ (Val.Q7 (Qd p0 p1).1)), hB 0 bF, hP 2 (Q1f 5 _ i0 _ (Val.Qb bH) rfl), hP 9 (Q1f 5 _ i0 _ (Val.Qb bH) rfl), hP 9 (Q1f 5 _ i0 _ (Val.Qb bH) rfl), hA 13 0 2497 2561 3 48 0 0 true aj.Q7 aj.Q1l ah (aj.mk (Q19 x0 Q1c).1 (Q1g x0 Q4t).1 (Qcq x0 Q29).1) (aj.Qt ah) rfl rfl (by omega), hS 0 true (aj.Q8 (ah ++ [(aj.mk (Q19 x0 Q1c).1 (Q1g x0 Q4t).1 (Qcq x0 Q29).1)]) 3 rfl), hB 1 (beqT h0), hP 18 (Q26 i0 (by omega))] [aN (Q5i x0 Q1c (H.2.1 x0 (Q15 bH))), aN (Q78 x0 Q4t (H.2.2.1 x0 (Q15 bH))), aN (Q201 x0 Q29 (H.2.2.2.1 x0 (Q15 bH)))] hr (by kernel_rfl)
theorem Qo7 (p0 : Val) (p1 : BA) (H : Qb9 p0 p1) : ∀ (r0 : List Val) (i0 : Nat) (ah : List aj) (ay : Bool), List.drop i0 (Qd p0 p1).1 = r0 → List.length ah ≤ i0 → Qij p0 p1 (Qb0 p0 p1 i0 ah ay) (Q59 p0 p1 r0 i0 ah ay)
 | [], i0, ah, ay, hd, aR => by
  have bF : (decide ((i0 : Int) < ((List.length (Qd p0 p1).1) : Int))) = false := by have := Q1n hd; simp; omega
  rw [Q59]
  exact Q1d9 p0 p1 H i0 ah ay aR bF
 | x0 :: r0, i0, ah, ay, hd, aR => by
  obtain ⟨bH, bT, hd'⟩ := Q1o hd
  have bF : (decide ((i0 : Int) < ((List.length (Qd p0 p1).1) : Int))) = true := by simp; omega
  rw [Q59]
  cases h0 : (ay == true) with
  | true =>
   exact Qdr p0 p1 (fun r hr => Q1ao p0 p1 H x0 i0 ah ay bH bT aR bF h0 hr) _ (Qo7 p0 p1 H r0 _ _ _ hd' (by first | omega | (simp; omega)))
  | false =>
   exact Qdr p0 p1 (fun r hr => Q1ap p0 p1 H x0 i0 ah ay bH bT aR bF h0 hr) _ (Qo7 p0 p1 H r0 _ _ _ hd' (by first | omega | (simp; omega)))
def Q3n (p0 : Val) (p1 : BA) : List aj × Bool := dE aj.rdec p0 p1
theorem Qxz (p0 : Val) (p1 : BA) : ∀ (l : List Val) (i : Nat) (a : List aj) (b : Bool), Q59 p0 p1 l i a b = (a ++ l.map (fun x => (aj.rdec x).1), b && l.all fun x => (aj.rdec x).2)
  | [], _, a, b => by rw [Q59]; simp
  | x :: l, i, a, b => by
    rw [Q59]
    cases b with
    | false => exact (Qxz p0 p1 l (i + 1) (a ++ [(aj.rdec x).1]) false).trans (by simp only [List.append_assoc, List.singleton_append, List.map_cons, List.all_cons, Bool.false_and])
    | true => exact (Qxz p0 p1 l (i + 1) (a ++ [(aj.rdec x).1]) (aj.rdec x).2).trans (by simp only [List.append_assoc, List.singleton_append, List.map_cons, List.all_cons, Bool.true_and])
theorem Q2av (p0 : Val) (p1 : BA) : Q3n p0 p1 = (((Q59 p0 p1 (Qd p0 p1).1 0 [] (Qd p0 p1).2).1, (Q59 p0 p1 (Qd p0 p1).1 0 [] (Qd p0 p1).2).2)) := by
  rw [Qxz]
  rfl
def Q27i (p0 : Val) (p1 : BA) : En := .call 201 [.agg (Val.cells p0), .str p1] []
def Q1wj (p0 : Val) (p1 : BA) : Rs := .ret (.tup [.sl (aj.rows (Q3n p0 p1).1), .bool (Q3n p0 p1).2]) []
def Q136 (p0 : Val) : Prop := Val.Sm 1000000000 p0
theorem Q16p (p0 : Val) (p1 : BA) (H : Q136 p0) : (Qfu p0) ∧ (Qb9 p0 p1) ∧ True := by
  have hl := Q69 (Qp H p1)
  have g : ∀ x ∈ (dL p0 p1).1, Val.Sm sB x := hl.2
  refine ⟨H, ?_, trivial⟩
  unfold Qb9
  refine ⟨Nat.le_trans hl.1 (Nat.le_of_ble_eq_true rfl), ?_⟩
  repeat' with_reducible apply And.intro
  all_goals first | exact True.intro | exact g
theorem Qyh (p0 : Val) (p1 : BA) (H : Q136 p0) : Q5 G (Q27i p0 p1) (Q1wj p0 p1) := by
 unfold Q1wj
 rw [Q2av]
 have hl0 := Qo7 p0 p1 ((Q16p p0 p1 H).2.1) (Qd p0 p1).1 0 [] (Qd p0 p1).2 (by simp) (by simp)
 obtain ⟨z0, eG, hl0⟩ := hl0
 exact Q6 (fn := Ir.K35) (by kernel_rfl) VOK.nil [hS 0 true (aj.Q8 (Q59 p0 p1 (Qd p0 p1).1 0 [] (Qd p0 p1).2).1 3 rfl), hQ (aj.Q7 (Q59 p0 p1 (Qd p0 p1).1 0 [] (Qd p0 p1).2).1).symm] [aN (Qev p0 p1 (Q16p p0 p1 H).1), aV [(0, aj.rows (Q59 p0 p1 (Qd p0 p1).1 0 [] (Qd p0 p1).2).1)] hl0] (by kernel_rfl)
def Q5a (p0 : Val) : List Val → Nat → (List aP) → Bool → (List aP) × Bool
 | [], _i0, ah, ay =>
  (ah, ay)
 | x0 :: r0, i0, ah, ay =>
  bif (ay == true) then
   Q5a p0 r0 (i0 + 1) (ah ++ [(aP.mk (Q2m x0 Qa).1 (Q3n x0 Q0).1 (Q1g x0 Q1d).1)]) ((((Q2u x0) && (Q2m x0 Qa).2) && (Q3n x0 Q0).2) && (Q1g x0 Q1d).2)
  else
   Q5a p0 r0 (i0 + 1) (ah ++ [(aP.mk (Q2m x0 Qa).1 (Q3n x0 Q0).1 (Q1g x0 Q1d).1)]) false
def Q1f0 (p0 : Val) (i0 : Nat) (ah : List aP) (ay : Bool) : List PV :=
  [.un, .un, .un, .un, .sl (Val.rows (Qd p0 Qs).1), .bool ay, .ms 0 3 0 (List.length ah), iN (i0 : Int)] ++ nuns 67
def Qza (_p0 : Val) (_i0 : Nat) (ah : List aP) (_ay : Bool) : List Ob :=
  [⟨3, 0, true, (aP.rows ah).flatten⟩]
def Qb2 (p0 : Val) (i0 : Nat) (ah : List aP) (ay : Bool) : En := .loop 0 Ir.Ql2 Ir.Q1nf (Q1f0 p0 i0 ah ay) (Qza p0 i0 ah ay)
def Qry (_p0 : Val) (q0 : List aP) (q1 : Bool) (z : Nat → PV) (_zo : Nat → List PV) : St :=
  ⟨zr z 0 5 ++ [.bool q1, .ms 0 3 0 (List.length q0)] ++ zr z 7 68, [(0, ⟨3, 0, true, (aP.rows q0).flatten⟩)], 257⟩
theorem Qx9 (p0 : Val) (i0 : Nat) (ah : List aP) (ay : Bool) : VOK (Go.Pv.look (number 0 (Qza p0 i0 ah ay))) [(0, aP.rows ah)] := (VOK.cons (show Seen _ _ from Q3r (ob := ⟨3, 0, true, (aP.rows ah).flatten⟩) (aP.Q8 ah 3 rfl)) VOK.nil)
def Qin (p0 : Val) (e : En) (q : (List aP) × Bool) : Prop := ∃ z zo, Q5 G e (.st (.exit 0) (Qry p0 q.1 q.2 z zo))
theorem Qdu (p0 : Val) {e e' : En} (h : ∀ r, Q5 G e r → Q5 G e' r) : ∀ q, Qin p0 e q → Qin p0 e' q
  | _, ⟨z, zo, hz⟩ => ⟨z, zo, h _ hz⟩
def Qbb (p0 : Val) : Prop := (List.length (Qd p0 Qs).1 ≤ 137438953472) ∧ (∀ x0 ∈ (Qd p0 Qs).1, Q137 x0) ∧ (∀ x0 ∈ (Qd p0 Qs).1, Q136 x0) ∧ (∀ x0 ∈ (Qd p0 Qs).1, Qjs x0) ∧ True
def Qtz (p0 : Val) (i0 : Nat) (_ah : List aP) (_ay : Bool) : List PV :=
  [.un, .un, .un, .un, .sl (Val.rows (Qd p0 Qs).1), .un, .un, iN (i0 : Int)] ++ nuns 11 ++ [iN (i0 : Int), .sl (Val.rows (Qd p0 Qs).1), iN ((List.length (Qd p0 Qs).1) : Int), .bool false]
def Qmx (_p0 : Val) (_i0 : Nat) (_ah : List aP) (_ay : Bool) : List (Nat × List PV) :=
  []
theorem Q1df (p0 : Val) (_H : Qbb p0) (i0 : Nat) (ah : List aP) (ay : Bool) (_aR : List.length ah ≤ i0) (bF : (decide ((i0 : Int) < ((List.length (Qd p0 Qs).1) : Int))) = false) : Qin p0 (Qb2 p0 i0 ah ay) (ah, ay) := by
 exact ⟨(envF (Qtz p0 i0 ah ay)), (zoF (Qmx p0 i0 ah ay)), Qg (Qx9 p0 i0 ah ay) (x := ((.exit 0), Qry p0 ah ay (envF (Qtz p0 i0 ah ay)) (zoF (Qmx p0 i0 ah ay)))) [hP 2 (Qq _ _ (Val.Q7 (Qd p0 Qs).1)), hB 0 bF] [] (by kernel_rfl)⟩
theorem Q1b0 (p0 : Val) (H : Qbb p0) (x0 : Val) (i0 : Nat) (ah : List aP) (ay : Bool) (bH : (Qd p0 Qs).1[i0]? = some x0) (bT : i0 < List.length (Qd p0 Qs).1) (aR : List.length ah ≤ i0) (bF : (decide ((i0 : Int) < ((List.length (Qd p0 Qs).1) : Int))) = true) (h0 : (ay == true) = true) {r : Rs} (hr : Q5 G (Qb2 p0 (i0 + 1) (ah ++ [(aP.mk (Q2m x0 Qa).1 (Q3n x0 Q0).1 (Q1g x0 Q1d).1)]) ((((Q2u x0) && (Q2m x0 Qa).2) && (Q3n x0 Q0).2) && (Q1g x0 Q1d).2)) r) : Q5 G (Qb2 p0 i0 ah ay) r := by
 have hB0 := H.1
 exact Qc (Qx9 p0 i0 ah ay) [hP 2 (Qq _ _ (Val.Q7 (Qd p0 Qs).1)), hB 0 bF, hP 2 (Q1f 5 _ i0 _ (Val.Qb bH) rfl), hP 9 (Q1f 5 _ i0 _ (Val.Qb bH) rfl), hP 9 (Q1f 5 _ i0 _ (Val.Qb bH) rfl), hA 13 0 2497 2561 3 40 0 0 true aP.Q7 aP.Q1l ah (aP.mk (Q2m x0 Qa).1 (Q3n x0 Q0).1 (Q1g x0 Q1d).1) (aP.Qt ah) rfl rfl (by omega), hS 0 true (aP.Q8 (ah ++ [(aP.mk (Q2m x0 Qa).1 (Q3n x0 Q0).1 (Q1g x0 Q1d).1)]) 3 rfl), hB 1 (beqT h0), hP 3 (Q1f 5 _ i0 _ (Val.Qb bH) rfl), hP 4 (Q63 (Q2u x0) (.bool (Q2m x0 Qa).2)), hP 0 (Q64 (Q2u x0) (Q2m x0 Qa).2), hP 1 (Q63 ((Q2u x0) && (Q2m x0 Qa).2) (.bool (Q3n x0 Q0).2)), hP 0 (Q64 ((Q2u x0) && (Q2m x0 Qa).2) (Q3n x0 Q0).2), hP 1 (Q63 (((Q2u x0) && (Q2m x0 Qa).2) && (Q3n x0 Q0).2) (.bool (Q1g x0 Q1d).2)), hP 0 (Q64 (((Q2u x0) && (Q2m x0 Qa).2) && (Q3n x0 Q0).2) (Q1g x0 Q1d).2), hP 2 (Q26 i0 (by omega))] [aN (Qp6 x0 Qa (H.2.1 x0 (Q15 bH))), aN (Qyh x0 Q0 (H.2.2.1 x0 (Q15 bH))), aN (Q78 x0 Q1d (H.2.2.2.1 x0 (Q15 bH))), aN (Q9h x0)] hr (by kernel_rfl)
theorem Q1b1 (p0 : Val) (H : Qbb p0) (x0 : Val) (i0 : Nat) (ah : List aP) (ay : Bool) (bH : (Qd p0 Qs).1[i0]? = some x0) (bT : i0 < List.length (Qd p0 Qs).1) (aR : List.length ah ≤ i0) (bF : (decide ((i0 : Int) < ((List.length (Qd p0 Qs).1) : Int))) = true) (h0 : (ay == true) = false) {r : Rs} (hr : Q5 G (Qb2 p0 (i0 + 1) (ah ++ [(aP.mk (Q2m x0 Qa).1 (Q3n x0 Q0).1 (Q1g x0 Q1d).1)]) false) r) : Q5 G (Qb2 p0 i0 ah ay) r := by
 have hB0 := H.1
 exact Qc (Qx9 p0 i0 ah ay) [hP 2 (Qq _ _ (Val.Q7 (Qd p0 Qs).1)), hB 0 bF, hP 2 (Q1f 5 _ i0 _ (Val.Qb bH) rfl), hP 9 (Q1f 5 _ i0 _ (Val.Qb bH) rfl), hP 9 (Q1f 5 _ i0 _ (Val.Qb bH) rfl), hA 13 0 2497 2561 3 40 0 0 true aP.Q7 aP.Q1l ah (aP.mk (Q2m x0 Qa).1 (Q3n x0 Q0).1 (Q1g x0 Q1d).1) (aP.Qt ah) rfl rfl (by omega), hS 0 true (aP.Q8 (ah ++ [(aP.mk (Q2m x0 Qa).1 (Q3n x0 Q0).1 (Q1g x0 Q1d).1)]) 3 rfl), hB 1 (beqT h0), hP 18 (Q26 i0 (by omega))] [aN (Qp6 x0 Qa (H.2.1 x0 (Q15 bH))), aN (Qyh x0 Q0 (H.2.2.1 x0 (Q15 bH))), aN (Q78 x0 Q1d (H.2.2.2.1 x0 (Q15 bH)))] hr (by kernel_rfl)
theorem Qo9 (p0 : Val) (H : Qbb p0) : ∀ (r0 : List Val) (i0 : Nat) (ah : List aP) (ay : Bool), List.drop i0 (Qd p0 Qs).1 = r0 → List.length ah ≤ i0 → Qin p0 (Qb2 p0 i0 ah ay) (Q5a p0 r0 i0 ah ay)
 | [], i0, ah, ay, hd, aR => by
  have bF : (decide ((i0 : Int) < ((List.length (Qd p0 Qs).1) : Int))) = false := by have := Q1n hd; simp; omega
  rw [Q5a]
  exact Q1df p0 H i0 ah ay aR bF
 | x0 :: r0, i0, ah, ay, hd, aR => by
  obtain ⟨bH, bT, hd'⟩ := Q1o hd
  have bF : (decide ((i0 : Int) < ((List.length (Qd p0 Qs).1) : Int))) = true := by simp; omega
  rw [Q5a]
  cases h0 : (ay == true) with
  | true =>
   exact Qdu p0 (fun r hr => Q1b0 p0 H x0 i0 ah ay bH bT aR bF h0 hr) _ (Qo9 p0 H r0 _ _ _ hd' (by first | omega | (simp; omega)))
  | false =>
   exact Qdu p0 (fun r hr => Q1b1 p0 H x0 i0 ah ay bH bT aR bF h0 hr) _ (Qo9 p0 H r0 _ _ _ hd' (by first | omega | (simp; omega)))
def Qek (p0 : Val) : List aP × Bool := dE aP.rdec p0 Qs
theorem Qy2 (p0 : Val) : ∀ (l : List Val) (i : Nat) (a : List aP) (b : Bool), Q5a p0 l i a b = (a ++ l.map (fun x => (aP.rdec x).1), b && l.all fun x => (aP.rdec x).2)
  | [], _, a, b => by rw [Q5a]; simp
  | x :: l, i, a, b => by
    rw [Q5a]
    cases b with
    | false => exact (Qy2 p0 l (i + 1) (a ++ [(aP.rdec x).1]) false).trans (by simp only [List.append_assoc, List.singleton_append, List.map_cons, List.all_cons, Bool.false_and])
    | true => exact (Qy2 p0 l (i + 1) (a ++ [(aP.rdec x).1]) (aP.rdec x).2).trans (by simp only [List.append_assoc, List.singleton_append, List.map_cons, List.all_cons, Bool.true_and])
theorem Q2b3 (p0 : Val) : Qek p0 = (((Q5a p0 (Qd p0 Qs).1 0 [] (Qd p0 Qs).2).1, (Q5a p0 (Qd p0 Qs).1 0 [] (Qd p0 Qs).2).2)) := by
  rw [Qy2]
  rfl
def Q27p (p0 : Val) : En := .call 270 [.agg (Val.cells p0)] []
def Q1wr (p0 : Val) : Rs := .ret (.tup [.sl (aP.rows (Qek p0).1), .bool (Qek p0).2]) []
def Q1p1 (p0 : Val) : Prop := Val.Sm 1000000000 p0
theorem Q16t (p0 : Val) (H : Q1p1 p0) : (Qfu p0) ∧ (Qbb p0) ∧ True := by
  have hl := Q69 (Qp H Qs)
  have g : ∀ x ∈ (dL p0 Qs).1, Val.Sm sB x := hl.2
  refine ⟨H, ?_, trivial⟩
  unfold Qbb
  refine ⟨Nat.le_trans hl.1 (Nat.le_of_ble_eq_true rfl), ?_⟩
  repeat' with_reducible apply And.intro
  all_goals first | exact True.intro | exact g
theorem Q203 (p0 : Val) (H : Q1p1 p0) : Q5 G (Q27p p0) (Q1wr p0) := by
 unfold Q1wr
 rw [Q2b3]
 have hl0 := Qo9 p0 ((Q16t p0 H).2.1) (Qd p0 Qs).1 0 [] (Qd p0 Qs).2 (by simp) (by simp)
 obtain ⟨z0, eG, hl0⟩ := hl0
 exact Q6 (fn := Ir.K3d) (by kernel_rfl) VOK.nil [hS 0 true (aP.Q8 (Q5a p0 (Qd p0 Qs).1 0 [] (Qd p0 Qs).2).1 3 rfl), hQ (aP.Q7 (Q5a p0 (Qd p0 Qs).1 0 [] (Qd p0 Qs).2).1).symm] [aN (Qev p0 Qs (Q16t p0 H).1), aV [(0, aP.rows (Q5a p0 (Qd p0 Qs).1 0 [] (Qd p0 Qs).2).1)] hl0] (by kernel_rfl)
def Q5b (p0 : Val) : List Val → Nat → (List aS) → Bool → (List aS) × Bool
 | [], _i0, ah, ay =>
  (ah, ay)
 | x0 :: r0, i0, ah, ay =>
  bif (ay == true) then
   Q5b p0 r0 (i0 + 1) (ah ++ [(aS.mk (Q2m x0 Qa).1 (Q2m x0 Q2t).1 (Q3n x0 Q0).1 (Q19 x0 Qm).1 (Q1g x0 Q1d).1)]) ((((((Q2u x0) && (Q2m x0 Q2t).2) && (Q2m x0 Qa).2) && (Q3n x0 Q0).2) && (Q19 x0 Qm).2) && (Q1g x0 Q1d).2)
  else
   Q5b p0 r0 (i0 + 1) (ah ++ [(aS.mk (Q2m x0 Qa).1 (Q2m x0 Q2t).1 (Q3n x0 Q0).1 (Q19 x0 Qm).1 (Q1g x0 Q1d).1)]) false
def Q1f1 (p0 : Val) (i0 : Nat) (ah : List aS) (ay : Bool) : List PV :=
  [.un, .un, .un, .un, .sl (Val.rows (Qd p0 Qy).1), .bool ay, .ms 0 5 0 (List.length ah), iN (i0 : Int)] ++ nuns 95
def Qzb (_p0 : Val) (_i0 : Nat) (ah : List aS) (_ay : Bool) : List Ob :=
  [⟨5, 0, true, (aS.rows ah).flatten⟩]
def Qb3 (p0 : Val) (i0 : Nat) (ah : List aS) (ay : Bool) : En := .loop 0 Ir.Ql3 Ir.Q1ng (Q1f1 p0 i0 ah ay) (Qzb p0 i0 ah ay)
def Qrz (_p0 : Val) (q0 : List aS) (q1 : Bool) (z : Nat → PV) (_zo : Nat → List PV) : St :=
  ⟨zr z 0 5 ++ [.bool q1, .ms 0 5 0 (List.length q0)] ++ zr z 7 96, [(0, ⟨5, 0, true, (aS.rows q0).flatten⟩)], 257⟩
theorem Qxa (p0 : Val) (i0 : Nat) (ah : List aS) (ay : Bool) : VOK (Go.Pv.look (number 0 (Qzb p0 i0 ah ay))) [(0, aS.rows ah)] := (VOK.cons (show Seen _ _ from Q3r (ob := ⟨5, 0, true, (aS.rows ah).flatten⟩) (aS.Q8 ah 5 rfl)) VOK.nil)
def Qio (p0 : Val) (e : En) (q : (List aS) × Bool) : Prop := ∃ z zo, Q5 G e (.st (.exit 0) (Qrz p0 q.1 q.2 z zo))
theorem Qdv (p0 : Val) {e e' : En} (h : ∀ r, Q5 G e r → Q5 G e' r) : ∀ q, Qio p0 e q → Qio p0 e' q
  | _, ⟨z, zo, hz⟩ => ⟨z, zo, h _ hz⟩
def Qbc (p0 : Val) : Prop := (List.length (Qd p0 Qy).1 ≤ 137438953472) ∧ (∀ x0 ∈ (Qd p0 Qy).1, Q137 x0) ∧ (∀ x0 ∈ (Qd p0 Qy).1, Q136 x0) ∧ (∀ x0 ∈ (Qd p0 Qy).1, Qpe x0) ∧ (∀ x0 ∈ (Qd p0 Qy).1, Qjs x0) ∧ True
def Qu0 (p0 : Val) (i0 : Nat) (_ah : List aS) (_ay : Bool) : List PV :=
  [.un, .un, .un, .un, .sl (Val.rows (Qd p0 Qy).1), .un, .un, iN (i0 : Int)] ++ nuns 15 ++ [iN (i0 : Int), .sl (Val.rows (Qd p0 Qy).1), iN ((List.length (Qd p0 Qy).1) : Int), .bool false]
def Qmy (_p0 : Val) (_i0 : Nat) (_ah : List aS) (_ay : Bool) : List (Nat × List PV) :=
  []
theorem Q1dg (p0 : Val) (_H : Qbc p0) (i0 : Nat) (ah : List aS) (ay : Bool) (_aR : List.length ah ≤ i0) (bF : (decide ((i0 : Int) < ((List.length (Qd p0 Qy).1) : Int))) = false) : Qio p0 (Qb3 p0 i0 ah ay) (ah, ay) := by
 exact ⟨(envF (Qu0 p0 i0 ah ay)), (zoF (Qmy p0 i0 ah ay)), Qg (Qxa p0 i0 ah ay) (x := ((.exit 0), Qrz p0 ah ay (envF (Qu0 p0 i0 ah ay)) (zoF (Qmy p0 i0 ah ay)))) [hP 2 (Qq _ _ (Val.Q7 (Qd p0 Qy).1)), hB 0 bF] [] (by kernel_rfl)⟩
theorem Q1b2 (p0 : Val) (H : Qbc p0) (x0 : Val) (i0 : Nat) (ah : List aS) (ay : Bool) (bH : (Qd p0 Qy).1[i0]? = some x0) (bT : i0 < List.length (Qd p0 Qy).1) (aR : List.length ah ≤ i0) (bF : (decide ((i0 : Int) < ((List.length (Qd p0 Qy).1) : Int))) = true) (h0 : (ay == true) = true) {r : Rs} (hr : Q5 G (Qb3 p0 (i0 + 1) (ah ++ [(aS.mk (Q2m x0 Qa).1 (Q2m x0 Q2t).1 (Q3n x0 Q0).1 (Q19 x0 Qm).1 (Q1g x0 Q1d).1)]) ((((((Q2u x0) && (Q2m x0 Q2t).2) && (Q2m x0 Qa).2) && (Q3n x0 Q0).2) && (Q19 x0 Qm).2) && (Q1g x0 Q1d).2)) r) : Q5 G (Qb3 p0 i0 ah ay) r := by
 have hB0 := H.1
 exact Qc (Qxa p0 i0 ah ay) [hP 2 (Qq _ _ (Val.Q7 (Qd p0 Qy).1)), hB 0 bF, hP 2 (Q1f 5 _ i0 _ (Val.Qb bH) rfl), hP 9 (Q1f 5 _ i0 _ (Val.Qb bH) rfl), hP 9 (Q1f 5 _ i0 _ (Val.Qb bH) rfl), hP 9 (Q1f 5 _ i0 _ (Val.Qb bH) rfl), hP 9 (Q1f 5 _ i0 _ (Val.Qb bH) rfl), hA 15 0 3905 3969 5 56 0 0 true aS.Q7 aS.Q1l ah (aS.mk (Q2m x0 Qa).1 (Q2m x0 Q2t).1 (Q3n x0 Q0).1 (Q19 x0 Qm).1 (Q1g x0 Q1d).1) (aS.Qt ah) rfl rfl (by omega), hS 0 true (aS.Q8 (ah ++ [(aS.mk (Q2m x0 Qa).1 (Q2m x0 Q2t).1 (Q3n x0 Q0).1 (Q19 x0 Qm).1 (Q1g x0 Q1d).1)]) 5 rfl), hB 1 (beqT h0), hP 3 (Q1f 5 _ i0 _ (Val.Qb bH) rfl), hP 4 (Q63 (Q2u x0) (.bool (Q2m x0 Q2t).2)), hP 0 (Q64 (Q2u x0) (Q2m x0 Q2t).2), hP 1 (Q63 ((Q2u x0) && (Q2m x0 Q2t).2) (.bool (Q2m x0 Qa).2)), hP 0 (Q64 ((Q2u x0) && (Q2m x0 Q2t).2) (Q2m x0 Qa).2), hP 1 (Q63 (((Q2u x0) && (Q2m x0 Q2t).2) && (Q2m x0 Qa).2) (.bool (Q3n x0 Q0).2)), hP 0 (Q64 (((Q2u x0) && (Q2m x0 Q2t).2) && (Q2m x0 Qa).2) (Q3n x0 Q0).2), hP 1 (Q63 ((((Q2u x0) && (Q2m x0 Q2t).2) && (Q2m x0 Qa).2) && (Q3n x0 Q0).2) (.bool (Q19 x0 Qm).2)), hP 0 (Q64 ((((Q2u x0) && (Q2m x0 Q2t).2) && (Q2m x0 Qa).2) && (Q3n x0 Q0).2) (Q19 x0 Qm).2), hP 1 (Q63 (((((Q2u x0) && (Q2m x0 Q2t).2) && (Q2m x0 Qa).2) && (Q3n x0 Q0).2) && (Q19 x0 Qm).2) (.bool (Q1g x0 Q1d).2)), hP 0 (Q64 (((((Q2u x0) && (Q2m x0 Q2t).2) && (Q2m x0 Qa).2) && (Q3n x0 Q0).2) && (Q19 x0 Qm).2) (Q1g x0 Q1d).2), hP 2 (Q26 i0 (by omega))] [aN (Qp6 x0 Q2t (H.2.1 x0 (Q15 bH))), aN (Qp6 x0 Qa (H.2.1 x0 (Q15 bH))), aN (Qyh x0 Q0 (H.2.2.1 x0 (Q15 bH))), aN (Q5i x0 Qm (H.2.2.2.1 x0 (Q15 bH))), aN (Q78 x0 Q1d (H.2.2.2.2.1 x0 (Q15 bH))), aN (Q9h x0)] hr (by kernel_rfl)
theorem Q1b3 (p0 : Val) (H : Qbc p0) (x0 : Val) (i0 : Nat) (ah : List aS) (ay : Bool) (bH : (Qd p0 Qy).1[i0]? = some x0) (bT : i0 < List.length (Qd p0 Qy).1) (aR : List.length ah ≤ i0) (bF : (decide ((i0 : Int) < ((List.length (Qd p0 Qy).1) : Int))) = true) (h0 : (ay == true) = false) {r : Rs} (hr : Q5 G (Qb3 p0 (i0 + 1) (ah ++ [(aS.mk (Q2m x0 Qa).1 (Q2m x0 Q2t).1 (Q3n x0 Q0).1 (Q19 x0 Qm).1 (Q1g x0 Q1d).1)]) false) r) : Q5 G (Qb3 p0 i0 ah ay) r := by
 have hB0 := H.1
 exact Qc (Qxa p0 i0 ah ay) [hP 2 (Qq _ _ (Val.Q7 (Qd p0 Qy).1)), hB 0 bF, hP 2 (Q1f 5 _ i0 _ (Val.Qb bH) rfl), hP 9 (Q1f 5 _ i0 _ (Val.Qb bH) rfl), hP 9 (Q1f 5 _ i0 _ (Val.Qb bH) rfl), hP 9 (Q1f 5 _ i0 _ (Val.Qb bH) rfl), hP 9 (Q1f 5 _ i0 _ (Val.Qb bH) rfl), hA 15 0 3905 3969 5 56 0 0 true aS.Q7 aS.Q1l ah (aS.mk (Q2m x0 Qa).1 (Q2m x0 Q2t).1 (Q3n x0 Q0).1 (Q19 x0 Qm).1 (Q1g x0 Q1d).1) (aS.Qt ah) rfl rfl (by omega), hS 0 true (aS.Q8 (ah ++ [(aS.mk (Q2m x0 Qa).1 (Q2m x0 Q2t).1 (Q3n x0 Q0).1 (Q19 x0 Qm).1 (Q1g x0 Q1d).1)]) 5 rfl), hB 1 (beqT h0), hP 24 (Q26 i0 (by omega))] [aN (Qp6 x0 Q2t (H.2.1 x0 (Q15 bH))), aN (Qp6 x0 Qa (H.2.1 x0 (Q15 bH))), aN (Qyh x0 Q0 (H.2.2.1 x0 (Q15 bH))), aN (Q5i x0 Qm (H.2.2.2.1 x0 (Q15 bH))), aN (Q78 x0 Q1d (H.2.2.2.2.1 x0 (Q15 bH)))] hr (by kernel_rfl)
theorem Qoa (p0 : Val) (H : Qbc p0) : ∀ (r0 : List Val) (i0 : Nat) (ah : List aS) (ay : Bool), List.drop i0 (Qd p0 Qy).1 = r0 → List.length ah ≤ i0 → Qio p0 (Qb3 p0 i0 ah ay) (Q5b p0 r0 i0 ah ay)
 | [], i0, ah, ay, hd, aR => by
  have bF : (decide ((i0 : Int) < ((List.length (Qd p0 Qy).1) : Int))) = false := by have := Q1n hd; simp; omega
  rw [Q5b]
  exact Q1dg p0 H i0 ah ay aR bF
 | x0 :: r0, i0, ah, ay, hd, aR => by
  obtain ⟨bH, bT, hd'⟩ := Q1o hd
  have bF : (decide ((i0 : Int) < ((List.length (Qd p0 Qy).1) : Int))) = true := by simp; omega
  rw [Q5b]
  cases h0 : (ay == true) with
  | true =>
   exact Qdv p0 (fun r hr => Q1b2 p0 H x0 i0 ah ay bH bT aR bF h0 hr) _ (Qoa p0 H r0 _ _ _ hd' (by first | omega | (simp; omega)))
  | false =>
   exact Qdv p0 (fun r hr => Q1b3 p0 H x0 i0 ah ay bH bT aR bF h0 hr) _ (Qoa p0 H r0 _ _ _ hd' (by first | omega | (simp; omega)))
def Qel (p0 : Val) : List aS × Bool := dE aS.rdec p0 Qy
theorem Qy3 (p0 : Val) : ∀ (l : List Val) (i : Nat) (a : List aS) (b : Bool), Q5b p0 l i a b = (a ++ l.map (fun x => (aS.rdec x).1), b && l.all fun x => (aS.rdec x).2)
  | [], _, a, b => by rw [Q5b]; simp
  | x :: l, i, a, b => by
    rw [Q5b]
    cases b with
    | false => exact (Qy3 p0 l (i + 1) (a ++ [(aS.rdec x).1]) false).trans (by simp only [List.append_assoc, List.singleton_append, List.map_cons, List.all_cons, Bool.false_and])
    | true => exact (Qy3 p0 l (i + 1) (a ++ [(aS.rdec x).1]) (aS.rdec x).2).trans (by simp only [List.append_assoc, List.singleton_append, List.map_cons, List.all_cons, Bool.true_and])
theorem Q2b4 (p0 : Val) : Qel p0 = (((Q5b p0 (Qd p0 Qy).1 0 [] (Qd p0 Qy).2).1, (Q5b p0 (Qd p0 Qy).1 0 [] (Qd p0 Qy).2).2)) := by
  rw [Qy3]
  rfl
def Q27q (p0 : Val) : En := .call 271 [.agg (Val.cells p0)] []
def Q1ws (p0 : Val) : Rs := .ret (.tup [.sl (aS.rows (Qel p0).1), .bool (Qel p0).2]) []
def Q1p2 (p0 : Val) : Prop := Val.Sm 1000000000 p0
theorem Q16u (p0 : Val) (H : Q1p2 p0) : (Qfu p0) ∧ (Qbc p0) ∧ True := by
  have hl := Q69 (Qp H Qy)
  have g : ∀ x ∈ (dL p0 Qy).1, Val.Sm sB x := hl.2
  refine ⟨H, ?_, trivial⟩
  unfold Qbc
  refine ⟨Nat.le_trans hl.1 (Nat.le_of_ble_eq_true rfl), ?_⟩
  repeat' with_reducible apply And.intro
  all_goals first | exact True.intro | exact g
theorem Q204 (p0 : Val) (H : Q1p2 p0) : Q5 G (Q27q p0) (Q1ws p0) := by
 unfold Q1ws
 rw [Q2b4]
 have hl0 := Qoa p0 ((Q16u p0 H).2.1) (Qd p0 Qy).1 0 [] (Qd p0 Qy).2 (by simp) (by simp)
 obtain ⟨z0, eG, hl0⟩ := hl0
 exact Q6 (fn := Ir.K3e) (by kernel_rfl) VOK.nil [hS 0 true (aS.Q8 (Q5b p0 (Qd p0 Qy).1 0 [] (Qd p0 Qy).2).1 5 rfl), hQ (aS.Q7 (Q5b p0 (Qd p0 Qy).1 0 [] (Qd p0 Qy).2).1).symm] [aN (Qev p0 Qy (Q16u p0 H).1), aV [(0, aS.rows (Q5b p0 (Qd p0 Qy).1 0 [] (Qd p0 Qy).2).1)] hl0] (by kernel_rfl)
def Q5c (p0 : Val) : List Val → Nat → (List aF) → Bool → (List aF) × Bool
 | [], _i0, ah, ay =>
  (ah, ay)
 | x0 :: r0, i0, ah, ay =>
  bif (ay == true) then
   Q5c p0 r0 (i0 + 1) (ah ++ [(aF.mk (Q1g x0 Q1t).1 (Q19 x0 Qm).1 (Q3n x0 Q0).1 (Q2m x0 Qa).1)]) (((((Q2u x0) && (Q1g x0 Q1t).2) && (Q2m x0 Qa).2) && (Q3n x0 Q0).2) && (Q19 x0 Qm).2)
  else
   Q5c p0 r0 (i0 + 1) (ah ++ [(aF.mk (Q1g x0 Q1t).1 (Q19 x0 Qm).1 (Q3n x0 Q0).1 (Q2m x0 Qa).1)]) false
def Q1f3 (p0 : Val) (i0 : Nat) (ah : List aF) (ay : Bool) : List PV :=
  [.un, .un, .un, .un, .sl (Val.rows (Qd p0 Q1q).1), .bool ay, .ms 0 4 0 (List.length ah), iN (i0 : Int)] ++ nuns 81
def Qzd (_p0 : Val) (_i0 : Nat) (ah : List aF) (_ay : Bool) : List Ob :=
  [⟨4, 0, true, (aF.rows ah).flatten⟩]
def Qb4 (p0 : Val) (i0 : Nat) (ah : List aF) (ay : Bool) : En := .loop 0 Ir.Ql5 Ir.Q1ni (Q1f3 p0 i0 ah ay) (Qzd p0 i0 ah ay)
def Qs1 (_p0 : Val) (q0 : List aF) (q1 : Bool) (z : Nat → PV) (_zo : Nat → List PV) : St :=
  ⟨zr z 0 5 ++ [.bool q1, .ms 0 4 0 (List.length q0)] ++ zr z 7 82, [(0, ⟨4, 0, true, (aF.rows q0).flatten⟩)], 257⟩
theorem Qxb (p0 : Val) (i0 : Nat) (ah : List aF) (ay : Bool) : VOK (Go.Pv.look (number 0 (Qzd p0 i0 ah ay))) [(0, aF.rows ah)] := (VOK.cons (show Seen _ _ from Q3r (ob := ⟨4, 0, true, (aF.rows ah).flatten⟩) (aF.Q8 ah 4 rfl)) VOK.nil)
def Qiq (p0 : Val) (e : En) (q : (List aF) × Bool) : Prop := ∃ z zo, Q5 G e (.st (.exit 0) (Qs1 p0 q.1 q.2 z zo))
theorem Qdw (p0 : Val) {e e' : En} (h : ∀ r, Q5 G e r → Q5 G e' r) : ∀ q, Qiq p0 e q → Qiq p0 e' q
  | _, ⟨z, zo, hz⟩ => ⟨z, zo, h _ hz⟩
def Qbd (p0 : Val) : Prop := (List.length (Qd p0 Q1q).1 ≤ 137438953472) ∧ (∀ x0 ∈ (Qd p0 Q1q).1, Qjs x0) ∧ (∀ x0 ∈ (Qd p0 Q1q).1, Q137 x0) ∧ (∀ x0 ∈ (Qd p0 Q1q).1, Q136 x0) ∧ (∀ x0 ∈ (Qd p0 Q1q).1, Qpe x0) ∧ True
def Qu2 (p0 : Val) (i0 : Nat) (_ah : List aF) (_ay : Bool) : List PV :=
  [.un, .un, .un, .un, .sl (Val.rows (Qd p0 Q1q).1), .un, .un, iN (i0 : Int)] ++ nuns 13 ++ [iN (i0 : Int), .sl (Val.rows (Qd p0 Q1q).1), iN ((List.length (Qd p0 Q1q).1) : Int), .bool false]
def Qn0 (_p0 : Val) (_i0 : Nat) (_ah : List aF) (_ay : Bool) : List (Nat × List PV) :=
  []
theorem Q1di (p0 : Val) (_H : Qbd p0) (i0 : Nat) (ah : List aF) (ay : Bool) (_aR : List.length ah ≤ i0) (bF : (decide ((i0 : Int) < ((List.length (Qd p0 Q1q).1) : Int))) = false) : Qiq p0 (Qb4 p0 i0 ah ay) (ah, ay) := by
 exact ⟨(envF (Qu2 p0 i0 ah ay)), (zoF (Qn0 p0 i0 ah ay)), Qg (Qxb p0 i0 ah ay) (x := ((.exit 0), Qs1 p0 ah ay (envF (Qu2 p0 i0 ah ay)) (zoF (Qn0 p0 i0 ah ay)))) [hP 2 (Qq _ _ (Val.Q7 (Qd p0 Q1q).1)), hB 0 bF] [] (by kernel_rfl)⟩
theorem Q1b5 (p0 : Val) (H : Qbd p0) (x0 : Val) (i0 : Nat) (ah : List aF) (ay : Bool) (bH : (Qd p0 Q1q).1[i0]? = some x0) (bT : i0 < List.length (Qd p0 Q1q).1) (aR : List.length ah ≤ i0) (bF : (decide ((i0 : Int) < ((List.length (Qd p0 Q1q).1) : Int))) = true) (h0 : (ay == true) = true) {r : Rs} (hr : Q5 G (Qb4 p0 (i0 + 1) (ah ++ [(aF.mk (Q1g x0 Q1t).1 (Q19 x0 Qm).1 (Q3n x0 Q0).1 (Q2m x0 Qa).1)]) (((((Q2u x0) && (Q1g x0 Q1t).2) && (Q2m x0 Qa).2) && (Q3n x0 Q0).2) && (Q19 x0 Qm).2)) r) : Q5 G (Qb4 p0 i0 ah ay) r := by
 have hB0 := H.1
 exact Qc (Qxb p0 i0 ah ay) [hP 2 (Qq _ _ (Val.Q7 (Qd p0 Q1q).1)), hB 0 bF, hP 2 (Q1f 5 _ i0 _ (Val.Qb bH) rfl), hP 9 (Q1f 5 _ i0 _ (Val.Qb bH) rfl), hP 9 (Q1f 5 _ i0 _ (Val.Qb bH) rfl), hP 9 (Q1f 5 _ i0 _ (Val.Qb bH) rfl), hA 14 0 3201 3265 4 56 0 0 true aF.Q7 aF.Q1l ah (aF.mk (Q1g x0 Q1t).1 (Q19 x0 Qm).1 (Q3n x0 Q0).1 (Q2m x0 Qa).1) (aF.Qt ah) rfl rfl (by omega), hS 0 true (aF.Q8 (ah ++ [(aF.mk (Q1g x0 Q1t).1 (Q19 x0 Qm).1 (Q3n x0 Q0).1 (Q2m x0 Qa).1)]) 4 rfl), hB 1 (beqT h0), hP 3 (Q1f 5 _ i0 _ (Val.Qb bH) rfl), hP 4 (Q63 (Q2u x0) (.bool (Q1g x0 Q1t).2)), hP 0 (Q64 (Q2u x0) (Q1g x0 Q1t).2), hP 1 (Q63 ((Q2u x0) && (Q1g x0 Q1t).2) (.bool (Q2m x0 Qa).2)), hP 0 (Q64 ((Q2u x0) && (Q1g x0 Q1t).2) (Q2m x0 Qa).2), hP 1 (Q63 (((Q2u x0) && (Q1g x0 Q1t).2) && (Q2m x0 Qa).2) (.bool (Q3n x0 Q0).2)), hP 0 (Q64 (((Q2u x0) && (Q1g x0 Q1t).2) && (Q2m x0 Qa).2) (Q3n x0 Q0).2), hP 1 (Q63 ((((Q2u x0) && (Q1g x0 Q1t).2) && (Q2m x0 Qa).2) && (Q3n x0 Q0).2) (.bool (Q19 x0 Qm).2)), hP 0 (Q64 ((((Q2u x0) && (Q1g x0 Q1t).2) && (Q2m x0 Qa).2) && (Q3n x0 Q0).2) (Q19 x0 Qm).2), hP 2 (Q26 i0 (by omega))] [aN (Q78 x0 Q1t (H.2.1 x0 (Q15 bH))), aN (Qp6 x0 Qa (H.2.2.1 x0 (Q15 bH))), aN (Qyh x0 Q0 (H.2.2.2.1 x0 (Q15 bH))), aN (Q5i x0 Qm (H.2.2.2.2.1 x0 (Q15 bH))), aN (Q9h x0)] hr (by kernel_rfl)
theorem Q1b6 (p0 : Val) (H : Qbd p0) (x0 : Val) (i0 : Nat) (ah : List aF) (ay : Bool) (bH : (Qd p0 Q1q).1[i0]? = some x0) (bT : i0 < List.length (Qd p0 Q1q).1) (aR : List.length ah ≤ i0) (bF : (decide ((i0 : Int) < ((List.length (Qd p0 Q1q).1) : Int))) = true) (h0 : (ay == true) = false) {r : Rs} (hr : Q5 G (Qb4 p0 (i0 + 1) (ah ++ [(aF.mk (Q1g x0 Q1t).1 (Q19 x0 Qm).1 (Q3n x0 Q0).1 (Q2m x0 Qa).1)]) false) r) : Q5 G (Qb4 p0 i0 ah ay) r := by
 have hB0 := H.1
 exact Qc (Qxb p0 i0 ah ay) [hP 2 (Qq _ _ (Val.Q7 (Qd p0 Q1q).1)), hB 0 bF, hP 2 (Q1f 5 _ i0 _ (Val.Qb bH) rfl), hP 9 (Q1f 5 _ i0 _ (Val.Qb bH) rfl), hP 9 (Q1f 5 _ i0 _ (Val.Qb bH) rfl), hP 9 (Q1f 5 _ i0 _ (Val.Qb bH) rfl), hA 14 0 3201 3265 4 56 0 0 true aF.Q7 aF.Q1l ah (aF.mk (Q1g x0 Q1t).1 (Q19 x0 Qm).1 (Q3n x0 Q0).1 (Q2m x0 Qa).1) (aF.Qt ah) rfl rfl (by omega), hS 0 true (aF.Q8 (ah ++ [(aF.mk (Q1g x0 Q1t).1 (Q19 x0 Qm).1 (Q3n x0 Q0).1 (Q2m x0 Qa).1)]) 4 rfl), hB 1 (beqT h0), hP 21 (Q26 i0 (by omega))] [aN (Q78 x0 Q1t (H.2.1 x0 (Q15 bH))), aN (Qp6 x0 Qa (H.2.2.1 x0 (Q15 bH))), aN (Qyh x0 Q0 (H.2.2.2.1 x0 (Q15 bH))), aN (Q5i x0 Qm (H.2.2.2.2.1 x0 (Q15 bH)))] hr (by kernel_rfl)
theorem Qob (p0 : Val) (H : Qbd p0) : ∀ (r0 : List Val) (i0 : Nat) (ah : List aF) (ay : Bool), List.drop i0 (Qd p0 Q1q).1 = r0 → List.length ah ≤ i0 → Qiq p0 (Qb4 p0 i0 ah ay) (Q5c p0 r0 i0 ah ay)
 | [], i0, ah, ay, hd, aR => by
  have bF : (decide ((i0 : Int) < ((List.length (Qd p0 Q1q).1) : Int))) = false := by have := Q1n hd; simp; omega
  rw [Q5c]
  exact Q1di p0 H i0 ah ay aR bF
 | x0 :: r0, i0, ah, ay, hd, aR => by
  obtain ⟨bH, bT, hd'⟩ := Q1o hd
  have bF : (decide ((i0 : Int) < ((List.length (Qd p0 Q1q).1) : Int))) = true := by simp; omega
  rw [Q5c]
  cases h0 : (ay == true) with
  | true =>
   exact Qdw p0 (fun r hr => Q1b5 p0 H x0 i0 ah ay bH bT aR bF h0 hr) _ (Qob p0 H r0 _ _ _ hd' (by first | omega | (simp; omega)))
  | false =>
   exact Qdw p0 (fun r hr => Q1b6 p0 H x0 i0 ah ay bH bT aR bF h0 hr) _ (Qob p0 H r0 _ _ _ hd' (by first | omega | (simp; omega)))
def Qem (p0 : Val) : List aF × Bool := dE aF.rdec p0 Q1q
theorem Qy5 (p0 : Val) : ∀ (l : List Val) (i : Nat) (a : List aF) (b : Bool), Q5c p0 l i a b = (a ++ l.map (fun x => (aF.rdec x).1), b && l.all fun x => (aF.rdec x).2)
  | [], _, a, b => by rw [Q5c]; simp
  | x :: l, i, a, b => by
    rw [Q5c]
    cases b with
    | false => exact (Qy5 p0 l (i + 1) (a ++ [(aF.rdec x).1]) false).trans (by simp only [List.append_assoc, List.singleton_append, List.map_cons, List.all_cons, Bool.false_and])
    | true => exact (Qy5 p0 l (i + 1) (a ++ [(aF.rdec x).1]) (aF.rdec x).2).trans (by simp only [List.append_assoc, List.singleton_append, List.map_cons, List.all_cons, Bool.true_and])
theorem Q2b8 (p0 : Val) : Qem p0 = (((Q5c p0 (Qd p0 Q1q).1 0 [] (Qd p0 Q1q).2).1, (Q5c p0 (Qd p0 Q1q).1 0 [] (Qd p0 Q1q).2).2)) := by
  rw [Qy5]
  rfl
def Q27u (p0 : Val) : En := .call 272 [.agg (Val.cells p0)] []
def Q1ww (p0 : Val) : Rs := .ret (.tup [.sl (aF.rows (Qem p0).1), .bool (Qem p0).2]) []
def Q1p6 (p0 : Val) : Prop := Val.Sm 1000000000 p0
theorem Q16w (p0 : Val) (H : Q1p6 p0) : (Qfu p0) ∧ (Qbd p0) ∧ True := by
  have hl := Q69 (Qp H Q1q)
  have g : ∀ x ∈ (dL p0 Q1q).1, Val.Sm sB x := hl.2
  refine ⟨H, ?_, trivial⟩
  unfold Qbd
  refine ⟨Nat.le_trans hl.1 (Nat.le_of_ble_eq_true rfl), ?_⟩
  repeat' with_reducible apply And.intro
  all_goals first | exact True.intro | exact g
theorem Q205 (p0 : Val) (H : Q1p6 p0) : Q5 G (Q27u p0) (Q1ww p0) := by
 unfold Q1ww
 rw [Q2b8]
 have hl0 := Qob p0 ((Q16w p0 H).2.1) (Qd p0 Q1q).1 0 [] (Qd p0 Q1q).2 (by simp) (by simp)
 obtain ⟨z0, eG, hl0⟩ := hl0
 exact Q6 (fn := Ir.K3i) (by kernel_rfl) VOK.nil [hS 0 true (aF.Q8 (Q5c p0 (Qd p0 Q1q).1 0 [] (Qd p0 Q1q).2).1 4 rfl), hQ (aF.Q7 (Q5c p0 (Qd p0 Q1q).1 0 [] (Qd p0 Q1q).2).1).symm] [aN (Qev p0 Q1q (Q16w p0 H).1), aV [(0, aF.rows (Q5c p0 (Qd p0 Q1q).1 0 [] (Qd p0 Q1q).2).1)] hl0] (by kernel_rfl)
def Q5d (p0 : Val) : List Val → Nat → (List aI) → Bool → (List aI) × Bool
 | [], _i0, ah, ay =>
  (ah, ay)
 | x0 :: r0, i0, ah, ay =>
  bif (ay == true) then
   Q5d p0 r0 (i0 + 1) (ah ++ [(aI.mk (Q19 x0 Q1c).1 (Q19 x0 Q1s).1 (Q2m x0 Q2f).1 (Q1g x0 Q2e).1 (Q1g x0 Q2i).1)]) ((((((Q2u x0) && (Q1g x0 Q2e).2) && (Q2m x0 Q2f).2) && (Q19 x0 Q1c).2) && (Q1g x0 Q2i).2) && (Q19 x0 Q1s).2)
  else
   Q5d p0 r0 (i0 + 1) (ah ++ [(aI.mk (Q19 x0 Q1c).1 (Q19 x0 Q1s).1 (Q2m x0 Q2f).1 (Q1g x0 Q2e).1 (Q1g x0 Q2i).1)]) false
def Q1f4 (p0 : Val) (i0 : Nat) (ah : List aI) (ay : Bool) : List PV :=
  [.un, .un, .un, .un, .sl (Val.rows (Qd p0 Ql).1), .bool ay, .ms 0 5 0 (List.length ah), iN (i0 : Int)] ++ nuns 95
def Qze (_p0 : Val) (_i0 : Nat) (ah : List aI) (_ay : Bool) : List Ob :=
  [⟨5, 0, true, (aI.rows ah).flatten⟩]
def Qb5 (p0 : Val) (i0 : Nat) (ah : List aI) (ay : Bool) : En := .loop 0 Ir.Ql6 Ir.Q1nj (Q1f4 p0 i0 ah ay) (Qze p0 i0 ah ay)
def Qs2 (_p0 : Val) (q0 : List aI) (q1 : Bool) (z : Nat → PV) (_zo : Nat → List PV) : St :=
  ⟨zr z 0 5 ++ [.bool q1, .ms 0 5 0 (List.length q0)] ++ zr z 7 96, [(0, ⟨5, 0, true, (aI.rows q0).flatten⟩)], 257⟩
theorem Qxc (p0 : Val) (i0 : Nat) (ah : List aI) (ay : Bool) : VOK (Go.Pv.look (number 0 (Qze p0 i0 ah ay))) [(0, aI.rows ah)] := (VOK.cons (show Seen _ _ from Q3r (ob := ⟨5, 0, true, (aI.rows ah).flatten⟩) (aI.Q8 ah 5 rfl)) VOK.nil)
def Qir (p0 : Val) (e : En) (q : (List aI) × Bool) : Prop := ∃ z zo, Q5 G e (.st (.exit 0) (Qs2 p0 q.1 q.2 z zo))
theorem Qdx (p0 : Val) {e e' : En} (h : ∀ r, Q5 G e r → Q5 G e' r) : ∀ q, Qir p0 e q → Qir p0 e' q
  | _, ⟨z, zo, hz⟩ => ⟨z, zo, h _ hz⟩
def Qbe (p0 : Val) : Prop := (List.length (Qd p0 Ql).1 ≤ 137438953472) ∧ (∀ x0 ∈ (Qd p0 Ql).1, Qjs x0) ∧ (∀ x0 ∈ (Qd p0 Ql).1, Q137 x0) ∧ (∀ x0 ∈ (Qd p0 Ql).1, Qpe x0) ∧ True
def Qu3 (p0 : Val) (i0 : Nat) (_ah : List aI) (_ay : Bool) : List PV :=
  [.un, .un, .un, .un, .sl (Val.rows (Qd p0 Ql).1), .un, .un, iN (i0 : Int)] ++ nuns 15 ++ [iN (i0 : Int), .sl (Val.rows (Qd p0 Ql).1), iN ((List.length (Qd p0 Ql).1) : Int), .bool false]
def Qn1 (_p0 : Val) (_i0 : Nat) (_ah : List aI) (_ay : Bool) : List (Nat × List PV) :=
  []
theorem Q1dj (p0 : Val) (_H : Qbe p0) (i0 : Nat) (ah : List aI) (ay : Bool) (_aR : List.length ah ≤ i0) (bF : (decide ((i0 : Int) < ((List.length (Qd p0 Ql).1) : Int))) = false) : Qir p0 (Qb5 p0 i0 ah ay) (ah, ay) := by
 exact ⟨(envF (Qu3 p0 i0 ah ay)), (zoF (Qn1 p0 i0 ah ay)), Qg (Qxc p0 i0 ah ay) (x := ((.exit 0), Qs2 p0 ah ay (envF (Qu3 p0 i0 ah ay)) (zoF (Qn1 p0 i0 ah ay)))) [hP 2 (Qq _ _ (Val.Q7 (Qd p0 Ql).1)), hB 0 bF] [] (by kernel_rfl)⟩
theorem Q1b7 (p0 : Val) (H : Qbe p0) (x0 : Val) (i0 : Nat) (ah : List aI) (ay : Bool) (bH : (Qd p0 Ql).1[i0]? = some x0) (bT : i0 < List.length (Qd p0 Ql).1) (aR : List.length ah ≤ i0) (bF : (decide ((i0 : Int) < ((List.length (Qd p0 Ql).1) : Int))) = true) (h0 : (ay == true) = true) {r : Rs} (hr : Q5 G (Qb5 p0 (i0 + 1) (ah ++ [(aI.mk (Q19 x0 Q1c).1 (Q19 x0 Q1s).1 (Q2m x0 Q2f).1 (Q1g x0 Q2e).1 (Q1g x0 Q2i).1)]) ((((((Q2u x0) && (Q1g x0 Q2e).2) && (Q2m x0 Q2f).2) && (Q19 x0 Q1c).2) && (Q1g x0 Q2i).2) && (Q19 x0 Q1s).2)) r) : Q5 G (Qb5 p0 i0 ah ay) r := by
 have hB0 := H.1
 exact Qc (Qxc p0 i0 ah ay) [hP 2 (Qq _ _ (Val.Q7 (Qd p0 Ql).1)), hB 0 bF, hP 2 (Q1f 5 _ i0 _ (Val.Qb bH) rfl), hP 9 (Q1f 5 _ i0 _ (Val.Qb bH) rfl), hP 9 (Q1f 5 _ i0 _ (Val.Qb bH) rfl), hP 9 (Q1f 5 _ i0 _ (Val.Qb bH) rfl), hP 9 (Q1f 5 _ i0 _ (Val.Qb bH) rfl), hA 15 0 3905 3969 5 56 0 0 true aI.Q7 aI.Q1l ah (aI.mk (Q19 x0 Q1c).1 (Q19 x0 Q1s).1 (Q2m x0 Q2f).1 (Q1g x0 Q2e).1 (Q1g x0 Q2i).1) (aI.Qt ah) rfl rfl (by omega), hS 0 true (aI.Q8 (ah ++ [(aI.mk (Q19 x0 Q1c).1 (Q19 x0 Q1s).1 (Q2m x0 Q2f).1 (Q1g x0 Q2e).1 (Q1g x0 Q2i).1)]) 5 rfl), hB 1 (beqT h0), hP 3 (Q1f 5 _ i0 _ (Val.Qb bH) rfl), hP 4 (Q63 (Q2u x0) (.bool (Q1g x0 Q2e).2)), hP 0 (Q64 (Q2u x0) (Q1g x0 Q2e).2), hP 1 (Q63 ((Q2u x0) && (Q1g x0 Q2e).2) (.bool (Q2m x0 Q2f).2)), hP 0 (Q64 ((Q2u x0) && (Q1g x0 Q2e).2) (Q2m x0 Q2f).2), hP 1 (Q63 (((Q2u x0) && (Q1g x0 Q2e).2) && (Q2m x0 Q2f).2) (.bool (Q19 x0 Q1c).2)), hP 0 (Q64 (((Q2u x0) && (Q1g x0 Q2e).2) && (Q2m x0 Q2f).2) (Q19 x0 Q1c).2), hP 1 (Q63 ((((Q2u x0) && (Q1g x0 Q2e).2) && (Q2m x0 Q2f).2) && (Q19 x0 Q1c).2) (.bool (Q1g x0 Q2i).2)), hP 0 (Q64 ((((Q2u x0) && (Q1g x0 Q2e).2) && (Q2m x0 Q2f).2) && (Q19 x0 Q1c).2) (Q1g x0 Q2i).2), hP 1 (Q63 (((((Q2u x0) && (Q1g x0 Q2e).2) && (Q2m x0 Q2f).2) && (Q19 x0 Q1c).2) && (Q1g x0 Q2i).2) (.bool (Q19 x0 Q1s).2)), hP 0 (Q64 (((((Q2u x0) && (Q1g x0 Q2e).2) && (Q2m x0 Q2f).2) && (Q19 x0 Q1c).2) && (Q1g x0 Q2i).2) (Q19 x0 Q1s).2), hP 2 (Q26 i0 (by omega))] [aN (Q78 x0 Q2e (H.2.1 x0 (Q15 bH))), aN (Qp6 x0 Q2f (H.2.2.1 x0 (Q15 bH))), aN (Q5i x0 Q1c (H.2.2.2.1 x0 (Q15 bH))), aN (Q78 x0 Q2i (H.2.1 x0 (Q15 bH))), aN (Q5i x0 Q1s (H.2.2.2.1 x0 (Q15 bH))), aN (Q9h x0)] hr (by kernel_rfl)
theorem Q1b8 (p0 : Val) (H : Qbe p0) (x0 : Val) (i0 : Nat) (ah : List aI) (ay : Bool) (bH : (Qd p0 Ql).1[i0]? = some x0) (bT : i0 < List.length (Qd p0 Ql).1) (aR : List.length ah ≤ i0) (bF : (decide ((i0 : Int) < ((List.length (Qd p0 Ql).1) : Int))) = true) (h0 : (ay == true) = false) {r : Rs} (hr : Q5 G (Qb5 p0 (i0 + 1) (ah ++ [(aI.mk (Q19 x0 Q1c).1 (Q19 x0 Q1s).1 (Q2m x0 Q2f).1 (Q1g x0 Q2e).1 (Q1g x0 Q2i).1)]) false) r) : Q5 G (Qb5 p0 i0 ah ay) r := by
 have hB0 := H.1
 exact Qc (Qxc p0 i0 ah ay) [hP 2 (Qq _ _ (Val.Q7 (Qd p0 Ql).1)), hB 0 bF, hP 2 (Q1f 5 _ i0 _ (Val.Qb bH) rfl), hP 9 (Q1f 5 _ i0 _ (Val.Qb bH) rfl), hP 9 (Q1f 5 _ i0 _ (Val.Qb bH) rfl), hP 9 (Q1f 5 _ i0 _ (Val.Qb bH) rfl), hP 9 (Q1f 5 _ i0 _ (Val.Qb bH) rfl), hA 15 0 3905 3969 5 56 0 0 true aI.Q7 aI.Q1l ah (aI.mk (Q19 x0 Q1c).1 (Q19 x0 Q1s).1 (Q2m x0 Q2f).1 (Q1g x0 Q2e).1 (Q1g x0 Q2i).1) (aI.Qt ah) rfl rfl (by omega), hS 0 true (aI.Q8 (ah ++ [(aI.mk (Q19 x0 Q1c).1 (Q19 x0 Q1s).1 (Q2m x0 Q2f).1 (Q1g x0 Q2e).1 (Q1g x0 Q2i).1)]) 5 rfl), hB 1 (beqT h0), hP 24 (Q26 i0 (by omega))] [aN (Q78 x0 Q2e (H.2.1 x0 (Q15 bH))), aN (Qp6 x0 Q2f (H.2.2.1 x0 (Q15 bH))), aN (Q5i x0 Q1c (H.2.2.2.1 x0 (Q15 bH))), aN (Q78 x0 Q2i (H.2.1 x0 (Q15 bH))), aN (Q5i x0 Q1s (H.2.2.2.1 x0 (Q15 bH)))] hr (by kernel_rfl)
theorem Qoc (p0 : Val) (H : Qbe p0) : ∀ (r0 : List Val) (i0 : Nat) (ah : List aI) (ay : Bool), List.drop i0 (Qd p0 Ql).1 = r0 → List.length ah ≤ i0 → Qir p0 (Qb5 p0 i0 ah ay) (Q5d p0 r0 i0 ah ay)
 | [], i0, ah, ay, hd, aR => by
  have bF : (decide ((i0 : Int) < ((List.length (Qd p0 Ql).1) : Int))) = false := by have := Q1n hd; simp; omega
  rw [Q5d]
  exact Q1dj p0 H i0 ah ay aR bF
 | x0 :: r0, i0, ah, ay, hd, aR => by
  obtain ⟨bH, bT, hd'⟩ := Q1o hd
  have bF : (decide ((i0 : Int) < ((List.length (Qd p0 Ql).1) : Int))) = true := by simp; omega
  rw [Q5d]
  cases h0 : (ay == true) with
  | true =>
   exact Qdx p0 (fun r hr => Q1b7 p0 H x0 i0 ah ay bH bT aR bF h0 hr) _ (Qoc p0 H r0 _ _ _ hd' (by first | omega | (simp; omega)))
  | false =>
   exact Qdx p0 (fun r hr => Q1b8 p0 H x0 i0 ah ay bH bT aR bF h0 hr) _ (Qoc p0 H r0 _ _ _ hd' (by first | omega | (simp; omega)))
def Qen (p0 : Val) : List aI × Bool := dE aI.dec p0 Ql
theorem Qy6 (p0 : Val) : ∀ (l : List Val) (i : Nat) (a : List aI) (b : Bool), Q5d p0 l i a b = (a ++ l.map (fun x => (aI.dec x).1), b && l.all fun x => (aI.dec x).2)
  | [], _, a, b => by rw [Q5d]; simp
  | x :: l, i, a, b => by
    rw [Q5d]
    cases b with
    | false => exact (Qy6 p0 l (i + 1) (a ++ [(aI.dec x).1]) false).trans (by simp only [List.append_assoc, List.singleton_append, List.map_cons, List.all_cons, Bool.false_and])
    | true => exact (Qy6 p0 l (i + 1) (a ++ [(aI.dec x).1]) (aI.dec x).2).trans (by simp only [List.append_assoc, List.singleton_append, List.map_cons, List.all_cons, Bool.true_and])
theorem Q2b9 (p0 : Val) : Qen p0 = (((Q5d p0 (Qd p0 Ql).1 0 [] (Qd p0 Ql).2).1, (Q5d p0 (Qd p0 Ql).1 0 [] (Qd p0 Ql).2).2)) := by
  rw [Qy6]
  rfl
def Q27v (p0 : Val) : En := .call 273 [.agg (Val.cells p0)] []
def Q1wx (p0 : Val) : Rs := .ret (.tup [.sl (aI.rows (Qen p0).1), .bool (Qen p0).2]) []
def Q1p7 (p0 : Val) : Prop := Val.Sm 1000000000 p0
theorem Q16x (p0 : Val) (H : Q1p7 p0) : (Qfu p0) ∧ (Qbe p0) ∧ True := by
  have hl := Q69 (Qp H Ql)
  have g : ∀ x ∈ (dL p0 Ql).1, Val.Sm sB x := hl.2
  refine ⟨H, ?_, trivial⟩
  unfold Qbe
  refine ⟨Nat.le_trans hl.1 (Nat.le_of_ble_eq_true rfl), ?_⟩
  repeat' with_reducible apply And.intro
  all_goals first | exact True.intro | exact g
theorem Q206 (p0 : Val) (H : Q1p7 p0) : Q5 G (Q27v p0) (Q1wx p0) := by
 unfold Q1wx
 rw [Q2b9]
 have hl0 := Qoc p0 ((Q16x p0 H).2.1) (Qd p0 Ql).1 0 [] (Qd p0 Ql).2 (by simp) (by simp)
 obtain ⟨z0, eG, hl0⟩ := hl0
 exact Q6 (fn := Ir.K3j) (by kernel_rfl) VOK.nil [hS 0 true (aI.Q8 (Q5d p0 (Qd p0 Ql).1 0 [] (Qd p0 Ql).2).1 5 rfl), hQ (aI.Q7 (Q5d p0 (Qd p0 Ql).1 0 [] (Qd p0 Ql).2).1).symm] [aN (Qev p0 Ql (Q16x p0 H).1), aV [(0, aI.rows (Q5d p0 (Qd p0 Ql).1 0 [] (Qd p0 Ql).2).1)] hl0] (by kernel_rfl)
def Q4j (p0 : Val) : List Bool := [(Qej p0).2, (Q1g p0 Q2s).2, (Q19 p0 Q1b).2, (Q3n p0 Q13).2, (Qek p0).2, (Qel p0).2, (Q1g p0 Q1p).2, (Q1g p0 Q1z).2, (Qem p0).2, (Qen p0).2]
inductive Q150 where
  | k0
  | k1
def Q7r (p0 : Val) : List Bool → Nat → Q150
 | [], _i0 =>
  (.k0)
 | x0 :: r0, i0 =>
  bif (x0 == true) then
   Q7r p0 r0 (i0 + 1)
  else
   (.k1)
def Q1ex (_p0 : Val) (i0 : Nat) : List PV :=
  [.un, .bx 0 0, .bx 1 0, .un, .bx 2 0, .bx 3 0] ++ nuns 20 ++ [iN (i0 : Int)] ++ nuns 104
def Q1fv (p0 : Val) (_i0 : Nat) : List Ob :=
  [⟨5, 0, true, (Val.cells p0)⟩, ⟨10, 0, true, [.str eB, iN 0, iN 0, iN 0, .ms 4 11 0 0, .ms 5 3 0 0, .ms 6 3 0 0, .ms 7 5 0 0, .ms 8 4 0 0, .ms 9 5 0 0]⟩, ⟨10, 0, true, [.str (Q19 p0 Q1b).1, iN (Q1g p0 Q1p).1, iN (Q1g p0 Q1z).1, iN (Q1g p0 Q2s).1, .sl (aK.rows (Qej p0).1), .sl (aj.rows (Q3n p0 Q13).1), .sl (aP.rows (Qek p0).1), .sl (aS.rows (Qel p0).1), .sl (aF.rows (Qem p0).1), .sl (aI.rows (Qen p0).1)]⟩, ⟨10, 0, true, [.bool (Qej p0).2, .bool (Q1g p0 Q2s).2, .bool (Q19 p0 Q1b).2, .bool (Q3n p0 Q13).2, .bool (Qek p0).2, .bool (Qel p0).2, .bool (Q1g p0 Q1p).2, .bool (Q1g p0 Q1z).2, .bool (Qem p0).2, .bool (Qen p0).2]⟩, ⟨11, 0, true, []⟩, ⟨3, 0, true, []⟩, ⟨3, 0, true, []⟩, ⟨5, 0, true, []⟩, ⟨4, 0, true, []⟩, ⟨5, 0, true, []⟩]
def Qd0 (p0 : Val) (i0 : Nat) : En := .loop 0 Ir.Qkz Ir.Q1nc (Q1ex p0 i0) (Q1fv p0 i0)
def Qru (p0 : Val) (z : Nat → PV) (_zo : Nat → List PV) : St :=
  ⟨[z 0, .bx 0 0, .bx 1 0, z 3, .bx 2 0] ++ zr z 5 126, [(0, ⟨5, 0, true, (Val.cells p0)⟩), (1, ⟨10, 0, true, [.str eB, iN 0, iN 0, iN 0, .ms 4 11 0 0, .ms 5 3 0 0, .ms 6 3 0 0, .ms 7 5 0 0, .ms 8 4 0 0, .ms 9 5 0 0]⟩), (2, ⟨10, 0, true, [.str (Q19 p0 Q1b).1, iN (Q1g p0 Q1p).1, iN (Q1g p0 Q1z).1, iN (Q1g p0 Q2s).1, .sl (aK.rows (Qej p0).1), .sl (aj.rows (Q3n p0 Q13).1), .sl (aP.rows (Qek p0).1), .sl (aS.rows (Qel p0).1), .sl (aF.rows (Qem p0).1), .sl (aI.rows (Qen p0).1)]⟩), (3, ⟨10, 0, true, [.bool (Qej p0).2, .bool (Q1g p0 Q2s).2, .bool (Q19 p0 Q1b).2, .bool (Q3n p0 Q13).2, .bool (Qek p0).2, .bool (Qel p0).2, .bool (Q1g p0 Q1p).2, .bool (Q1g p0 Q1z).2, .bool (Qem p0).2, .bool (Qen p0).2]⟩), (4, ⟨11, 0, true, []⟩), (5, ⟨3, 0, true, []⟩), (6, ⟨3, 0, true, []⟩), (7, ⟨5, 0, true, []⟩), (8, ⟨4, 0, true, []⟩), (9, ⟨5, 0, true, []⟩)], 138⟩
def Qrv (_p0 : Val) (z : Nat → PV) (zo : Nat → List PV) : St :=
  ⟨[z 0, z 1, .bx 1 0, .bool false] ++ zr z 4 127, [(0, ⟨5, 0, true, zo 0⟩), (1, ⟨10, 0, true, [.str eB, iN 0, iN 0, iN 0, .ns 11, .ns 3, .ns 3, .ns 5, .ns 4, .ns 5]⟩), (2, ⟨10, 0, true, zo 2⟩), (3, ⟨10, 0, true, zo 3⟩), (4, ⟨11, 0, true, zo 4⟩), (5, ⟨3, 0, true, zo 5⟩), (6, ⟨3, 0, true, zo 6⟩), (7, ⟨5, 0, true, zo 7⟩), (8, ⟨4, 0, true, zo 8⟩), (9, ⟨5, 0, true, zo 9⟩)], 586⟩
def Qds (p0 : Val) (e : En) : Q150 → Prop
  | .k0 => ∃ z zo, Q5 G e (.st (.exit 0) (Qru p0 z zo))
  | .k1 => ∃ z zo, Q5 G e (.st .ret (Qrv p0 z zo))
theorem Qwe (p0 : Val) {e e' : En} (h : ∀ r, Q5 G e r → Q5 G e' r) : ∀ q, Qds p0 e q → Qds p0 e' q
  | .k0, ⟨z, zo, hz⟩ => ⟨z, zo, h _ hz⟩
  | .k1, ⟨z, zo, hz⟩ => ⟨z, zo, h _ hz⟩
def Qd6 (p0 : Val) : Prop := (List.length (Q4j p0) ≤ 4611686018427387904) ∧ True
def Qtv (_p0 : Val) (i0 : Nat) : List PV :=
  nuns 5 ++ [.bx 3 0] ++ nuns 20 ++ [iN (i0 : Int)] ++ nuns 92 ++ [iN (i0 : Int), .bool false]
def Qmt (_p0 : Val) (_i0 : Nat) : List (Nat × List PV) :=
  []
theorem Q1db (p0 : Val) (_H : Qd6 p0) (i0 : Nat) (bF : (decide ((i0 : Int) < 10)) = false) : Qds p0 (Qd0 p0 i0) (.k0) := by
 exact ⟨(envF (Qtv p0 i0)), (zoF (Qmt p0 i0)), Qg VOK.nil (x := ((.exit 0), Qru p0 (envF (Qtv p0 i0)) (zoF (Qmt p0 i0)))) [hB 1 bF] [] (by kernel_rfl)⟩
theorem Q1aw (p0 : Val) (H : Qd6 p0) (x0 : Bool) (i0 : Nat) (bH : (Q4j p0)[i0]? = some x0) (bT : i0 < List.length (Q4j p0)) (bF : (decide ((i0 : Int) < 10)) = true) (h0 : (x0 == true) = true) {r : Rs} (hr : Q5 G (Qd0 p0 (i0 + 1)) r) : Q5 G (Qd0 p0 i0) r := by
 have hB0 := H.1
 exact Qc VOK.nil [hB 1 bF, hP 1 (Q1o0 10 1 3 0 i0 (Nat.lt_of_lt_of_eq bT rfl)), hP 0 (Q1o1 3 10 0 true [.bool (Qej p0).2, .bool (Q1g p0 Q2s).2, .bool (Q19 p0 Q1b).2, .bool (Q3n p0 Q13).2, .bool (Qek p0).2, .bool (Qel p0).2, .bool (Q1g p0 Q1p).2, .bool (Q1g p0 Q1z).2, .bool (Qem p0).2, .bool (Qen p0).2] (Q4j p0) i0 x0 true bH (beqT h0)), hP 2 (Q26 i0 (by omega))] [] hr (by kernel_rfl)
def Qtw (_p0 : Val) (i0 : Nat) (_x0 : Bool) : List PV :=
  [.un, .bx 0 0, .un, .un, .bx 2 0, .bx 3 0] ++ nuns 20 ++ [iN (i0 : Int)] ++ nuns 92 ++ [iN (i0 : Int), .bool true, .un, .un, iN (i0 : Int), .bx 3 (0 + i0 * 1), .bool false, .bool true, .agg [.str eB, iN 0, iN 0, iN 0, .ns 11, .ns 3, .ns 3, .ns 5, .ns 4, .ns 5]]
def Qmu (p0 : Val) (_i0 : Nat) (_x0 : Bool) : List (Nat × List PV) :=
  [(0, (Val.cells p0)), (2, [.str (Q19 p0 Q1b).1, iN (Q1g p0 Q1p).1, iN (Q1g p0 Q1z).1, iN (Q1g p0 Q2s).1, .sl (aK.rows (Qej p0).1), .sl (aj.rows (Q3n p0 Q13).1), .sl (aP.rows (Qek p0).1), .sl (aS.rows (Qel p0).1), .sl (aF.rows (Qem p0).1), .sl (aI.rows (Qen p0).1)]), (3, [.bool (Qej p0).2, .bool (Q1g p0 Q2s).2, .bool (Q19 p0 Q1b).2, .bool (Q3n p0 Q13).2, .bool (Qek p0).2, .bool (Qel p0).2, .bool (Q1g p0 Q1p).2, .bool (Q1g p0 Q1z).2, .bool (Qem p0).2, .bool (Qen p0).2]), (4, []), (5, []), (6, []), (7, []), (8, []), (9, [])]
theorem Q1dc (p0 : Val) (_H : Qd6 p0) (x0 : Bool) (i0 : Nat) (bH : (Q4j p0)[i0]? = some x0) (bT : i0 < List.length (Q4j p0)) (bF : (decide ((i0 : Int) < 10)) = true) (h0 : (x0 == true) = false) : Qds p0 (Qd0 p0 i0) (.k1) := by
 exact ⟨(envF (Qtw p0 i0 x0)), (zoF (Qmu p0 i0 x0)), Qg VOK.nil (x := (.ret, Qrv p0 (envF (Qtw p0 i0 x0)) (zoF (Qmu p0 i0 x0)))) [hB 1 bF, hP 1 (Q1o0 10 1 3 0 i0 (Nat.lt_of_lt_of_eq bT rfl)), hP 0 (Q1o1 3 10 0 true [.bool (Qej p0).2, .bool (Q1g p0 Q2s).2, .bool (Q19 p0 Q1b).2, .bool (Q3n p0 Q13).2, .bool (Qek p0).2, .bool (Qel p0).2, .bool (Q1g p0 Q1p).2, .bool (Q1g p0 Q1z).2, .bool (Qem p0).2, .bool (Qen p0).2] (Q4j p0) i0 x0 false bH (beqT h0))] [] (by kernel_rfl)⟩
theorem Q124 (p0 : Val) (H : Qd6 p0) : ∀ (r0 : List Bool) (i0 : Nat), List.drop i0 (Q4j p0) = r0 → Qds p0 (Qd0 p0 i0) (Q7r p0 r0 i0)
 | [], i0, hd => by
  have bF : (decide ((i0 : Int) < 10)) = false := by have hL := (show List.length (Q4j p0) = 10 from rfl); have := Q1n hd; simp; omega
  rw [Q7r]
  exact Q1db p0 H i0 bF
 | x0 :: r0, i0, hd => by
  obtain ⟨bH, bT, hd'⟩ := Q1o hd
  have bF : (decide ((i0 : Int) < 10)) = true := by have hL := (show List.length (Q4j p0) = 10 from rfl); simp; omega
  rw [Q7r]
  cases h0 : (x0 == true) with
  | true =>
   exact Qwe p0 (fun r hr => Q1aw p0 H x0 i0 bH bT bF h0 hr) _ (Q124 p0 H r0 _ hd')
  | false =>
   exact Q1dc p0 H x0 i0 bH bT bF h0
def Q12z (p0 : Val) : bC × Bool := bif (bC.dec p0).2 then ((bC.dec p0).1, true) else ((bC.mk eB 0 0 0 [] [] [] [] [] []), false)
theorem Q18l (p0 : Val) : ∀ (l : List Bool) (i : Nat), Q7r p0 l i = bif l.all id then .k0 else .k1
  | [], _ => by rw [Q7r]; rfl
  | x :: l, i => by
    rw [Q7r]
    cases x with
    | true => exact Q18l p0 l (i + 1)
    | false => rfl
theorem Q2ay (p0 : Val) : Q12z p0 = ((match (Q7r p0 (Q4j p0) 0) with
  | .k0 => ((bC.mk (Q19 p0 Q1b).1 (Q1g p0 Q1p).1 (Q1g p0 Q1z).1 (Q1g p0 Q2s).1 (Qej p0).1 (Q3n p0 Q13).1 (Qek p0).1 (Qel p0).1 (Qem p0).1 (Qen p0).1), (Q2u p0))
  | .k1 => ((bC.mk eB 0 0 0 [] [] [] [] [] []), false))) := by
  rw [Q18l]
  have e : (bC.rdec p0).2 = (isM p0 && (Q4j p0).all id) := by
    simp only [bC.rdec, Q4j, List.all_cons, List.all_nil, id, Bool.true_and, Q1g, Q19, Qej, Q3n, Qek, Qel, Qem, Qen, Bool.and_assoc, Bool.and_left_comm, Bool.and_comm]
  have ag : (bC.rdec p0).2 = (bC.dec p0).2 ∧ ((bC.dec p0).2 = true → (bC.rdec p0).1 = (bC.dec p0).1) := bC.agr p0
  unfold Q12z
  rw [← ag.1, e]
  cases h : (Q4j p0).all id with
  | false => rw [Bool.and_false]; rfl
  | true =>
    cases hm : isM p0 with
    | true =>
      have hv := ag.2 (by rw [← ag.1, e, h, hm]; rfl)
      exact Prod.ext hv.symm hm.symm
    | false =>
      have hz : (bC.rdec p0).1 = (bC.mk eB 0 0 0 [] [] [] [] [] []) := by
        unfold bC.rdec
        simp only [dN, dS, dE, Qf9 (Q1zg hm)]
        rfl
      exact Prod.ext hz.symm hm.symm
def Q27l (p0 : Val) : En := .call 232 [.agg (Val.cells p0)] []
def Q1wm (p0 : Val) : Rs := .ret (.tup [.agg (bC.cells (Q12z p0).1), .bool (Q12z p0).2]) []
def Q1oy (p0 : Val) : Prop := Val.Sm 1000000000 p0
theorem Q3t (p0 : Val) (H : Q1oy p0) : (Q1p0 p0) ∧ (Qjs p0) ∧ (Qpe p0) ∧ (Q136 p0) ∧ (Q1p1 p0) ∧ (Q1p2 p0) ∧ (Q1p6 p0) ∧ (Q1p7 p0) ∧ (Qd6 p0) ∧ True := by
  repeat' with_reducible apply And.intro
  all_goals first | exact True.intro | exact H | exact ⟨Nat.le_of_ble_eq_true rfl, trivial⟩ | exact Qp H _
theorem Q1ir (p0 : Val) (H : Q1oy p0) : Q5 G (Q27l p0) (Q1wm p0) := by
 unfold Q1wm
 rw [Q2ay]
 have hl0 := Q124 p0 ((Q3t p0 H).2.2.2.2.2.2.2.2.1) (Q4j p0) 0 (by simp)
 cases hr0 : (Q7r p0 (Q4j p0) 0) with
 | k0 =>
  rw [hr0] at hl0
  obtain ⟨z0, eG, hl0⟩ := hl0
  exact Q6 (fn := Ir.K38) (by kernel_rfl) VOK.nil [] [aN (Q202 p0 (Q3t p0 H).1), aN (Q78 p0 Q2s (Q3t p0 H).2.1), aN (Q5i p0 Q1b (Q3t p0 H).2.2.1), aN (Qyh p0 Q13 (Q3t p0 H).2.2.2.1), aN (Q203 p0 (Q3t p0 H).2.2.2.2.1), aN (Q204 p0 (Q3t p0 H).2.2.2.2.2.1), aN (Q78 p0 Q1p (Q3t p0 H).2.1), aN (Q78 p0 Q1z (Q3t p0 H).2.1), aN (Q205 p0 (Q3t p0 H).2.2.2.2.2.2.1), aN (Q206 p0 (Q3t p0 H).2.2.2.2.2.2.2.1), aN hl0, aN (Q9h p0)] (by kernel_rfl)
 | k1 =>
  rw [hr0] at hl0
  obtain ⟨z0, eG, hl0⟩ := hl0
  exact Q6 (fn := Ir.K38) (by kernel_rfl) VOK.nil [] [aN (Q202 p0 (Q3t p0 H).1), aN (Q78 p0 Q2s (Q3t p0 H).2.1), aN (Q5i p0 Q1b (Q3t p0 H).2.2.1), aN (Qyh p0 Q13 (Q3t p0 H).2.2.2.1), aN (Q203 p0 (Q3t p0 H).2.2.2.2.1), aN (Q204 p0 (Q3t p0 H).2.2.2.2.2.1), aN (Q78 p0 Q1p (Q3t p0 H).2.1), aN (Q78 p0 Q1z (Q3t p0 H).2.1), aN (Q205 p0 (Q3t p0 H).2.2.2.2.2.2.1), aN (Q206 p0 (Q3t p0 H).2.2.2.2.2.2.2.1), aN hl0] (by kernel_rfl)
def Q3j (p0 : Val) : List Val → Nat → (List bf) → Bool → (List bf) × Bool
 | [], _i0, ah, ay =>
  (ah, ay)
 | x0 :: r0, i0, ah, ay =>
  bif (ay == true) then
   Q3j p0 r0 (i0 + 1) (ah ++ [(bf.mk (Q19 x0 Q1c).1 (Q19 x0 Q1s).1)]) (((Q2u x0) && (Q19 x0 Q1c).2) && (Q19 x0 Q1s).2)
  else
   Q3j p0 r0 (i0 + 1) (ah ++ [(bf.mk (Q19 x0 Q1c).1 (Q19 x0 Q1s).1)]) false
def Q1ey (p0 : Val) (i0 : Nat) (_ah : List bf) (ay : Bool) : List PV :=
  [.un, .bx 0 0, .bx 1 0, .un, .sl (Val.rows (Qd p0 Qj).1), .bool ay, .bx 2 0, iN (i0 : Int)] ++ nuns 77
def Qz8 (p0 : Val) (_i0 : Nat) (ah : List bf) (_ay : Bool) : List Ob :=
  [⟨5, 0, true, (Val.cells p0)⟩, ⟨11, 0, true, [.ms 3 2 0 0, .str eB, iN 0, iN 0, iN 0, .ms 4 11 0 0, .ms 5 3 0 0, .ms 6 3 0 0, .ms 7 5 0 0, .ms 8 4 0 0, .ms 9 5 0 0]⟩, ⟨11, 0, true, [.ms 10 2 0 (List.length ah), .str eB, iN 0, iN 0, iN 0, .ms 11 11 0 0, .ms 12 3 0 0, .ms 13 3 0 0, .ms 14 5 0 0, .ms 15 4 0 0, .ms 16 5 0 0]⟩, ⟨2, 0, true, []⟩, ⟨11, 0, true, []⟩, ⟨3, 0, true, []⟩, ⟨3, 0, true, []⟩, ⟨5, 0, true, []⟩, ⟨4, 0, true, []⟩, ⟨5, 0, true, []⟩, ⟨2, 0, true, (bf.rows ah).flatten⟩, ⟨11, 0, true, []⟩, ⟨3, 0, true, []⟩, ⟨3, 0, true, []⟩, ⟨5, 0, true, []⟩, ⟨4, 0, true, []⟩, ⟨5, 0, true, []⟩]
def Qb1 (p0 : Val) (i0 : Nat) (ah : List bf) (ay : Bool) : En := .loop 0 Ir.Ql0 Ir.Q1nd (Q1ey p0 i0 ah ay) (Qz8 p0 i0 ah ay)
def Qrw (p0 : Val) (q0 : List bf) (q1 : Bool) (z : Nat → PV) (_zo : Nat → List PV) : St :=
  ⟨[z 0, .bx 0 0, .bx 1 0, z 3, z 4, .bool q1, .bx 2 0] ++ zr z 7 78, [(0, ⟨5, 0, true, (Val.cells p0)⟩), (1, ⟨11, 0, true, [.ms 3 2 0 0, .str eB, iN 0, iN 0, iN 0, .ms 4 11 0 0, .ms 5 3 0 0, .ms 6 3 0 0, .ms 7 5 0 0, .ms 8 4 0 0, .ms 9 5 0 0]⟩), (2, ⟨11, 0, true, [.ms 10 2 0 (List.length q0), .str eB, iN 0, iN 0, iN 0, .ms 11 11 0 0, .ms 12 3 0 0, .ms 13 3 0 0, .ms 14 5 0 0, .ms 15 4 0 0, .ms 16 5 0 0]⟩), (3, ⟨2, 0, true, []⟩), (4, ⟨11, 0, true, []⟩), (5, ⟨3, 0, true, []⟩), (6, ⟨3, 0, true, []⟩), (7, ⟨5, 0, true, []⟩), (8, ⟨4, 0, true, []⟩), (9, ⟨5, 0, true, []⟩), (10, ⟨2, 0, true, (bf.rows q0).flatten⟩), (11, ⟨11, 0, true, []⟩), (12, ⟨3, 0, true, []⟩), (13, ⟨3, 0, true, []⟩), (14, ⟨5, 0, true, []⟩), (15, ⟨4, 0, true, []⟩), (16, ⟨5, 0, true, []⟩)], 273⟩
theorem Qx8 (p0 : Val) (i0 : Nat) (ah : List bf) (ay : Bool) : VOK (Go.Pv.look (number 0 (Qz8 p0 i0 ah ay))) [(10, bf.rows ah)] := (VOK.cons (show Seen _ _ from Q3r (ob := ⟨2, 0, true, (bf.rows ah).flatten⟩) (bf.Q8 ah 2 rfl)) VOK.nil)
def Qil (p0 : Val) (e : En) (q : (List bf) × Bool) : Prop := ∃ z zo, Q5 G e (.st (.exit 0) (Qrw p0 q.1 q.2 z zo))
theorem Qdt (p0 : Val) {e e' : En} (h : ∀ r, Q5 G e r → Q5 G e' r) : ∀ q, Qil p0 e q → Qil p0 e' q
  | _, ⟨z, zo, hz⟩ => ⟨z, zo, h _ hz⟩
def Qba (p0 : Val) : Prop := (List.length (Qd p0 Qj).1 ≤ 137438953472) ∧ (∀ x0 ∈ (Qd p0 Qj).1, Qpe x0) ∧ True
def Qtx (p0 : Val) (i0 : Nat) (_ah : List bf) (_ay : Bool) : List PV :=
  [.un, .un, .un, .un, .sl (Val.rows (Qd p0 Qj).1), .un, .un, iN (i0 : Int)] ++ nuns 12 ++ [iN (i0 : Int), .sl (Val.rows (Qd p0 Qj).1), iN ((List.length (Qd p0 Qj).1) : Int), .bool false]
def Qmv (_p0 : Val) (_i0 : Nat) (_ah : List bf) (_ay : Bool) : List (Nat × List PV) :=
  []
theorem Q1dd (p0 : Val) (_H : Qba p0) (i0 : Nat) (ah : List bf) (ay : Bool) (_aR : List.length ah ≤ i0) (bF : (decide ((i0 : Int) < ((List.length (Qd p0 Qj).1) : Int))) = false) : Qil p0 (Qb1 p0 i0 ah ay) (ah, ay) := by
 exact ⟨(envF (Qtx p0 i0 ah ay)), (zoF (Qmv p0 i0 ah ay)), Qg (Qx8 p0 i0 ah ay) (x := ((.exit 0), Qrw p0 ah ay (envF (Qtx p0 i0 ah ay)) (zoF (Qmv p0 i0 ah ay)))) [hP 2 (Qq _ _ (Val.Q7 (Qd p0 Qj).1)), hB 0 bF] [] (by kernel_rfl)⟩
theorem Q1ax (p0 : Val) (H : Qba p0) (x0 : Val) (i0 : Nat) (ah : List bf) (ay : Bool) (bH : (Qd p0 Qj).1[i0]? = some x0) (bT : i0 < List.length (Qd p0 Qj).1) (aR : List.length ah ≤ i0) (bF : (decide ((i0 : Int) < ((List.length (Qd p0 Qj).1) : Int))) = true) (h0 : (ay == true) = true) {r : Rs} (hr : Q5 G (Qb1 p0 (i0 + 1) (ah ++ [(bf.mk (Q19 x0 Q1c).1 (Q19 x0 Q1s).1)]) (((Q2u x0) && (Q19 x0 Q1c).2) && (Q19 x0 Q1s).2)) r) : Q5 G (Qb1 p0 i0 ah ay) r := by
 have hB0 := H.1
 exact Qc (Qx8 p0 i0 ah ay) [hP 2 (Qq _ _ (Val.Q7 (Qd p0 Qj).1)), hB 0 bF, hP 2 (Q1f 5 _ i0 _ (Val.Qb bH) rfl), hP 9 (Q1f 5 _ i0 _ (Val.Qb bH) rfl), hA 13 10 1873 1937 2 32 0 0 true bf.Q7 bf.Q1l ah (bf.mk (Q19 x0 Q1c).1 (Q19 x0 Q1s).1) (bf.Qt ah) rfl rfl (by omega), hS 0 true (bf.Q8 (ah ++ [(bf.mk (Q19 x0 Q1c).1 (Q19 x0 Q1s).1)]) 2 rfl), hB 2 (beqT h0), hP 3 (Q1f 5 _ i0 _ (Val.Qb bH) rfl), hP 4 (Q63 (Q2u x0) (.bool (Q19 x0 Q1c).2)), hP 0 (Q64 (Q2u x0) (Q19 x0 Q1c).2), hP 1 (Q63 ((Q2u x0) && (Q19 x0 Q1c).2) (.bool (Q19 x0 Q1s).2)), hP 0 (Q64 ((Q2u x0) && (Q19 x0 Q1c).2) (Q19 x0 Q1s).2), hP 2 (Q26 i0 (by omega))] [aN (Q5i x0 Q1c (H.2.1 x0 (Q15 bH))), aN (Q5i x0 Q1s (H.2.1 x0 (Q15 bH))), aN (Q9h x0)] hr (by kernel_rfl)
theorem Q1ay (p0 : Val) (H : Qba p0) (x0 : Val) (i0 : Nat) (ah : List bf) (ay : Bool) (bH : (Qd p0 Qj).1[i0]? = some x0) (bT : i0 < List.length (Qd p0 Qj).1) (aR : List.length ah ≤ i0) (bF : (decide ((i0 : Int) < ((List.length (Qd p0 Qj).1) : Int))) = true) (h0 : (ay == true) = false) {r : Rs} (hr : Q5 G (Qb1 p0 (i0 + 1) (ah ++ [(bf.mk (Q19 x0 Q1c).1 (Q19 x0 Q1s).1)]) false) r) : Q5 G (Qb1 p0 i0 ah ay) r := by
 have hB0 := H.1
 exact Qc (Qx8 p0 i0 ah ay) [hP 2 (Qq _ _ (Val.Q7 (Qd p0 Qj).1)), hB 0 bF, hP 2 (Q1f 5 _ i0 _ (Val.Qb bH) rfl), hP 9 (Q1f 5 _ i0 _ (Val.Qb bH) rfl), hA 13 10 1873 1937 2 32 0 0 true bf.Q7 bf.Q1l ah (bf.mk (Q19 x0 Q1c).1 (Q19 x0 Q1s).1) (bf.Qt ah) rfl rfl (by omega), hS 0 true (bf.Q8 (ah ++ [(bf.mk (Q19 x0 Q1c).1 (Q19 x0 Q1s).1)]) 2 rfl), hB 2 (beqT h0), hP 15 (Q26 i0 (by omega))] [aN (Q5i x0 Q1c (H.2.1 x0 (Q15 bH))), aN (Q5i x0 Q1s (H.2.1 x0 (Q15 bH)))] hr (by kernel_rfl)
theorem Qo8 (p0 : Val) (H : Qba p0) : ∀ (r0 : List Val) (i0 : Nat) (ah : List bf) (ay : Bool), List.drop i0 (Qd p0 Qj).1 = r0 → List.length ah ≤ i0 → Qil p0 (Qb1 p0 i0 ah ay) (Q3j p0 r0 i0 ah ay)
 | [], i0, ah, ay, hd, aR => by
  have bF : (decide ((i0 : Int) < ((List.length (Qd p0 Qj).1) : Int))) = false := by have := Q1n hd; simp; omega
  rw [Q3j]
  exact Q1dd p0 H i0 ah ay aR bF
 | x0 :: r0, i0, ah, ay, hd, aR => by
  obtain ⟨bH, bT, hd'⟩ := Q1o hd
  have bF : (decide ((i0 : Int) < ((List.length (Qd p0 Qj).1) : Int))) = true := by simp; omega
  rw [Q3j]
  cases h0 : (ay == true) with
  | true =>
   exact Qdt p0 (fun r hr => Q1ax p0 H x0 i0 ah ay bH bT aR bF h0 hr) _ (Qo8 p0 H r0 _ _ _ hd' (by first | omega | (simp; omega)))
  | false =>
   exact Qdt p0 (fun r hr => Q1ay p0 H x0 i0 ah ay bH bT aR bF h0 hr) _ (Qo8 p0 H r0 _ _ _ hd' (by first | omega | (simp; omega)))
def Q130 (p0 : Val) : bn × Int := Qpl p0
theorem Qy0 (p0 : Val) : ∀ (l : List Val) (i : Nat) (a : List bf) (b : Bool), Q3j p0 l i a b = (a ++ l.map (fun x => (bf.dec x).1), b && l.all fun x => (bf.dec x).2)
  | [], _, a, b => by rw [Q3j]; simp
  | x :: l, i, a, b => by
    rw [Q3j]
    cases b with
    | false => exact (Qy0 p0 l (i + 1) (a ++ [(bf.dec x).1]) false).trans (by simp only [List.append_assoc, List.singleton_append, List.map_cons, List.all_cons, Bool.false_and])
    | true => exact (Qy0 p0 l (i + 1) (a ++ [(bf.dec x).1]) (bf.dec x).2).trans (by simp only [List.append_assoc, List.singleton_append, List.map_cons, List.all_cons, Bool.true_and])
theorem Q2az (p0 : Val) : Q130 p0 = (bif (Q12z (Q3f p0 Q31)).2 then
    bif (Q3j p0 (Qd p0 Qj).1 0 [] (Qd p0 Qj).2).2 then
      bif (Q2u p0) then
        ((bn.mk (Q3j p0 (Qd p0 Qj).1 0 [] (Qd p0 Qj).2).1 (Q12z (Q3f p0 Q31)).1), 0)
      else
        ((bn.mk [] (bC.mk eB 0 0 0 [] [] [] [] [] [])), 6)
    else
      ((bn.mk [] (bC.mk eB 0 0 0 [] [] [] [] [] [])), 6)
  else
    bif (Q3j p0 (Qd p0 Qj).1 0 [] (Qd p0 Qj).2).2 then
      ((bn.mk [] (bC.mk eB 0 0 0 [] [] [] [] [] [])), 6)
    else
      ((bn.mk [] (bC.mk eB 0 0 0 [] [] [] [] [] [])), 6)) := by
  have q : Q3j p0 (Qd p0 Qj).1 0 [] (Qd p0 Qj).2 = dE bf.dec p0 Qj := Qy0 p0 _ 0 [] _
  rw [q]
  unfold Q130 Qpl
  have e : (bn.dec p0).2 = (isM p0 && ((dE bf.dec p0 Qj).2 && (bC.dec (prt p0 Q31)).2)) := by
    unfold bn.dec
    rw [Bool.and_assoc]
  rw [e]
  simp only [Q12z, Q3f, Q2u]
  cases h1 : (bC.dec (prt p0 Q31)).2 <;> cases h2 : (dE bf.dec p0 Qj).2 <;> cases h3 : (isM p0) <;> rfl
def Q27m (p0 : Val) : En := .call 202 [.agg (Val.cells p0)] []
def Q1wn (p0 : Val) : Rs := .ret (.tup [.agg (bn.cells (Q130 p0).1), iN (Q130 p0).2]) []
def Q1oz (p0 : Val) : Prop := Val.Sm 1000000000 p0
theorem Q4k (p0 : Val) (H : Q1oz p0) : (Qfu p0) ∧ (Qba p0) ∧ (Qpd p0) ∧ (Q1oy (Q3f p0 Q31)) ∧ True := by
  have hl := Q69 (Qp H Qj)
  have g : ∀ x ∈ (dL p0 Qj).1, Val.Sm sB x := hl.2
  refine ⟨H, ?_, H, Qp H _, trivial⟩
  unfold Qba
  refine ⟨Nat.le_trans hl.1 (Nat.le_of_ble_eq_true rfl), ?_⟩
  repeat' with_reducible apply And.intro
  all_goals first | exact True.intro | exact g
theorem Q2fe (p0 : Val) (H : Q1oz p0) : Q5 G (Q27m p0) (Q1wn p0) := by
 unfold Q1wn
 rw [Q2az]
 have hl0 := Qo8 p0 ((Q4k p0 H).2.1) (Qd p0 Qj).1 0 [] (Qd p0 Qj).2 (by simp) (by simp)
 obtain ⟨z0, eG, hl0⟩ := hl0
 cases h0 : (Q12z (Q3f p0 Q31)).2 with
 | true =>
  cases h1 : (Q3j p0 (Qd p0 Qj).1 0 [] (Qd p0 Qj).2).2 with
  | true =>
   cases h2 : (Q2u p0) with
   | true =>
    exact Q6 (fn := Ir.K39) (by kernel_rfl) VOK.nil [hS 0 true (bf.Q8 (Q3j p0 (Qd p0 Qj).1 0 [] (Qd p0 Qj).2).1 2 rfl), hB 19 h0, hB 3 h1, hQ (bf.Q7 (Q3j p0 (Qd p0 Qj).1 0 [] (Qd p0 Qj).2).1).symm] [aN (Qev p0 Qj (Q4k p0 H).1), aV [(10, bf.rows (Q3j p0 (Qd p0 Qj).1 0 [] (Qd p0 Qj).2).1)] hl0, aN (Qc4 p0 Q31 (Q4k p0 H).2.2.1), aN (Q1ir (Q3f p0 Q31) (Q4k p0 H).2.2.2.1), aB (Q9h p0) h2] (by kernel_rfl)
   | false =>
    exact Q6 (fn := Ir.K39) (by kernel_rfl) VOK.nil [hS 0 true (bf.Q8 (Q3j p0 (Qd p0 Qj).1 0 [] (Qd p0 Qj).2).1 2 rfl), hB 19 h0, hB 3 h1] [aN (Qev p0 Qj (Q4k p0 H).1), aV [(10, bf.rows (Q3j p0 (Qd p0 Qj).1 0 [] (Qd p0 Qj).2).1)] hl0, aN (Qc4 p0 Q31 (Q4k p0 H).2.2.1), aN (Q1ir (Q3f p0 Q31) (Q4k p0 H).2.2.2.1), aB (Q9h p0) h2] (by kernel_rfl)
  | false =>
   exact Q6 (fn := Ir.K39) (by kernel_rfl) VOK.nil [hS 0 true (bf.Q8 (Q3j p0 (Qd p0 Qj).1 0 [] (Qd p0 Qj).2).1 2 rfl), hB 19 h0, hB 3 h1] [aN (Qev p0 Qj (Q4k p0 H).1), aV [(10, bf.rows (Q3j p0 (Qd p0 Qj).1 0 [] (Qd p0 Qj).2).1)] hl0, aN (Qc4 p0 Q31 (Q4k p0 H).2.2.1), aN (Q1ir (Q3f p0 Q31) (Q4k p0 H).2.2.2.1)] (by kernel_rfl)
 | false =>
  cases h1 : (Q3j p0 (Qd p0 Qj).1 0 [] (Qd p0 Qj).2).2 with
  | true =>
   exact Q6 (fn := Ir.K39) (by kernel_rfl) VOK.nil [hS 0 true (bf.Q8 (Q3j p0 (Qd p0 Qj).1 0 [] (Qd p0 Qj).2).1 2 rfl), hB 19 h0, hB 3 h1] [aN (Qev p0 Qj (Q4k p0 H).1), aV [(10, bf.rows (Q3j p0 (Qd p0 Qj).1 0 [] (Qd p0 Qj).2).1)] hl0, aN (Qc4 p0 Q31 (Q4k p0 H).2.2.1), aN (Q1ir (Q3f p0 Q31) (Q4k p0 H).2.2.2.1)] (by kernel_rfl)
  | false =>
   exact Q6 (fn := Ir.K39) (by kernel_rfl) VOK.nil [hS 0 true (bf.Q8 (Q3j p0 (Qd p0 Qj).1 0 [] (Qd p0 Qj).2).1 2 rfl), hB 19 h0, hB 3 h1] [aN (Qev p0 Qj (Q4k p0 H).1), aV [(10, bf.rows (Q3j p0 (Qd p0 Qj).1 0 [] (Qd p0 Qj).2).1)] hl0, aN (Qc4 p0 Q31 (Q4k p0 H).2.2.1), aN (Q1ir (Q3f p0 Q31) (Q4k p0 H).2.2.2.1)] (by kernel_rfl)
end Go.Proofs.YtimjjohlpnkacaaGreat
end

