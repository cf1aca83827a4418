/- Texts of the claim, merged by a program; what the statement does not reach is left out. -/
import Derived.Test.YtimjjohlpnkacaaGreatBWorkcodecDecodes8
import Derived.Lib.Strings
import Derived.Lib.Slices
import Derived.Lib.Walk
import Derived.Lib.Bytealg

section
/- What the reference's readers and decoders compute (printed by a program). -/
namespace Go.Proofs.YtimjjohlpnkacaaGreat
open Go.Pv
structure aC where
  v : Val
  iw : Bool
def aC.cells (x : aC) : List PV :=
  [iN x.v.kind, iN x.v.n, .str x.v.s, .sl (Val.rows x.v.list), .sl (Fld.rows x.v.fields), .bool x.iw]
def aC.rows (l : List aC) : List (List PV) := l.map aC.cells
def bd (r : aC) (b : Bool) : aC := ⟨r.v, r.iw || !b⟩
theorem Q9q (r : aC) (a b : Bool) : bd (bd r a) b = bd r (a && b) := by
  unfold bd
  simp only [Bool.not_and, Bool.or_assoc]
theorem v_bd (r : aC) (b : Bool) : (bd r b).v = r.v := rfl
theorem Q11g (v : Val) (b : Bool) : (bd ⟨v, false⟩ b).iw = !b := rfl
theorem Qf0 (v : Val) (b : Bool) : (!(bd ⟨v, false⟩ b).iw) = b := Bool.not_not b
theorem Qo3 (r : aC) : bd r true = r := by
  unfold bd
  rw [Bool.not_true, Bool.or_false]
theorem Q215 (v : Val) : ((Qq0 v).2 == 0) = (aY.dec v).2 := by
  unfold Qq0
  cases (aY.dec v).2 <;> rfl
theorem not_or (a b : Bool) : (!a || !b) = !(a && b) := by cases a <;> rfl
def Q66 (p1 : Bool) (o0 : aC) : aC := bd o0 p1
theorem Q2bx (p1 : Bool) (o0 : aC) : Q66 p1 o0 = (bif p1 then
    o0
  else
    (aC.mk o0.v true)) := by
  obtain ⟨v, b⟩ := o0
  unfold Q66 bd
  cases p1 <;> cases b <;> rfl
def Q28u (p1 : Bool) (o0 : aC) : En := .call 143 [.bx 0 0, .bool p1] [⟨6, 0, false, (aC.cells o0)⟩]
def Q2de (_p1 : Bool) (_o0 : aC) (q0 : aC) : Rs := .ret (.tup []) [⟨6, 0, false, (aC.cells q0)⟩]
def Q1y2 (p1 : Bool) (o0 : aC) : Rs := Q2de p1 o0 (Q66 p1 o0)
theorem Qg5 (p1 : Bool) (o0 : aC) : Q0 G (Q28u p1 o0) (Q1y2 p1 o0) := by
 unfold Q1y2
 rw [Q2bx]
 cases h0 : p1 with
 | true =>
  exact Q7 (fn := Ir.K4e) (by kernel_rfl) (h := [⟨6, 0, false, (aC.cells o0)⟩]) (vw := []) VOK.nil [] [] (by kernel_rfl)
 | false =>
  exact Q7 (fn := Ir.K4e) (by kernel_rfl) (h := [⟨6, 0, false, (aC.cells o0)⟩]) (vw := []) VOK.nil [] [] (by kernel_rfl)
def Qi (p1 : BA) (o0 : aC) : Int × aC := ((dN o0.v p1).1, bd o0 (dN o0.v p1).2)
theorem Q2c2 (p1 : BA) (o0 : aC) : Qi p1 o0 = (((Q1k o0.v p1).1, (Q66 (Q1k o0.v p1).2 o0))) := by
  rfl
def Q28z (p1 : BA) (o0 : aC) : En := .call 122 [.bx 0 0, .str p1] [⟨6, 0, false, (aC.cells o0)⟩]
def Q2dj (_p1 : BA) (_o0 : aC) (q0 : Int) (q1 : aC) : Rs := .ret (iN q0) [⟨6, 0, false, (aC.cells q1)⟩]
def Q1y7 (p1 : BA) (o0 : aC) : Rs := Q2dj p1 o0 (Qi p1 o0).1 (Qi p1 o0).2
def Q4w (o0 : aC) : Prop := Val.Sm 1000000000 o0.v
theorem Q1m0 (_p1 : BA) (o0 : aC) (H : Q4w o0) : (Qkc o0.v) ∧ True := by
  exact ⟨H, trivial⟩
theorem Q3e (p1 : BA) (o0 : aC) (H : Q4w o0) : Q0 G (Q28z p1 o0) (Q1y7 p1 o0) := by
 unfold Q1y7
 rw [Q2c2]
 exact Q7 (fn := Ir.K4j) (by kernel_rfl) (h := [⟨6, 0, false, (aC.cells o0)⟩]) (vw := []) VOK.nil [] [aN (Q7v o0.v p1 (Q1m0 p1 o0 H).1), aN (Qg5 (Q1k o0.v p1).2 o0)] (by kernel_rfl)
def Q4c (p1 : BA) (o0 : aC) : ByteArray × aC := ((dS o0.v p1).1, bd o0 (dS o0.v p1).2)
theorem Q2c4 (p1 : BA) (o0 : aC) : Q4c p1 o0 = (((Q1g o0.v p1).1, (Q66 (Q1g o0.v p1).2 o0))) := by
  rfl
def Q291 (p1 : BA) (o0 : aC) : En := .call 142 [.bx 0 0, .str p1] [⟨6, 0, false, (aC.cells o0)⟩]
def Q2dl (_p1 : BA) (_o0 : aC) (q0 : BA) (q1 : aC) : Rs := .ret (.str q0) [⟨6, 0, false, (aC.cells q1)⟩]
def Q1y9 (p1 : BA) (o0 : aC) : Rs := Q2dl p1 o0 (Q4c p1 o0).1 (Q4c p1 o0).2
def Q143 (o0 : aC) : Prop := Val.Sm 1000000000 o0.v
theorem Q1m2 (_p1 : BA) (o0 : aC) (H : Q143 o0) : (Qpr o0.v) ∧ True := by
  exact ⟨H, trivial⟩
theorem Qz5 (p1 : BA) (o0 : aC) (H : Q143 o0) : Q0 G (Q291 p1 o0) (Q1y9 p1 o0) := by
 unfold Q1y9
 rw [Q2c4]
 exact Q7 (fn := Ir.K4n) (by kernel_rfl) (h := [⟨6, 0, false, (aC.cells o0)⟩]) (vw := []) VOK.nil [] [aN (Q6a o0.v p1 (Q1m2 p1 o0 H).1), aN (Qg5 (Q1g o0.v p1).2 o0)] (by kernel_rfl)
def Q56 (p1 : BA) (o0 : aC) : Bool × aC := ((dB o0.v p1).1, bd o0 (dB o0.v p1).2)
theorem Q2by (p1 : BA) (o0 : aC) : Q56 p1 o0 = (((Q2r o0.v p1).1, (Q66 (Q2r o0.v p1).2 o0))) := by
  rfl
def Q28v (p1 : BA) (o0 : aC) : En := .call 128 [.bx 0 0, .str p1] [⟨6, 0, false, (aC.cells o0)⟩]
def Q2df (_p1 : BA) (_o0 : aC) (q0 : Bool) (q1 : aC) : Rs := .ret (.bool q0) [⟨6, 0, false, (aC.cells q1)⟩]
def Q1y3 (p1 : BA) (o0 : aC) : Rs := Q2df p1 o0 (Q56 p1 o0).1 (Q56 p1 o0).2
def Qwd (o0 : aC) : Prop := Val.Sm 1000000000 o0.v
theorem Q1ly (_p1 : BA) (o0 : aC) (H : Qwd o0) : (Q140 o0.v) ∧ True := by
  exact ⟨H, trivial⟩
theorem Qpj (p1 : BA) (o0 : aC) (H : Qwd o0) : Q0 G (Q28v p1 o0) (Q1y3 p1 o0) := by
 unfold Q1y3
 rw [Q2by]
 exact Q7 (fn := Ir.K4f) (by kernel_rfl) (h := [⟨6, 0, false, (aC.cells o0)⟩]) (vw := []) VOK.nil [] [aN (Qpg o0.v p1 (Q1ly p1 o0 H).1), aN (Qg5 (Q2r o0.v p1).2 o0)] (by kernel_rfl)
def Q1c (p1 : BA) (o0 : aC) : (List Val) × aC := ((dL o0.v p1).1, bd o0 (dL o0.v p1).2)
theorem Q2c1 (p1 : BA) (o0 : aC) : Q1c p1 o0 = (((Qd o0.v p1).1, (Q66 (Qd o0.v p1).2 o0))) := by
  rfl
def Q28y (p1 : BA) (o0 : aC) : En := .call 140 [.bx 0 0, .str p1] [⟨6, 0, false, (aC.cells o0)⟩]
def Q2di (_p1 : BA) (_o0 : aC) (q0 : List Val) (q1 : aC) : Rs := .ret (.sl (Val.rows q0)) [⟨6, 0, false, (aC.cells q1)⟩]
def Q1y6 (p1 : BA) (o0 : aC) : Rs := Q2di p1 o0 (Q1c p1 o0).1 (Q1c p1 o0).2
def Q142 (o0 : aC) : Prop := Val.Sm 1000000000 o0.v
theorem Q1lz (_p1 : BA) (o0 : aC) (H : Q142 o0) : (Qgo o0.v) ∧ True := by
  exact ⟨H, trivial⟩
theorem Q13w (p1 : BA) (o0 : aC) (H : Q142 o0) : Q0 G (Q28y p1 o0) (Q1y6 p1 o0) := by
 unfold Q1y6
 rw [Q2c1]
 exact Q7 (fn := Ir.K4i) (by kernel_rfl) (h := [⟨6, 0, false, (aC.cells o0)⟩]) (vw := []) VOK.nil [] [aN (Qfi o0.v p1 (Q1lz p1 o0 H).1), aN (Qg5 (Qd o0.v p1).2 o0)] (by kernel_rfl)
def Q3u (p0 : Val) : aC := bd ⟨p0, false⟩ (isM p0)
theorem Q2bu (p0 : Val) : Q3u p0 = ((aC.mk p0 (!(Q2z p0)))) := by
  rfl
def Q28r (p0 : Val) : En := .call 141 [.agg (Val.cells p0)] []
def Q2db (_p0 : Val) (q0 : aC) : Rs := .ret (.bx 0 0) [⟨6, 0, true, (aC.cells q0)⟩]
def Q1xz (p0 : Val) : Rs := Q2db p0 (Q3u p0)
theorem Q15c (p0 : Val) : Q0 G (Q28r p0) (Q1xz p0) := by
 unfold Q1xz
 rw [Q2bu]
 exact Q7 (fn := Ir.K4b) (by kernel_rfl) VOK.nil [] [aN (Q9w p0)] (by kernel_rfl)
def Qcf (p1 : BA) (o0 : aC) : aC := bd ⟨prt o0.v p1, false⟩ (isM (prt o0.v p1))
theorem Q2c5 (p1 : BA) (o0 : aC) : Qcf p1 o0 = ((Q3u (Q3t o0.v p1))) := by
  rfl
def Q292 (p1 : BA) (o0 : aC) : En := .call 131 [.bx 0 0, .str p1] [⟨6, 0, false, (aC.cells o0)⟩]
def Q2dm (_p1 : BA) (o0 : aC) (q0 : aC) : Rs := .ret (.bx 1 0) [⟨6, 0, false, (aC.cells o0)⟩, ⟨6, 0, true, (aC.cells q0)⟩]
def Q1ya (p1 : BA) (o0 : aC) : Rs := Q2dm p1 o0 (Qcf p1 o0)
def Q144 (o0 : aC) : Prop := Val.Sm 1000000000 o0.v
theorem Q1m3 (_p1 : BA) (o0 : aC) (H : Q144 o0) : (Qpq o0.v) ∧ True := by
  exact ⟨H, trivial⟩
theorem Qpk (p1 : BA) (o0 : aC) (H : Q144 o0) : Q0 G (Q292 p1 o0) (Q1ya p1 o0) := by
 unfold Q1ya
 rw [Q2c5]
 exact Q7 (fn := Ir.K4o) (by kernel_rfl) (h := [⟨6, 0, false, (aC.cells o0)⟩]) (vw := []) VOK.nil [] [aN (Qci o0.v p1 (Q1m3 p1 o0 H).1), aN (Q15c (Q3t o0.v p1))] (by kernel_rfl)
def Qao (o0 : aC) : (List au) × aC := ((dE au.rdec o0.v Q6).1, bd o0 (dE au.rdec o0.v Q6).2)
theorem Q2c3 (o0 : aC) : Qao o0 = (((Q42 o0.v Q6).1, (Q66 (Q42 o0.v Q6).2 o0))) := by
  rfl
def Q290 (o0 : aC) : En := .call 123 [.bx 0 0] [⟨6, 0, false, (aC.cells o0)⟩]
def Q2dk (_o0 : aC) (q0 : List au) (q1 : aC) : Rs := .ret (.sl (au.rows q0)) [⟨6, 0, false, (aC.cells q1)⟩]
def Q1y8 (o0 : aC) : Rs := Q2dk o0 (Qao o0).1 (Qao o0).2
def Q1ko (o0 : aC) : Prop := Val.Sm 1000000000 o0.v
theorem Q1m1 (o0 : aC) (H : Q1ko o0) : (Q13z o0.v) ∧ True := by
  exact ⟨H, trivial⟩
theorem Q1n4 (o0 : aC) (H : Q1ko o0) : Q0 G (Q290 o0) (Q1y8 o0) := by
 unfold Q1y8
 rw [Q2c3]
 exact Q7 (fn := Ir.K4m) (by kernel_rfl) (h := [⟨6, 0, false, (aC.cells o0)⟩]) (vw := []) VOK.nil [] [aN (Qz3 o0.v Q6 (Q1m1 o0 H).1), aN (Qg5 (Q42 o0.v Q6).2 o0)] (by kernel_rfl)
def Qap (o0 : aC) : aY × aC := ((tD o0.v Q17).1, bd o0 (tD o0.v Q17).2)
theorem Q2c6 (o0 : aC) : Qap o0 = (((Q13o (Q3t o0.v Q17)).1, (Q66 ((Q13o (Q3t o0.v Q17)).2 == 0) o0))) := by
  unfold Qap Q66 Q13o Q3t
  rw [Q215]
  rfl
def Q293 (o0 : aC) : En := .call 124 [.bx 0 0] [⟨6, 0, false, (aC.cells o0)⟩]
def Q2dn (_o0 : aC) (q0 : aY) (q1 : aC) : Rs := .ret (.agg (aY.cells q0)) [⟨6, 0, false, (aC.cells q1)⟩]
def Q1yb (o0 : aC) : Rs := Q2dn o0 (Qap o0).1 (Qap o0).2
def Q1kp (o0 : aC) : Prop := Val.Sm 1000000000 o0.v
theorem Q17x (o0 : aC) (H : Q1kp o0) : (Qpq o0.v) ∧ (Q1pu (Q3t o0.v Q17)) ∧ True := by
  exact ⟨H, Qg H _, trivial⟩
theorem Q1rf (o0 : aC) (H : Q1kp o0) : Q0 G (Q293 o0) (Q1yb o0) := by
 unfold Q1yb
 rw [Q2c6]
 exact Q7 (fn := Ir.K4p) (by kernel_rfl) (h := [⟨6, 0, false, (aC.cells o0)⟩]) (vw := []) VOK.nil [] [aN (Qci o0.v Q17 (Q17x o0 H).1), aN (Q2fs (Q3t o0.v Q17) (Q17x o0 H).2.1), aN (Qg5 ((Q13o (Q3t o0.v Q17)).2 == 0) o0)] (by kernel_rfl)
def Q52 (o0 : aC) (o1 : aC) : aL × aC × aC := ((aL.dec o1.v).1, bd o0 (!(bd o1 ((dB o1.v Q30).2 && (dN o1.v kw_n).2)).iw), bd o1 ((dB o1.v Q30).2 && (dN o1.v kw_n).2))
theorem Q2bv (o0 : aC) (o1 : aC) : Q52 o0 o1 = (((aL.mk (Q56 Q30 o1).1 (Qi kw_n (Q56 Q30 o1).2).1), (Q66 (!(Qi kw_n (Q56 Q30 o1).2).2.iw) o0), (Qi kw_n (Q56 Q30 o1).2).2)) := by
  simp only [Qi, Q56, Q66, Q52, Q9q, v_bd]
  rfl
def Q28s (o0 : aC) (o1 : aC) : En := .call 130 [.bx 0 0, .bx 1 0] [⟨6, 0, false, (aC.cells o0)⟩, ⟨6, 0, false, (aC.cells o1)⟩]
def Q2dc (_o0 : aC) (_o1 : aC) (q0 : aL) (q1 : aC) (q2 : aC) : Rs := .ret (.agg (aL.cells q0)) [⟨6, 0, false, (aC.cells q1)⟩, ⟨6, 0, false, (aC.cells q2)⟩]
def Q1y0 (o0 : aC) (o1 : aC) : Rs := Q2dc o0 o1 (Q52 o0 o1).1 (Q52 o0 o1).2.1 (Q52 o0 o1).2.2
def Q141 (o1 : aC) : Prop := Val.Sm 1000000000 o1.v
theorem Q17u (_o0 : aC) (o1 : aC) (H : Q141 o1) : (Qwd o1) ∧ (Q4w (Q56 Q30 o1).2) ∧ True := by
  repeat' with_reducible apply And.intro
  all_goals first | exact True.intro | exact H
theorem Qz4 (o0 : aC) (o1 : aC) (H : Q141 o1) : Q0 G (Q28s o0 o1) (Q1y0 o0 o1) := by
 unfold Q1y0
 rw [Q2bv]
 exact Q7 (fn := Ir.K4c) (by kernel_rfl) (h := [⟨6, 0, false, (aC.cells o0)⟩, ⟨6, 0, false, (aC.cells o1)⟩]) (vw := []) VOK.nil [] [aN (Qpj Q30 o1 (Q17u o0 o1 H).1), aN (Q3e kw_n (Q56 Q30 o1).2 (Q17u o0 o1 H).2.1), aN (Qg5 (!(Qi kw_n (Q56 Q30 o1).2).2.iw) o0)] (by kernel_rfl)
def Q6m (p1 : BA) (o0 : aC) : List Val → Nat → aC → (List aL) → aC × (List aL)
 | [], _i0, ah, ay =>
  (ah, ay)
 | x0 :: r0, i0, ah, ay =>
  Q6m p1 o0 r0 (i0 + 1) (Q52 ah (Q3u x0)).2.1 (ay ++ [(Q52 ah (Q3u x0)).1])
def Q1fz (p1 : BA) (o0 : aC) (i0 : Nat) (_ah : aC) (ay : List aL) : List PV :=
  [.bx 0 0, .un, .un, .un, .un, .ms 1 2 0 (List.length ay), .sl (Val.rows (Q1c p1 o0).1), iN (i0 : Int)] ++ nuns 20
def Q105 (_p1 : BA) (_o0 : aC) (_i0 : Nat) (ah : aC) (ay : List aL) : List Ob :=
  [⟨6, 0, false, (aC.cells ah)⟩, ⟨2, 0, true, (aL.rows ay).flatten⟩]
def Qhr (p1 : BA) (o0 : aC) (i0 : Nat) (ah : aC) (ay : List aL) : En := .loop 1 Ir.Qlt Ir.Q1oe (Q1fz p1 o0 i0 ah ay) (Q105 p1 o0 i0 ah ay)
def Qsy (_p1 : BA) (_o0 : aC) (q0 : aC) (q1 : List aL) (z : Nat → PV) (_zo : Nat → List PV) : St :=
  ⟨zr z 0 5 ++ [.ms 1 2 0 (List.length q1)] ++ zr z 6 22, [(0, ⟨6, 0, false, (aC.cells q0)⟩), (1, ⟨2, 0, true, (aL.rows q1).flatten⟩)], 258⟩
theorem Q16k (p1 : BA) (o0 : aC) (i0 : Nat) (ah : aC) (ay : List aL) : VOK (Go.Pv.look (number 0 (Q105 p1 o0 i0 ah ay))) [(1, aL.rows ay)] := (VOK.cons (show Seen _ _ from Q4a (ob := ⟨2, 0, true, (aL.rows ay).flatten⟩) (aL.Q8 ay 2 rfl)) VOK.nil)
def Qjm (p1 : BA) (o0 : aC) (e : En) (q : aC × (List aL)) : Prop := ∃ z zo, Q0 G e (.st (.exit 0) (Qsy p1 o0 q.1 q.2 z zo))
theorem Qxe (p1 : BA) (o0 : aC) {e e' : En} (h : ∀ r, Q0 G e r → Q0 G e' r) : ∀ q, Qjm p1 o0 e q → Qjm p1 o0 e' q
  | _, ⟨z, zo, hz⟩ => ⟨z, zo, h _ hz⟩
def Qe1 (p1 : BA) (o0 : aC) : Prop := (List.length (Q1c p1 o0).1 ≤ 137438953472) ∧ (∀ x0 ∈ (Q1c p1 o0).1, Q141 (Q3u x0)) ∧ True
def Qv0 (p1 : BA) (o0 : aC) (i0 : Nat) (_ah : aC) (_ay : List aL) : List PV :=
  [.bx 0 0] ++ nuns 5 ++ [.sl (Val.rows (Q1c p1 o0).1), iN (i0 : Int), .un, .un, .un, iN (i0 : Int), .sl (Val.rows (Q1c p1 o0).1), iN ((List.length (Q1c p1 o0).1) : Int), .bool false]
def Qno (_p1 : BA) (_o0 : aC) (_i0 : Nat) (_ah : aC) (_ay : List aL) : List (Nat × List PV) :=
  []
theorem Q1ee (p1 : BA) (o0 : aC) (_H : Qe1 p1 o0) (i0 : Nat) (ah : aC) (ay : List aL) (_aP : List.length ay ≤ i0) (bC : (decide ((i0 : Int) < ((List.length (Q1c p1 o0).1) : Int))) = false) : Qjm p1 o0 (Qhr p1 o0 i0 ah ay) (ah, ay) := by
 exact ⟨(envF (Qv0 p1 o0 i0 ah ay)), (zoF (Qno p1 o0 i0 ah ay)), Qh (Q16k p1 o0 i0 ah ay) (x := ((.exit 0), Qsy p1 o0 ah ay (envF (Qv0 p1 o0 i0 ah ay)) (zoF (Qno p1 o0 i0 ah ay)))) [hP 2 (Qs _ _ (Val.Q5 (Q1c p1 o0).1)), hB 0 bC] [] (by kernel_rfl)⟩
theorem Q1c4 (p1 : BA) (o0 : aC) (H : Qe1 p1 o0) (x0 : Val) (i0 : Nat) (ah : aC) (ay : List aL) (bF : (Q1c p1 o0).1[i0]? = some x0) (bR : i0 < List.length (Q1c p1 o0).1) (aP : List.length ay ≤ i0) (bC : (decide ((i0 : Int) < ((List.length (Q1c p1 o0).1) : Int))) = true) {r : Rs} (hr : Q0 G (Qhr p1 o0 (i0 + 1) (Q52 ah (Q3u x0)).2.1 (ay ++ [(Q52 ah (Q3u x0)).1])) r) : Q0 G (Qhr p1 o0 i0 ah ay) r := by
 have hB0 := H.1
 exact Qc (Q16k p1 o0 i0 ah ay) [hP 2 (Qs _ _ (Val.Q5 (Q1c p1 o0).1)), hB 0 bC, hP 4 (Q1l 5 _ i0 _ (Val.Qb bF) rfl), hA 4 1 770 834 2 16 0 0 true aL.Q5 aL.Q1n ay (Q52 ah (Q3u x0)).1 (aL.Qw ay) rfl rfl (by omega), hS 0 true (aL.Q8 (ay ++ [(Q52 ah (Q3u x0)).1]) 2 rfl), hP 2 (Q26 i0 (by omega))] [aN (Q15c x0), aN (Qz4 ah (Q3u x0) (H.2.1 x0 (Q1i bF)))] hr (by kernel_rfl)
theorem Q12y (p1 : BA) (o0 : aC) (H : Qe1 p1 o0) : ∀ (r0 : List Val) (i0 : Nat) (ah : aC) (ay : List aL), List.drop i0 (Q1c p1 o0).1 = r0 → List.length ay ≤ i0 → Qjm p1 o0 (Qhr p1 o0 i0 ah ay) (Q6m p1 o0 r0 i0 ah ay)
 | [], i0, ah, ay, hd, aP => by
  have bC : (decide ((i0 : Int) < ((List.length (Q1c p1 o0).1) : Int))) = false := by have := Q1o hd; simp; omega
  rw [Q6m]
  exact Q1ee p1 o0 H i0 ah ay aP bC
 | x0 :: r0, i0, ah, ay, hd, aP => by
  obtain ⟨bF, bR, hd'⟩ := Q1p hd
  have bC : (decide ((i0 : Int) < ((List.length (Q1c p1 o0).1) : Int))) = true := by simp; omega
  rw [Q6m]
  exact Qxe p1 o0 (fun r hr => Q1c4 p1 o0 H x0 i0 ah ay bF bR aP bC hr) _ (Q12y p1 o0 H r0 _ _ _ hd' (by first | omega | (simp; omega)))
def Q9l (p1 : BA) (o0 : aC) : (List aL) × aC := ((dE aL.dec o0.v p1).1, bd o0 (dE aL.dec o0.v p1).2)
theorem Q19k (p1 : BA) (o0 : aC) : ∀ (l : List Val) (i : Nat) (b : aC) (a : List aL), Q6m p1 o0 l i b a = (bd b (l.all fun x => (aL.dec x).2), a ++ l.map (fun x => (aL.dec x).1))
  | [], _, b, a => by rw [Q6m, List.map_nil, List.append_nil, List.all_nil, Qo3]
  | x :: l, i, b, a => by
    rw [Q6m]
    refine Eq.trans ?_ ((Q19k p1 o0 l (i + 1) (bd b (aL.dec x).2) (a ++ [(aL.dec x).1])).trans (by rw [Q9q]; simp only [List.append_assoc, List.singleton_append, List.map_cons, List.all_cons]))
    simp only [Q3u, Q52, Q9q, v_bd, Qf0]
    have e : ((isM x) && ((dB x Q30).2 && (dN x kw_n).2)) = (aL.dec x).2 := by simp only [aL.dec, Bool.and_left_comm, Bool.and_comm]
    rw [e]
theorem Q2bw (p1 : BA) (o0 : aC) : Q9l p1 o0 = (((Q6m p1 o0 (Q1c p1 o0).1 0 (Q1c p1 o0).2 []).2, (Q6m p1 o0 (Q1c p1 o0).1 0 (Q1c p1 o0).2 []).1)) := by
  rw [Q19k]
  simp only [Q1c, Q9q]
  rfl
def Q28t (p1 : BA) (o0 : aC) : En := .call 162 [.bx 0 0, .str p1] [⟨6, 0, false, (aC.cells o0)⟩]
def Q2dd (_p1 : BA) (_o0 : aC) (q0 : List aL) (q1 : aC) : Rs := .ret (.sl (aL.rows q0)) [⟨6, 0, false, (aC.cells q1)⟩]
def Q1y1 (p1 : BA) (o0 : aC) : Rs := Q2dd p1 o0 (Q9l p1 o0).1 (Q9l p1 o0).2
def Q1km (o0 : aC) : Prop := Val.Sm 1000000000 o0.v
theorem Q17v (p1 : BA) (o0 : aC) (H : Q1km o0) : (Q142 o0) ∧ (Qe1 p1 o0) ∧ True := by
  have hl := Q71 (Qg H p1)
  have g : ∀ x ∈ (dL o0.v p1).1, Val.Sm sB x := hl.2
  refine ⟨H, ?_, trivial⟩
  unfold Qe1
  refine ⟨Nat.le_trans hl.1 (Nat.le_of_ble_eq_true rfl), ?_⟩
  repeat' with_reducible apply And.intro
  all_goals first | exact True.intro | exact g
theorem Q1n3 (p1 : BA) (o0 : aC) (H : Q1km o0) : Q0 G (Q28t p1 o0) (Q1y1 p1 o0) := by
 unfold Q1y1
 rw [Q2bw]
 have hl0 := Q12y p1 o0 ((Q17v p1 o0 H).2.1) (Q1c p1 o0).1 0 (Q1c p1 o0).2 [] (by simp) (by simp)
 obtain ⟨z0, fA, hl0⟩ := hl0
 exact Q7 (fn := Ir.K4d) (by kernel_rfl) (h := [⟨6, 0, false, (aC.cells o0)⟩]) (vw := []) VOK.nil [hS 0 true (aL.Q8 (Q6m p1 o0 (Q1c p1 o0).1 0 (Q1c p1 o0).2 []).2 2 rfl), hQ (aL.Q5 (Q6m p1 o0 (Q1c p1 o0).1 0 (Q1c p1 o0).2 []).2).symm] [aN (Q13w p1 o0 (Q17v p1 o0 H).1), aV [(1, aL.rows (Q6m p1 o0 (Q1c p1 o0).1 0 (Q1c p1 o0).2 []).2)] hl0] (by kernel_rfl)
def Q13q (p1 : BA) (o0 : aC) : bq × aC := ((bq.dec (prt o0.v p1)).1, bd o0 (bq.dec (prt o0.v p1)).2)
def Q65 (p1 : BA) (o0 : aC) : List Val → Nat → aC → (List Int) → aC × (List Int)
 | [], _i0, ah, ay =>
  (ah, ay)
 | x0 :: r0, i0, ah, ay =>
  bif (x0.kind == 2) then
   Q65 p1 o0 r0 (i0 + 1) (Q66 true ah) (ay ++ [x0.n])
  else
   Q65 p1 o0 r0 (i0 + 1) (Q66 (x0.kind == 0) ah) (ay ++ [0])
def Q1g0 (p1 : BA) (o0 : aC) (i0 : Nat) (_ah : aC) (ay : List Int) : List PV :=
  [.bx 0 0, .un, .un, .un, .un, .ms 1 1 0 (List.length ay), .sl (Val.rows (Q1c p1 o0).1), iN (i0 : Int)] ++ nuns 42
def Q106 (_p1 : BA) (_o0 : aC) (_i0 : Nat) (ah : aC) (ay : List Int) : List Ob :=
  [⟨6, 0, false, (aC.cells ah)⟩, ⟨1, 0, true, (Q43 ay).flatten⟩]
def Qbm (p1 : BA) (o0 : aC) (i0 : Nat) (ah : aC) (ay : List Int) : En := .loop 1 Ir.Qlu Ir.Q1of (Q1g0 p1 o0 i0 ah ay) (Q106 p1 o0 i0 ah ay)
def Qsz (_p1 : BA) (_o0 : aC) (q0 : aC) (q1 : List Int) (z : Nat → PV) (_zo : Nat → List PV) : St :=
  ⟨zr z 0 5 ++ [.ms 1 1 0 (List.length q1)] ++ zr z 6 44, [(0, ⟨6, 0, false, (aC.cells q0)⟩), (1, ⟨1, 0, true, (Q43 q1).flatten⟩)], 258⟩
theorem Qy7 (p1 : BA) (o0 : aC) (i0 : Nat) (ah : aC) (ay : List Int) : VOK (Go.Pv.look (number 0 (Q106 p1 o0 i0 ah ay))) [(1, Q43 ay)] := (VOK.cons (show Seen _ _ from Q4a (ob := ⟨1, 0, true, (Q43 ay).flatten⟩) (Q6x ay 1 rfl)) VOK.nil)
def Qjn (p1 : BA) (o0 : aC) (e : En) (q : aC × (List Int)) : Prop := ∃ z zo, Q0 G e (.st (.exit 0) (Qsz p1 o0 q.1 q.2 z zo))
theorem Qem (p1 : BA) (o0 : aC) {e e' : En} (h : ∀ r, Q0 G e r → Q0 G e' r) : ∀ q, Qjn p1 o0 e q → Qjn p1 o0 e' q
  | _, ⟨z, zo, hz⟩ => ⟨z, zo, h _ hz⟩
def Qbv (p1 : BA) (o0 : aC) : Prop := (List.length (Q1c p1 o0).1 ≤ 137438953472) ∧ True
def Qv1 (p1 : BA) (o0 : aC) (i0 : Nat) (_ah : aC) (_ay : List Int) : List PV :=
  [.bx 0 0] ++ nuns 5 ++ [.sl (Val.rows (Q1c p1 o0).1), iN (i0 : Int), .un, .un, .un, .un, iN (i0 : Int), .sl (Val.rows (Q1c p1 o0).1), iN ((List.length (Q1c p1 o0).1) : Int), .bool false]
def Qnp (_p1 : BA) (_o0 : aC) (_i0 : Nat) (_ah : aC) (_ay : List Int) : List (Nat × List PV) :=
  []
theorem Q1ef (p1 : BA) (o0 : aC) (_H : Qbv p1 o0) (i0 : Nat) (ah : aC) (ay : List Int) (_aP : List.length ay ≤ i0) (bC : (decide ((i0 : Int) < ((List.length (Q1c p1 o0).1) : Int))) = false) : Qjn p1 o0 (Qbm p1 o0 i0 ah ay) (ah, ay) := by
 exact ⟨(envF (Qv1 p1 o0 i0 ah ay)), (zoF (Qnp p1 o0 i0 ah ay)), Qh (Qy7 p1 o0 i0 ah ay) (x := ((.exit 0), Qsz p1 o0 ah ay (envF (Qv1 p1 o0 i0 ah ay)) (zoF (Qnp p1 o0 i0 ah ay)))) [hP 2 (Qs _ _ (Val.Q5 (Q1c p1 o0).1)), hB 0 bC] [] (by kernel_rfl)⟩
theorem Q1c5 (p1 : BA) (o0 : aC) (H : Qbv p1 o0) (x0 : Val) (i0 : Nat) (ah : aC) (ay : List Int) (bF : (Q1c p1 o0).1[i0]? = some x0) (bR : i0 < List.length (Q1c p1 o0).1) (aP : List.length ay ≤ i0) (bC : (decide ((i0 : Int) < ((List.length (Q1c p1 o0).1) : Int))) = true) (h0 : (x0.kind == 2) = true) {r : Rs} (hr : Q0 G (Qbm p1 o0 (i0 + 1) (Q66 true ah) (ay ++ [x0.n])) r) : Q0 G (Qbm p1 o0 i0 ah ay) r := by
 have hB0 := H.1; have e0 := eq_of_beq h0
 exact Qc (Qy7 p1 o0 i0 ah ay) [hP 2 (Qs _ _ (Val.Q5 (Q1c p1 o0).1)), hB 0 bC, hP 3 (Q1l 5 _ i0 _ (Val.Qb bF) rfl), hB 2 h0, hP 2 (Q1l 5 _ i0 _ (Val.Qb bF) rfl), hP 6 (Q1l 5 _ i0 _ (Val.Qb bF) rfl), hB 2 h0, hA 12 1 2242 2306 1 8 0 0 true Q7j Qd4 ay x0.n (Qae ay) rfl rfl (by omega), hS 0 true (Q6x (ay ++ [x0.n]) 1 rfl), hP 2 (Q26 i0 (by omega))] [aN (Qg5 true ah)] hr (by kernel_rfl)
theorem Q1c6 (p1 : BA) (o0 : aC) (H : Qbv p1 o0) (x0 : Val) (i0 : Nat) (ah : aC) (ay : List Int) (bF : (Q1c p1 o0).1[i0]? = some x0) (bR : i0 < List.length (Q1c p1 o0).1) (aP : List.length ay ≤ i0) (bC : (decide ((i0 : Int) < ((List.length (Q1c p1 o0).1) : Int))) = true) (h0 : (x0.kind == 2) = false) {r : Rs} (hr : Q0 G (Qbm p1 o0 (i0 + 1) (Q66 (x0.kind == 0) ah) (ay ++ [0])) r) : Q0 G (Qbm p1 o0 i0 ah ay) r := by
 have hB0 := H.1; have e0 := beq_eq_false_iff_ne.1 h0
 exact Qc (Qy7 p1 o0 i0 ah ay) [hP 2 (Qs _ _ (Val.Q5 (Q1c p1 o0).1)), hB 0 bC, hP 3 (Q1l 5 _ i0 _ (Val.Qb bF) rfl), hB 2 h0, hP 3 (Q1l 5 _ i0 _ (Val.Qb bF) rfl), hB 2 h0, hP 3 (Q1l 5 _ i0 _ (Val.Qb bF) rfl), hA 8 1 1858 1922 1 8 0 0 true Q7j Qd4 ay 0 (Qae ay) rfl rfl (by omega), hS 0 true (Q6x (ay ++ [0]) 1 rfl), hP 2 (Q26 i0 (by omega))] [aN (Qg5 (x0.kind == 0) ah)] hr (by kernel_rfl)
theorem Qow (p1 : BA) (o0 : aC) (H : Qbv p1 o0) : ∀ (r0 : List Val) (i0 : Nat) (ah : aC) (ay : List Int), List.drop i0 (Q1c p1 o0).1 = r0 → List.length ay ≤ i0 → Qjn p1 o0 (Qbm p1 o0 i0 ah ay) (Q65 p1 o0 r0 i0 ah ay)
 | [], i0, ah, ay, hd, aP => by
  have bC : (decide ((i0 : Int) < ((List.length (Q1c p1 o0).1) : Int))) = false := by have := Q1o hd; simp; omega
  rw [Q65]
  exact Q1ef p1 o0 H i0 ah ay aP bC
 | x0 :: r0, i0, ah, ay, hd, aP => by
  obtain ⟨bF, bR, hd'⟩ := Q1p hd
  have bC : (decide ((i0 : Int) < ((List.length (Q1c p1 o0).1) : Int))) = true := by simp; omega
  rw [Q65]
  cases h0 : (x0.kind == 2) with
  | true =>
   have e0 := eq_of_beq h0
   exact Qem p1 o0 (fun r hr => Q1c5 p1 o0 H x0 i0 ah ay bF bR aP bC h0 hr) _ (Qow p1 o0 H r0 _ _ _ hd' (by first | omega | (simp; omega)))
  | false =>
   have e0 := beq_eq_false_iff_ne.1 h0
   exact Qem p1 o0 (fun r hr => Q1c6 p1 o0 H x0 i0 ah ay bF bR aP bC h0 hr) _ (Qow p1 o0 H r0 _ _ _ hd' (by first | omega | (simp; omega)))
def Qg2 (p1 : BA) (o0 : aC) : (List Int) × aC := ((dE xN o0.v p1).1, bd o0 (dE xN o0.v p1).2)
theorem Q19l (p1 : BA) (o0 : aC) : ∀ (l : List Val) (i : Nat) (b : aC) (a : List Int), Q65 p1 o0 l i b a = (bd b (l.all fun x => (xN x).2), a ++ l.map (fun x => (xN x).1))
  | [], _, b, a => by rw [Q65, List.map_nil, List.append_nil, List.all_nil, Qo3]
  | x :: l, i, b, a => by
    rw [Q65]
    refine Eq.trans ?_ ((Q19l p1 o0 l (i + 1) (bd b (xN x).2) (a ++ [(xN x).1])).trans (by rw [Q9q]; simp only [List.append_assoc, List.singleton_append, List.map_cons, List.all_cons]))
    simp only [Q66]
    unfold xN
    cases (x.kind == 2) <;> cases (x.kind == 0) <;> rfl
theorem Q2bz (p1 : BA) (o0 : aC) : Qg2 p1 o0 = (((Q65 p1 o0 (Q1c p1 o0).1 0 (Q1c p1 o0).2 []).2, (Q65 p1 o0 (Q1c p1 o0).1 0 (Q1c p1 o0).2 []).1)) := by
  rw [Q19l]
  simp only [Q1c, Q9q]
  rfl
def Q28w (p1 : BA) (o0 : aC) : En := .call 159 [.bx 0 0, .str p1] [⟨6, 0, false, (aC.cells o0)⟩]
def Q2dg (_p1 : BA) (_o0 : aC) (q0 : List Int) (q1 : aC) : Rs := .ret (.sl (Q43 q0)) [⟨6, 0, false, (aC.cells q1)⟩]
def Q1y4 (p1 : BA) (o0 : aC) : Rs := Q2dg p1 o0 (Qg2 p1 o0).1 (Qg2 p1 o0).2
def Q1q3 (o0 : aC) : Prop := Val.Sm 1000000000 o0.v
theorem Q17w (p1 : BA) (o0 : aC) (H : Q1q3 o0) : (Q142 o0) ∧ (Qbv p1 o0) ∧ True := by
  have hl := Q71 (Qg H p1)
  have g : ∀ x ∈ (dL o0.v p1).1, Val.Sm sB x := hl.2
  refine ⟨H, ?_, trivial⟩
  unfold Qbv
  refine ⟨Nat.le_trans hl.1 (Nat.le_of_ble_eq_true rfl), ?_⟩
  repeat' with_reducible apply And.intro
  all_goals first | exact True.intro | exact g
theorem Q20t (p1 : BA) (o0 : aC) (H : Q1q3 o0) : Q0 G (Q28w p1 o0) (Q1y4 p1 o0) := by
 unfold Q1y4
 rw [Q2bz]
 have hl0 := Qow p1 o0 ((Q17w p1 o0 H).2.1) (Q1c p1 o0).1 0 (Q1c p1 o0).2 [] (by simp) (by simp)
 obtain ⟨z0, fA, hl0⟩ := hl0
 exact Q7 (fn := Ir.K4g) (by kernel_rfl) (h := [⟨6, 0, false, (aC.cells o0)⟩]) (vw := []) VOK.nil [hS 0 true (Q6x (Q65 p1 o0 (Q1c p1 o0).1 0 (Q1c p1 o0).2 []).2 1 rfl), hQ (Q7j (Q65 p1 o0 (Q1c p1 o0).1 0 (Q1c p1 o0).2 []).2).symm] [aN (Q13w p1 o0 (Q17w p1 o0 H).1), aV [(1, Q43 (Q65 p1 o0 (Q1c p1 o0).1 0 (Q1c p1 o0).2 []).2)] hl0] (by kernel_rfl)
def Q13p (o0 : aC) : (List bP) × aC := ((dE bP.dec o0.v Qaf).1, bd o0 (dE bP.dec o0.v Qaf).2)
def Qfe (o0 : aC) : bf × aC := ((bf.dec o0.v).1, bd o0 ((dN o0.v Qr).2 && (dN o0.v Qf).2 && (dN o0.v Q27).2 && (dN o0.v Q14).2 && (dN o0.v Q2c).2 && (dN o0.v Q31).2 && (dB o0.v Q2o).2))
theorem Q2c7 (o0 : aC) : Qfe o0 = (((bf.mk (Qi Qr o0).1 (Qi Qf (Qi Qr o0).2).1 (Qi Q27 (Qi Qf (Qi Qr o0).2).2).1 (Qi Q14 (Qi Q27 (Qi Qf (Qi Qr o0).2).2).2).1 (Qi Q2c (Qi Q14 (Qi Q27 (Qi Qf (Qi Qr o0).2).2).2).2).1 (Qi Q31 (Qi Q2c (Qi Q14 (Qi Q27 (Qi Qf (Qi Qr o0).2).2).2).2).2).1 (Q56 Q2o (Qi Q31 (Qi Q2c (Qi Q14 (Qi Q27 (Qi Qf (Qi Qr o0).2).2).2).2).2).2).1), (Q56 Q2o (Qi Q31 (Qi Q2c (Qi Q14 (Qi Q27 (Qi Qf (Qi Qr o0).2).2).2).2).2).2).2)) := by
  simp only [Qi, Q56, Qfe, Q9q, v_bd]
  refine Prod.ext rfl (congrArg (bd o0) ?_)
  simp only [Bool.and_left_comm, Bool.and_comm]
def Q294 (o0 : aC) : En := .call 125 [.bx 0 0] [⟨6, 0, false, (aC.cells o0)⟩]
def Q2do (_o0 : aC) (q0 : bf) (q1 : aC) : Rs := .ret (.agg (bf.cells q0)) [⟨6, 0, false, (aC.cells q1)⟩]
def Q1yc (o0 : aC) : Rs := Q2do o0 (Qfe o0).1 (Qfe o0).2
def Q1q4 (o0 : aC) : Prop := Val.Sm 1000000000 o0.v
theorem Qaa (o0 : aC) (H : Q1q4 o0) : (Q4w o0) ∧ (Q4w (Qi Qr o0).2) ∧ (Q4w (Qi Qf (Qi Qr o0).2).2) ∧ (Q4w (Qi Q27 (Qi Qf (Qi Qr o0).2).2).2) ∧ (Q4w (Qi Q14 (Qi Q27 (Qi Qf (Qi Qr o0).2).2).2).2) ∧ (Q4w (Qi Q2c (Qi Q14 (Qi Q27 (Qi Qf (Qi Qr o0).2).2).2).2).2) ∧ (Qwd (Qi Q31 (Qi Q2c (Qi Q14 (Qi Q27 (Qi Qf (Qi Qr o0).2).2).2).2).2).2) ∧ True := by
  repeat' with_reducible apply And.intro
  all_goals first | exact True.intro | exact H
theorem Q20u (o0 : aC) (H : Q1q4 o0) : Q0 G (Q294 o0) (Q1yc o0) := by
 unfold Q1yc
 rw [Q2c7]
 exact Q7 (fn := Ir.K4q) (by kernel_rfl) (h := [⟨6, 0, false, (aC.cells o0)⟩]) (vw := []) VOK.nil [] [aN (Q3e Qr o0 (Qaa o0 H).1), aN (Q3e Qf (Qi Qr o0).2 (Qaa o0 H).2.1), aN (Q3e Q27 (Qi Qf (Qi Qr o0).2).2 (Qaa o0 H).2.2.1), aN (Q3e Q14 (Qi Q27 (Qi Qf (Qi Qr o0).2).2).2 (Qaa o0 H).2.2.2.1), aN (Q3e Q2c (Qi Q14 (Qi Q27 (Qi Qf (Qi Qr o0).2).2).2).2 (Qaa o0 H).2.2.2.2.1), aN (Q3e Q31 (Qi Q2c (Qi Q14 (Qi Q27 (Qi Qf (Qi Qr o0).2).2).2).2).2 (Qaa o0 H).2.2.2.2.2.1), aN (Qpj Q2o (Qi Q31 (Qi Q2c (Qi Q14 (Qi Q27 (Qi Qf (Qi Qr o0).2).2).2).2).2).2 (Qaa o0 H).2.2.2.2.2.2.1)] (by kernel_rfl)
def Q73 (o0 : aC) : bW × aC := ((JobS.dec o0.v).1, bd o0 ((dN o0.v Qj).2 && (dN o0.v Qu).2 && (dN o0.v Q1x).2 && (dN o0.v Q16).2 && (dB o0.v Q2j).2 && (dB o0.v Q19).2 && (tD o0.v Q17).2))
theorem Q2c0 (o0 : aC) : Q73 o0 = (((bW.mk (bJ.mk eB eB eB 0 0 0 0 false 0 [] [] [] []) (Qi Qj o0).1 (Qi Qu (Qi Qj o0).2).1 (Qi Q1x (Qi Qu (Qi Qj o0).2).2).1 (Qi Q16 (Qi Q1x (Qi Qu (Qi Qj o0).2).2).2).1 (Q56 Q2j (Qi Q16 (Qi Q1x (Qi Qu (Qi Qj o0).2).2).2).2).1 (Q56 Q19 (Q56 Q2j (Qi Q16 (Qi Q1x (Qi Qu (Qi Qj o0).2).2).2).2).2).1 (Qap (Q56 Q19 (Q56 Q2j (Qi Q16 (Qi Q1x (Qi Qu (Qi Qj o0).2).2).2).2).2).2).1 0 0 0 0 0 [] 0), (Qap (Q56 Q19 (Q56 Q2j (Qi Q16 (Qi Q1x (Qi Qu (Qi Qj o0).2).2).2).2).2).2).2)) := by
  simp only [Qi, Q56, Qap, Q73, Q9q, v_bd]
  refine Prod.ext rfl (congrArg (bd o0) ?_)
  simp only [Bool.and_assoc, Bool.and_comm]
def Q28x (o0 : aC) : En := .call 158 [.bx 0 0] [⟨6, 0, false, (aC.cells o0)⟩]
def Q2dh (_o0 : aC) (q0 : bW) (q1 : aC) : Rs := .ret (.agg (bW.cells q0)) [⟨6, 0, false, (aC.cells q1)⟩]
def Q1y5 (o0 : aC) : Rs := Q2dh o0 (Q73 o0).1 (Q73 o0).2
def Q1kn (o0 : aC) : Prop := Val.Sm 1000000000 o0.v
theorem Qa9 (o0 : aC) (H : Q1kn o0) : (Q4w o0) ∧ (Q4w (Qi Qj o0).2) ∧ (Q4w (Qi Qu (Qi Qj o0).2).2) ∧ (Q4w (Qi Q1x (Qi Qu (Qi Qj o0).2).2).2) ∧ (Qwd (Qi Q16 (Qi Q1x (Qi Qu (Qi Qj o0).2).2).2).2) ∧ (Qwd (Q56 Q2j (Qi Q16 (Qi Q1x (Qi Qu (Qi Qj o0).2).2).2).2).2) ∧ (Q1kp (Q56 Q19 (Q56 Q2j (Qi Q16 (Qi Q1x (Qi Qu (Qi Qj o0).2).2).2).2).2).2) ∧ True := by
  repeat' with_reducible apply And.intro
  all_goals first | exact True.intro | exact H
theorem Q1jf (o0 : aC) (H : Q1kn o0) : Q0 G (Q28x o0) (Q1y5 o0) := by
 unfold Q1y5
 rw [Q2c0]
 exact Q7 (fn := Ir.K4h) (by kernel_rfl) (h := [⟨6, 0, false, (aC.cells o0)⟩]) (vw := []) VOK.nil [] [aN (Q3e Qj o0 (Qa9 o0 H).1), aN (Q3e Qu (Qi Qj o0).2 (Qa9 o0 H).2.1), aN (Q3e Q1x (Qi Qu (Qi Qj o0).2).2 (Qa9 o0 H).2.2.1), aN (Q3e Q16 (Qi Q1x (Qi Qu (Qi Qj o0).2).2).2 (Qa9 o0 H).2.2.2.1), aN (Qpj Q2j (Qi Q16 (Qi Q1x (Qi Qu (Qi Qj o0).2).2).2).2 (Qa9 o0 H).2.2.2.2.1), aN (Qpj Q19 (Q56 Q2j (Qi Q16 (Qi Q1x (Qi Qu (Qi Qj o0).2).2).2).2).2 (Qa9 o0 H).2.2.2.2.2.1), aN (Q1rf (Q56 Q19 (Q56 Q2j (Qi Q16 (Qi Q1x (Qi Qu (Qi Qj o0).2).2).2).2).2).2 (Qa9 o0 H).2.2.2.2.2.2.1)] (by kernel_rfl)
theorem au.rE2 (v : Val) : (xE au.rdec v).2 = (xE au.dec v).2 := (Qo2 au.agr v).1
theorem Qer {α : Type} (a b : Bool) (x y : α) : (bif !a then x else bif !b then x else y) = bif !(a && b) then x else y := by cases a <;> cases b <;> rfl
def Q2t (p0 : aA) (p1 : BA) : aC × aC := (bd ⟨p0.aO, false⟩ (isM p0.aO && sEq p0.aI.kind p1), bd ⟨p0.aM, false⟩ (isM p0.aM))
theorem Q2bt (p0 : aA) (p1 : BA) : Q2t p0 p1 = (((Q66 (sEq p0.aI.kind p1) (Q3u p0.aO)), (Q3u p0.aM))) := by
  simp only [Q3u, Q66, Q2t, Q9q]
def Q28q (p0 : aA) (p1 : BA) : En := .call 121 [.agg (aA.cells p0), .str p1] []
def Q2da (_p0 : aA) (_p1 : BA) (q0 : aC) (q1 : aC) : Rs := .ret (.tup [.bx 0 0, .bx 1 0]) [⟨6, 0, true, (aC.cells q0)⟩, ⟨6, 0, true, (aC.cells q1)⟩]
def Q1xy (p0 : aA) (p1 : BA) : Rs := Q2da p0 p1 (Q2t p0 p1).1 (Q2t p0 p1).2
theorem Qpi (p0 : aA) (p1 : BA) : Q0 G (Q28q p0 p1) (Q1xy p0 p1) := by
 unfold Q1xy
 rw [Q2bt]
 exact Q7 (fn := Ir.K4a) (by kernel_rfl) VOK.nil [] [aN (Q15c p0.aO), aN (Q15c p0.aM), aN (Qg5 (sEq p0.aI.kind p1) (Q3u p0.aO))] (by kernel_rfl)
def Qan (o0 : aC) (o1 : aC) : Bool := o0.iw || o1.iw
theorem Q2bs (o0 : aC) (o1 : aC) : Qan o0 o1 = (bif o0.iw then
    true
  else
    o1.iw) := by
  unfold Qan
  cases o0.iw <;> cases o1.iw <;> rfl
def Q28o (o0 : aC) (o1 : aC) : En := .call 126 [.bx 0 0, .bx 1 0] [⟨6, 0, false, (aC.cells o0)⟩, ⟨6, 0, false, (aC.cells o1)⟩]
def Qgs (o0 : aC) (o1 : aC) (q0 : Bool) : Rs := .ret (.bool q0) [⟨6, 0, false, (aC.cells o0)⟩, ⟨6, 0, false, (aC.cells o1)⟩]
def Q1xw (o0 : aC) (o1 : aC) : Rs := Qgs o0 o1 (Qan o0 o1)
theorem Qph (o0 : aC) (o1 : aC) : Q0 G (Q28o o0 o1) (Q1xw o0 o1) := by
 unfold Q1xw
 rw [Q2bs]
 cases h0 : o0.iw with
 | true =>
  exact Q7 (fn := Ir.K48) (by kernel_rfl) (h := [⟨6, 0, false, (aC.cells o0)⟩, ⟨6, 0, false, (aC.cells o1)⟩]) (vw := []) VOK.nil [hP 4 (decR o0.iw true [0] h0)] [] (by kernel_rfl)
 | false =>
  exact Q7 (fn := Ir.K48) (by kernel_rfl) (h := [⟨6, 0, false, (aC.cells o0)⟩, ⟨6, 0, false, (aC.cells o1)⟩]) (vw := []) VOK.nil [hP 4 (decR o0.iw false [0] h0)] [] (by kernel_rfl)
theorem aJ.R_of {o : aA} {b : Bool} {x : aJ} (h1 : aJ.ok o = b) (h2 : aJ.ok o = true → aJ.of o = x) : aJ.R o = bif !b then (aJ.z, 6) else (x, 0) := by
  unfold aJ.R
  rw [← h1]
  cases h : aJ.ok o with
  | true => rw [h2 h]; rfl
  | false => rfl
def Qq1 (p0 : aA) : aC :=
  (Qi Qf (Q2t p0 Q22).1).2
def Qq8 (p0 : aA) : aC :=
  (Qi Q3l (Qq1 p0)).2
def Qqf (p0 : aA) : aC :=
  (Qi Q3y (Qq8 p0)).2
def Qqm (p0 : aA) : aC :=
  (Qi Q16 (Qqf p0)).2
def Qqt (p0 : aA) : aC :=
  (Qao (Qqm p0)).2
def Qqz (p0 : aA) : aC :=
  (Qap (Qqt p0)).2
def Qr6 (p0 : aA) : aC :=
  (Q56 Q3m (Qqz p0)).2
def Qdj (p0 : aA) : aC :=
  (Q56 Q4g (Qr6 p0)).2
def Qre (p0 : aA) : aC :=
  (Qcf Q4q (Qdj p0))
def Qdm (p0 : aA) : aC :=
  (Q52 (Qdj p0) (Qre p0)).2.1
def Qfj (p0 : aA) : aC :=
  (Qcf Q2i (Qdm p0))
def Qfl (p0 : aA) : aC :=
  (Q52 (Qdm p0) (Qfj p0)).2.1
def Qct (p0 : aA) : aC :=
  (Qi Q5r (Qfl p0)).2
def Qcu (p0 : aA) : aC :=
  (Qfe (Q2t p0 Q22).2).2
def Q1n0 (p0 : aA) : aJ × Int := aJ.R p0
theorem Q2bq (p0 : aA) : Q1n0 p0 = (bif (Qan (Qct p0) (Qcu p0)) then
    ((aJ.mk (bJ.mk eB eB eB 0 0 0 0 false 0 [] [] [] []) 0 0 0 0 [] (aY.mk [] (bn.mk eB 0 0 0 [] [] [] [] [] [])) false false (aL.mk false 0) (aL.mk false 0) 0 (bf.mk 0 0 0 0 0 0 false)), 6)
  else
    ((aJ.mk p0.aI (Qi Qf (Q2t p0 Q22).1).1 (Qi Q3l (Qq1 p0)).1 (Qi Q3y (Qq8 p0)).1 (Qi Q16 (Qqf p0)).1 (Qao (Qqm p0)).1 (Qap (Qqt p0)).1 (Q56 Q3m (Qqz p0)).1 (Q56 Q4g (Qr6 p0)).1 (Q52 (Qdj p0) (Qre p0)).1 (Q52 (Qdm p0) (Qfj p0)).1 (Qi Q5r (Qfl p0)).1 (Qfe (Q2t p0 Q22).2).1), 0)) := by
  simp only [Qq1, Qq8, Qqf, Qqm, Qqt, Qqz, Qr6, Qdj, Qre, Qdm, Qfj, Qfl, Qct, Qcu, Q2t, Qan, Qi, Q56, Qcf, Qao, Qap, Q52, Qfe, Q9q, v_bd, Q11g, Bool.not_not, not_or]
  refine aJ.R_of ?_ (fun h => ?_)
  · unfold aJ.ok
    simp only [← au.rE2]
    try simp only [xE, aL.dec, bf.dec]
    rw [Bool.eq_iff_iff]
    simp only [Bool.and_eq_true]
    exact ⟨fun h => by simp only [h, and_self], fun h => by simp only [h, and_self]⟩
  · unfold aJ.ok at h
    simp only [Bool.and_eq_true] at h
    unfold aJ.of
    rw [← (Qo2 au.agr (prt p0.aO Q6)).2 h.2.2.2.2.2.2.2.2.2.1]
    all_goals rfl
def Q28m (p0 : aA) : En := .call 47 [.agg (aA.cells p0)] []
def Q1xu (p0 : aA) : Rs := .ret (.tup [.agg (aJ.cells (Q1n0 p0).1), iN (Q1n0 p0).2]) []
def Q1kk (p0 : aA) : Prop := aA.sm p0
theorem Q3h (p0 : aA) (H : Q1kk p0) : (Q4w (Q2t p0 Q22).1) ∧ (Q4w (Qq1 p0)) ∧ (Q4w (Qq8 p0)) ∧ (Q4w (Qqf p0)) ∧ (Q1ko (Qqm p0)) ∧ (Q1kp (Qqt p0)) ∧ (Qwd (Qqz p0)) ∧ (Qwd (Qr6 p0)) ∧ (Q144 (Qdj p0)) ∧ (Q141 (Qre p0)) ∧ (Q144 (Qdm p0)) ∧ (Q141 (Qfj p0)) ∧ (Q4w (Qfl p0)) ∧ (Q1q4 (Q2t p0 Q22).2) ∧ True := by
  exact ⟨(by first | exact True.intro | exact H.1 | exact H.2 | exact Qg H.1 _ | exact Qg H.2 _), (by first | exact True.intro | exact H.1 | exact H.2 | exact Qg H.1 _ | exact Qg H.2 _), (by first | exact True.intro | exact H.1 | exact H.2 | exact Qg H.1 _ | exact Qg H.2 _), (by first | exact True.intro | exact H.1 | exact H.2 | exact Qg H.1 _ | exact Qg H.2 _), (by first | exact True.intro | exact H.1 | exact H.2 | exact Qg H.1 _ | exact Qg H.2 _), (by first | exact True.intro | exact H.1 | exact H.2 | exact Qg H.1 _ | exact Qg H.2 _), (by first | exact True.intro | exact H.1 | exact H.2 | exact Qg H.1 _ | exact Qg H.2 _), (by first | exact True.intro | exact H.1 | exact H.2 | exact Qg H.1 _ | exact Qg H.2 _), (by first | exact True.intro | exact H.1 | exact H.2 | exact Qg H.1 _ | exact Qg H.2 _), (by first | exact True.intro | exact H.1 | exact H.2 | exact Qg H.1 _ | exact Qg H.2 _), (by first | exact True.intro | exact H.1 | exact H.2 | exact Qg H.1 _ | exact Qg H.2 _), (by first | exact True.intro | exact H.1 | exact H.2 | exact Qg H.1 _ | exact Qg H.2 _), (by first | exact True.intro | exact H.1 | exact H.2 | exact Qg H.1 _ | exact Qg H.2 _), (by first | exact True.intro | exact H.1 | exact H.2 | exact Qg H.1 _ | exact Qg H.2 _), trivial⟩
theorem Q2fy (p0 : aA) (H : Q1kk p0) : Q0 G (Q28m p0) (Q1xu p0) := by
 unfold Q1xu
 rw [Q2bq]
 cases h0 : (Qan (Qct p0) (Qcu p0)) with
 | true =>
  exact Q7 (fn := Ir.K40) (by kernel_rfl) VOK.nil [] [aN (Qpi p0 Q22), aN (Q3e Qf (Q2t p0 Q22).1 (Q3h p0 H).1), aN (Q3e Q3l (Qq1 p0) (Q3h p0 H).2.1), aN (Q3e Q3y (Qq8 p0) (Q3h p0 H).2.2.1), aN (Q3e Q16 (Qqf p0) (Q3h p0 H).2.2.2.1), aN (Q1n4 (Qqm p0) (Q3h p0 H).2.2.2.2.1), aN (Q1rf (Qqt p0) (Q3h p0 H).2.2.2.2.2.1), aN (Qpj Q3m (Qqz p0) (Q3h p0 H).2.2.2.2.2.2.1), aN (Qpj Q4g (Qr6 p0) (Q3h p0 H).2.2.2.2.2.2.2.1), aN (Qpk Q4q (Qdj p0) (Q3h p0 H).2.2.2.2.2.2.2.2.1), aN (Qz4 (Qdj p0) (Qre p0) (Q3h p0 H).2.2.2.2.2.2.2.2.2.1), aN (Qpk Q2i (Qdm p0) (Q3h p0 H).2.2.2.2.2.2.2.2.2.2.1), aN (Qz4 (Qdm p0) (Qfj p0) (Q3h p0 H).2.2.2.2.2.2.2.2.2.2.2.1), aN (Q3e Q5r (Qfl p0) (Q3h p0 H).2.2.2.2.2.2.2.2.2.2.2.2.1), aN (Q20u (Q2t p0 Q22).2 (Q3h p0 H).2.2.2.2.2.2.2.2.2.2.2.2.2.1), aN (toldOf (Qph (Qct p0) (Qcu p0)) (congrArg (fun b => Qgs (Qct p0) (Qcu p0) b) h0))] (by kernel_rfl)
 | false =>
  exact Q7 (fn := Ir.K40) (by kernel_rfl) VOK.nil [] [aN (Qpi p0 Q22), aN (Q3e Qf (Q2t p0 Q22).1 (Q3h p0 H).1), aN (Q3e Q3l (Qq1 p0) (Q3h p0 H).2.1), aN (Q3e Q3y (Qq8 p0) (Q3h p0 H).2.2.1), aN (Q3e Q16 (Qqf p0) (Q3h p0 H).2.2.2.1), aN (Q1n4 (Qqm p0) (Q3h p0 H).2.2.2.2.1), aN (Q1rf (Qqt p0) (Q3h p0 H).2.2.2.2.2.1), aN (Qpj Q3m (Qqz p0) (Q3h p0 H).2.2.2.2.2.2.1), aN (Qpj Q4g (Qr6 p0) (Q3h p0 H).2.2.2.2.2.2.2.1), aN (Qpk Q4q (Qdj p0) (Q3h p0 H).2.2.2.2.2.2.2.2.1), aN (Qz4 (Qdj p0) (Qre p0) (Q3h p0 H).2.2.2.2.2.2.2.2.2.1), aN (Qpk Q2i (Qdm p0) (Q3h p0 H).2.2.2.2.2.2.2.2.2.2.1), aN (Qz4 (Qdm p0) (Qfj p0) (Q3h p0 H).2.2.2.2.2.2.2.2.2.2.2.1), aN (Q3e Q5r (Qfl p0) (Q3h p0 H).2.2.2.2.2.2.2.2.2.2.2.2.1), aN (Q20u (Q2t p0 Q22).2 (Q3h p0 H).2.2.2.2.2.2.2.2.2.2.2.2.2.1), aN (toldOf (Qph (Qct p0) (Qcu p0)) (congrArg (fun b => Qgs (Qct p0) (Qcu p0) b) h0))] (by kernel_rfl)
theorem bW.R_of {o : aA} {b : Bool} {x : bW} (h1 : bW.ok o = b) (h2 : bW.ok o = true → bW.of o = x) : bW.R o = bif !b then (bW.z, 6) else (x, 0) := by
  unfold bW.R
  rw [← h1]
  cases h : bW.ok o with
  | true => rw [h2 h]; rfl
  | false => rfl
def Qq2 (p0 : aA) : aC :=
  (Qi Q4e (Q2t p0 Q33).2).2
def Qq9 (p0 : aA) : aC :=
  (Qi Q34 (Qq2 p0)).2
def Qqg (p0 : aA) : aC :=
  (Qi Q2o (Qq9 p0)).2
def Qqn (p0 : aA) : aC :=
  (Qi Q3z (Qqg p0)).2
def Qqu (p0 : aA) : aC :=
  (Qi Q3k (Qqn p0)).2
def Qr0 (p0 : aA) : aC :=
  (Qg2 Q5q (Qqu p0)).2
def Qk9 (p0 : aA) : aC :=
  (Qi Q4h (Qr0 p0)).2
def Q1n1 (p0 : aA) : bW × Int := bW.R p0
theorem Q2br (p0 : aA) : Q1n1 p0 = (bif (Qan (Q73 (Q2t p0 Q33).1).2 (Qk9 p0)) then
    ((bW.mk (bJ.mk eB eB eB 0 0 0 0 false 0 [] [] [] []) 0 0 0 0 false false (aY.mk [] (bn.mk eB 0 0 0 [] [] [] [] [] [])) 0 0 0 0 0 [] 0), 6)
  else
    ((bW.mk p0.aI (Q73 (Q2t p0 Q33).1).1.d9 (Q73 (Q2t p0 Q33).1).1.dD (Q73 (Q2t p0 Q33).1).1.eX (Q73 (Q2t p0 Q33).1).1.dz (Q73 (Q2t p0 Q33).1).1.eU (Q73 (Q2t p0 Q33).1).1.dh (Q73 (Q2t p0 Q33).1).1.bA (Qi Q4e (Q2t p0 Q33).2).1 (Qi Q34 (Qq2 p0)).1 (Qi Q2o (Qq9 p0)).1 (Qi Q3z (Qqg p0)).1 (Qi Q3k (Qqn p0)).1 (Qg2 Q5q (Qqu p0)).1 (Qi Q4h (Qr0 p0)).1), 0)) := by
  simp only [Qq2, Qq9, Qqg, Qqn, Qqu, Qr0, Qk9, Q2t, Qan, Qi, Qg2, Q73, Q9q, v_bd, Q11g, not_or]
  refine bW.R_of ?_ (fun h => ?_)
  · unfold bW.ok
    try simp only [xE]
    rw [Bool.eq_iff_iff]
    simp only [Bool.and_eq_true]
    exact ⟨fun h => by simp only [h, and_self], fun h => by simp only [h, and_self]⟩
  · rfl
def Q28n (p0 : aA) : En := .call 48 [.agg (aA.cells p0)] []
def Q1xv (p0 : aA) : Rs := .ret (.tup [.agg (bW.cells (Q1n1 p0).1), iN (Q1n1 p0).2]) []
def Q1kl (p0 : aA) : Prop := aA.sm p0
theorem Q5a (p0 : aA) (H : Q1kl p0) : (Q1kn (Q2t p0 Q33).1) ∧ (Q4w (Q2t p0 Q33).2) ∧ (Q4w (Qq2 p0)) ∧ (Q4w (Qq9 p0)) ∧ (Q4w (Qqg p0)) ∧ (Q4w (Qqn p0)) ∧ (Q1q3 (Qqu p0)) ∧ (Q4w (Qr0 p0)) ∧ True := by
  exact ⟨(by first | exact True.intro | exact H.1 | exact H.2 | exact Qg H.1 _ | exact Qg H.2 _), (by first | exact True.intro | exact H.1 | exact H.2 | exact Qg H.1 _ | exact Qg H.2 _), (by first | exact True.intro | exact H.1 | exact H.2 | exact Qg H.1 _ | exact Qg H.2 _), (by first | exact True.intro | exact H.1 | exact H.2 | exact Qg H.1 _ | exact Qg H.2 _), (by first | exact True.intro | exact H.1 | exact H.2 | exact Qg H.1 _ | exact Qg H.2 _), (by first | exact True.intro | exact H.1 | exact H.2 | exact Qg H.1 _ | exact Qg H.2 _), (by first | exact True.intro | exact H.1 | exact H.2 | exact Qg H.1 _ | exact Qg H.2 _), (by first | exact True.intro | exact H.1 | exact H.2 | exact Qg H.1 _ | exact Qg H.2 _), trivial⟩
theorem Q2fz (p0 : aA) (H : Q1kl p0) : Q0 G (Q28n p0) (Q1xv p0) := by
 unfold Q1xv
 rw [Q2br]
 cases h0 : (Qan (Q73 (Q2t p0 Q33).1).2 (Qk9 p0)) with
 | true =>
  exact Q7 (fn := Ir.K42) (by kernel_rfl) VOK.nil [] [aN (Qpi p0 Q33), aN (Q1jf (Q2t p0 Q33).1 (Q5a p0 H).1), aN (Q3e Q4e (Q2t p0 Q33).2 (Q5a p0 H).2.1), aN (Q3e Q34 (Qq2 p0) (Q5a p0 H).2.2.1), aN (Q3e Q2o (Qq9 p0) (Q5a p0 H).2.2.2.1), aN (Q3e Q3z (Qqg p0) (Q5a p0 H).2.2.2.2.1), aN (Q3e Q3k (Qqn p0) (Q5a p0 H).2.2.2.2.2.1), aN (Q20t Q5q (Qqu p0) (Q5a p0 H).2.2.2.2.2.2.1), aN (Q3e Q4h (Qr0 p0) (Q5a p0 H).2.2.2.2.2.2.2.1), aN (toldOf (Qph (Q73 (Q2t p0 Q33).1).2 (Qk9 p0)) (congrArg (fun b => Qgs (Q73 (Q2t p0 Q33).1).2 (Qk9 p0) b) h0))] (by kernel_rfl)
 | false =>
  exact Q7 (fn := Ir.K42) (by kernel_rfl) VOK.nil [] [aN (Qpi p0 Q33), aN (Q1jf (Q2t p0 Q33).1 (Q5a p0 H).1), aN (Q3e Q4e (Q2t p0 Q33).2 (Q5a p0 H).2.1), aN (Q3e Q34 (Qq2 p0) (Q5a p0 H).2.2.1), aN (Q3e Q2o (Qq9 p0) (Q5a p0 H).2.2.2.1), aN (Q3e Q3z (Qqg p0) (Q5a p0 H).2.2.2.2.1), aN (Q3e Q3k (Qqn p0) (Q5a p0 H).2.2.2.2.2.1), aN (Q20t Q5q (Qqu p0) (Q5a p0 H).2.2.2.2.2.2.1), aN (Q3e Q4h (Qr0 p0) (Q5a p0 H).2.2.2.2.2.2.2.1), aN (toldOf (Qph (Q73 (Q2t p0 Q33).1).2 (Qk9 p0)) (congrArg (fun b => Qgs (Q73 (Q2t p0 Q33).1).2 (Qk9 p0) b) h0))] (by kernel_rfl)
theorem aS.R_of {o : aA} {b : Bool} {x : aS} (h1 : aS.ok o = b) (h2 : aS.ok o = true → aS.of o = x) : aS.R o = bif !b then (aS.z, 6) else (x, 0) := by
  unfold aS.R
  rw [← h1]
  cases h : aS.ok o with
  | true => rw [h2 h]; rfl
  | false => rfl
def Qk5 (p0 : aA) : aC :=
  (Q4c Q3d (Q2t p0 Q2a).1).2
def Qk6 (p0 : aA) : aC :=
  (Qi Q49 (Qk5 p0)).2
def Qk7 (p0 : aA) : aC :=
  (Qi Q2m (Qk6 p0)).2
def Qk8 (p0 : aA) : aC :=
  (Qi Q3c (Qk7 p0)).2
def Qcq (p0 : aA) : aC :=
  (Qcf Q72 (Q2t p0 Q2a).1)
def Qdh (p0 : aA) : aC :=
  (Q56 Q19 (Qk8 p0)).2
def Qdi (p0 : aA) : aC :=
  (Qi Q5d (Q2t p0 Q2a).2).2
def Q1mz (p0 : aA) : aS × Int := aS.R p0
theorem Q2bp (p0 : aA) : Q1mz p0 = (bif (Qan (Qdh p0) (Qdi p0)) then
    ((aS.mk (bJ.mk eB eB eB 0 0 0 0 false 0 [] [] [] []) eB 0 0 0 false (bW.mk (bJ.mk eB eB eB 0 0 0 0 false 0 [] [] [] []) 0 0 0 0 false false (aY.mk [] (bn.mk eB 0 0 0 [] [] [] [] [] [])) 0 0 0 0 0 [] 0) 0), 6)
  else
    bif (Q73 (Qcq p0)).2.iw then
      ((aS.mk (bJ.mk eB eB eB 0 0 0 0 false 0 [] [] [] []) eB 0 0 0 false (bW.mk (bJ.mk eB eB eB 0 0 0 0 false 0 [] [] [] []) 0 0 0 0 false false (aY.mk [] (bn.mk eB 0 0 0 [] [] [] [] [] [])) 0 0 0 0 0 [] 0) 0), 6)
    else
      ((aS.mk p0.aI (Q4c Q3d (Q2t p0 Q2a).1).1 (Qi Q49 (Qk5 p0)).1 (Qi Q2m (Qk6 p0)).1 (Qi Q3c (Qk7 p0)).1 (Q56 Q19 (Qk8 p0)).1 (Q73 (Qcq p0)).1 (Qi Q5d (Q2t p0 Q2a).2).1), 0)) := by
  simp only [Qk5, Qk6, Qk7, Qk8, Qcq, Qdh, Qdi, Q2t, Qan, Qi, Q4c, Q56, Qcf, Q73, Q9q, v_bd, Q11g, not_or, Qer]
  refine aS.R_of ?_ (fun h => ?_)
  · unfold aS.ok
    try simp only [JobS.dec]
    rw [Bool.eq_iff_iff]
    simp only [Bool.and_eq_true]
    exact ⟨fun h => by simp only [h, and_self], fun h => by simp only [h, and_self]⟩
  · rfl
def Q28l (p0 : aA) : En := .call 50 [.agg (aA.cells p0)] []
def Q1xt (p0 : aA) : Rs := .ret (.tup [.agg (aS.cells (Q1mz p0).1), iN (Q1mz p0).2]) []
def Q1kj (p0 : aA) : Prop := aA.sm p0
theorem Q40 (p0 : aA) (H : Q1kj p0) : (Q144 (Q2t p0 Q2a).1) ∧ (Q143 (Q2t p0 Q2a).1) ∧ (Q4w (Qk5 p0)) ∧ (Q4w (Qk6 p0)) ∧ (Q4w (Qk7 p0)) ∧ (Qwd (Qk8 p0)) ∧ (Q1kn (Qcq p0)) ∧ (Q4w (Q2t p0 Q2a).2) ∧ True := by
  exact ⟨(by first | exact True.intro | exact H.1 | exact H.2 | exact Qg H.1 _ | exact Qg H.2 _), (by first | exact True.intro | exact H.1 | exact H.2 | exact Qg H.1 _ | exact Qg H.2 _), (by first | exact True.intro | exact H.1 | exact H.2 | exact Qg H.1 _ | exact Qg H.2 _), (by first | exact True.intro | exact H.1 | exact H.2 | exact Qg H.1 _ | exact Qg H.2 _), (by first | exact True.intro | exact H.1 | exact H.2 | exact Qg H.1 _ | exact Qg H.2 _), (by first | exact True.intro | exact H.1 | exact H.2 | exact Qg H.1 _ | exact Qg H.2 _), (by first | exact True.intro | exact H.1 | exact H.2 | exact Qg H.1 _ | exact Qg H.2 _), (by first | exact True.intro | exact H.1 | exact H.2 | exact Qg H.1 _ | exact Qg H.2 _), trivial⟩
theorem Q2fx (p0 : aA) (H : Q1kj p0) : Q0 G (Q28l p0) (Q1xt p0) := by
 unfold Q1xt
 rw [Q2bp]
 cases h0 : (Qan (Qdh p0) (Qdi p0)) with
 | true =>
  exact Q7 (fn := Ir.K3y) (by kernel_rfl) VOK.nil [] [aN (Qpi p0 Q2a), aN (Qpk Q72 (Q2t p0 Q2a).1 (Q40 p0 H).1), aN (Qz5 Q3d (Q2t p0 Q2a).1 (Q40 p0 H).2.1), aN (Q3e Q49 (Qk5 p0) (Q40 p0 H).2.2.1), aN (Q3e Q2m (Qk6 p0) (Q40 p0 H).2.2.2.1), aN (Q3e Q3c (Qk7 p0) (Q40 p0 H).2.2.2.2.1), aN (Qpj Q19 (Qk8 p0) (Q40 p0 H).2.2.2.2.2.1), aN (Q1jf (Qcq p0) (Q40 p0 H).2.2.2.2.2.2.1), aN (Q3e Q5d (Q2t p0 Q2a).2 (Q40 p0 H).2.2.2.2.2.2.2.1), aN (toldOf (Qph (Qdh p0) (Qdi p0)) (congrArg (fun b => Qgs (Qdh p0) (Qdi p0) b) h0))] (by kernel_rfl)
 | false =>
  cases h1 : (Q73 (Qcq p0)).2.iw with
  | true =>
   exact Q7 (fn := Ir.K3y) (by kernel_rfl) VOK.nil [hP 39 (decR (Q73 (Qcq p0)).2.iw true [704] h1)] [aN (Qpi p0 Q2a), aN (Qpk Q72 (Q2t p0 Q2a).1 (Q40 p0 H).1), aN (Qz5 Q3d (Q2t p0 Q2a).1 (Q40 p0 H).2.1), aN (Q3e Q49 (Qk5 p0) (Q40 p0 H).2.2.1), aN (Q3e Q2m (Qk6 p0) (Q40 p0 H).2.2.2.1), aN (Q3e Q3c (Qk7 p0) (Q40 p0 H).2.2.2.2.1), aN (Qpj Q19 (Qk8 p0) (Q40 p0 H).2.2.2.2.2.1), aN (Q1jf (Qcq p0) (Q40 p0 H).2.2.2.2.2.2.1), aN (Q3e Q5d (Q2t p0 Q2a).2 (Q40 p0 H).2.2.2.2.2.2.2.1), aN (toldOf (Qph (Qdh p0) (Qdi p0)) (congrArg (fun b => Qgs (Qdh p0) (Qdi p0) b) h0))] (by kernel_rfl)
  | false =>
   exact Q7 (fn := Ir.K3y) (by kernel_rfl) VOK.nil [hP 39 (decR (Q73 (Qcq p0)).2.iw false [704] h1)] [aN (Qpi p0 Q2a), aN (Qpk Q72 (Q2t p0 Q2a).1 (Q40 p0 H).1), aN (Qz5 Q3d (Q2t p0 Q2a).1 (Q40 p0 H).2.1), aN (Q3e Q49 (Qk5 p0) (Q40 p0 H).2.2.1), aN (Q3e Q2m (Qk6 p0) (Q40 p0 H).2.2.2.1), aN (Q3e Q3c (Qk7 p0) (Q40 p0 H).2.2.2.2.1), aN (Qpj Q19 (Qk8 p0) (Q40 p0 H).2.2.2.2.2.1), aN (Q1jf (Qcq p0) (Q40 p0 H).2.2.2.2.2.2.1), aN (Q3e Q5d (Q2t p0 Q2a).2 (Q40 p0 H).2.2.2.2.2.2.2.1), aN (toldOf (Qph (Qdh p0) (Qdi p0)) (congrArg (fun b => Qgs (Qdh p0) (Qdi p0) b) h0))] (by kernel_rfl)
theorem aT.R_of {o : aA} {b : Bool} {x : aT} (h1 : aT.ok o = b) (h2 : aT.ok o = true → aT.of o = x) : aT.R o = bif !b then (aT.z, 6) else (x, 0) := by
  unfold aT.R
  rw [← h1]
  cases h : aT.ok o with
  | true => rw [h2 h]; rfl
  | false => rfl
def Qg8 (p0 : aA) : aC :=
  (Qao (Q2t p0 Q2u).1).2
def Qcm (p0 : aA) : aC :=
  (Q9l Q29 (Qg8 p0)).2
def Qg9 (p0 : aA) : aC :=
  (Qi Qr (Q2t p0 Q2u).2).2
def Qga (p0 : aA) : aC :=
  (Qi Q3r (Qg9 p0)).2
def Qgb (p0 : aA) : aC :=
  (Qi Q3q (Qga p0)).2
def Qgc (p0 : aA) : aC :=
  (Qi Q37 (Qgb p0)).2
def Q47 (p0 : aA) : aC :=
  (Qi Q3p (Qgc p0)).2
def Q1v8 (p0 : aA) : aC :=
  (Q1c Q11 (Q47 p0)).2
def Qka (p0 : aA) : aC :=
  (Q9l Q1s (Qcm p0)).2
def Q5n (p0 : aA) : List Val → Nat → aC → (List aR) → aC × (List aR)
 | [], _i0, ah, ay =>
  (ah, ay)
 | x0 :: r0, i0, ah, ay =>
  Q5n p0 r0 (i0 + 1) (Q66 (!(Qi Q48 (Q4c Q12 (Q3u x0)).2).2.iw) ah) (ay ++ [(aR.mk (Q4c Q12 (Q3u x0)).1 (Qi Q48 (Q4c Q12 (Q3u x0)).2).1)])
def Q1fy (p0 : aA) (i0 : Nat) (_ah : aC) (_ay : List aR) : List PV :=
  [.un, .un, .bx 0 0, .un, .bx 1 0, .bx 2 0, .bx 3 0, .sl (Val.rows (Q1c Q11 (Q47 p0)).1), iN (i0 : Int)] ++ nuns 60
def Q104 (p0 : aA) (_i0 : Nat) (ah : aC) (ay : List aR) : List Ob :=
  [⟨22, 0, true, [.str eB, .str eB, .str eB, iN 0, iN 0, iN 0, iN 0, .bool false, iN 0, .ms 4 2 0 0, .ms 5 5 0 0, .ms 6 1 0 0, .ms 7 2 0 0, .ms 8 3 0 0, .ms 9 2 0 0, .ms 10 2 0 0, iN 0, iN 0, iN 0, iN 0, iN 0, .ms 11 2 0 0]⟩, ⟨6, 0, false, (aC.cells (Q9l Q1s (Qcm p0)).2)⟩, ⟨6, 0, false, (aC.cells ah)⟩, ⟨22, 0, true, [.str p0.aI.kind, .str p0.aI.bM, .str p0.aI.name, iN p0.aI.gY, iN p0.aI.dn, iN p0.aI.bQ, iN p0.aI.cZ, .bool p0.aI.bY, iN p0.aI.bX, .sl (aU.rows p0.aI.bK), .sl (bS.rows p0.aI.bO), .sl (Q15 p0.aI.bI), .sl (bB.rows p0.aI.aW), .sl (au.rows (Qao (Q2t p0 Q2u).1).1), .sl (aL.rows (Q9l Q29 (Qg8 p0)).1), .sl (aL.rows (Q9l Q1s (Qcm p0)).1), iN (Qi Qr (Q2t p0 Q2u).2).1, iN (Qi Q3r (Qg9 p0)).1, iN (Qi Q3q (Qga p0)).1, iN (Qi Q37 (Qgb p0)).1, iN (Qi Q3p (Qgc p0)).1, .ms 12 2 0 (List.length ay)]⟩, ⟨2, 0, true, []⟩, ⟨5, 0, true, []⟩, ⟨1, 0, true, []⟩, ⟨2, 0, true, []⟩, ⟨3, 0, true, []⟩, ⟨2, 0, true, []⟩, ⟨2, 0, true, []⟩, ⟨2, 0, true, []⟩, ⟨2, 0, true, (aR.rows ay).flatten⟩]
def Qhq (p0 : aA) (i0 : Nat) (ah : aC) (ay : List aR) : En := .loop 0 Ir.Qls Ir.Q1od (Q1fy p0 i0 ah ay) (Q104 p0 i0 ah ay)
def Qsx (p0 : aA) (q0 : aC) (q1 : List aR) (z : Nat → PV) (_zo : Nat → List PV) : St :=
  ⟨[z 0, z 1, .bx 0 0, z 3, .bx 1 0, .bx 2 0, .bx 3 0] ++ zr z 7 62, [(0, ⟨22, 0, true, [.str eB, .str eB, .str eB, iN 0, iN 0, iN 0, iN 0, .bool false, iN 0, .ms 4 2 0 0, .ms 5 5 0 0, .ms 6 1 0 0, .ms 7 2 0 0, .ms 8 3 0 0, .ms 9 2 0 0, .ms 10 2 0 0, iN 0, iN 0, iN 0, iN 0, iN 0, .ms 11 2 0 0]⟩), (1, ⟨6, 0, false, (aC.cells (Q9l Q1s (Qcm p0)).2)⟩), (2, ⟨6, 0, false, (aC.cells q0)⟩), (3, ⟨22, 0, true, [.str p0.aI.kind, .str p0.aI.bM, .str p0.aI.name, iN p0.aI.gY, iN p0.aI.dn, iN p0.aI.bQ, iN p0.aI.cZ, .bool p0.aI.bY, iN p0.aI.bX, .sl (aU.rows p0.aI.bK), .sl (bS.rows p0.aI.bO), .sl (Q15 p0.aI.bI), .sl (bB.rows p0.aI.aW), .sl (au.rows (Qao (Q2t p0 Q2u).1).1), .sl (aL.rows (Q9l Q29 (Qg8 p0)).1), .sl (aL.rows (Q9l Q1s (Qcm p0)).1), iN (Qi Qr (Q2t p0 Q2u).2).1, iN (Qi Q3r (Qg9 p0)).1, iN (Qi Q3q (Qga p0)).1, iN (Qi Q37 (Qgb p0)).1, iN (Qi Q3p (Qgc p0)).1, .ms 12 2 0 (List.length q1)]⟩), (4, ⟨2, 0, true, []⟩), (5, ⟨5, 0, true, []⟩), (6, ⟨1, 0, true, []⟩), (7, ⟨2, 0, true, []⟩), (8, ⟨3, 0, true, []⟩), (9, ⟨2, 0, true, []⟩), (10, ⟨2, 0, true, []⟩), (11, ⟨2, 0, true, []⟩), (12, ⟨2, 0, true, (aR.rows q1).flatten⟩)], 269⟩
theorem Q16j (p0 : aA) (i0 : Nat) (ah : aC) (ay : List aR) : VOK (Go.Pv.look (number 0 (Q104 p0 i0 ah ay))) [(12, aR.rows ay)] := (VOK.cons (show Seen _ _ from Q4a (ob := ⟨2, 0, true, (aR.rows ay).flatten⟩) (aR.Q8 ay 2 rfl)) VOK.nil)
def Qjl (p0 : aA) (e : En) (q : aC × (List aR)) : Prop := ∃ z zo, Q0 G e (.st (.exit 0) (Qsx p0 q.1 q.2 z zo))
theorem Qxd (p0 : aA) {e e' : En} (h : ∀ r, Q0 G e r → Q0 G e' r) : ∀ q, Qjl p0 e q → Qjl p0 e' q
  | _, ⟨z, zo, hz⟩ => ⟨z, zo, h _ hz⟩
def Qe0 (p0 : aA) : Prop := (List.length (Q1c Q11 (Q47 p0)).1 ≤ 137438953472) ∧ (∀ x0 ∈ (Q1c Q11 (Q47 p0)).1, Q143 (Q3u x0)) ∧ (∀ x0 ∈ (Q1c Q11 (Q47 p0)).1, Q4w (Q4c Q12 (Q3u x0)).2) ∧ True
def Quz (p0 : aA) (i0 : Nat) (_ah : aC) (_ay : List aR) : List PV :=
  nuns 7 ++ [.sl (Val.rows (Q1c Q11 (Q47 p0)).1), iN (i0 : Int)] ++ nuns 27 ++ [iN (i0 : Int), .sl (Val.rows (Q1c Q11 (Q47 p0)).1), iN ((List.length (Q1c Q11 (Q47 p0)).1) : Int), .bool false]
def Qnn (_p0 : aA) (_i0 : Nat) (_ah : aC) (_ay : List aR) : List (Nat × List PV) :=
  []
theorem Q1ed (p0 : aA) (_H : Qe0 p0) (i0 : Nat) (ah : aC) (ay : List aR) (_aP : List.length ay ≤ i0) (bC : (decide ((i0 : Int) < ((List.length (Q1c Q11 (Q47 p0)).1) : Int))) = false) : Qjl p0 (Qhq p0 i0 ah ay) (ah, ay) := by
 exact ⟨(envF (Quz p0 i0 ah ay)), (zoF (Qnn p0 i0 ah ay)), Qh (Q16j p0 i0 ah ay) (x := ((.exit 0), Qsx p0 ah ay (envF (Quz p0 i0 ah ay)) (zoF (Qnn p0 i0 ah ay)))) [hP 2 (Qs _ _ (Val.Q5 (Q1c Q11 (Q47 p0)).1)), hB 0 bC] [] (by kernel_rfl)⟩
theorem Q1c3 (p0 : aA) (H : Qe0 p0) (x0 : Val) (i0 : Nat) (ah : aC) (ay : List aR) (bF : (Q1c Q11 (Q47 p0)).1[i0]? = some x0) (bR : i0 < List.length (Q1c Q11 (Q47 p0)).1) (aP : List.length ay ≤ i0) (bC : (decide ((i0 : Int) < ((List.length (Q1c Q11 (Q47 p0)).1) : Int))) = true) {r : Rs} (hr : Q0 G (Qhq p0 (i0 + 1) (Q66 (!(Qi Q48 (Q4c Q12 (Q3u x0)).2).2.iw) ah) (ay ++ [(aR.mk (Q4c Q12 (Q3u x0)).1 (Qi Q48 (Q4c Q12 (Q3u x0)).2).1)])) r) : Q0 G (Qhq p0 i0 ah ay) r := by
 have hB0 := H.1
 exact Qc (Q16j p0 i0 ah ay) [hP 2 (Qs _ _ (Val.Q5 (Q1c Q11 (Q47 p0)).1)), hB 0 bC, hP 2 (Q1l 5 _ i0 _ (Val.Qb bF) rfl), hA 11 12 1101 1165 2 24 0 0 true aR.Q5 aR.Q1n ay (aR.mk (Q4c Q12 (Q3u x0)).1 (Qi Q48 (Q4c Q12 (Q3u x0)).2).1) (aR.Qw ay) rfl rfl (by omega), hS 0 true (aR.Q8 (ay ++ [(aR.mk (Q4c Q12 (Q3u x0)).1 (Qi Q48 (Q4c Q12 (Q3u x0)).2).1)]) 2 rfl), hP 10 (Q26 i0 (by omega))] [aN (Q15c x0), aN (Qz5 Q12 (Q3u x0) (H.2.1 x0 (Q1i bF))), aN (Q3e Q48 (Q4c Q12 (Q3u x0)).2 (H.2.2.1 x0 (Q1i bF))), aN (Qg5 (!(Qi Q48 (Q4c Q12 (Q3u x0)).2).2.iw) ah)] hr (by kernel_rfl)
theorem Q12x (p0 : aA) (H : Qe0 p0) : ∀ (r0 : List Val) (i0 : Nat) (ah : aC) (ay : List aR), List.drop i0 (Q1c Q11 (Q47 p0)).1 = r0 → List.length ay ≤ i0 → Qjl p0 (Qhq p0 i0 ah ay) (Q5n p0 r0 i0 ah ay)
 | [], i0, ah, ay, hd, aP => by
  have bC : (decide ((i0 : Int) < ((List.length (Q1c Q11 (Q47 p0)).1) : Int))) = false := by have := Q1o hd; simp; omega
  rw [Q5n]
  exact Q1ed p0 H i0 ah ay aP bC
 | x0 :: r0, i0, ah, ay, hd, aP => by
  obtain ⟨bF, bR, hd'⟩ := Q1p hd
  have bC : (decide ((i0 : Int) < ((List.length (Q1c Q11 (Q47 p0)).1) : Int))) = true := by simp; omega
  rw [Q5n]
  exact Qxd p0 (fun r hr => Q1c3 p0 H x0 i0 ah ay bF bR aP bC hr) _ (Q12x p0 H r0 _ _ _ hd' (by first | omega | (simp; omega)))
def Qkb (p0 : aA) : aC :=
  (Q5n p0 (Q1c Q11 (Q47 p0)).1 0 (Q1c Q11 (Q47 p0)).2 []).1
def Q1my (p0 : aA) : aT × Int := aT.R p0
theorem Q19j (p0 : aA) : ∀ (l : List Val) (i : Nat) (b : aC) (a : List aR), Q5n p0 l i b a = (bd b (l.all fun x => (aR.dec x).2), a ++ l.map (fun x => (aR.dec x).1))
  | [], _, b, a => by rw [Q5n, List.map_nil, List.append_nil, List.all_nil, Qo3]
  | x :: l, i, b, a => by
    rw [Q5n]
    refine Eq.trans ?_ ((Q19j p0 l (i + 1) (bd b (aR.dec x).2) (a ++ [(aR.dec x).1])).trans (by rw [Q9q]; simp only [List.append_assoc, List.singleton_append, List.map_cons, List.all_cons]))
    have e : (isM x && ((dS x Q12).2 && ((dN x Q48).2))) = (aR.dec x).2 := by simp only [aR.dec, Bool.and_assoc, Bool.and_comm]
    simp only [Q3u, Q66, Qi, Q4c, Q9q, v_bd, Qf0, Bool.and_assoc]
    rw [e]
    rfl
theorem Q2bo (p0 : aA) : Q1my p0 = (bif (Qan (Qka p0) (Qkb p0)) then
    ((aT.mk (bJ.mk eB eB eB 0 0 0 0 false 0 [] [] [] []) [] [] [] 0 0 0 0 0 []), 6)
  else
    ((aT.mk p0.aI (Qao (Q2t p0 Q2u).1).1 (Q9l Q29 (Qg8 p0)).1 (Q9l Q1s (Qcm p0)).1 (Qi Qr (Q2t p0 Q2u).2).1 (Qi Q3r (Qg9 p0)).1 (Qi Q3q (Qga p0)).1 (Qi Q37 (Qgb p0)).1 (Qi Q3p (Qgc p0)).1 (Q5n p0 (Q1c Q11 (Q47 p0)).1 0 (Q1c Q11 (Q47 p0)).2 []).2), 0)) := by
  simp only [Qg8, Qcm, Qg9, Qga, Qgb, Qgc, Q47, Qka, Qkb, Q2t, Qan, Qi, Q1c, Qao, Q9l, Q9q, v_bd, Q19j, Q11g, not_or, List.nil_append]
  refine aT.R_of ?_ (fun h => ?_)
  · unfold aT.ok
    simp only [← au.rE2]
    try simp only [xE, aL.dec]
    rw [Bool.eq_iff_iff]
    simp only [Bool.and_eq_true]
    exact ⟨fun h => by simp only [h, and_self], fun h => by simp only [h, and_self]⟩
  · unfold aT.ok at h
    simp only [Bool.and_eq_true] at h
    unfold aT.of
    rw [← (Qo2 au.agr (prt p0.aO Q6)).2 h.2.2.2.2.2.1]
    all_goals rfl
def Q28k (p0 : aA) : En := .call 52 [.agg (aA.cells p0)] []
def Q1xs (p0 : aA) : Rs := .ret (.tup [.agg (aT.cells (Q1my p0).1), iN (Q1my p0).2]) []
def Q1ki (p0 : aA) : Prop := aA.sm p0
theorem Q4p (p0 : aA) (H : Q1ki p0) : (Q1ko (Q2t p0 Q2u).1) ∧ (Q1km (Qg8 p0)) ∧ (Q1km (Qcm p0)) ∧ (Q4w (Q2t p0 Q2u).2) ∧ (Q4w (Qg9 p0)) ∧ (Q4w (Qga p0)) ∧ (Q4w (Qgb p0)) ∧ (Q4w (Qgc p0)) ∧ (Q142 (Q47 p0)) ∧ (Qe0 p0) ∧ True := by
  exact ⟨(by first | exact True.intro | exact H.1 | exact H.2 | exact Qg H.1 _ | exact Qg H.2 _), (by first | exact True.intro | exact H.1 | exact H.2 | exact Qg H.1 _ | exact Qg H.2 _), (by first | exact True.intro | exact H.1 | exact H.2 | exact Qg H.1 _ | exact Qg H.2 _), (by first | exact True.intro | exact H.1 | exact H.2 | exact Qg H.1 _ | exact Qg H.2 _), (by first | exact True.intro | exact H.1 | exact H.2 | exact Qg H.1 _ | exact Qg H.2 _), (by first | exact True.intro | exact H.1 | exact H.2 | exact Qg H.1 _ | exact Qg H.2 _), (by first | exact True.intro | exact H.1 | exact H.2 | exact Qg H.1 _ | exact Qg H.2 _), (by first | exact True.intro | exact H.1 | exact H.2 | exact Qg H.1 _ | exact Qg H.2 _), (by first | exact True.intro | exact H.1 | exact H.2 | exact Qg H.1 _ | exact Qg H.2 _), (by
    have hl := Q71 (Qg H.2 Q11)
    unfold Qe0
    refine ⟨Nat.le_trans hl.1 (Nat.le_of_ble_eq_true rfl), ?_⟩
    repeat' with_reducible apply And.intro
    all_goals first | exact True.intro | exact hl.2), trivial⟩
theorem Q2fw (p0 : aA) (H : Q1ki p0) : Q0 G (Q28k p0) (Q1xs p0) := by
 unfold Q1xs
 rw [Q2bo]
 have hl0 := Q12x p0 ((Q4p p0 H).2.2.2.2.2.2.2.2.2.1) (Q1c Q11 (Q47 p0)).1 0 (Q1c Q11 (Q47 p0)).2 [] (by simp) (by simp)
 obtain ⟨z0, fA, hl0⟩ := hl0
 cases h0 : (Qan (Qka p0) (Qkb p0)) with
 | true =>
  exact Q7 (fn := Ir.K3x) (by kernel_rfl) VOK.nil [hS 0 true (aR.Q8 (Q5n p0 (Q1c Q11 (Q47 p0)).1 0 (Q1c Q11 (Q47 p0)).2 []).2 2 rfl)] [aN (Qpi p0 Q2u), aN (Q1n4 (Q2t p0 Q2u).1 (Q4p p0 H).1), aN (Q1n3 Q29 (Qg8 p0) (Q4p p0 H).2.1), aN (Q1n3 Q1s (Qcm p0) (Q4p p0 H).2.2.1), aN (Q3e Qr (Q2t p0 Q2u).2 (Q4p p0 H).2.2.2.1), aN (Q3e Q3r (Qg9 p0) (Q4p p0 H).2.2.2.2.1), aN (Q3e Q3q (Qga p0) (Q4p p0 H).2.2.2.2.2.1), aN (Q3e Q37 (Qgb p0) (Q4p p0 H).2.2.2.2.2.2.1), aN (Q3e Q3p (Qgc p0) (Q4p p0 H).2.2.2.2.2.2.2.1), aN (Q13w Q11 (Q47 p0) (Q4p p0 H).2.2.2.2.2.2.2.2.1), aV [(12, aR.rows (Q5n p0 (Q1c Q11 (Q47 p0)).1 0 (Q1c Q11 (Q47 p0)).2 []).2)] hl0, aN (toldOf (Qph (Qka p0) (Qkb p0)) (congrArg (fun b => Qgs (Qka p0) (Qkb p0) b) h0))] (by kernel_rfl)
 | false =>
  exact Q7 (fn := Ir.K3x) (by kernel_rfl) VOK.nil [hS 0 true (aR.Q8 (Q5n p0 (Q1c Q11 (Q47 p0)).1 0 (Q1c Q11 (Q47 p0)).2 []).2 2 rfl), hQ (aR.Q5 (Q5n p0 (Q1c Q11 (Q47 p0)).1 0 (Q1c Q11 (Q47 p0)).2 []).2).symm] [aN (Qpi p0 Q2u), aN (Q1n4 (Q2t p0 Q2u).1 (Q4p p0 H).1), aN (Q1n3 Q29 (Qg8 p0) (Q4p p0 H).2.1), aN (Q1n3 Q1s (Qcm p0) (Q4p p0 H).2.2.1), aN (Q3e Qr (Q2t p0 Q2u).2 (Q4p p0 H).2.2.2.1), aN (Q3e Q3r (Qg9 p0) (Q4p p0 H).2.2.2.2.1), aN (Q3e Q3q (Qga p0) (Q4p p0 H).2.2.2.2.2.1), aN (Q3e Q37 (Qgb p0) (Q4p p0 H).2.2.2.2.2.2.1), aN (Q3e Q3p (Qgc p0) (Q4p p0 H).2.2.2.2.2.2.2.1), aN (Q13w Q11 (Q47 p0) (Q4p p0 H).2.2.2.2.2.2.2.2.1), aV [(12, aR.rows (Q5n p0 (Q1c Q11 (Q47 p0)).1 0 (Q1c Q11 (Q47 p0)).2 []).2)] hl0, aN (toldOf (Qph (Qka p0) (Qkb p0)) (congrArg (fun b => Qgs (Qka p0) (Qkb p0) b) h0))] (by kernel_rfl)
theorem aF.R_of {o : aA} {b : Bool} {x : aF} (h1 : aF.ok o = b) (h2 : aF.ok o = true → aF.of o = x) : aF.R o = bif !b then (aF.z, 6) else (x, 0) := by
  unfold aF.R
  rw [← h1]
  cases h : aF.ok o with
  | true => rw [h2 h]; rfl
  | false => rfl
def Qck (p0 : aA) : aC :=
  (Q4c Q2h (Q2t p0 Q1h).1).2
def Qcl (p0 : aA) : aC :=
  (Q4c Q1w (Qck p0)).2
def Qcn (p0 : aA) : aC :=
  (Qi Q6e (Qcl p0)).2
def Qco (p0 : aA) : aC :=
  (Qi Q6d (Qcn p0)).2
def Qcp (p0 : aA) : aC :=
  (Qi Q2p (Qco p0)).2
def Qcr (p0 : aA) : aC :=
  (Qi Q2y (Qcp p0)).2
def Q7r (p0 : aA) : aC :=
  (Qi Q2g (Qcr p0)).2
def Q93 (p0 : aA) : aC :=
  (Qcf Q44 (Q7r p0))
def Q7s (p0 : aA) : aC :=
  (Q52 (Q7r p0) (Q93 p0)).2.1
def Q94 (p0 : aA) : aC :=
  (Qcf Q36 (Q7s p0))
def Q9c (p0 : aA) : aC :=
  (Q52 (Q7s p0) (Q94 p0)).2.1
def Q24 (p0 : aA) : aC :=
  (Qi Q1z (Q9c p0)).2
def Q1p3 (p0 : aA) : aC :=
  (Q1c Qp (Q24 p0)).2
def Q3b (p0 : aA) : aC :=
  (Qi Q3n (Q2t p0 Q1h).2).2
def Q1p4 (p0 : aA) : aC :=
  (Q1c Q1u (Q3b p0)).2
def Q3s (p0 : aA) : List Val → Nat → aC → (List aX) → aC × (List aX)
 | [], _i0, ah, ay =>
  (ah, ay)
 | x0 :: r0, i0, ah, ay =>
  Q3s p0 r0 (i0 + 1) (Q66 (!(Qi Q1w (Q4c Ql (Q3u x0)).2).2.iw) ah) (ay ++ [(aX.mk (Q4c Ql (Q3u x0)).1 (Qi Q1w (Q4c Ql (Q3u x0)).2).1)])
def Q1fw (p0 : aA) (i0 : Nat) (_ah : aC) (_ay : List aX) : List PV :=
  [.un, .un, .bx 0 0, .un, .bx 1 0, .bx 2 0, .bx 3 0, .sl (Val.rows (Q1c Qp (Q24 p0)).1), iN (i0 : Int)] ++ nuns 102
def Q102 (p0 : aA) (_i0 : Nat) (ah : aC) (ay : List aX) : List Ob :=
  [⟨28, 0, true, [.str eB, .str eB, .str eB, iN 0, iN 0, iN 0, iN 0, .bool false, iN 0, .ms 4 2 0 0, .ms 5 5 0 0, .ms 6 1 0 0, .ms 7 2 0 0, .str eB, .str eB, iN 0, iN 0, .ms 8 2 0 0, iN 0, iN 0, iN 0, .bool false, iN 0, .bool false, iN 0, iN 0, .ms 9 2 0 0, iN 0]⟩, ⟨6, 0, false, (aC.cells ah)⟩, ⟨6, 0, false, (aC.cells (Qi Q3n (Q2t p0 Q1h).2).2)⟩, ⟨28, 0, true, [.str p0.aI.kind, .str p0.aI.bM, .str p0.aI.name, iN p0.aI.gY, iN p0.aI.dn, iN p0.aI.bQ, iN p0.aI.cZ, .bool p0.aI.bY, iN p0.aI.bX, .sl (aU.rows p0.aI.bK), .sl (bS.rows p0.aI.bO), .sl (Q15 p0.aI.bI), .sl (bB.rows p0.aI.aW), .str (Q4c Q2h (Q2t p0 Q1h).1).1, .str (Q4c Q1w (Qck p0)).1, iN (Qi Q6e (Qcl p0)).1, iN (Qi Q6d (Qcn p0)).1, .ms 10 2 0 (List.length ay), iN (Qi Q2p (Qco p0)).1, iN (Qi Q2y (Qcp p0)).1, iN (Qi Q2g (Qcr p0)).1, .bool (Q52 (Q7r p0) (Q93 p0)).1.dM, iN (Q52 (Q7r p0) (Q93 p0)).1.n, .bool (Q52 (Q7s p0) (Q94 p0)).1.dM, iN (Q52 (Q7s p0) (Q94 p0)).1.n, iN (Qi Q1z (Q9c p0)).1, .ms 11 2 0 0, iN (Qi Q3n (Q2t p0 Q1h).2).1]⟩, ⟨2, 0, true, []⟩, ⟨5, 0, true, []⟩, ⟨1, 0, true, []⟩, ⟨2, 0, true, []⟩, ⟨2, 0, true, []⟩, ⟨2, 0, true, []⟩, ⟨2, 0, true, (aX.rows ay).flatten⟩, ⟨2, 0, true, []⟩]
def Qho (p0 : aA) (i0 : Nat) (ah : aC) (ay : List aX) : En := .loop 0 Ir.Qlq Ir.Q1ob (Q1fw p0 i0 ah ay) (Q102 p0 i0 ah ay)
def Qsv (p0 : aA) (q0 : aC) (q1 : List aX) (z : Nat → PV) (_zo : Nat → List PV) : St :=
  ⟨[z 0, z 1, .bx 0 0, z 3, .bx 1 0, .bx 2 0, .bx 3 0] ++ zr z 7 104, [(0, ⟨28, 0, true, [.str eB, .str eB, .str eB, iN 0, iN 0, iN 0, iN 0, .bool false, iN 0, .ms 4 2 0 0, .ms 5 5 0 0, .ms 6 1 0 0, .ms 7 2 0 0, .str eB, .str eB, iN 0, iN 0, .ms 8 2 0 0, iN 0, iN 0, iN 0, .bool false, iN 0, .bool false, iN 0, iN 0, .ms 9 2 0 0, iN 0]⟩), (1, ⟨6, 0, false, (aC.cells q0)⟩), (2, ⟨6, 0, false, (aC.cells (Qi Q3n (Q2t p0 Q1h).2).2)⟩), (3, ⟨28, 0, true, [.str p0.aI.kind, .str p0.aI.bM, .str p0.aI.name, iN p0.aI.gY, iN p0.aI.dn, iN p0.aI.bQ, iN p0.aI.cZ, .bool p0.aI.bY, iN p0.aI.bX, .sl (aU.rows p0.aI.bK), .sl (bS.rows p0.aI.bO), .sl (Q15 p0.aI.bI), .sl (bB.rows p0.aI.aW), .str (Q4c Q2h (Q2t p0 Q1h).1).1, .str (Q4c Q1w (Qck p0)).1, iN (Qi Q6e (Qcl p0)).1, iN (Qi Q6d (Qcn p0)).1, .ms 10 2 0 (List.length q1), iN (Qi Q2p (Qco p0)).1, iN (Qi Q2y (Qcp p0)).1, iN (Qi Q2g (Qcr p0)).1, .bool (Q52 (Q7r p0) (Q93 p0)).1.dM, iN (Q52 (Q7r p0) (Q93 p0)).1.n, .bool (Q52 (Q7s p0) (Q94 p0)).1.dM, iN (Q52 (Q7s p0) (Q94 p0)).1.n, iN (Qi Q1z (Q9c p0)).1, .ms 11 2 0 0, iN (Qi Q3n (Q2t p0 Q1h).2).1]⟩), (4, ⟨2, 0, true, []⟩), (5, ⟨5, 0, true, []⟩), (6, ⟨1, 0, true, []⟩), (7, ⟨2, 0, true, []⟩), (8, ⟨2, 0, true, []⟩), (9, ⟨2, 0, true, []⟩), (10, ⟨2, 0, true, (aX.rows q1).flatten⟩), (11, ⟨2, 0, true, []⟩)], 268⟩
theorem Q16h (p0 : aA) (i0 : Nat) (ah : aC) (ay : List aX) : VOK (Go.Pv.look (number 0 (Q102 p0 i0 ah ay))) [(10, aX.rows ay)] := (VOK.cons (show Seen _ _ from Q4a (ob := ⟨2, 0, true, (aX.rows ay).flatten⟩) (aX.Q8 ay 2 rfl)) VOK.nil)
def Qjj (p0 : aA) (e : En) (q : aC × (List aX)) : Prop := ∃ z zo, Q0 G e (.st (.exit 0) (Qsv p0 q.1 q.2 z zo))
theorem Qxb (p0 : aA) {e e' : En} (h : ∀ r, Q0 G e r → Q0 G e' r) : ∀ q, Qjj p0 e q → Qjj p0 e' q
  | _, ⟨z, zo, hz⟩ => ⟨z, zo, h _ hz⟩
def Qdy (p0 : aA) : Prop := (List.length (Q1c Qp (Q24 p0)).1 ≤ 137438953472) ∧ (∀ x0 ∈ (Q1c Qp (Q24 p0)).1, Q143 (Q3u x0)) ∧ (∀ x0 ∈ (Q1c Qp (Q24 p0)).1, Q4w (Q4c Ql (Q3u x0)).2) ∧ True
def Qux (p0 : aA) (i0 : Nat) (_ah : aC) (_ay : List aX) : List PV :=
  nuns 7 ++ [.sl (Val.rows (Q1c Qp (Q24 p0)).1), iN (i0 : Int)] ++ nuns 39 ++ [iN (i0 : Int), .sl (Val.rows (Q1c Qp (Q24 p0)).1), iN ((List.length (Q1c Qp (Q24 p0)).1) : Int), .bool false]
def Qnl (_p0 : aA) (_i0 : Nat) (_ah : aC) (_ay : List aX) : List (Nat × List PV) :=
  []
theorem Q1eb (p0 : aA) (_H : Qdy p0) (i0 : Nat) (ah : aC) (ay : List aX) (_aP : List.length ay ≤ i0) (bC : (decide ((i0 : Int) < ((List.length (Q1c Qp (Q24 p0)).1) : Int))) = false) : Qjj p0 (Qho p0 i0 ah ay) (ah, ay) := by
 exact ⟨(envF (Qux p0 i0 ah ay)), (zoF (Qnl p0 i0 ah ay)), Qh (Q16h p0 i0 ah ay) (x := ((.exit 0), Qsv p0 ah ay (envF (Qux p0 i0 ah ay)) (zoF (Qnl p0 i0 ah ay)))) [hP 2 (Qs _ _ (Val.Q5 (Q1c Qp (Q24 p0)).1)), hB 0 bC] [] (by kernel_rfl)⟩
theorem Q1c1 (p0 : aA) (H : Qdy p0) (x0 : Val) (i0 : Nat) (ah : aC) (ay : List aX) (bF : (Q1c Qp (Q24 p0)).1[i0]? = some x0) (bR : i0 < List.length (Q1c Qp (Q24 p0)).1) (aP : List.length ay ≤ i0) (bC : (decide ((i0 : Int) < ((List.length (Q1c Qp (Q24 p0)).1) : Int))) = true) {r : Rs} (hr : Q0 G (Qho p0 (i0 + 1) (Q66 (!(Qi Q1w (Q4c Ql (Q3u x0)).2).2.iw) ah) (ay ++ [(aX.mk (Q4c Ql (Q3u x0)).1 (Qi Q1w (Q4c Ql (Q3u x0)).2).1)])) r) : Q0 G (Qho p0 i0 ah ay) r := by
 have hB0 := H.1
 exact Qc (Q16h p0 i0 ah ay) [hP 2 (Qs _ _ (Val.Q5 (Q1c Qp (Q24 p0)).1)), hB 0 bC, hP 2 (Q1l 5 _ i0 _ (Val.Qb bF) rfl), hA 11 10 1100 1164 2 24 0 0 true aX.Q5 aX.Q1n ay (aX.mk (Q4c Ql (Q3u x0)).1 (Qi Q1w (Q4c Ql (Q3u x0)).2).1) (aX.Qw ay) rfl rfl (by omega), hS 0 true (aX.Q8 (ay ++ [(aX.mk (Q4c Ql (Q3u x0)).1 (Qi Q1w (Q4c Ql (Q3u x0)).2).1)]) 2 rfl), hP 10 (Q26 i0 (by omega))] [aN (Q15c x0), aN (Qz5 Ql (Q3u x0) (H.2.1 x0 (Q1i bF))), aN (Q3e Q1w (Q4c Ql (Q3u x0)).2 (H.2.2.1 x0 (Q1i bF))), aN (Qg5 (!(Qi Q1w (Q4c Ql (Q3u x0)).2).2.iw) ah)] hr (by kernel_rfl)
theorem Q12v (p0 : aA) (H : Qdy p0) : ∀ (r0 : List Val) (i0 : Nat) (ah : aC) (ay : List aX), List.drop i0 (Q1c Qp (Q24 p0)).1 = r0 → List.length ay ≤ i0 → Qjj p0 (Qho p0 i0 ah ay) (Q3s p0 r0 i0 ah ay)
 | [], i0, ah, ay, hd, aP => by
  have bC : (decide ((i0 : Int) < ((List.length (Q1c Qp (Q24 p0)).1) : Int))) = false := by have := Q1o hd; simp; omega
  rw [Q3s]
  exact Q1eb p0 H i0 ah ay aP bC
 | x0 :: r0, i0, ah, ay, hd, aP => by
  obtain ⟨bF, bR, hd'⟩ := Q1p hd
  have bC : (decide ((i0 : Int) < ((List.length (Q1c Qp (Q24 p0)).1) : Int))) = true := by simp; omega
  rw [Q3s]
  exact Qxb p0 (fun r hr => Q1c1 p0 H x0 i0 ah ay bF bR aP bC hr) _ (Q12v p0 H r0 _ _ _ hd' (by first | omega | (simp; omega)))
def Qcv (p0 : aA) : aC :=
  (Q3s p0 (Q1c Qp (Q24 p0)).1 0 (Q1c Qp (Q24 p0)).2 []).1
def Q5m (p0 : aA) : List Val → Nat → aC → (List aZ) → aC × (List aZ)
 | [], _i1, bL, dU =>
  (bL, dU)
 | x1 :: r1, i1, bL, dU =>
  Q5m p0 r1 (i1 + 1) (Q66 (!(Qi Qf (Qi Q48 (Q3u x1)).2).2.iw) bL) (dU ++ [(aZ.mk (Qi Q48 (Q3u x1)).1 (Qi Qf (Qi Q48 (Q3u x1)).2).1)])
def Q1fx (p0 : aA) (i1 : Nat) (_bL : aC) (_dU : List aZ) : List PV :=
  [.un, .un, .bx 0 0, .un, .bx 1 0, .bx 2 0, .bx 3 0, .sl (Val.rows (Q1c Q1u (Q3b p0)).1), .un, .un, iN (i1 : Int)] ++ nuns 100
def Q103 (p0 : aA) (_i1 : Nat) (bL : aC) (dU : List aZ) : List Ob :=
  [⟨28, 0, true, [.str eB, .str eB, .str eB, iN 0, iN 0, iN 0, iN 0, .bool false, iN 0, .ms 4 2 0 0, .ms 5 5 0 0, .ms 6 1 0 0, .ms 7 2 0 0, .str eB, .str eB, iN 0, iN 0, .ms 8 2 0 0, iN 0, iN 0, iN 0, .bool false, iN 0, .bool false, iN 0, iN 0, .ms 9 2 0 0, iN 0]⟩, ⟨6, 0, false, (aC.cells (Q3s p0 (Q1c Qp (Q24 p0)).1 0 (Q1c Qp (Q24 p0)).2 []).1)⟩, ⟨6, 0, false, (aC.cells bL)⟩, ⟨28, 0, true, [.str p0.aI.kind, .str p0.aI.bM, .str p0.aI.name, iN p0.aI.gY, iN p0.aI.dn, iN p0.aI.bQ, iN p0.aI.cZ, .bool p0.aI.bY, iN p0.aI.bX, .sl (aU.rows p0.aI.bK), .sl (bS.rows p0.aI.bO), .sl (Q15 p0.aI.bI), .sl (bB.rows p0.aI.aW), .str (Q4c Q2h (Q2t p0 Q1h).1).1, .str (Q4c Q1w (Qck p0)).1, iN (Qi Q6e (Qcl p0)).1, iN (Qi Q6d (Qcn p0)).1, .ms 10 2 0 (List.length (Q3s p0 (Q1c Qp (Q24 p0)).1 0 (Q1c Qp (Q24 p0)).2 []).2), iN (Qi Q2p (Qco p0)).1, iN (Qi Q2y (Qcp p0)).1, iN (Qi Q2g (Qcr p0)).1, .bool (Q52 (Q7r p0) (Q93 p0)).1.dM, iN (Q52 (Q7r p0) (Q93 p0)).1.n, .bool (Q52 (Q7s p0) (Q94 p0)).1.dM, iN (Q52 (Q7s p0) (Q94 p0)).1.n, iN (Qi Q1z (Q9c p0)).1, .ms 11 2 0 (List.length dU), iN (Qi Q3n (Q2t p0 Q1h).2).1]⟩, ⟨2, 0, true, []⟩, ⟨5, 0, true, []⟩, ⟨1, 0, true, []⟩, ⟨2, 0, true, []⟩, ⟨2, 0, true, []⟩, ⟨2, 0, true, []⟩, ⟨2, 0, true, (aX.rows (Q3s p0 (Q1c Qp (Q24 p0)).1 0 (Q1c Qp (Q24 p0)).2 []).2).flatten⟩, ⟨2, 0, true, (aZ.rows dU).flatten⟩]
def Qhp (p0 : aA) (i1 : Nat) (bL : aC) (dU : List aZ) : En := .loop 0 Ir.Qlr Ir.Q1oc (Q1fx p0 i1 bL dU) (Q103 p0 i1 bL dU)
def Qsw (p0 : aA) (q0 : aC) (q1 : List aZ) (z : Nat → PV) (_zo : Nat → List PV) : St :=
  ⟨[z 0, z 1, .bx 0 0, z 3, .bx 1 0, .bx 2 0, .bx 3 0] ++ zr z 7 104, [(0, ⟨28, 0, true, [.str eB, .str eB, .str eB, iN 0, iN 0, iN 0, iN 0, .bool false, iN 0, .ms 4 2 0 0, .ms 5 5 0 0, .ms 6 1 0 0, .ms 7 2 0 0, .str eB, .str eB, iN 0, iN 0, .ms 8 2 0 0, iN 0, iN 0, iN 0, .bool false, iN 0, .bool false, iN 0, iN 0, .ms 9 2 0 0, iN 0]⟩), (1, ⟨6, 0, false, (aC.cells (Q3s p0 (Q1c Qp (Q24 p0)).1 0 (Q1c Qp (Q24 p0)).2 []).1)⟩), (2, ⟨6, 0, false, (aC.cells q0)⟩), (3, ⟨28, 0, true, [.str p0.aI.kind, .str p0.aI.bM, .str p0.aI.name, iN p0.aI.gY, iN p0.aI.dn, iN p0.aI.bQ, iN p0.aI.cZ, .bool p0.aI.bY, iN p0.aI.bX, .sl (aU.rows p0.aI.bK), .sl (bS.rows p0.aI.bO), .sl (Q15 p0.aI.bI), .sl (bB.rows p0.aI.aW), .str (Q4c Q2h (Q2t p0 Q1h).1).1, .str (Q4c Q1w (Qck p0)).1, iN (Qi Q6e (Qcl p0)).1, iN (Qi Q6d (Qcn p0)).1, .ms 10 2 0 (List.length (Q3s p0 (Q1c Qp (Q24 p0)).1 0 (Q1c Qp (Q24 p0)).2 []).2), iN (Qi Q2p (Qco p0)).1, iN (Qi Q2y (Qcp p0)).1, iN (Qi Q2g (Qcr p0)).1, .bool (Q52 (Q7r p0) (Q93 p0)).1.dM, iN (Q52 (Q7r p0) (Q93 p0)).1.n, .bool (Q52 (Q7s p0) (Q94 p0)).1.dM, iN (Q52 (Q7s p0) (Q94 p0)).1.n, iN (Qi Q1z (Q9c p0)).1, .ms 11 2 0 (List.length q1), iN (Qi Q3n (Q2t p0 Q1h).2).1]⟩), (4, ⟨2, 0, true, []⟩), (5, ⟨5, 0, true, []⟩), (6, ⟨1, 0, true, []⟩), (7, ⟨2, 0, true, []⟩), (8, ⟨2, 0, true, []⟩), (9, ⟨2, 0, true, []⟩), (10, ⟨2, 0, true, (aX.rows (Q3s p0 (Q1c Qp (Q24 p0)).1 0 (Q1c Qp (Q24 p0)).2 []).2).flatten⟩), (11, ⟨2, 0, true, (aZ.rows q1).flatten⟩)], 268⟩
theorem Q16i (p0 : aA) (i1 : Nat) (bL : aC) (dU : List aZ) : VOK (Go.Pv.look (number 0 (Q103 p0 i1 bL dU))) [(10, aX.rows (Q3s p0 (Q1c Qp (Q24 p0)).1 0 (Q1c Qp (Q24 p0)).2 []).2), (11, aZ.rows dU)] := (VOK.cons (show Seen _ _ from Q4a (ob := ⟨2, 0, true, (aX.rows (Q3s p0 (Q1c Qp (Q24 p0)).1 0 (Q1c Qp (Q24 p0)).2 []).2).flatten⟩) (aX.Q8 (Q3s p0 (Q1c Qp (Q24 p0)).1 0 (Q1c Qp (Q24 p0)).2 []).2 2 rfl)) (VOK.cons (show Seen _ _ from Q4a (ob := ⟨2, 0, true, (aZ.rows dU).flatten⟩) (aZ.Q8 dU 2 rfl)) VOK.nil))
def Qjk (p0 : aA) (e : En) (q : aC × (List aZ)) : Prop := ∃ z zo, Q0 G e (.st (.exit 2) (Qsw p0 q.1 q.2 z zo))
theorem Qxc (p0 : aA) {e e' : En} (h : ∀ r, Q0 G e r → Q0 G e' r) : ∀ q, Qjk p0 e q → Qjk p0 e' q
  | _, ⟨z, zo, hz⟩ => ⟨z, zo, h _ hz⟩
def Qdz (p0 : aA) : Prop := (List.length (Q1c Q1u (Q3b p0)).1 ≤ 137438953472) ∧ (∀ x1 ∈ (Q1c Q1u (Q3b p0)).1, Q4w (Q3u x1)) ∧ (∀ x1 ∈ (Q1c Q1u (Q3b p0)).1, Q4w (Qi Q48 (Q3u x1)).2) ∧ True
def Quy (p0 : aA) (i1 : Nat) (_bL : aC) (_dU : List aZ) : List PV :=
  nuns 7 ++ [.sl (Val.rows (Q1c Q1u (Q3b p0)).1), .un, .un, iN (i1 : Int)] ++ nuns 67 ++ [iN (i1 : Int), .sl (Val.rows (Q1c Q1u (Q3b p0)).1), iN ((List.length (Q1c Q1u (Q3b p0)).1) : Int), .bool false]
def Qnm (_p0 : aA) (_i1 : Nat) (_bL : aC) (_dU : List aZ) : List (Nat × List PV) :=
  []
theorem Q1ec (p0 : aA) (_H : Qdz p0) (i1 : Nat) (bL : aC) (dU : List aZ) (_fB : List.length dU ≤ i1) (hc1 : (decide ((i1 : Int) < ((List.length (Q1c Q1u (Q3b p0)).1) : Int))) = false) : Qjk p0 (Qhp p0 i1 bL dU) (bL, dU) := by
 exact ⟨(envF (Quy p0 i1 bL dU)), (zoF (Qnm p0 i1 bL dU)), Qh (Q16i p0 i1 bL dU) (x := ((.exit 2), Qsw p0 bL dU (envF (Quy p0 i1 bL dU)) (zoF (Qnm p0 i1 bL dU)))) [hP 2 (Qs _ _ (Val.Q5 (Q1c Q1u (Q3b p0)).1)), hB 0 hc1] [] (by kernel_rfl)⟩
theorem Q1c2 (p0 : aA) (H : Qdz p0) (x1 : Val) (i1 : Nat) (bL : aC) (dU : List aZ) (fQ : (Q1c Q1u (Q3b p0)).1[i1]? = some x1) (iJ : i1 < List.length (Q1c Q1u (Q3b p0)).1) (fB : List.length dU ≤ i1) (hc1 : (decide ((i1 : Int) < ((List.length (Q1c Q1u (Q3b p0)).1) : Int))) = true) {r : Rs} (hr : Q0 G (Qhp p0 (i1 + 1) (Q66 (!(Qi Qf (Qi Q48 (Q3u x1)).2).2.iw) bL) (dU ++ [(aZ.mk (Qi Q48 (Q3u x1)).1 (Qi Qf (Qi Q48 (Q3u x1)).2).1)])) r) : Q0 G (Qhp p0 i1 bL dU) r := by
 have hB0 := H.1
 exact Qc (Q16i p0 i1 bL dU) [hP 2 (Qs _ _ (Val.Q5 (Q1c Q1u (Q3b p0)).1)), hB 0 hc1, hP 2 (Q1l 5 _ i1 _ (Val.Qb fQ) rfl), hA 11 11 1100 1164 2 16 0 0 true aZ.Q5 aZ.Q1n dU (aZ.mk (Qi Q48 (Q3u x1)).1 (Qi Qf (Qi Q48 (Q3u x1)).2).1) (aZ.Qw dU) rfl rfl (by omega), hS 0 true (aZ.Q8 (dU ++ [(aZ.mk (Qi Q48 (Q3u x1)).1 (Qi Qf (Qi Q48 (Q3u x1)).2).1)]) 2 rfl), hP 10 (Q26 i1 (by omega))] [aN (Q15c x1), aN (Q3e Q48 (Q3u x1) (H.2.1 x1 (Q1i fQ))), aN (Q3e Qf (Qi Q48 (Q3u x1)).2 (H.2.2.1 x1 (Q1i fQ))), aN (Qg5 (!(Qi Qf (Qi Q48 (Q3u x1)).2).2.iw) bL)] hr (by kernel_rfl)
theorem Q12w (p0 : aA) (H : Qdz p0) : ∀ (r1 : List Val) (i1 : Nat) (bL : aC) (dU : List aZ), List.drop i1 (Q1c Q1u (Q3b p0)).1 = r1 → List.length dU ≤ i1 → Qjk p0 (Qhp p0 i1 bL dU) (Q5m p0 r1 i1 bL dU)
 | [], i1, bL, dU, hd, fB => by
  have hc1 : (decide ((i1 : Int) < ((List.length (Q1c Q1u (Q3b p0)).1) : Int))) = false := by have := Q1o hd; simp; omega
  rw [Q5m]
  exact Q1ec p0 H i1 bL dU fB hc1
 | x1 :: r1, i1, bL, dU, hd, fB => by
  obtain ⟨fQ, iJ, hd'⟩ := Q1p hd
  have hc1 : (decide ((i1 : Int) < ((List.length (Q1c Q1u (Q3b p0)).1) : Int))) = true := by simp; omega
  rw [Q5m]
  exact Qxc p0 (fun r hr => Q1c2 p0 H x1 i1 bL dU fQ iJ fB hc1 hr) _ (Q12w p0 H r1 _ _ _ hd' (by first | omega | (simp; omega)))
def Qcw (p0 : aA) : aC :=
  (Q5m p0 (Q1c Q1u (Q3b p0)).1 0 (Q1c Q1u (Q3b p0)).2 []).1
def Q1mx (p0 : aA) : aF × Int := aF.R p0
theorem Q19h (p0 : aA) : ∀ (l : List Val) (i : Nat) (b : aC) (a : List aX), Q3s p0 l i b a = (bd b (l.all fun x => (aX.dec x).2), a ++ l.map (fun x => (aX.dec x).1))
  | [], _, b, a => by rw [Q3s, List.map_nil, List.append_nil, List.all_nil, Qo3]
  | x :: l, i, b, a => by
    rw [Q3s]
    refine Eq.trans ?_ ((Q19h p0 l (i + 1) (bd b (aX.dec x).2) (a ++ [(aX.dec x).1])).trans (by rw [Q9q]; simp only [List.append_assoc, List.singleton_append, List.map_cons, List.all_cons]))
    have e : (isM x && ((dS x Ql).2 && ((dN x Q1w).2))) = (aX.dec x).2 := by simp only [aX.dec, Bool.and_left_comm, Bool.and_comm]
    simp only [Q3u, Q66, Qi, Q4c, Q9q, v_bd, Qf0, Bool.and_assoc]
    rw [e]
    rfl
theorem Q19i (p0 : aA) : ∀ (l : List Val) (i : Nat) (b : aC) (a : List aZ), Q5m p0 l i b a = (bd b (l.all fun x => (aZ.dec x).2), a ++ l.map (fun x => (aZ.dec x).1))
  | [], _, b, a => by rw [Q5m, List.map_nil, List.append_nil, List.all_nil, Qo3]
  | x :: l, i, b, a => by
    rw [Q5m]
    refine Eq.trans ?_ ((Q19i p0 l (i + 1) (bd b (aZ.dec x).2) (a ++ [(aZ.dec x).1])).trans (by rw [Q9q]; simp only [List.append_assoc, List.singleton_append, List.map_cons, List.all_cons]))
    have e : (isM x && ((dN x Q48).2 && ((dN x Qf).2))) = (aZ.dec x).2 := by simp only [aZ.dec, Bool.and_assoc]
    simp only [Q3u, Q66, Qi, Q9q, v_bd, Qf0, Bool.and_assoc]
    rw [e]
    rfl
theorem Q2bn (p0 : aA) : Q1mx p0 = (bif (Qan (Qcv p0) (Qcw p0)) then
    ((aF.mk (bJ.mk eB eB eB 0 0 0 0 false 0 [] [] [] []) eB eB 0 0 [] 0 0 0 (aL.mk false 0) (aL.mk false 0) 0 [] 0), 6)
  else
    ((aF.mk p0.aI (Q4c Q2h (Q2t p0 Q1h).1).1 (Q4c Q1w (Qck p0)).1 (Qi Q6e (Qcl p0)).1 (Qi Q6d (Qcn p0)).1 (Q3s p0 (Q1c Qp (Q24 p0)).1 0 (Q1c Qp (Q24 p0)).2 []).2 (Qi Q2p (Qco p0)).1 (Qi Q2y (Qcp p0)).1 (Qi Q2g (Qcr p0)).1 (Q52 (Q7r p0) (Q93 p0)).1 (Q52 (Q7s p0) (Q94 p0)).1 (Qi Q1z (Q9c p0)).1 (Q5m p0 (Q1c Q1u (Q3b p0)).1 0 (Q1c Q1u (Q3b p0)).2 []).2 (Qi Q3n (Q2t p0 Q1h).2).1), 0)) := by
  simp only [Qck, Qcl, Qcn, Qco, Qcp, Qcr, Q7r, Q93, Q7s, Q94, Q9c, Q24, Q3b, Qcv, Qcw, Q2t, Qan, Qi, Q4c, Q1c, Qcf, Q52, Q9q, v_bd, Q19h, Q19i, Q11g, Bool.not_not, not_or, List.nil_append]
  refine aF.R_of ?_ (fun h => ?_)
  · unfold aF.ok
    try simp only [xE, aL.dec]
    rw [Bool.eq_iff_iff]
    simp only [Bool.and_eq_true]
    exact ⟨fun h => by simp only [h, and_self], fun h => by simp only [h, and_self]⟩
  · rfl
def Q28j (p0 : aA) : En := .call 53 [.agg (aA.cells p0)] []
def Q1xr (p0 : aA) : Rs := .ret (.tup [.agg (aF.cells (Q1mx p0).1), iN (Q1mx p0).2]) []
def Q1kh (p0 : aA) : Prop := aA.sm p0
theorem Q32 (p0 : aA) (H : Q1kh p0) : (Q143 (Q2t p0 Q1h).1) ∧ (Q143 (Qck p0)) ∧ (Q4w (Qcl p0)) ∧ (Q4w (Qcn p0)) ∧ (Q4w (Qco p0)) ∧ (Q4w (Qcp p0)) ∧ (Q4w (Qcr p0)) ∧ (Q144 (Q7r p0)) ∧ (Q141 (Q93 p0)) ∧ (Q144 (Q7s p0)) ∧ (Q141 (Q94 p0)) ∧ (Q4w (Q9c p0)) ∧ (Q4w (Q2t p0 Q1h).2) ∧ (Q142 (Q24 p0)) ∧ (Qdy p0) ∧ (Q142 (Q3b p0)) ∧ (Qdz p0) ∧ True := by
  exact ⟨(by first | exact True.intro | exact H.1 | exact H.2 | exact Qg H.1 _ | exact Qg H.2 _), (by first | exact True.intro | exact H.1 | exact H.2 | exact Qg H.1 _ | exact Qg H.2 _), (by first | exact True.intro | exact H.1 | exact H.2 | exact Qg H.1 _ | exact Qg H.2 _), (by first | exact True.intro | exact H.1 | exact H.2 | exact Qg H.1 _ | exact Qg H.2 _), (by first | exact True.intro | exact H.1 | exact H.2 | exact Qg H.1 _ | exact Qg H.2 _), (by first | exact True.intro | exact H.1 | exact H.2 | exact Qg H.1 _ | exact Qg H.2 _), (by first | exact True.intro | exact H.1 | exact H.2 | exact Qg H.1 _ | exact Qg H.2 _), (by first | exact True.intro | exact H.1 | exact H.2 | exact Qg H.1 _ | exact Qg H.2 _), (by first | exact True.intro | exact H.1 | exact H.2 | exact Qg H.1 _ | exact Qg H.2 _), (by first | exact True.intro | exact H.1 | exact H.2 | exact Qg H.1 _ | exact Qg H.2 _), (by first | exact True.intro | exact H.1 | exact H.2 | exact Qg H.1 _ | exact Qg H.2 _), (by first | exact True.intro | exact H.1 | exact H.2 | exact Qg H.1 _ | exact Qg H.2 _), (by first | exact True.intro | exact H.1 | exact H.2 | exact Qg H.1 _ | exact Qg H.2 _), (by first | exact True.intro | exact H.1 | exact H.2 | exact Qg H.1 _ | exact Qg H.2 _), (by
    have hl := Q71 (Qg H.1 Qp)
    unfold Qdy
    refine ⟨Nat.le_trans hl.1 (Nat.le_of_ble_eq_true rfl), ?_⟩
    repeat' with_reducible apply And.intro
    all_goals first | exact True.intro | exact hl.2), (by first | exact True.intro | exact H.1 | exact H.2 | exact Qg H.1 _ | exact Qg H.2 _), (by
    have hl := Q71 (Qg H.2 Q1u)
    unfold Qdz
    refine ⟨Nat.le_trans hl.1 (Nat.le_of_ble_eq_true rfl), ?_⟩
    repeat' with_reducible apply And.intro
    all_goals first | exact True.intro | exact hl.2), trivial⟩
theorem Q2fv (p0 : aA) (H : Q1kh p0) : Q0 G (Q28j p0) (Q1xr p0) := by
 unfold Q1xr
 rw [Q2bn]
 have hl0 := Q12v p0 ((Q32 p0 H).2.2.2.2.2.2.2.2.2.2.2.2.2.2.1) (Q1c Qp (Q24 p0)).1 0 (Q1c Qp (Q24 p0)).2 [] (by simp) (by simp)
 obtain ⟨z0, fA, hl0⟩ := hl0
 have hl1 := Q12w p0 ((Q32 p0 H).2.2.2.2.2.2.2.2.2.2.2.2.2.2.2.2.1) (Q1c Q1u (Q3b p0)).1 0 (Q1c Q1u (Q3b p0)).2 [] (by simp) (by simp)
 obtain ⟨z1, jd, hl1⟩ := hl1
 cases h0 : (Qan (Qcv p0) (Qcw p0)) with
 | true =>
  exact Q7 (fn := Ir.K3w) (by kernel_rfl) VOK.nil [hS 0 true (aX.Q8 (Q3s p0 (Q1c Qp (Q24 p0)).1 0 (Q1c Qp (Q24 p0)).2 []).2 2 rfl), hS 0 true (aX.Q8 (Q3s p0 (Q1c Qp (Q24 p0)).1 0 (Q1c Qp (Q24 p0)).2 []).2 2 rfl), hS 0 true (aZ.Q8 (Q5m p0 (Q1c Q1u (Q3b p0)).1 0 (Q1c Q1u (Q3b p0)).2 []).2 2 rfl)] [aN (Qpi p0 Q1h), aN (Qz5 Q2h (Q2t p0 Q1h).1 (Q32 p0 H).1), aN (Qz5 Q1w (Qck p0) (Q32 p0 H).2.1), aN (Q3e Q6e (Qcl p0) (Q32 p0 H).2.2.1), aN (Q3e Q6d (Qcn p0) (Q32 p0 H).2.2.2.1), aN (Q3e Q2p (Qco p0) (Q32 p0 H).2.2.2.2.1), aN (Q3e Q2y (Qcp p0) (Q32 p0 H).2.2.2.2.2.1), aN (Q3e Q2g (Qcr p0) (Q32 p0 H).2.2.2.2.2.2.1), aN (Qpk Q44 (Q7r p0) (Q32 p0 H).2.2.2.2.2.2.2.1), aN (Qz4 (Q7r p0) (Q93 p0) (Q32 p0 H).2.2.2.2.2.2.2.2.1), aN (Qpk Q36 (Q7s p0) (Q32 p0 H).2.2.2.2.2.2.2.2.2.1), aN (Qz4 (Q7s p0) (Q94 p0) (Q32 p0 H).2.2.2.2.2.2.2.2.2.2.1), aN (Q3e Q1z (Q9c p0) (Q32 p0 H).2.2.2.2.2.2.2.2.2.2.2.1), aN (Q3e Q3n (Q2t p0 Q1h).2 (Q32 p0 H).2.2.2.2.2.2.2.2.2.2.2.2.1), aN (Q13w Qp (Q24 p0) (Q32 p0 H).2.2.2.2.2.2.2.2.2.2.2.2.2.1), aV [(10, aX.rows (Q3s p0 (Q1c Qp (Q24 p0)).1 0 (Q1c Qp (Q24 p0)).2 []).2)] hl0, aN (Q13w Q1u (Q3b p0) (Q32 p0 H).2.2.2.2.2.2.2.2.2.2.2.2.2.2.2.1), aV [(10, aX.rows (Q3s p0 (Q1c Qp (Q24 p0)).1 0 (Q1c Qp (Q24 p0)).2 []).2), (11, aZ.rows (Q5m p0 (Q1c Q1u (Q3b p0)).1 0 (Q1c Q1u (Q3b p0)).2 []).2)] hl1, aN (toldOf (Qph (Qcv p0) (Qcw p0)) (congrArg (fun b => Qgs (Qcv p0) (Qcw p0) b) h0))] (by kernel_rfl)
 | false =>
  exact Q7 (fn := Ir.K3w) (by kernel_rfl) VOK.nil [hS 0 true (aX.Q8 (Q3s p0 (Q1c Qp (Q24 p0)).1 0 (Q1c Qp (Q24 p0)).2 []).2 2 rfl), hS 0 true (aX.Q8 (Q3s p0 (Q1c Qp (Q24 p0)).1 0 (Q1c Qp (Q24 p0)).2 []).2 2 rfl), hS 0 true (aZ.Q8 (Q5m p0 (Q1c Q1u (Q3b p0)).1 0 (Q1c Q1u (Q3b p0)).2 []).2 2 rfl), hQ (aX.Q5 (Q3s p0 (Q1c Qp (Q24 p0)).1 0 (Q1c Qp (Q24 p0)).2 []).2).symm, hQ (aZ.Q5 (Q5m p0 (Q1c Q1u (Q3b p0)).1 0 (Q1c Q1u (Q3b p0)).2 []).2).symm] [aN (Qpi p0 Q1h), aN (Qz5 Q2h (Q2t p0 Q1h).1 (Q32 p0 H).1), aN (Qz5 Q1w (Qck p0) (Q32 p0 H).2.1), aN (Q3e Q6e (Qcl p0) (Q32 p0 H).2.2.1), aN (Q3e Q6d (Qcn p0) (Q32 p0 H).2.2.2.1), aN (Q3e Q2p (Qco p0) (Q32 p0 H).2.2.2.2.1), aN (Q3e Q2y (Qcp p0) (Q32 p0 H).2.2.2.2.2.1), aN (Q3e Q2g (Qcr p0) (Q32 p0 H).2.2.2.2.2.2.1), aN (Qpk Q44 (Q7r p0) (Q32 p0 H).2.2.2.2.2.2.2.1), aN (Qz4 (Q7r p0) (Q93 p0) (Q32 p0 H).2.2.2.2.2.2.2.2.1), aN (Qpk Q36 (Q7s p0) (Q32 p0 H).2.2.2.2.2.2.2.2.2.1), aN (Qz4 (Q7s p0) (Q94 p0) (Q32 p0 H).2.2.2.2.2.2.2.2.2.2.1), aN (Q3e Q1z (Q9c p0) (Q32 p0 H).2.2.2.2.2.2.2.2.2.2.2.1), aN (Q3e Q3n (Q2t p0 Q1h).2 (Q32 p0 H).2.2.2.2.2.2.2.2.2.2.2.2.1), aN (Q13w Qp (Q24 p0) (Q32 p0 H).2.2.2.2.2.2.2.2.2.2.2.2.2.1), aV [(10, aX.rows (Q3s p0 (Q1c Qp (Q24 p0)).1 0 (Q1c Qp (Q24 p0)).2 []).2)] hl0, aN (Q13w Q1u (Q3b p0) (Q32 p0 H).2.2.2.2.2.2.2.2.2.2.2.2.2.2.2.1), aV [(10, aX.rows (Q3s p0 (Q1c Qp (Q24 p0)).1 0 (Q1c Qp (Q24 p0)).2 []).2), (11, aZ.rows (Q5m p0 (Q1c Q1u (Q3b p0)).1 0 (Q1c Q1u (Q3b p0)).2 []).2)] hl1, aN (toldOf (Qph (Qcv p0) (Qcw p0)) (congrArg (fun b => Qgs (Qcv p0) (Qcw p0) b) h0))] (by kernel_rfl)
end Go.Proofs.YtimjjohlpnkacaaGreat
end

section
/- What the law WorkcodecDecodes computes (printed by a program). -/
namespace Go.Proofs.YtimjjohlpnkacaaGreat
open Go.Pv
def s_K1 (p0 : aA) : Bool :=
 bif (s_K8 p0) then
  true
 else
  true
def c_K1 (p0 : aA) : En := .call 6 [.agg (aA.cells p0)] []
def a_K1 (p0 : aA) : Rs := .ret (.bool (s_K1 p0)) []
def H_K1 (p0 : aA) : Prop := (H_K8 p0) ∧ ((s_K8 p0) = true → Q1ku p0) ∧ ((s_K8 p0) = true → Q1j6 p0 = (aJ.R p0)) ∧ ((s_K8 p0) = true → Q1kk p0) ∧ ((s_K8 p0) = true → Q1n0 p0 = (aJ.R p0)) ∧ ((s_K8 p0) = true → Q1kf (aJ.R p0).1) ∧ ((s_K8 p0) = true → Qgn (Q1cq (aJ.R p0).1)) ∧ ((s_K8 p0) = true → Q1kv p0) ∧ ((s_K8 p0) = true → Q1j7 p0 = (bW.R p0)) ∧ ((s_K8 p0) = true → Q1kl p0) ∧ ((s_K8 p0) = true → Q1n1 p0 = (bW.R p0)) ∧ ((s_K8 p0) = true → Q1kg (bW.R p0).1) ∧ ((s_K8 p0) = true → Qgn (Q1cr (bW.R p0).1)) ∧ ((s_K8 p0) = true → Q1kt p0) ∧ ((s_K8 p0) = true → Q1j5 p0 = (aS.R p0)) ∧ ((s_K8 p0) = true → Q1kj p0) ∧ ((s_K8 p0) = true → Q1mz p0 = (aS.R p0)) ∧ ((s_K8 p0) = true → Q1ke (aS.R p0).1) ∧ ((s_K8 p0) = true → Qgn (Q1cp (aS.R p0).1)) ∧ ((s_K8 p0) = true → Q1ks p0) ∧ ((s_K8 p0) = true → Q1j4 p0 = (aT.R p0)) ∧ ((s_K8 p0) = true → Q1ki p0) ∧ ((s_K8 p0) = true → Q1my p0 = (aT.R p0)) ∧ ((s_K8 p0) = true → Q1kd (aT.R p0).1) ∧ ((s_K8 p0) = true → Qgn (Q1co (aT.R p0).1)) ∧ ((s_K8 p0) = true → Q1kr p0) ∧ ((s_K8 p0) = true → Q1j3 p0 = (aF.R p0)) ∧ ((s_K8 p0) = true → Q1kh p0) ∧ ((s_K8 p0) = true → Q1mx p0 = (aF.R p0)) ∧ ((s_K8 p0) = true → Q1kc (aF.R p0).1) ∧ ((s_K8 p0) = true → Qgn (Q1cn (aF.R p0).1)) ∧ True
theorem t_K1 (p0 : aA) (H : H_K1 p0) : Q0 G (c_K1 p0) (a_K1 p0) := by
 unfold a_K1 s_K1
 cases h0 : (s_K8 p0) with
 | true =>
  exact Q7 (fn := Ir.K1) (by kernel_rfl) VOK.nil [hP 23 (dec (!((aJ.R p0).2 == (aJ.R p0).2)) false (by rw [(beq_self_eq_true _)]; rfl)), hP 26 (dec (!((bW.R p0).2 == (bW.R p0).2)) false (by rw [(beq_self_eq_true _)]; rfl)), hP 26 (dec (!((aS.R p0).2 == (aS.R p0).2)) false (by rw [(beq_self_eq_true _)]; rfl)), hP 26 (dec (!((aT.R p0).2 == (aT.R p0).2)) false (by rw [(beq_self_eq_true _)]; rfl)), hP 26 (dec ((aF.R p0).2 == (aF.R p0).2) true (beq_self_eq_true _))] [aB (t_K8 p0 (H.1)) h0, aN (toldOf (Q2g8 p0 (H.2.1 h0)) (congrArg (fun z : aJ × Int => Rs.ret (.tup [.agg (aJ.cells z.1), iN z.2]) []) (H.2.2.1 h0))), aN (toldOf (Q2fy p0 (H.2.2.2.1 h0)) (congrArg (fun z : aJ × Int => Rs.ret (.tup [.agg (aJ.cells z.1), iN z.2]) []) (H.2.2.2.2.1 h0))), aN (Q20r (aJ.R p0).1 (H.2.2.2.2.2.1 h0)), aN (Q20r (aJ.R p0).1 (H.2.2.2.2.2.1 h0)), aN (Q8p (c := fun y => .call 17 [.agg (aA.cells (Q1cq (aJ.R p0).1)), .agg (aA.cells y)] []) rfl (Q1jb (Q1cq (aJ.R p0).1) (H.2.2.2.2.2.2.1 h0))), aN (toldOf (Q2g9 p0 (H.2.2.2.2.2.2.2.1 h0)) (congrArg (fun z : bW × Int => Rs.ret (.tup [.agg (bW.cells z.1), iN z.2]) []) (H.2.2.2.2.2.2.2.2.1 h0))), aN (toldOf (Q2fz p0 (H.2.2.2.2.2.2.2.2.2.1 h0)) (congrArg (fun z : bW × Int => Rs.ret (.tup [.agg (bW.cells z.1), iN z.2]) []) (H.2.2.2.2.2.2.2.2.2.2.1 h0))), aN (Q20s (bW.R p0).1 (H.2.2.2.2.2.2.2.2.2.2.2.1 h0)), aN (Q20s (bW.R p0).1 (H.2.2.2.2.2.2.2.2.2.2.2.1 h0)), aN (Q8p (c := fun y => .call 17 [.agg (aA.cells (Q1cr (bW.R p0).1)), .agg (aA.cells y)] []) rfl (Q1jb (Q1cr (bW.R p0).1) (H.2.2.2.2.2.2.2.2.2.2.2.2.1 h0))), aN (toldOf (Q2g7 p0 (H.2.2.2.2.2.2.2.2.2.2.2.2.2.1 h0)) (congrArg (fun z : aS × Int => Rs.ret (.tup [.agg (aS.cells z.1), iN z.2]) []) (H.2.2.2.2.2.2.2.2.2.2.2.2.2.2.1 h0))), aN (toldOf (Q2fx p0 (H.2.2.2.2.2.2.2.2.2.2.2.2.2.2.2.1 h0)) (congrArg (fun z : aS × Int => Rs.ret (.tup [.agg (aS.cells z.1), iN z.2]) []) (H.2.2.2.2.2.2.2.2.2.2.2.2.2.2.2.2.1 h0))), aN (Q20q (aS.R p0).1 (H.2.2.2.2.2.2.2.2.2.2.2.2.2.2.2.2.2.1 h0)), aN (Q20q (aS.R p0).1 (H.2.2.2.2.2.2.2.2.2.2.2.2.2.2.2.2.2.1 h0)), aN (Q8p (c := fun y => .call 17 [.agg (aA.cells (Q1cp (aS.R p0).1)), .agg (aA.cells y)] []) rfl (Q1jb (Q1cp (aS.R p0).1) (H.2.2.2.2.2.2.2.2.2.2.2.2.2.2.2.2.2.2.1 h0))), aN (toldOf (Q2g4 p0 (H.2.2.2.2.2.2.2.2.2.2.2.2.2.2.2.2.2.2.2.1 h0)) (congrArg (fun z : aT × Int => Rs.ret (.tup [.agg (aT.cells z.1), iN z.2]) []) (H.2.2.2.2.2.2.2.2.2.2.2.2.2.2.2.2.2.2.2.2.1 h0))), aN (toldOf (Q2fw p0 (H.2.2.2.2.2.2.2.2.2.2.2.2.2.2.2.2.2.2.2.2.2.1 h0)) (congrArg (fun z : aT × Int => Rs.ret (.tup [.agg (aT.cells z.1), iN z.2]) []) (H.2.2.2.2.2.2.2.2.2.2.2.2.2.2.2.2.2.2.2.2.2.2.1 h0))), aN (Q20p (aT.R p0).1 (H.2.2.2.2.2.2.2.2.2.2.2.2.2.2.2.2.2.2.2.2.2.2.2.1 h0)), aN (Q20p (aT.R p0).1 (H.2.2.2.2.2.2.2.2.2.2.2.2.2.2.2.2.2.2.2.2.2.2.2.1 h0)), aN (Q8p (c := fun y => .call 17 [.agg (aA.cells (Q1co (aT.R p0).1)), .agg (aA.cells y)] []) rfl (Q1jb (Q1co (aT.R p0).1) (H.2.2.2.2.2.2.2.2.2.2.2.2.2.2.2.2.2.2.2.2.2.2.2.2.1 h0))), aN (toldOf (Q2g1 p0 (H.2.2.2.2.2.2.2.2.2.2.2.2.2.2.2.2.2.2.2.2.2.2.2.2.2.1 h0)) (congrArg (fun z : aF × Int => Rs.ret (.tup [.agg (aF.cells z.1), iN z.2]) []) (H.2.2.2.2.2.2.2.2.2.2.2.2.2.2.2.2.2.2.2.2.2.2.2.2.2.2.1 h0))), aN (toldOf (Q2fv p0 (H.2.2.2.2.2.2.2.2.2.2.2.2.2.2.2.2.2.2.2.2.2.2.2.2.2.2.2.1 h0)) (congrArg (fun z : aF × Int => Rs.ret (.tup [.agg (aF.cells z.1), iN z.2]) []) (H.2.2.2.2.2.2.2.2.2.2.2.2.2.2.2.2.2.2.2.2.2.2.2.2.2.2.2.2.1 h0))), aN (Q20o (aF.R p0).1 (H.2.2.2.2.2.2.2.2.2.2.2.2.2.2.2.2.2.2.2.2.2.2.2.2.2.2.2.2.2.1 h0)), aN (Q20o (aF.R p0).1 (H.2.2.2.2.2.2.2.2.2.2.2.2.2.2.2.2.2.2.2.2.2.2.2.2.2.2.2.2.2.1 h0)), aN (Q8p (c := fun y => .call 17 [.agg (aA.cells (Q1cn (aF.R p0).1)), .agg (aA.cells y)] []) rfl (Q1jb (Q1cn (aF.R p0).1) (H.2.2.2.2.2.2.2.2.2.2.2.2.2.2.2.2.2.2.2.2.2.2.2.2.2.2.2.2.2.2.1 h0))), aN t_K6] (by kernel_rfl)
 | false =>
  exact Q7 (fn := Ir.K1) (by kernel_rfl) VOK.nil [] [aB (t_K8 p0 (H.1)) h0, aN t_K6] (by kernel_rfl)
def tysWorkcodecDecodes : List Ty := [Q10n]
theorem pureWorkcodecDecodes (hp : ∀ (p0 : aA), Qm6 p0 → H_K1 p0 ∧ s_K1 p0 = true) : ∀ qs, Args Γ tysWorkcodecDecodes qs → ∃ n, runs G n (.call 6 qs []) = some (.ret (.bool true) []) := by
  intro qs h
  cases qs with
  | nil => cases h
  | cons q0 qs =>
  obtain ⟨h0, h⟩ := h
  cases qs with
  | cons _ _ => cases h
  | nil =>
  obtain ⟨c0, rfl, g0⟩ := h0.agg rfl
  obtain ⟨p0, rfl, k0⟩ := (Q14g g0)
  have e := hp p0 k0
  have t := t_K1 p0 e.1
  unfold a_K1 at t
  rw [e.2] at t
  exact t
end Go.Proofs.YtimjjohlpnkacaaGreat
end

section
/- What is small by the reference's count; what is demanded of metadata and objects (printed by a program). -/
namespace Go.Proofs.YtimjjohlpnkacaaGreat
open Go.Pv
def cv : Qxy → Int
  | .k0 y => y
  | .k1 => -1
theorem Q16y (p : Val) (d : Int) (l : List Val) (i : Nat) {a : Int} (h : ¬ 0 ≤ a) : Q4y p d l i a = a := by
  cases l with
  | nil => rw [Q4y]
  | cons x l => rw [Q4y, show decide (0 ≤ a) = false by simpa using h, cond_false]
theorem Qyb (p : Val) (d : Int) (l : List Fld) (i : Nat) {a : Int} (h : ¬ 0 ≤ a) : cv (Q5g p d l i a) = a := by
  cases l with
  | nil => rw [Q5g]; rfl
  | cons x l => rw [Q5g, show decide (0 ≤ a) = false by simpa using h, cond_false]; rfl
def Q1p5 (v : Val) : Prop := ∀ n d, n ≤ 1000 → 0 ≤ Qgt v n d → Val.Sm 1000 v ∧ Qgt v n d + 1 ≤ n
theorem Q16z (p : Val) (d : Int) : ∀ (l : List Val) (i : Nat) (a : Int), a ≤ 1000 → (∀ x ∈ l, Q1p5 x) → 0 ≤ Q4y p d l i a → (∀ x ∈ l, Val.Sm 1000 x) ∧ Q4y p d l i a + (l.length : Int) ≤ a
  | [], i, a, _, _, _ => by
    rw [Q4y]
    exact ⟨fun _ h => (by cases h), by simp⟩
  | x :: l, i, a, ha, hx, h => by
    by_cases c : 0 ≤ a
    · rw [Q4y, show decide (0 ≤ a) = true by simpa using c, cond_true] at h ⊢
      have k : 0 ≤ Qgt x a (w64 (d - 1)) := by
        apply Decidable.byContradiction
        intro hn
        rw [Q16y p d l _ hn] at h
        exact hn h
      have h1 := hx x List.mem_cons_self a _ ha k
      have h2 := Q16z p d l (i + 1) _ (by omega) (fun y hy => hx y (List.mem_cons_of_mem _ hy)) h
      refine ⟨List.forall_mem_cons.2 ⟨h1.1, h2.1⟩, ?_⟩
      have := h1.2
      have := h2.2
      rw [List.length_cons]
      omega
    · rw [Q16y p d _ i c] at h
      exact absurd h c
theorem Q170 (p : Val) (d : Int) : ∀ (l : List Fld) (i : Nat) (a : Int), a ≤ 1000 → (∀ x ∈ l, Q1p5 x.v) → 0 ≤ cv (Q5g p d l i a) → (∀ x ∈ l, Val.Sm 1000 x.v) ∧ cv (Q5g p d l i a) + (l.length : Int) ≤ a
  | [], i, a, _, _, _ => by
    rw [Q5g]
    exact ⟨fun _ h => (by cases h), by simp [cv]⟩
  | x :: l, i, a, ha, hx, h => by
    by_cases c : 0 ≤ a
    · rw [Q5g, show decide (0 ≤ a) = true by simpa using c, cond_true] at h ⊢
      cases e : decide (1000 < (ByteArray.size x.name : Int)) with
      | true =>
        rw [e] at h
        exact absurd (show (0 : Int) ≤ -1 from h) (by decide)
      | false =>
        rw [e, cond_false] at h
        rw [cond_false]
        have k : 0 ≤ Qgt x.v a (w64 (d - 1)) := by
          apply Decidable.byContradiction
          intro hn
          rw [Qyb p d l _ hn] at h
          exact hn h
        have h1 := hx x List.mem_cons_self a _ ha k
        have h2 := Q170 p d l (i + 1) _ (by omega) (fun y hy => hx y (List.mem_cons_of_mem _ hy)) h
        refine ⟨List.forall_mem_cons.2 ⟨h1.1, h2.1⟩, ?_⟩
        have := h1.2
        have := h2.2
        rw [List.length_cons]
        omega
    · rw [Qyb p d _ i c] at h
      exact absurd h c
theorem Q1lb : ∀ v, Q1p5 v := vind fun v h1 h2 n d hn h => by
  rw [Qgt] at h ⊢
  cases c1 : decide (n ≤ 0) with
  | true => rw [c1] at h; exact absurd (show (0 : Int) ≤ -1 from h) (by decide)
  | false =>
    cases c2 : decide (d ≤ 0) with
    | true => rw [c1, c2] at h; exact absurd (show (0 : Int) ≤ -1 from h) (by decide)
    | false =>
      cases c3 : decide (1000 < (ByteArray.size v.s : Int)) with
      | true => rw [c1, c2, c3] at h; exact absurd (show (0 : Int) ≤ -1 from h) (by decide)
      | false =>
        have e1 := of_decide_eq_false c1
        rw [c1, c2, c3, cond_false, cond_false, cond_false, Q13x (by omega)] at h
        rw [cond_false, cond_false, cond_false, Q13x (by omega)]
        change 0 ≤ cv (Q5g v d v.fields 0 (Q4y v d v.list 0 (n - 1))) at h
        change _ ∧ cv (Q5g v d v.fields 0 (Q4y v d v.list 0 (n - 1))) + 1 ≤ n
        have k : 0 ≤ Q4y v d v.list 0 (n - 1) := by
          apply Decidable.byContradiction
          intro hn
          rw [Qyb v d _ _ hn] at h
          exact hn h
        have g0 := Q16z v d v.list 0 (n - 1) (by omega) h1 k
        have g1 := Q170 v d v.fields 0 _ (by have := g0.2; omega) h2 h
        have := g0.2
        have := g1.2
        exact ⟨.mk _ (by omega) (by omega) g0.1 g1.1, by omega⟩
theorem Q19t {v : Val} {n : Int} (hn : n ≤ 1000) (h : Qz0 v n = true) : Val.Sm 1000 v := (Q1lb v n n hn (of_decide_eq_true h)).1
theorem Qey {o : aA} (h : s_K8 o = true) : Val.Sm 1000 o.aO ∧ Val.Sm 1000 o.aM := by
  unfold s_K8 at h
  cases c1 : decide (40 < ((List.length o.aI.bK) : Int)) with
  | true => rw [c1] at h; cases h
  | false =>
    cases c2 : decide (40 < ((List.length o.aI.bO) : Int)) with
    | true => rw [c1, c2] at h; cases h
    | false =>
      cases c3 : decide (40 < ((List.length o.aI.bI) : Int)) with
      | true => rw [c1, c2, c3] at h; cases h
      | false =>
        cases c4 : decide (40 < ((List.length o.aI.aW) : Int)) with
        | true => rw [c1, c2, c3, c4] at h; cases h
        | false =>
          rw [c1, c2, c3, c4, cond_false, cond_false, cond_false, cond_false] at h
          cases c5 : Qd5 o o.aI.aW 0 with
          | k1 => rw [c5] at h; cases h
          | k0 =>
            rw [c5] at h
            cases c6 : Qz0 o.aO 900 with
            | false =>
              simp only [c6, cond_false] at h
              cases h
            | true =>
              simp only [c6, cond_true] at h
              exact ⟨Q19t (by decide) c6, Q19t (by decide) h⟩
theorem Q14x {m : bJ} (k : Q4s m) : Qgp m ∧ Q1pa m ∧ m.aW.length ≤ 4611686018427387904 := by
  obtain ⟨k1, k2, k3, _, _, _, _, _, _, kl, ko, kf, km⟩ := k
  have hl := kl.1
  have ho := ko.1
  have hf := kf.1
  have hm := km.1
  unfold okS at k1 k2 k3
  have hx : ∀ x ∈ m.aW, x.fields.length * 16 ≤ 140737488351232 := fun x hx => (km.2 x hx).2.1
  have e0 : (⟨#[47]⟩ : BA).size = 1 := rfl
  refine ⟨⟨by omega, by omega, by omega, by omega, ⟨by omega, fun x h => by have := hx x h; omega, trivial⟩, trivial⟩, ⟨⟨⟨?_, ?_, ?_, ?_, trivial⟩, trivial⟩, ⟨⟨by omega, trivial⟩, trivial⟩, ⟨by omega, trivial⟩, ⟨by omega, trivial⟩, ⟨by omega, fun x h => ⟨⟨by have := hx x h; omega, trivial⟩, trivial⟩, trivial⟩, trivial⟩, by omega⟩ <;>
  · simp only [ByteArray.size_append, e0]
    omega
theorem Q13d {m : bJ} (k : Q4s m) (s : BA) (h : s.size ≤ 140737488351232) : Q4s { m with kind := s } := ⟨h, k.2⟩
theorem Q11p {o : aA} (k : Q4s o.aI) (g : aA.sm o) : Qgn o := ⟨(Q14x k).2.1, ⟨g.1.mono (Nat.le_of_ble_eq_true rfl), trivial⟩, ⟨g.2.mono (Nat.le_of_ble_eq_true rfl), trivial⟩, trivial⟩
end Go.Proofs.YtimjjohlpnkacaaGreat
end

section
/- What is demanded of objects that are decoded (printed by a program). -/
namespace Go.Proofs.YtimjjohlpnkacaaGreat
open Go.Pv
theorem Q1jx : Q4s ((bJ.mk eB eB eB 0 0 0 0 false 0 [] [] [] [])) := by
  have z : Qf3 0 := by
    unfold Qf3
    omega
  exact ⟨Nat.zero_le _, Nat.zero_le _, Nat.zero_le _, z, z, z, z, trivial, z, ⟨Nat.le_of_ble_eq_true rfl, fun _ h => by cases h⟩, ⟨Nat.le_of_ble_eq_true rfl, fun _ h => by cases h⟩, ⟨Nat.le_of_ble_eq_true rfl, fun _ h => by cases h⟩, ⟨Nat.le_of_ble_eq_true rfl, fun _ h => by cases h⟩⟩
theorem aJ.Qeo {o : aA} (k : Q4s o.aI) : Q4s (aJ.R o).1.aI := by
  unfold aJ.R
  cases aJ.ok o with
  | true => exact k
  | false => exact Q1jx
theorem aJ.Q51 {o : aA} (k : Q4s o.aI) (h : s_K8 o = true) : Q1ku o ∧ Q1j6 o = aJ.R o ∧ Q1kk o ∧ Q1kf (aJ.R o).1 ∧ Qgn (Q1cq (aJ.R o).1) := by
  have s := Qey h
  have g : aA.sm o := ⟨s.1.mono (Nat.le_of_ble_eq_true rfl), s.2.mono (Nat.le_of_ble_eq_true rfl)⟩
  have q := aJ.R_sm g
  exact ⟨⟨(Q14x k).1, g⟩, aJ.rc s, g, q, Q11p (o := aJ.obj (aJ.R o).1) (Q13d (aJ.Qeo k) Q22 (Nat.le_of_ble_eq_true rfl)) (aJ.Qf1 q)⟩
theorem aF.Qeo {o : aA} (k : Q4s o.aI) : Q4s (aF.R o).1.aI := by
  unfold aF.R
  cases aF.ok o with
  | true => exact k
  | false => exact Q1jx
theorem aF.Q51 {o : aA} (k : Q4s o.aI) (h : s_K8 o = true) : Q1kr o ∧ Q1j3 o = aF.R o ∧ Q1kh o ∧ Q1kc (aF.R o).1 ∧ Qgn (Q1cn (aF.R o).1) := by
  have s := Qey h
  have g : aA.sm o := ⟨s.1.mono (Nat.le_of_ble_eq_true rfl), s.2.mono (Nat.le_of_ble_eq_true rfl)⟩
  have q := aF.R_sm g
  exact ⟨⟨(Q14x k).1, g⟩, aF.rc s, g, q, Q11p (o := aF.obj (aF.R o).1) (Q13d (aF.Qeo k) Q1h (Nat.le_of_ble_eq_true rfl)) (aF.Qf1 q)⟩
theorem bW.Qeo {o : aA} (k : Q4s o.aI) : Q4s (bW.R o).1.aI := by
  unfold bW.R
  cases bW.ok o with
  | true => exact k
  | false => exact Q1jx
theorem bW.Q51 {o : aA} (k : Q4s o.aI) (h : s_K8 o = true) : Q1kv o ∧ Q1j7 o = bW.R o ∧ Q1kl o ∧ Q1kg (bW.R o).1 ∧ Qgn (Q1cr (bW.R o).1) := by
  have s := Qey h
  have g : aA.sm o := ⟨s.1.mono (Nat.le_of_ble_eq_true rfl), s.2.mono (Nat.le_of_ble_eq_true rfl)⟩
  have q := bW.R_sm g
  exact ⟨⟨(Q14x k).1, g⟩, bW.rc s, g, q, Q11p (o := bW.obj (bW.R o).1) (Q13d (bW.Qeo k) Q33 (Nat.le_of_ble_eq_true rfl)) (bW.Qf1 q)⟩
theorem aT.Qeo {o : aA} (k : Q4s o.aI) : Q4s (aT.R o).1.aI := by
  unfold aT.R
  cases aT.ok o with
  | true => exact k
  | false => exact Q1jx
theorem aT.Q51 {o : aA} (k : Q4s o.aI) (h : s_K8 o = true) : Q1ks o ∧ Q1j4 o = aT.R o ∧ Q1ki o ∧ Q1kd (aT.R o).1 ∧ Qgn (Q1co (aT.R o).1) := by
  have s := Qey h
  have g : aA.sm o := ⟨s.1.mono (Nat.le_of_ble_eq_true rfl), s.2.mono (Nat.le_of_ble_eq_true rfl)⟩
  have q := aT.R_sm g
  exact ⟨⟨(Q14x k).1, g⟩, aT.rc s, g, q, Q11p (o := aT.obj (aT.R o).1) (Q13d (aT.Qeo k) Q2u (Nat.le_of_ble_eq_true rfl)) (aT.Qf1 q)⟩
theorem aS.Qeo {o : aA} (k : Q4s o.aI) : Q4s (aS.R o).1.aI := by
  unfold aS.R
  cases aS.ok o with
  | true => exact k
  | false => exact Q1jx
theorem aS.Q51 {o : aA} (k : Q4s o.aI) (h : s_K8 o = true) : Q1kt o ∧ Q1j5 o = aS.R o ∧ Q1kj o ∧ Q1ke (aS.R o).1 ∧ Qgn (Q1cp (aS.R o).1) := by
  have s := Qey h
  have g : aA.sm o := ⟨s.1.mono (Nat.le_of_ble_eq_true rfl), s.2.mono (Nat.le_of_ble_eq_true rfl)⟩
  have q := aS.R_sm g
  exact ⟨⟨(Q14x k).1, g⟩, aS.rc s, g, q, Q11p (o := aS.obj (aS.R o).1) (Q13d (aS.Qeo k) Q2a (Nat.le_of_ble_eq_true rfl)) (aS.Qf1 q)⟩
end Go.Proofs.YtimjjohlpnkacaaGreat
end

section
/- The law WorkcodecDecodes in plain words: decoding an object answers its fields or an error. -/
namespace Go.Proofs.YtimjjohlpnkacaaGreat
open Go.Pv
theorem lawDecodes (p0 : aA) (k0 : Qm6 p0) : H_K1 p0 ∧ s_K1 p0 = true := by
  have l : H_K8 p0 := ⟨⟨(Q14x k0.1).2.2, trivial⟩, ⟨k0.2.1.sm, trivial⟩, ⟨k0.2.2.sm, trivial⟩, trivial⟩
  have m : Q4s p0.aI := k0.1
  refine ⟨?_, ?_⟩
  · unfold H_K1
    repeat' with_reducible apply And.intro
    all_goals first | exact True.intro | with_reducible exact l | with_reducible exact fun h => (aJ.Q51 m h).1 | with_reducible exact fun h => (aJ.Q51 m h).2.1 | with_reducible exact fun h => (aJ.Q51 m h).2.2.1 | with_reducible exact fun h => (aJ.Q51 m h).2.2.2.1 | with_reducible exact fun h => (aJ.Q51 m h).2.2.2.2 | with_reducible exact fun h => (bW.Q51 m h).1 | with_reducible exact fun h => (bW.Q51 m h).2.1 | with_reducible exact fun h => (bW.Q51 m h).2.2.1 | with_reducible exact fun h => (bW.Q51 m h).2.2.2.1 | with_reducible exact fun h => (bW.Q51 m h).2.2.2.2 | with_reducible exact fun h => (aS.Q51 m h).1 | with_reducible exact fun h => (aS.Q51 m h).2.1 | with_reducible exact fun h => (aS.Q51 m h).2.2.1 | with_reducible exact fun h => (aS.Q51 m h).2.2.2.1 | with_reducible exact fun h => (aS.Q51 m h).2.2.2.2 | with_reducible exact fun h => (aT.Q51 m h).1 | with_reducible exact fun h => (aT.Q51 m h).2.1 | with_reducible exact fun h => (aT.Q51 m h).2.2.1 | with_reducible exact fun h => (aT.Q51 m h).2.2.2.1 | with_reducible exact fun h => (aT.Q51 m h).2.2.2.2 | with_reducible exact fun h => (aF.Q51 m h).1 | with_reducible exact fun h => (aF.Q51 m h).2.1 | with_reducible exact fun h => (aF.Q51 m h).2.2.1 | with_reducible exact fun h => (aF.Q51 m h).2.2.2.1 | with_reducible exact fun h => (aF.Q51 m h).2.2.2.2 | exact fun _ => rfl
  · unfold s_K1
    cases s_K8 p0 <;> rfl
end Go.Proofs.YtimjjohlpnkacaaGreat
end

section
/- The library's comparison of two strings, walked: it answers as the evaluator's cmpL. -/
namespace Go.Proofs.YtimjjohlpnkacaaGreat
open Go.Pv
theorem cmpL_eq : ∀ (a b : List UInt8), cmpL a b = Lib.compareBytes a b
  | [], [] => rfl
  | [], _ :: _ => rfl
  | _ :: _, [] => rfl
  | a :: x, b :: y => by
    rw [Lib.compareBytes, ← cmpL_eq x y]
    rfl
set_option maxHeartbeats 1000000 in
set_option maxRecDepth 100000 in
theorem comparing (a b : BA) (w : World) :
    Calls Tryz.prog 221 #[.string a, .string b] w fun e w' => e = .returned (.int .i64 (Lib.compareBytes a.data.toList b.data.toList)) ∧ w' = w := by
  go_enter Tryz.func221, Tryz.ntmps221
  go_wp2
  rw [run_callFunc_extern Tryz.func255 (by kernel_rfl) (by kernel_rfl) (by kernel_rfl) (e := Extern.BytealgCompare.compare) (by kernel_rfl), Lib.run_compareString]
  simp only [Result.andThen]
  rw [Oper.upon_value]
  go_wp2
  go_ret
  exact ⟨rfl, rfl⟩
theorem cmpOK : Q1jy Tryz.prog 221 := by
  refine ⟨⟨_, Tryz.func221, by kernel_rfl, by kernel_rfl⟩, fun x y w => ?_⟩
  have h := comparing x y w
  rw [← cmpL_eq, ← toList_data, ← toList_data] at h
  exact h
end Go.Proofs.YtimjjohlpnkacaaGreat
end

