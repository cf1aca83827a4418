/- Texts of the claim, merged by a program; what the statement does not reach is left out. -/
import Derived.Test.YtimjjohlpnkacaaGreatBWorkcodecReads8
import Derived.Lib.Strings
import Derived.Lib.Slices
import Derived.Lib.Walk
import Derived.Lib.Bytealg

section
/- What the reference's readers and decoders compute (printed by a program). -/
namespace Go.Proofs.YtimjjohlpnkacaaGreat
open Go.Pv
structure aJ where
  v : Val
  gy : Bool
def aJ.cells (x : aJ) : List PV :=
  [iN x.v.kind, iN x.v.n, .str x.v.s, .sl (Val.rows x.v.list), .sl (Fld.rows x.v.fields), .bool x.gy]
def aJ.rows (l : List aJ) : List (List PV) := l.map aJ.cells
def bd (r : aJ) (b : Bool) : aJ := ⟨r.v, r.gy || !b⟩
theorem Q86 (r : aJ) (a b : Bool) : bd (bd r a) b = bd r (a && b) := by
  unfold bd
  simp only [Bool.not_and, Bool.or_assoc]
theorem v_bd (r : aJ) (b : Bool) : (bd r b).v = r.v := rfl
theorem Qnj (v : Val) (b : Bool) : (bd ⟨v, false⟩ b).gy = !b := rfl
theorem Q97 (v : Val) (b : Bool) : (!(bd ⟨v, false⟩ b).gy) = b := Bool.not_not b
theorem Qnk (r : aJ) : bd r true = r := by
  unfold bd
  rw [Bool.not_true, Bool.or_false]
theorem Q20n (v : Val) : ((Qpl v).2 == 0) = (bn.dec v).2 := by
  unfold Qpl
  cases (bn.dec v).2 <;> rfl
theorem not_or (a b : Bool) : (!a || !b) = !(a && b) := by cases a <;> rfl
def Q4o (p1 : Bool) (o0 : aJ) : aJ := bd o0 p1
theorem Q2bs (p1 : Bool) (o0 : aJ) : Q4o p1 o0 = (bif p1 then
    o0
  else
    (aJ.mk o0.v true)) := by
  obtain ⟨v, b⟩ := o0
  unfold Q4o bd
  cases p1 <;> cases b <;> rfl
def Q28f (p1 : Bool) (o0 : aJ) : En := .call 143 [.bx 0 0, .bool p1] [⟨6, 0, false, (aJ.cells o0)⟩]
def Q2dc (_p1 : Bool) (_o0 : aJ) (q0 : aJ) : Rs := .ret (.tup []) [⟨6, 0, false, (aJ.cells q0)⟩]
def Q1xh (p1 : Bool) (o0 : aJ) : Rs := Q2dc p1 o0 (Q4o p1 o0)
theorem Qcs (p1 : Bool) (o0 : aJ) : Q5 G (Q28f p1 o0) (Q1xh p1 o0) := by
 unfold Q1xh
 rw [Q2bs]
 cases h0 : p1 with
 | true =>
  exact Q6 (fn := Ir.K4e) (by kernel_rfl) (h := [⟨6, 0, false, (aJ.cells o0)⟩]) (vw := []) VOK.nil [] [] (by kernel_rfl)
 | false =>
  exact Q6 (fn := Ir.K4e) (by kernel_rfl) (h := [⟨6, 0, false, (aJ.cells o0)⟩]) (vw := []) VOK.nil [] [] (by kernel_rfl)
def Q1h (p1 : BA) (o0 : aJ) : Int × aJ := ((dN o0.v p1).1, bd o0 (dN o0.v p1).2)
theorem Q2bw (p1 : BA) (o0 : aJ) : Q1h p1 o0 = (((Q1g o0.v p1).1, (Q4o (Q1g o0.v p1).2 o0))) := by
  rfl
def Q28j (p1 : BA) (o0 : aJ) : En := .call 122 [.bx 0 0, .str p1] [⟨6, 0, false, (aJ.cells o0)⟩]
def Q2dg (_p1 : BA) (_o0 : aJ) (q0 : Int) (q1 : aJ) : Rs := .ret (iN q0) [⟨6, 0, false, (aJ.cells q1)⟩]
def Q1xl (p1 : BA) (o0 : aJ) : Rs := Q2dg p1 o0 (Q1h p1 o0).1 (Q1h p1 o0).2
def Q7b (o0 : aJ) : Prop := Val.Sm 1000000000 o0.v
theorem Q1l6 (_p1 : BA) (o0 : aJ) (H : Q7b o0) : (Qjs o0.v) ∧ True := by
  exact ⟨H, trivial⟩
theorem Q5j (p1 : BA) (o0 : aJ) (H : Q7b o0) : Q5 G (Q28j p1 o0) (Q1xl p1 o0) := by
 unfold Q1xl
 rw [Q2bw]
 exact Q6 (fn := Ir.K4j) (by kernel_rfl) (h := [⟨6, 0, false, (aJ.cells o0)⟩]) (vw := []) VOK.nil [] [aN (Q78 o0.v p1 (Q1l6 p1 o0 H).1), aN (Qcs (Q1g o0.v p1).2 o0)] (by kernel_rfl)
def Q2j (p1 : BA) (o0 : aJ) : ByteArray × aJ := ((dS o0.v p1).1, bd o0 (dS o0.v p1).2)
theorem Q2c0 (p1 : BA) (o0 : aJ) : Q2j p1 o0 = (((Q19 o0.v p1).1, (Q4o (Q19 o0.v p1).2 o0))) := by
  rfl
def Q28n (p1 : BA) (o0 : aJ) : En := .call 142 [.bx 0 0, .str p1] [⟨6, 0, false, (aJ.cells o0)⟩]
def Q2dk (_p1 : BA) (_o0 : aJ) (q0 : BA) (q1 : aJ) : Rs := .ret (.str q0) [⟨6, 0, false, (aJ.cells q1)⟩]
def Q1xp (p1 : BA) (o0 : aJ) : Rs := Q2dk p1 o0 (Q2j p1 o0).1 (Q2j p1 o0).2
def Q196 (o0 : aJ) : Prop := Val.Sm 1000000000 o0.v
theorem Q1l8 (_p1 : BA) (o0 : aJ) (H : Q196 o0) : (Qpe o0.v) ∧ True := by
  exact ⟨H, trivial⟩
theorem Q1md (p1 : BA) (o0 : aJ) (H : Q196 o0) : Q5 G (Q28n p1 o0) (Q1xp p1 o0) := by
 unfold Q1xp
 rw [Q2c0]
 exact Q6 (fn := Ir.K4n) (by kernel_rfl) (h := [⟨6, 0, false, (aJ.cells o0)⟩]) (vw := []) VOK.nil [] [aN (Q5i o0.v p1 (Q1l8 p1 o0 H).1), aN (Qcs (Q19 o0.v p1).2 o0)] (by kernel_rfl)
def Q2n (p1 : BA) (o0 : aJ) : Bool × aJ := ((dB o0.v p1).1, bd o0 (dB o0.v p1).2)
theorem Q2bt (p1 : BA) (o0 : aJ) : Q2n p1 o0 = (((Q2m o0.v p1).1, (Q4o (Q2m o0.v p1).2 o0))) := by
  rfl
def Q28g (p1 : BA) (o0 : aJ) : En := .call 128 [.bx 0 0, .str p1] [⟨6, 0, false, (aJ.cells o0)⟩]
def Q2dd (_p1 : BA) (_o0 : aJ) (q0 : Bool) (q1 : aJ) : Rs := .ret (.bool q0) [⟨6, 0, false, (aJ.cells q1)⟩]
def Q1xi (p1 : BA) (o0 : aJ) : Rs := Q2dd p1 o0 (Q2n p1 o0).1 (Q2n p1 o0).2
def Qjt (o0 : aJ) : Prop := Val.Sm 1000000000 o0.v
theorem Q1l4 (_p1 : BA) (o0 : aJ) (H : Qjt o0) : (Q137 o0.v) ∧ True := by
  exact ⟨H, trivial⟩
theorem Qfe (p1 : BA) (o0 : aJ) (H : Qjt o0) : Q5 G (Q28g p1 o0) (Q1xi p1 o0) := by
 unfold Q1xi
 rw [Q2bt]
 exact Q6 (fn := Ir.K4f) (by kernel_rfl) (h := [⟨6, 0, false, (aJ.cells o0)⟩]) (vw := []) VOK.nil [] [aN (Qp6 o0.v p1 (Q1l4 p1 o0 H).1), aN (Qcs (Q2m o0.v p1).2 o0)] (by kernel_rfl)
def Q1i (p1 : BA) (o0 : aJ) : (List Val) × aJ := ((dL o0.v p1).1, bd o0 (dL o0.v p1).2)
theorem Q2bv (p1 : BA) (o0 : aJ) : Q1i p1 o0 = (((Qd o0.v p1).1, (Q4o (Qd o0.v p1).2 o0))) := by
  rfl
def Q28i (p1 : BA) (o0 : aJ) : En := .call 140 [.bx 0 0, .str p1] [⟨6, 0, false, (aJ.cells o0)⟩]
def Q2df (_p1 : BA) (_o0 : aJ) (q0 : List Val) (q1 : aJ) : Rs := .ret (.sl (Val.rows q0)) [⟨6, 0, false, (aJ.cells q1)⟩]
def Q1xk (p1 : BA) (o0 : aJ) : Rs := Q2df p1 o0 (Q1i p1 o0).1 (Q1i p1 o0).2
def Q138 (o0 : aJ) : Prop := Val.Sm 1000000000 o0.v
theorem Q1l5 (_p1 : BA) (o0 : aJ) (H : Q138 o0) : (Qfu o0.v) ∧ True := by
  exact ⟨H, trivial⟩
theorem Q14a (p1 : BA) (o0 : aJ) (H : Q138 o0) : Q5 G (Q28i p1 o0) (Q1xk p1 o0) := by
 unfold Q1xk
 rw [Q2bv]
 exact Q6 (fn := Ir.K4i) (by kernel_rfl) (h := [⟨6, 0, false, (aJ.cells o0)⟩]) (vw := []) VOK.nil [] [aN (Qev o0.v p1 (Q1l5 p1 o0 H).1), aN (Qcs (Qd o0.v p1).2 o0)] (by kernel_rfl)
def Q24 (p0 : Val) : aJ := bd ⟨p0, false⟩ (isM p0)
theorem Q2bq (p0 : Val) : Q24 p0 = ((aJ.mk p0 (!(Q2u p0)))) := by
  rfl
def Q28d (p0 : Val) : En := .call 141 [.agg (Val.cells p0)] []
def Q2da (_p0 : Val) (q0 : aJ) : Rs := .ret (.bx 0 0) [⟨6, 0, true, (aJ.cells q0)⟩]
def Q1xf (p0 : Val) : Rs := Q2da p0 (Q24 p0)
theorem Q149 (p0 : Val) : Q5 G (Q28d p0) (Q1xf p0) := by
 unfold Q1xf
 rw [Q2bq]
 exact Q6 (fn := Ir.K4b) (by kernel_rfl) VOK.nil [] [aN (Q9h p0)] (by kernel_rfl)
def Q6x (p1 : BA) (o0 : aJ) : aJ := bd ⟨prt o0.v p1, false⟩ (isM (prt o0.v p1))
theorem Q2c1 (p1 : BA) (o0 : aJ) : Q6x p1 o0 = ((Q24 (Q3f o0.v p1))) := by
  rfl
def Q28o (p1 : BA) (o0 : aJ) : En := .call 131 [.bx 0 0, .str p1] [⟨6, 0, false, (aJ.cells o0)⟩]
def Q2dl (_p1 : BA) (o0 : aJ) (q0 : aJ) : Rs := .ret (.bx 1 0) [⟨6, 0, false, (aJ.cells o0)⟩, ⟨6, 0, true, (aJ.cells q0)⟩]
def Q1xq (p1 : BA) (o0 : aJ) : Rs := Q2dl p1 o0 (Q6x p1 o0)
def Q1jy (o0 : aJ) : Prop := Val.Sm 1000000000 o0.v
theorem Q1l9 (_p1 : BA) (o0 : aJ) (H : Q1jy o0) : (Qpd o0.v) ∧ True := by
  exact ⟨H, trivial⟩
theorem Q1qj (p1 : BA) (o0 : aJ) (H : Q1jy o0) : Q5 G (Q28o p1 o0) (Q1xq p1 o0) := by
 unfold Q1xq
 rw [Q2c1]
 exact Q6 (fn := Ir.K4o) (by kernel_rfl) (h := [⟨6, 0, false, (aJ.cells o0)⟩]) (vw := []) VOK.nil [] [aN (Qc4 o0.v p1 (Q1l9 p1 o0 H).1), aN (Q149 (Q3f o0.v p1))] (by kernel_rfl)
def Q5f (o0 : aJ) : (List aj) × aJ := ((dE aj.rdec o0.v Q0).1, bd o0 (dE aj.rdec o0.v Q0).2)
theorem Q2bz (o0 : aJ) : Q5f o0 = (((Q3n o0.v Q0).1, (Q4o (Q3n o0.v Q0).2 o0))) := by
  rfl
def Q28m (o0 : aJ) : En := .call 123 [.bx 0 0] [⟨6, 0, false, (aJ.cells o0)⟩]
def Q2dj (_o0 : aJ) (q0 : List aj) (q1 : aJ) : Rs := .ret (.sl (aj.rows q0)) [⟨6, 0, false, (aJ.cells q1)⟩]
def Q1xo (o0 : aJ) : Rs := Q2dj o0 (Q5f o0).1 (Q5f o0).2
def Qzx (o0 : aJ) : Prop := Val.Sm 1000000000 o0.v
theorem Q1l7 (o0 : aJ) (H : Qzx o0) : (Q136 o0.v) ∧ True := by
  exact ⟨H, trivial⟩
theorem Qp7 (o0 : aJ) (H : Qzx o0) : Q5 G (Q28m o0) (Q1xo o0) := by
 unfold Q1xo
 rw [Q2bz]
 exact Q6 (fn := Ir.K4m) (by kernel_rfl) (h := [⟨6, 0, false, (aJ.cells o0)⟩]) (vw := []) VOK.nil [] [aN (Qyh o0.v Q0 (Q1l7 o0 H).1), aN (Qcs (Q3n o0.v Q0).2 o0)] (by kernel_rfl)
def Q8i (o0 : aJ) : bn × aJ := ((tD o0.v Qv).1, bd o0 (tD o0.v Qv).2)
theorem Q2c2 (o0 : aJ) : Q8i o0 = (((Q130 (Q3f o0.v Qv)).1, (Q4o ((Q130 (Q3f o0.v Qv)).2 == 0) o0))) := by
  unfold Q8i Q4o Q130 Q3f
  rw [Q20n]
  rfl
def Q28p (o0 : aJ) : En := .call 124 [.bx 0 0] [⟨6, 0, false, (aJ.cells o0)⟩]
def Q2dm (_o0 : aJ) (q0 : bn) (q1 : aJ) : Rs := .ret (.agg (bn.cells q0)) [⟨6, 0, false, (aJ.cells q1)⟩]
def Q1xr (o0 : aJ) : Rs := Q2dm o0 (Q8i o0).1 (Q8i o0).2
def Q1g0 (o0 : aJ) : Prop := Val.Sm 1000000000 o0.v
theorem Q174 (o0 : aJ) (H : Q1g0 o0) : (Qpd o0.v) ∧ (Q1oz (Q3f o0.v Qv)) ∧ True := by
  exact ⟨H, Qp H _, trivial⟩
theorem Q1c2 (o0 : aJ) (H : Q1g0 o0) : Q5 G (Q28p o0) (Q1xr o0) := by
 unfold Q1xr
 rw [Q2c2]
 exact Q6 (fn := Ir.K4p) (by kernel_rfl) (h := [⟨6, 0, false, (aJ.cells o0)⟩]) (vw := []) VOK.nil [] [aN (Qc4 o0.v Qv (Q174 o0 H).1), aN (Q2fe (Q3f o0.v Qv) (Q174 o0 H).2.1), aN (Qcs ((Q130 (Q3f o0.v Qv)).2 == 0) o0)] (by kernel_rfl)
def Qa5 (o0 : aJ) (o1 : aJ) : bK × aJ × aJ := ((bK.dec o1.v).1, bd o0 (!(bd o1 ((dB o1.v Q2w).2 && (dN o1.v kw_n).2)).gy), bd o1 ((dB o1.v Q2w).2 && (dN o1.v kw_n).2))
theorem Q2br (o0 : aJ) (o1 : aJ) : Qa5 o0 o1 = (((bK.mk (Q2n Q2w o1).1 (Q1h kw_n (Q2n Q2w o1).2).1), (Q4o (!(Q1h kw_n (Q2n Q2w o1).2).2.gy) o0), (Q1h kw_n (Q2n Q2w o1).2).2)) := by
  simp only [Q1h, Q2n, Q4o, Qa5, Q86, v_bd]
  rfl
def Q28e (o0 : aJ) (o1 : aJ) : En := .call 130 [.bx 0 0, .bx 1 0] [⟨6, 0, false, (aJ.cells o0)⟩, ⟨6, 0, false, (aJ.cells o1)⟩]
def Q2db (_o0 : aJ) (_o1 : aJ) (q0 : bK) (q1 : aJ) (q2 : aJ) : Rs := .ret (.agg (bK.cells q0)) [⟨6, 0, false, (aJ.cells q1)⟩, ⟨6, 0, false, (aJ.cells q2)⟩]
def Q1xg (o0 : aJ) (o1 : aJ) : Rs := Q2db o0 o1 (Qa5 o0 o1).1 (Qa5 o0 o1).2.1 (Qa5 o0 o1).2.2
def Q1p8 (o1 : aJ) : Prop := Val.Sm 1000000000 o1.v
theorem Q171 (_o0 : aJ) (o1 : aJ) (H : Q1p8 o1) : (Qjt o1) ∧ (Q7b (Q2n Q2w o1).2) ∧ True := by
  repeat' with_reducible apply And.intro
  all_goals first | exact True.intro | exact H
theorem Q20e (o0 : aJ) (o1 : aJ) (H : Q1p8 o1) : Q5 G (Q28e o0 o1) (Q1xg o0 o1) := by
 unfold Q1xg
 rw [Q2br]
 exact Q6 (fn := Ir.K4c) (by kernel_rfl) (h := [⟨6, 0, false, (aJ.cells o0)⟩, ⟨6, 0, false, (aJ.cells o1)⟩]) (vw := []) VOK.nil [] [aN (Qfe Q2w o1 (Q171 o0 o1 H).1), aN (Q5j kw_n (Q2n Q2w o1).2 (Q171 o0 o1 H).2.1), aN (Qcs (!(Q1h kw_n (Q2n Q2w o1).2).2.gy) o0)] (by kernel_rfl)
def Qfz (p1 : BA) (o0 : aJ) : (List bK) × aJ := ((dE bK.dec o0.v p1).1, bd o0 (dE bK.dec o0.v p1).2)
def Q9e (p1 : BA) (o0 : aJ) : aW × aJ := ((aW.dec (prt o0.v p1)).1, bd o0 (aW.dec (prt o0.v p1)).2)
theorem Q2by (p1 : BA) (o0 : aJ) : Q9e p1 o0 = (((aW.mk (Q1h Q3k (Q6x p1 o0)).1 (Q1h Q2p (Q1h Q3k (Q6x p1 o0)).2).1 (Q1h Q42 (Q1h Q2p (Q1h Q3k (Q6x p1 o0)).2).2).1), (Q4o (!(Q1h Q42 (Q1h Q2p (Q1h Q3k (Q6x p1 o0)).2).2).2.gy) o0))) := by
  simp only [Q1h, Q4o, Q6x, Q9e, Q86, v_bd, Q97]
  refine Prod.ext rfl (congrArg (bd o0) ?_)
  simp only [aW.dec, Bool.and_assoc, Bool.and_left_comm, Bool.and_comm]
def Q28l (p1 : BA) (o0 : aJ) : En := .call 154 [.bx 0 0, .str p1] [⟨6, 0, false, (aJ.cells o0)⟩]
def Q2di (_p1 : BA) (_o0 : aJ) (q0 : aW) (q1 : aJ) : Rs := .ret (.agg (aW.cells q0)) [⟨6, 0, false, (aJ.cells q1)⟩]
def Q1xn (p1 : BA) (o0 : aJ) : Rs := Q2di p1 o0 (Q9e p1 o0).1 (Q9e p1 o0).2
def Q1jx (o0 : aJ) : Prop := Val.Sm 1000000000 o0.v
theorem Qj9 (p1 : BA) (o0 : aJ) (H : Q1jx o0) : (Q1jy o0) ∧ (Q7b (Q6x p1 o0)) ∧ (Q7b (Q1h Q3k (Q6x p1 o0)).2) ∧ (Q7b (Q1h Q2p (Q1h Q3k (Q6x p1 o0)).2).2) ∧ True := by
  repeat' with_reducible apply And.intro
  all_goals first | exact True.intro | exact H | exact Qp H _
theorem Q1mc (p1 : BA) (o0 : aJ) (H : Q1jx o0) : Q5 G (Q28l p1 o0) (Q1xn p1 o0) := by
 unfold Q1xn
 rw [Q2by]
 exact Q6 (fn := Ir.K4l) (by kernel_rfl) (h := [⟨6, 0, false, (aJ.cells o0)⟩]) (vw := []) VOK.nil [] [aN (Q1qj p1 o0 (Qj9 p1 o0 H).1), aN (Q5j Q3k (Q6x p1 o0) (Qj9 p1 o0 H).2.1), aN (Q5j Q2p (Q1h Q3k (Q6x p1 o0)).2 (Qj9 p1 o0 H).2.2.1), aN (Q5j Q42 (Q1h Q2p (Q1h Q3k (Q6x p1 o0)).2).2 (Qj9 p1 o0 H).2.2.2.1), aN (Qcs (!(Q1h Q42 (Q1h Q2p (Q1h Q3k (Q6x p1 o0)).2).2).2.gy) o0)] (by kernel_rfl)
def Q5e (p1 : BA) (o0 : aJ) : List Val → Nat → aJ → (List Int) → aJ × (List Int)
 | [], _i0, ah, ay =>
  (ah, ay)
 | x0 :: r0, i0, ah, ay =>
  bif (x0.kind == 2) then
   Q5e p1 o0 r0 (i0 + 1) (Q4o true ah) (ay ++ [x0.n])
  else
   Q5e p1 o0 r0 (i0 + 1) (Q4o (x0.kind == 0) ah) (ay ++ [0])
def Q1f7 (p1 : BA) (o0 : aJ) (i0 : Nat) (_ah : aJ) (ay : List Int) : List PV :=
  [.bx 0 0, .un, .un, .un, .un, .ms 1 1 0 (List.length ay), .sl (Val.rows (Q1i p1 o0).1), iN (i0 : Int)] ++ nuns 42
def Qzh (_p1 : BA) (_o0 : aJ) (_i0 : Nat) (ah : aJ) (ay : List Int) : List Ob :=
  [⟨6, 0, false, (aJ.cells ah)⟩, ⟨1, 0, true, (Q3h ay).flatten⟩]
def Qb6 (p1 : BA) (o0 : aJ) (i0 : Nat) (ah : aJ) (ay : List Int) : En := .loop 1 Ir.Ql9 Ir.Q1nm (Q1f7 p1 o0 i0 ah ay) (Qzh p1 o0 i0 ah ay)
def Qs5 (_p1 : BA) (_o0 : aJ) (q0 : aJ) (q1 : List Int) (z : Nat → PV) (_zo : Nat → List PV) : St :=
  ⟨zr z 0 5 ++ [.ms 1 1 0 (List.length q1)] ++ zr z 6 44, [(0, ⟨6, 0, false, (aJ.cells q0)⟩), (1, ⟨1, 0, true, (Q3h q1).flatten⟩)], 258⟩
theorem Qxd (p1 : BA) (o0 : aJ) (i0 : Nat) (ah : aJ) (ay : List Int) : VOK (Go.Pv.look (number 0 (Qzh p1 o0 i0 ah ay))) [(1, Q3h ay)] := (VOK.cons (show Seen _ _ from Q3r (ob := ⟨1, 0, true, (Q3h ay).flatten⟩) (Q65 ay 1 rfl)) VOK.nil)
def Qiu (p1 : BA) (o0 : aJ) (e : En) (q : aJ × (List Int)) : Prop := ∃ z zo, Q5 G e (.st (.exit 0) (Qs5 p1 o0 q.1 q.2 z zo))
theorem Qdy (p1 : BA) (o0 : aJ) {e e' : En} (h : ∀ r, Q5 G e r → Q5 G e' r) : ∀ q, Qiu p1 o0 e q → Qiu p1 o0 e' q
  | _, ⟨z, zo, hz⟩ => ⟨z, zo, h _ hz⟩
def Qbf (p1 : BA) (o0 : aJ) : Prop := (List.length (Q1i p1 o0).1 ≤ 137438953472) ∧ True
def Qu6 (p1 : BA) (o0 : aJ) (i0 : Nat) (_ah : aJ) (_ay : List Int) : List PV :=
  [.bx 0 0] ++ nuns 5 ++ [.sl (Val.rows (Q1i p1 o0).1), iN (i0 : Int), .un, .un, .un, .un, iN (i0 : Int), .sl (Val.rows (Q1i p1 o0).1), iN ((List.length (Q1i p1 o0).1) : Int), .bool false]
def Qn4 (_p1 : BA) (_o0 : aJ) (_i0 : Nat) (_ah : aJ) (_ay : List Int) : List (Nat × List PV) :=
  []
theorem Q1dm (p1 : BA) (o0 : aJ) (_H : Qbf p1 o0) (i0 : Nat) (ah : aJ) (ay : List Int) (_aR : List.length ay ≤ i0) (bF : (decide ((i0 : Int) < ((List.length (Q1i p1 o0).1) : Int))) = false) : Qiu p1 o0 (Qb6 p1 o0 i0 ah ay) (ah, ay) := by
 exact ⟨(envF (Qu6 p1 o0 i0 ah ay)), (zoF (Qn4 p1 o0 i0 ah ay)), Qg (Qxd p1 o0 i0 ah ay) (x := ((.exit 0), Qs5 p1 o0 ah ay (envF (Qu6 p1 o0 i0 ah ay)) (zoF (Qn4 p1 o0 i0 ah ay)))) [hP 2 (Qq _ _ (Val.Q7 (Q1i p1 o0).1)), hB 0 bF] [] (by kernel_rfl)⟩
theorem Q1bb (p1 : BA) (o0 : aJ) (H : Qbf p1 o0) (x0 : Val) (i0 : Nat) (ah : aJ) (ay : List Int) (bH : (Q1i p1 o0).1[i0]? = some x0) (bT : i0 < List.length (Q1i p1 o0).1) (aR : List.length ay ≤ i0) (bF : (decide ((i0 : Int) < ((List.length (Q1i p1 o0).1) : Int))) = true) (h0 : (x0.kind == 2) = true) {r : Rs} (hr : Q5 G (Qb6 p1 o0 (i0 + 1) (Q4o true ah) (ay ++ [x0.n])) r) : Q5 G (Qb6 p1 o0 i0 ah ay) r := by
 have hB0 := H.1; have e0 := eq_of_beq h0
 exact Qc (Qxd p1 o0 i0 ah ay) [hP 2 (Qq _ _ (Val.Q7 (Q1i p1 o0).1)), hB 0 bF, hP 3 (Q1f 5 _ i0 _ (Val.Qb bH) rfl), hB 2 h0, hP 2 (Q1f 5 _ i0 _ (Val.Qb bH) rfl), hP 6 (Q1f 5 _ i0 _ (Val.Qb bH) rfl), hB 2 h0, hA 12 1 2242 2306 1 8 0 0 true Q6u Qcg ay x0.n (Qa0 ay) rfl rfl (by omega), hS 0 true (Q65 (ay ++ [x0.n]) 1 rfl), hP 2 (Q26 i0 (by omega))] [aN (Qcs true ah)] hr (by kernel_rfl)
theorem Q1bc (p1 : BA) (o0 : aJ) (H : Qbf p1 o0) (x0 : Val) (i0 : Nat) (ah : aJ) (ay : List Int) (bH : (Q1i p1 o0).1[i0]? = some x0) (bT : i0 < List.length (Q1i p1 o0).1) (aR : List.length ay ≤ i0) (bF : (decide ((i0 : Int) < ((List.length (Q1i p1 o0).1) : Int))) = true) (h0 : (x0.kind == 2) = false) {r : Rs} (hr : Q5 G (Qb6 p1 o0 (i0 + 1) (Q4o (x0.kind == 0) ah) (ay ++ [0])) r) : Q5 G (Qb6 p1 o0 i0 ah ay) r := by
 have hB0 := H.1; have e0 := beq_eq_false_iff_ne.1 h0
 exact Qc (Qxd p1 o0 i0 ah ay) [hP 2 (Qq _ _ (Val.Q7 (Q1i p1 o0).1)), hB 0 bF, hP 3 (Q1f 5 _ i0 _ (Val.Qb bH) rfl), hB 2 h0, hP 3 (Q1f 5 _ i0 _ (Val.Qb bH) rfl), hB 2 h0, hP 3 (Q1f 5 _ i0 _ (Val.Qb bH) rfl), hA 8 1 1858 1922 1 8 0 0 true Q6u Qcg ay 0 (Qa0 ay) rfl rfl (by omega), hS 0 true (Q65 (ay ++ [0]) 1 rfl), hP 2 (Q26 i0 (by omega))] [aN (Qcs (x0.kind == 0) ah)] hr (by kernel_rfl)
theorem Qod (p1 : BA) (o0 : aJ) (H : Qbf p1 o0) : ∀ (r0 : List Val) (i0 : Nat) (ah : aJ) (ay : List Int), List.drop i0 (Q1i p1 o0).1 = r0 → List.length ay ≤ i0 → Qiu p1 o0 (Qb6 p1 o0 i0 ah ay) (Q5e p1 o0 r0 i0 ah ay)
 | [], i0, ah, ay, hd, aR => by
  have bF : (decide ((i0 : Int) < ((List.length (Q1i p1 o0).1) : Int))) = false := by have := Q1n hd; simp; omega
  rw [Q5e]
  exact Q1dm p1 o0 H i0 ah ay aR bF
 | x0 :: r0, i0, ah, ay, hd, aR => by
  obtain ⟨bH, bT, hd'⟩ := Q1o hd
  have bF : (decide ((i0 : Int) < ((List.length (Q1i p1 o0).1) : Int))) = true := by simp; omega
  rw [Q5e]
  cases h0 : (x0.kind == 2) with
  | true =>
   have e0 := eq_of_beq h0
   exact Qdy p1 o0 (fun r hr => Q1bb p1 o0 H x0 i0 ah ay bH bT aR bF h0 hr) _ (Qod p1 o0 H r0 _ _ _ hd' (by first | omega | (simp; omega)))
  | false =>
   have e0 := beq_eq_false_iff_ne.1 h0
   exact Qdy p1 o0 (fun r hr => Q1bc p1 o0 H x0 i0 ah ay bH bT aR bF h0 hr) _ (Qod p1 o0 H r0 _ _ _ hd' (by first | omega | (simp; omega)))
def Q48 (p1 : BA) (o0 : aJ) : (List Int) × aJ := ((dE xN o0.v p1).1, bd o0 (dE xN o0.v p1).2)
theorem Q18o (p1 : BA) (o0 : aJ) : ∀ (l : List Val) (i : Nat) (b : aJ) (a : List Int), Q5e p1 o0 l i b a = (bd b (l.all fun x => (xN x).2), a ++ l.map (fun x => (xN x).1))
  | [], _, b, a => by rw [Q5e, List.map_nil, List.append_nil, List.all_nil, Qnk]
  | x :: l, i, b, a => by
    rw [Q5e]
    refine Eq.trans ?_ ((Q18o p1 o0 l (i + 1) (bd b (xN x).2) (a ++ [(xN x).1])).trans (by rw [Q86]; simp only [List.append_assoc, List.singleton_append, List.map_cons, List.all_cons]))
    simp only [Q4o]
    unfold xN
    cases (x.kind == 2) <;> cases (x.kind == 0) <;> rfl
theorem Q2bu (p1 : BA) (o0 : aJ) : Q48 p1 o0 = (((Q5e p1 o0 (Q1i p1 o0).1 0 (Q1i p1 o0).2 []).2, (Q5e p1 o0 (Q1i p1 o0).1 0 (Q1i p1 o0).2 []).1)) := by
  rw [Q18o]
  simp only [Q1i, Q86]
  rfl
def Q28h (p1 : BA) (o0 : aJ) : En := .call 159 [.bx 0 0, .str p1] [⟨6, 0, false, (aJ.cells o0)⟩]
def Q2de (_p1 : BA) (_o0 : aJ) (q0 : List Int) (q1 : aJ) : Rs := .ret (.sl (Q3h q0)) [⟨6, 0, false, (aJ.cells q1)⟩]
def Q1xj (p1 : BA) (o0 : aJ) : Rs := Q2de p1 o0 (Q48 p1 o0).1 (Q48 p1 o0).2
def Q1p9 (o0 : aJ) : Prop := Val.Sm 1000000000 o0.v
theorem Q172 (p1 : BA) (o0 : aJ) (H : Q1p9 o0) : (Q138 o0) ∧ (Qbf p1 o0) ∧ True := by
  have hl := Q69 (Qp H p1)
  have g : ∀ x ∈ (dL o0.v p1).1, Val.Sm sB x := hl.2
  refine ⟨H, ?_, trivial⟩
  unfold Qbf
  refine ⟨Nat.le_trans hl.1 (Nat.le_of_ble_eq_true rfl), ?_⟩
  repeat' with_reducible apply And.intro
  all_goals first | exact True.intro | exact g
theorem Q2fo (p1 : BA) (o0 : aJ) (H : Q1p9 o0) : Q5 G (Q28h p1 o0) (Q1xj p1 o0) := by
 unfold Q1xj
 rw [Q2bu]
 have hl0 := Qod p1 o0 ((Q172 p1 o0 H).2.1) (Q1i p1 o0).1 0 (Q1i p1 o0).2 [] (by simp) (by simp)
 obtain ⟨z0, eG, hl0⟩ := hl0
 exact Q6 (fn := Ir.K4g) (by kernel_rfl) (h := [⟨6, 0, false, (aJ.cells o0)⟩]) (vw := []) VOK.nil [hS 0 true (Q65 (Q5e p1 o0 (Q1i p1 o0).1 0 (Q1i p1 o0).2 []).2 1 rfl), hQ (Q6u (Q5e p1 o0 (Q1i p1 o0).1 0 (Q1i p1 o0).2 []).2).symm] [aN (Q14a p1 o0 (Q172 p1 o0 H).1), aV [(1, Q3h (Q5e p1 o0 (Q1i p1 o0).1 0 (Q1i p1 o0).2 []).2)] hl0] (by kernel_rfl)
def Q5t (o0 : aJ) : List Val → Nat → aJ → (List aC) → aJ × (List aC)
 | [], _i0, ah, ay =>
  (ah, ay)
 | x0 :: r0, i0, ah, ay =>
  Q5t o0 r0 (i0 + 1) (Q4o (!(Q1h Q2y (Q1h Q3i (Q2j Qi (Q24 x0)).2).2).2.gy) ah) (ay ++ [(aC.mk (Q2j Qi (Q24 x0)).1 (Q1h Q3i (Q2j Qi (Q24 x0)).2).1 (Q1h Q2y (Q1h Q3i (Q2j Qi (Q24 x0)).2).2).1)])
def Q1f8 (o0 : aJ) (i0 : Nat) (_ah : aJ) (ay : List aC) : List PV :=
  [.bx 0 0, .un, .un, .ms 1 3 0 (List.length ay), .sl (Val.rows (Q1i Qn o0).1), iN (i0 : Int)] ++ nuns 32
def Qzi (_o0 : aJ) (_i0 : Nat) (ah : aJ) (ay : List aC) : List Ob :=
  [⟨6, 0, false, (aJ.cells ah)⟩, ⟨3, 0, true, (aC.rows ay).flatten⟩]
def Qgz (o0 : aJ) (i0 : Nat) (ah : aJ) (ay : List aC) : En := .loop 1 Ir.Qla Ir.Q1nn (Q1f8 o0 i0 ah ay) (Qzi o0 i0 ah ay)
def Qs6 (_o0 : aJ) (q0 : aJ) (q1 : List aC) (z : Nat → PV) (_zo : Nat → List PV) : St :=
  ⟨[z 0, z 1, z 2, .ms 1 3 0 (List.length q1)] ++ zr z 4 34, [(0, ⟨6, 0, false, (aJ.cells q0)⟩), (1, ⟨3, 0, true, (aC.rows q1).flatten⟩)], 258⟩
theorem Q15n (o0 : aJ) (i0 : Nat) (ah : aJ) (ay : List aC) : VOK (Go.Pv.look (number 0 (Qzi o0 i0 ah ay))) [(1, aC.rows ay)] := (VOK.cons (show Seen _ _ from Q3r (ob := ⟨3, 0, true, (aC.rows ay).flatten⟩) (aC.Q8 ay 3 rfl)) VOK.nil)
def Qiv (o0 : aJ) (e : En) (q : aJ × (List aC)) : Prop := ∃ z zo, Q5 G e (.st (.exit 0) (Qs6 o0 q.1 q.2 z zo))
theorem Qwj (o0 : aJ) {e e' : En} (h : ∀ r, Q5 G e r → Q5 G e' r) : ∀ q, Qiv o0 e q → Qiv o0 e' q
  | _, ⟨z, zo, hz⟩ => ⟨z, zo, h _ hz⟩
def Qdb (o0 : aJ) : Prop := (List.length (Q1i Qn o0).1 ≤ 137438953472) ∧ (∀ x0 ∈ (Q1i Qn o0).1, Q196 (Q24 x0)) ∧ (∀ x0 ∈ (Q1i Qn o0).1, Q7b (Q2j Qi (Q24 x0)).2) ∧ (∀ x0 ∈ (Q1i Qn o0).1, Q7b (Q1h Q3i (Q2j Qi (Q24 x0)).2).2) ∧ True
def Qu7 (o0 : aJ) (i0 : Nat) (_ah : aJ) (_ay : List aC) : List PV :=
  [.bx 0 0, .un, .un, .un, .sl (Val.rows (Q1i Qn o0).1), iN (i0 : Int), .un, .un, .un, iN (i0 : Int), .sl (Val.rows (Q1i Qn o0).1), iN ((List.length (Q1i Qn o0).1) : Int), .bool false]
def Qn5 (_o0 : aJ) (_i0 : Nat) (_ah : aJ) (_ay : List aC) : List (Nat × List PV) :=
  []
theorem Q1dn (o0 : aJ) (_H : Qdb o0) (i0 : Nat) (ah : aJ) (ay : List aC) (_aR : List.length ay ≤ i0) (bF : (decide ((i0 : Int) < ((List.length (Q1i Qn o0).1) : Int))) = false) : Qiv o0 (Qgz o0 i0 ah ay) (ah, ay) := by
 exact ⟨(envF (Qu7 o0 i0 ah ay)), (zoF (Qn5 o0 i0 ah ay)), Qg (Q15n o0 i0 ah ay) (x := ((.exit 0), Qs6 o0 ah ay (envF (Qu7 o0 i0 ah ay)) (zoF (Qn5 o0 i0 ah ay)))) [hP 2 (Qq _ _ (Val.Q7 (Q1i Qn o0).1)), hB 0 bF] [] (by kernel_rfl)⟩
theorem Q1bd (o0 : aJ) (H : Qdb o0) (x0 : Val) (i0 : Nat) (ah : aJ) (ay : List aC) (bH : (Q1i Qn o0).1[i0]? = some x0) (bT : i0 < List.length (Q1i Qn o0).1) (aR : List.length ay ≤ i0) (bF : (decide ((i0 : Int) < ((List.length (Q1i Qn o0).1) : Int))) = true) {r : Rs} (hr : Q5 G (Qgz o0 (i0 + 1) (Q4o (!(Q1h Q2y (Q1h Q3i (Q2j Qi (Q24 x0)).2).2).2.gy) ah) (ay ++ [(aC.mk (Q2j Qi (Q24 x0)).1 (Q1h Q3i (Q2j Qi (Q24 x0)).2).1 (Q1h Q2y (Q1h Q3i (Q2j Qi (Q24 x0)).2).2).1)])) r) : Q5 G (Qgz o0 i0 ah ay) r := by
 have hB0 := H.1
 exact Qc (Q15n o0 i0 ah ay) [hP 2 (Qq _ _ (Val.Q7 (Q1i Qn o0).1)), hB 0 bF, hP 2 (Q1f 5 _ i0 _ (Val.Qb bH) rfl), hA 12 1 1154 1218 3 32 0 0 true aC.Q7 aC.Q1l ay (aC.mk (Q2j Qi (Q24 x0)).1 (Q1h Q3i (Q2j Qi (Q24 x0)).2).1 (Q1h Q2y (Q1h Q3i (Q2j Qi (Q24 x0)).2).2).1) (aC.Qt ay) rfl rfl (by omega), hS 0 true (aC.Q8 (ay ++ [(aC.mk (Q2j Qi (Q24 x0)).1 (Q1h Q3i (Q2j Qi (Q24 x0)).2).1 (Q1h Q2y (Q1h Q3i (Q2j Qi (Q24 x0)).2).2).1)]) 3 rfl), hP 9 (Q26 i0 (by omega))] [aN (Q149 x0), aN (Q1md Qi (Q24 x0) (H.2.1 x0 (Q15 bH))), aN (Q5j Q3i (Q2j Qi (Q24 x0)).2 (H.2.2.1 x0 (Q15 bH))), aN (Q5j Q2y (Q1h Q3i (Q2j Qi (Q24 x0)).2).2 (H.2.2.2.1 x0 (Q15 bH))), aN (Qcs (!(Q1h Q2y (Q1h Q3i (Q2j Qi (Q24 x0)).2).2).2.gy) ah)] hr (by kernel_rfl)
theorem Q129 (o0 : aJ) (H : Qdb o0) : ∀ (r0 : List Val) (i0 : Nat) (ah : aJ) (ay : List aC), List.drop i0 (Q1i Qn o0).1 = r0 → List.length ay ≤ i0 → Qiv o0 (Qgz o0 i0 ah ay) (Q5t o0 r0 i0 ah ay)
 | [], i0, ah, ay, hd, aR => by
  have bF : (decide ((i0 : Int) < ((List.length (Q1i Qn o0).1) : Int))) = false := by have := Q1n hd; simp; omega
  rw [Q5t]
  exact Q1dn o0 H i0 ah ay aR bF
 | x0 :: r0, i0, ah, ay, hd, aR => by
  obtain ⟨bH, bT, hd'⟩ := Q1o hd
  have bF : (decide ((i0 : Int) < ((List.length (Q1i Qn o0).1) : Int))) = true := by simp; omega
  rw [Q5t]
  exact Qwj o0 (fun r hr => Q1bd o0 H x0 i0 ah ay bH bT aR bF hr) _ (Q129 o0 H r0 _ _ _ hd' (by first | omega | (simp; omega)))
def Q7t (o0 : aJ) : (List aC) × aJ := ((dE aC.dec o0.v Qn).1, bd o0 (dE aC.dec o0.v Qn).2)
theorem Q18p (o0 : aJ) : ∀ (l : List Val) (i : Nat) (b : aJ) (a : List aC), Q5t o0 l i b a = (bd b (l.all fun x => (aC.dec x).2), a ++ l.map (fun x => (aC.dec x).1))
  | [], _, b, a => by rw [Q5t, List.map_nil, List.append_nil, List.all_nil, Qnk]
  | x :: l, i, b, a => by
    rw [Q5t]
    refine Eq.trans ?_ ((Q18p o0 l (i + 1) (bd b (aC.dec x).2) (a ++ [(aC.dec x).1])).trans (by rw [Q86]; simp only [List.append_assoc, List.singleton_append, List.map_cons, List.all_cons]))
    simp only [Q24, Q4o, Q1h, Q2j, Q86, v_bd, Q97]
    have e : (isM x && ((dS x Qi).2 && ((dN x Q3i).2 && (dN x Q2y).2))) = (aC.dec x).2 := by simp only [aC.dec, Bool.and_assoc, Bool.and_left_comm, Bool.and_comm]
    simp only [Bool.and_assoc]
    rw [e]
    rfl
theorem Q2bx (o0 : aJ) : Q7t o0 = (((Q5t o0 (Q1i Qn o0).1 0 (Q1i Qn o0).2 []).2, (Q5t o0 (Q1i Qn o0).1 0 (Q1i Qn o0).2 []).1)) := by
  rw [Q18p]
  simp only [Q1i, Q86]
  rfl
def Q28k (o0 : aJ) : En := .call 136 [.bx 0 0] [⟨6, 0, false, (aJ.cells o0)⟩]
def Q2dh (_o0 : aJ) (q0 : List aC) (q1 : aJ) : Rs := .ret (.sl (aC.rows q0)) [⟨6, 0, false, (aJ.cells q1)⟩]
def Q1xm (o0 : aJ) : Rs := Q2dh o0 (Q7t o0).1 (Q7t o0).2
def Q1jw (o0 : aJ) : Prop := Val.Sm 1000000000 o0.v
theorem Q173 (o0 : aJ) (H : Q1jw o0) : (Q138 o0) ∧ (Qdb o0) ∧ True := by
  have hl := Q69 (Qp H Qn)
  have g : ∀ x ∈ (dL o0.v Qn).1, Val.Sm sB x := hl.2
  refine ⟨H, ?_, trivial⟩
  unfold Qdb
  refine ⟨Nat.le_trans hl.1 (Nat.le_of_ble_eq_true rfl), ?_⟩
  repeat' with_reducible apply And.intro
  all_goals first | exact True.intro | exact g
theorem Q1mb (o0 : aJ) (H : Q1jw o0) : Q5 G (Q28k o0) (Q1xm o0) := by
 unfold Q1xm
 rw [Q2bx]
 have hl0 := Q129 o0 ((Q173 o0 H).2.1) (Q1i Qn o0).1 0 (Q1i Qn o0).2 [] (by simp) (by simp)
 obtain ⟨z0, eG, hl0⟩ := hl0
 exact Q6 (fn := Ir.K4k) (by kernel_rfl) (h := [⟨6, 0, false, (aJ.cells o0)⟩]) (vw := []) VOK.nil [hS 0 true (aC.Q8 (Q5t o0 (Q1i Qn o0).1 0 (Q1i Qn o0).2 []).2 3 rfl), hQ (aC.Q7 (Q5t o0 (Q1i Qn o0).1 0 (Q1i Qn o0).2 []).2).symm] [aN (Q14a Qn o0 (Q173 o0 H).1), aV [(1, aC.rows (Q5t o0 (Q1i Qn o0).1 0 (Q1i Qn o0).2 []).2)] hl0] (by kernel_rfl)
def Q91 (o0 : aJ) : aX × aJ := ((aX.dec o0.v).1, bd o0 ((dN o0.v Q17).2 && (dN o0.v Qf).2 && (dN o0.v Q27).2 && (dN o0.v Qh).2 && (dN o0.v Q2c).2 && (dN o0.v Q2x).2 && (dB o0.v Q4a).2))
theorem Q2c3 (o0 : aJ) : Q91 o0 = (((aX.mk (Q1h Q17 o0).1 (Q1h Qf (Q1h Q17 o0).2).1 (Q1h Q27 (Q1h Qf (Q1h Q17 o0).2).2).1 (Q1h Qh (Q1h Q27 (Q1h Qf (Q1h Q17 o0).2).2).2).1 (Q1h Q2c (Q1h Qh (Q1h Q27 (Q1h Qf (Q1h Q17 o0).2).2).2).2).1 (Q1h Q2x (Q1h Q2c (Q1h Qh (Q1h Q27 (Q1h Qf (Q1h Q17 o0).2).2).2).2).2).1 (Q2n Q4a (Q1h Q2x (Q1h Q2c (Q1h Qh (Q1h Q27 (Q1h Qf (Q1h Q17 o0).2).2).2).2).2).2).1), (Q2n Q4a (Q1h Q2x (Q1h Q2c (Q1h Qh (Q1h Q27 (Q1h Qf (Q1h Q17 o0).2).2).2).2).2).2).2)) := by
  simp only [Q1h, Q2n, Q91, Q86, v_bd]
  refine Prod.ext rfl (congrArg (bd o0) ?_)
  simp only [Bool.and_assoc, Bool.and_left_comm, Bool.and_comm]
def Q28q (o0 : aJ) : En := .call 125 [.bx 0 0] [⟨6, 0, false, (aJ.cells o0)⟩]
def Q2dn (_o0 : aJ) (q0 : aX) (q1 : aJ) : Rs := .ret (.agg (aX.cells q0)) [⟨6, 0, false, (aJ.cells q1)⟩]
def Q1xs (o0 : aJ) : Rs := Q2dn o0 (Q91 o0).1 (Q91 o0).2
def Q1g1 (o0 : aJ) : Prop := Val.Sm 1000000000 o0.v
theorem Q9u (o0 : aJ) (H : Q1g1 o0) : (Q7b o0) ∧ (Q7b (Q1h Q17 o0).2) ∧ (Q7b (Q1h Qf (Q1h Q17 o0).2).2) ∧ (Q7b (Q1h Q27 (Q1h Qf (Q1h Q17 o0).2).2).2) ∧ (Q7b (Q1h Qh (Q1h Q27 (Q1h Qf (Q1h Q17 o0).2).2).2).2) ∧ (Q7b (Q1h Q2c (Q1h Qh (Q1h Q27 (Q1h Qf (Q1h Q17 o0).2).2).2).2).2) ∧ (Qjt (Q1h Q2x (Q1h Q2c (Q1h Qh (Q1h Q27 (Q1h Qf (Q1h Q17 o0).2).2).2).2).2).2) ∧ True := by
  repeat' with_reducible apply And.intro
  all_goals first | exact True.intro | exact H
theorem Q1c3 (o0 : aJ) (H : Q1g1 o0) : Q5 G (Q28q o0) (Q1xs o0) := by
 unfold Q1xs
 rw [Q2c3]
 exact Q6 (fn := Ir.K4q) (by kernel_rfl) (h := [⟨6, 0, false, (aJ.cells o0)⟩]) (vw := []) VOK.nil [] [aN (Q5j Q17 o0 (Q9u o0 H).1), aN (Q5j Qf (Q1h Q17 o0).2 (Q9u o0 H).2.1), aN (Q5j Q27 (Q1h Qf (Q1h Q17 o0).2).2 (Q9u o0 H).2.2.1), aN (Q5j Qh (Q1h Q27 (Q1h Qf (Q1h Q17 o0).2).2).2 (Q9u o0 H).2.2.2.1), aN (Q5j Q2c (Q1h Qh (Q1h Q27 (Q1h Qf (Q1h Q17 o0).2).2).2).2 (Q9u o0 H).2.2.2.2.1), aN (Q5j Q2x (Q1h Q2c (Q1h Qh (Q1h Q27 (Q1h Qf (Q1h Q17 o0).2).2).2).2).2 (Q9u o0 H).2.2.2.2.2.1), aN (Qfe Q4a (Q1h Q2x (Q1h Q2c (Q1h Qh (Q1h Q27 (Q1h Qf (Q1h Q17 o0).2).2).2).2).2).2 (Q9u o0 H).2.2.2.2.2.2.1)] (by kernel_rfl)
def Qow (o0 : aJ) : iC × aJ := ((JobS.dec o0.v).1, bd o0 ((dN o0.v Q72).2 && (dN o0.v Q73).2 && (dN o0.v Qbv).2 && (dN o0.v Qa1).2 && (dB o0.v Qbu).2 && (dB o0.v Q8o).2 && (tD o0.v Qv).2))
theorem aj.rE2 (v : Val) : (xE aj.rdec v).2 = (xE aj.dec v).2 := (Qaa aj.agr v).1
theorem aG.rE2 (v : Val) : (xE aG.rdec v).2 = (xE aG.dec v).2 := (Qaa aG.agr v).1
theorem Q9s {α : Type} (a b : Bool) (x y : α) : (bif !a then x else bif !b then x else y) = bif !(a && b) then x else y := by cases a <;> cases b <;> rfl
theorem aO.R_of {o : aD} {b : Bool} {x : aO} (h1 : aO.ok o = b) (h2 : aO.ok o = true → aO.of o = x) : aO.R o = bif !b then (aO.z, 6) else (x, 0) := by
  unfold aO.R
  rw [← h1]
  cases h : aO.ok o with
  | true => rw [h2 h]; rfl
  | false => rfl
def Q2q (p0 : aD) (p1 : BA) : aJ × aJ := (bd ⟨p0.aU, false⟩ (isM p0.aU && sEq p0.aM.kind p1), bd ⟨p0.aZ, false⟩ (isM p0.aZ))
theorem Q2bp (p0 : aD) (p1 : BA) : Q2q p0 p1 = (((Q4o (sEq p0.aM.kind p1) (Q24 p0.aU)), (Q24 p0.aZ))) := by
  simp only [Q24, Q4o, Q2q, Q86]
def Q28c (p0 : aD) (p1 : BA) : En := .call 121 [.agg (aD.cells p0), .str p1] []
def Q2d9 (_p0 : aD) (_p1 : BA) (q0 : aJ) (q1 : aJ) : Rs := .ret (.tup [.bx 0 0, .bx 1 0]) [⟨6, 0, true, (aJ.cells q0)⟩, ⟨6, 0, true, (aJ.cells q1)⟩]
def Q1xe (p0 : aD) (p1 : BA) : Rs := Q2d9 p0 p1 (Q2q p0 p1).1 (Q2q p0 p1).2
theorem Qex (p0 : aD) (p1 : BA) : Q5 G (Q28c p0 p1) (Q1xe p0 p1) := by
 unfold Q1xe
 rw [Q2bp]
 exact Q6 (fn := Ir.K4a) (by kernel_rfl) VOK.nil [] [aN (Q149 p0.aU), aN (Q149 p0.aZ), aN (Qcs (sEq p0.aM.kind p1) (Q24 p0.aU))] (by kernel_rfl)
def Q7s (o0 : aJ) (o1 : aJ) : Bool := o0.gy || o1.gy
theorem Q2bo (o0 : aJ) (o1 : aJ) : Q7s o0 o1 = (bif o0.gy then
    true
  else
    o1.gy) := by
  unfold Q7s
  cases o0.gy <;> cases o1.gy <;> rfl
def Q28a (o0 : aJ) (o1 : aJ) : En := .call 126 [.bx 0 0, .bx 1 0] [⟨6, 0, false, (aJ.cells o0)⟩, ⟨6, 0, false, (aJ.cells o1)⟩]
def Qcm (o0 : aJ) (o1 : aJ) (q0 : Bool) : Rs := .ret (.bool q0) [⟨6, 0, false, (aJ.cells o0)⟩, ⟨6, 0, false, (aJ.cells o1)⟩]
def Q1xc (o0 : aJ) (o1 : aJ) : Rs := Qcm o0 o1 (Q7s o0 o1)
theorem Qew (o0 : aJ) (o1 : aJ) : Q5 G (Q28a o0 o1) (Q1xc o0 o1) := by
 unfold Q1xc
 rw [Q2bo]
 cases h0 : o0.gy with
 | true =>
  exact Q6 (fn := Ir.K48) (by kernel_rfl) (h := [⟨6, 0, false, (aJ.cells o0)⟩, ⟨6, 0, false, (aJ.cells o1)⟩]) (vw := []) VOK.nil [hP 4 (decR o0.gy true [0] h0)] [] (by kernel_rfl)
 | false =>
  exact Q6 (fn := Ir.K48) (by kernel_rfl) (h := [⟨6, 0, false, (aJ.cells o0)⟩, ⟨6, 0, false, (aJ.cells o1)⟩]) (vw := []) VOK.nil [hP 4 (decR o0.gy false [0] h0)] [] (by kernel_rfl)
def Qpn (p0 : aD) : aJ :=
  (Q1h Qf (Q2q p0 Q22).1).2
def Qpx (p0 : aD) : aJ :=
  (Q1h Q11 (Qpn p0)).2
def Qq6 (p0 : aD) : aJ :=
  (Q1h Q3d (Qpx p0)).2
def Qqe (p0 : aD) : aJ :=
  (Q5f (Qq6 p0)).2
def Qjn (p0 : aD) : aJ :=
  (Q8i (Qqe p0)).2
def Qjp (p0 : aD) : aJ :=
  (Q91 (Q2q p0 Q22).2).2
def Q1m6 (p0 : aD) : aO × Int := aO.R p0
theorem Q2bl (p0 : aD) : Q1m6 p0 = (bif (Q7s (Qjn p0) (Qjp p0)) then
    ((aO.mk (bN.mk eB eB eB 0 0 0 0 false 0 [] [] [] []) 0 0 0 [] (bn.mk [] (bC.mk eB 0 0 0 [] [] [] [] [] [])) (aX.mk 0 0 0 0 0 0 false)), 6)
  else
    ((aO.mk p0.aM (Q1h Qf (Q2q p0 Q22).1).1 (Q1h Q11 (Qpn p0)).1 (Q1h Q3d (Qpx p0)).1 (Q5f (Qq6 p0)).1 (Q8i (Qqe p0)).1 (Q91 (Q2q p0 Q22).2).1), 0)) := by
  simp only [Qpn, Qpx, Qq6, Qqe, Qjn, Qjp, Q2q, Q7s, Q1h, Q5f, Q8i, Q91, Q86, v_bd, Qnj, not_or]
  refine aO.R_of ?_ (fun h => ?_)
  · unfold aO.ok
    simp only [← aj.rE2]
    try simp only [xE, aX.dec]
    rw [Bool.eq_iff_iff]
    simp only [Bool.and_eq_true]
    exact ⟨fun h => by simp only [h, and_self], fun h => by simp only [h, and_self]⟩
  · unfold aO.ok at h
    simp only [Bool.and_eq_true] at h
    unfold aO.of
    rw [← (Qaa aj.agr (prt p0.aU Q0)).2 h.2.2.2.2.2.2.1]
    all_goals rfl
def Q287 (p0 : aD) : En := .call 28 [.agg (aD.cells p0)] []
def Q1x9 (p0 : aD) : Rs := .ret (.tup [.agg (aO.cells (Q1m6 p0).1), iN (Q1m6 p0).2]) []
def Q1jt (p0 : aD) : Prop := aD.sm p0
theorem Q5p (p0 : aD) (H : Q1jt p0) : (Q7b (Q2q p0 Q22).1) ∧ (Q7b (Qpn p0)) ∧ (Q7b (Qpx p0)) ∧ (Qzx (Qq6 p0)) ∧ (Q1g0 (Qqe p0)) ∧ (Q1g1 (Q2q p0 Q22).2) ∧ True := by
  exact ⟨(by first | exact True.intro | exact H.1 | exact H.2 | exact Qp H.1 _ | exact Qp H.2 _), (by first | exact True.intro | exact H.1 | exact H.2 | exact Qp H.1 _ | exact Qp H.2 _), (by first | exact True.intro | exact H.1 | exact H.2 | exact Qp H.1 _ | exact Qp H.2 _), (by first | exact True.intro | exact H.1 | exact H.2 | exact Qp H.1 _ | exact Qp H.2 _), (by first | exact True.intro | exact H.1 | exact H.2 | exact Qp H.1 _ | exact Qp H.2 _), (by first | exact True.intro | exact H.1 | exact H.2 | exact Qp H.1 _ | exact Qp H.2 _), trivial⟩
theorem Q2fl (p0 : aD) (H : Q1jt p0) : Q5 G (Q287 p0) (Q1x9 p0) := by
 unfold Q1x9
 rw [Q2bl]
 cases h0 : (Q7s (Qjn p0) (Qjp p0)) with
 | true =>
  exact Q6 (fn := Ir.K45) (by kernel_rfl) VOK.nil [] [aN (Qex p0 Q22), aN (Q5j Qf (Q2q p0 Q22).1 (Q5p p0 H).1), aN (Q5j Q11 (Qpn p0) (Q5p p0 H).2.1), aN (Q5j Q3d (Qpx p0) (Q5p p0 H).2.2.1), aN (Qp7 (Qq6 p0) (Q5p p0 H).2.2.2.1), aN (Q1c2 (Qqe p0) (Q5p p0 H).2.2.2.2.1), aN (Q1c3 (Q2q p0 Q22).2 (Q5p p0 H).2.2.2.2.2.1), aN (toldOf (Qew (Qjn p0) (Qjp p0)) (congrArg (fun b => Qcm (Qjn p0) (Qjp p0) b) h0))] (by kernel_rfl)
 | false =>
  exact Q6 (fn := Ir.K45) (by kernel_rfl) VOK.nil [] [aN (Qex p0 Q22), aN (Q5j Qf (Q2q p0 Q22).1 (Q5p p0 H).1), aN (Q5j Q11 (Qpn p0) (Q5p p0 H).2.1), aN (Q5j Q3d (Qpx p0) (Q5p p0 H).2.2.1), aN (Qp7 (Qq6 p0) (Q5p p0 H).2.2.2.1), aN (Q1c2 (Qqe p0) (Q5p p0 H).2.2.2.2.1), aN (Q1c3 (Q2q p0 Q22).2 (Q5p p0 H).2.2.2.2.2.1), aN (toldOf (Qew (Qjn p0) (Qjp p0)) (congrArg (fun b => Qcm (Qjn p0) (Qjp p0) b) h0))] (by kernel_rfl)
theorem aL.R_of {o : aD} {b : Bool} {x : aL} (h1 : aL.ok o = b) (h2 : aL.ok o = true → aL.of o = x) : aL.R o = bif !b then (aL.z, 6) else (x, 0) := by
  unfold aL.R
  rw [← h1]
  cases h : aL.ok o with
  | true => rw [h2 h]; rfl
  | false => rfl
def Qpo (p0 : aD) : aJ :=
  (Q1h Qf (Q2q p0 Q1u).1).2
def Qpy (p0 : aD) : aJ :=
  (Q1h Q2z (Qpo p0)).2
def Qq7 (p0 : aD) : aJ :=
  (Q1h Q11 (Qpy p0)).2
def Qqf (p0 : aD) : aJ :=
  (Q2n Q3c (Qq7 p0)).2
def Qqk (p0 : aD) : aJ :=
  (Q5f (Qqf p0)).2
def Qjq (p0 : aD) : aJ :=
  (Q8i (Qqk p0)).2
def Qjr (p0 : aD) : aJ :=
  (Q91 (Q2q p0 Q1u).2).2
def Q1m8 (p0 : aD) : aL × Int := aL.R p0
theorem Q2bn (p0 : aD) : Q1m8 p0 = (bif (Q7s (Qjq p0) (Qjr p0)) then
    ((aL.mk (bN.mk eB eB eB 0 0 0 0 false 0 [] [] [] []) 0 0 0 false [] (bn.mk [] (bC.mk eB 0 0 0 [] [] [] [] [] [])) (aX.mk 0 0 0 0 0 0 false)), 6)
  else
    ((aL.mk p0.aM (Q1h Qf (Q2q p0 Q1u).1).1 (Q1h Q2z (Qpo p0)).1 (Q1h Q11 (Qpy p0)).1 (Q2n Q3c (Qq7 p0)).1 (Q5f (Qqf p0)).1 (Q8i (Qqk p0)).1 (Q91 (Q2q p0 Q1u).2).1), 0)) := by
  simp only [Qpo, Qpy, Qq7, Qqf, Qqk, Qjq, Qjr, Q2q, Q7s, Q1h, Q2n, Q5f, Q8i, Q91, Q86, v_bd, Qnj, not_or]
  refine aL.R_of ?_ (fun h => ?_)
  · unfold aL.ok
    simp only [← aj.rE2]
    try simp only [xE, aX.dec]
    rw [Bool.eq_iff_iff]
    simp only [Bool.and_eq_true]
    exact ⟨fun h => by simp only [h, and_self], fun h => by simp only [h, and_self]⟩
  · unfold aL.ok at h
    simp only [Bool.and_eq_true] at h
    unfold aL.of
    rw [← (Qaa aj.agr (prt p0.aU Q0)).2 h.2.2.2.2.2.2.2.1]
    all_goals rfl
def Q289 (p0 : aD) : En := .call 30 [.agg (aD.cells p0)] []
def Q1xb (p0 : aD) : Rs := .ret (.tup [.agg (aL.cells (Q1m8 p0).1), iN (Q1m8 p0).2]) []
def Q1jv (p0 : aD) : Prop := aD.sm p0
theorem Q4x (p0 : aD) (H : Q1jv p0) : (Q7b (Q2q p0 Q1u).1) ∧ (Q7b (Qpo p0)) ∧ (Q7b (Qpy p0)) ∧ (Qjt (Qq7 p0)) ∧ (Qzx (Qqf p0)) ∧ (Q1g0 (Qqk p0)) ∧ (Q1g1 (Q2q p0 Q1u).2) ∧ True := by
  exact ⟨(by first | exact True.intro | exact H.1 | exact H.2 | exact Qp H.1 _ | exact Qp H.2 _), (by first | exact True.intro | exact H.1 | exact H.2 | exact Qp H.1 _ | exact Qp H.2 _), (by first | exact True.intro | exact H.1 | exact H.2 | exact Qp H.1 _ | exact Qp H.2 _), (by first | exact True.intro | exact H.1 | exact H.2 | exact Qp H.1 _ | exact Qp H.2 _), (by first | exact True.intro | exact H.1 | exact H.2 | exact Qp H.1 _ | exact Qp H.2 _), (by first | exact True.intro | exact H.1 | exact H.2 | exact Qp H.1 _ | exact Qp H.2 _), (by first | exact True.intro | exact H.1 | exact H.2 | exact Qp H.1 _ | exact Qp H.2 _), trivial⟩
theorem Q2fn (p0 : aD) (H : Q1jv p0) : Q5 G (Q289 p0) (Q1xb p0) := by
 unfold Q1xb
 rw [Q2bn]
 cases h0 : (Q7s (Qjq p0) (Qjr p0)) with
 | true =>
  exact Q6 (fn := Ir.K47) (by kernel_rfl) VOK.nil [] [aN (Qex p0 Q1u), aN (Q5j Qf (Q2q p0 Q1u).1 (Q4x p0 H).1), aN (Q5j Q2z (Qpo p0) (Q4x p0 H).2.1), aN (Q5j Q11 (Qpy p0) (Q4x p0 H).2.2.1), aN (Qfe Q3c (Qq7 p0) (Q4x p0 H).2.2.2.1), aN (Qp7 (Qqf p0) (Q4x p0 H).2.2.2.2.1), aN (Q1c2 (Qqk p0) (Q4x p0 H).2.2.2.2.2.1), aN (Q1c3 (Q2q p0 Q1u).2 (Q4x p0 H).2.2.2.2.2.2.1), aN (toldOf (Qew (Qjq p0) (Qjr p0)) (congrArg (fun b => Qcm (Qjq p0) (Qjr p0) b) h0))] (by kernel_rfl)
 | false =>
  exact Q6 (fn := Ir.K47) (by kernel_rfl) VOK.nil [] [aN (Qex p0 Q1u), aN (Q5j Qf (Q2q p0 Q1u).1 (Q4x p0 H).1), aN (Q5j Q2z (Qpo p0) (Q4x p0 H).2.1), aN (Q5j Q11 (Qpy p0) (Q4x p0 H).2.2.1), aN (Qfe Q3c (Qq7 p0) (Q4x p0 H).2.2.2.1), aN (Qp7 (Qqf p0) (Q4x p0 H).2.2.2.2.1), aN (Q1c2 (Qqk p0) (Q4x p0 H).2.2.2.2.2.1), aN (Q1c3 (Q2q p0 Q1u).2 (Q4x p0 H).2.2.2.2.2.2.1), aN (toldOf (Qew (Qjq p0) (Qjr p0)) (congrArg (fun b => Qcm (Qjq p0) (Qjr p0) b) h0))] (by kernel_rfl)
theorem aQ.R_of {o : aD} {b : Bool} {x : aQ} (h1 : aQ.ok o = b) (h2 : aQ.ok o = true → aQ.of o = x) : aQ.R o = bif !b then (aQ.z, 6) else (x, 0) := by
  unfold aQ.R
  rw [← h1]
  cases h : aQ.ok o with
  | true => rw [h2 h]; rfl
  | false => rfl
def Qcv (p0 : aD) : aJ :=
  (Q1h Q11 (Q2q p0 Q2b).1).2
def Qpv (p0 : aD) : aJ :=
  (Q6x Q2g (Qcv p0))
def Qq5 (p0 : aD) : aJ :=
  (Qa5 (Qcv p0) (Qpv p0)).2.1
def Qqd (p0 : aD) : aJ :=
  (Q5f (Qq5 p0)).2
def Qjl (p0 : aD) : aJ :=
  (Q8i (Qqd p0)).2
def Qjo (p0 : aD) : aJ :=
  (Q91 (Q2q p0 Q2b).2).2
def Q1m2 (p0 : aD) : aQ × Int := aQ.R p0
theorem Q2bh (p0 : aD) : Q1m2 p0 = (bif (Q7s (Qjl p0) (Qjo p0)) then
    ((aQ.mk (bN.mk eB eB eB 0 0 0 0 false 0 [] [] [] []) 0 (bK.mk false 0) [] (bn.mk [] (bC.mk eB 0 0 0 [] [] [] [] [] [])) (aX.mk 0 0 0 0 0 0 false)), 6)
  else
    ((aQ.mk p0.aM (Q1h Q11 (Q2q p0 Q2b).1).1 (Qa5 (Qcv p0) (Qpv p0)).1 (Q5f (Qq5 p0)).1 (Q8i (Qqd p0)).1 (Q91 (Q2q p0 Q2b).2).1), 0)) := by
  simp only [Qcv, Qpv, Qq5, Qqd, Qjl, Qjo, Q2q, Q7s, Q1h, Q6x, Q5f, Q8i, Qa5, Q91, Q86, v_bd, Qnj, Bool.not_not, not_or]
  refine aQ.R_of ?_ (fun h => ?_)
  · unfold aQ.ok
    simp only [← aj.rE2]
    try simp only [xE, bK.dec, aX.dec]
    rw [Bool.eq_iff_iff]
    simp only [Bool.and_eq_true]
    exact ⟨fun h => by simp only [h, and_self], fun h => by simp only [h, and_self]⟩
  · unfold aQ.ok at h
    simp only [Bool.and_eq_true] at h
    unfold aQ.of
    rw [← (Qaa aj.agr (prt p0.aU Q0)).2 h.2.2.2.2.1]
    all_goals rfl
def Q283 (p0 : aD) : En := .call 32 [.agg (aD.cells p0)] []
def Q1x5 (p0 : aD) : Rs := .ret (.tup [.agg (aQ.cells (Q1m2 p0).1), iN (Q1m2 p0).2]) []
def Q1jp (p0 : aD) : Prop := aD.sm p0
theorem Q5o (p0 : aD) (H : Q1jp p0) : (Q7b (Q2q p0 Q2b).1) ∧ (Q1jy (Qcv p0)) ∧ (Q1p8 (Qpv p0)) ∧ (Qzx (Qq5 p0)) ∧ (Q1g0 (Qqd p0)) ∧ (Q1g1 (Q2q p0 Q2b).2) ∧ True := by
  exact ⟨(by first | exact True.intro | exact H.1 | exact H.2 | exact Qp H.1 _ | exact Qp H.2 _), (by first | exact True.intro | exact H.1 | exact H.2 | exact Qp H.1 _ | exact Qp H.2 _), (by first | exact True.intro | exact H.1 | exact H.2 | exact Qp H.1 _ | exact Qp H.2 _), (by first | exact True.intro | exact H.1 | exact H.2 | exact Qp H.1 _ | exact Qp H.2 _), (by first | exact True.intro | exact H.1 | exact H.2 | exact Qp H.1 _ | exact Qp H.2 _), (by first | exact True.intro | exact H.1 | exact H.2 | exact Qp H.1 _ | exact Qp H.2 _), trivial⟩
theorem Q2fh (p0 : aD) (H : Q1jp p0) : Q5 G (Q283 p0) (Q1x5 p0) := by
 unfold Q1x5
 rw [Q2bh]
 cases h0 : (Q7s (Qjl p0) (Qjo p0)) with
 | true =>
  exact Q6 (fn := Ir.K3z) (by kernel_rfl) VOK.nil [] [aN (Qex p0 Q2b), aN (Q5j Q11 (Q2q p0 Q2b).1 (Q5o p0 H).1), aN (Q1qj Q2g (Qcv p0) (Q5o p0 H).2.1), aN (Q20e (Qcv p0) (Qpv p0) (Q5o p0 H).2.2.1), aN (Qp7 (Qq5 p0) (Q5o p0 H).2.2.2.1), aN (Q1c2 (Qqd p0) (Q5o p0 H).2.2.2.2.1), aN (Q1c3 (Q2q p0 Q2b).2 (Q5o p0 H).2.2.2.2.2.1), aN (toldOf (Qew (Qjl p0) (Qjo p0)) (congrArg (fun b => Qcm (Qjl p0) (Qjo p0) b) h0))] (by kernel_rfl)
 | false =>
  exact Q6 (fn := Ir.K3z) (by kernel_rfl) VOK.nil [] [aN (Qex p0 Q2b), aN (Q5j Q11 (Q2q p0 Q2b).1 (Q5o p0 H).1), aN (Q1qj Q2g (Qcv p0) (Q5o p0 H).2.1), aN (Q20e (Qcv p0) (Qpv p0) (Q5o p0 H).2.2.1), aN (Qp7 (Qq5 p0) (Q5o p0 H).2.2.2.1), aN (Q1c2 (Qqd p0) (Q5o p0 H).2.2.2.2.1), aN (Q1c3 (Q2q p0 Q2b).2 (Q5o p0 H).2.2.2.2.2.1), aN (toldOf (Qew (Qjl p0) (Qjo p0)) (congrArg (fun b => Qcm (Qjl p0) (Qjo p0) b) h0))] (by kernel_rfl)
theorem aY.R_of {o : aD} {b : Bool} {x : aY} (h1 : aY.ok o = b) (h2 : aY.ok o = true → aY.of o = x) : aY.R o = bif !b then (aY.z, 6) else (x, 0) := by
  unfold aY.R
  rw [← h1]
  cases h : aY.ok o with
  | true => rw [h2 h]; rfl
  | false => rfl
def Qc7 (p0 : aD) : aJ :=
  (Q5f (Q2q p0 Q2r).1).2
def Qjg (p0 : aD) : aJ :=
  (Q2n Q3v (Q7t (Qc7 p0)).2).2
def Qjj (p0 : aD) : aJ :=
  (Q1h Q10 (Q2q p0 Q2r).2).2
def Q1m7 (p0 : aD) : aY × Int := aY.R p0
theorem Q2bm (p0 : aD) : Q1m7 p0 = (bif (Q7s (Qjg p0) (Qjj p0)) then
    ((aY.mk (bN.mk eB eB eB 0 0 0 0 false 0 [] [] [] []) [] [] false 0), 6)
  else
    ((aY.mk p0.aM (Q5f (Q2q p0 Q2r).1).1 (Q7t (Qc7 p0)).1 (Q2n Q3v (Q7t (Qc7 p0)).2).1 (Q1h Q10 (Q2q p0 Q2r).2).1), 0)) := by
  simp only [Qc7, Qjg, Qjj, Q2q, Q7s, Q1h, Q2n, Q5f, Q7t, Q86, v_bd, Qnj, not_or]
  refine aY.R_of ?_ (fun h => ?_)
  · unfold aY.ok
    simp only [← aj.rE2]
    try simp only [xE]
    rw [Bool.eq_iff_iff]
    simp only [Bool.and_eq_true]
    exact ⟨fun h => by simp only [h, and_self], fun h => by simp only [h, and_self]⟩
  · unfold aY.ok at h
    simp only [Bool.and_eq_true] at h
    unfold aY.of
    rw [← (Qaa aj.agr (prt p0.aU Q0)).2 h.2.2.2.2.1]
    all_goals rfl
def Q288 (p0 : aD) : En := .call 36 [.agg (aD.cells p0)] []
def Q1xa (p0 : aD) : Rs := .ret (.tup [.agg (aY.cells (Q1m7 p0).1), iN (Q1m7 p0).2]) []
def Q1ju (p0 : aD) : Prop := aD.sm p0
theorem Q8l (p0 : aD) (H : Q1ju p0) : (Qzx (Q2q p0 Q2r).1) ∧ (Q1jw (Qc7 p0)) ∧ (Qjt (Q7t (Qc7 p0)).2) ∧ (Q7b (Q2q p0 Q2r).2) ∧ True := by
  exact ⟨(by first | exact True.intro | exact H.1 | exact H.2 | exact Qp H.1 _ | exact Qp H.2 _), (by first | exact True.intro | exact H.1 | exact H.2 | exact Qp H.1 _ | exact Qp H.2 _), (by first | exact True.intro | exact H.1 | exact H.2 | exact Qp H.1 _ | exact Qp H.2 _), (by first | exact True.intro | exact H.1 | exact H.2 | exact Qp H.1 _ | exact Qp H.2 _), trivial⟩
theorem Q2fm (p0 : aD) (H : Q1ju p0) : Q5 G (Q288 p0) (Q1xa p0) := by
 unfold Q1xa
 rw [Q2bm]
 cases h0 : (Q7s (Qjg p0) (Qjj p0)) with
 | true =>
  exact Q6 (fn := Ir.K46) (by kernel_rfl) VOK.nil [] [aN (Qex p0 Q2r), aN (Qp7 (Q2q p0 Q2r).1 (Q8l p0 H).1), aN (Q1mb (Qc7 p0) (Q8l p0 H).2.1), aN (Qfe Q3v (Q7t (Qc7 p0)).2 (Q8l p0 H).2.2.1), aN (Q5j Q10 (Q2q p0 Q2r).2 (Q8l p0 H).2.2.2.1), aN (toldOf (Qew (Qjg p0) (Qjj p0)) (congrArg (fun b => Qcm (Qjg p0) (Qjj p0) b) h0))] (by kernel_rfl)
 | false =>
  exact Q6 (fn := Ir.K46) (by kernel_rfl) VOK.nil [] [aN (Qex p0 Q2r), aN (Qp7 (Q2q p0 Q2r).1 (Q8l p0 H).1), aN (Q1mb (Qc7 p0) (Q8l p0 H).2.1), aN (Qfe Q3v (Q7t (Qc7 p0)).2 (Q8l p0 H).2.2.1), aN (Q5j Q10 (Q2q p0 Q2r).2 (Q8l p0 H).2.2.2.1), aN (toldOf (Qew (Qjg p0) (Qjj p0)) (congrArg (fun b => Qcm (Qjg p0) (Qjj p0) b) h0))] (by kernel_rfl)
theorem aH.R_of {o : aD} {b : Bool} {x : aH} (h1 : aH.ok o = b) (h2 : aH.ok o = true → aH.of o = x) : aH.R o = bif !b then (aH.z, 6) else (x, 0) := by
  unfold aH.R
  rw [← h1]
  cases h : aH.ok o with
  | true => rw [h2 h]; rfl
  | false => rfl
def Q3o (p0 : aD) : aJ :=
  (Q7t (Q2q p0 Q1k).1).2
def Q1uk (p0 : aD) : aJ :=
  (Q1i Q20 (Q3o p0)).2
def Q4y (p0 : aD) : List Val → Nat → aJ → (List aT) → aJ × (List aT)
 | [], _i0, ah, ay =>
  (ah, ay)
 | x0 :: r0, i0, ah, ay =>
  Q4y p0 r0 (i0 + 1) (Q4o (!(Q2n Q1y (Q2n Qh (Q1h Q10 (Q2j Q1b (Q2j Q2v (Q24 x0)).2).2).2).2).2.gy) ah) (ay ++ [(aT.mk (Q2j Q2v (Q24 x0)).1 (Q2j Q1b (Q2j Q2v (Q24 x0)).2).1 (Q1h Q10 (Q2j Q1b (Q2j Q2v (Q24 x0)).2).2).1 (Q2n Qh (Q1h Q10 (Q2j Q1b (Q2j Q2v (Q24 x0)).2).2).2).1 (Q2n Q1y (Q2n Qh (Q1h Q10 (Q2j Q1b (Q2j Q2v (Q24 x0)).2).2).2).2).1)])
def Q1f5 (p0 : aD) (i0 : Nat) (_ah : aJ) (_ay : List aT) : List PV :=
  [.un, .un, .bx 0 0, .un, .bx 1 0, .bx 2 0, .bx 3 0, .sl (Val.rows (Q1i Q20 (Q3o p0)).1), iN (i0 : Int)] ++ nuns 52
def Qzf (p0 : aD) (_i0 : Nat) (ah : aJ) (ay : List aT) : List Ob :=
  [⟨15, 0, true, [.str eB, .str eB, .str eB, iN 0, iN 0, iN 0, iN 0, .bool false, iN 0, .ms 4 2 0 0, .ms 5 5 0 0, .ms 6 1 0 0, .ms 7 2 0 0, .ms 8 3 0 0, .ms 9 5 0 0]⟩, ⟨6, 0, false, (aJ.cells ah)⟩, ⟨6, 0, true, (aJ.cells (Q2q p0 Q1k).2)⟩, ⟨15, 0, true, [.str p0.aM.kind, .str p0.aM.bO, .str p0.aM.name, iN p0.aM.fZ, iN p0.aM.dx, iN p0.aM.bU, iN p0.aM.dw, .bool p0.aM.cB, iN p0.aM.cu, .sl (bf.rows p0.aM.bP), .sl (bW.rows p0.aM.bS), .sl (Qz p0.aM.bL), .sl (bD.rows p0.aM.bg), .sl (aC.rows (Q7t (Q2q p0 Q1k).1).1), .ms 10 5 0 (List.length ay)]⟩, ⟨2, 0, true, []⟩, ⟨5, 0, true, []⟩, ⟨1, 0, true, []⟩, ⟨2, 0, true, []⟩, ⟨3, 0, true, []⟩, ⟨5, 0, true, []⟩, ⟨5, 0, true, (aT.rows ay).flatten⟩]
def Qgx (p0 : aD) (i0 : Nat) (ah : aJ) (ay : List aT) : En := .loop 0 Ir.Ql7 Ir.Q1nk (Q1f5 p0 i0 ah ay) (Qzf p0 i0 ah ay)
def Qs3 (p0 : aD) (q0 : aJ) (q1 : List aT) (z : Nat → PV) (_zo : Nat → List PV) : St :=
  ⟨[z 0, z 1, .bx 0 0, z 3, .bx 1 0, .bx 2 0, .bx 3 0] ++ zr z 7 54, [(0, ⟨15, 0, true, [.str eB, .str eB, .str eB, iN 0, iN 0, iN 0, iN 0, .bool false, iN 0, .ms 4 2 0 0, .ms 5 5 0 0, .ms 6 1 0 0, .ms 7 2 0 0, .ms 8 3 0 0, .ms 9 5 0 0]⟩), (1, ⟨6, 0, false, (aJ.cells q0)⟩), (2, ⟨6, 0, true, (aJ.cells (Q2q p0 Q1k).2)⟩), (3, ⟨15, 0, true, [.str p0.aM.kind, .str p0.aM.bO, .str p0.aM.name, iN p0.aM.fZ, iN p0.aM.dx, iN p0.aM.bU, iN p0.aM.dw, .bool p0.aM.cB, iN p0.aM.cu, .sl (bf.rows p0.aM.bP), .sl (bW.rows p0.aM.bS), .sl (Qz p0.aM.bL), .sl (bD.rows p0.aM.bg), .sl (aC.rows (Q7t (Q2q p0 Q1k).1).1), .ms 10 5 0 (List.length q1)]⟩), (4, ⟨2, 0, true, []⟩), (5, ⟨5, 0, true, []⟩), (6, ⟨1, 0, true, []⟩), (7, ⟨2, 0, true, []⟩), (8, ⟨3, 0, true, []⟩), (9, ⟨5, 0, true, []⟩), (10, ⟨5, 0, true, (aT.rows q1).flatten⟩)], 267⟩
theorem Q15l (p0 : aD) (i0 : Nat) (ah : aJ) (ay : List aT) : VOK (Go.Pv.look (number 0 (Qzf p0 i0 ah ay))) [(10, aT.rows ay)] := (VOK.cons (show Seen _ _ from Q3r (ob := ⟨5, 0, true, (aT.rows ay).flatten⟩) (aT.Q8 ay 5 rfl)) VOK.nil)
def Qis (p0 : aD) (e : En) (q : aJ × (List aT)) : Prop := ∃ z zo, Q5 G e (.st (.exit 0) (Qs3 p0 q.1 q.2 z zo))
theorem Qwh (p0 : aD) {e e' : En} (h : ∀ r, Q5 G e r → Q5 G e' r) : ∀ q, Qis p0 e q → Qis p0 e' q
  | _, ⟨z, zo, hz⟩ => ⟨z, zo, h _ hz⟩
def Qd9 (p0 : aD) : Prop := (List.length (Q1i Q20 (Q3o p0)).1 ≤ 137438953472) ∧ (∀ x0 ∈ (Q1i Q20 (Q3o p0)).1, Q196 (Q24 x0)) ∧ (∀ x0 ∈ (Q1i Q20 (Q3o p0)).1, Q196 (Q2j Q2v (Q24 x0)).2) ∧ (∀ x0 ∈ (Q1i Q20 (Q3o p0)).1, Q7b (Q2j Q1b (Q2j Q2v (Q24 x0)).2).2) ∧ (∀ x0 ∈ (Q1i Q20 (Q3o p0)).1, Qjt (Q1h Q10 (Q2j Q1b (Q2j Q2v (Q24 x0)).2).2).2) ∧ (∀ x0 ∈ (Q1i Q20 (Q3o p0)).1, Qjt (Q2n Qh (Q1h Q10 (Q2j Q1b (Q2j Q2v (Q24 x0)).2).2).2).2) ∧ True
def Qu4 (p0 : aD) (i0 : Nat) (_ah : aJ) (_ay : List aT) : List PV :=
  nuns 7 ++ [.sl (Val.rows (Q1i Q20 (Q3o p0)).1), iN (i0 : Int)] ++ nuns 13 ++ [iN (i0 : Int), .sl (Val.rows (Q1i Q20 (Q3o p0)).1), iN ((List.length (Q1i Q20 (Q3o p0)).1) : Int), .bool false]
def Qn2 (_p0 : aD) (_i0 : Nat) (_ah : aJ) (_ay : List aT) : List (Nat × List PV) :=
  []
theorem Q1dk (p0 : aD) (_H : Qd9 p0) (i0 : Nat) (ah : aJ) (ay : List aT) (_aR : List.length ay ≤ i0) (bF : (decide ((i0 : Int) < ((List.length (Q1i Q20 (Q3o p0)).1) : Int))) = false) : Qis p0 (Qgx p0 i0 ah ay) (ah, ay) := by
 exact ⟨(envF (Qu4 p0 i0 ah ay)), (zoF (Qn2 p0 i0 ah ay)), Qg (Q15l p0 i0 ah ay) (x := ((.exit 0), Qs3 p0 ah ay (envF (Qu4 p0 i0 ah ay)) (zoF (Qn2 p0 i0 ah ay)))) [hP 2 (Qq _ _ (Val.Q7 (Q1i Q20 (Q3o p0)).1)), hB 0 bF] [] (by kernel_rfl)⟩
theorem Q1b9 (p0 : aD) (H : Qd9 p0) (x0 : Val) (i0 : Nat) (ah : aJ) (ay : List aT) (bH : (Q1i Q20 (Q3o p0)).1[i0]? = some x0) (bT : i0 < List.length (Q1i Q20 (Q3o p0)).1) (aR : List.length ay ≤ i0) (bF : (decide ((i0 : Int) < ((List.length (Q1i Q20 (Q3o p0)).1) : Int))) = true) {r : Rs} (hr : Q5 G (Qgx p0 (i0 + 1) (Q4o (!(Q2n Q1y (Q2n Qh (Q1h Q10 (Q2j Q1b (Q2j Q2v (Q24 x0)).2).2).2).2).2.gy) ah) (ay ++ [(aT.mk (Q2j Q2v (Q24 x0)).1 (Q2j Q1b (Q2j Q2v (Q24 x0)).2).1 (Q1h Q10 (Q2j Q1b (Q2j Q2v (Q24 x0)).2).2).1 (Q2n Qh (Q1h Q10 (Q2j Q1b (Q2j Q2v (Q24 x0)).2).2).2).1 (Q2n Q1y (Q2n Qh (Q1h Q10 (Q2j Q1b (Q2j Q2v (Q24 x0)).2).2).2).2).1)])) r) : Q5 G (Qgx p0 i0 ah ay) r := by
 have hB0 := H.1
 exact Qc (Q15l p0 i0 ah ay) [hP 2 (Qq _ _ (Val.Q7 (Q1i Q20 (Q3o p0)).1)), hB 0 bF, hP 2 (Q1f 5 _ i0 _ (Val.Qb bH) rfl), hA 17 10 1483 1547 5 48 0 0 true aT.Q7 aT.Q1l ay (aT.mk (Q2j Q2v (Q24 x0)).1 (Q2j Q1b (Q2j Q2v (Q24 x0)).2).1 (Q1h Q10 (Q2j Q1b (Q2j Q2v (Q24 x0)).2).2).1 (Q2n Qh (Q1h Q10 (Q2j Q1b (Q2j Q2v (Q24 x0)).2).2).2).1 (Q2n Q1y (Q2n Qh (Q1h Q10 (Q2j Q1b (Q2j Q2v (Q24 x0)).2).2).2).2).1) (aT.Qt ay) rfl rfl (by omega), hS 0 true (aT.Q8 (ay ++ [(aT.mk (Q2j Q2v (Q24 x0)).1 (Q2j Q1b (Q2j Q2v (Q24 x0)).2).1 (Q1h Q10 (Q2j Q1b (Q2j Q2v (Q24 x0)).2).2).1 (Q2n Qh (Q1h Q10 (Q2j Q1b (Q2j Q2v (Q24 x0)).2).2).2).1 (Q2n Q1y (Q2n Qh (Q1h Q10 (Q2j Q1b (Q2j Q2v (Q24 x0)).2).2).2).2).1)]) 5 rfl), hP 10 (Q26 i0 (by omega))] [aN (Q149 x0), aN (Q1md Q2v (Q24 x0) (H.2.1 x0 (Q15 bH))), aN (Q1md Q1b (Q2j Q2v (Q24 x0)).2 (H.2.2.1 x0 (Q15 bH))), aN (Q5j Q10 (Q2j Q1b (Q2j Q2v (Q24 x0)).2).2 (H.2.2.2.1 x0 (Q15 bH))), aN (Qfe Qh (Q1h Q10 (Q2j Q1b (Q2j Q2v (Q24 x0)).2).2).2 (H.2.2.2.2.1 x0 (Q15 bH))), aN (Qfe Q1y (Q2n Qh (Q1h Q10 (Q2j Q1b (Q2j Q2v (Q24 x0)).2).2).2).2 (H.2.2.2.2.2.1 x0 (Q15 bH))), aN (Qcs (!(Q2n Q1y (Q2n Qh (Q1h Q10 (Q2j Q1b (Q2j Q2v (Q24 x0)).2).2).2).2).2.gy) ah)] hr (by kernel_rfl)
theorem Q127 (p0 : aD) (H : Qd9 p0) : ∀ (r0 : List Val) (i0 : Nat) (ah : aJ) (ay : List aT), List.drop i0 (Q1i Q20 (Q3o p0)).1 = r0 → List.length ay ≤ i0 → Qis p0 (Qgx p0 i0 ah ay) (Q4y p0 r0 i0 ah ay)
 | [], i0, ah, ay, hd, aR => by
  have bF : (decide ((i0 : Int) < ((List.length (Q1i Q20 (Q3o p0)).1) : Int))) = false := by have := Q1n hd; simp; omega
  rw [Q4y]
  exact Q1dk p0 H i0 ah ay aR bF
 | x0 :: r0, i0, ah, ay, hd, aR => by
  obtain ⟨bH, bT, hd'⟩ := Q1o hd
  have bF : (decide ((i0 : Int) < ((List.length (Q1i Q20 (Q3o p0)).1) : Int))) = true := by simp; omega
  rw [Q4y]
  exact Qwh p0 (fun r hr => Q1b9 p0 H x0 i0 ah ay bH bT aR bF hr) _ (Q127 p0 H r0 _ _ _ hd' (by first | omega | (simp; omega)))
def Qjh (p0 : aD) : aJ :=
  (Q4y p0 (Q1i Q20 (Q3o p0)).1 0 (Q1i Q20 (Q3o p0)).2 []).1
def Q1m3 (p0 : aD) : aH × Int := aH.R p0
theorem Q18m (p0 : aD) : ∀ (l : List Val) (i : Nat) (b : aJ) (a : List aT), Q4y p0 l i b a = (bd b (l.all fun x => (aT.dec x).2), a ++ l.map (fun x => (aT.dec x).1))
  | [], _, b, a => by rw [Q4y, List.map_nil, List.append_nil, List.all_nil, Qnk]
  | x :: l, i, b, a => by
    rw [Q4y]
    refine Eq.trans ?_ ((Q18m p0 l (i + 1) (bd b (aT.dec x).2) (a ++ [(aT.dec x).1])).trans (by rw [Q86]; simp only [List.append_assoc, List.singleton_append, List.map_cons, List.all_cons]))
    have e : (isM x && ((dS x Q2v).2 && ((dS x Q1b).2 && ((dN x Q10).2 && ((dB x Qh).2 && ((dB x Q1y).2)))))) = (aT.dec x).2 := by simp only [aT.dec, Bool.and_assoc, Bool.and_left_comm, Bool.and_comm]
    simp only [Q24, Q4o, Q1h, Q2j, Q2n, Q86, v_bd, Q97, Bool.and_assoc]
    rw [e]
    rfl
theorem Q2bi (p0 : aD) : Q1m3 p0 = (bif (Q7s (Qjh p0) (Q2q p0 Q1k).2) then
    ((aH.mk (bN.mk eB eB eB 0 0 0 0 false 0 [] [] [] []) [] []), 6)
  else
    ((aH.mk p0.aM (Q7t (Q2q p0 Q1k).1).1 (Q4y p0 (Q1i Q20 (Q3o p0)).1 0 (Q1i Q20 (Q3o p0)).2 []).2), 0)) := by
  simp only [Q3o, Qjh, Q2q, Q7s, Q1i, Q7t, Q86, v_bd, Q18m, Qnj, not_or, List.nil_append]
  refine aH.R_of ?_ (fun h => ?_)
  · unfold aH.ok
    try simp only [xE]
    rw [Bool.eq_iff_iff]
    simp only [Bool.and_eq_true]
    exact ⟨fun h => by simp only [h, and_self], fun h => by simp only [h, and_self]⟩
  · rfl
def Q284 (p0 : aD) : En := .call 38 [.agg (aD.cells p0)] []
def Q1x6 (p0 : aD) : Rs := .ret (.tup [.agg (aH.cells (Q1m3 p0).1), iN (Q1m3 p0).2]) []
def Q1jq (p0 : aD) : Prop := aD.sm p0
theorem Qe5 (p0 : aD) (H : Q1jq p0) : (Q1jw (Q2q p0 Q1k).1) ∧ (Q138 (Q3o p0)) ∧ (Qd9 p0) ∧ True := by
  exact ⟨(by first | exact True.intro | exact H.1 | exact H.2 | exact Qp H.1 _ | exact Qp H.2 _), (by first | exact True.intro | exact H.1 | exact H.2 | exact Qp H.1 _ | exact Qp H.2 _), (by
    have hl := Q69 (Qp H.1 Q20)
    unfold Qd9
    refine ⟨Nat.le_trans hl.1 (Nat.le_of_ble_eq_true rfl), ?_⟩
    repeat' with_reducible apply And.intro
    all_goals first | exact True.intro | exact hl.2), trivial⟩
theorem Q2fi (p0 : aD) (H : Q1jq p0) : Q5 G (Q284 p0) (Q1x6 p0) := by
 unfold Q1x6
 rw [Q2bi]
 have hl0 := Q127 p0 ((Qe5 p0 H).2.2.1) (Q1i Q20 (Q3o p0)).1 0 (Q1i Q20 (Q3o p0)).2 [] (by simp) (by simp)
 obtain ⟨z0, eG, hl0⟩ := hl0
 cases h0 : (Q7s (Qjh p0) (Q2q p0 Q1k).2) with
 | true =>
  exact Q6 (fn := Ir.K41) (by kernel_rfl) VOK.nil [hS 0 true (aT.Q8 (Q4y p0 (Q1i Q20 (Q3o p0)).1 0 (Q1i Q20 (Q3o p0)).2 []).2 5 rfl)] [aN (Qex p0 Q1k), aN (Q1mb (Q2q p0 Q1k).1 (Qe5 p0 H).1), aN (Q14a Q20 (Q3o p0) (Qe5 p0 H).2.1), aV [(10, aT.rows (Q4y p0 (Q1i Q20 (Q3o p0)).1 0 (Q1i Q20 (Q3o p0)).2 []).2)] hl0, aN (toldOf (Qew (Qjh p0) (Q2q p0 Q1k).2) (congrArg (fun b => Qcm (Qjh p0) (Q2q p0 Q1k).2 b) h0))] (by kernel_rfl)
 | false =>
  exact Q6 (fn := Ir.K41) (by kernel_rfl) VOK.nil [hS 0 true (aT.Q8 (Q4y p0 (Q1i Q20 (Q3o p0)).1 0 (Q1i Q20 (Q3o p0)).2 []).2 5 rfl), hQ (aT.Q7 (Q4y p0 (Q1i Q20 (Q3o p0)).1 0 (Q1i Q20 (Q3o p0)).2 []).2).symm] [aN (Qex p0 Q1k), aN (Q1mb (Q2q p0 Q1k).1 (Qe5 p0 H).1), aN (Q14a Q20 (Q3o p0) (Qe5 p0 H).2.1), aV [(10, aT.rows (Q4y p0 (Q1i Q20 (Q3o p0)).1 0 (Q1i Q20 (Q3o p0)).2 []).2)] hl0, aN (toldOf (Qew (Qjh p0) (Q2q p0 Q1k).2) (congrArg (fun b => Qcm (Qjh p0) (Q2q p0 Q1k).2 b) h0))] (by kernel_rfl)
theorem aA.R_of {o : aD} {b : Bool} {x : aA} (h1 : aA.ok o = b) (h2 : aA.ok o = true → aA.of o = x) : aA.R o = bif !b then (aA.z, 6) else (x, 0) := by
  unfold aA.R
  rw [← h1]
  cases h : aA.ok o with
  | true => rw [h2 h]; rfl
  | false => rfl
def Q5u (p0 : Val) : List Val → Nat → aJ → (List bM) → aJ × (List bM)
 | [], _i0, ah, ay =>
  (ah, ay)
 | x0 :: r0, i0, ah, ay =>
  Q5u p0 r0 (i0 + 1) (Q4o (!(Q5f (Q2j Q1r (Q24 x0)).2).2.gy) ah) (ay ++ [(bM.mk (Q2j Q1r (Q24 x0)).1 (Q5f (Q2j Q1r (Q24 x0)).2).1)])
def Q1f9 (p0 : Val) (i0 : Nat) (_ah : aJ) (_ay : List bM) : List PV :=
  [.un, .un, .bx 0 0, .un, .bx 1 0, .bx 2 0, .sl (Val.rows (Q1i Q21 (Q48 Qn (Q2n Qw (Q24 p0)).2).2).1), iN (i0 : Int)] ++ nuns 44
def Qzj (p0 : Val) (_i0 : Nat) (ah : aJ) (ay : List bM) : List Ob :=
  [⟨3, 0, true, [.bool false, .ms 3 2 0 0, .ms 4 1 0 0]⟩, ⟨6, 0, false, (aJ.cells ah)⟩, ⟨3, 0, true, [.bool (Q2n Qw (Q24 p0)).1, .ms 5 2 0 (List.length ay), .sl (Q3h (Q48 Qn (Q2n Qw (Q24 p0)).2).1)]⟩, ⟨2, 0, true, []⟩, ⟨1, 0, true, []⟩, ⟨2, 0, true, (bM.rows ay).flatten⟩]
def Qh0 (p0 : Val) (i0 : Nat) (ah : aJ) (ay : List bM) : En := .loop 0 Ir.Qlb Ir.Q1no (Q1f9 p0 i0 ah ay) (Qzj p0 i0 ah ay)
def Qs7 (p0 : Val) (q0 : aJ) (q1 : List bM) (z : Nat → PV) (_zo : Nat → List PV) : St :=
  ⟨[z 0, z 1, .bx 0 0, z 3, .bx 1 0, .bx 2 0] ++ zr z 6 46, [(0, ⟨3, 0, true, [.bool false, .ms 3 2 0 0, .ms 4 1 0 0]⟩), (1, ⟨6, 0, false, (aJ.cells q0)⟩), (2, ⟨3, 0, true, [.bool (Q2n Qw (Q24 p0)).1, .ms 5 2 0 (List.length q1), .sl (Q3h (Q48 Qn (Q2n Qw (Q24 p0)).2).1)]⟩), (3, ⟨2, 0, true, []⟩), (4, ⟨1, 0, true, []⟩), (5, ⟨2, 0, true, (bM.rows q1).flatten⟩)], 262⟩
theorem Q15o (p0 : Val) (i0 : Nat) (ah : aJ) (ay : List bM) : VOK (Go.Pv.look (number 0 (Qzj p0 i0 ah ay))) [(5, bM.rows ay)] := (VOK.cons (show Seen _ _ from Q3r (ob := ⟨2, 0, true, (bM.rows ay).flatten⟩) (bM.Q8 ay 2 rfl)) VOK.nil)
def Qiw (p0 : Val) (e : En) (q : aJ × (List bM)) : Prop := ∃ z zo, Q5 G e (.st (.exit 0) (Qs7 p0 q.1 q.2 z zo))
theorem Qwk (p0 : Val) {e e' : En} (h : ∀ r, Q5 G e r → Q5 G e' r) : ∀ q, Qiw p0 e q → Qiw p0 e' q
  | _, ⟨z, zo, hz⟩ => ⟨z, zo, h _ hz⟩
def Qdc (p0 : Val) : Prop := (List.length (Q1i Q21 (Q48 Qn (Q2n Qw (Q24 p0)).2).2).1 ≤ 137438953472) ∧ (∀ x0 ∈ (Q1i Q21 (Q48 Qn (Q2n Qw (Q24 p0)).2).2).1, Q196 (Q24 x0)) ∧ (∀ x0 ∈ (Q1i Q21 (Q48 Qn (Q2n Qw (Q24 p0)).2).2).1, Qzx (Q2j Q1r (Q24 x0)).2) ∧ True
def Qu8 (p0 : Val) (i0 : Nat) (_ah : aJ) (_ay : List bM) : List PV :=
  nuns 6 ++ [.sl (Val.rows (Q1i Q21 (Q48 Qn (Q2n Qw (Q24 p0)).2).2).1), iN (i0 : Int)] ++ nuns 10 ++ [iN (i0 : Int), .sl (Val.rows (Q1i Q21 (Q48 Qn (Q2n Qw (Q24 p0)).2).2).1), iN ((List.length (Q1i Q21 (Q48 Qn (Q2n Qw (Q24 p0)).2).2).1) : Int), .bool false]
def Qn6 (_p0 : Val) (_i0 : Nat) (_ah : aJ) (_ay : List bM) : List (Nat × List PV) :=
  []
theorem Q1do (p0 : Val) (_H : Qdc p0) (i0 : Nat) (ah : aJ) (ay : List bM) (_aR : List.length ay ≤ i0) (bF : (decide ((i0 : Int) < ((List.length (Q1i Q21 (Q48 Qn (Q2n Qw (Q24 p0)).2).2).1) : Int))) = false) : Qiw p0 (Qh0 p0 i0 ah ay) (ah, ay) := by
 exact ⟨(envF (Qu8 p0 i0 ah ay)), (zoF (Qn6 p0 i0 ah ay)), Qg (Q15o p0 i0 ah ay) (x := ((.exit 0), Qs7 p0 ah ay (envF (Qu8 p0 i0 ah ay)) (zoF (Qn6 p0 i0 ah ay)))) [hP 2 (Qq _ _ (Val.Q7 (Q1i Q21 (Q48 Qn (Q2n Qw (Q24 p0)).2).2).1)), hB 0 bF] [] (by kernel_rfl)⟩
theorem Q1be (p0 : Val) (H : Qdc p0) (x0 : Val) (i0 : Nat) (ah : aJ) (ay : List bM) (bH : (Q1i Q21 (Q48 Qn (Q2n Qw (Q24 p0)).2).2).1[i0]? = some x0) (bT : i0 < List.length (Q1i Q21 (Q48 Qn (Q2n Qw (Q24 p0)).2).2).1) (aR : List.length ay ≤ i0) (bF : (decide ((i0 : Int) < ((List.length (Q1i Q21 (Q48 Qn (Q2n Qw (Q24 p0)).2).2).1) : Int))) = true) {r : Rs} (hr : Q5 G (Qh0 p0 (i0 + 1) (Q4o (!(Q5f (Q2j Q1r (Q24 x0)).2).2.gy) ah) (ay ++ [(bM.mk (Q2j Q1r (Q24 x0)).1 (Q5f (Q2j Q1r (Q24 x0)).2).1)])) r) : Q5 G (Qh0 p0 i0 ah ay) r := by
 have hB0 := H.1
 exact Qc (Q15o p0 i0 ah ay) [hP 2 (Qq _ _ (Val.Q7 (Q1i Q21 (Q48 Qn (Q2n Qw (Q24 p0)).2).2).1)), hB 0 bF, hP 2 (Q1f 5 _ i0 _ (Val.Qb bH) rfl), hA 11 5 1094 1158 2 40 0 0 true bM.Q7 bM.Q1l ay (bM.mk (Q2j Q1r (Q24 x0)).1 (Q5f (Q2j Q1r (Q24 x0)).2).1) (bM.Qt ay) rfl rfl (by omega), hS 0 true (bM.Q8 (ay ++ [(bM.mk (Q2j Q1r (Q24 x0)).1 (Q5f (Q2j Q1r (Q24 x0)).2).1)]) 2 rfl), hP 10 (Q26 i0 (by omega))] [aN (Q149 x0), aN (Q1md Q1r (Q24 x0) (H.2.1 x0 (Q15 bH))), aN (Qp7 (Q2j Q1r (Q24 x0)).2 (H.2.2.1 x0 (Q15 bH))), aN (Qcs (!(Q5f (Q2j Q1r (Q24 x0)).2).2.gy) ah)] hr (by kernel_rfl)
theorem Q12a (p0 : Val) (H : Qdc p0) : ∀ (r0 : List Val) (i0 : Nat) (ah : aJ) (ay : List bM), List.drop i0 (Q1i Q21 (Q48 Qn (Q2n Qw (Q24 p0)).2).2).1 = r0 → List.length ay ≤ i0 → Qiw p0 (Qh0 p0 i0 ah ay) (Q5u p0 r0 i0 ah ay)
 | [], i0, ah, ay, hd, aR => by
  have bF : (decide ((i0 : Int) < ((List.length (Q1i Q21 (Q48 Qn (Q2n Qw (Q24 p0)).2).2).1) : Int))) = false := by have := Q1n hd; simp; omega
  rw [Q5u]
  exact Q1do p0 H i0 ah ay aR bF
 | x0 :: r0, i0, ah, ay, hd, aR => by
  obtain ⟨bH, bT, hd'⟩ := Q1o hd
  have bF : (decide ((i0 : Int) < ((List.length (Q1i Q21 (Q48 Qn (Q2n Qw (Q24 p0)).2).2).1) : Int))) = true := by simp; omega
  rw [Q5u]
  exact Qwk p0 (fun r hr => Q1be p0 H x0 i0 ah ay bH bT aR bF hr) _ (Q12a p0 H r0 _ _ _ hd' (by first | omega | (simp; omega)))
def Qg0 (p0 : Val) : aG × Bool := aG.rdec p0
theorem Q18q (p0 : Val) : ∀ (l : List Val) (i : Nat) (b : aJ) (a : List bM), Q5u p0 l i b a = (bd b (l.all fun x => (bM.rdec x).2), a ++ l.map (fun x => (bM.rdec x).1))
  | [], _, b, a => by rw [Q5u, List.map_nil, List.append_nil, List.all_nil, Qnk]
  | x :: l, i, b, a => by
    rw [Q5u]
    refine Eq.trans ?_ ((Q18q p0 l (i + 1) (bd b (bM.rdec x).2) (a ++ [(bM.rdec x).1])).trans (by rw [Q86]; simp only [List.append_assoc, List.singleton_append, List.map_cons, List.all_cons]))
    have e : (isM x && ((dS x Q1r).2 && ((dE aj.rdec x Q0).2))) = (bM.rdec x).2 := by simp only [bM.rdec, Bool.and_left_comm, Bool.and_comm]
    simp only [Q24, Q4o, Q2j, Q5f, Q86, v_bd, Q97, Bool.and_assoc]
    rw [e]
    rfl
theorem Q2c4 (p0 : Val) : Qg0 p0 = (((aG.mk (Q2n Qw (Q24 p0)).1 (Q5u p0 (Q1i Q21 (Q48 Qn (Q2n Qw (Q24 p0)).2).2).1 0 (Q1i Q21 (Q48 Qn (Q2n Qw (Q24 p0)).2).2).2 []).2 (Q48 Qn (Q2n Qw (Q24 p0)).2).1), (!(Q5u p0 (Q1i Q21 (Q48 Qn (Q2n Qw (Q24 p0)).2).2).1 0 (Q1i Q21 (Q48 Qn (Q2n Qw (Q24 p0)).2).2).2 []).1.gy))) := by
  rw [Q18q]
  simp only [Q24, Q2n, Q1i, Q48, Q86, v_bd, Q97, List.nil_append]
  refine Prod.ext rfl ?_
  unfold Qg0 aG.rdec
  simp only [xE]
  rw [Bool.eq_iff_iff]
  simp only [Bool.and_eq_true]
  exact ⟨fun h => by simp only [h, and_self], fun h => by simp only [h, and_self]⟩
def Q28r (p0 : Val) : En := .call 151 [.agg (Val.cells p0)] []
def Q1xt (p0 : Val) : Rs := .ret (.tup [.agg (aG.cells (Qg0 p0).1), .bool (Qg0 p0).2]) []
def Q1pa (p0 : Val) : Prop := Val.Sm 1000000000 p0
theorem Qja (p0 : Val) (H : Q1pa p0) : (Qjt (Q24 p0)) ∧ (Q1p9 (Q2n Qw (Q24 p0)).2) ∧ (Q138 (Q48 Qn (Q2n Qw (Q24 p0)).2).2) ∧ (Qdc p0) ∧ True := by
  have hl := Q69 (Qp H Q21)
  refine ⟨H, H, H, ?_, trivial⟩
  unfold Qdc
  refine ⟨Nat.le_trans hl.1 (Nat.le_of_ble_eq_true rfl), ?_⟩
  repeat' with_reducible apply And.intro
  all_goals first | exact True.intro | exact hl.2
theorem Q2fp (p0 : Val) (H : Q1pa p0) : Q5 G (Q28r p0) (Q1xt p0) := by
 unfold Q1xt
 rw [Q2c4]
 have hl0 := Q12a p0 ((Qja p0 H).2.2.2.1) (Q1i Q21 (Q48 Qn (Q2n Qw (Q24 p0)).2).2).1 0 (Q1i Q21 (Q48 Qn (Q2n Qw (Q24 p0)).2).2).2 [] (by simp) (by simp)
 obtain ⟨z0, eG, hl0⟩ := hl0
 exact Q6 (fn := Ir.K4r) (by kernel_rfl) VOK.nil [hS 0 true (bM.Q8 (Q5u p0 (Q1i Q21 (Q48 Qn (Q2n Qw (Q24 p0)).2).2).1 0 (Q1i Q21 (Q48 Qn (Q2n Qw (Q24 p0)).2).2).2 []).2 2 rfl), hQ (bM.Q7 (Q5u p0 (Q1i Q21 (Q48 Qn (Q2n Qw (Q24 p0)).2).2).1 0 (Q1i Q21 (Q48 Qn (Q2n Qw (Q24 p0)).2).2).2 []).2).symm] [aN (Q149 p0), aN (Qfe Qw (Q24 p0) (Qja p0 H).1), aN (Q2fo Qn (Q2n Qw (Q24 p0)).2 (Qja p0 H).2.1), aN (Q14a Q21 (Q48 Qn (Q2n Qw (Q24 p0)).2).2 (Qja p0 H).2.2.1), aV [(5, bM.rows (Q5u p0 (Q1i Q21 (Q48 Qn (Q2n Qw (Q24 p0)).2).2).1 0 (Q1i Q21 (Q48 Qn (Q2n Qw (Q24 p0)).2).2).2 []).2)] hl0] (by kernel_rfl)
def Qfh (p0 : aD) : aJ :=
  (Q5f (Q2q p0 Q12).1).2
def Qfi (p0 : aD) : aJ :=
  (Q2n Q3e (Qfh p0)).2
def Q3s (p0 : aD) : aJ :=
  (Q2n Qw (Qfi p0)).2
def Q1ul (p0 : aD) : aJ :=
  (Q1i Q28 (Q3s p0)).2
def Q4z (p0 : aD) : List Val → Nat → aJ → (List aG) → aJ × (List aG)
 | [], _i0, ah, ay =>
  (ah, ay)
 | x0 :: r0, i0, ah, ay =>
  Q4z p0 r0 (i0 + 1) (Q4o (Qg0 x0).2 ah) (ay ++ [(Qg0 x0).1])
def Q1f6 (p0 : aD) (i0 : Nat) (_ah : aJ) (_ay : List aG) : List PV :=
  [.un, .un, .bx 0 0, .un, .bx 1 0, .bx 2 0, .bx 3 0, .sl (Val.rows (Q1i Q28 (Q3s p0)).1), iN (i0 : Int)] ++ nuns 46
def Qzg (p0 : aD) (_i0 : Nat) (ah : aJ) (ay : List aG) : List Ob :=
  [⟨17, 0, true, [.str eB, .str eB, .str eB, iN 0, iN 0, iN 0, iN 0, .bool false, iN 0, .ms 4 2 0 0, .ms 5 5 0 0, .ms 6 1 0 0, .ms 7 2 0 0, .ms 8 3 0 0, .bool false, .bool false, .ms 9 3 0 0]⟩, ⟨6, 0, false, (aJ.cells ah)⟩, ⟨6, 0, true, (aJ.cells (Q2q p0 Q12).2)⟩, ⟨17, 0, true, [.str p0.aM.kind, .str p0.aM.bO, .str p0.aM.name, iN p0.aM.fZ, iN p0.aM.dx, iN p0.aM.bU, iN p0.aM.dw, .bool p0.aM.cB, iN p0.aM.cu, .sl (bf.rows p0.aM.bP), .sl (bW.rows p0.aM.bS), .sl (Qz p0.aM.bL), .sl (bD.rows p0.aM.bg), .sl (aj.rows (Q5f (Q2q p0 Q12).1).1), .bool (Q2n Q3e (Qfh p0)).1, .bool (Q2n Qw (Qfi p0)).1, .ms 10 3 0 (List.length ay)]⟩, ⟨2, 0, true, []⟩, ⟨5, 0, true, []⟩, ⟨1, 0, true, []⟩, ⟨2, 0, true, []⟩, ⟨3, 0, true, []⟩, ⟨3, 0, true, []⟩, ⟨3, 0, true, (aG.rows ay).flatten⟩]
def Qgy (p0 : aD) (i0 : Nat) (ah : aJ) (ay : List aG) : En := .loop 0 Ir.Ql8 Ir.Q1nl (Q1f6 p0 i0 ah ay) (Qzg p0 i0 ah ay)
def Qs4 (p0 : aD) (q0 : aJ) (q1 : List aG) (z : Nat → PV) (_zo : Nat → List PV) : St :=
  ⟨[z 0, z 1, .bx 0 0, z 3, .bx 1 0, .bx 2 0, .bx 3 0] ++ zr z 7 48, [(0, ⟨17, 0, true, [.str eB, .str eB, .str eB, iN 0, iN 0, iN 0, iN 0, .bool false, iN 0, .ms 4 2 0 0, .ms 5 5 0 0, .ms 6 1 0 0, .ms 7 2 0 0, .ms 8 3 0 0, .bool false, .bool false, .ms 9 3 0 0]⟩), (1, ⟨6, 0, false, (aJ.cells q0)⟩), (2, ⟨6, 0, true, (aJ.cells (Q2q p0 Q12).2)⟩), (3, ⟨17, 0, true, [.str p0.aM.kind, .str p0.aM.bO, .str p0.aM.name, iN p0.aM.fZ, iN p0.aM.dx, iN p0.aM.bU, iN p0.aM.dw, .bool p0.aM.cB, iN p0.aM.cu, .sl (bf.rows p0.aM.bP), .sl (bW.rows p0.aM.bS), .sl (Qz p0.aM.bL), .sl (bD.rows p0.aM.bg), .sl (aj.rows (Q5f (Q2q p0 Q12).1).1), .bool (Q2n Q3e (Qfh p0)).1, .bool (Q2n Qw (Qfi p0)).1, .ms 10 3 0 (List.length q1)]⟩), (4, ⟨2, 0, true, []⟩), (5, ⟨5, 0, true, []⟩), (6, ⟨1, 0, true, []⟩), (7, ⟨2, 0, true, []⟩), (8, ⟨3, 0, true, []⟩), (9, ⟨3, 0, true, []⟩), (10, ⟨3, 0, true, (aG.rows q1).flatten⟩)], 267⟩
theorem Q15m (p0 : aD) (i0 : Nat) (ah : aJ) (ay : List aG) : VOK (Go.Pv.look (number 0 (Qzg p0 i0 ah ay))) [(10, aG.rows ay)] := (VOK.cons (show Seen _ _ from Q3r (ob := ⟨3, 0, true, (aG.rows ay).flatten⟩) (aG.Q8 ay 3 rfl)) VOK.nil)
def Qit (p0 : aD) (e : En) (q : aJ × (List aG)) : Prop := ∃ z zo, Q5 G e (.st (.exit 0) (Qs4 p0 q.1 q.2 z zo))
theorem Qwi (p0 : aD) {e e' : En} (h : ∀ r, Q5 G e r → Q5 G e' r) : ∀ q, Qit p0 e q → Qit p0 e' q
  | _, ⟨z, zo, hz⟩ => ⟨z, zo, h _ hz⟩
def Qda (p0 : aD) : Prop := (List.length (Q1i Q28 (Q3s p0)).1 ≤ 137438953472) ∧ (∀ x0 ∈ (Q1i Q28 (Q3s p0)).1, Q1pa x0) ∧ True
def Qu5 (p0 : aD) (i0 : Nat) (_ah : aJ) (_ay : List aG) : List PV :=
  nuns 7 ++ [.sl (Val.rows (Q1i Q28 (Q3s p0)).1), iN (i0 : Int)] ++ nuns 18 ++ [iN (i0 : Int), .sl (Val.rows (Q1i Q28 (Q3s p0)).1), iN ((List.length (Q1i Q28 (Q3s p0)).1) : Int), .bool false]
def Qn3 (_p0 : aD) (_i0 : Nat) (_ah : aJ) (_ay : List aG) : List (Nat × List PV) :=
  []
theorem Q1dl (p0 : aD) (_H : Qda p0) (i0 : Nat) (ah : aJ) (ay : List aG) (_aR : List.length ay ≤ i0) (bF : (decide ((i0 : Int) < ((List.length (Q1i Q28 (Q3s p0)).1) : Int))) = false) : Qit p0 (Qgy p0 i0 ah ay) (ah, ay) := by
 exact ⟨(envF (Qu5 p0 i0 ah ay)), (zoF (Qn3 p0 i0 ah ay)), Qg (Q15m p0 i0 ah ay) (x := ((.exit 0), Qs4 p0 ah ay (envF (Qu5 p0 i0 ah ay)) (zoF (Qn3 p0 i0 ah ay)))) [hP 2 (Qq _ _ (Val.Q7 (Q1i Q28 (Q3s p0)).1)), hB 0 bF] [] (by kernel_rfl)⟩
theorem Q1ba (p0 : aD) (H : Qda p0) (x0 : Val) (i0 : Nat) (ah : aJ) (ay : List aG) (bH : (Q1i Q28 (Q3s p0)).1[i0]? = some x0) (bT : i0 < List.length (Q1i Q28 (Q3s p0)).1) (aR : List.length ay ≤ i0) (bF : (decide ((i0 : Int) < ((List.length (Q1i Q28 (Q3s p0)).1) : Int))) = true) {r : Rs} (hr : Q5 G (Qgy p0 (i0 + 1) (Q4o (Qg0 x0).2 ah) (ay ++ [(Qg0 x0).1])) r) : Q5 G (Qgy p0 i0 ah ay) r := by
 have hB0 := H.1
 exact Qc (Q15m p0 i0 ah ay) [hP 2 (Qq _ _ (Val.Q7 (Q1i Q28 (Q3s p0)).1)), hB 0 bF, hP 2 (Q1f 5 _ i0 _ (Val.Qb bH) rfl), hA 12 10 1163 1227 3 56 0 0 true aG.Q7 aG.Q1l ay (Qg0 x0).1 (aG.Qt ay) rfl rfl (by omega), hS 0 true (aG.Q8 (ay ++ [(Qg0 x0).1]) 3 rfl), hP 6 (Q26 i0 (by omega))] [aN (Q2fp x0 (H.2.1 x0 (Q15 bH))), aN (Qcs (Qg0 x0).2 ah)] hr (by kernel_rfl)
theorem Q128 (p0 : aD) (H : Qda p0) : ∀ (r0 : List Val) (i0 : Nat) (ah : aJ) (ay : List aG), List.drop i0 (Q1i Q28 (Q3s p0)).1 = r0 → List.length ay ≤ i0 → Qit p0 (Qgy p0 i0 ah ay) (Q4z p0 r0 i0 ah ay)
 | [], i0, ah, ay, hd, aR => by
  have bF : (decide ((i0 : Int) < ((List.length (Q1i Q28 (Q3s p0)).1) : Int))) = false := by have := Q1n hd; simp; omega
  rw [Q4z]
  exact Q1dl p0 H i0 ah ay aR bF
 | x0 :: r0, i0, ah, ay, hd, aR => by
  obtain ⟨bH, bT, hd'⟩ := Q1o hd
  have bF : (decide ((i0 : Int) < ((List.length (Q1i Q28 (Q3s p0)).1) : Int))) = true := by simp; omega
  rw [Q4z]
  exact Qwi p0 (fun r hr => Q1ba p0 H x0 i0 ah ay bH bT aR bF hr) _ (Q128 p0 H r0 _ _ _ hd' (by first | omega | (simp; omega)))
def Qjm (p0 : aD) : aJ :=
  (Q4z p0 (Q1i Q28 (Q3s p0)).1 0 (Q1i Q28 (Q3s p0)).2 []).1
def Q1m4 (p0 : aD) : aA × Int := aA.R p0
theorem Q18n (p0 : aD) : ∀ (l : List Val) (i : Nat) (b : aJ) (a : List aG), Q4z p0 l i b a = (bd b (l.all fun x => (aG.rdec x).2), a ++ l.map (fun x => (aG.rdec x).1))
  | [], _, b, a => by rw [Q4z, List.map_nil, List.append_nil, List.all_nil, Qnk]
  | x :: l, i, b, a => by
    rw [Q4z]
    refine Eq.trans ?_ ((Q18n p0 l (i + 1) (bd b (aG.rdec x).2) (a ++ [(aG.rdec x).1])).trans (by rw [Q86]; simp only [List.append_assoc, List.singleton_append, List.map_cons, List.all_cons]))
    simp only [Q4o, Qg0]
theorem Q2bj (p0 : aD) : Q1m4 p0 = (bif (Q7s (Qjm p0) (Q2q p0 Q12).2) then
    ((aA.mk (bN.mk eB eB eB 0 0 0 0 false 0 [] [] [] []) [] false false []), 6)
  else
    ((aA.mk p0.aM (Q5f (Q2q p0 Q12).1).1 (Q2n Q3e (Qfh p0)).1 (Q2n Qw (Qfi p0)).1 (Q4z p0 (Q1i Q28 (Q3s p0)).1 0 (Q1i Q28 (Q3s p0)).2 []).2), 0)) := by
  simp only [Qfh, Qfi, Q3s, Qjm, Q2q, Q7s, Q2n, Q1i, Q5f, Q86, v_bd, Q18n, Qnj, not_or, List.nil_append]
  refine aA.R_of ?_ (fun h => ?_)
  · unfold aA.ok
    simp only [← aj.rE2, ← aG.rE2]
    try simp only [xE]
    rw [Bool.eq_iff_iff]
    simp only [Bool.and_eq_true]
    exact ⟨fun h => by simp only [h, and_self], fun h => by simp only [h, and_self]⟩
  · unfold aA.ok at h
    simp only [Bool.and_eq_true] at h
    unfold aA.of
    rw [← (Qaa aG.agr (prt p0.aU Q28)).2 h.2.2.2.2.2.1]
    rw [← (Qaa aj.agr (prt p0.aU Q0)).2 h.2.2.2.2.2.2]
    all_goals rfl
def Q285 (p0 : aD) : En := .call 42 [.agg (aD.cells p0)] []
def Q1x7 (p0 : aD) : Rs := .ret (.tup [.agg (aA.cells (Q1m4 p0).1), iN (Q1m4 p0).2]) []
def Q1jr (p0 : aD) : Prop := aD.sm p0
theorem Q7o (p0 : aD) (H : Q1jr p0) : (Qzx (Q2q p0 Q12).1) ∧ (Qjt (Qfh p0)) ∧ (Qjt (Qfi p0)) ∧ (Q138 (Q3s p0)) ∧ (Qda p0) ∧ True := by
  exact ⟨(by first | exact True.intro | exact H.1 | exact H.2 | exact Qp H.1 _ | exact Qp H.2 _), (by first | exact True.intro | exact H.1 | exact H.2 | exact Qp H.1 _ | exact Qp H.2 _), (by first | exact True.intro | exact H.1 | exact H.2 | exact Qp H.1 _ | exact Qp H.2 _), (by first | exact True.intro | exact H.1 | exact H.2 | exact Qp H.1 _ | exact Qp H.2 _), (by
    have hl := Q69 (Qp H.1 Q28)
    unfold Qda
    refine ⟨Nat.le_trans hl.1 (Nat.le_of_ble_eq_true rfl), ?_⟩
    repeat' with_reducible apply And.intro
    all_goals first | exact True.intro | exact hl.2), trivial⟩
theorem Q2fj (p0 : aD) (H : Q1jr p0) : Q5 G (Q285 p0) (Q1x7 p0) := by
 unfold Q1x7
 rw [Q2bj]
 have hl0 := Q128 p0 ((Q7o p0 H).2.2.2.2.1) (Q1i Q28 (Q3s p0)).1 0 (Q1i Q28 (Q3s p0)).2 [] (by simp) (by simp)
 obtain ⟨z0, eG, hl0⟩ := hl0
 cases h0 : (Q7s (Qjm p0) (Q2q p0 Q12).2) with
 | true =>
  exact Q6 (fn := Ir.K43) (by kernel_rfl) VOK.nil [hS 0 true (aG.Q8 (Q4z p0 (Q1i Q28 (Q3s p0)).1 0 (Q1i Q28 (Q3s p0)).2 []).2 3 rfl)] [aN (Qex p0 Q12), aN (Qp7 (Q2q p0 Q12).1 (Q7o p0 H).1), aN (Qfe Q3e (Qfh p0) (Q7o p0 H).2.1), aN (Qfe Qw (Qfi p0) (Q7o p0 H).2.2.1), aN (Q14a Q28 (Q3s p0) (Q7o p0 H).2.2.2.1), aV [(10, aG.rows (Q4z p0 (Q1i Q28 (Q3s p0)).1 0 (Q1i Q28 (Q3s p0)).2 []).2)] hl0, aN (toldOf (Qew (Qjm p0) (Q2q p0 Q12).2) (congrArg (fun b => Qcm (Qjm p0) (Q2q p0 Q12).2 b) h0))] (by kernel_rfl)
 | false =>
  exact Q6 (fn := Ir.K43) (by kernel_rfl) VOK.nil [hS 0 true (aG.Q8 (Q4z p0 (Q1i Q28 (Q3s p0)).1 0 (Q1i Q28 (Q3s p0)).2 []).2 3 rfl), hQ (aG.Q7 (Q4z p0 (Q1i Q28 (Q3s p0)).1 0 (Q1i Q28 (Q3s p0)).2 []).2).symm] [aN (Qex p0 Q12), aN (Qp7 (Q2q p0 Q12).1 (Q7o p0 H).1), aN (Qfe Q3e (Qfh p0) (Q7o p0 H).2.1), aN (Qfe Qw (Qfi p0) (Q7o p0 H).2.2.1), aN (Q14a Q28 (Q3s p0) (Q7o p0 H).2.2.2.1), aV [(10, aG.rows (Q4z p0 (Q1i Q28 (Q3s p0)).1 0 (Q1i Q28 (Q3s p0)).2 []).2)] hl0, aN (toldOf (Qew (Qjm p0) (Q2q p0 Q12).2) (congrArg (fun b => Qcm (Qjm p0) (Q2q p0 Q12).2 b) h0))] (by kernel_rfl)
theorem bI.R_of {o : aD} {b : Bool} {x : bI} (h1 : bI.ok o = b) (h2 : bI.ok o = true → bI.of o = x) : bI.R o = bif !b then (bI.z, 6) else (x, 0) := by
  unfold bI.R
  rw [← h1]
  cases h : bI.ok o with
  | true => rw [h2 h]; rfl
  | false => rfl
def Qpm (p0 : aD) : aJ :=
  (Q9e Q4m (Q2q p0 Q3a).1).2
def Qpw (p0 : aD) : aJ :=
  (Q9e Q4n (Q2q p0 Q3a).2).2
def Qji (p0 : aD) : aJ :=
  (Q1h Q51 (Qpm p0)).2
def Qjk (p0 : aD) : aJ :=
  (Q1h Q76 (Qpw p0)).2
def Q1m5 (p0 : aD) : bI × Int := bI.R p0
theorem Q2bk (p0 : aD) : Q1m5 p0 = (bif (Q7s (Qji p0) (Qjk p0)) then
    ((bI.mk (bN.mk eB eB eB 0 0 0 0 false 0 [] [] [] []) (aW.mk 0 0 0) (aW.mk 0 0 0) 0 0), 6)
  else
    ((bI.mk p0.aM (Q9e Q4m (Q2q p0 Q3a).1).1 (Q9e Q4n (Q2q p0 Q3a).2).1 (Q1h Q51 (Qpm p0)).1 (Q1h Q76 (Qpw p0)).1), 0)) := by
  simp only [Qpm, Qpw, Qji, Qjk, Q2q, Q7s, Q1h, Q9e, Q86, v_bd, Qnj, not_or]
  refine bI.R_of ?_ (fun h => ?_)
  · unfold bI.ok
    try simp only [xE, bK.dec, aX.dec]
    rw [Bool.eq_iff_iff]
    simp only [Bool.and_eq_true]
    exact ⟨fun h => by simp only [h, and_self], fun h => by simp only [h, and_self]⟩
  · rfl
def Q286 (p0 : aD) : En := .call 44 [.agg (aD.cells p0)] []
def Q1x8 (p0 : aD) : Rs := .ret (.tup [.agg (bI.cells (Q1m5 p0).1), iN (Q1m5 p0).2]) []
def Q1js (p0 : aD) : Prop := aD.sm p0
theorem Q8k (p0 : aD) (H : Q1js p0) : (Q1jx (Q2q p0 Q3a).1) ∧ (Q7b (Qpm p0)) ∧ (Q1jx (Q2q p0 Q3a).2) ∧ (Q7b (Qpw p0)) ∧ True := by
  exact ⟨(by first | exact True.intro | exact H.1 | exact H.2 | exact Qp H.1 _ | exact Qp H.2 _), (by first | exact True.intro | exact H.1 | exact H.2 | exact Qp H.1 _ | exact Qp H.2 _), (by first | exact True.intro | exact H.1 | exact H.2 | exact Qp H.1 _ | exact Qp H.2 _), (by first | exact True.intro | exact H.1 | exact H.2 | exact Qp H.1 _ | exact Qp H.2 _), trivial⟩
theorem Q2fk (p0 : aD) (H : Q1js p0) : Q5 G (Q286 p0) (Q1x8 p0) := by
 unfold Q1x8
 rw [Q2bk]
 cases h0 : (Q7s (Qji p0) (Qjk p0)) with
 | true =>
  exact Q6 (fn := Ir.K44) (by kernel_rfl) VOK.nil [] [aN (Qex p0 Q3a), aN (Q1mc Q4m (Q2q p0 Q3a).1 (Q8k p0 H).1), aN (Q5j Q51 (Qpm p0) (Q8k p0 H).2.1), aN (Q1mc Q4n (Q2q p0 Q3a).2 (Q8k p0 H).2.2.1), aN (Q5j Q76 (Qpw p0) (Q8k p0 H).2.2.2.1), aN (toldOf (Qew (Qji p0) (Qjk p0)) (congrArg (fun b => Qcm (Qji p0) (Qjk p0) b) h0))] (by kernel_rfl)
 | false =>
  exact Q6 (fn := Ir.K44) (by kernel_rfl) VOK.nil [] [aN (Qex p0 Q3a), aN (Q1mc Q4m (Q2q p0 Q3a).1 (Q8k p0 H).1), aN (Q5j Q51 (Qpm p0) (Q8k p0 H).2.1), aN (Q1mc Q4n (Q2q p0 Q3a).2 (Q8k p0 H).2.2.1), aN (Q5j Q76 (Qpw p0) (Q8k p0 H).2.2.2.1), aN (toldOf (Qew (Qji p0) (Qjk p0)) (congrArg (fun b => Qcm (Qji p0) (Qjk p0) b) h0))] (by kernel_rfl)
end Go.Proofs.YtimjjohlpnkacaaGreat
end

section
/- What the law WorkcodecReads computes (printed by a program). -/
namespace Go.Proofs.YtimjjohlpnkacaaGreat
open Go.Pv
def s_K3 (p0 : aD) : Bool :=
 bif (s_K8 p0) then
  true
 else
  true
def c_K3 (p0 : aD) : En := .call 5 [.agg (aD.cells p0)] []
def a_K3 (p0 : aD) : Rs := .ret (.bool (s_K3 p0)) []
def H_K3 (p0 : aD) : Prop := (H_K8 p0) ∧ ((s_K8 p0) = true → Q1k4 p0) ∧ ((s_K8 p0) = true → Q1im p0 = (aO.R p0)) ∧ ((s_K8 p0) = true → Q1jt p0) ∧ ((s_K8 p0) = true → Q1m6 p0 = (aO.R p0)) ∧ ((s_K8 p0) = true → Q1k6 p0) ∧ ((s_K8 p0) = true → Q1io p0 = (aL.R p0)) ∧ ((s_K8 p0) = true → Q1jv p0) ∧ ((s_K8 p0) = true → Q1m8 p0 = (aL.R p0)) ∧ ((s_K8 p0) = true → Q1k0 p0) ∧ ((s_K8 p0) = true → Q1ii p0 = (aQ.R p0)) ∧ ((s_K8 p0) = true → Q1jp p0) ∧ ((s_K8 p0) = true → Q1m2 p0 = (aQ.R p0)) ∧ ((s_K8 p0) = true → Q1jm (aO.R p0).1) ∧ ((s_K8 p0) = true → Qby (Q1bx (aO.R p0).1)) ∧ ((s_K8 p0) = true → Q1jo (aL.R p0).1) ∧ ((s_K8 p0) = true → Qby (Q1bz (aL.R p0).1)) ∧ ((s_K8 p0) = true → Q1jj (aQ.R p0).1) ∧ ((s_K8 p0) = true → Qby (Q1bt (aQ.R p0).1)) ∧ ((s_K8 p0) = true → Q1k5 p0) ∧ ((s_K8 p0) = true → Q1in p0 = (aY.R p0)) ∧ ((s_K8 p0) = true → Q1ju p0) ∧ ((s_K8 p0) = true → Q1m7 p0 = (aY.R p0)) ∧ ((s_K8 p0) = true → Q1k1 p0) ∧ ((s_K8 p0) = true → Q1ij p0 = (aH.R p0)) ∧ ((s_K8 p0) = true → Q1jq p0) ∧ ((s_K8 p0) = true → Q1m3 p0 = (aH.R p0)) ∧ ((s_K8 p0) = true → Q1jn (aY.R p0).1) ∧ ((s_K8 p0) = true → Qby (Q1by (aY.R p0).1)) ∧ ((s_K8 p0) = true → Q1jk (aH.R p0).1) ∧ ((s_K8 p0) = true → Qby (Q1bu (aH.R p0).1)) ∧ ((s_K8 p0) = true → Q1k2 p0) ∧ ((s_K8 p0) = true → Q1ik p0 = (aA.R p0)) ∧ ((s_K8 p0) = true → Q1jr p0) ∧ ((s_K8 p0) = true → Q1m4 p0 = (aA.R p0)) ∧ ((s_K8 p0) = true → Q1k3 p0) ∧ ((s_K8 p0) = true → Q1il p0 = (bI.R p0)) ∧ ((s_K8 p0) = true → Q1js p0) ∧ ((s_K8 p0) = true → Q1m5 p0 = (bI.R p0)) ∧ ((s_K8 p0) = true → Q1jl (aA.R p0).1) ∧ ((s_K8 p0) = true → Qby (Q1bv (aA.R p0).1)) ∧ ((s_K8 p0) = true → Qby (Q1bw (bI.R p0).1)) ∧ True
theorem t_K3 (p0 : aD) (H : H_K3 p0) : Q5 G (c_K3 p0) (a_K3 p0) := by
 unfold a_K3 s_K3
 cases h0 : (s_K8 p0) with
 | true =>
  exact Q6 (fn := Ir.K3) (by kernel_rfl) VOK.nil [hP 55 (dec (!((aO.R p0).2 == (aO.R p0).2)) false (by rw [(beq_self_eq_true _)]; rfl)), hP 3 (dec (!((aL.R p0).2 == (aL.R p0).2)) false (by rw [(beq_self_eq_true _)]; rfl)), hP 4 (dec (!((aQ.R p0).2 == (aQ.R p0).2)) false (by rw [(beq_self_eq_true _)]; rfl)), hP 59 (dec (!((aY.R p0).2 == (aY.R p0).2)) false (by rw [(beq_self_eq_true _)]; rfl)), hP 3 (dec (!((aH.R p0).2 == (aH.R p0).2)) false (by rw [(beq_self_eq_true _)]; rfl)), hP 51 (dec ((aA.R p0).2 == (aA.R p0).2) true (beq_self_eq_true _)), hP 3 (dec ((bI.R p0).2 == (bI.R p0).2) true (beq_self_eq_true _))] [aB (t_K8 p0 (H.1)) h0, aN (toldOf (Q2fy p0 (H.2.1 h0)) (congrArg (fun z : aO × Int => Rs.ret (.tup [.agg (aO.cells z.1), iN z.2]) []) (H.2.2.1 h0))), aN (toldOf (Q2fl p0 (H.2.2.2.1 h0)) (congrArg (fun z : aO × Int => Rs.ret (.tup [.agg (aO.cells z.1), iN z.2]) []) (H.2.2.2.2.1 h0))), aN (toldOf (Q2g0 p0 (H.2.2.2.2.2.1 h0)) (congrArg (fun z : aL × Int => Rs.ret (.tup [.agg (aL.cells z.1), iN z.2]) []) (H.2.2.2.2.2.2.1 h0))), aN (toldOf (Q2fn p0 (H.2.2.2.2.2.2.2.1 h0)) (congrArg (fun z : aL × Int => Rs.ret (.tup [.agg (aL.cells z.1), iN z.2]) []) (H.2.2.2.2.2.2.2.2.1 h0))), aN (toldOf (Q2fr p0 (H.2.2.2.2.2.2.2.2.2.1 h0)) (congrArg (fun z : aQ × Int => Rs.ret (.tup [.agg (aQ.cells z.1), iN z.2]) []) (H.2.2.2.2.2.2.2.2.2.2.1 h0))), aN (toldOf (Q2fh p0 (H.2.2.2.2.2.2.2.2.2.2.2.1 h0)) (congrArg (fun z : aQ × Int => Rs.ret (.tup [.agg (aQ.cells z.1), iN z.2]) []) (H.2.2.2.2.2.2.2.2.2.2.2.2.1 h0))), aN (Q20b (aO.R p0).1 (H.2.2.2.2.2.2.2.2.2.2.2.2.2.1 h0)), aN (Q20b (aO.R p0).1 (H.2.2.2.2.2.2.2.2.2.2.2.2.2.1 h0)), aN (Q6t (c := fun y => .call 17 [.agg (aD.cells (Q1bx (aO.R p0).1)), .agg (aD.cells y)] []) rfl (Q147 (Q1bx (aO.R p0).1) (H.2.2.2.2.2.2.2.2.2.2.2.2.2.2.1 h0))), aN (Q20d (aL.R p0).1 (H.2.2.2.2.2.2.2.2.2.2.2.2.2.2.2.1 h0)), aN (Q20d (aL.R p0).1 (H.2.2.2.2.2.2.2.2.2.2.2.2.2.2.2.1 h0)), aN (Q6t (c := fun y => .call 17 [.agg (aD.cells (Q1bz (aL.R p0).1)), .agg (aD.cells y)] []) rfl (Q147 (Q1bz (aL.R p0).1) (H.2.2.2.2.2.2.2.2.2.2.2.2.2.2.2.2.1 h0))), aN (Q207 (aQ.R p0).1 (H.2.2.2.2.2.2.2.2.2.2.2.2.2.2.2.2.2.1 h0)), aN (Q207 (aQ.R p0).1 (H.2.2.2.2.2.2.2.2.2.2.2.2.2.2.2.2.2.1 h0)), aN (Q6t (c := fun y => .call 17 [.agg (aD.cells (Q1bt (aQ.R p0).1)), .agg (aD.cells y)] []) rfl (Q147 (Q1bt (aQ.R p0).1) (H.2.2.2.2.2.2.2.2.2.2.2.2.2.2.2.2.2.2.1 h0))), aN (toldOf (Q2fz p0 (H.2.2.2.2.2.2.2.2.2.2.2.2.2.2.2.2.2.2.2.1 h0)) (congrArg (fun z : aY × Int => Rs.ret (.tup [.agg (aY.cells z.1), iN z.2]) []) (H.2.2.2.2.2.2.2.2.2.2.2.2.2.2.2.2.2.2.2.2.1 h0))), aN (toldOf (Q2fm p0 (H.2.2.2.2.2.2.2.2.2.2.2.2.2.2.2.2.2.2.2.2.2.1 h0)) (congrArg (fun z : aY × Int => Rs.ret (.tup [.agg (aY.cells z.1), iN z.2]) []) (H.2.2.2.2.2.2.2.2.2.2.2.2.2.2.2.2.2.2.2.2.2.2.1 h0))), aN (toldOf (Q2fs p0 (H.2.2.2.2.2.2.2.2.2.2.2.2.2.2.2.2.2.2.2.2.2.2.2.1 h0)) (congrArg (fun z : aH × Int => Rs.ret (.tup [.agg (aH.cells z.1), iN z.2]) []) (H.2.2.2.2.2.2.2.2.2.2.2.2.2.2.2.2.2.2.2.2.2.2.2.2.1 h0))), aN (toldOf (Q2fi p0 (H.2.2.2.2.2.2.2.2.2.2.2.2.2.2.2.2.2.2.2.2.2.2.2.2.2.1 h0)) (congrArg (fun z : aH × Int => Rs.ret (.tup [.agg (aH.cells z.1), iN z.2]) []) (H.2.2.2.2.2.2.2.2.2.2.2.2.2.2.2.2.2.2.2.2.2.2.2.2.2.2.1 h0))), aN (Q20c (aY.R p0).1 (H.2.2.2.2.2.2.2.2.2.2.2.2.2.2.2.2.2.2.2.2.2.2.2.2.2.2.2.1 h0)), aN (Q20c (aY.R p0).1 (H.2.2.2.2.2.2.2.2.2.2.2.2.2.2.2.2.2.2.2.2.2.2.2.2.2.2.2.1 h0)), aN (Q6t (c := fun y => .call 17 [.agg (aD.cells (Q1by (aY.R p0).1)), .agg (aD.cells y)] []) rfl (Q147 (Q1by (aY.R p0).1) (H.2.2.2.2.2.2.2.2.2.2.2.2.2.2.2.2.2.2.2.2.2.2.2.2.2.2.2.2.1 h0))), aN (Q208 (aH.R p0).1 (H.2.2.2.2.2.2.2.2.2.2.2.2.2.2.2.2.2.2.2.2.2.2.2.2.2.2.2.2.2.1 h0)), aN (Q208 (aH.R p0).1 (H.2.2.2.2.2.2.2.2.2.2.2.2.2.2.2.2.2.2.2.2.2.2.2.2.2.2.2.2.2.1 h0)), aN (Q6t (c := fun y => .call 17 [.agg (aD.cells (Q1bu (aH.R p0).1)), .agg (aD.cells y)] []) rfl (Q147 (Q1bu (aH.R p0).1) (H.2.2.2.2.2.2.2.2.2.2.2.2.2.2.2.2.2.2.2.2.2.2.2.2.2.2.2.2.2.2.1 h0))), aN (toldOf (Q2fu p0 (H.2.2.2.2.2.2.2.2.2.2.2.2.2.2.2.2.2.2.2.2.2.2.2.2.2.2.2.2.2.2.2.1 h0)) (congrArg (fun z : aA × Int => Rs.ret (.tup [.agg (aA.cells z.1), iN z.2]) []) (H.2.2.2.2.2.2.2.2.2.2.2.2.2.2.2.2.2.2.2.2.2.2.2.2.2.2.2.2.2.2.2.2.1 h0))), aN (toldOf (Q2fj p0 (H.2.2.2.2.2.2.2.2.2.2.2.2.2.2.2.2.2.2.2.2.2.2.2.2.2.2.2.2.2.2.2.2.2.1 h0)) (congrArg (fun z : aA × Int => Rs.ret (.tup [.agg (aA.cells z.1), iN z.2]) []) (H.2.2.2.2.2.2.2.2.2.2.2.2.2.2.2.2.2.2.2.2.2.2.2.2.2.2.2.2.2.2.2.2.2.2.1 h0))), aN (toldOf (Q2fx p0 (H.2.2.2.2.2.2.2.2.2.2.2.2.2.2.2.2.2.2.2.2.2.2.2.2.2.2.2.2.2.2.2.2.2.2.2.1 h0)) (congrArg (fun z : bI × Int => Rs.ret (.tup [.agg (bI.cells z.1), iN z.2]) []) (H.2.2.2.2.2.2.2.2.2.2.2.2.2.2.2.2.2.2.2.2.2.2.2.2.2.2.2.2.2.2.2.2.2.2.2.2.1 h0))), aN (toldOf (Q2fk p0 (H.2.2.2.2.2.2.2.2.2.2.2.2.2.2.2.2.2.2.2.2.2.2.2.2.2.2.2.2.2.2.2.2.2.2.2.2.2.1 h0)) (congrArg (fun z : bI × Int => Rs.ret (.tup [.agg (bI.cells z.1), iN z.2]) []) (H.2.2.2.2.2.2.2.2.2.2.2.2.2.2.2.2.2.2.2.2.2.2.2.2.2.2.2.2.2.2.2.2.2.2.2.2.2.2.1 h0))), aN (Q209 (aA.R p0).1 (H.2.2.2.2.2.2.2.2.2.2.2.2.2.2.2.2.2.2.2.2.2.2.2.2.2.2.2.2.2.2.2.2.2.2.2.2.2.2.2.1 h0)), aN (Q209 (aA.R p0).1 (H.2.2.2.2.2.2.2.2.2.2.2.2.2.2.2.2.2.2.2.2.2.2.2.2.2.2.2.2.2.2.2.2.2.2.2.2.2.2.2.1 h0)), aN (Q6t (c := fun y => .call 17 [.agg (aD.cells (Q1bv (aA.R p0).1)), .agg (aD.cells y)] []) rfl (Q147 (Q1bv (aA.R p0).1) (H.2.2.2.2.2.2.2.2.2.2.2.2.2.2.2.2.2.2.2.2.2.2.2.2.2.2.2.2.2.2.2.2.2.2.2.2.2.2.2.2.1 h0))), aN (Q20a (bI.R p0).1), aN (Q20a (bI.R p0).1), aN (Q6t (c := fun y => .call 17 [.agg (aD.cells (Q1bw (bI.R p0).1)), .agg (aD.cells y)] []) rfl (Q147 (Q1bw (bI.R p0).1) (H.2.2.2.2.2.2.2.2.2.2.2.2.2.2.2.2.2.2.2.2.2.2.2.2.2.2.2.2.2.2.2.2.2.2.2.2.2.2.2.2.2.1 h0))), aN t_K6] (by kernel_rfl)
 | false =>
  exact Q6 (fn := Ir.K3) (by kernel_rfl) VOK.nil [] [aB (t_K8 p0 (H.1)) h0, aN t_K6] (by kernel_rfl)
def tysWorkcodecReads : List Ty := [Q101]
theorem pureWorkcodecReads (hp : ∀ (p0 : aD), Qln p0 → H_K3 p0 ∧ s_K3 p0 = true) : ∀ qs, Args Γ tysWorkcodecReads qs → ∃ n, runs G n (.call 5 qs []) = some (.ret (.bool true) []) := by
  intro qs h
  cases qs with
  | nil => cases h
  | cons q0 qs =>
  obtain ⟨h0, h⟩ := h
  cases qs with
  | cons _ _ => cases h
  | nil =>
  obtain ⟨c0, rfl, g0⟩ := h0.agg rfl
  obtain ⟨p0, rfl, k0⟩ := (Q13g g0)
  have e := hp p0 k0
  have t := t_K3 p0 e.1
  unfold a_K3 at t
  rw [e.2] at t
  exact t
end Go.Proofs.YtimjjohlpnkacaaGreat
end

section
/- What is small by the reference's count; what is demanded of metadata and objects (printed by a program). -/
namespace Go.Proofs.YtimjjohlpnkacaaGreat
open Go.Pv
def cv : Qx4 → Int
  | .k0 y => y
  | .k1 => -1
theorem Q162 (p : Val) (d : Int) (l : List Val) (i : Nat) {a : Int} (h : ¬ 0 ≤ a) : Q4e p d l i a = a := by
  cases l with
  | nil => rw [Q4e]
  | cons x l => rw [Q4e, show decide (0 ≤ a) = false by simpa using h, cond_false]
theorem Qxh (p : Val) (d : Int) (l : List Fld) (i : Nat) {a : Int} (h : ¬ 0 ≤ a) : cv (Q4p p d l i a) = a := by
  cases l with
  | nil => rw [Q4p]; rfl
  | cons x l => rw [Q4p, show decide (0 ≤ a) = false by simpa using h, cond_false]; rfl
def Q1oc (v : Val) : Prop := ∀ n d, n ≤ 1000 → 0 ≤ Qfx v n d → Val.Sm 1000 v ∧ Qfx v n d + 1 ≤ n
theorem Q163 (p : Val) (d : Int) : ∀ (l : List Val) (i : Nat) (a : Int), a ≤ 1000 → (∀ x ∈ l, Q1oc x) → 0 ≤ Q4e p d l i a → (∀ x ∈ l, Val.Sm 1000 x) ∧ Q4e p d l i a + (l.length : Int) ≤ a
  | [], i, a, _, _, _ => by
    rw [Q4e]
    exact ⟨fun _ h => (by cases h), by simp⟩
  | x :: l, i, a, ha, hx, h => by
    by_cases c : 0 ≤ a
    · rw [Q4e, show decide (0 ≤ a) = true by simpa using c, cond_true] at h ⊢
      have k : 0 ≤ Qfx x a (w64 (d - 1)) := by
        apply Decidable.byContradiction
        intro hn
        rw [Q162 p d l _ hn] at h
        exact hn h
      have h1 := hx x List.mem_cons_self a _ ha k
      have h2 := Q163 p d l (i + 1) _ (by omega) (fun y hy => hx y (List.mem_cons_of_mem _ hy)) h
      refine ⟨List.forall_mem_cons.2 ⟨h1.1, h2.1⟩, ?_⟩
      have := h1.2
      have := h2.2
      rw [List.length_cons]
      omega
    · rw [Q162 p d _ i c] at h
      exact absurd h c
theorem Q164 (p : Val) (d : Int) : ∀ (l : List Fld) (i : Nat) (a : Int), a ≤ 1000 → (∀ x ∈ l, Q1oc x.v) → 0 ≤ cv (Q4p p d l i a) → (∀ x ∈ l, Val.Sm 1000 x.v) ∧ cv (Q4p p d l i a) + (l.length : Int) ≤ a
  | [], i, a, _, _, _ => by
    rw [Q4p]
    exact ⟨fun _ h => (by cases h), by simp [cv]⟩
  | x :: l, i, a, ha, hx, h => by
    by_cases c : 0 ≤ a
    · rw [Q4p, show decide (0 ≤ a) = true by simpa using c, cond_true] at h ⊢
      cases e : decide (1000 < (ByteArray.size x.name : Int)) with
      | true =>
        rw [e] at h
        exact absurd (show (0 : Int) ≤ -1 from h) (by decide)
      | false =>
        rw [e, cond_false] at h
        rw [cond_false]
        have k : 0 ≤ Qfx x.v a (w64 (d - 1)) := by
          apply Decidable.byContradiction
          intro hn
          rw [Qxh p d l _ hn] at h
          exact hn h
        have h1 := hx x List.mem_cons_self a _ ha k
        have h2 := Q164 p d l (i + 1) _ (by omega) (fun y hy => hx y (List.mem_cons_of_mem _ hy)) h
        refine ⟨List.forall_mem_cons.2 ⟨h1.1, h2.1⟩, ?_⟩
        have := h1.2
        have := h2.2
        rw [List.length_cons]
        omega
    · rw [Qxh p d _ i c] at h
      exact absurd h c
theorem Q1kl : ∀ v, Q1oc v := vind fun v h1 h2 n d hn h => by
  rw [Qfx] at h ⊢
  cases c1 : decide (n ≤ 0) with
  | true => rw [c1] at h; exact absurd (show (0 : Int) ≤ -1 from h) (by decide)
  | false =>
    cases c2 : decide (d ≤ 0) with
    | true => rw [c1, c2] at h; exact absurd (show (0 : Int) ≤ -1 from h) (by decide)
    | false =>
      cases c3 : decide (1000 < (ByteArray.size v.s : Int)) with
      | true => rw [c1, c2, c3] at h; exact absurd (show (0 : Int) ≤ -1 from h) (by decide)
      | false =>
        have e1 := of_decide_eq_false c1
        rw [c1, c2, c3, cond_false, cond_false, cond_false, Q134 (by omega)] at h
        rw [cond_false, cond_false, cond_false, Q134 (by omega)]
        change 0 ≤ cv (Q4p v d v.fields 0 (Q4e v d v.list 0 (n - 1))) at h
        change _ ∧ cv (Q4p v d v.fields 0 (Q4e v d v.list 0 (n - 1))) + 1 ≤ n
        have k : 0 ≤ Q4e v d v.list 0 (n - 1) := by
          apply Decidable.byContradiction
          intro hn
          rw [Qxh v d _ _ hn] at h
          exact hn h
        have g0 := Q163 v d v.list 0 (n - 1) (by omega) h1 k
        have g1 := Q164 v d v.fields 0 _ (by have := g0.2; omega) h2 h
        have := g0.2
        have := g1.2
        exact ⟨.mk _ (by omega) (by omega) g0.1 g1.1, by omega⟩
theorem Q18y {v : Val} {n : Int} (hn : n ≤ 1000) (h : Qyb v n = true) : Val.Sm 1000 v := (Q1kl v n n hn (of_decide_eq_true h)).1
theorem Qa2 {o : aD} (h : s_K8 o = true) : Val.Sm 1000 o.aU ∧ Val.Sm 1000 o.aZ := by
  unfold s_K8 at h
  cases c1 : decide (40 < ((List.length o.aM.bP) : Int)) with
  | true => rw [c1] at h; cases h
  | false =>
    cases c2 : decide (40 < ((List.length o.aM.bS) : Int)) with
    | true => rw [c1, c2] at h; cases h
    | false =>
      cases c3 : decide (40 < ((List.length o.aM.bL) : Int)) with
      | true => rw [c1, c2, c3] at h; cases h
      | false =>
        cases c4 : decide (40 < ((List.length o.aM.bg) : Int)) with
        | true => rw [c1, c2, c3, c4] at h; cases h
        | false =>
          rw [c1, c2, c3, c4, cond_false, cond_false, cond_false, cond_false] at h
          cases c5 : Qch o o.aM.bg 0 with
          | k1 => rw [c5] at h; cases h
          | k0 =>
            rw [c5] at h
            cases c6 : Qyb o.aU 900 with
            | false =>
              simp only [c6, cond_false] at h
              cases h
            | true =>
              simp only [c6, cond_true] at h
              exact ⟨Q18y (by decide) c6, Q18y (by decide) h⟩
theorem Qxt {m : bN} (k : Q3p m) : Qbz m ∧ Q1og m ∧ m.bg.length ≤ 4611686018427387904 := by
  obtain ⟨k1, k2, k3, _, _, _, _, _, _, kl, ko, kf, km⟩ := k
  have hl := kl.1
  have ho := ko.1
  have hf := kf.1
  have hm := km.1
  unfold okS at k1 k2 k3
  have hx : ∀ x ∈ m.bg, x.fields.length * 16 ≤ 140737488351232 := fun x hx => (km.2 x hx).2.1
  have e0 : (⟨#[47]⟩ : BA).size = 1 := rfl
  refine ⟨⟨by omega, by omega, by omega, by omega, ⟨by omega, fun x h => by have := hx x h; omega, trivial⟩, trivial⟩, ⟨⟨⟨?_, ?_, ?_, ?_, trivial⟩, trivial⟩, ⟨⟨by omega, trivial⟩, trivial⟩, ⟨by omega, trivial⟩, ⟨by omega, trivial⟩, ⟨by omega, fun x h => ⟨⟨by have := hx x h; omega, trivial⟩, trivial⟩, trivial⟩, trivial⟩, by omega⟩ <;>
  · simp only [ByteArray.size_append, e0]
    omega
theorem Qof {m : bN} (k : Q3p m) (s : BA) (h : s.size ≤ 140737488351232) : Q3p { m with kind := s } := ⟨h, k.2⟩
theorem Qns {o : aD} (k : Q3p o.aM) (g : aD.sm o) : Qby o := ⟨(Qxt k).2.1, ⟨g.1.mono (Nat.le_of_ble_eq_true rfl), trivial⟩, ⟨g.2.mono (Nat.le_of_ble_eq_true rfl), trivial⟩, trivial⟩
end Go.Proofs.YtimjjohlpnkacaaGreat
end

section
/- What is demanded of objects that are decoded (printed by a program). -/
namespace Go.Proofs.YtimjjohlpnkacaaGreat
open Go.Pv
theorem Q14g : Q3p ((bN.mk eB eB eB 0 0 0 0 false 0 [] [] [] [])) := by
  have z : Qed 0 := by
    unfold Qed
    omega
  exact ⟨Nat.zero_le _, Nat.zero_le _, Nat.zero_le _, z, z, z, z, trivial, z, ⟨Nat.le_of_ble_eq_true rfl, fun _ h => by cases h⟩, ⟨Nat.le_of_ble_eq_true rfl, fun _ h => by cases h⟩, ⟨Nat.le_of_ble_eq_true rfl, fun _ h => by cases h⟩, ⟨Nat.le_of_ble_eq_true rfl, fun _ h => by cases h⟩⟩
theorem aO.Q93 {o : aD} (k : Q3p o.aM) : Q3p (aO.R o).1.aM := by
  unfold aO.R
  cases aO.ok o with
  | true => exact k
  | false => exact Q14g
theorem aO.Q3l {o : aD} (k : Q3p o.aM) (h : s_K8 o = true) : Q1k4 o ∧ Q1im o = aO.R o ∧ Q1jt o ∧ Q1jm (aO.R o).1 ∧ Qby (Q1bx (aO.R o).1) := by
  have s := Qa2 h
  have g : aD.sm o := ⟨s.1.mono (Nat.le_of_ble_eq_true rfl), s.2.mono (Nat.le_of_ble_eq_true rfl)⟩
  have q := aO.R_sm g
  exact ⟨⟨(Qxt k).1, g⟩, aO.rc s, g, q, Qns (o := aO.obj (aO.R o).1) (Qof (aO.Q93 k) Q22 (Nat.le_of_ble_eq_true rfl)) (aO.Q99 q)⟩
theorem aL.Q93 {o : aD} (k : Q3p o.aM) : Q3p (aL.R o).1.aM := by
  unfold aL.R
  cases aL.ok o with
  | true => exact k
  | false => exact Q14g
theorem aL.Q3l {o : aD} (k : Q3p o.aM) (h : s_K8 o = true) : Q1k6 o ∧ Q1io o = aL.R o ∧ Q1jv o ∧ Q1jo (aL.R o).1 ∧ Qby (Q1bz (aL.R o).1) := by
  have s := Qa2 h
  have g : aD.sm o := ⟨s.1.mono (Nat.le_of_ble_eq_true rfl), s.2.mono (Nat.le_of_ble_eq_true rfl)⟩
  have q := aL.R_sm g
  exact ⟨⟨(Qxt k).1, g⟩, aL.rc s, g, q, Qns (o := aL.obj (aL.R o).1) (Qof (aL.Q93 k) Q1u (Nat.le_of_ble_eq_true rfl)) (aL.Q99 q)⟩
theorem aQ.Q93 {o : aD} (k : Q3p o.aM) : Q3p (aQ.R o).1.aM := by
  unfold aQ.R
  cases aQ.ok o with
  | true => exact k
  | false => exact Q14g
theorem aQ.Q3l {o : aD} (k : Q3p o.aM) (h : s_K8 o = true) : Q1k0 o ∧ Q1ii o = aQ.R o ∧ Q1jp o ∧ Q1jj (aQ.R o).1 ∧ Qby (Q1bt (aQ.R o).1) := by
  have s := Qa2 h
  have g : aD.sm o := ⟨s.1.mono (Nat.le_of_ble_eq_true rfl), s.2.mono (Nat.le_of_ble_eq_true rfl)⟩
  have q := aQ.R_sm g
  exact ⟨⟨(Qxt k).1, g⟩, aQ.rc s, g, q, Qns (o := aQ.obj (aQ.R o).1) (Qof (aQ.Q93 k) Q2b (Nat.le_of_ble_eq_true rfl)) (aQ.Q99 q)⟩
theorem aY.Q93 {o : aD} (k : Q3p o.aM) : Q3p (aY.R o).1.aM := by
  unfold aY.R
  cases aY.ok o with
  | true => exact k
  | false => exact Q14g
theorem aY.Q3l {o : aD} (k : Q3p o.aM) (h : s_K8 o = true) : Q1k5 o ∧ Q1in o = aY.R o ∧ Q1ju o ∧ Q1jn (aY.R o).1 ∧ Qby (Q1by (aY.R o).1) := by
  have s := Qa2 h
  have g : aD.sm o := ⟨s.1.mono (Nat.le_of_ble_eq_true rfl), s.2.mono (Nat.le_of_ble_eq_true rfl)⟩
  have q := aY.R_sm g
  exact ⟨⟨(Qxt k).1, g⟩, aY.rc s, g, q, Qns (o := aY.obj (aY.R o).1) (Qof (aY.Q93 k) Q2r (Nat.le_of_ble_eq_true rfl)) (aY.Q99 q)⟩
theorem aH.Q93 {o : aD} (k : Q3p o.aM) : Q3p (aH.R o).1.aM := by
  unfold aH.R
  cases aH.ok o with
  | true => exact k
  | false => exact Q14g
theorem aH.Q3l {o : aD} (k : Q3p o.aM) (h : s_K8 o = true) : Q1k1 o ∧ Q1ij o = aH.R o ∧ Q1jq o ∧ Q1jk (aH.R o).1 ∧ Qby (Q1bu (aH.R o).1) := by
  have s := Qa2 h
  have g : aD.sm o := ⟨s.1.mono (Nat.le_of_ble_eq_true rfl), s.2.mono (Nat.le_of_ble_eq_true rfl)⟩
  have q := aH.R_sm g
  exact ⟨⟨(Qxt k).1, g⟩, aH.rc s, g, q, Qns (o := aH.obj (aH.R o).1) (Qof (aH.Q93 k) Q1k (Nat.le_of_ble_eq_true rfl)) (aH.Q99 q)⟩
theorem aA.Q93 {o : aD} (k : Q3p o.aM) : Q3p (aA.R o).1.aM := by
  unfold aA.R
  cases aA.ok o with
  | true => exact k
  | false => exact Q14g
theorem aA.Q3l {o : aD} (k : Q3p o.aM) (h : s_K8 o = true) : Q1k2 o ∧ Q1ik o = aA.R o ∧ Q1jr o ∧ Q1jl (aA.R o).1 ∧ Qby (Q1bv (aA.R o).1) := by
  have s := Qa2 h
  have g : aD.sm o := ⟨s.1.mono (Nat.le_of_ble_eq_true rfl), s.2.mono (Nat.le_of_ble_eq_true rfl)⟩
  have q := aA.R_sm g
  exact ⟨⟨(Qxt k).1, g⟩, aA.rc s, g, q, Qns (o := aA.obj (aA.R o).1) (Qof (aA.Q93 k) Q12 (Nat.le_of_ble_eq_true rfl)) (aA.Q99 q)⟩
theorem bI.Q93 {o : aD} (k : Q3p o.aM) : Q3p (bI.R o).1.aM := by
  unfold bI.R
  cases bI.ok o with
  | true => exact k
  | false => exact Q14g
theorem bI.Q3l {o : aD} (k : Q3p o.aM) (h : s_K8 o = true) : Q1k3 o ∧ Q1il o = bI.R o ∧ Q1js o ∧ Q221 (bI.R o).1 ∧ Qby (Q1bw (bI.R o).1) := by
  have s := Qa2 h
  have g : aD.sm o := ⟨s.1.mono (Nat.le_of_ble_eq_true rfl), s.2.mono (Nat.le_of_ble_eq_true rfl)⟩
  have q := bI.R_sm g
  exact ⟨⟨(Qxt k).1, g⟩, bI.rc s, g, q, Qns (o := bI.obj (bI.R o).1) (Qof (bI.Q93 k) Q3a (Nat.le_of_ble_eq_true rfl)) (bI.Q99 q)⟩
end Go.Proofs.YtimjjohlpnkacaaGreat
end

section
/- The law WorkcodecReads in plain words: decoding an object answers its fields or an error. -/
namespace Go.Proofs.YtimjjohlpnkacaaGreat
open Go.Pv
theorem lawReads (p0 : aD) (k0 : Qln p0) : H_K3 p0 ∧ s_K3 p0 = true := by
  have l : H_K8 p0 := ⟨⟨(Qxt k0.1).2.2, trivial⟩, ⟨k0.2.1.sm, trivial⟩, ⟨k0.2.2.sm, trivial⟩, trivial⟩
  have m : Q3p p0.aM := k0.1
  refine ⟨?_, ?_⟩
  · unfold H_K3
    repeat' with_reducible apply And.intro
    all_goals first | exact True.intro | with_reducible exact l | with_reducible exact fun h => (aO.Q3l m h).1 | with_reducible exact fun h => (aO.Q3l m h).2.1 | with_reducible exact fun h => (aO.Q3l m h).2.2.1 | with_reducible exact fun h => (aO.Q3l m h).2.2.2.1 | with_reducible exact fun h => (aO.Q3l m h).2.2.2.2 | with_reducible exact fun h => (aL.Q3l m h).1 | with_reducible exact fun h => (aL.Q3l m h).2.1 | with_reducible exact fun h => (aL.Q3l m h).2.2.1 | with_reducible exact fun h => (aL.Q3l m h).2.2.2.1 | with_reducible exact fun h => (aL.Q3l m h).2.2.2.2 | with_reducible exact fun h => (aQ.Q3l m h).1 | with_reducible exact fun h => (aQ.Q3l m h).2.1 | with_reducible exact fun h => (aQ.Q3l m h).2.2.1 | with_reducible exact fun h => (aQ.Q3l m h).2.2.2.1 | with_reducible exact fun h => (aQ.Q3l m h).2.2.2.2 | with_reducible exact fun h => (aY.Q3l m h).1 | with_reducible exact fun h => (aY.Q3l m h).2.1 | with_reducible exact fun h => (aY.Q3l m h).2.2.1 | with_reducible exact fun h => (aY.Q3l m h).2.2.2.1 | with_reducible exact fun h => (aY.Q3l m h).2.2.2.2 | with_reducible exact fun h => (aH.Q3l m h).1 | with_reducible exact fun h => (aH.Q3l m h).2.1 | with_reducible exact fun h => (aH.Q3l m h).2.2.1 | with_reducible exact fun h => (aH.Q3l m h).2.2.2.1 | with_reducible exact fun h => (aH.Q3l m h).2.2.2.2 | with_reducible exact fun h => (aA.Q3l m h).1 | with_reducible exact fun h => (aA.Q3l m h).2.1 | with_reducible exact fun h => (aA.Q3l m h).2.2.1 | with_reducible exact fun h => (aA.Q3l m h).2.2.2.1 | with_reducible exact fun h => (aA.Q3l m h).2.2.2.2 | with_reducible exact fun h => (bI.Q3l m h).1 | with_reducible exact fun h => (bI.Q3l m h).2.1 | with_reducible exact fun h => (bI.Q3l m h).2.2.1 | with_reducible exact fun h => (bI.Q3l m h).2.2.2.1 | with_reducible exact fun h => (bI.Q3l m h).2.2.2.2 | exact fun _ => rfl
  · unfold s_K3
    cases s_K8 p0 <;> rfl
end Go.Proofs.YtimjjohlpnkacaaGreat
end

section
/- The library's comparison of two strings, walked: it answers as the evaluator's cmpL. -/
namespace Go.Proofs.YtimjjohlpnkacaaGreat
open Go.Pv
theorem cmpL_eq : ∀ (a b : List UInt8), cmpL a b = Lib.compareBytes a b
  | [], [] => rfl
  | [], _ :: _ => rfl
  | _ :: _, [] => rfl
  | a :: x, b :: y => by
    rw [Lib.compareBytes, ← cmpL_eq x y]
    rfl
set_option maxHeartbeats 1000000 in
set_option maxRecDepth 100000 in
theorem comparing (a b : BA) (w : World) :
    Calls Tryz.prog 221 #[.string a, .string b] w fun e w' => e = .returned (.int .i64 (Lib.compareBytes a.data.toList b.data.toList)) ∧ w' = w := by
  go_enter Tryz.func221, Tryz.ntmps221
  go_wp2
  rw [run_callFunc_extern Tryz.func255 (by kernel_rfl) (by kernel_rfl) (by kernel_rfl) (e := Extern.BytealgCompare.compare) (by kernel_rfl), Lib.run_compareString]
  simp only [Result.andThen]
  rw [Oper.upon_value]
  go_wp2
  go_ret
  exact ⟨rfl, rfl⟩
theorem cmpOK : Q1j7 Tryz.prog 221 := by
  refine ⟨⟨_, Tryz.func221, by kernel_rfl, by kernel_rfl⟩, fun x y w => ?_⟩
  have h := comparing x y w
  rw [← cmpL_eq, ← toList_data, ← toList_data] at h
  exact h
end Go.Proofs.YtimjjohlpnkacaaGreat
end

