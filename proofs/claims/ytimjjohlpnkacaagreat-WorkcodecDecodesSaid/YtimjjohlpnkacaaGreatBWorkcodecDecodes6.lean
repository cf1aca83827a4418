/- Texts of the claim, merged by a program; what the statement does not reach is left out. -/
import Derived.Test.YtimjjohlpnkacaaGreatBWorkcodecDecodes5

section
/- What the program's decoders compute (printed by a program). -/
namespace Go.Proofs.YtimjjohlpnkacaaGreat
open Go.Pv
structure av where
  bN : Int
def av.cells (x : av) : List PV :=
  [iN x.bN]
def av.rows (l : List av) : List (List PV) := l.map av.cells
def bp (o : av) (n : Nat) : av := ⟨bw o.bN n⟩
theorem Q7w (o : av) (a b : Nat) : bp (bp o a) b = bp o (a + b) := by unfold bp; rw [Qd2]
theorem Qaj (o : av) (n : Nat) : (bp o n).bN = bw o.bN n := rfl
def Qx (p1 : Val) (p2 : Int) (o0 : av) : Val × av := (bif p1.kind == p2 then p1 else vZ, bp o0 (cK p2 p1))
theorem Q2ck (p1 : Val) (p2 : Int) (o0 : av) : Qx p1 p2 o0 = (bif (p1.kind == p2) then
    (p1, o0)
  else
    bif (p1.kind == 0) then
      ((Val.mk 0 0 eB [] []), o0)
    else
      ((Val.mk 0 0 eB [] []), (av.mk (w64 (o0.bN + 1))))) := by
  obtain ⟨w⟩ := o0
  unfold Qx bp cK nb
  cases (p1.kind == p2) <;> cases (p1.kind == 0) <;> rfl
def Q29h (p1 : Val) (p2 : Int) (o0 : av) : En := .call 174 [.bx 0 0, .agg (Val.cells p1), iN p2] [⟨1, 0, false, (av.cells o0)⟩]
def Q2dv (_p1 : Val) (_p2 : Int) (_o0 : av) (q0 : Val) (q1 : av) : Rs := .ret (.agg (Val.cells q0)) [⟨1, 0, false, (av.cells q1)⟩]
def Q1yp (p1 : Val) (p2 : Int) (o0 : av) : Rs := Q2dv p1 p2 o0 (Qx p1 p2 o0).1 (Qx p1 p2 o0).2
theorem Qaq (p1 : Val) (p2 : Int) (o0 : av) : Q0 G (Q29h p1 p2 o0) (Q1yp p1 p2 o0) := by
 unfold Q1yp
 rw [Q2ck]
 cases h0 : (p1.kind == p2) with
 | true =>
  exact Q7 (fn := Ir.K61) (by kernel_rfl) (h := [⟨1, 0, false, (av.cells o0)⟩]) (vw := []) VOK.nil [hB 5 h0] [] (by kernel_rfl)
 | false =>
  cases h1 : (p1.kind == 0) with
  | true =>
   exact Q7 (fn := Ir.K61) (by kernel_rfl) (h := [⟨1, 0, false, (av.cells o0)⟩]) (vw := []) VOK.nil [hB 5 h0, hP 2 (dec (!(p1.kind == 0)) false (by rw [h1]; rfl))] [] (by kernel_rfl)
  | false =>
   exact Q7 (fn := Ir.K61) (by kernel_rfl) (h := [⟨1, 0, false, (av.cells o0)⟩]) (vw := []) VOK.nil [hB 5 h0, hP 2 (dec (!(p1.kind == 0)) true (by rw [h1]; rfl))] [] (by kernel_rfl)
def Q9 (p1 : Val) (p2 : BA) (o0 : av) : Val × av := (prt p1 p2, bp o0 (cM p1))
theorem Q2cl (p1 : Val) (p2 : BA) (o0 : av) : Q9 p1 p2 o0 = (((Qpw (Qx p1 5 o0).1 p2).1, (Qx p1 5 o0).2)) := by
  unfold Q9
  rw [vprt]
  unfold Qx
  cases h : (p1.kind == 5) with
  | true => rfl
  | false => rw [Qg1 h]; rfl
def Q29i (p1 : Val) (p2 : BA) (o0 : av) : En := .call 76 [.bx 0 0, .agg (Val.cells p1), .str p2] [⟨1, 0, false, (av.cells o0)⟩]
def Q2dw (_p1 : Val) (_p2 : BA) (_o0 : av) (q0 : Val) (q1 : av) : Rs := .ret (.agg (Val.cells q0)) [⟨1, 0, false, (av.cells q1)⟩]
def Q1yq (p1 : Val) (p2 : BA) (o0 : av) : Rs := Q2dw p1 p2 o0 (Q9 p1 p2 o0).1 (Q9 p1 p2 o0).2
def Qcc (p1 : Val) : Prop := Val.Sm 1000000000 p1
theorem Q1m5 (p1 : Val) (p2 : BA) (o0 : av) (H : Qcc p1) : (Q1kq (Qx p1 5 o0).1 p2) ∧ True := by
  refine ⟨Q1ve ?_ _, trivial⟩
  unfold Qx
  cases (p1.kind == 5) with
  | true => exact H
  | false => exact Q13u
theorem Qar (p1 : Val) (p2 : BA) (o0 : av) (H : Qcc p1) : Q0 G (Q29i p1 p2 o0) (Q1yq p1 p2 o0) := by
 unfold Q1yq
 rw [Q2cl]
 exact Q7 (fn := Ir.K62) (by kernel_rfl) (h := [⟨1, 0, false, (av.cells o0)⟩]) (vw := []) VOK.nil [] [aN (Qaq p1 5 o0), aN (Q1n5 (Qx p1 5 o0).1 p2 (Q1m5 p1 p2 o0 H).1)] (by kernel_rfl)
def Qy (p1 : Val) (p2 : BA) (o0 : av) : Int × av := ((dN p1 p2).1, bp o0 (pK 2 p1 p2))
theorem Q2cp (p1 : Val) (p2 : BA) (o0 : av) : Qy p1 p2 o0 = (((Qx (Q9 p1 p2 o0).1 2 (Q9 p1 p2 o0).2).1.n, (Qx (Q9 p1 p2 o0).1 2 (Q9 p1 p2 o0).2).2)) := by
  unfold Qy Q9 Qx
  simp only [Q7w]
  exact Prod.ext (getN (prt p1 p2)).symm rfl
def Q29m (p1 : Val) (p2 : BA) (o0 : av) : En := .call 71 [.bx 0 0, .agg (Val.cells p1), .str p2] [⟨1, 0, false, (av.cells o0)⟩]
def Q2e0 (_p1 : Val) (_p2 : BA) (_o0 : av) (q0 : Int) (q1 : av) : Rs := .ret (iN q0) [⟨1, 0, false, (av.cells q1)⟩]
def Q1yu (p1 : Val) (p2 : BA) (o0 : av) : Rs := Q2e0 p1 p2 o0 (Qy p1 p2 o0).1 (Qy p1 p2 o0).2
def Qcd (p1 : Val) : Prop := Val.Sm 1000000000 p1
theorem Q1m7 (p1 : Val) (_p2 : BA) (_o0 : av) (H : Qcd p1) : (Qcc p1) ∧ True := by
  exact ⟨H, trivial⟩
theorem Q57 (p1 : Val) (p2 : BA) (o0 : av) (H : Qcd p1) : Q0 G (Q29m p1 p2 o0) (Q1yu p1 p2 o0) := by
 unfold Q1yu
 rw [Q2cp]
 exact Q7 (fn := Ir.K66) (by kernel_rfl) (h := [⟨1, 0, false, (av.cells o0)⟩]) (vw := []) VOK.nil [] [aN (Qar p1 p2 o0 (Q1m7 p1 p2 o0 H).1), aN (Qaq (Q9 p1 p2 o0).1 2 (Q9 p1 p2 o0).2)] (by kernel_rfl)
def Q5e (p1 : Val) (p2 : BA) (o0 : av) : ByteArray × av := ((dS p1 p2).1, bp o0 (pK 3 p1 p2))
theorem Q2ct (p1 : Val) (p2 : BA) (o0 : av) : Q5e p1 p2 o0 = (((Qx (Q9 p1 p2 o0).1 3 (Q9 p1 p2 o0).2).1.s, (Qx (Q9 p1 p2 o0).1 3 (Q9 p1 p2 o0).2).2)) := by
  unfold Q5e Q9 Qx
  simp only [Q7w]
  exact Prod.ext (getS (prt p1 p2)).symm rfl
def Q29q (p1 : Val) (p2 : BA) (o0 : av) : En := .call 89 [.bx 0 0, .agg (Val.cells p1), .str p2] [⟨1, 0, false, (av.cells o0)⟩]
def Q2e4 (_p1 : Val) (_p2 : BA) (_o0 : av) (q0 : BA) (q1 : av) : Rs := .ret (.str q0) [⟨1, 0, false, (av.cells q1)⟩]
def Q1yy (p1 : Val) (p2 : BA) (o0 : av) : Rs := Q2e4 p1 p2 o0 (Q5e p1 p2 o0).1 (Q5e p1 p2 o0).2
def Q146 (p1 : Val) : Prop := Val.Sm 1000000000 p1
theorem Q1m9 (p1 : Val) (_p2 : BA) (_o0 : av) (H : Q146 p1) : (Qcc p1) ∧ True := by
  exact ⟨H, trivial⟩
theorem Q1cv (p1 : Val) (p2 : BA) (o0 : av) (H : Q146 p1) : Q0 G (Q29q p1 p2 o0) (Q1yy p1 p2 o0) := by
 unfold Q1yy
 rw [Q2ct]
 exact Q7 (fn := Ir.K6d) (by kernel_rfl) (h := [⟨1, 0, false, (av.cells o0)⟩]) (vw := []) VOK.nil [] [aN (Qar p1 p2 o0 (Q1m9 p1 p2 o0 H).1), aN (Qaq (Q9 p1 p2 o0).1 3 (Q9 p1 p2 o0).2)] (by kernel_rfl)
def Q53 (p1 : Val) (p2 : BA) (o0 : av) : Bool × av := ((dB p1 p2).1, bp o0 (pK 1 p1 p2))
theorem Q2cw (p1 : Val) (p2 : BA) (o0 : av) : Q53 p1 p2 o0 = (((!((Qx (Q9 p1 p2 o0).1 1 (Q9 p1 p2 o0).2).1.n == 0)), (Qx (Q9 p1 p2 o0).1 1 (Q9 p1 p2 o0).2).2)) := by
  unfold Q53 Q9 Qx
  simp only [Q7w]
  exact Prod.ext (getB (prt p1 p2)).symm rfl
def Q29t (p1 : Val) (p2 : BA) (o0 : av) : En := .call 74 [.bx 0 0, .agg (Val.cells p1), .str p2] [⟨1, 0, false, (av.cells o0)⟩]
def Q2e7 (_p1 : Val) (_p2 : BA) (_o0 : av) (q0 : Bool) (q1 : av) : Rs := .ret (.bool q0) [⟨1, 0, false, (av.cells q1)⟩]
def Q1z1 (p1 : Val) (p2 : BA) (o0 : av) : Rs := Q2e7 p1 p2 o0 (Q53 p1 p2 o0).1 (Q53 p1 p2 o0).2
def Q147 (p1 : Val) : Prop := Val.Sm 1000000000 p1
theorem Q1ma (p1 : Val) (_p2 : BA) (_o0 : av) (H : Q147 p1) : (Qcc p1) ∧ True := by
  exact ⟨H, trivial⟩
theorem Q15d (p1 : Val) (p2 : BA) (o0 : av) (H : Q147 p1) : Q0 G (Q29t p1 p2 o0) (Q1z1 p1 p2 o0) := by
 unfold Q1z1
 rw [Q2cw]
 exact Q7 (fn := Ir.K6g) (by kernel_rfl) (h := [⟨1, 0, false, (av.cells o0)⟩]) (vw := []) VOK.nil [] [aN (Qar p1 p2 o0 (Q1ma p1 p2 o0 H).1), aN (Qaq (Q9 p1 p2 o0).1 1 (Q9 p1 p2 o0).2)] (by kernel_rfl)
def Q4n (p0 : aA) (p1 : BA) : av := bp ⟨0⟩ (nb (sEq p0.aI.kind p1) + cM p0.aO + cM p0.aM)
theorem Q2d4 (p0 : aA) (p1 : BA) : Q4n p0 p1 = (bif (sEq p0.aI.kind p1) then
    (Qx p0.aM 5 (Qx p0.aO 5 (av.mk 0)).2).2
  else
    (Qx p0.aM 5 (Qx p0.aO 5 (av.mk 1)).2).2) := by
  unfold Q4n
  simp only [Qx, Q7w]
  cases sEq p0.aI.kind p1 with
  | true => exact congrArg (bp ⟨0⟩) (by show 0 + cM p0.aO + cM p0.aM = cK 5 p0.aO + cK 5 p0.aM; unfold cM; omega)
  | false =>
    refine Eq.trans ?_ (Q7w ⟨0⟩ 1 (cK 5 p0.aO + cK 5 p0.aM)).symm
    exact congrArg (bp ⟨0⟩) (by show 1 + cM p0.aO + cM p0.aM = 1 + (cK 5 p0.aO + cK 5 p0.aM); unfold cM; omega)
def Q2a1 (p0 : aA) (p1 : BA) : En := .call 68 [.agg (aA.cells p0), .str p1] []
def Q2ef (_p0 : aA) (_p1 : BA) (q0 : av) : Rs := .ret (.bx 0 0) [⟨1, 0, true, (av.cells q0)⟩]
def Q1z9 (p0 : aA) (p1 : BA) : Rs := Q2ef p0 p1 (Q4n p0 p1)
theorem Q1ji (p0 : aA) (p1 : BA) : Q0 G (Q2a1 p0 p1) (Q1z9 p0 p1) := by
 unfold Q1z9
 rw [Q2d4]
 cases h0 : (sEq p0.aI.kind p1) with
 | true =>
  exact Q7 (fn := Ir.K77) (by kernel_rfl) VOK.nil [hP 9 (dec (!(sEq p0.aI.kind p1)) false (by rw [h0]; rfl))] [aN (Qaq p0.aO 5 (av.mk 0)), aN (Qaq p0.aM 5 (Qx p0.aO 5 (av.mk 0)).2)] (by kernel_rfl)
 | false =>
  exact Q7 (fn := Ir.K77) (by kernel_rfl) VOK.nil [hP 9 (dec (!(sEq p0.aI.kind p1)) true (by rw [h0]; rfl))] [aN (Qaq p0.aO 5 (av.mk 1)), aN (Qaq p0.aM 5 (Qx p0.aO 5 (av.mk 1)).2)] (by kernel_rfl)
def Q9n (p0 : Val) (o1 : av) : ByteArray × av := ((xS p0).1, bp o1 (cK 3 p0))
theorem Q2cs (p0 : Val) (o1 : av) : Q9n p0 o1 = (((Qx p0 3 o1).1.s, (Qx p0 3 o1).2)) := by
  exact Prod.ext (getS p0).symm rfl
def Q29p (p0 : Val) (o1 : av) : En := .call 182 [.agg (Val.cells p0), .bx 0 0] [⟨1, 0, false, [.bx 1 0]⟩, ⟨1, 0, false, (av.cells o1)⟩]
def Q2e3 (_p0 : Val) (_o1 : av) (q0 : BA) (q1 : av) : Rs := .ret (.str q0) [⟨1, 0, false, [.bx 1 0]⟩, ⟨1, 0, false, (av.cells q1)⟩]
def Q1yx (p0 : Val) (o1 : av) : Rs := Q2e3 p0 o1 (Q9n p0 o1).1 (Q9n p0 o1).2
theorem Q2gd (p0 : Val) (o1 : av) : Q0 G (Q29p p0 o1) (Q1yx p0 o1) := by
 unfold Q1yx
 rw [Q2cs]
 exact Q7 (fn := Ir.K6c) (by kernel_rfl) (h := [⟨1, 0, false, [.bx 1 0]⟩, ⟨1, 0, false, (av.cells o1)⟩]) (vw := []) VOK.nil [] [aN (Qaq p0 3 o1)] (by kernel_rfl)
def Q6r (p1 : Val) (p2 : BA) (o0 : av) : List Val → Nat → Int → (List ByteArray) → Int × (List ByteArray)
 | [], _i0, ah, ay =>
  (ah, ay)
 | x0 :: r0, i0, ah, ay =>
  Q6r p1 p2 o0 r0 (i0 + 1) (Q9n x0 (av.mk ah)).2.bN (ay ++ [(Q9n x0 (av.mk ah)).1])
def Q1g9 (p1 : Val) (p2 : BA) (o0 : av) (i0 : Nat) (_ah : Int) (ay : List ByteArray) : List PV :=
  [.un, .un, .un, .fn 182 [] [.bx 1 0]] ++ nuns 5 ++ [.ms 2 1 0 (List.length ay)] ++ nuns 8 ++ [.sl (Val.rows (Qx (Q9 p1 p2 o0).1 4 (Q9 p1 p2 o0).2).1.list), iN ((List.length (Qx (Q9 p1 p2 o0).1 4 (Q9 p1 p2 o0).2).1.list) : Int), iN (i0 : Int)] ++ nuns 11
def Q10e (_p1 : Val) (_p2 : BA) (_o0 : av) (_i0 : Nat) (ah : Int) (ay : List ByteArray) : List Ob :=
  [⟨1, 0, false, [iN ah]⟩, ⟨1, 0, false, [.bx 0 0]⟩, ⟨1, 0, true, (Q15 ay).flatten⟩]
def Qhz (p1 : Val) (p2 : BA) (o0 : av) (i0 : Nat) (ah : Int) (ay : List ByteArray) : En := .loop 2 Ir.Qm3 Ir.Q1oo (Q1g9 p1 p2 o0 i0 ah ay) (Q10e p1 p2 o0 i0 ah ay)
def Qt9 (_p1 : Val) (_p2 : BA) (_o0 : av) (q0 : Int) (q1 : List ByteArray) (z : Nat → PV) (_zo : Nat → List PV) : St :=
  ⟨zr z 0 9 ++ [.ms 2 1 0 (List.length q1)] ++ zr z 10 22, [(0, ⟨1, 0, false, [iN q0]⟩), (1, ⟨1, 0, false, [.bx 0 0]⟩), (2, ⟨1, 0, true, (Q15 q1).flatten⟩)], 67⟩
theorem Q16s (p1 : Val) (p2 : BA) (o0 : av) (i0 : Nat) (ah : Int) (ay : List ByteArray) : VOK (Go.Pv.look (number 0 (Q10e p1 p2 o0 i0 ah ay))) [(2, Q15 ay)] := (VOK.cons (show Seen _ _ from Q4a (ob := ⟨1, 0, true, (Q15 ay).flatten⟩) (Q39 ay 1 rfl)) VOK.nil)
def Qjs (p1 : Val) (p2 : BA) (o0 : av) (e : En) (q : Int × (List ByteArray)) : Prop := ∃ z zo, Q0 G e (.st (.exit 0) (Qt9 p1 p2 o0 q.1 q.2 z zo))
theorem Qxn (p1 : Val) (p2 : BA) (o0 : av) {e e' : En} (h : ∀ r, Q0 G e r → Q0 G e' r) : ∀ q, Qjs p1 p2 o0 e q → Qjs p1 p2 o0 e' q
  | _, ⟨z, zo, hz⟩ => ⟨z, zo, h _ hz⟩
def Qe7 (p1 : Val) (p2 : BA) (o0 : av) : Prop := (List.length (Qx (Q9 p1 p2 o0).1 4 (Q9 p1 p2 o0).2).1.list ≤ 137438953472) ∧ True
def Qvb (p1 : Val) (p2 : BA) (o0 : av) (i0 : Nat) (_ah : Int) (_ay : List ByteArray) : List PV :=
  [.un, .un, .un, .fn 182 [] [.bx 1 0]] ++ nuns 14 ++ [.sl (Val.rows (Qx (Q9 p1 p2 o0).1 4 (Q9 p1 p2 o0).2).1.list), iN ((List.length (Qx (Q9 p1 p2 o0).1 4 (Q9 p1 p2 o0).2).1.list) : Int), iN (i0 : Int), .bool false]
def Qnz (_p1 : Val) (_p2 : BA) (_o0 : av) (_i0 : Nat) (_ah : Int) (_ay : List ByteArray) : List (Nat × List PV) :=
  []
theorem Q1ep (p1 : Val) (p2 : BA) (o0 : av) (_H : Qe7 p1 p2 o0) (i0 : Nat) (ah : Int) (ay : List ByteArray) (_aP : List.length ay ≤ i0) (bC : (decide ((i0 : Int) < ((List.length (Qx (Q9 p1 p2 o0).1 4 (Q9 p1 p2 o0).2).1.list) : Int))) = false) : Qjs p1 p2 o0 (Qhz p1 p2 o0 i0 ah ay) (ah, ay) := by
 exact ⟨(envF (Qvb p1 p2 o0 i0 ah ay)), (zoF (Qnz p1 p2 o0 i0 ah ay)), Qh (Q16s p1 p2 o0 i0 ah ay) (x := ((.exit 0), Qt9 p1 p2 o0 ah ay (envF (Qvb p1 p2 o0 i0 ah ay)) (zoF (Qnz p1 p2 o0 i0 ah ay)))) [hB 0 bC] [] (by kernel_rfl)⟩
theorem Q1cf (p1 : Val) (p2 : BA) (o0 : av) (H : Qe7 p1 p2 o0) (x0 : Val) (i0 : Nat) (ah : Int) (ay : List ByteArray) (bF : (Qx (Q9 p1 p2 o0).1 4 (Q9 p1 p2 o0).2).1.list[i0]? = some x0) (bR : i0 < List.length (Qx (Q9 p1 p2 o0).1 4 (Q9 p1 p2 o0).2).1.list) (aP : List.length ay ≤ i0) (bC : (decide ((i0 : Int) < ((List.length (Qx (Q9 p1 p2 o0).1 4 (Q9 p1 p2 o0).2).1.list) : Int))) = true) {r : Rs} (hr : Q0 G (Qhz p1 p2 o0 (i0 + 1) (Q9n x0 (av.mk ah)).2.bN (ay ++ [(Q9n x0 (av.mk ah)).1])) r) : Q0 G (Qhz p1 p2 o0 i0 ah ay) r := by
 have hB0 := H.1
 exact Qc (Q16s p1 p2 o0 i0 ah ay) [hB 0 bC, hP 0 (Q1l 5 _ i0 _ (Val.Qb bF) rfl), hA 8 2 579 643 1 16 0 0 true Q2d Q5t ay (Q9n x0 (av.mk ah)).1 (Q4o ay) rfl rfl (by omega), hS 0 true (Q39 (ay ++ [(Q9n x0 (av.mk ah)).1]) 1 rfl), hP 1 (Q26 i0 (by omega))] [aN (Q2gd x0 (av.mk ah))] hr (by kernel_rfl)
theorem Q137 (p1 : Val) (p2 : BA) (o0 : av) (H : Qe7 p1 p2 o0) : ∀ (r0 : List Val) (i0 : Nat) (ah : Int) (ay : List ByteArray), List.drop i0 (Qx (Q9 p1 p2 o0).1 4 (Q9 p1 p2 o0).2).1.list = r0 → List.length ay ≤ i0 → Qjs p1 p2 o0 (Qhz p1 p2 o0 i0 ah ay) (Q6r p1 p2 o0 r0 i0 ah ay)
 | [], i0, ah, ay, hd, aP => by
  have bC : (decide ((i0 : Int) < ((List.length (Qx (Q9 p1 p2 o0).1 4 (Q9 p1 p2 o0).2).1.list) : Int))) = false := by have := Q1o hd; simp; omega
  rw [Q6r]
  exact Q1ep p1 p2 o0 H i0 ah ay aP bC
 | x0 :: r0, i0, ah, ay, hd, aP => by
  obtain ⟨bF, bR, hd'⟩ := Q1p hd
  have bC : (decide ((i0 : Int) < ((List.length (Qx (Q9 p1 p2 o0).1 4 (Q9 p1 p2 o0).2).1.list) : Int))) = true := by simp; omega
  rw [Q6r]
  exact Qxn p1 p2 o0 (fun r hr => Q1cf p1 p2 o0 H x0 i0 ah ay bF bR aP bC hr) _ (Q137 p1 p2 o0 H r0 _ _ _ hd' (by first | omega | (simp; omega)))
def Q8y (p1 : Val) (p2 : BA) (o0 : av) : List ByteArray × av := ((dE xS p1 p2).1, bp o0 (pE (cK 3) p1 p2))
theorem Q19q (p1 : Val) (p2 : BA) (o0 : av) : ∀ (l : List Val) (i : Nat) (b : Int) (a : List ByteArray), Q6r p1 p2 o0 l i b a = (bw b (sumC (cK 3) l), a ++ l.map (fun x => (xS x).1))
  | [], _, b, a => by rw [Q6r]; simp [sumC, bw]
  | x :: l, i, b, a => by
    rw [Q6r]
    refine (Q19q p1 p2 o0 l (i + 1) (bw b ((cK 3) x)) (a ++ [(xS x).1])).trans ?_
    rw [Qd2]
    simp only [List.append_assoc, List.singleton_append, List.map_cons, sumC]
theorem Q2d1 (p1 : Val) (p2 : BA) (o0 : av) : Q8y p1 p2 o0 = (((Q6r p1 p2 o0 (Qx (Q9 p1 p2 o0).1 4 (Q9 p1 p2 o0).2).1.list 0 (Qx (Q9 p1 p2 o0).1 4 (Q9 p1 p2 o0).2).2.bN []).2, (av.mk (Q6r p1 p2 o0 (Qx (Q9 p1 p2 o0).1 4 (Q9 p1 p2 o0).2).1.list 0 (Qx (Q9 p1 p2 o0).1 4 (Q9 p1 p2 o0).2).2.bN []).1))) := by
  rw [Q19q]
  unfold Q9 Qx Q8y
  simp only [Q7w, getL, Qaj, Qd2]
  rfl
def Q29y (p1 : Val) (p2 : BA) (o0 : av) : En := .call 181 [.bx 0 0, .agg (Val.cells p1), .str p2, .fn 182 [] [.bx 1 0]] [⟨1, 0, false, (av.cells o0)⟩, ⟨1, 0, false, [.bx 0 0]⟩]
def Q2ec (_p1 : Val) (_p2 : BA) (_o0 : av) (q0 : List ByteArray) (q1 : av) : Rs := .ret (.sl (Q15 q0)) [⟨1, 0, false, (av.cells q1)⟩, ⟨1, 0, false, [.bx 0 0]⟩]
def Q1z6 (p1 : Val) (p2 : BA) (o0 : av) : Rs := Q2ec p1 p2 o0 (Q8y p1 p2 o0).1 (Q8y p1 p2 o0).2
def Q1qg (p1 : Val) : Prop := Val.Sm 1000000000 p1
theorem Q186 (p1 : Val) (p2 : BA) (o0 : av) (H : Q1qg p1) : (Qcc p1) ∧ (Qe7 p1 p2 o0) ∧ True := by
  have hl := Q71 (Qg H p2)
  refine ⟨H, ?_, trivial⟩
  unfold Qe7 Q9 Qx
  simp only [getL]
  exact ⟨Nat.le_trans hl.1 (Nat.le_of_ble_eq_true rfl), trivial⟩
theorem Q2gi (p1 : Val) (p2 : BA) (o0 : av) (H : Q1qg p1) : Q0 G (Q29y p1 p2 o0) (Q1z6 p1 p2 o0) := by
 unfold Q1z6
 rw [Q2d1]
 have hl0 := Q137 p1 p2 o0 ((Q186 p1 p2 o0 H).2.1) (Qx (Q9 p1 p2 o0).1 4 (Q9 p1 p2 o0).2).1.list 0 (Qx (Q9 p1 p2 o0).1 4 (Q9 p1 p2 o0).2).2.bN [] (by simp) (by simp)
 obtain ⟨z0, fA, hl0⟩ := hl0
 exact Q7 (fn := Ir.K6o) (by kernel_rfl) (h := [⟨1, 0, false, (av.cells o0)⟩, ⟨1, 0, false, [.bx 0 0]⟩]) (vw := []) VOK.nil [hP 10 (Qs _ _ (Val.Q5 (Qx (Q9 p1 p2 o0).1 4 (Q9 p1 p2 o0).2).1.list)), hS 0 true (Q39 (Q6r p1 p2 o0 (Qx (Q9 p1 p2 o0).1 4 (Q9 p1 p2 o0).2).1.list 0 (Qx (Q9 p1 p2 o0).1 4 (Q9 p1 p2 o0).2).2.bN []).2 1 rfl), hQ (Q2d (Q6r p1 p2 o0 (Qx (Q9 p1 p2 o0).1 4 (Q9 p1 p2 o0).2).1.list 0 (Qx (Q9 p1 p2 o0).1 4 (Q9 p1 p2 o0).2).2.bN []).2).symm] [aN (Qar p1 p2 o0 (Q186 p1 p2 o0 H).1), aN (Qaq (Q9 p1 p2 o0).1 4 (Q9 p1 p2 o0).2), aV [(2, Q15 (Q6r p1 p2 o0 (Qx (Q9 p1 p2 o0).1 4 (Q9 p1 p2 o0).2).1.list 0 (Qx (Q9 p1 p2 o0).1 4 (Q9 p1 p2 o0).2).2.bN []).2)] hl0] (by kernel_rfl)
def Q9m (p0 : Val) (o1 : av) : au × av := ((au.dec p0).1, bp o1 (au.cnt p0))
theorem Q2cr (p0 : Val) (o1 : av) : Q9m p0 o1 = (((au.mk (Q5e p0 Q12 (Qx p0 5 (Q8y p0 Q28 o1).2).2).1 (Qy p0 Q5i (Q5e p0 Q12 (Qx p0 5 (Q8y p0 Q28 o1).2).2).2).1 (Q8y p0 Q28 o1).1), (Qy p0 Q5i (Q5e p0 Q12 (Qx p0 5 (Q8y p0 Q28 o1).2).2).2).2)) := by
  simp only [Qx, Qy, Q5e, Q8y, Q9m, Q7w]
  refine Prod.ext rfl (congrArg (bp o1) ?_)
  show au.cnt p0 = _
  try unfold au.cnt
  try unfold cM
  first | rfl | omega
def Q29o (p0 : Val) (o1 : av) : En := .call 180 [.agg (Val.cells p0), .bx 0 0] [⟨1, 0, false, [.bx 1 0]⟩, ⟨1, 0, false, (av.cells o1)⟩]
def Q2e2 (_p0 : Val) (_o1 : av) (q0 : au) (q1 : av) : Rs := .ret (.agg (au.cells q0)) [⟨1, 0, false, [.bx 1 0]⟩, ⟨1, 0, false, (av.cells q1)⟩]
def Q1yw (p0 : Val) (o1 : av) : Rs := Q2e2 p0 o1 (Q9m p0 o1).1 (Q9m p0 o1).2
def Q1qa (p0 : Val) : Prop := Val.Sm 1000000000 p0
theorem Qyf (p0 : Val) (_o1 : av) (H : Q1qa p0) : (Q1qg p0) ∧ (Q146 p0) ∧ (Qcd p0) ∧ True := by
  repeat' with_reducible apply And.intro
  all_goals first | exact True.intro | exact H | exact Qg H _
theorem Q2gc (p0 : Val) (o1 : av) (H : Q1qa p0) : Q0 G (Q29o p0 o1) (Q1yw p0 o1) := by
 unfold Q1yw
 rw [Q2cr]
 exact Q7 (fn := Ir.K6b) (by kernel_rfl) (h := [⟨1, 0, false, [.bx 1 0]⟩, ⟨1, 0, false, (av.cells o1)⟩]) (vw := []) VOK.nil [] [aN (Q2gi p0 Q28 o1 (Qyf p0 o1 H).1), aN (Qaq p0 5 (Q8y p0 Q28 o1).2), aN (Q1cv p0 Q12 (Qx p0 5 (Q8y p0 Q28 o1).2).2 (Qyf p0 o1 H).2.1), aN (Q57 p0 Q5i (Q5e p0 Q12 (Qx p0 5 (Q8y p0 Q28 o1).2).2).2 (Qyf p0 o1 H).2.2.1)] (by kernel_rfl)
def Q6q (p1 : Val) (p2 : BA) (o0 : av) : List Val → Nat → Int → (List au) → Int × (List au)
 | [], _i0, ah, ay =>
  (ah, ay)
 | x0 :: r0, i0, ah, ay =>
  Q6q p1 p2 o0 r0 (i0 + 1) (Q9m x0 (av.mk ah)).2.bN (ay ++ [(Q9m x0 (av.mk ah)).1])
def Q1g8 (p1 : Val) (p2 : BA) (o0 : av) (i0 : Nat) (_ah : Int) (ay : List au) : List PV :=
  [.un, .un, .un, .fn 180 [] [.bx 1 0]] ++ nuns 5 ++ [.ms 2 3 0 (List.length ay)] ++ nuns 8 ++ [.sl (Val.rows (Qx (Q9 p1 p2 o0).1 4 (Q9 p1 p2 o0).2).1.list), iN ((List.length (Qx (Q9 p1 p2 o0).1 4 (Q9 p1 p2 o0).2).1.list) : Int), iN (i0 : Int)] ++ nuns 11
def Q10d (_p1 : Val) (_p2 : BA) (_o0 : av) (_i0 : Nat) (ah : Int) (ay : List au) : List Ob :=
  [⟨1, 0, false, [iN ah]⟩, ⟨1, 0, false, [.bx 0 0]⟩, ⟨3, 0, true, (au.rows ay).flatten⟩]
def Qhy (p1 : Val) (p2 : BA) (o0 : av) (i0 : Nat) (ah : Int) (ay : List au) : En := .loop 2 Ir.Qm2 Ir.Q1on (Q1g8 p1 p2 o0 i0 ah ay) (Q10d p1 p2 o0 i0 ah ay)
def Qt8 (_p1 : Val) (_p2 : BA) (_o0 : av) (q0 : Int) (q1 : List au) (z : Nat → PV) (_zo : Nat → List PV) : St :=
  ⟨zr z 0 9 ++ [.ms 2 3 0 (List.length q1)] ++ zr z 10 22, [(0, ⟨1, 0, false, [iN q0]⟩), (1, ⟨1, 0, false, [.bx 0 0]⟩), (2, ⟨3, 0, true, (au.rows q1).flatten⟩)], 67⟩
theorem Q16r (p1 : Val) (p2 : BA) (o0 : av) (i0 : Nat) (ah : Int) (ay : List au) : VOK (Go.Pv.look (number 0 (Q10d p1 p2 o0 i0 ah ay))) [(2, au.rows ay)] := (VOK.cons (show Seen _ _ from Q4a (ob := ⟨3, 0, true, (au.rows ay).flatten⟩) (au.Q8 ay 3 rfl)) VOK.nil)
def Qjr (p1 : Val) (p2 : BA) (o0 : av) (e : En) (q : Int × (List au)) : Prop := ∃ z zo, Q0 G e (.st (.exit 0) (Qt8 p1 p2 o0 q.1 q.2 z zo))
theorem Qxm (p1 : Val) (p2 : BA) (o0 : av) {e e' : En} (h : ∀ r, Q0 G e r → Q0 G e' r) : ∀ q, Qjr p1 p2 o0 e q → Qjr p1 p2 o0 e' q
  | _, ⟨z, zo, hz⟩ => ⟨z, zo, h _ hz⟩
def Qe6 (p1 : Val) (p2 : BA) (o0 : av) : Prop := (List.length (Qx (Q9 p1 p2 o0).1 4 (Q9 p1 p2 o0).2).1.list ≤ 137438953472) ∧ (∀ x0 ∈ (Qx (Q9 p1 p2 o0).1 4 (Q9 p1 p2 o0).2).1.list, Q1qa x0) ∧ True
def Qva (p1 : Val) (p2 : BA) (o0 : av) (i0 : Nat) (_ah : Int) (_ay : List au) : List PV :=
  [.un, .un, .un, .fn 180 [] [.bx 1 0]] ++ nuns 14 ++ [.sl (Val.rows (Qx (Q9 p1 p2 o0).1 4 (Q9 p1 p2 o0).2).1.list), iN ((List.length (Qx (Q9 p1 p2 o0).1 4 (Q9 p1 p2 o0).2).1.list) : Int), iN (i0 : Int), .bool false]
def Qny (_p1 : Val) (_p2 : BA) (_o0 : av) (_i0 : Nat) (_ah : Int) (_ay : List au) : List (Nat × List PV) :=
  []
theorem Q1eo (p1 : Val) (p2 : BA) (o0 : av) (_H : Qe6 p1 p2 o0) (i0 : Nat) (ah : Int) (ay : List au) (_aP : List.length ay ≤ i0) (bC : (decide ((i0 : Int) < ((List.length (Qx (Q9 p1 p2 o0).1 4 (Q9 p1 p2 o0).2).1.list) : Int))) = false) : Qjr p1 p2 o0 (Qhy p1 p2 o0 i0 ah ay) (ah, ay) := by
 exact ⟨(envF (Qva p1 p2 o0 i0 ah ay)), (zoF (Qny p1 p2 o0 i0 ah ay)), Qh (Q16r p1 p2 o0 i0 ah ay) (x := ((.exit 0), Qt8 p1 p2 o0 ah ay (envF (Qva p1 p2 o0 i0 ah ay)) (zoF (Qny p1 p2 o0 i0 ah ay)))) [hB 0 bC] [] (by kernel_rfl)⟩
theorem Q1ce (p1 : Val) (p2 : BA) (o0 : av) (H : Qe6 p1 p2 o0) (x0 : Val) (i0 : Nat) (ah : Int) (ay : List au) (bF : (Qx (Q9 p1 p2 o0).1 4 (Q9 p1 p2 o0).2).1.list[i0]? = some x0) (bR : i0 < List.length (Qx (Q9 p1 p2 o0).1 4 (Q9 p1 p2 o0).2).1.list) (aP : List.length ay ≤ i0) (bC : (decide ((i0 : Int) < ((List.length (Qx (Q9 p1 p2 o0).1 4 (Q9 p1 p2 o0).2).1.list) : Int))) = true) {r : Rs} (hr : Q0 G (Qhy p1 p2 o0 (i0 + 1) (Q9m x0 (av.mk ah)).2.bN (ay ++ [(Q9m x0 (av.mk ah)).1])) r) : Q0 G (Qhy p1 p2 o0 i0 ah ay) r := by
 have hB0 := H.1
 exact Qc (Q16r p1 p2 o0 i0 ah ay) [hB 0 bC, hP 0 (Q1l 5 _ i0 _ (Val.Qb bF) rfl), hA 8 2 579 643 3 48 0 0 true au.Q5 au.Q1n ay (Q9m x0 (av.mk ah)).1 (au.Qw ay) rfl rfl (by omega), hS 0 true (au.Q8 (ay ++ [(Q9m x0 (av.mk ah)).1]) 3 rfl), hP 1 (Q26 i0 (by omega))] [aN (Q2gc x0 (av.mk ah) (H.2.1 x0 (Q1i bF)))] hr (by kernel_rfl)
theorem Q136 (p1 : Val) (p2 : BA) (o0 : av) (H : Qe6 p1 p2 o0) : ∀ (r0 : List Val) (i0 : Nat) (ah : Int) (ay : List au), List.drop i0 (Qx (Q9 p1 p2 o0).1 4 (Q9 p1 p2 o0).2).1.list = r0 → List.length ay ≤ i0 → Qjr p1 p2 o0 (Qhy p1 p2 o0 i0 ah ay) (Q6q p1 p2 o0 r0 i0 ah ay)
 | [], i0, ah, ay, hd, aP => by
  have bC : (decide ((i0 : Int) < ((List.length (Qx (Q9 p1 p2 o0).1 4 (Q9 p1 p2 o0).2).1.list) : Int))) = false := by have := Q1o hd; simp; omega
  rw [Q6q]
  exact Q1eo p1 p2 o0 H i0 ah ay aP bC
 | x0 :: r0, i0, ah, ay, hd, aP => by
  obtain ⟨bF, bR, hd'⟩ := Q1p hd
  have bC : (decide ((i0 : Int) < ((List.length (Qx (Q9 p1 p2 o0).1 4 (Q9 p1 p2 o0).2).1.list) : Int))) = true := by simp; omega
  rw [Q6q]
  exact Qxm p1 p2 o0 (fun r hr => Q1ce p1 p2 o0 H x0 i0 ah ay bF bR aP bC hr) _ (Q136 p1 p2 o0 H r0 _ _ _ hd' (by first | omega | (simp; omega)))
def Qba (p1 : Val) (p2 : BA) (o0 : av) : List au × av := ((dE au.dec p1 p2).1, bp o0 (pE (au.cnt) p1 p2))
theorem Q19p (p1 : Val) (p2 : BA) (o0 : av) : ∀ (l : List Val) (i : Nat) (b : Int) (a : List au), Q6q p1 p2 o0 l i b a = (bw b (sumC (au.cnt) l), a ++ l.map (fun x => (au.dec x).1))
  | [], _, b, a => by rw [Q6q]; simp [sumC, bw]
  | x :: l, i, b, a => by
    rw [Q6q]
    refine (Q19p p1 p2 o0 l (i + 1) (bw b ((au.cnt) x)) (a ++ [(au.dec x).1])).trans ?_
    rw [Qd2]
    simp only [List.append_assoc, List.singleton_append, List.map_cons, sumC]
theorem Q2d0 (p1 : Val) (p2 : BA) (o0 : av) : Qba p1 p2 o0 = (((Q6q p1 p2 o0 (Qx (Q9 p1 p2 o0).1 4 (Q9 p1 p2 o0).2).1.list 0 (Qx (Q9 p1 p2 o0).1 4 (Q9 p1 p2 o0).2).2.bN []).2, (av.mk (Q6q p1 p2 o0 (Qx (Q9 p1 p2 o0).1 4 (Q9 p1 p2 o0).2).1.list 0 (Qx (Q9 p1 p2 o0).1 4 (Q9 p1 p2 o0).2).2.bN []).1))) := by
  rw [Q19p]
  unfold Q9 Qx Qba
  simp only [Q7w, getL, Qaj, Qd2]
  rfl
def Q29x (p1 : Val) (p2 : BA) (o0 : av) : En := .call 179 [.bx 0 0, .agg (Val.cells p1), .str p2, .fn 180 [] [.bx 1 0]] [⟨1, 0, false, (av.cells o0)⟩, ⟨1, 0, false, [.bx 0 0]⟩]
def Q2eb (_p1 : Val) (_p2 : BA) (_o0 : av) (q0 : List au) (q1 : av) : Rs := .ret (.sl (au.rows q0)) [⟨1, 0, false, (av.cells q1)⟩, ⟨1, 0, false, [.bx 0 0]⟩]
def Q1z5 (p1 : Val) (p2 : BA) (o0 : av) : Rs := Q2eb p1 p2 o0 (Qba p1 p2 o0).1 (Qba p1 p2 o0).2
def Q1qf (p1 : Val) : Prop := Val.Sm 1000000000 p1
theorem Q185 (p1 : Val) (p2 : BA) (o0 : av) (H : Q1qf p1) : (Qcc p1) ∧ (Qe6 p1 p2 o0) ∧ True := by
  have hl := Q71 (Qg H p2)
  refine ⟨H, ?_, trivial⟩
  unfold Qe6 Q9 Qx
  simp only [getL]
  exact ⟨Nat.le_trans hl.1 (Nat.le_of_ble_eq_true rfl), hl.2, trivial⟩
theorem Q2gh (p1 : Val) (p2 : BA) (o0 : av) (H : Q1qf p1) : Q0 G (Q29x p1 p2 o0) (Q1z5 p1 p2 o0) := by
 unfold Q1z5
 rw [Q2d0]
 have hl0 := Q136 p1 p2 o0 ((Q185 p1 p2 o0 H).2.1) (Qx (Q9 p1 p2 o0).1 4 (Q9 p1 p2 o0).2).1.list 0 (Qx (Q9 p1 p2 o0).1 4 (Q9 p1 p2 o0).2).2.bN [] (by simp) (by simp)
 obtain ⟨z0, fA, hl0⟩ := hl0
 exact Q7 (fn := Ir.K6n) (by kernel_rfl) (h := [⟨1, 0, false, (av.cells o0)⟩, ⟨1, 0, false, [.bx 0 0]⟩]) (vw := []) VOK.nil [hP 10 (Qs _ _ (Val.Q5 (Qx (Q9 p1 p2 o0).1 4 (Q9 p1 p2 o0).2).1.list)), hS 0 true (au.Q8 (Q6q p1 p2 o0 (Qx (Q9 p1 p2 o0).1 4 (Q9 p1 p2 o0).2).1.list 0 (Qx (Q9 p1 p2 o0).1 4 (Q9 p1 p2 o0).2).2.bN []).2 3 rfl), hQ (au.Q5 (Q6q p1 p2 o0 (Qx (Q9 p1 p2 o0).1 4 (Q9 p1 p2 o0).2).1.list 0 (Qx (Q9 p1 p2 o0).1 4 (Q9 p1 p2 o0).2).2.bN []).2).symm] [aN (Qar p1 p2 o0 (Q185 p1 p2 o0 H).1), aN (Qaq (Q9 p1 p2 o0).1 4 (Q9 p1 p2 o0).2), aV [(2, au.rows (Q6q p1 p2 o0 (Qx (Q9 p1 p2 o0).1 4 (Q9 p1 p2 o0).2).1.list 0 (Qx (Q9 p1 p2 o0).1 4 (Q9 p1 p2 o0).2).2.bN []).2)] hl0] (by kernel_rfl)
def Q91 (p1 : Val) (o0 : av) : List au × av := ((dE au.dec p1 Q6).1, bp o0 (pE au.cnt p1 Q6))
theorem Q2cq (p1 : Val) (o0 : av) : Q91 p1 o0 = (((Qba p1 Q6 o0).1, (Qba p1 Q6 o0).2)) := by
  rfl
def Q29n (p1 : Val) (o0 : av) : En := .call 72 [.bx 0 0, .agg (Val.cells p1)] [⟨1, 0, false, (av.cells o0)⟩]
def Q2e1 (_p1 : Val) (_o0 : av) (q0 : List au) (q1 : av) : Rs := .ret (.sl (au.rows q0)) [⟨1, 0, false, (av.cells q1)⟩]
def Q1yv (p1 : Val) (o0 : av) : Rs := Q2e1 p1 o0 (Q91 p1 o0).1 (Q91 p1 o0).2
def Q1kx (p1 : Val) : Prop := Val.Sm 1000000000 p1
theorem Q1m8 (p1 : Val) (_o0 : av) (H : Q1kx p1) : (Q1qf p1) ∧ True := by
  repeat' with_reducible apply And.intro
  all_goals first | exact True.intro | exact H
theorem Q20w (p1 : Val) (o0 : av) (H : Q1kx p1) : Q0 G (Q29n p1 o0) (Q1yv p1 o0) := by
 unfold Q1yv
 rw [Q2cq]
 exact Q7 (fn := Ir.K6a) (by kernel_rfl) (h := [⟨1, 0, false, (av.cells o0)⟩]) (vw := []) VOK.nil [] [aN (Q2gh p1 Q6 o0 (Q1m8 p1 o0 H).1)] (by kernel_rfl)
def Q9o (p1 : Val) (o0 : av) : aY × av := ((tD p1 Q17).1, bp o0 (tC p1 Q17))
theorem Q2cu (p1 : Val) (o0 : av) : Q9o p1 o0 = (bif ((Q9 p1 Q17 o0).1.kind == 0) then
    ((aY.mk [] (bn.mk eB 0 0 0 [] [] [] [] [] [])), (Q9 p1 Q17 o0).2)
  else
    bif ((s_Ka (Q9 p1 Q17 o0).1).2 == 0) then
      ((s_Ka (Q9 p1 Q17 o0).1).1, (Q9 p1 Q17 o0).2)
    else
      ((s_Ka (Q9 p1 Q17 o0).1).1, (av.mk (w64 ((Q9 p1 Q17 o0).2.bN + 1))))) := by
  unfold Q9o Q9 s_Ka tD tC
  cases h : ((prt p1 Q17).kind == 0) with
  | true =>
    have h5 : ((prt p1 Q17).kind == 5) = false := by rw [eq_of_beq h]; rfl
    unfold Qq0
    rw [aY.Qay h5, h]
    rfl
  | false =>
    unfold Qq0
    cases h2 : (aY.dec (prt p1 Q17)).2 with
    | true => rfl
    | false =>
      refine Prod.ext rfl ?_
      exact (Q7w o0 _ 1).symm
def Q29r (p1 : Val) (o0 : av) : En := .call 73 [.bx 0 0, .agg (Val.cells p1)] [⟨1, 0, false, (av.cells o0)⟩]
def Q2e5 (_p1 : Val) (_o0 : av) (q0 : aY) (q1 : av) : Rs := .ret (.agg (aY.cells q0)) [⟨1, 0, false, (av.cells q1)⟩]
def Q1yz (p1 : Val) (o0 : av) : Rs := Q2e5 p1 o0 (Q9o p1 o0).1 (Q9o p1 o0).2
def Q1ky (p1 : Val) : Prop := Val.Sm 1000000000 p1
theorem Qev (p1 : Val) (o0 : av) (H : Q1ky p1) : (Qcc p1) ∧ (H_Ka (Q9 p1 Q17 o0).1) ∧ True := by
  repeat' with_reducible apply And.intro
  all_goals first | exact True.intro | exact H | exact Qg H _
theorem Q20x (p1 : Val) (o0 : av) (H : Q1ky p1) : Q0 G (Q29r p1 o0) (Q1yz p1 o0) := by
 unfold Q1yz
 rw [Q2cu]
 cases h0 : ((Q9 p1 Q17 o0).1.kind == 0) with
 | true =>
  exact Q7 (fn := Ir.K6e) (by kernel_rfl) (h := [⟨1, 0, false, (av.cells o0)⟩]) (vw := []) VOK.nil [hB 9 h0] [aN (Qar p1 Q17 o0 (Qev p1 o0 H).1)] (by kernel_rfl)
 | false =>
  cases h1 : ((s_Ka (Q9 p1 Q17 o0).1).2 == 0) with
  | true =>
   exact Q7 (fn := Ir.K6e) (by kernel_rfl) (h := [⟨1, 0, false, (av.cells o0)⟩]) (vw := []) VOK.nil [hB 9 h0, hP 9 (dec (!((s_Ka (Q9 p1 Q17 o0).1).2 == 0)) false (by rw [h1]; rfl))] [aN (Qar p1 Q17 o0 (Qev p1 o0 H).1), aN (t_Ka (Q9 p1 Q17 o0).1 (Qev p1 o0 H).2.1)] (by kernel_rfl)
  | false =>
   exact Q7 (fn := Ir.K6e) (by kernel_rfl) (h := [⟨1, 0, false, (av.cells o0)⟩]) (vw := []) VOK.nil [hB 9 h0, hP 9 (dec (!((s_Ka (Q9 p1 Q17 o0).1).2 == 0)) true (by rw [h1]; rfl))] [aN (Qar p1 Q17 o0 (Qev p1 o0 H).1), aN (t_Ka (Q9 p1 Q17 o0).1 (Qev p1 o0 H).2.1)] (by kernel_rfl)
def Q6h (p1 : Val) (o0 : av) : aL × av := ((aL.dec p1).1, bp o0 (aL.cnt p1))
theorem Q2cj (p1 : Val) (o0 : av) : Q6h p1 o0 = (((aL.mk (Q53 p1 Q30 o0).1 (Qy p1 kw_n (Q53 p1 Q30 o0).2).1), (Qy p1 kw_n (Q53 p1 Q30 o0).2).2)) := by
  simp only [Qy, Q53, Q6h, Q7w]
  refine Prod.ext rfl (congrArg (bp o0) ?_)
  show aL.cnt p1 = _
  try unfold aL.cnt
  try unfold cM
  first | rfl | omega
def Q29g (p1 : Val) (o0 : av) : En := .call 75 [.bx 0 0, .agg (Val.cells p1)] [⟨1, 0, false, (av.cells o0)⟩]
def Q2du (_p1 : Val) (_o0 : av) (q0 : aL) (q1 : av) : Rs := .ret (.agg (aL.cells q0)) [⟨1, 0, false, (av.cells q1)⟩]
def Q1yo (p1 : Val) (o0 : av) : Rs := Q2du p1 o0 (Q6h p1 o0).1 (Q6h p1 o0).2
def Q145 (p1 : Val) : Prop := Val.Sm 1000000000 p1
theorem Q181 (p1 : Val) (_o0 : av) (H : Q145 p1) : (Q147 p1) ∧ (Qcd p1) ∧ True := by
  repeat' with_reducible apply And.intro
  all_goals first | exact True.intro | exact H | exact Qg H _
theorem Q1jh (p1 : Val) (o0 : av) (H : Q145 p1) : Q0 G (Q29g p1 o0) (Q1yo p1 o0) := by
 unfold Q1yo
 rw [Q2cj]
 exact Q7 (fn := Ir.K60) (by kernel_rfl) (h := [⟨1, 0, false, (av.cells o0)⟩]) (vw := []) VOK.nil [] [aN (Q15d p1 Q30 o0 (Q181 p1 o0 H).1), aN (Q57 p1 kw_n (Q53 p1 Q30 o0).2 (Q181 p1 o0 H).2.1)] (by kernel_rfl)
def Qb9 (p1 : Val) (o0 : av) : bf × av := ((bf.dec p1).1, bp o0 (bf.cnt p1))
theorem Q2cv (p1 : Val) (o0 : av) : Qb9 p1 o0 = (((bf.mk (Qy p1 Qr o0).1 (Qy p1 Qf (Qy p1 Qr o0).2).1 (Qy p1 Q27 (Qy p1 Qf (Qy p1 Qr o0).2).2).1 (Qy p1 Q14 (Qy p1 Q27 (Qy p1 Qf (Qy p1 Qr o0).2).2).2).1 (Qy p1 Q2c (Qy p1 Q14 (Qy p1 Q27 (Qy p1 Qf (Qy p1 Qr o0).2).2).2).2).1 (Qy p1 Q31 (Qy p1 Q2c (Qy p1 Q14 (Qy p1 Q27 (Qy p1 Qf (Qy p1 Qr o0).2).2).2).2).2).1 (Q53 p1 Q2o (Qy p1 Q31 (Qy p1 Q2c (Qy p1 Q14 (Qy p1 Q27 (Qy p1 Qf (Qy p1 Qr o0).2).2).2).2).2).2).1), (Q53 p1 Q2o (Qy p1 Q31 (Qy p1 Q2c (Qy p1 Q14 (Qy p1 Q27 (Qy p1 Qf (Qy p1 Qr o0).2).2).2).2).2).2).2)) := by
  simp only [Qy, Q53, Qb9, Q7w]
  refine Prod.ext rfl (congrArg (bp o0) ?_)
  show bf.cnt p1 = _
  try unfold bf.cnt
  try unfold cM
  first | rfl | omega
def Q29s (p1 : Val) (o0 : av) : En := .call 77 [.bx 0 0, .agg (Val.cells p1)] [⟨1, 0, false, (av.cells o0)⟩]
def Q2e6 (_p1 : Val) (_o0 : av) (q0 : bf) (q1 : av) : Rs := .ret (.agg (bf.cells q0)) [⟨1, 0, false, (av.cells q1)⟩]
def Q1z0 (p1 : Val) (o0 : av) : Rs := Q2e6 p1 o0 (Qb9 p1 o0).1 (Qb9 p1 o0).2
def Q1qb (p1 : Val) : Prop := Val.Sm 1000000000 p1
theorem Qac (p1 : Val) (_o0 : av) (H : Q1qb p1) : (Qcd p1) ∧ (Q147 p1) ∧ True := by
  repeat' with_reducible apply And.intro
  all_goals first | exact True.intro | exact H | exact Qg H _
theorem Q2ge (p1 : Val) (o0 : av) (H : Q1qb p1) : Q0 G (Q29s p1 o0) (Q1z0 p1 o0) := by
 unfold Q1z0
 rw [Q2cv]
 exact Q7 (fn := Ir.K6f) (by kernel_rfl) (h := [⟨1, 0, false, (av.cells o0)⟩]) (vw := []) VOK.nil [] [aN (Q57 p1 Qr o0 (Qac p1 o0 H).1), aN (Q57 p1 Qf (Qy p1 Qr o0).2 (Qac p1 o0 H).1), aN (Q57 p1 Q27 (Qy p1 Qf (Qy p1 Qr o0).2).2 (Qac p1 o0 H).1), aN (Q57 p1 Q14 (Qy p1 Q27 (Qy p1 Qf (Qy p1 Qr o0).2).2).2 (Qac p1 o0 H).1), aN (Q57 p1 Q2c (Qy p1 Q14 (Qy p1 Q27 (Qy p1 Qf (Qy p1 Qr o0).2).2).2).2 (Qac p1 o0 H).1), aN (Q57 p1 Q31 (Qy p1 Q2c (Qy p1 Q14 (Qy p1 Q27 (Qy p1 Qf (Qy p1 Qr o0).2).2).2).2).2 (Qac p1 o0 H).1), aN (Q15d p1 Q2o (Qy p1 Q31 (Qy p1 Q2c (Qy p1 Q14 (Qy p1 Q27 (Qy p1 Qf (Qy p1 Qr o0).2).2).2).2).2).2 (Qac p1 o0 H).2.1)] (by kernel_rfl)
def Qdd (p1 : aJ) (o0 : av) : aJ × Int :=
 bif (decide (0 < o0.bN)) then
  ((aJ.mk (bJ.mk eB eB eB 0 0 0 0 false 0 [] [] [] []) 0 0 0 0 [] (aY.mk [] (bn.mk eB 0 0 0 [] [] [] [] [] [])) false false (aL.mk false 0) (aL.mk false 0) 0 (bf.mk 0 0 0 0 0 0 false)), 6)
 else
  (p1, 0)
def Q2a2 (p1 : aJ) (o0 : av) : En := .call 69 [.bx 0 0, .agg (aJ.cells p1)] [⟨1, 0, false, (av.cells o0)⟩]
def Q2eg (_p1 : aJ) (o0 : av) (q0 : aJ) (q1 : Int) : Rs := .ret (.tup [.agg (aJ.cells q0), iN q1]) [⟨1, 0, false, (av.cells o0)⟩]
def Q1za (p1 : aJ) (o0 : av) : Rs := Q2eg p1 o0 (Qdd p1 o0).1 (Qdd p1 o0).2
theorem Q2gl (p1 : aJ) (o0 : av) : Q0 G (Q2a2 p1 o0) (Q1za p1 o0) := by
 unfold Q1za Qdd
 cases h0 : (decide (0 < o0.bN)) with
 | true =>
  exact Q7 (fn := Ir.K79) (by kernel_rfl) (h := [⟨1, 0, false, (av.cells o0)⟩]) (vw := []) VOK.nil [hB 7 h0] [] (by kernel_rfl)
 | false =>
  exact Q7 (fn := Ir.K79) (by kernel_rfl) (h := [⟨1, 0, false, (av.cells o0)⟩]) (vw := []) VOK.nil [hB 7 h0] [] (by kernel_rfl)
def Qq6 (p0 : aA) : av :=
  (Qy p0.aO Qf (Q4n p0 Q22)).2
def Qqd (p0 : aA) : av :=
  (Qy p0.aO Q3l (Qq6 p0)).2
def Qqk (p0 : aA) : av :=
  (Qy p0.aO Q3y (Qqd p0)).2
def Qqr (p0 : aA) : av :=
  (Qy p0.aO Q16 (Qqk p0)).2
def Qqx (p0 : aA) : av :=
  (Q91 p0.aO (Qqr p0)).2
def Qr4 (p0 : aA) : av :=
  (Q9o p0.aO (Qqx p0)).2
def Qra (p0 : aA) : av :=
  (Q53 p0.aO Q3m (Qr4 p0)).2
def Qdk (p0 : aA) : av :=
  (Q53 p0.aO Q4g (Qra p0)).2
def Qrf (p0 : aA) : av :=
  (Q9 p0.aO Q4q (Qdk p0)).2
def Qdn (p0 : aA) : av :=
  (Q6h (Q9 p0.aO Q4q (Qdk p0)).1 (Qrf p0)).2
def Qfk (p0 : aA) : av :=
  (Q9 p0.aO Q2i (Qdn p0)).2
def Qfn (p0 : aA) : av :=
  (Q6h (Q9 p0.aO Q2i (Qdn p0)).1 (Qfk p0)).2
def Qfp (p0 : aA) : av :=
  (Qy p0.aO Q5r (Qfn p0)).2
def Qw3 (p0 : aA) : av :=
  (Qb9 p0.aM (Qfp p0)).2
def Q1j6 (p0 : aA) : aJ × Int := resC (aJ.cnt p0) (aJ.of p0) aJ.z
theorem Qpu (n : Nat) (x : aJ) : Qdd x (bp ⟨0⟩ n) = resC n x aJ.z := rfl
theorem Q2cg (p0 : aA) : Q1j6 p0 = (((Qdd (aJ.mk p0.aI (Qy p0.aO Qf (Q4n p0 Q22)).1 (Qy p0.aO Q3l (Qq6 p0)).1 (Qy p0.aO Q3y (Qqd p0)).1 (Qy p0.aO Q16 (Qqk p0)).1 (Q91 p0.aO (Qqr p0)).1 (Q9o p0.aO (Qqx p0)).1 (Q53 p0.aO Q3m (Qr4 p0)).1 (Q53 p0.aO Q4g (Qra p0)).1 (Q6h (Q9 p0.aO Q4q (Qdk p0)).1 (Qrf p0)).1 (Q6h (Q9 p0.aO Q2i (Qdn p0)).1 (Qfk p0)).1 (Qy p0.aO Q5r (Qfn p0)).1 (Qb9 p0.aM (Qfp p0)).1) (Qw3 p0)).1, (Qdd (aJ.mk p0.aI (Qy p0.aO Qf (Q4n p0 Q22)).1 (Qy p0.aO Q3l (Qq6 p0)).1 (Qy p0.aO Q3y (Qqd p0)).1 (Qy p0.aO Q16 (Qqk p0)).1 (Q91 p0.aO (Qqr p0)).1 (Q9o p0.aO (Qqx p0)).1 (Q53 p0.aO Q3m (Qr4 p0)).1 (Q53 p0.aO Q4g (Qra p0)).1 (Q6h (Q9 p0.aO Q4q (Qdk p0)).1 (Qrf p0)).1 (Q6h (Q9 p0.aO Q2i (Qdn p0)).1 (Qfk p0)).1 (Qy p0.aO Q5r (Qfn p0)).1 (Qb9 p0.aM (Qfp p0)).1) (Qw3 p0)).2)) := by
  simp only [Qq6, Qqd, Qqk, Qqr, Qqx, Qr4, Qra, Qdk, Qrf, Qdn, Qfk, Qfn, Qfp, Qw3, Q9, Qy, Q53, Q91, Q9o, Q6h, Qb9, Qdd, Q4n, Q7w]
  refine Eq.trans ?_ (Qpu _ _).symm
  refine Qp6 ?_ rfl
  unfold aJ.cnt
  omega
def Q29d (p0 : aA) : En := .call 13 [.agg (aA.cells p0)] []
def Q1yl (p0 : aA) : Rs := .ret (.tup [.agg (aJ.cells (Q1j6 p0).1), iN (Q1j6 p0).2]) []
def Q1ku (p0 : aA) : Prop := Qgp p0.aI ∧ aA.sm p0
theorem Q5f (p0 : aA) (H : Q1ku p0) : (Qgp p0.aI) ∧ (Qcd p0.aO) ∧ (Q1kx p0.aO) ∧ (Q1ky p0.aO) ∧ (Q147 p0.aO) ∧ (Qcc p0.aO) ∧ (Q145 (Q9 p0.aO Q4q (Qdk p0)).1) ∧ (Q145 (Q9 p0.aO Q2i (Qdn p0)).1) ∧ (Q1qb p0.aM) ∧ True := by
  repeat' with_reducible apply And.intro
  all_goals first | exact True.intro | exact H.1 | exact H.2 | exact H.2.1 | exact H.2.2 | exact Qg H.2.1 _ | exact Qg H.2.2 _
theorem Q2g8 (p0 : aA) (H : Q1ku p0) : Q0 G (Q29d p0) (Q1yl p0) := by
 unfold Q1yl
 rw [Q2cg]
 exact Q7 (fn := Ir.K5o) (by kernel_rfl) VOK.nil [] [aN (Q1ji p0 Q22), aN (Q1jg p0.aI (Q5f p0 H).1), aN (Q57 p0.aO Qf (Q4n p0 Q22) (Q5f p0 H).2.1), aN (Q57 p0.aO Q3l (Qq6 p0) (Q5f p0 H).2.1), aN (Q57 p0.aO Q3y (Qqd p0) (Q5f p0 H).2.1), aN (Q57 p0.aO Q16 (Qqk p0) (Q5f p0 H).2.1), aN (Q20w p0.aO (Qqr p0) (Q5f p0 H).2.2.1), aN (Q20x p0.aO (Qqx p0) (Q5f p0 H).2.2.2.1), aN (Q15d p0.aO Q3m (Qr4 p0) (Q5f p0 H).2.2.2.2.1), aN (Q15d p0.aO Q4g (Qra p0) (Q5f p0 H).2.2.2.2.1), aN (Qar p0.aO Q4q (Qdk p0) (Q5f p0 H).2.2.2.2.2.1), aN (Q1jh (Q9 p0.aO Q4q (Qdk p0)).1 (Qrf p0) (Q5f p0 H).2.2.2.2.2.2.1), aN (Qar p0.aO Q2i (Qdn p0) (Q5f p0 H).2.2.2.2.2.1), aN (Q1jh (Q9 p0.aO Q2i (Qdn p0)).1 (Qfk p0) (Q5f p0 H).2.2.2.2.2.2.2.1), aN (Q57 p0.aO Q5r (Qfn p0) (Q5f p0 H).2.1), aN (Q2ge p0.aM (Qfp p0) (Q5f p0 H).2.2.2.2.2.2.2.2.1), aN (Q2gl (aJ.mk p0.aI (Qy p0.aO Qf (Q4n p0 Q22)).1 (Qy p0.aO Q3l (Qq6 p0)).1 (Qy p0.aO Q3y (Qqd p0)).1 (Qy p0.aO Q16 (Qqk p0)).1 (Q91 p0.aO (Qqr p0)).1 (Q9o p0.aO (Qqx p0)).1 (Q53 p0.aO Q3m (Qr4 p0)).1 (Q53 p0.aO Q4g (Qra p0)).1 (Q6h (Q9 p0.aO Q4q (Qdk p0)).1 (Qrf p0)).1 (Q6h (Q9 p0.aO Q2i (Qdn p0)).1 (Qfk p0)).1 (Qy p0.aO Q5r (Qfn p0)).1 (Qb9 p0.aM (Qfp p0)).1) (Qw3 p0))] (by kernel_rfl)
def Qb8 (p0 : Val) (o1 : av) : aX × av := ((aX.dec p0).1, bp o1 (aX.cnt p0))
theorem Q2ca (p0 : Val) (o1 : av) : Qb8 p0 o1 = (((aX.mk (Q5e p0 Ql o1).1 (Qy p0 Q1w (Q5e p0 Ql o1).2).1), (Qy p0 Q1w (Q5e p0 Ql o1).2).2)) := by
  simp only [Qy, Q5e, Qb8, Q7w]
  refine Prod.ext rfl (congrArg (bp o1) ?_)
  show aX.cnt p0 = _
  try unfold aX.cnt
  try unfold cM
  first | rfl | omega
def Q297 (p0 : Val) (o1 : av) : En := .call 88 [.agg (Val.cells p0), .bx 0 0] [⟨1, 0, false, [.bx 1 0]⟩, ⟨1, 0, false, (av.cells o1)⟩]
def Q2dq (_p0 : Val) (_o1 : av) (q0 : aX) (q1 : av) : Rs := .ret (.agg (aX.cells q0)) [⟨1, 0, false, [.bx 1 0]⟩, ⟨1, 0, false, (av.cells q1)⟩]
def Q1yf (p0 : Val) (o1 : av) : Rs := Q2dq p0 o1 (Qb8 p0 o1).1 (Qb8 p0 o1).2
def Q1q5 (p0 : Val) : Prop := Val.Sm 1000000000 p0
theorem Q17y (p0 : Val) (_o1 : av) (H : Q1q5 p0) : (Q146 p0) ∧ (Qcd p0) ∧ True := by
  repeat' with_reducible apply And.intro
  all_goals first | exact True.intro | exact H | exact Qg H _
theorem Q2g2 (p0 : Val) (o1 : av) (H : Q1q5 p0) : Q0 G (Q297 p0 o1) (Q1yf p0 o1) := by
 unfold Q1yf
 rw [Q2ca]
 exact Q7 (fn := Ir.K5h) (by kernel_rfl) (h := [⟨1, 0, false, [.bx 1 0]⟩, ⟨1, 0, false, (av.cells o1)⟩]) (vw := []) VOK.nil [] [aN (Q1cv p0 Ql o1 (Q17y p0 o1 H).1), aN (Q57 p0 Q1w (Q5e p0 Ql o1).2 (Q17y p0 o1 H).2.1)] (by kernel_rfl)
def Q6n (p1 : Val) (p2 : BA) (o0 : av) : List Val → Nat → Int → (List aX) → Int × (List aX)
 | [], _i0, ah, ay =>
  (ah, ay)
 | x0 :: r0, i0, ah, ay =>
  Q6n p1 p2 o0 r0 (i0 + 1) (Qb8 x0 (av.mk ah)).2.bN (ay ++ [(Qb8 x0 (av.mk ah)).1])
def Q1g5 (p1 : Val) (p2 : BA) (o0 : av) (i0 : Nat) (_ah : Int) (ay : List aX) : List PV :=
  [.un, .un, .un, .fn 88 [] [.bx 1 0]] ++ nuns 5 ++ [.ms 2 2 0 (List.length ay)] ++ nuns 8 ++ [.sl (Val.rows (Qx (Q9 p1 p2 o0).1 4 (Q9 p1 p2 o0).2).1.list), iN ((List.length (Qx (Q9 p1 p2 o0).1 4 (Q9 p1 p2 o0).2).1.list) : Int), iN (i0 : Int)] ++ nuns 11
def Q10a (_p1 : Val) (_p2 : BA) (_o0 : av) (_i0 : Nat) (ah : Int) (ay : List aX) : List Ob :=
  [⟨1, 0, false, [iN ah]⟩, ⟨1, 0, false, [.bx 0 0]⟩, ⟨2, 0, true, (aX.rows ay).flatten⟩]
def Qhv (p1 : Val) (p2 : BA) (o0 : av) (i0 : Nat) (ah : Int) (ay : List aX) : En := .loop 2 Ir.Qlz Ir.Q1ok (Q1g5 p1 p2 o0 i0 ah ay) (Q10a p1 p2 o0 i0 ah ay)
def Qt5 (_p1 : Val) (_p2 : BA) (_o0 : av) (q0 : Int) (q1 : List aX) (z : Nat → PV) (_zo : Nat → List PV) : St :=
  ⟨zr z 0 9 ++ [.ms 2 2 0 (List.length q1)] ++ zr z 10 22, [(0, ⟨1, 0, false, [iN q0]⟩), (1, ⟨1, 0, false, [.bx 0 0]⟩), (2, ⟨2, 0, true, (aX.rows q1).flatten⟩)], 67⟩
theorem Q16o (p1 : Val) (p2 : BA) (o0 : av) (i0 : Nat) (ah : Int) (ay : List aX) : VOK (Go.Pv.look (number 0 (Q10a p1 p2 o0 i0 ah ay))) [(2, aX.rows ay)] := (VOK.cons (show Seen _ _ from Q4a (ob := ⟨2, 0, true, (aX.rows ay).flatten⟩) (aX.Q8 ay 2 rfl)) VOK.nil)
def Qjo (p1 : Val) (p2 : BA) (o0 : av) (e : En) (q : Int × (List aX)) : Prop := ∃ z zo, Q0 G e (.st (.exit 0) (Qt5 p1 p2 o0 q.1 q.2 z zo))
theorem Qxj (p1 : Val) (p2 : BA) (o0 : av) {e e' : En} (h : ∀ r, Q0 G e r → Q0 G e' r) : ∀ q, Qjo p1 p2 o0 e q → Qjo p1 p2 o0 e' q
  | _, ⟨z, zo, hz⟩ => ⟨z, zo, h _ hz⟩
def Qe3 (p1 : Val) (p2 : BA) (o0 : av) : Prop := (List.length (Qx (Q9 p1 p2 o0).1 4 (Q9 p1 p2 o0).2).1.list ≤ 137438953472) ∧ (∀ x0 ∈ (Qx (Q9 p1 p2 o0).1 4 (Q9 p1 p2 o0).2).1.list, Q1q5 x0) ∧ True
def Qv7 (p1 : Val) (p2 : BA) (o0 : av) (i0 : Nat) (_ah : Int) (_ay : List aX) : List PV :=
  [.un, .un, .un, .fn 88 [] [.bx 1 0]] ++ nuns 14 ++ [.sl (Val.rows (Qx (Q9 p1 p2 o0).1 4 (Q9 p1 p2 o0).2).1.list), iN ((List.length (Qx (Q9 p1 p2 o0).1 4 (Q9 p1 p2 o0).2).1.list) : Int), iN (i0 : Int), .bool false]
def Qnv (_p1 : Val) (_p2 : BA) (_o0 : av) (_i0 : Nat) (_ah : Int) (_ay : List aX) : List (Nat × List PV) :=
  []
theorem Q1el (p1 : Val) (p2 : BA) (o0 : av) (_H : Qe3 p1 p2 o0) (i0 : Nat) (ah : Int) (ay : List aX) (_aP : List.length ay ≤ i0) (bC : (decide ((i0 : Int) < ((List.length (Qx (Q9 p1 p2 o0).1 4 (Q9 p1 p2 o0).2).1.list) : Int))) = false) : Qjo p1 p2 o0 (Qhv p1 p2 o0 i0 ah ay) (ah, ay) := by
 exact ⟨(envF (Qv7 p1 p2 o0 i0 ah ay)), (zoF (Qnv p1 p2 o0 i0 ah ay)), Qh (Q16o p1 p2 o0 i0 ah ay) (x := ((.exit 0), Qt5 p1 p2 o0 ah ay (envF (Qv7 p1 p2 o0 i0 ah ay)) (zoF (Qnv p1 p2 o0 i0 ah ay)))) [hB 0 bC] [] (by kernel_rfl)⟩
theorem Q1cb (p1 : Val) (p2 : BA) (o0 : av) (H : Qe3 p1 p2 o0) (x0 : Val) (i0 : Nat) (ah : Int) (ay : List aX) (bF : (Qx (Q9 p1 p2 o0).1 4 (Q9 p1 p2 o0).2).1.list[i0]? = some x0) (bR : i0 < List.length (Qx (Q9 p1 p2 o0).1 4 (Q9 p1 p2 o0).2).1.list) (aP : List.length ay ≤ i0) (bC : (decide ((i0 : Int) < ((List.length (Qx (Q9 p1 p2 o0).1 4 (Q9 p1 p2 o0).2).1.list) : Int))) = true) {r : Rs} (hr : Q0 G (Qhv p1 p2 o0 (i0 + 1) (Qb8 x0 (av.mk ah)).2.bN (ay ++ [(Qb8 x0 (av.mk ah)).1])) r) : Q0 G (Qhv p1 p2 o0 i0 ah ay) r := by
 have hB0 := H.1
 exact Qc (Q16o p1 p2 o0 i0 ah ay) [hB 0 bC, hP 0 (Q1l 5 _ i0 _ (Val.Qb bF) rfl), hA 8 2 579 643 2 24 0 0 true aX.Q5 aX.Q1n ay (Qb8 x0 (av.mk ah)).1 (aX.Qw ay) rfl rfl (by omega), hS 0 true (aX.Q8 (ay ++ [(Qb8 x0 (av.mk ah)).1]) 2 rfl), hP 1 (Q26 i0 (by omega))] [aN (Q2g2 x0 (av.mk ah) (H.2.1 x0 (Q1i bF)))] hr (by kernel_rfl)
theorem Q133 (p1 : Val) (p2 : BA) (o0 : av) (H : Qe3 p1 p2 o0) : ∀ (r0 : List Val) (i0 : Nat) (ah : Int) (ay : List aX), List.drop i0 (Qx (Q9 p1 p2 o0).1 4 (Q9 p1 p2 o0).2).1.list = r0 → List.length ay ≤ i0 → Qjo p1 p2 o0 (Qhv p1 p2 o0 i0 ah ay) (Q6n p1 p2 o0 r0 i0 ah ay)
 | [], i0, ah, ay, hd, aP => by
  have bC : (decide ((i0 : Int) < ((List.length (Qx (Q9 p1 p2 o0).1 4 (Q9 p1 p2 o0).2).1.list) : Int))) = false := by have := Q1o hd; simp; omega
  rw [Q6n]
  exact Q1el p1 p2 o0 H i0 ah ay aP bC
 | x0 :: r0, i0, ah, ay, hd, aP => by
  obtain ⟨bF, bR, hd'⟩ := Q1p hd
  have bC : (decide ((i0 : Int) < ((List.length (Qx (Q9 p1 p2 o0).1 4 (Q9 p1 p2 o0).2).1.list) : Int))) = true := by simp; omega
  rw [Q6n]
  exact Qxj p1 p2 o0 (fun r hr => Q1cb p1 p2 o0 H x0 i0 ah ay bF bR aP bC hr) _ (Q133 p1 p2 o0 H r0 _ _ _ hd' (by first | omega | (simp; omega)))
def Qdc (p1 : Val) (p2 : BA) (o0 : av) : List aX × av := ((dE aX.dec p1 p2).1, bp o0 (pE (aX.cnt) p1 p2))
theorem Q19m (p1 : Val) (p2 : BA) (o0 : av) : ∀ (l : List Val) (i : Nat) (b : Int) (a : List aX), Q6n p1 p2 o0 l i b a = (bw b (sumC (aX.cnt) l), a ++ l.map (fun x => (aX.dec x).1))
  | [], _, b, a => by rw [Q6n]; simp [sumC, bw]
  | x :: l, i, b, a => by
    rw [Q6n]
    refine (Q19m p1 p2 o0 l (i + 1) (bw b ((aX.cnt) x)) (a ++ [(aX.dec x).1])).trans ?_
    rw [Qd2]
    simp only [List.append_assoc, List.singleton_append, List.map_cons, sumC]
theorem Q2cx (p1 : Val) (p2 : BA) (o0 : av) : Qdc p1 p2 o0 = (((Q6n p1 p2 o0 (Qx (Q9 p1 p2 o0).1 4 (Q9 p1 p2 o0).2).1.list 0 (Qx (Q9 p1 p2 o0).1 4 (Q9 p1 p2 o0).2).2.bN []).2, (av.mk (Q6n p1 p2 o0 (Qx (Q9 p1 p2 o0).1 4 (Q9 p1 p2 o0).2).1.list 0 (Qx (Q9 p1 p2 o0).1 4 (Q9 p1 p2 o0).2).2.bN []).1))) := by
  rw [Q19m]
  unfold Q9 Qx Qdc
  simp only [Q7w, getL, Qaj, Qd2]
  rfl
def Q29u (p1 : Val) (p2 : BA) (o0 : av) : En := .call 87 [.bx 0 0, .agg (Val.cells p1), .str p2, .fn 88 [] [.bx 1 0]] [⟨1, 0, false, (av.cells o0)⟩, ⟨1, 0, false, [.bx 0 0]⟩]
def Q2e8 (_p1 : Val) (_p2 : BA) (_o0 : av) (q0 : List aX) (q1 : av) : Rs := .ret (.sl (aX.rows q0)) [⟨1, 0, false, (av.cells q1)⟩, ⟨1, 0, false, [.bx 0 0]⟩]
def Q1z2 (p1 : Val) (p2 : BA) (o0 : av) : Rs := Q2e8 p1 p2 o0 (Qdc p1 p2 o0).1 (Qdc p1 p2 o0).2
def Q1qc (p1 : Val) : Prop := Val.Sm 1000000000 p1
theorem Q182 (p1 : Val) (p2 : BA) (o0 : av) (H : Q1qc p1) : (Qcc p1) ∧ (Qe3 p1 p2 o0) ∧ True := by
  have hl := Q71 (Qg H p2)
  refine ⟨H, ?_, trivial⟩
  unfold Qe3 Q9 Qx
  simp only [getL]
  exact ⟨Nat.le_trans hl.1 (Nat.le_of_ble_eq_true rfl), hl.2, trivial⟩
theorem Q2gf (p1 : Val) (p2 : BA) (o0 : av) (H : Q1qc p1) : Q0 G (Q29u p1 p2 o0) (Q1z2 p1 p2 o0) := by
 unfold Q1z2
 rw [Q2cx]
 have hl0 := Q133 p1 p2 o0 ((Q182 p1 p2 o0 H).2.1) (Qx (Q9 p1 p2 o0).1 4 (Q9 p1 p2 o0).2).1.list 0 (Qx (Q9 p1 p2 o0).1 4 (Q9 p1 p2 o0).2).2.bN [] (by simp) (by simp)
 obtain ⟨z0, fA, hl0⟩ := hl0
 exact Q7 (fn := Ir.K6h) (by kernel_rfl) (h := [⟨1, 0, false, (av.cells o0)⟩, ⟨1, 0, false, [.bx 0 0]⟩]) (vw := []) VOK.nil [hP 10 (Qs _ _ (Val.Q5 (Qx (Q9 p1 p2 o0).1 4 (Q9 p1 p2 o0).2).1.list)), hS 0 true (aX.Q8 (Q6n p1 p2 o0 (Qx (Q9 p1 p2 o0).1 4 (Q9 p1 p2 o0).2).1.list 0 (Qx (Q9 p1 p2 o0).1 4 (Q9 p1 p2 o0).2).2.bN []).2 2 rfl), hQ (aX.Q5 (Q6n p1 p2 o0 (Qx (Q9 p1 p2 o0).1 4 (Q9 p1 p2 o0).2).1.list 0 (Qx (Q9 p1 p2 o0).1 4 (Q9 p1 p2 o0).2).2.bN []).2).symm] [aN (Qar p1 p2 o0 (Q182 p1 p2 o0 H).1), aN (Qaq (Q9 p1 p2 o0).1 4 (Q9 p1 p2 o0).2), aV [(2, aX.rows (Q6n p1 p2 o0 (Qx (Q9 p1 p2 o0).1 4 (Q9 p1 p2 o0).2).1.list 0 (Qx (Q9 p1 p2 o0).1 4 (Q9 p1 p2 o0).2).2.bN []).2)] hl0] (by kernel_rfl)
def Qcg (p0 : Val) (o1 : av) : aZ × av := ((aZ.dec p0).1, bp o1 (aZ.cnt p0))
theorem Q2cb (p0 : Val) (o1 : av) : Qcg p0 o1 = (((aZ.mk (Qy p0 Q48 o1).1 (Qy p0 Qf (Qy p0 Q48 o1).2).1), (Qy p0 Qf (Qy p0 Q48 o1).2).2)) := by
  simp only [Qy, Qcg, Q7w]
  refine Prod.ext rfl (congrArg (bp o1) ?_)
  show aZ.cnt p0 = _
  try unfold aZ.cnt
  try unfold cM
  first | rfl | omega
def Q298 (p0 : Val) (o1 : av) : En := .call 91 [.agg (Val.cells p0), .bx 0 0] [⟨1, 0, false, [.bx 1 0]⟩, ⟨1, 0, false, (av.cells o1)⟩]
def Q2dr (_p0 : Val) (_o1 : av) (q0 : aZ) (q1 : av) : Rs := .ret (.agg (aZ.cells q0)) [⟨1, 0, false, [.bx 1 0]⟩, ⟨1, 0, false, (av.cells q1)⟩]
def Q1yg (p0 : Val) (o1 : av) : Rs := Q2dr p0 o1 (Qcg p0 o1).1 (Qcg p0 o1).2
def Q1q6 (p0 : Val) : Prop := Val.Sm 1000000000 p0
theorem Q17z (p0 : Val) (_o1 : av) (H : Q1q6 p0) : (Qcd p0) ∧ True := by
  repeat' with_reducible apply And.intro
  all_goals first | exact True.intro | exact H | exact Qg H _
theorem Q2g3 (p0 : Val) (o1 : av) (H : Q1q6 p0) : Q0 G (Q298 p0 o1) (Q1yg p0 o1) := by
 unfold Q1yg
 rw [Q2cb]
 exact Q7 (fn := Ir.K5i) (by kernel_rfl) (h := [⟨1, 0, false, [.bx 1 0]⟩, ⟨1, 0, false, (av.cells o1)⟩]) (vw := []) VOK.nil [] [aN (Q57 p0 Q48 o1 (Q17z p0 o1 H).1), aN (Q57 p0 Qf (Qy p0 Q48 o1).2 (Q17z p0 o1 H).1)] (by kernel_rfl)
def Q6t (p1 : Val) (p2 : BA) (o0 : av) : List Val → Nat → Int → (List aZ) → Int × (List aZ)
 | [], _i0, ah, ay =>
  (ah, ay)
 | x0 :: r0, i0, ah, ay =>
  Q6t p1 p2 o0 r0 (i0 + 1) (Qcg x0 (av.mk ah)).2.bN (ay ++ [(Qcg x0 (av.mk ah)).1])
def Q1gb (p1 : Val) (p2 : BA) (o0 : av) (i0 : Nat) (_ah : Int) (ay : List aZ) : List PV :=
  [.un, .un, .un, .fn 91 [] [.bx 1 0]] ++ nuns 5 ++ [.ms 2 2 0 (List.length ay)] ++ nuns 8 ++ [.sl (Val.rows (Qx (Q9 p1 p2 o0).1 4 (Q9 p1 p2 o0).2).1.list), iN ((List.length (Qx (Q9 p1 p2 o0).1 4 (Q9 p1 p2 o0).2).1.list) : Int), iN (i0 : Int)] ++ nuns 11
def Q10g (_p1 : Val) (_p2 : BA) (_o0 : av) (_i0 : Nat) (ah : Int) (ay : List aZ) : List Ob :=
  [⟨1, 0, false, [iN ah]⟩, ⟨1, 0, false, [.bx 0 0]⟩, ⟨2, 0, true, (aZ.rows ay).flatten⟩]
def Qi1 (p1 : Val) (p2 : BA) (o0 : av) (i0 : Nat) (ah : Int) (ay : List aZ) : En := .loop 2 Ir.Qm5 Ir.Q1oq (Q1gb p1 p2 o0 i0 ah ay) (Q10g p1 p2 o0 i0 ah ay)
def Qtb (_p1 : Val) (_p2 : BA) (_o0 : av) (q0 : Int) (q1 : List aZ) (z : Nat → PV) (_zo : Nat → List PV) : St :=
  ⟨zr z 0 9 ++ [.ms 2 2 0 (List.length q1)] ++ zr z 10 22, [(0, ⟨1, 0, false, [iN q0]⟩), (1, ⟨1, 0, false, [.bx 0 0]⟩), (2, ⟨2, 0, true, (aZ.rows q1).flatten⟩)], 67⟩
theorem Q16u (p1 : Val) (p2 : BA) (o0 : av) (i0 : Nat) (ah : Int) (ay : List aZ) : VOK (Go.Pv.look (number 0 (Q10g p1 p2 o0 i0 ah ay))) [(2, aZ.rows ay)] := (VOK.cons (show Seen _ _ from Q4a (ob := ⟨2, 0, true, (aZ.rows ay).flatten⟩) (aZ.Q8 ay 2 rfl)) VOK.nil)
def Qju (p1 : Val) (p2 : BA) (o0 : av) (e : En) (q : Int × (List aZ)) : Prop := ∃ z zo, Q0 G e (.st (.exit 0) (Qtb p1 p2 o0 q.1 q.2 z zo))
theorem Qxp (p1 : Val) (p2 : BA) (o0 : av) {e e' : En} (h : ∀ r, Q0 G e r → Q0 G e' r) : ∀ q, Qju p1 p2 o0 e q → Qju p1 p2 o0 e' q
  | _, ⟨z, zo, hz⟩ => ⟨z, zo, h _ hz⟩
def Qe9 (p1 : Val) (p2 : BA) (o0 : av) : Prop := (List.length (Qx (Q9 p1 p2 o0).1 4 (Q9 p1 p2 o0).2).1.list ≤ 137438953472) ∧ (∀ x0 ∈ (Qx (Q9 p1 p2 o0).1 4 (Q9 p1 p2 o0).2).1.list, Q1q6 x0) ∧ True
def Qvd (p1 : Val) (p2 : BA) (o0 : av) (i0 : Nat) (_ah : Int) (_ay : List aZ) : List PV :=
  [.un, .un, .un, .fn 91 [] [.bx 1 0]] ++ nuns 14 ++ [.sl (Val.rows (Qx (Q9 p1 p2 o0).1 4 (Q9 p1 p2 o0).2).1.list), iN ((List.length (Qx (Q9 p1 p2 o0).1 4 (Q9 p1 p2 o0).2).1.list) : Int), iN (i0 : Int), .bool false]
def Qo1 (_p1 : Val) (_p2 : BA) (_o0 : av) (_i0 : Nat) (_ah : Int) (_ay : List aZ) : List (Nat × List PV) :=
  []
theorem Q1er (p1 : Val) (p2 : BA) (o0 : av) (_H : Qe9 p1 p2 o0) (i0 : Nat) (ah : Int) (ay : List aZ) (_aP : List.length ay ≤ i0) (bC : (decide ((i0 : Int) < ((List.length (Qx (Q9 p1 p2 o0).1 4 (Q9 p1 p2 o0).2).1.list) : Int))) = false) : Qju p1 p2 o0 (Qi1 p1 p2 o0 i0 ah ay) (ah, ay) := by
 exact ⟨(envF (Qvd p1 p2 o0 i0 ah ay)), (zoF (Qo1 p1 p2 o0 i0 ah ay)), Qh (Q16u p1 p2 o0 i0 ah ay) (x := ((.exit 0), Qtb p1 p2 o0 ah ay (envF (Qvd p1 p2 o0 i0 ah ay)) (zoF (Qo1 p1 p2 o0 i0 ah ay)))) [hB 0 bC] [] (by kernel_rfl)⟩
theorem Q1ch (p1 : Val) (p2 : BA) (o0 : av) (H : Qe9 p1 p2 o0) (x0 : Val) (i0 : Nat) (ah : Int) (ay : List aZ) (bF : (Qx (Q9 p1 p2 o0).1 4 (Q9 p1 p2 o0).2).1.list[i0]? = some x0) (bR : i0 < List.length (Qx (Q9 p1 p2 o0).1 4 (Q9 p1 p2 o0).2).1.list) (aP : List.length ay ≤ i0) (bC : (decide ((i0 : Int) < ((List.length (Qx (Q9 p1 p2 o0).1 4 (Q9 p1 p2 o0).2).1.list) : Int))) = true) {r : Rs} (hr : Q0 G (Qi1 p1 p2 o0 (i0 + 1) (Qcg x0 (av.mk ah)).2.bN (ay ++ [(Qcg x0 (av.mk ah)).1])) r) : Q0 G (Qi1 p1 p2 o0 i0 ah ay) r := by
 have hB0 := H.1
 exact Qc (Q16u p1 p2 o0 i0 ah ay) [hB 0 bC, hP 0 (Q1l 5 _ i0 _ (Val.Qb bF) rfl), hA 8 2 579 643 2 16 0 0 true aZ.Q5 aZ.Q1n ay (Qcg x0 (av.mk ah)).1 (aZ.Qw ay) rfl rfl (by omega), hS 0 true (aZ.Q8 (ay ++ [(Qcg x0 (av.mk ah)).1]) 2 rfl), hP 1 (Q26 i0 (by omega))] [aN (Q2g3 x0 (av.mk ah) (H.2.1 x0 (Q1i bF)))] hr (by kernel_rfl)
theorem Q139 (p1 : Val) (p2 : BA) (o0 : av) (H : Qe9 p1 p2 o0) : ∀ (r0 : List Val) (i0 : Nat) (ah : Int) (ay : List aZ), List.drop i0 (Qx (Q9 p1 p2 o0).1 4 (Q9 p1 p2 o0).2).1.list = r0 → List.length ay ≤ i0 → Qju p1 p2 o0 (Qi1 p1 p2 o0 i0 ah ay) (Q6t p1 p2 o0 r0 i0 ah ay)
 | [], i0, ah, ay, hd, aP => by
  have bC : (decide ((i0 : Int) < ((List.length (Qx (Q9 p1 p2 o0).1 4 (Q9 p1 p2 o0).2).1.list) : Int))) = false := by have := Q1o hd; simp; omega
  rw [Q6t]
  exact Q1er p1 p2 o0 H i0 ah ay aP bC
 | x0 :: r0, i0, ah, ay, hd, aP => by
  obtain ⟨bF, bR, hd'⟩ := Q1p hd
  have bC : (decide ((i0 : Int) < ((List.length (Qx (Q9 p1 p2 o0).1 4 (Q9 p1 p2 o0).2).1.list) : Int))) = true := by simp; omega
  rw [Q6t]
  exact Qxp p1 p2 o0 (fun r hr => Q1ch p1 p2 o0 H x0 i0 ah ay bF bR aP bC hr) _ (Q139 p1 p2 o0 H r0 _ _ _ hd' (by first | omega | (simp; omega)))
def Qfg (p1 : Val) (p2 : BA) (o0 : av) : List aZ × av := ((dE aZ.dec p1 p2).1, bp o0 (pE (aZ.cnt) p1 p2))
theorem Q19s (p1 : Val) (p2 : BA) (o0 : av) : ∀ (l : List Val) (i : Nat) (b : Int) (a : List aZ), Q6t p1 p2 o0 l i b a = (bw b (sumC (aZ.cnt) l), a ++ l.map (fun x => (aZ.dec x).1))
  | [], _, b, a => by rw [Q6t]; simp [sumC, bw]
  | x :: l, i, b, a => by
    rw [Q6t]
    refine (Q19s p1 p2 o0 l (i + 1) (bw b ((aZ.cnt) x)) (a ++ [(aZ.dec x).1])).trans ?_
    rw [Qd2]
    simp only [List.append_assoc, List.singleton_append, List.map_cons, sumC]
theorem Q2d3 (p1 : Val) (p2 : BA) (o0 : av) : Qfg p1 p2 o0 = (((Q6t p1 p2 o0 (Qx (Q9 p1 p2 o0).1 4 (Q9 p1 p2 o0).2).1.list 0 (Qx (Q9 p1 p2 o0).1 4 (Q9 p1 p2 o0).2).2.bN []).2, (av.mk (Q6t p1 p2 o0 (Qx (Q9 p1 p2 o0).1 4 (Q9 p1 p2 o0).2).1.list 0 (Qx (Q9 p1 p2 o0).1 4 (Q9 p1 p2 o0).2).2.bN []).1))) := by
  rw [Q19s]
  unfold Q9 Qx Qfg
  simp only [Q7w, getL, Qaj, Qd2]
  rfl
def Q2a0 (p1 : Val) (p2 : BA) (o0 : av) : En := .call 90 [.bx 0 0, .agg (Val.cells p1), .str p2, .fn 91 [] [.bx 1 0]] [⟨1, 0, false, (av.cells o0)⟩, ⟨1, 0, false, [.bx 0 0]⟩]
def Q2ee (_p1 : Val) (_p2 : BA) (_o0 : av) (q0 : List aZ) (q1 : av) : Rs := .ret (.sl (aZ.rows q0)) [⟨1, 0, false, (av.cells q1)⟩, ⟨1, 0, false, [.bx 0 0]⟩]
def Q1z8 (p1 : Val) (p2 : BA) (o0 : av) : Rs := Q2ee p1 p2 o0 (Qfg p1 p2 o0).1 (Qfg p1 p2 o0).2
def Q1qi (p1 : Val) : Prop := Val.Sm 1000000000 p1
theorem Q188 (p1 : Val) (p2 : BA) (o0 : av) (H : Q1qi p1) : (Qcc p1) ∧ (Qe9 p1 p2 o0) ∧ True := by
  have hl := Q71 (Qg H p2)
  refine ⟨H, ?_, trivial⟩
  unfold Qe9 Q9 Qx
  simp only [getL]
  exact ⟨Nat.le_trans hl.1 (Nat.le_of_ble_eq_true rfl), hl.2, trivial⟩
theorem Q2gk (p1 : Val) (p2 : BA) (o0 : av) (H : Q1qi p1) : Q0 G (Q2a0 p1 p2 o0) (Q1z8 p1 p2 o0) := by
 unfold Q1z8
 rw [Q2d3]
 have hl0 := Q139 p1 p2 o0 ((Q188 p1 p2 o0 H).2.1) (Qx (Q9 p1 p2 o0).1 4 (Q9 p1 p2 o0).2).1.list 0 (Qx (Q9 p1 p2 o0).1 4 (Q9 p1 p2 o0).2).2.bN [] (by simp) (by simp)
 obtain ⟨z0, fA, hl0⟩ := hl0
 exact Q7 (fn := Ir.K6r) (by kernel_rfl) (h := [⟨1, 0, false, (av.cells o0)⟩, ⟨1, 0, false, [.bx 0 0]⟩]) (vw := []) VOK.nil [hP 10 (Qs _ _ (Val.Q5 (Qx (Q9 p1 p2 o0).1 4 (Q9 p1 p2 o0).2).1.list)), hS 0 true (aZ.Q8 (Q6t p1 p2 o0 (Qx (Q9 p1 p2 o0).1 4 (Q9 p1 p2 o0).2).1.list 0 (Qx (Q9 p1 p2 o0).1 4 (Q9 p1 p2 o0).2).2.bN []).2 2 rfl), hQ (aZ.Q5 (Q6t p1 p2 o0 (Qx (Q9 p1 p2 o0).1 4 (Q9 p1 p2 o0).2).1.list 0 (Qx (Q9 p1 p2 o0).1 4 (Q9 p1 p2 o0).2).2.bN []).2).symm] [aN (Qar p1 p2 o0 (Q188 p1 p2 o0 H).1), aN (Qaq (Q9 p1 p2 o0).1 4 (Q9 p1 p2 o0).2), aV [(2, aZ.rows (Q6t p1 p2 o0 (Qx (Q9 p1 p2 o0).1 4 (Q9 p1 p2 o0).2).1.list 0 (Qx (Q9 p1 p2 o0).1 4 (Q9 p1 p2 o0).2).2.bN []).2)] hl0] (by kernel_rfl)
def Qgw (p1 : aF) (o0 : av) : aF × Int :=
 bif (decide (0 < o0.bN)) then
  ((aF.mk (bJ.mk eB eB eB 0 0 0 0 false 0 [] [] [] []) eB eB 0 0 [] 0 0 0 (aL.mk false 0) (aL.mk false 0) 0 [] 0), 6)
 else
  (p1, 0)
def Q2a6 (p1 : aF) (o0 : av) : En := .call 92 [.bx 0 0, .agg (aF.cells p1)] [⟨1, 0, false, (av.cells o0)⟩]
def Q2ek (_p1 : aF) (o0 : av) (q0 : aF) (q1 : Int) : Rs := .ret (.tup [.agg (aF.cells q0), iN q1]) [⟨1, 0, false, (av.cells o0)⟩]
def Q1ze (p1 : aF) (o0 : av) : Rs := Q2ek p1 o0 (Qgw p1 o0).1 (Qgw p1 o0).2
theorem Q2gp (p1 : aF) (o0 : av) : Q0 G (Q2a6 p1 o0) (Q1ze p1 o0) := by
 unfold Q1ze Qgw
 cases h0 : (decide (0 < o0.bN)) with
 | true =>
  exact Q7 (fn := Ir.K7k) (by kernel_rfl) (h := [⟨1, 0, false, (av.cells o0)⟩]) (vw := []) VOK.nil [hB 7 h0] [] (by kernel_rfl)
 | false =>
  exact Q7 (fn := Ir.K7k) (by kernel_rfl) (h := [⟨1, 0, false, (av.cells o0)⟩]) (vw := []) VOK.nil [hB 7 h0] [] (by kernel_rfl)
def Qq3 (p0 : aA) : av :=
  (Qdc p0.aO Qp (Q4n p0 Q1h)).2
def Qqa (p0 : aA) : av :=
  (Qfg p0.aM Q1u (Qq3 p0)).2
def Qqh (p0 : aA) : av :=
  (Q5e p0.aO Q2h (Qqa p0)).2
def Qqo (p0 : aA) : av :=
  (Q5e p0.aO Q1w (Qqh p0)).2
def Qqv (p0 : aA) : av :=
  (Qy p0.aO Q6e (Qqo p0)).2
def Qr1 (p0 : aA) : av :=
  (Qy p0.aO Q6d (Qqv p0)).2
def Qr7 (p0 : aA) : av :=
  (Qy p0.aO Q2p (Qr1 p0)).2
def Qrc (p0 : aA) : av :=
  (Qy p0.aO Q2y (Qr7 p0)).2
def Qdl (p0 : aA) : av :=
  (Qy p0.aO Q2g (Qrc p0)).2
def Qrg (p0 : aA) : av :=
  (Q9 p0.aO Q44 (Qdl p0)).2
def Q9y (p0 : aA) : av :=
  (Q6h (Q9 p0.aO Q44 (Qdl p0)).1 (Qrg p0)).2
def Qfm (p0 : aA) : av :=
  (Q9 p0.aO Q36 (Q9y p0)).2
def Qfo (p0 : aA) : av :=
  (Q6h (Q9 p0.aO Q36 (Q9y p0)).1 (Qfm p0)).2
def Qfq (p0 : aA) : av :=
  (Qy p0.aO Q1z (Qfo p0)).2
def Qw4 (p0 : aA) : av :=
  (Qy p0.aM Q3n (Qfq p0)).2
def Q1j3 (p0 : aA) : aF × Int := resC (aF.cnt p0) (aF.of p0) aF.z
theorem Qpt (n : Nat) (x : aF) : Qgw x (bp ⟨0⟩ n) = resC n x aF.z := rfl
theorem Q2c9 (p0 : aA) : Q1j3 p0 = (((Qgw (aF.mk p0.aI (Q5e p0.aO Q2h (Qqa p0)).1 (Q5e p0.aO Q1w (Qqh p0)).1 (Qy p0.aO Q6e (Qqo p0)).1 (Qy p0.aO Q6d (Qqv p0)).1 (Qdc p0.aO Qp (Q4n p0 Q1h)).1 (Qy p0.aO Q2p (Qr1 p0)).1 (Qy p0.aO Q2y (Qr7 p0)).1 (Qy p0.aO Q2g (Qrc p0)).1 (Q6h (Q9 p0.aO Q44 (Qdl p0)).1 (Qrg p0)).1 (Q6h (Q9 p0.aO Q36 (Q9y p0)).1 (Qfm p0)).1 (Qy p0.aO Q1z (Qfo p0)).1 (Qfg p0.aM Q1u (Qq3 p0)).1 (Qy p0.aM Q3n (Qfq p0)).1) (Qw4 p0)).1, (Qgw (aF.mk p0.aI (Q5e p0.aO Q2h (Qqa p0)).1 (Q5e p0.aO Q1w (Qqh p0)).1 (Qy p0.aO Q6e (Qqo p0)).1 (Qy p0.aO Q6d (Qqv p0)).1 (Qdc p0.aO Qp (Q4n p0 Q1h)).1 (Qy p0.aO Q2p (Qr1 p0)).1 (Qy p0.aO Q2y (Qr7 p0)).1 (Qy p0.aO Q2g (Qrc p0)).1 (Q6h (Q9 p0.aO Q44 (Qdl p0)).1 (Qrg p0)).1 (Q6h (Q9 p0.aO Q36 (Q9y p0)).1 (Qfm p0)).1 (Qy p0.aO Q1z (Qfo p0)).1 (Qfg p0.aM Q1u (Qq3 p0)).1 (Qy p0.aM Q3n (Qfq p0)).1) (Qw4 p0)).2)) := by
  simp only [Qq3, Qqa, Qqh, Qqo, Qqv, Qr1, Qr7, Qrc, Qdl, Qrg, Q9y, Qfm, Qfo, Qfq, Qw4, Q9, Qy, Q5e, Q6h, Qdc, Qfg, Qgw, Q4n, Q7w]
  refine Eq.trans ?_ (Qpt _ _).symm
  refine Qp6 ?_ rfl
  unfold aF.cnt
  omega
def Q296 (p0 : aA) : En := .call 15 [.agg (aA.cells p0)] []
def Q1ye (p0 : aA) : Rs := .ret (.tup [.agg (aF.cells (Q1j3 p0).1), iN (Q1j3 p0).2]) []
def Q1kr (p0 : aA) : Prop := Qgp p0.aI ∧ aA.sm p0
theorem Q5b (p0 : aA) (H : Q1kr p0) : (Q1qc p0.aO) ∧ (Q1qi p0.aM) ∧ (Qgp p0.aI) ∧ (Q146 p0.aO) ∧ (Qcd p0.aO) ∧ (Qcc p0.aO) ∧ (Q145 (Q9 p0.aO Q44 (Qdl p0)).1) ∧ (Q145 (Q9 p0.aO Q36 (Q9y p0)).1) ∧ (Qcd p0.aM) ∧ True := by
  repeat' with_reducible apply And.intro
  all_goals first | exact True.intro | exact H.1 | exact H.2 | exact H.2.1 | exact H.2.2 | exact Qg H.2.1 _ | exact Qg H.2.2 _
theorem Q2g1 (p0 : aA) (H : Q1kr p0) : Q0 G (Q296 p0) (Q1ye p0) := by
 unfold Q1ye
 rw [Q2c9]
 exact Q7 (fn := Ir.K5g) (by kernel_rfl) VOK.nil [] [aN (Q1ji p0 Q1h), aN (Q2gf p0.aO Qp (Q4n p0 Q1h) (Q5b p0 H).1), aN (Q2gk p0.aM Q1u (Qq3 p0) (Q5b p0 H).2.1), aN (Q1jg p0.aI (Q5b p0 H).2.2.1), aN (Q1cv p0.aO Q2h (Qqa p0) (Q5b p0 H).2.2.2.1), aN (Q1cv p0.aO Q1w (Qqh p0) (Q5b p0 H).2.2.2.1), aN (Q57 p0.aO Q6e (Qqo p0) (Q5b p0 H).2.2.2.2.1), aN (Q57 p0.aO Q6d (Qqv p0) (Q5b p0 H).2.2.2.2.1), aN (Q57 p0.aO Q2p (Qr1 p0) (Q5b p0 H).2.2.2.2.1), aN (Q57 p0.aO Q2y (Qr7 p0) (Q5b p0 H).2.2.2.2.1), aN (Q57 p0.aO Q2g (Qrc p0) (Q5b p0 H).2.2.2.2.1), aN (Qar p0.aO Q44 (Qdl p0) (Q5b p0 H).2.2.2.2.2.1), aN (Q1jh (Q9 p0.aO Q44 (Qdl p0)).1 (Qrg p0) (Q5b p0 H).2.2.2.2.2.2.1), aN (Qar p0.aO Q36 (Q9y p0) (Q5b p0 H).2.2.2.2.2.1), aN (Q1jh (Q9 p0.aO Q36 (Q9y p0)).1 (Qfm p0) (Q5b p0 H).2.2.2.2.2.2.2.1), aN (Q57 p0.aO Q1z (Qfo p0) (Q5b p0 H).2.2.2.2.1), aN (Q57 p0.aM Q3n (Qfq p0) (Q5b p0 H).2.2.2.2.2.2.2.2.1), aN (Q2gp (aF.mk p0.aI (Q5e p0.aO Q2h (Qqa p0)).1 (Q5e p0.aO Q1w (Qqh p0)).1 (Qy p0.aO Q6e (Qqo p0)).1 (Qy p0.aO Q6d (Qqv p0)).1 (Qdc p0.aO Qp (Q4n p0 Q1h)).1 (Qy p0.aO Q2p (Qr1 p0)).1 (Qy p0.aO Q2y (Qr7 p0)).1 (Qy p0.aO Q2g (Qrc p0)).1 (Q6h (Q9 p0.aO Q44 (Qdl p0)).1 (Qrg p0)).1 (Q6h (Q9 p0.aO Q36 (Q9y p0)).1 (Qfm p0)).1 (Qy p0.aO Q1z (Qfo p0)).1 (Qfg p0.aM Q1u (Qq3 p0)).1 (Qy p0.aM Q3n (Qfq p0)).1) (Qw4 p0))] (by kernel_rfl)
def Q1j8 (p1 : eG) (o0 : av) : eG × Int :=
 bif (decide (0 < o0.bN)) then
  ((eG.mk (bJ.mk eB eB eB 0 0 0 0 false 0 [] [] [] []) 0 0 0 [] (aY.mk [] (bn.mk eB 0 0 0 [] [] [] [] [] [])) (bf.mk 0 0 0 0 0 0 false)), 6)
 else
  (p1, 0)
def Q67 (p1 : Val) (o0 : av) : bW × av := ((JobS.dec p1).1, bp o0 (JobS.cnt p1))
theorem Q2co (p1 : Val) (o0 : av) : Q67 p1 o0 = (((bW.mk (bJ.mk eB eB eB 0 0 0 0 false 0 [] [] [] []) (Qy p1 Qj o0).1 (Qy p1 Qu (Qy p1 Qj o0).2).1 (Qy p1 Q1x (Qy p1 Qu (Qy p1 Qj o0).2).2).1 (Qy p1 Q16 (Qy p1 Q1x (Qy p1 Qu (Qy p1 Qj o0).2).2).2).1 (Q53 p1 Q2j (Qy p1 Q16 (Qy p1 Q1x (Qy p1 Qu (Qy p1 Qj o0).2).2).2).2).1 (Q53 p1 Q19 (Q53 p1 Q2j (Qy p1 Q16 (Qy p1 Q1x (Qy p1 Qu (Qy p1 Qj o0).2).2).2).2).2).1 (Q9o p1 (Q53 p1 Q19 (Q53 p1 Q2j (Qy p1 Q16 (Qy p1 Q1x (Qy p1 Qu (Qy p1 Qj o0).2).2).2).2).2).2).1 0 0 0 0 0 [] 0), (Q9o p1 (Q53 p1 Q19 (Q53 p1 Q2j (Qy p1 Q16 (Qy p1 Q1x (Qy p1 Qu (Qy p1 Qj o0).2).2).2).2).2).2).2)) := by
  simp only [Qy, Q53, Q9o, Q67, Q7w]
  refine Prod.ext rfl (congrArg (bp o0) ?_)
  show JobS.cnt p1 = _
  try unfold JobS.cnt
  try unfold cM
  first | rfl | omega
def Q29l (p1 : Val) (o0 : av) : En := .call 105 [.bx 0 0, .agg (Val.cells p1)] [⟨1, 0, false, (av.cells o0)⟩]
def Q2dz (_p1 : Val) (_o0 : av) (q0 : bW) (q1 : av) : Rs := .ret (.agg (bW.cells q0)) [⟨1, 0, false, (av.cells q1)⟩]
def Q1yt (p1 : Val) (o0 : av) : Rs := Q2dz p1 o0 (Q67 p1 o0).1 (Q67 p1 o0).2
def Q1kw (p1 : Val) : Prop := Val.Sm 1000000000 p1
theorem Qab (p1 : Val) (_o0 : av) (H : Q1kw p1) : (Qcd p1) ∧ (Q147 p1) ∧ (Q1ky p1) ∧ True := by
  repeat' with_reducible apply And.intro
  all_goals first | exact True.intro | exact H | exact Qg H _
theorem Q20v (p1 : Val) (o0 : av) (H : Q1kw p1) : Q0 G (Q29l p1 o0) (Q1yt p1 o0) := by
 unfold Q1yt
 rw [Q2co]
 exact Q7 (fn := Ir.K65) (by kernel_rfl) (h := [⟨1, 0, false, (av.cells o0)⟩]) (vw := []) VOK.nil [] [aN (Q57 p1 Qj o0 (Qab p1 o0 H).1), aN (Q57 p1 Qu (Qy p1 Qj o0).2 (Qab p1 o0 H).1), aN (Q57 p1 Q1x (Qy p1 Qu (Qy p1 Qj o0).2).2 (Qab p1 o0 H).1), aN (Q57 p1 Q16 (Qy p1 Q1x (Qy p1 Qu (Qy p1 Qj o0).2).2).2 (Qab p1 o0 H).1), aN (Q15d p1 Q2j (Qy p1 Q16 (Qy p1 Q1x (Qy p1 Qu (Qy p1 Qj o0).2).2).2).2 (Qab p1 o0 H).2.1), aN (Q15d p1 Q19 (Q53 p1 Q2j (Qy p1 Q16 (Qy p1 Q1x (Qy p1 Qu (Qy p1 Qj o0).2).2).2).2).2 (Qab p1 o0 H).2.1), aN (Q20x p1 (Q53 p1 Q19 (Q53 p1 Q2j (Qy p1 Q16 (Qy p1 Q1x (Qy p1 Qu (Qy p1 Qj o0).2).2).2).2).2).2 (Qab p1 o0 H).2.2.1)] (by kernel_rfl)
def Qg3 (p0 : Val) (o1 : av) : Int × av := ((xN p0).1, bp o1 (cK 2 p0))
theorem Q2cn (p0 : Val) (o1 : av) : Qg3 p0 o1 = (((Qx p0 2 o1).1.n, (Qx p0 2 o1).2)) := by
  exact Prod.ext (getN p0).symm rfl
def Q29k (p0 : Val) (o1 : av) : En := .call 198 [.agg (Val.cells p0), .bx 0 0] [⟨1, 0, false, [.bx 1 0]⟩, ⟨1, 0, false, (av.cells o1)⟩]
def Q2dy (_p0 : Val) (_o1 : av) (q0 : Int) (q1 : av) : Rs := .ret (iN q0) [⟨1, 0, false, [.bx 1 0]⟩, ⟨1, 0, false, (av.cells q1)⟩]
def Q1ys (p0 : Val) (o1 : av) : Rs := Q2dy p0 o1 (Qg3 p0 o1).1 (Qg3 p0 o1).2
theorem Q2gb (p0 : Val) (o1 : av) : Q0 G (Q29k p0 o1) (Q1ys p0 o1) := by
 unfold Q1ys
 rw [Q2cn]
 exact Q7 (fn := Ir.K64) (by kernel_rfl) (h := [⟨1, 0, false, [.bx 1 0]⟩, ⟨1, 0, false, (av.cells o1)⟩]) (vw := []) VOK.nil [] [aN (Qaq p0 2 o1)] (by kernel_rfl)
def Q6s (p1 : Val) (p2 : BA) (o0 : av) : List Val → Nat → Int → (List Int) → Int × (List Int)
 | [], _i0, ah, ay =>
  (ah, ay)
 | x0 :: r0, i0, ah, ay =>
  Q6s p1 p2 o0 r0 (i0 + 1) (Qg3 x0 (av.mk ah)).2.bN (ay ++ [(Qg3 x0 (av.mk ah)).1])
def Q1ga (p1 : Val) (p2 : BA) (o0 : av) (i0 : Nat) (_ah : Int) (ay : List Int) : List PV :=
  [.un, .un, .un, .fn 198 [] [.bx 1 0]] ++ nuns 5 ++ [.ms 2 1 0 (List.length ay)] ++ nuns 8 ++ [.sl (Val.rows (Qx (Q9 p1 p2 o0).1 4 (Q9 p1 p2 o0).2).1.list), iN ((List.length (Qx (Q9 p1 p2 o0).1 4 (Q9 p1 p2 o0).2).1.list) : Int), iN (i0 : Int)] ++ nuns 11
def Q10f (_p1 : Val) (_p2 : BA) (_o0 : av) (_i0 : Nat) (ah : Int) (ay : List Int) : List Ob :=
  [⟨1, 0, false, [iN ah]⟩, ⟨1, 0, false, [.bx 0 0]⟩, ⟨1, 0, true, (Q43 ay).flatten⟩]
def Qi0 (p1 : Val) (p2 : BA) (o0 : av) (i0 : Nat) (ah : Int) (ay : List Int) : En := .loop 2 Ir.Qm4 Ir.Q1op (Q1ga p1 p2 o0 i0 ah ay) (Q10f p1 p2 o0 i0 ah ay)
def Qta (_p1 : Val) (_p2 : BA) (_o0 : av) (q0 : Int) (q1 : List Int) (z : Nat → PV) (_zo : Nat → List PV) : St :=
  ⟨zr z 0 9 ++ [.ms 2 1 0 (List.length q1)] ++ zr z 10 22, [(0, ⟨1, 0, false, [iN q0]⟩), (1, ⟨1, 0, false, [.bx 0 0]⟩), (2, ⟨1, 0, true, (Q43 q1).flatten⟩)], 67⟩
theorem Q16t (p1 : Val) (p2 : BA) (o0 : av) (i0 : Nat) (ah : Int) (ay : List Int) : VOK (Go.Pv.look (number 0 (Q10f p1 p2 o0 i0 ah ay))) [(2, Q43 ay)] := (VOK.cons (show Seen _ _ from Q4a (ob := ⟨1, 0, true, (Q43 ay).flatten⟩) (Q6x ay 1 rfl)) VOK.nil)
def Qjt (p1 : Val) (p2 : BA) (o0 : av) (e : En) (q : Int × (List Int)) : Prop := ∃ z zo, Q0 G e (.st (.exit 0) (Qta p1 p2 o0 q.1 q.2 z zo))
theorem Qxo (p1 : Val) (p2 : BA) (o0 : av) {e e' : En} (h : ∀ r, Q0 G e r → Q0 G e' r) : ∀ q, Qjt p1 p2 o0 e q → Qjt p1 p2 o0 e' q
  | _, ⟨z, zo, hz⟩ => ⟨z, zo, h _ hz⟩
def Qe8 (p1 : Val) (p2 : BA) (o0 : av) : Prop := (List.length (Qx (Q9 p1 p2 o0).1 4 (Q9 p1 p2 o0).2).1.list ≤ 137438953472) ∧ True
def Qvc (p1 : Val) (p2 : BA) (o0 : av) (i0 : Nat) (_ah : Int) (_ay : List Int) : List PV :=
  [.un, .un, .un, .fn 198 [] [.bx 1 0]] ++ nuns 14 ++ [.sl (Val.rows (Qx (Q9 p1 p2 o0).1 4 (Q9 p1 p2 o0).2).1.list), iN ((List.length (Qx (Q9 p1 p2 o0).1 4 (Q9 p1 p2 o0).2).1.list) : Int), iN (i0 : Int), .bool false]
def Qo0 (_p1 : Val) (_p2 : BA) (_o0 : av) (_i0 : Nat) (_ah : Int) (_ay : List Int) : List (Nat × List PV) :=
  []
theorem Q1eq (p1 : Val) (p2 : BA) (o0 : av) (_H : Qe8 p1 p2 o0) (i0 : Nat) (ah : Int) (ay : List Int) (_aP : List.length ay ≤ i0) (bC : (decide ((i0 : Int) < ((List.length (Qx (Q9 p1 p2 o0).1 4 (Q9 p1 p2 o0).2).1.list) : Int))) = false) : Qjt p1 p2 o0 (Qi0 p1 p2 o0 i0 ah ay) (ah, ay) := by
 exact ⟨(envF (Qvc p1 p2 o0 i0 ah ay)), (zoF (Qo0 p1 p2 o0 i0 ah ay)), Qh (Q16t p1 p2 o0 i0 ah ay) (x := ((.exit 0), Qta p1 p2 o0 ah ay (envF (Qvc p1 p2 o0 i0 ah ay)) (zoF (Qo0 p1 p2 o0 i0 ah ay)))) [hB 0 bC] [] (by kernel_rfl)⟩
theorem Q1cg (p1 : Val) (p2 : BA) (o0 : av) (H : Qe8 p1 p2 o0) (x0 : Val) (i0 : Nat) (ah : Int) (ay : List Int) (bF : (Qx (Q9 p1 p2 o0).1 4 (Q9 p1 p2 o0).2).1.list[i0]? = some x0) (bR : i0 < List.length (Qx (Q9 p1 p2 o0).1 4 (Q9 p1 p2 o0).2).1.list) (aP : List.length ay ≤ i0) (bC : (decide ((i0 : Int) < ((List.length (Qx (Q9 p1 p2 o0).1 4 (Q9 p1 p2 o0).2).1.list) : Int))) = true) {r : Rs} (hr : Q0 G (Qi0 p1 p2 o0 (i0 + 1) (Qg3 x0 (av.mk ah)).2.bN (ay ++ [(Qg3 x0 (av.mk ah)).1])) r) : Q0 G (Qi0 p1 p2 o0 i0 ah ay) r := by
 have hB0 := H.1
 exact Qc (Q16t p1 p2 o0 i0 ah ay) [hB 0 bC, hP 0 (Q1l 5 _ i0 _ (Val.Qb bF) rfl), hA 8 2 579 643 1 8 0 0 true Q7j Qd4 ay (Qg3 x0 (av.mk ah)).1 (Qae ay) rfl rfl (by omega), hS 0 true (Q6x (ay ++ [(Qg3 x0 (av.mk ah)).1]) 1 rfl), hP 1 (Q26 i0 (by omega))] [aN (Q2gb x0 (av.mk ah))] hr (by kernel_rfl)
theorem Q138 (p1 : Val) (p2 : BA) (o0 : av) (H : Qe8 p1 p2 o0) : ∀ (r0 : List Val) (i0 : Nat) (ah : Int) (ay : List Int), List.drop i0 (Qx (Q9 p1 p2 o0).1 4 (Q9 p1 p2 o0).2).1.list = r0 → List.length ay ≤ i0 → Qjt p1 p2 o0 (Qi0 p1 p2 o0 i0 ah ay) (Q6s p1 p2 o0 r0 i0 ah ay)
 | [], i0, ah, ay, hd, aP => by
  have bC : (decide ((i0 : Int) < ((List.length (Qx (Q9 p1 p2 o0).1 4 (Q9 p1 p2 o0).2).1.list) : Int))) = false := by have := Q1o hd; simp; omega
  rw [Q6s]
  exact Q1eq p1 p2 o0 H i0 ah ay aP bC
 | x0 :: r0, i0, ah, ay, hd, aP => by
  obtain ⟨bF, bR, hd'⟩ := Q1p hd
  have bC : (decide ((i0 : Int) < ((List.length (Qx (Q9 p1 p2 o0).1 4 (Q9 p1 p2 o0).2).1.list) : Int))) = true := by simp; omega
  rw [Q6s]
  exact Qxo p1 p2 o0 (fun r hr => Q1cg p1 p2 o0 H x0 i0 ah ay bF bR aP bC hr) _ (Q138 p1 p2 o0 H r0 _ _ _ hd' (by first | omega | (simp; omega)))
def Qpy (p1 : Val) (p2 : BA) (o0 : av) : List Int × av := ((dE xN p1 p2).1, bp o0 (pE (cK 2) p1 p2))
theorem Q19r (p1 : Val) (p2 : BA) (o0 : av) : ∀ (l : List Val) (i : Nat) (b : Int) (a : List Int), Q6s p1 p2 o0 l i b a = (bw b (sumC (cK 2) l), a ++ l.map (fun x => (xN x).1))
  | [], _, b, a => by rw [Q6s]; simp [sumC, bw]
  | x :: l, i, b, a => by
    rw [Q6s]
    refine (Q19r p1 p2 o0 l (i + 1) (bw b ((cK 2) x)) (a ++ [(xN x).1])).trans ?_
    rw [Qd2]
    simp only [List.append_assoc, List.singleton_append, List.map_cons, sumC]
theorem Q2d2 (p1 : Val) (p2 : BA) (o0 : av) : Qpy p1 p2 o0 = (((Q6s p1 p2 o0 (Qx (Q9 p1 p2 o0).1 4 (Q9 p1 p2 o0).2).1.list 0 (Qx (Q9 p1 p2 o0).1 4 (Q9 p1 p2 o0).2).2.bN []).2, (av.mk (Q6s p1 p2 o0 (Qx (Q9 p1 p2 o0).1 4 (Q9 p1 p2 o0).2).1.list 0 (Qx (Q9 p1 p2 o0).1 4 (Q9 p1 p2 o0).2).2.bN []).1))) := by
  rw [Q19r]
  unfold Q9 Qx Qpy
  simp only [Q7w, getL, Qaj, Qd2]
  rfl
def Q29z (p1 : Val) (p2 : BA) (o0 : av) : En := .call 197 [.bx 0 0, .agg (Val.cells p1), .str p2, .fn 198 [] [.bx 1 0]] [⟨1, 0, false, (av.cells o0)⟩, ⟨1, 0, false, [.bx 0 0]⟩]
def Q2ed (_p1 : Val) (_p2 : BA) (_o0 : av) (q0 : List Int) (q1 : av) : Rs := .ret (.sl (Q43 q0)) [⟨1, 0, false, (av.cells q1)⟩, ⟨1, 0, false, [.bx 0 0]⟩]
def Q1z7 (p1 : Val) (p2 : BA) (o0 : av) : Rs := Q2ed p1 p2 o0 (Qpy p1 p2 o0).1 (Qpy p1 p2 o0).2
def Q1qh (p1 : Val) : Prop := Val.Sm 1000000000 p1
theorem Q187 (p1 : Val) (p2 : BA) (o0 : av) (H : Q1qh p1) : (Qcc p1) ∧ (Qe8 p1 p2 o0) ∧ True := by
  have hl := Q71 (Qg H p2)
  refine ⟨H, ?_, trivial⟩
  unfold Qe8 Q9 Qx
  simp only [getL]
  exact ⟨Nat.le_trans hl.1 (Nat.le_of_ble_eq_true rfl), trivial⟩
theorem Q2gj (p1 : Val) (p2 : BA) (o0 : av) (H : Q1qh p1) : Q0 G (Q29z p1 p2 o0) (Q1z7 p1 p2 o0) := by
 unfold Q1z7
 rw [Q2d2]
 have hl0 := Q138 p1 p2 o0 ((Q187 p1 p2 o0 H).2.1) (Qx (Q9 p1 p2 o0).1 4 (Q9 p1 p2 o0).2).1.list 0 (Qx (Q9 p1 p2 o0).1 4 (Q9 p1 p2 o0).2).2.bN [] (by simp) (by simp)
 obtain ⟨z0, fA, hl0⟩ := hl0
 exact Q7 (fn := Ir.K6p) (by kernel_rfl) (h := [⟨1, 0, false, (av.cells o0)⟩, ⟨1, 0, false, [.bx 0 0]⟩]) (vw := []) VOK.nil [hP 10 (Qs _ _ (Val.Q5 (Qx (Q9 p1 p2 o0).1 4 (Q9 p1 p2 o0).2).1.list)), hS 0 true (Q6x (Q6s p1 p2 o0 (Qx (Q9 p1 p2 o0).1 4 (Q9 p1 p2 o0).2).1.list 0 (Qx (Q9 p1 p2 o0).1 4 (Q9 p1 p2 o0).2).2.bN []).2 1 rfl), hQ (Q7j (Q6s p1 p2 o0 (Qx (Q9 p1 p2 o0).1 4 (Q9 p1 p2 o0).2).1.list 0 (Qx (Q9 p1 p2 o0).1 4 (Q9 p1 p2 o0).2).2.bN []).2).symm] [aN (Qar p1 p2 o0 (Q187 p1 p2 o0 H).1), aN (Qaq (Q9 p1 p2 o0).1 4 (Q9 p1 p2 o0).2), aV [(2, Q43 (Q6s p1 p2 o0 (Qx (Q9 p1 p2 o0).1 4 (Q9 p1 p2 o0).2).1.list 0 (Qx (Q9 p1 p2 o0).1 4 (Q9 p1 p2 o0).2).2.bN []).2)] hl0] (by kernel_rfl)
def Qpe (p1 : Val) (p2 : BA) (o0 : av) : List Int × av := ((dE xN p1 p2).1, bp o0 (pE (cK 2) p1 p2))
theorem Q2cm (p1 : Val) (p2 : BA) (o0 : av) : Qpe p1 p2 o0 = (((Qpy p1 p2 o0).1, (Qpy p1 p2 o0).2)) := by
  rfl
def Q29j (p1 : Val) (p2 : BA) (o0 : av) : En := .call 106 [.bx 0 0, .agg (Val.cells p1), .str p2] [⟨1, 0, false, (av.cells o0)⟩]
def Q2dx (_p1 : Val) (_p2 : BA) (_o0 : av) (q0 : List Int) (q1 : av) : Rs := .ret (.sl (Q43 q0)) [⟨1, 0, false, (av.cells q1)⟩]
def Q1yr (p1 : Val) (p2 : BA) (o0 : av) : Rs := Q2dx p1 p2 o0 (Qpe p1 p2 o0).1 (Qpe p1 p2 o0).2
def Q1q9 (p1 : Val) : Prop := Val.Sm 1000000000 p1
theorem Q1m6 (p1 : Val) (_p2 : BA) (_o0 : av) (H : Q1q9 p1) : (Q1qh p1) ∧ True := by
  repeat' with_reducible apply And.intro
  all_goals first | exact True.intro | exact H
theorem Q2ga (p1 : Val) (p2 : BA) (o0 : av) (H : Q1q9 p1) : Q0 G (Q29j p1 p2 o0) (Q1yr p1 p2 o0) := by
 unfold Q1yr
 rw [Q2cm]
 exact Q7 (fn := Ir.K63) (by kernel_rfl) (h := [⟨1, 0, false, (av.cells o0)⟩]) (vw := []) VOK.nil [] [aN (Q2gj p1 p2 o0 (Q1m6 p1 p2 o0 H).1)] (by kernel_rfl)
def Qpz (p1 : bW) (o0 : av) : bW × Int :=
 bif (decide (0 < o0.bN)) then
  ((bW.mk (bJ.mk eB eB eB 0 0 0 0 false 0 [] [] [] []) 0 0 0 0 false false (aY.mk [] (bn.mk eB 0 0 0 [] [] [] [] [] [])) 0 0 0 0 0 [] 0), 6)
 else
  (p1, 0)
def Q2a3 (p1 : bW) (o0 : av) : En := .call 107 [.bx 0 0, .agg (bW.cells p1)] [⟨1, 0, false, (av.cells o0)⟩]
def Q2eh (_p1 : bW) (o0 : av) (q0 : bW) (q1 : Int) : Rs := .ret (.tup [.agg (bW.cells q0), iN q1]) [⟨1, 0, false, (av.cells o0)⟩]
def Q1zb (p1 : bW) (o0 : av) : Rs := Q2eh p1 o0 (Qpz p1 o0).1 (Qpz p1 o0).2
theorem Q2gm (p1 : bW) (o0 : av) : Q0 G (Q2a3 p1 o0) (Q1zb p1 o0) := by
 unfold Q1zb Qpz
 cases h0 : (decide (0 < o0.bN)) with
 | true =>
  exact Q7 (fn := Ir.K7b) (by kernel_rfl) (h := [⟨1, 0, false, (av.cells o0)⟩]) (vw := []) VOK.nil [hB 7 h0] [] (by kernel_rfl)
 | false =>
  exact Q7 (fn := Ir.K7b) (by kernel_rfl) (h := [⟨1, 0, false, (av.cells o0)⟩]) (vw := []) VOK.nil [hB 7 h0] [] (by kernel_rfl)
def Qq7 (p0 : aA) : av :=
  (Q67 p0.aO (Q4n p0 Q33)).2
def Qqe (p0 : aA) : av :=
  (Qy p0.aM Q4e (Qq7 p0)).2
def Qql (p0 : aA) : av :=
  (Qy p0.aM Q34 (Qqe p0)).2
def Qqs (p0 : aA) : av :=
  (Qy p0.aM Q2o (Qql p0)).2
def Qqy (p0 : aA) : av :=
  (Qy p0.aM Q3z (Qqs p0)).2
def Qr5 (p0 : aA) : av :=
  (Qy p0.aM Q3k (Qqy p0)).2
def Qrb (p0 : aA) : av :=
  (Qpe p0.aM Q5q (Qr5 p0)).2
def Q15i (p0 : aA) : av :=
  (Qy p0.aM Q4h (Qrb p0)).2
def Q1j7 (p0 : aA) : bW × Int := resC (bW.cnt p0) (bW.of p0) bW.z
theorem Q1qz (n : Nat) (x : bW) : Qpz x (bp ⟨0⟩ n) = resC n x bW.z := rfl
theorem Q2ch (p0 : aA) : Q1j7 p0 = (((Qpz (bW.mk p0.aI (Q67 p0.aO (Q4n p0 Q33)).1.d9 (Q67 p0.aO (Q4n p0 Q33)).1.dD (Q67 p0.aO (Q4n p0 Q33)).1.eX (Q67 p0.aO (Q4n p0 Q33)).1.dz (Q67 p0.aO (Q4n p0 Q33)).1.eU (Q67 p0.aO (Q4n p0 Q33)).1.dh (Q67 p0.aO (Q4n p0 Q33)).1.bA (Qy p0.aM Q4e (Qq7 p0)).1 (Qy p0.aM Q34 (Qqe p0)).1 (Qy p0.aM Q2o (Qql p0)).1 (Qy p0.aM Q3z (Qqs p0)).1 (Qy p0.aM Q3k (Qqy p0)).1 (Qpe p0.aM Q5q (Qr5 p0)).1 (Qy p0.aM Q4h (Qrb p0)).1) (Q15i p0)).1, (Qpz (bW.mk p0.aI (Q67 p0.aO (Q4n p0 Q33)).1.d9 (Q67 p0.aO (Q4n p0 Q33)).1.dD (Q67 p0.aO (Q4n p0 Q33)).1.eX (Q67 p0.aO (Q4n p0 Q33)).1.dz (Q67 p0.aO (Q4n p0 Q33)).1.eU (Q67 p0.aO (Q4n p0 Q33)).1.dh (Q67 p0.aO (Q4n p0 Q33)).1.bA (Qy p0.aM Q4e (Qq7 p0)).1 (Qy p0.aM Q34 (Qqe p0)).1 (Qy p0.aM Q2o (Qql p0)).1 (Qy p0.aM Q3z (Qqs p0)).1 (Qy p0.aM Q3k (Qqy p0)).1 (Qpe p0.aM Q5q (Qr5 p0)).1 (Qy p0.aM Q4h (Qrb p0)).1) (Q15i p0)).2)) := by
  simp only [Qq7, Qqe, Qql, Qqs, Qqy, Qr5, Qrb, Q15i, Qy, Q67, Qpe, Qpz, Q4n, Q7w]
  refine Eq.trans ?_ (Q1qz _ _).symm
  refine Qp6 ?_ rfl
  unfold bW.cnt JobS.cnt
  omega
def Q29e (p0 : aA) : En := .call 23 [.agg (aA.cells p0)] []
def Q1ym (p0 : aA) : Rs := .ret (.tup [.agg (bW.cells (Q1j7 p0).1), iN (Q1j7 p0).2]) []
def Q1kv (p0 : aA) : Prop := Qgp p0.aI ∧ aA.sm p0
theorem Q8b (p0 : aA) (H : Q1kv p0) : (Q1kw p0.aO) ∧ (Qgp p0.aI) ∧ (Qcd p0.aM) ∧ (Q1q9 p0.aM) ∧ True := by
  repeat' with_reducible apply And.intro
  all_goals first | exact True.intro | exact H.1 | exact H.2 | exact H.2.1 | exact H.2.2 | exact Qg H.2.1 _ | exact Qg H.2.2 _
theorem Q2g9 (p0 : aA) (H : Q1kv p0) : Q0 G (Q29e p0) (Q1ym p0) := by
 unfold Q1ym
 rw [Q2ch]
 exact Q7 (fn := Ir.K5r) (by kernel_rfl) VOK.nil [] [aN (Q1ji p0 Q33), aN (Q20v p0.aO (Q4n p0 Q33) (Q8b p0 H).1), aN (Q1jg p0.aI (Q8b p0 H).2.1), aN (Q57 p0.aM Q4e (Qq7 p0) (Q8b p0 H).2.2.1), aN (Q57 p0.aM Q34 (Qqe p0) (Q8b p0 H).2.2.1), aN (Q57 p0.aM Q2o (Qql p0) (Q8b p0 H).2.2.1), aN (Q57 p0.aM Q3z (Qqs p0) (Q8b p0 H).2.2.1), aN (Q57 p0.aM Q3k (Qqy p0) (Q8b p0 H).2.2.1), aN (Q2ga p0.aM Q5q (Qr5 p0) (Q8b p0 H).2.2.2.1), aN (Q57 p0.aM Q4h (Qrb p0) (Q8b p0 H).2.2.1), aN (Q2gm (bW.mk p0.aI (Q67 p0.aO (Q4n p0 Q33)).1.d9 (Q67 p0.aO (Q4n p0 Q33)).1.dD (Q67 p0.aO (Q4n p0 Q33)).1.eX (Q67 p0.aO (Q4n p0 Q33)).1.dz (Q67 p0.aO (Q4n p0 Q33)).1.eU (Q67 p0.aO (Q4n p0 Q33)).1.dh (Q67 p0.aO (Q4n p0 Q33)).1.bA (Qy p0.aM Q4e (Qq7 p0)).1 (Qy p0.aM Q34 (Qqe p0)).1 (Qy p0.aM Q2o (Qql p0)).1 (Qy p0.aM Q3z (Qqs p0)).1 (Qy p0.aM Q3k (Qqy p0)).1 (Qpe p0.aM Q5q (Qr5 p0)).1 (Qy p0.aM Q4h (Qrb p0)).1) (Q15i p0))] (by kernel_rfl)
def Qgv (p0 : Val) (o1 : av) : aR × av := ((aR.dec p0).1, bp o1 (aR.cnt p0))
theorem Q2cd (p0 : Val) (o1 : av) : Qgv p0 o1 = (((aR.mk (Q5e p0 Q12 o1).1 (Qy p0 Q48 (Q5e p0 Q12 o1).2).1), (Qy p0 Q48 (Q5e p0 Q12 o1).2).2)) := by
  simp only [Qy, Q5e, Qgv, Q7w]
  refine Prod.ext rfl (congrArg (bp o1) ?_)
  show aR.cnt p0 = _
  try unfold aR.cnt
  try unfold cM
  first | rfl | omega
def Q29a (p0 : Val) (o1 : av) : En := .call 112 [.agg (Val.cells p0), .bx 0 0] [⟨1, 0, false, [.bx 1 0]⟩, ⟨1, 0, false, (av.cells o1)⟩]
def Q2ds (_p0 : Val) (_o1 : av) (q0 : aR) (q1 : av) : Rs := .ret (.agg (aR.cells q0)) [⟨1, 0, false, [.bx 1 0]⟩, ⟨1, 0, false, (av.cells q1)⟩]
def Q1yi (p0 : Val) (o1 : av) : Rs := Q2ds p0 o1 (Qgv p0 o1).1 (Qgv p0 o1).2
def Q1q7 (p0 : Val) : Prop := Val.Sm 1000000000 p0
theorem Q180 (p0 : Val) (_o1 : av) (H : Q1q7 p0) : (Q146 p0) ∧ (Qcd p0) ∧ True := by
  repeat' with_reducible apply And.intro
  all_goals first | exact True.intro | exact H | exact Qg H _
theorem Q2g5 (p0 : Val) (o1 : av) (H : Q1q7 p0) : Q0 G (Q29a p0 o1) (Q1yi p0 o1) := by
 unfold Q1yi
 rw [Q2cd]
 exact Q7 (fn := Ir.K5k) (by kernel_rfl) (h := [⟨1, 0, false, [.bx 1 0]⟩, ⟨1, 0, false, (av.cells o1)⟩]) (vw := []) VOK.nil [] [aN (Q1cv p0 Q12 o1 (Q180 p0 o1 H).1), aN (Q57 p0 Q48 (Q5e p0 Q12 o1).2 (Q180 p0 o1 H).2.1)] (by kernel_rfl)
def Q6o (p1 : Val) (p2 : BA) (o0 : av) : List Val → Nat → Int → (List aR) → Int × (List aR)
 | [], _i0, ah, ay =>
  (ah, ay)
 | x0 :: r0, i0, ah, ay =>
  Q6o p1 p2 o0 r0 (i0 + 1) (Qgv x0 (av.mk ah)).2.bN (ay ++ [(Qgv x0 (av.mk ah)).1])
def Q1g6 (p1 : Val) (p2 : BA) (o0 : av) (i0 : Nat) (_ah : Int) (ay : List aR) : List PV :=
  [.un, .un, .un, .fn 112 [] [.bx 1 0]] ++ nuns 5 ++ [.ms 2 2 0 (List.length ay)] ++ nuns 8 ++ [.sl (Val.rows (Qx (Q9 p1 p2 o0).1 4 (Q9 p1 p2 o0).2).1.list), iN ((List.length (Qx (Q9 p1 p2 o0).1 4 (Q9 p1 p2 o0).2).1.list) : Int), iN (i0 : Int)] ++ nuns 11
def Q10b (_p1 : Val) (_p2 : BA) (_o0 : av) (_i0 : Nat) (ah : Int) (ay : List aR) : List Ob :=
  [⟨1, 0, false, [iN ah]⟩, ⟨1, 0, false, [.bx 0 0]⟩, ⟨2, 0, true, (aR.rows ay).flatten⟩]
def Qhw (p1 : Val) (p2 : BA) (o0 : av) (i0 : Nat) (ah : Int) (ay : List aR) : En := .loop 2 Ir.Qm0 Ir.Q1ol (Q1g6 p1 p2 o0 i0 ah ay) (Q10b p1 p2 o0 i0 ah ay)
def Qt6 (_p1 : Val) (_p2 : BA) (_o0 : av) (q0 : Int) (q1 : List aR) (z : Nat → PV) (_zo : Nat → List PV) : St :=
  ⟨zr z 0 9 ++ [.ms 2 2 0 (List.length q1)] ++ zr z 10 22, [(0, ⟨1, 0, false, [iN q0]⟩), (1, ⟨1, 0, false, [.bx 0 0]⟩), (2, ⟨2, 0, true, (aR.rows q1).flatten⟩)], 67⟩
theorem Q16p (p1 : Val) (p2 : BA) (o0 : av) (i0 : Nat) (ah : Int) (ay : List aR) : VOK (Go.Pv.look (number 0 (Q10b p1 p2 o0 i0 ah ay))) [(2, aR.rows ay)] := (VOK.cons (show Seen _ _ from Q4a (ob := ⟨2, 0, true, (aR.rows ay).flatten⟩) (aR.Q8 ay 2 rfl)) VOK.nil)
def Qjp (p1 : Val) (p2 : BA) (o0 : av) (e : En) (q : Int × (List aR)) : Prop := ∃ z zo, Q0 G e (.st (.exit 0) (Qt6 p1 p2 o0 q.1 q.2 z zo))
theorem Qxk (p1 : Val) (p2 : BA) (o0 : av) {e e' : En} (h : ∀ r, Q0 G e r → Q0 G e' r) : ∀ q, Qjp p1 p2 o0 e q → Qjp p1 p2 o0 e' q
  | _, ⟨z, zo, hz⟩ => ⟨z, zo, h _ hz⟩
def Qe4 (p1 : Val) (p2 : BA) (o0 : av) : Prop := (List.length (Qx (Q9 p1 p2 o0).1 4 (Q9 p1 p2 o0).2).1.list ≤ 137438953472) ∧ (∀ x0 ∈ (Qx (Q9 p1 p2 o0).1 4 (Q9 p1 p2 o0).2).1.list, Q1q7 x0) ∧ True
def Qv8 (p1 : Val) (p2 : BA) (o0 : av) (i0 : Nat) (_ah : Int) (_ay : List aR) : List PV :=
  [.un, .un, .un, .fn 112 [] [.bx 1 0]] ++ nuns 14 ++ [.sl (Val.rows (Qx (Q9 p1 p2 o0).1 4 (Q9 p1 p2 o0).2).1.list), iN ((List.length (Qx (Q9 p1 p2 o0).1 4 (Q9 p1 p2 o0).2).1.list) : Int), iN (i0 : Int), .bool false]
def Qnw (_p1 : Val) (_p2 : BA) (_o0 : av) (_i0 : Nat) (_ah : Int) (_ay : List aR) : List (Nat × List PV) :=
  []
theorem Q1em (p1 : Val) (p2 : BA) (o0 : av) (_H : Qe4 p1 p2 o0) (i0 : Nat) (ah : Int) (ay : List aR) (_aP : List.length ay ≤ i0) (bC : (decide ((i0 : Int) < ((List.length (Qx (Q9 p1 p2 o0).1 4 (Q9 p1 p2 o0).2).1.list) : Int))) = false) : Qjp p1 p2 o0 (Qhw p1 p2 o0 i0 ah ay) (ah, ay) := by
 exact ⟨(envF (Qv8 p1 p2 o0 i0 ah ay)), (zoF (Qnw p1 p2 o0 i0 ah ay)), Qh (Q16p p1 p2 o0 i0 ah ay) (x := ((.exit 0), Qt6 p1 p2 o0 ah ay (envF (Qv8 p1 p2 o0 i0 ah ay)) (zoF (Qnw p1 p2 o0 i0 ah ay)))) [hB 0 bC] [] (by kernel_rfl)⟩
theorem Q1cc (p1 : Val) (p2 : BA) (o0 : av) (H : Qe4 p1 p2 o0) (x0 : Val) (i0 : Nat) (ah : Int) (ay : List aR) (bF : (Qx (Q9 p1 p2 o0).1 4 (Q9 p1 p2 o0).2).1.list[i0]? = some x0) (bR : i0 < List.length (Qx (Q9 p1 p2 o0).1 4 (Q9 p1 p2 o0).2).1.list) (aP : List.length ay ≤ i0) (bC : (decide ((i0 : Int) < ((List.length (Qx (Q9 p1 p2 o0).1 4 (Q9 p1 p2 o0).2).1.list) : Int))) = true) {r : Rs} (hr : Q0 G (Qhw p1 p2 o0 (i0 + 1) (Qgv x0 (av.mk ah)).2.bN (ay ++ [(Qgv x0 (av.mk ah)).1])) r) : Q0 G (Qhw p1 p2 o0 i0 ah ay) r := by
 have hB0 := H.1
 exact Qc (Q16p p1 p2 o0 i0 ah ay) [hB 0 bC, hP 0 (Q1l 5 _ i0 _ (Val.Qb bF) rfl), hA 8 2 579 643 2 24 0 0 true aR.Q5 aR.Q1n ay (Qgv x0 (av.mk ah)).1 (aR.Qw ay) rfl rfl (by omega), hS 0 true (aR.Q8 (ay ++ [(Qgv x0 (av.mk ah)).1]) 2 rfl), hP 1 (Q26 i0 (by omega))] [aN (Q2g5 x0 (av.mk ah) (H.2.1 x0 (Q1i bF)))] hr (by kernel_rfl)
theorem Q134 (p1 : Val) (p2 : BA) (o0 : av) (H : Qe4 p1 p2 o0) : ∀ (r0 : List Val) (i0 : Nat) (ah : Int) (ay : List aR), List.drop i0 (Qx (Q9 p1 p2 o0).1 4 (Q9 p1 p2 o0).2).1.list = r0 → List.length ay ≤ i0 → Qjp p1 p2 o0 (Qhw p1 p2 o0 i0 ah ay) (Q6o p1 p2 o0 r0 i0 ah ay)
 | [], i0, ah, ay, hd, aP => by
  have bC : (decide ((i0 : Int) < ((List.length (Qx (Q9 p1 p2 o0).1 4 (Q9 p1 p2 o0).2).1.list) : Int))) = false := by have := Q1o hd; simp; omega
  rw [Q6o]
  exact Q1em p1 p2 o0 H i0 ah ay aP bC
 | x0 :: r0, i0, ah, ay, hd, aP => by
  obtain ⟨bF, bR, hd'⟩ := Q1p hd
  have bC : (decide ((i0 : Int) < ((List.length (Qx (Q9 p1 p2 o0).1 4 (Q9 p1 p2 o0).2).1.list) : Int))) = true := by simp; omega
  rw [Q6o]
  exact Qxk p1 p2 o0 (fun r hr => Q1cc p1 p2 o0 H x0 i0 ah ay bF bR aP bC hr) _ (Q134 p1 p2 o0 H r0 _ _ _ hd' (by first | omega | (simp; omega)))
def Qpx (p1 : Val) (p2 : BA) (o0 : av) : List aR × av := ((dE aR.dec p1 p2).1, bp o0 (pE (aR.cnt) p1 p2))
theorem Q19n (p1 : Val) (p2 : BA) (o0 : av) : ∀ (l : List Val) (i : Nat) (b : Int) (a : List aR), Q6o p1 p2 o0 l i b a = (bw b (sumC (aR.cnt) l), a ++ l.map (fun x => (aR.dec x).1))
  | [], _, b, a => by rw [Q6o]; simp [sumC, bw]
  | x :: l, i, b, a => by
    rw [Q6o]
    refine (Q19n p1 p2 o0 l (i + 1) (bw b ((aR.cnt) x)) (a ++ [(aR.dec x).1])).trans ?_
    rw [Qd2]
    simp only [List.append_assoc, List.singleton_append, List.map_cons, sumC]
theorem Q2cy (p1 : Val) (p2 : BA) (o0 : av) : Qpx p1 p2 o0 = (((Q6o p1 p2 o0 (Qx (Q9 p1 p2 o0).1 4 (Q9 p1 p2 o0).2).1.list 0 (Qx (Q9 p1 p2 o0).1 4 (Q9 p1 p2 o0).2).2.bN []).2, (av.mk (Q6o p1 p2 o0 (Qx (Q9 p1 p2 o0).1 4 (Q9 p1 p2 o0).2).1.list 0 (Qx (Q9 p1 p2 o0).1 4 (Q9 p1 p2 o0).2).2.bN []).1))) := by
  rw [Q19n]
  unfold Q9 Qx Qpx
  simp only [Q7w, getL, Qaj, Qd2]
  rfl
def Q29v (p1 : Val) (p2 : BA) (o0 : av) : En := .call 111 [.bx 0 0, .agg (Val.cells p1), .str p2, .fn 112 [] [.bx 1 0]] [⟨1, 0, false, (av.cells o0)⟩, ⟨1, 0, false, [.bx 0 0]⟩]
def Q2e9 (_p1 : Val) (_p2 : BA) (_o0 : av) (q0 : List aR) (q1 : av) : Rs := .ret (.sl (aR.rows q0)) [⟨1, 0, false, (av.cells q1)⟩, ⟨1, 0, false, [.bx 0 0]⟩]
def Q1z3 (p1 : Val) (p2 : BA) (o0 : av) : Rs := Q2e9 p1 p2 o0 (Qpx p1 p2 o0).1 (Qpx p1 p2 o0).2
def Q1qd (p1 : Val) : Prop := Val.Sm 1000000000 p1
theorem Q183 (p1 : Val) (p2 : BA) (o0 : av) (H : Q1qd p1) : (Qcc p1) ∧ (Qe4 p1 p2 o0) ∧ True := by
  have hl := Q71 (Qg H p2)
  refine ⟨H, ?_, trivial⟩
  unfold Qe4 Q9 Qx
  simp only [getL]
  exact ⟨Nat.le_trans hl.1 (Nat.le_of_ble_eq_true rfl), hl.2, trivial⟩
theorem Q2gg (p1 : Val) (p2 : BA) (o0 : av) (H : Q1qd p1) : Q0 G (Q29v p1 p2 o0) (Q1z3 p1 p2 o0) := by
 unfold Q1z3
 rw [Q2cy]
 have hl0 := Q134 p1 p2 o0 ((Q183 p1 p2 o0 H).2.1) (Qx (Q9 p1 p2 o0).1 4 (Q9 p1 p2 o0).2).1.list 0 (Qx (Q9 p1 p2 o0).1 4 (Q9 p1 p2 o0).2).2.bN [] (by simp) (by simp)
 obtain ⟨z0, fA, hl0⟩ := hl0
 exact Q7 (fn := Ir.K6i) (by kernel_rfl) (h := [⟨1, 0, false, (av.cells o0)⟩, ⟨1, 0, false, [.bx 0 0]⟩]) (vw := []) VOK.nil [hP 10 (Qs _ _ (Val.Q5 (Qx (Q9 p1 p2 o0).1 4 (Q9 p1 p2 o0).2).1.list)), hS 0 true (aR.Q8 (Q6o p1 p2 o0 (Qx (Q9 p1 p2 o0).1 4 (Q9 p1 p2 o0).2).1.list 0 (Qx (Q9 p1 p2 o0).1 4 (Q9 p1 p2 o0).2).2.bN []).2 2 rfl), hQ (aR.Q5 (Q6o p1 p2 o0 (Qx (Q9 p1 p2 o0).1 4 (Q9 p1 p2 o0).2).1.list 0 (Qx (Q9 p1 p2 o0).1 4 (Q9 p1 p2 o0).2).2.bN []).2).symm] [aN (Qar p1 p2 o0 (Q183 p1 p2 o0 H).1), aN (Qaq (Q9 p1 p2 o0).1 4 (Q9 p1 p2 o0).2), aV [(2, aR.rows (Q6o p1 p2 o0 (Qx (Q9 p1 p2 o0).1 4 (Q9 p1 p2 o0).2).1.list 0 (Qx (Q9 p1 p2 o0).1 4 (Q9 p1 p2 o0).2).2.bN []).2)] hl0] (by kernel_rfl)
def Qpd (p0 : Val) (o1 : av) : aL × av := ((aL.dec p0).1, bp o1 (aL.cnt p0))
theorem Q2ce (p0 : Val) (o1 : av) : Qpd p0 o1 = (((Q6h p0 o1).1, (Q6h p0 o1).2)) := by
  rfl
def Q29b (p0 : Val) (o1 : av) : En := .call 113 [.agg (Val.cells p0), .bx 0 0] [⟨1, 0, false, [.bx 1 0]⟩, ⟨1, 0, false, (av.cells o1)⟩]
def Q2dt (_p0 : Val) (_o1 : av) (q0 : aL) (q1 : av) : Rs := .ret (.agg (aL.cells q0)) [⟨1, 0, false, [.bx 1 0]⟩, ⟨1, 0, false, (av.cells q1)⟩]
def Q1yj (p0 : Val) (o1 : av) : Rs := Q2dt p0 o1 (Qpd p0 o1).1 (Qpd p0 o1).2
def Q1q8 (p0 : Val) : Prop := Val.Sm 1000000000 p0
theorem Q1m4 (p0 : Val) (_o1 : av) (H : Q1q8 p0) : (Q145 p0) ∧ True := by
  repeat' with_reducible apply And.intro
  all_goals first | exact True.intro | exact H
theorem Q2g6 (p0 : Val) (o1 : av) (H : Q1q8 p0) : Q0 G (Q29b p0 o1) (Q1yj p0 o1) := by
 unfold Q1yj
 rw [Q2ce]
 exact Q7 (fn := Ir.K5l) (by kernel_rfl) (h := [⟨1, 0, false, [.bx 1 0]⟩, ⟨1, 0, false, (av.cells o1)⟩]) (vw := []) VOK.nil [] [aN (Q1jh p0 o1 (Q1m4 p0 o1 H).1)] (by kernel_rfl)
def Q6p (p1 : Val) (p2 : BA) (o0 : av) : List Val → Nat → Int → (List aL) → Int × (List aL)
 | [], _i0, ah, ay =>
  (ah, ay)
 | x0 :: r0, i0, ah, ay =>
  Q6p p1 p2 o0 r0 (i0 + 1) (Qpd x0 (av.mk ah)).2.bN (ay ++ [(Qpd x0 (av.mk ah)).1])
def Q1g7 (p1 : Val) (p2 : BA) (o0 : av) (i0 : Nat) (_ah : Int) (ay : List aL) : List PV :=
  [.un, .un, .un, .fn 113 [] [.bx 1 0]] ++ nuns 5 ++ [.ms 2 2 0 (List.length ay)] ++ nuns 8 ++ [.sl (Val.rows (Qx (Q9 p1 p2 o0).1 4 (Q9 p1 p2 o0).2).1.list), iN ((List.length (Qx (Q9 p1 p2 o0).1 4 (Q9 p1 p2 o0).2).1.list) : Int), iN (i0 : Int)] ++ nuns 11
def Q10c (_p1 : Val) (_p2 : BA) (_o0 : av) (_i0 : Nat) (ah : Int) (ay : List aL) : List Ob :=
  [⟨1, 0, false, [iN ah]⟩, ⟨1, 0, false, [.bx 0 0]⟩, ⟨2, 0, true, (aL.rows ay).flatten⟩]
def Qhx (p1 : Val) (p2 : BA) (o0 : av) (i0 : Nat) (ah : Int) (ay : List aL) : En := .loop 2 Ir.Qm1 Ir.Q1om (Q1g7 p1 p2 o0 i0 ah ay) (Q10c p1 p2 o0 i0 ah ay)
def Qt7 (_p1 : Val) (_p2 : BA) (_o0 : av) (q0 : Int) (q1 : List aL) (z : Nat → PV) (_zo : Nat → List PV) : St :=
  ⟨zr z 0 9 ++ [.ms 2 2 0 (List.length q1)] ++ zr z 10 22, [(0, ⟨1, 0, false, [iN q0]⟩), (1, ⟨1, 0, false, [.bx 0 0]⟩), (2, ⟨2, 0, true, (aL.rows q1).flatten⟩)], 67⟩
theorem Q16q (p1 : Val) (p2 : BA) (o0 : av) (i0 : Nat) (ah : Int) (ay : List aL) : VOK (Go.Pv.look (number 0 (Q10c p1 p2 o0 i0 ah ay))) [(2, aL.rows ay)] := (VOK.cons (show Seen _ _ from Q4a (ob := ⟨2, 0, true, (aL.rows ay).flatten⟩) (aL.Q8 ay 2 rfl)) VOK.nil)
def Qjq (p1 : Val) (p2 : BA) (o0 : av) (e : En) (q : Int × (List aL)) : Prop := ∃ z zo, Q0 G e (.st (.exit 0) (Qt7 p1 p2 o0 q.1 q.2 z zo))
theorem Qxl (p1 : Val) (p2 : BA) (o0 : av) {e e' : En} (h : ∀ r, Q0 G e r → Q0 G e' r) : ∀ q, Qjq p1 p2 o0 e q → Qjq p1 p2 o0 e' q
  | _, ⟨z, zo, hz⟩ => ⟨z, zo, h _ hz⟩
def Qe5 (p1 : Val) (p2 : BA) (o0 : av) : Prop := (List.length (Qx (Q9 p1 p2 o0).1 4 (Q9 p1 p2 o0).2).1.list ≤ 137438953472) ∧ (∀ x0 ∈ (Qx (Q9 p1 p2 o0).1 4 (Q9 p1 p2 o0).2).1.list, Q1q8 x0) ∧ True
def Qv9 (p1 : Val) (p2 : BA) (o0 : av) (i0 : Nat) (_ah : Int) (_ay : List aL) : List PV :=
  [.un, .un, .un, .fn 113 [] [.bx 1 0]] ++ nuns 14 ++ [.sl (Val.rows (Qx (Q9 p1 p2 o0).1 4 (Q9 p1 p2 o0).2).1.list), iN ((List.length (Qx (Q9 p1 p2 o0).1 4 (Q9 p1 p2 o0).2).1.list) : Int), iN (i0 : Int), .bool false]
def Qnx (_p1 : Val) (_p2 : BA) (_o0 : av) (_i0 : Nat) (_ah : Int) (_ay : List aL) : List (Nat × List PV) :=
  []
theorem Q1en (p1 : Val) (p2 : BA) (o0 : av) (_H : Qe5 p1 p2 o0) (i0 : Nat) (ah : Int) (ay : List aL) (_aP : List.length ay ≤ i0) (bC : (decide ((i0 : Int) < ((List.length (Qx (Q9 p1 p2 o0).1 4 (Q9 p1 p2 o0).2).1.list) : Int))) = false) : Qjq p1 p2 o0 (Qhx p1 p2 o0 i0 ah ay) (ah, ay) := by
 exact ⟨(envF (Qv9 p1 p2 o0 i0 ah ay)), (zoF (Qnx p1 p2 o0 i0 ah ay)), Qh (Q16q p1 p2 o0 i0 ah ay) (x := ((.exit 0), Qt7 p1 p2 o0 ah ay (envF (Qv9 p1 p2 o0 i0 ah ay)) (zoF (Qnx p1 p2 o0 i0 ah ay)))) [hB 0 bC] [] (by kernel_rfl)⟩
theorem Q1cd (p1 : Val) (p2 : BA) (o0 : av) (H : Qe5 p1 p2 o0) (x0 : Val) (i0 : Nat) (ah : Int) (ay : List aL) (bF : (Qx (Q9 p1 p2 o0).1 4 (Q9 p1 p2 o0).2).1.list[i0]? = some x0) (bR : i0 < List.length (Qx (Q9 p1 p2 o0).1 4 (Q9 p1 p2 o0).2).1.list) (aP : List.length ay ≤ i0) (bC : (decide ((i0 : Int) < ((List.length (Qx (Q9 p1 p2 o0).1 4 (Q9 p1 p2 o0).2).1.list) : Int))) = true) {r : Rs} (hr : Q0 G (Qhx p1 p2 o0 (i0 + 1) (Qpd x0 (av.mk ah)).2.bN (ay ++ [(Qpd x0 (av.mk ah)).1])) r) : Q0 G (Qhx p1 p2 o0 i0 ah ay) r := by
 have hB0 := H.1
 exact Qc (Q16q p1 p2 o0 i0 ah ay) [hB 0 bC, hP 0 (Q1l 5 _ i0 _ (Val.Qb bF) rfl), hA 8 2 579 643 2 16 0 0 true aL.Q5 aL.Q1n ay (Qpd x0 (av.mk ah)).1 (aL.Qw ay) rfl rfl (by omega), hS 0 true (aL.Q8 (ay ++ [(Qpd x0 (av.mk ah)).1]) 2 rfl), hP 1 (Q26 i0 (by omega))] [aN (Q2g6 x0 (av.mk ah) (H.2.1 x0 (Q1i bF)))] hr (by kernel_rfl)
theorem Q135 (p1 : Val) (p2 : BA) (o0 : av) (H : Qe5 p1 p2 o0) : ∀ (r0 : List Val) (i0 : Nat) (ah : Int) (ay : List aL), List.drop i0 (Qx (Q9 p1 p2 o0).1 4 (Q9 p1 p2 o0).2).1.list = r0 → List.length ay ≤ i0 → Qjq p1 p2 o0 (Qhx p1 p2 o0 i0 ah ay) (Q6p p1 p2 o0 r0 i0 ah ay)
 | [], i0, ah, ay, hd, aP => by
  have bC : (decide ((i0 : Int) < ((List.length (Qx (Q9 p1 p2 o0).1 4 (Q9 p1 p2 o0).2).1.list) : Int))) = false := by have := Q1o hd; simp; omega
  rw [Q6p]
  exact Q1en p1 p2 o0 H i0 ah ay aP bC
 | x0 :: r0, i0, ah, ay, hd, aP => by
  obtain ⟨bF, bR, hd'⟩ := Q1p hd
  have bC : (decide ((i0 : Int) < ((List.length (Qx (Q9 p1 p2 o0).1 4 (Q9 p1 p2 o0).2).1.list) : Int))) = true := by simp; omega
  rw [Q6p]
  exact Qxl p1 p2 o0 (fun r hr => Q1cd p1 p2 o0 H x0 i0 ah ay bF bR aP bC hr) _ (Q135 p1 p2 o0 H r0 _ _ _ hd' (by first | omega | (simp; omega)))
def Qff (p1 : Val) (p2 : BA) (o0 : av) : List aL × av := ((dE aL.dec p1 p2).1, bp o0 (pE (aL.cnt) p1 p2))
theorem Q19o (p1 : Val) (p2 : BA) (o0 : av) : ∀ (l : List Val) (i : Nat) (b : Int) (a : List aL), Q6p p1 p2 o0 l i b a = (bw b (sumC (aL.cnt) l), a ++ l.map (fun x => (aL.dec x).1))
  | [], _, b, a => by rw [Q6p]; simp [sumC, bw]
  | x :: l, i, b, a => by
    rw [Q6p]
    refine (Q19o p1 p2 o0 l (i + 1) (bw b ((aL.cnt) x)) (a ++ [(aL.dec x).1])).trans ?_
    rw [Qd2]
    simp only [List.append_assoc, List.singleton_append, List.map_cons, sumC]
theorem Q2cz (p1 : Val) (p2 : BA) (o0 : av) : Qff p1 p2 o0 = (((Q6p p1 p2 o0 (Qx (Q9 p1 p2 o0).1 4 (Q9 p1 p2 o0).2).1.list 0 (Qx (Q9 p1 p2 o0).1 4 (Q9 p1 p2 o0).2).2.bN []).2, (av.mk (Q6p p1 p2 o0 (Qx (Q9 p1 p2 o0).1 4 (Q9 p1 p2 o0).2).1.list 0 (Qx (Q9 p1 p2 o0).1 4 (Q9 p1 p2 o0).2).2.bN []).1))) := by
  rw [Q19o]
  unfold Q9 Qx Qff
  simp only [Q7w, getL, Qaj, Qd2]
  rfl
def Q29w (p1 : Val) (p2 : BA) (o0 : av) : En := .call 115 [.bx 0 0, .agg (Val.cells p1), .str p2, .fn 113 [] [.bx 1 0]] [⟨1, 0, false, (av.cells o0)⟩, ⟨1, 0, false, [.bx 0 0]⟩]
def Q2ea (_p1 : Val) (_p2 : BA) (_o0 : av) (q0 : List aL) (q1 : av) : Rs := .ret (.sl (aL.rows q0)) [⟨1, 0, false, (av.cells q1)⟩, ⟨1, 0, false, [.bx 0 0]⟩]
def Q1z4 (p1 : Val) (p2 : BA) (o0 : av) : Rs := Q2ea p1 p2 o0 (Qff p1 p2 o0).1 (Qff p1 p2 o0).2
def Q1qe (p1 : Val) : Prop := Val.Sm 1000000000 p1
theorem Q184 (p1 : Val) (p2 : BA) (o0 : av) (H : Q1qe p1) : (Qcc p1) ∧ (Qe5 p1 p2 o0) ∧ True := by
  have hl := Q71 (Qg H p2)
  refine ⟨H, ?_, trivial⟩
  unfold Qe5 Q9 Qx
  simp only [getL]
  exact ⟨Nat.le_trans hl.1 (Nat.le_of_ble_eq_true rfl), hl.2, trivial⟩
theorem Q20y (p1 : Val) (p2 : BA) (o0 : av) (H : Q1qe p1) : Q0 G (Q29w p1 p2 o0) (Q1z4 p1 p2 o0) := by
 unfold Q1z4
 rw [Q2cz]
 have hl0 := Q135 p1 p2 o0 ((Q184 p1 p2 o0 H).2.1) (Qx (Q9 p1 p2 o0).1 4 (Q9 p1 p2 o0).2).1.list 0 (Qx (Q9 p1 p2 o0).1 4 (Q9 p1 p2 o0).2).2.bN [] (by simp) (by simp)
 obtain ⟨z0, fA, hl0⟩ := hl0
 exact Q7 (fn := Ir.K6j) (by kernel_rfl) (h := [⟨1, 0, false, (av.cells o0)⟩, ⟨1, 0, false, [.bx 0 0]⟩]) (vw := []) VOK.nil [hP 10 (Qs _ _ (Val.Q5 (Qx (Q9 p1 p2 o0).1 4 (Q9 p1 p2 o0).2).1.list)), hS 0 true (aL.Q8 (Q6p p1 p2 o0 (Qx (Q9 p1 p2 o0).1 4 (Q9 p1 p2 o0).2).1.list 0 (Qx (Q9 p1 p2 o0).1 4 (Q9 p1 p2 o0).2).2.bN []).2 2 rfl), hQ (aL.Q5 (Q6p p1 p2 o0 (Qx (Q9 p1 p2 o0).1 4 (Q9 p1 p2 o0).2).1.list 0 (Qx (Q9 p1 p2 o0).1 4 (Q9 p1 p2 o0).2).2.bN []).2).symm] [aN (Qar p1 p2 o0 (Q184 p1 p2 o0 H).1), aN (Qaq (Q9 p1 p2 o0).1 4 (Q9 p1 p2 o0).2), aV [(2, aL.rows (Q6p p1 p2 o0 (Qx (Q9 p1 p2 o0).1 4 (Q9 p1 p2 o0).2).1.list 0 (Qx (Q9 p1 p2 o0).1 4 (Q9 p1 p2 o0).2).2.bN []).2)] hl0] (by kernel_rfl)
def Q13r (p1 : aT) (o0 : av) : aT × Int :=
 bif (decide (0 < o0.bN)) then
  ((aT.mk (bJ.mk eB eB eB 0 0 0 0 false 0 [] [] [] []) [] [] [] 0 0 0 0 0 []), 6)
 else
  (p1, 0)
def Q2a4 (p1 : aT) (o0 : av) : En := .call 114 [.bx 0 0, .agg (aT.cells p1)] [⟨1, 0, false, (av.cells o0)⟩]
def Q2ei (_p1 : aT) (o0 : av) (q0 : aT) (q1 : Int) : Rs := .ret (.tup [.agg (aT.cells q0), iN q1]) [⟨1, 0, false, (av.cells o0)⟩]
def Q1zc (p1 : aT) (o0 : av) : Rs := Q2ei p1 o0 (Q13r p1 o0).1 (Q13r p1 o0).2
theorem Q2gn (p1 : aT) (o0 : av) : Q0 G (Q2a4 p1 o0) (Q1zc p1 o0) := by
 unfold Q1zc Q13r
 cases h0 : (decide (0 < o0.bN)) with
 | true =>
  exact Q7 (fn := Ir.K7c) (by kernel_rfl) (h := [⟨1, 0, false, (av.cells o0)⟩]) (vw := []) VOK.nil [hB 7 h0] [] (by kernel_rfl)
 | false =>
  exact Q7 (fn := Ir.K7c) (by kernel_rfl) (h := [⟨1, 0, false, (av.cells o0)⟩]) (vw := []) VOK.nil [hB 7 h0] [] (by kernel_rfl)
def Qq4 (p0 : aA) : av :=
  (Qpx p0.aM Q11 (Q4n p0 Q2u)).2
def Qqb (p0 : aA) : av :=
  (Q91 p0.aO (Qq4 p0)).2
def Qqi (p0 : aA) : av :=
  (Qff p0.aO Q29 (Qqb p0)).2
def Qqp (p0 : aA) : av :=
  (Qff p0.aO Q1s (Qqi p0)).2
def Qqw (p0 : aA) : av :=
  (Qy p0.aM Qr (Qqp p0)).2
def Qr2 (p0 : aA) : av :=
  (Qy p0.aM Q3r (Qqw p0)).2
def Qr8 (p0 : aA) : av :=
  (Qy p0.aM Q3q (Qr2 p0)).2
def Qrd (p0 : aA) : av :=
  (Qy p0.aM Q37 (Qr8 p0)).2
def Q15j (p0 : aA) : av :=
  (Qy p0.aM Q3p (Qrd p0)).2
def Q1j4 (p0 : aA) : aT × Int := resC (aT.cnt p0) (aT.of p0) aT.z
theorem Q1ck (n : Nat) (x : aT) : Q13r x (bp ⟨0⟩ n) = resC n x aT.z := rfl
theorem Q2cc (p0 : aA) : Q1j4 p0 = (((Q13r (aT.mk p0.aI (Q91 p0.aO (Qq4 p0)).1 (Qff p0.aO Q29 (Qqb p0)).1 (Qff p0.aO Q1s (Qqi p0)).1 (Qy p0.aM Qr (Qqp p0)).1 (Qy p0.aM Q3r (Qqw p0)).1 (Qy p0.aM Q3q (Qr2 p0)).1 (Qy p0.aM Q37 (Qr8 p0)).1 (Qy p0.aM Q3p (Qrd p0)).1 (Qpx p0.aM Q11 (Q4n p0 Q2u)).1) (Q15j p0)).1, (Q13r (aT.mk p0.aI (Q91 p0.aO (Qq4 p0)).1 (Qff p0.aO Q29 (Qqb p0)).1 (Qff p0.aO Q1s (Qqi p0)).1 (Qy p0.aM Qr (Qqp p0)).1 (Qy p0.aM Q3r (Qqw p0)).1 (Qy p0.aM Q3q (Qr2 p0)).1 (Qy p0.aM Q37 (Qr8 p0)).1 (Qy p0.aM Q3p (Qrd p0)).1 (Qpx p0.aM Q11 (Q4n p0 Q2u)).1) (Q15j p0)).2)) := by
  simp only [Qq4, Qqb, Qqi, Qqp, Qqw, Qr2, Qr8, Qrd, Q15j, Qy, Q91, Qpx, Qff, Q13r, Q4n, Q7w]
  refine Eq.trans ?_ (Q1ck _ _).symm
  refine Qp6 ?_ rfl
  unfold aT.cnt
  omega
def Q299 (p0 : aA) : En := .call 25 [.agg (aA.cells p0)] []
def Q1yh (p0 : aA) : Rs := .ret (.tup [.agg (aT.cells (Q1j4 p0).1), iN (Q1j4 p0).2]) []
def Q1ks (p0 : aA) : Prop := Qgp p0.aI ∧ aA.sm p0
theorem Q7q (p0 : aA) (H : Q1ks p0) : (Q1qd p0.aM) ∧ (Qgp p0.aI) ∧ (Q1kx p0.aO) ∧ (Q1qe p0.aO) ∧ (Qcd p0.aM) ∧ True := by
  repeat' with_reducible apply And.intro
  all_goals first | exact True.intro | exact H.1 | exact H.2 | exact H.2.1 | exact H.2.2 | exact Qg H.2.1 _ | exact Qg H.2.2 _
theorem Q2g4 (p0 : aA) (H : Q1ks p0) : Q0 G (Q299 p0) (Q1yh p0) := by
 unfold Q1yh
 rw [Q2cc]
 exact Q7 (fn := Ir.K5j) (by kernel_rfl) VOK.nil [] [aN (Q1ji p0 Q2u), aN (Q2gg p0.aM Q11 (Q4n p0 Q2u) (Q7q p0 H).1), aN (Q1jg p0.aI (Q7q p0 H).2.1), aN (Q20w p0.aO (Qq4 p0) (Q7q p0 H).2.2.1), aN (Q20y p0.aO Q29 (Qqb p0) (Q7q p0 H).2.2.2.1), aN (Q20y p0.aO Q1s (Qqi p0) (Q7q p0 H).2.2.2.1), aN (Q57 p0.aM Qr (Qqp p0) (Q7q p0 H).2.2.2.2.1), aN (Q57 p0.aM Q3r (Qqw p0) (Q7q p0 H).2.2.2.2.1), aN (Q57 p0.aM Q3q (Qr2 p0) (Q7q p0 H).2.2.2.2.1), aN (Q57 p0.aM Q37 (Qr8 p0) (Q7q p0 H).2.2.2.2.1), aN (Q57 p0.aM Q3p (Qrd p0) (Q7q p0 H).2.2.2.2.1), aN (Q2gn (aT.mk p0.aI (Q91 p0.aO (Qq4 p0)).1 (Qff p0.aO Q29 (Qqb p0)).1 (Qff p0.aO Q1s (Qqi p0)).1 (Qy p0.aM Qr (Qqp p0)).1 (Qy p0.aM Q3r (Qqw p0)).1 (Qy p0.aM Q3q (Qr2 p0)).1 (Qy p0.aM Q37 (Qr8 p0)).1 (Qy p0.aM Q3p (Qrd p0)).1 (Qpx p0.aM Q11 (Q4n p0 Q2u)).1) (Q15j p0))] (by kernel_rfl)
def Q2ev (p1 : eu) (o0 : av) : eu × Int :=
 bif (decide (0 < o0.bN)) then
  ((eu.mk (bJ.mk eB eB eB 0 0 0 0 false 0 [] [] [] []) 0 0 0 false [] (aY.mk [] (bn.mk eB 0 0 0 [] [] [] [] [] [])) (bf.mk 0 0 0 0 0 0 false)), 6)
 else
  (p1, 0)
def Q2ew (p1 : fq) (o0 : av) : fq × Int :=
 bif (decide (0 < o0.bN)) then
  ((fq.mk (bJ.mk eB eB eB 0 0 0 0 false 0 [] [] [] []) 0 (aL.mk false 0) [] (aY.mk [] (bn.mk eB 0 0 0 [] [] [] [] [] [])) (bf.mk 0 0 0 0 0 0 false)), 6)
 else
  (p1, 0)
def Q2ep (p0 : Val) (o1 : av) : bP × av := ((bP.dec p0).1, bp o1 (bP.cnt p0))
def Q2eu (p1 : Val) (p2 : BA) (o0 : av) : List bP × av := ((dE bP.dec p1 p2).1, bp o0 (pE (bP.cnt) p1 p2))
def Q2eo (p1 : Val) (o0 : av) : List bP × av := ((dE bP.dec p1 Qaf).1, bp o0 (pE bP.cnt p1 Qaf))
def Q2ex (p1 : fV) (o0 : av) : fV × Int :=
 bif (decide (0 < o0.bN)) then
  ((fV.mk (bJ.mk eB eB eB 0 0 0 0 false 0 [] [] [] []) [] [] false 0), 6)
 else
  (p1, 0)
def Q2el (p0 : Val) (o1 : av) : dH × av := ((dH.dec p0).1, bp o1 (dH.cnt p0))
def Q2er (p1 : Val) (p2 : BA) (o0 : av) : List dH × av := ((dE dH.dec p1 p2).1, bp o0 (pE (dH.cnt) p1 p2))
def Q2ey (p1 : dZ) (o0 : av) : dZ × Int :=
 bif (decide (0 < o0.bN)) then
  ((dZ.mk (bJ.mk eB eB eB 0 0 0 0 false 0 [] [] [] []) [] []), 6)
 else
  (p1, 0)
end Go.Proofs.YtimjjohlpnkacaaGreat
end

section
/- What the program's decoders compute (printed by a program). -/
namespace Go.Proofs.YtimjjohlpnkacaaGreat
open Go.Pv
def Q2en (p0 : Val) (o1 : av) : gu × av := ((gu.dec p0).1, bp o1 (gu.cnt p0))
def Q2et (p1 : Val) (p2 : BA) (o0 : av) : List gu × av := ((dE gu.dec p1 p2).1, bp o0 (pE (gu.cnt) p1 p2))
def Q2em (p0 : Val) (o1 : av) : cB × av := ((cB.dec p0).1, bp o1 (cB.cnt p0))
def Q2es (p1 : Val) (p2 : BA) (o0 : av) : List cB × av := ((dE cB.dec p1 p2).1, bp o0 (pE (cB.cnt) p1 p2))
def Q2ez (p1 : dO) (o0 : av) : dO × Int :=
 bif (decide (0 < o0.bN)) then
  ((dO.mk (bJ.mk eB eB eB 0 0 0 0 false 0 [] [] [] []) [] false false []), 6)
 else
  (p1, 0)
def Q2eq (p1 : Val) (o0 : av) : bq × av := ((bq.dec p1).1, bp o0 (bq.cnt p1))
def Q2f0 (p1 : iC) (o0 : av) : iC × Int :=
 bif (decide (0 < o0.bN)) then
  ((iC.mk (bJ.mk eB eB eB 0 0 0 0 false 0 [] [] [] []) (bq.mk 0 0 0) (bq.mk 0 0 0) 0 0), 6)
 else
  (p1, 0)
def Q158 (p1 : aS) (o0 : av) : aS × Int :=
 bif (decide (0 < o0.bN)) then
  ((aS.mk (bJ.mk eB eB eB 0 0 0 0 false 0 [] [] [] []) eB 0 0 0 false (bW.mk (bJ.mk eB eB eB 0 0 0 0 false 0 [] [] [] []) 0 0 0 0 false false (aY.mk [] (bn.mk eB 0 0 0 [] [] [] [] [] [])) 0 0 0 0 0 [] 0) 0), 6)
 else
  (p1, 0)
def Q2a5 (p1 : aS) (o0 : av) : En := .call 160 [.bx 0 0, .agg (aS.cells p1)] [⟨1, 0, false, (av.cells o0)⟩]
def Q2ej (_p1 : aS) (o0 : av) (q0 : aS) (q1 : Int) : Rs := .ret (.tup [.agg (aS.cells q0), iN q1]) [⟨1, 0, false, (av.cells o0)⟩]
def Q1zd (p1 : aS) (o0 : av) : Rs := Q2ej p1 o0 (Q158 p1 o0).1 (Q158 p1 o0).2
theorem Q2go (p1 : aS) (o0 : av) : Q0 G (Q2a5 p1 o0) (Q1zd p1 o0) := by
 unfold Q1zd Q158
 cases h0 : (decide (0 < o0.bN)) with
 | true =>
  exact Q7 (fn := Ir.K7j) (by kernel_rfl) (h := [⟨1, 0, false, (av.cells o0)⟩]) (vw := []) VOK.nil [hB 7 h0] [] (by kernel_rfl)
 | false =>
  exact Q7 (fn := Ir.K7j) (by kernel_rfl) (h := [⟨1, 0, false, (av.cells o0)⟩]) (vw := []) VOK.nil [hB 7 h0] [] (by kernel_rfl)
def Qq5 (p0 : aA) : av :=
  (Q5e p0.aO Q3d (Q4n p0 Q2a)).2
def Qqc (p0 : aA) : av :=
  (Qy p0.aO Q49 (Qq5 p0)).2
def Qqj (p0 : aA) : av :=
  (Qy p0.aO Q2m (Qqc p0)).2
def Qqq (p0 : aA) : av :=
  (Qy p0.aO Q3c (Qqj p0)).2
def Qdg (p0 : aA) : av :=
  (Q53 p0.aO Q19 (Qqq p0)).2
def Qr3 (p0 : aA) : av :=
  (Q9 p0.aO Q72 (Qdg p0)).2
def Qr9 (p0 : aA) : av :=
  (Q67 (Q9 p0.aO Q72 (Qdg p0)).1 (Qr3 p0)).2
def Q15h (p0 : aA) : av :=
  (Qy p0.aM Q5d (Qr9 p0)).2
def Q1j5 (p0 : aA) : aS × Int := resC (aS.cnt p0) (aS.of p0) aS.z
theorem Q152 (n : Nat) (x : aS) : Q158 x (bp ⟨0⟩ n) = resC n x aS.z := rfl
theorem Q2cf (p0 : aA) : Q1j5 p0 = (((Q158 (aS.mk p0.aI (Q5e p0.aO Q3d (Q4n p0 Q2a)).1 (Qy p0.aO Q49 (Qq5 p0)).1 (Qy p0.aO Q2m (Qqc p0)).1 (Qy p0.aO Q3c (Qqj p0)).1 (Q53 p0.aO Q19 (Qqq p0)).1 (Q67 (Q9 p0.aO Q72 (Qdg p0)).1 (Qr3 p0)).1 (Qy p0.aM Q5d (Qr9 p0)).1) (Q15h p0)).1, (Q158 (aS.mk p0.aI (Q5e p0.aO Q3d (Q4n p0 Q2a)).1 (Qy p0.aO Q49 (Qq5 p0)).1 (Qy p0.aO Q2m (Qqc p0)).1 (Qy p0.aO Q3c (Qqj p0)).1 (Q53 p0.aO Q19 (Qqq p0)).1 (Q67 (Q9 p0.aO Q72 (Qdg p0)).1 (Qr3 p0)).1 (Qy p0.aM Q5d (Qr9 p0)).1) (Q15h p0)).2)) := by
  simp only [Qq5, Qqc, Qqj, Qqq, Qdg, Qr3, Qr9, Q15h, Q9, Qy, Q5e, Q53, Q67, Q158, Q4n, Q7w]
  refine Eq.trans ?_ (Q152 _ _).symm
  refine Qp6 ?_ rfl
  unfold aS.cnt JobS.fC
  omega
def Q29c (p0 : aA) : En := .call 49 [.agg (aA.cells p0)] []
def Q1yk (p0 : aA) : Rs := .ret (.tup [.agg (aS.cells (Q1j5 p0).1), iN (Q1j5 p0).2]) []
def Q1kt (p0 : aA) : Prop := Qgp p0.aI ∧ aA.sm p0
theorem Q8a (p0 : aA) (H : Q1kt p0) : (Qgp p0.aI) ∧ (Q146 p0.aO) ∧ (Qcd p0.aO) ∧ (Q147 p0.aO) ∧ (Qcc p0.aO) ∧ (Q1kw (Q9 p0.aO Q72 (Qdg p0)).1) ∧ (Qcd p0.aM) ∧ True := by
  repeat' with_reducible apply And.intro
  all_goals first | exact True.intro | exact H.1 | exact H.2 | exact H.2.1 | exact H.2.2 | exact Qg H.2.1 _ | exact Qg H.2.2 _
theorem Q2g7 (p0 : aA) (H : Q1kt p0) : Q0 G (Q29c p0) (Q1yk p0) := by
 unfold Q1yk
 rw [Q2cf]
 exact Q7 (fn := Ir.K5m) (by kernel_rfl) VOK.nil [] [aN (Q1ji p0 Q2a), aN (Q1jg p0.aI (Q8a p0 H).1), aN (Q1cv p0.aO Q3d (Q4n p0 Q2a) (Q8a p0 H).2.1), aN (Q57 p0.aO Q49 (Qq5 p0) (Q8a p0 H).2.2.1), aN (Q57 p0.aO Q2m (Qqc p0) (Q8a p0 H).2.2.1), aN (Q57 p0.aO Q3c (Qqj p0) (Q8a p0 H).2.2.1), aN (Q15d p0.aO Q19 (Qqq p0) (Q8a p0 H).2.2.2.1), aN (Qar p0.aO Q72 (Qdg p0) (Q8a p0 H).2.2.2.2.1), aN (Q20v (Q9 p0.aO Q72 (Qdg p0)).1 (Qr3 p0) (Q8a p0 H).2.2.2.2.2.1), aN (Q57 p0.aM Q5d (Qr9 p0) (Q8a p0 H).2.2.2.2.2.2.1), aN (Q2go (aS.mk p0.aI (Q5e p0.aO Q3d (Q4n p0 Q2a)).1 (Qy p0.aO Q49 (Qq5 p0)).1 (Qy p0.aO Q2m (Qqc p0)).1 (Qy p0.aO Q3c (Qqj p0)).1 (Q53 p0.aO Q19 (Qqq p0)).1 (Q67 (Q9 p0.aO Q72 (Qdg p0)).1 (Qr3 p0)).1 (Qy p0.aM Q5d (Qr9 p0)).1) (Q15h p0))] (by kernel_rfl)
end Go.Proofs.YtimjjohlpnkacaaGreat
end

