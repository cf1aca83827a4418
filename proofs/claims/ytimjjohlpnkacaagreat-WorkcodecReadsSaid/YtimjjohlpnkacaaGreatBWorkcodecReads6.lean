/- Texts of the claim, merged by a program; what the statement does not reach is left out. -/
import Derived.Test.YtimjjohlpnkacaaGreatBWorkcodecReads5

section
/- What the program's decoders compute (printed by a program). -/
namespace Go.Proofs.YtimjjohlpnkacaaGreat
open Go.Pv
structure av where
  bR : Int
def av.cells (x : av) : List PV :=
  [iN x.bR]
def av.rows (l : List av) : List (List PV) := l.map av.cells
def bp (o : av) (n : Nat) : av := ⟨bw o.bR n⟩
theorem Q6o (o : av) (a b : Nat) : bp (bp o a) b = bp o (a + b) := by unfold bp; rw [Qce]
theorem Qa7 (o : av) (n : Nat) : (bp o n).bR = bw o.bR n := rfl
def Qu (p1 : Val) (p2 : Int) (o0 : av) : Val × av := (bif p1.kind == p2 then p1 else vZ, bp o0 (cK p2 p1))
theorem Q2ci (p1 : Val) (p2 : Int) (o0 : av) : Qu p1 p2 o0 = (bif (p1.kind == p2) then
    (p1, o0)
  else
    bif (p1.kind == 0) then
      ((Val.mk 0 0 eB [] []), o0)
    else
      ((Val.mk 0 0 eB [] []), (av.mk (w64 (o0.bR + 1))))) := by
  obtain ⟨w⟩ := o0
  unfold Qu bp cK nb
  cases (p1.kind == p2) <;> cases (p1.kind == 0) <;> rfl
def Q295 (p1 : Val) (p2 : Int) (o0 : av) : En := .call 174 [.bx 0 0, .agg (Val.cells p1), iN p2] [⟨1, 0, false, (av.cells o0)⟩]
def Q2dt (_p1 : Val) (_p2 : Int) (_o0 : av) (q0 : Val) (q1 : av) : Rs := .ret (.agg (Val.cells q0)) [⟨1, 0, false, (av.cells q1)⟩]
def Q1y7 (p1 : Val) (p2 : Int) (o0 : av) : Rs := Q2dt p1 p2 o0 (Qu p1 p2 o0).1 (Qu p1 p2 o0).2
theorem Qae (p1 : Val) (p2 : Int) (o0 : av) : Q5 G (Q295 p1 p2 o0) (Q1y7 p1 p2 o0) := by
 unfold Q1y7
 rw [Q2ci]
 cases h0 : (p1.kind == p2) with
 | true =>
  exact Q6 (fn := Ir.K61) (by kernel_rfl) (h := [⟨1, 0, false, (av.cells o0)⟩]) (vw := []) VOK.nil [hB 5 h0] [] (by kernel_rfl)
 | false =>
  cases h1 : (p1.kind == 0) with
  | true =>
   exact Q6 (fn := Ir.K61) (by kernel_rfl) (h := [⟨1, 0, false, (av.cells o0)⟩]) (vw := []) VOK.nil [hB 5 h0, hP 2 (dec (!(p1.kind == 0)) false (by rw [h1]; rfl))] [] (by kernel_rfl)
  | false =>
   exact Q6 (fn := Ir.K61) (by kernel_rfl) (h := [⟨1, 0, false, (av.cells o0)⟩]) (vw := []) VOK.nil [hB 5 h0, hP 2 (dec (!(p1.kind == 0)) true (by rw [h1]; rfl))] [] (by kernel_rfl)
def Q9 (p1 : Val) (p2 : BA) (o0 : av) : Val × av := (prt p1 p2, bp o0 (cM p1))
theorem Q2cj (p1 : Val) (p2 : BA) (o0 : av) : Q9 p1 p2 o0 = (((Qpi (Qu p1 5 o0).1 p2).1, (Qu p1 5 o0).2)) := by
  unfold Q9
  rw [vprt]
  unfold Qu
  cases h : (p1.kind == 5) with
  | true => rfl
  | false => rw [Qf9 h]; rfl
def Q296 (p1 : Val) (p2 : BA) (o0 : av) : En := .call 76 [.bx 0 0, .agg (Val.cells p1), .str p2] [⟨1, 0, false, (av.cells o0)⟩]
def Q2du (_p1 : Val) (_p2 : BA) (_o0 : av) (q0 : Val) (q1 : av) : Rs := .ret (.agg (Val.cells q0)) [⟨1, 0, false, (av.cells q1)⟩]
def Q1y8 (p1 : Val) (p2 : BA) (o0 : av) : Rs := Q2du p1 p2 o0 (Q9 p1 p2 o0).1 (Q9 p1 p2 o0).2
def Qc0 (p1 : Val) : Prop := Val.Sm 1000000000 p1
theorem Q1la (p1 : Val) (p2 : BA) (o0 : av) (H : Qc0 p1) : (Q1jz (Qu p1 5 o0).1 p2) ∧ True := by
  refine ⟨Q1ur ?_ _, trivial⟩
  unfold Qu
  cases (p1.kind == 5) with
  | true => exact H
  | false => exact Qpj
theorem Qc6 (p1 : Val) (p2 : BA) (o0 : av) (H : Qc0 p1) : Q5 G (Q296 p1 p2 o0) (Q1y8 p1 p2 o0) := by
 unfold Q1y8
 rw [Q2cj]
 exact Q6 (fn := Ir.K62) (by kernel_rfl) (h := [⟨1, 0, false, (av.cells o0)⟩]) (vw := []) VOK.nil [] [aN (Qae p1 5 o0), aN (Q1me (Qu p1 5 o0).1 p2 (Q1la p1 p2 o0 H).1)] (by kernel_rfl)
def Q1x (p1 : Val) (p2 : BA) (o0 : av) : Int × av := ((dN p1 p2).1, bp o0 (pK 2 p1 p2))
theorem Q2cm (p1 : Val) (p2 : BA) (o0 : av) : Q1x p1 p2 o0 = (((Qu (Q9 p1 p2 o0).1 2 (Q9 p1 p2 o0).2).1.n, (Qu (Q9 p1 p2 o0).1 2 (Q9 p1 p2 o0).2).2)) := by
  unfold Q1x Q9 Qu
  simp only [Q6o]
  exact Prod.ext (getN (prt p1 p2)).symm rfl
def Q299 (p1 : Val) (p2 : BA) (o0 : av) : En := .call 71 [.bx 0 0, .agg (Val.cells p1), .str p2] [⟨1, 0, false, (av.cells o0)⟩]
def Q2dx (_p1 : Val) (_p2 : BA) (_o0 : av) (q0 : Int) (q1 : av) : Rs := .ret (iN q0) [⟨1, 0, false, (av.cells q1)⟩]
def Q1yb (p1 : Val) (p2 : BA) (o0 : av) : Rs := Q2dx p1 p2 o0 (Q1x p1 p2 o0).1 (Q1x p1 p2 o0).2
def Qde (p1 : Val) : Prop := Val.Sm 1000000000 p1
theorem Q1lc (p1 : Val) (_p2 : BA) (_o0 : av) (H : Qde p1) : (Qc0 p1) ∧ True := by
  exact ⟨H, trivial⟩
theorem Q7y (p1 : Val) (p2 : BA) (o0 : av) (H : Qde p1) : Q5 G (Q299 p1 p2 o0) (Q1yb p1 p2 o0) := by
 unfold Q1yb
 rw [Q2cm]
 exact Q6 (fn := Ir.K66) (by kernel_rfl) (h := [⟨1, 0, false, (av.cells o0)⟩]) (vw := []) VOK.nil [] [aN (Qc6 p1 p2 o0 (Q1lc p1 p2 o0 H).1), aN (Qae (Q9 p1 p2 o0).1 2 (Q9 p1 p2 o0).2)] (by kernel_rfl)
def Q43 (p1 : Val) (p2 : BA) (o0 : av) : ByteArray × av := ((dS p1 p2).1, bp o0 (pK 3 p1 p2))
theorem Q2ct (p1 : Val) (p2 : BA) (o0 : av) : Q43 p1 p2 o0 = (((Qu (Q9 p1 p2 o0).1 3 (Q9 p1 p2 o0).2).1.s, (Qu (Q9 p1 p2 o0).1 3 (Q9 p1 p2 o0).2).2)) := by
  unfold Q43 Q9 Qu
  simp only [Q6o]
  exact Prod.ext (getS (prt p1 p2)).symm rfl
def Q29g (p1 : Val) (p2 : BA) (o0 : av) : En := .call 89 [.bx 0 0, .agg (Val.cells p1), .str p2] [⟨1, 0, false, (av.cells o0)⟩]
def Q2e4 (_p1 : Val) (_p2 : BA) (_o0 : av) (q0 : BA) (q1 : av) : Rs := .ret (.str q0) [⟨1, 0, false, (av.cells q1)⟩]
def Q1yi (p1 : Val) (p2 : BA) (o0 : av) : Rs := Q2e4 p1 p2 o0 (Q43 p1 p2 o0).1 (Q43 p1 p2 o0).2
def Q197 (p1 : Val) : Prop := Val.Sm 1000000000 p1
theorem Q1lf (p1 : Val) (_p2 : BA) (_o0 : av) (H : Q197 p1) : (Qc0 p1) ∧ True := by
  exact ⟨H, trivial⟩
theorem Q1is (p1 : Val) (p2 : BA) (o0 : av) (H : Q197 p1) : Q5 G (Q29g p1 p2 o0) (Q1yi p1 p2 o0) := by
 unfold Q1yi
 rw [Q2ct]
 exact Q6 (fn := Ir.K6d) (by kernel_rfl) (h := [⟨1, 0, false, (av.cells o0)⟩]) (vw := []) VOK.nil [] [aN (Qc6 p1 p2 o0 (Q1lf p1 p2 o0 H).1), aN (Qae (Q9 p1 p2 o0).1 3 (Q9 p1 p2 o0).2)] (by kernel_rfl)
def Q44 (p1 : Val) (p2 : BA) (o0 : av) : Bool × av := ((dB p1 p2).1, bp o0 (pK 1 p1 p2))
theorem Q2cw (p1 : Val) (p2 : BA) (o0 : av) : Q44 p1 p2 o0 = (((!((Qu (Q9 p1 p2 o0).1 1 (Q9 p1 p2 o0).2).1.n == 0)), (Qu (Q9 p1 p2 o0).1 1 (Q9 p1 p2 o0).2).2)) := by
  unfold Q44 Q9 Qu
  simp only [Q6o]
  exact Prod.ext (getB (prt p1 p2)).symm rfl
def Q29j (p1 : Val) (p2 : BA) (o0 : av) : En := .call 74 [.bx 0 0, .agg (Val.cells p1), .str p2] [⟨1, 0, false, (av.cells o0)⟩]
def Q2e7 (_p1 : Val) (_p2 : BA) (_o0 : av) (q0 : Bool) (q1 : av) : Rs := .ret (.bool q0) [⟨1, 0, false, (av.cells q1)⟩]
def Q1yl (p1 : Val) (p2 : BA) (o0 : av) : Rs := Q2e7 p1 p2 o0 (Q44 p1 p2 o0).1 (Q44 p1 p2 o0).2
def Qvj (p1 : Val) : Prop := Val.Sm 1000000000 p1
theorem Q1lg (p1 : Val) (_p2 : BA) (_o0 : av) (H : Qvj p1) : (Qc0 p1) ∧ True := by
  exact ⟨H, trivial⟩
theorem Qyi (p1 : Val) (p2 : BA) (o0 : av) (H : Qvj p1) : Q5 G (Q29j p1 p2 o0) (Q1yl p1 p2 o0) := by
 unfold Q1yl
 rw [Q2cw]
 exact Q6 (fn := Ir.K6g) (by kernel_rfl) (h := [⟨1, 0, false, (av.cells o0)⟩]) (vw := []) VOK.nil [] [aN (Qc6 p1 p2 o0 (Q1lg p1 p2 o0 H).1), aN (Qae (Q9 p1 p2 o0).1 1 (Q9 p1 p2 o0).2)] (by kernel_rfl)
def Q49 (p0 : aD) (p1 : BA) : av := bp ⟨0⟩ (nb (sEq p0.aM.kind p1) + cM p0.aU + cM p0.aZ)
theorem Q2d4 (p0 : aD) (p1 : BA) : Q49 p0 p1 = (bif (sEq p0.aM.kind p1) then
    (Qu p0.aZ 5 (Qu p0.aU 5 (av.mk 0)).2).2
  else
    (Qu p0.aZ 5 (Qu p0.aU 5 (av.mk 1)).2).2) := by
  unfold Q49
  simp only [Qu, Q6o]
  cases sEq p0.aM.kind p1 with
  | true => exact congrArg (bp ⟨0⟩) (by show 0 + cM p0.aU + cM p0.aZ = cK 5 p0.aU + cK 5 p0.aZ; unfold cM; omega)
  | false =>
    refine Eq.trans ?_ (Q6o ⟨0⟩ 1 (cK 5 p0.aU + cK 5 p0.aZ)).symm
    exact congrArg (bp ⟨0⟩) (by show 1 + cM p0.aU + cM p0.aZ = 1 + (cK 5 p0.aU + cK 5 p0.aZ); unfold cM; omega)
def Q29r (p0 : aD) (p1 : BA) : En := .call 68 [.agg (aD.cells p0), .str p1] []
def Q2ef (_p0 : aD) (_p1 : BA) (q0 : av) : Rs := .ret (.bx 0 0) [⟨1, 0, true, (av.cells q0)⟩]
def Q1yt (p0 : aD) (p1 : BA) : Rs := Q2ef p0 p1 (Q49 p0 p1)
theorem Q14c (p0 : aD) (p1 : BA) : Q5 G (Q29r p0 p1) (Q1yt p0 p1) := by
 unfold Q1yt
 rw [Q2d4]
 cases h0 : (sEq p0.aM.kind p1) with
 | true =>
  exact Q6 (fn := Ir.K77) (by kernel_rfl) VOK.nil [hP 9 (dec (!(sEq p0.aM.kind p1)) false (by rw [h0]; rfl))] [aN (Qae p0.aU 5 (av.mk 0)), aN (Qae p0.aZ 5 (Qu p0.aU 5 (av.mk 0)).2)] (by kernel_rfl)
 | false =>
  exact Q6 (fn := Ir.K77) (by kernel_rfl) VOK.nil [hP 9 (dec (!(sEq p0.aM.kind p1)) true (by rw [h0]; rfl))] [aN (Qae p0.aU 5 (av.mk 1)), aN (Qae p0.aZ 5 (Qu p0.aU 5 (av.mk 1)).2)] (by kernel_rfl)
def Q7v (p0 : Val) (o1 : av) : ByteArray × av := ((xS p0).1, bp o1 (cK 3 p0))
theorem Q2cs (p0 : Val) (o1 : av) : Q7v p0 o1 = (((Qu p0 3 o1).1.s, (Qu p0 3 o1).2)) := by
  exact Prod.ext (getS p0).symm rfl
def Q29f (p0 : Val) (o1 : av) : En := .call 182 [.agg (Val.cells p0), .bx 0 0] [⟨1, 0, false, [.bx 1 0]⟩, ⟨1, 0, false, (av.cells o1)⟩]
def Q2e3 (_p0 : Val) (_o1 : av) (q0 : BA) (q1 : av) : Rs := .ret (.str q0) [⟨1, 0, false, [.bx 1 0]⟩, ⟨1, 0, false, (av.cells q1)⟩]
def Q1yh (p0 : Val) (o1 : av) : Rs := Q2e3 p0 o1 (Q7v p0 o1).1 (Q7v p0 o1).2
theorem Q2g6 (p0 : Val) (o1 : av) : Q5 G (Q29f p0 o1) (Q1yh p0 o1) := by
 unfold Q1yh
 rw [Q2cs]
 exact Q6 (fn := Ir.K6c) (by kernel_rfl) (h := [⟨1, 0, false, [.bx 1 0]⟩, ⟨1, 0, false, (av.cells o1)⟩]) (vw := []) VOK.nil [] [aN (Qae p0 3 o1)] (by kernel_rfl)
def Q5z (p1 : Val) (p2 : BA) (o0 : av) : List Val → Nat → Int → (List ByteArray) → Int × (List ByteArray)
 | [], _i0, ah, ay =>
  (ah, ay)
 | x0 :: r0, i0, ah, ay =>
  Q5z p1 p2 o0 r0 (i0 + 1) (Q7v x0 (av.mk ah)).2.bR (ay ++ [(Q7v x0 (av.mk ah)).1])
def Q1fi (p1 : Val) (p2 : BA) (o0 : av) (i0 : Nat) (_ah : Int) (ay : List ByteArray) : List PV :=
  [.un, .un, .un, .fn 182 [] [.bx 1 0]] ++ nuns 5 ++ [.ms 2 1 0 (List.length ay)] ++ nuns 8 ++ [.sl (Val.rows (Qu (Q9 p1 p2 o0).1 4 (Q9 p1 p2 o0).2).1.list), iN ((List.length (Qu (Q9 p1 p2 o0).1 4 (Q9 p1 p2 o0).2).1.list) : Int), iN (i0 : Int)] ++ nuns 11
def Qzr (_p1 : Val) (_p2 : BA) (_o0 : av) (_i0 : Nat) (ah : Int) (ay : List ByteArray) : List Ob :=
  [⟨1, 0, false, [iN ah]⟩, ⟨1, 0, false, [.bx 0 0]⟩, ⟨1, 0, true, (Qz ay).flatten⟩]
def Qh8 (p1 : Val) (p2 : BA) (o0 : av) (i0 : Nat) (ah : Int) (ay : List ByteArray) : En := .loop 2 Ir.Qlk Ir.Q1nx (Q1fi p1 p2 o0 i0 ah ay) (Qzr p1 p2 o0 i0 ah ay)
def Qsh (_p1 : Val) (_p2 : BA) (_o0 : av) (q0 : Int) (q1 : List ByteArray) (z : Nat → PV) (_zo : Nat → List PV) : St :=
  ⟨zr z 0 9 ++ [.ms 2 1 0 (List.length q1)] ++ zr z 10 22, [(0, ⟨1, 0, false, [iN q0]⟩), (1, ⟨1, 0, false, [.bx 0 0]⟩), (2, ⟨1, 0, true, (Qz q1).flatten⟩)], 67⟩
theorem Q15w (p1 : Val) (p2 : BA) (o0 : av) (i0 : Nat) (ah : Int) (ay : List ByteArray) : VOK (Go.Pv.look (number 0 (Qzr p1 p2 o0 i0 ah ay))) [(2, Qz ay)] := (VOK.cons (show Seen _ _ from Q3r (ob := ⟨1, 0, true, (Qz ay).flatten⟩) (Q32 ay 1 rfl)) VOK.nil)
def Qj1 (p1 : Val) (p2 : BA) (o0 : av) (e : En) (q : Int × (List ByteArray)) : Prop := ∃ z zo, Q5 G e (.st (.exit 0) (Qsh p1 p2 o0 q.1 q.2 z zo))
theorem Qwt (p1 : Val) (p2 : BA) (o0 : av) {e e' : En} (h : ∀ r, Q5 G e r → Q5 G e' r) : ∀ q, Qj1 p1 p2 o0 e q → Qj1 p1 p2 o0 e' q
  | _, ⟨z, zo, hz⟩ => ⟨z, zo, h _ hz⟩
def Qdj (p1 : Val) (p2 : BA) (o0 : av) : Prop := (List.length (Qu (Q9 p1 p2 o0).1 4 (Q9 p1 p2 o0).2).1.list ≤ 137438953472) ∧ True
def Quj (p1 : Val) (p2 : BA) (o0 : av) (i0 : Nat) (_ah : Int) (_ay : List ByteArray) : List PV :=
  [.un, .un, .un, .fn 182 [] [.bx 1 0]] ++ nuns 14 ++ [.sl (Val.rows (Qu (Q9 p1 p2 o0).1 4 (Q9 p1 p2 o0).2).1.list), iN ((List.length (Qu (Q9 p1 p2 o0).1 4 (Q9 p1 p2 o0).2).1.list) : Int), iN (i0 : Int), .bool false]
def Qng (_p1 : Val) (_p2 : BA) (_o0 : av) (_i0 : Nat) (_ah : Int) (_ay : List ByteArray) : List (Nat × List PV) :=
  []
theorem Q1dy (p1 : Val) (p2 : BA) (o0 : av) (_H : Qdj p1 p2 o0) (i0 : Nat) (ah : Int) (ay : List ByteArray) (_aR : List.length ay ≤ i0) (bF : (decide ((i0 : Int) < ((List.length (Qu (Q9 p1 p2 o0).1 4 (Q9 p1 p2 o0).2).1.list) : Int))) = false) : Qj1 p1 p2 o0 (Qh8 p1 p2 o0 i0 ah ay) (ah, ay) := by
 exact ⟨(envF (Quj p1 p2 o0 i0 ah ay)), (zoF (Qng p1 p2 o0 i0 ah ay)), Qg (Q15w p1 p2 o0 i0 ah ay) (x := ((.exit 0), Qsh p1 p2 o0 ah ay (envF (Quj p1 p2 o0 i0 ah ay)) (zoF (Qng p1 p2 o0 i0 ah ay)))) [hB 0 bF] [] (by kernel_rfl)⟩
theorem Q1bn (p1 : Val) (p2 : BA) (o0 : av) (H : Qdj p1 p2 o0) (x0 : Val) (i0 : Nat) (ah : Int) (ay : List ByteArray) (bH : (Qu (Q9 p1 p2 o0).1 4 (Q9 p1 p2 o0).2).1.list[i0]? = some x0) (bT : i0 < List.length (Qu (Q9 p1 p2 o0).1 4 (Q9 p1 p2 o0).2).1.list) (aR : List.length ay ≤ i0) (bF : (decide ((i0 : Int) < ((List.length (Qu (Q9 p1 p2 o0).1 4 (Q9 p1 p2 o0).2).1.list) : Int))) = true) {r : Rs} (hr : Q5 G (Qh8 p1 p2 o0 (i0 + 1) (Q7v x0 (av.mk ah)).2.bR (ay ++ [(Q7v x0 (av.mk ah)).1])) r) : Q5 G (Qh8 p1 p2 o0 i0 ah ay) r := by
 have hB0 := H.1
 exact Qc (Q15w p1 p2 o0 i0 ah ay) [hB 0 bF, hP 0 (Q1f 5 _ i0 _ (Val.Qb bH) rfl), hA 8 2 579 643 1 16 0 0 true Q2d Q53 ay (Q7v x0 (av.mk ah)).1 (Q45 ay) rfl rfl (by omega), hS 0 true (Q32 (ay ++ [(Q7v x0 (av.mk ah)).1]) 1 rfl), hP 1 (Q26 i0 (by omega))] [aN (Q2g6 x0 (av.mk ah))] hr (by kernel_rfl)
theorem Q12j (p1 : Val) (p2 : BA) (o0 : av) (H : Qdj p1 p2 o0) : ∀ (r0 : List Val) (i0 : Nat) (ah : Int) (ay : List ByteArray), List.drop i0 (Qu (Q9 p1 p2 o0).1 4 (Q9 p1 p2 o0).2).1.list = r0 → List.length ay ≤ i0 → Qj1 p1 p2 o0 (Qh8 p1 p2 o0 i0 ah ay) (Q5z p1 p2 o0 r0 i0 ah ay)
 | [], i0, ah, ay, hd, aR => by
  have bF : (decide ((i0 : Int) < ((List.length (Qu (Q9 p1 p2 o0).1 4 (Q9 p1 p2 o0).2).1.list) : Int))) = false := by have := Q1n hd; simp; omega
  rw [Q5z]
  exact Q1dy p1 p2 o0 H i0 ah ay aR bF
 | x0 :: r0, i0, ah, ay, hd, aR => by
  obtain ⟨bH, bT, hd'⟩ := Q1o hd
  have bF : (decide ((i0 : Int) < ((List.length (Qu (Q9 p1 p2 o0).1 4 (Q9 p1 p2 o0).2).1.list) : Int))) = true := by simp; omega
  rw [Q5z]
  exact Qwt p1 p2 o0 (fun r hr => Q1bn p1 p2 o0 H x0 i0 ah ay bH bT aR bF hr) _ (Q12j p1 p2 o0 H r0 _ _ _ hd' (by first | omega | (simp; omega)))
def Q77 (p1 : Val) (p2 : BA) (o0 : av) : List ByteArray × av := ((dE xS p1 p2).1, bp o0 (pE (cK 3) p1 p2))
theorem Q18v (p1 : Val) (p2 : BA) (o0 : av) : ∀ (l : List Val) (i : Nat) (b : Int) (a : List ByteArray), Q5z p1 p2 o0 l i b a = (bw b (sumC (cK 3) l), a ++ l.map (fun x => (xS x).1))
  | [], _, b, a => by rw [Q5z]; simp [sumC, bw]
  | x :: l, i, b, a => by
    rw [Q5z]
    refine (Q18v p1 p2 o0 l (i + 1) (bw b ((cK 3) x)) (a ++ [(xS x).1])).trans ?_
    rw [Qce]
    simp only [List.append_assoc, List.singleton_append, List.map_cons, sumC]
theorem Q2d1 (p1 : Val) (p2 : BA) (o0 : av) : Q77 p1 p2 o0 = (((Q5z p1 p2 o0 (Qu (Q9 p1 p2 o0).1 4 (Q9 p1 p2 o0).2).1.list 0 (Qu (Q9 p1 p2 o0).1 4 (Q9 p1 p2 o0).2).2.bR []).2, (av.mk (Q5z p1 p2 o0 (Qu (Q9 p1 p2 o0).1 4 (Q9 p1 p2 o0).2).1.list 0 (Qu (Q9 p1 p2 o0).1 4 (Q9 p1 p2 o0).2).2.bR []).1))) := by
  rw [Q18v]
  unfold Q9 Qu Q77
  simp only [Q6o, getL, Qa7, Qce]
  rfl
def Q29o (p1 : Val) (p2 : BA) (o0 : av) : En := .call 181 [.bx 0 0, .agg (Val.cells p1), .str p2, .fn 182 [] [.bx 1 0]] [⟨1, 0, false, (av.cells o0)⟩, ⟨1, 0, false, [.bx 0 0]⟩]
def Q2ec (_p1 : Val) (_p2 : BA) (_o0 : av) (q0 : List ByteArray) (q1 : av) : Rs := .ret (.sl (Qz q0)) [⟨1, 0, false, (av.cells q1)⟩, ⟨1, 0, false, [.bx 0 0]⟩]
def Q1yq (p1 : Val) (p2 : BA) (o0 : av) : Rs := Q2ec p1 p2 o0 (Q77 p1 p2 o0).1 (Q77 p1 p2 o0).2
def Q1pm (p1 : Val) : Prop := Val.Sm 1000000000 p1
theorem Q17b (p1 : Val) (p2 : BA) (o0 : av) (H : Q1pm p1) : (Qc0 p1) ∧ (Qdj p1 p2 o0) ∧ True := by
  have hl := Q69 (Qp H p2)
  refine ⟨H, ?_, trivial⟩
  unfold Qdj Q9 Qu
  simp only [getL]
  exact ⟨Nat.le_trans hl.1 (Nat.le_of_ble_eq_true rfl), trivial⟩
theorem Q2gb (p1 : Val) (p2 : BA) (o0 : av) (H : Q1pm p1) : Q5 G (Q29o p1 p2 o0) (Q1yq p1 p2 o0) := by
 unfold Q1yq
 rw [Q2d1]
 have hl0 := Q12j p1 p2 o0 ((Q17b p1 p2 o0 H).2.1) (Qu (Q9 p1 p2 o0).1 4 (Q9 p1 p2 o0).2).1.list 0 (Qu (Q9 p1 p2 o0).1 4 (Q9 p1 p2 o0).2).2.bR [] (by simp) (by simp)
 obtain ⟨z0, eG, hl0⟩ := hl0
 exact Q6 (fn := Ir.K6o) (by kernel_rfl) (h := [⟨1, 0, false, (av.cells o0)⟩, ⟨1, 0, false, [.bx 0 0]⟩]) (vw := []) VOK.nil [hP 10 (Qq _ _ (Val.Q7 (Qu (Q9 p1 p2 o0).1 4 (Q9 p1 p2 o0).2).1.list)), hS 0 true (Q32 (Q5z p1 p2 o0 (Qu (Q9 p1 p2 o0).1 4 (Q9 p1 p2 o0).2).1.list 0 (Qu (Q9 p1 p2 o0).1 4 (Q9 p1 p2 o0).2).2.bR []).2 1 rfl), hQ (Q2d (Q5z p1 p2 o0 (Qu (Q9 p1 p2 o0).1 4 (Q9 p1 p2 o0).2).1.list 0 (Qu (Q9 p1 p2 o0).1 4 (Q9 p1 p2 o0).2).2.bR []).2).symm] [aN (Qc6 p1 p2 o0 (Q17b p1 p2 o0 H).1), aN (Qae (Q9 p1 p2 o0).1 4 (Q9 p1 p2 o0).2), aV [(2, Qz (Q5z p1 p2 o0 (Qu (Q9 p1 p2 o0).1 4 (Q9 p1 p2 o0).2).1.list 0 (Qu (Q9 p1 p2 o0).1 4 (Q9 p1 p2 o0).2).2.bR []).2)] hl0] (by kernel_rfl)
def Q7u (p0 : Val) (o1 : av) : aj × av := ((aj.dec p0).1, bp o1 (aj.cnt p0))
theorem Q2cr (p0 : Val) (o1 : av) : Q7u p0 o1 = (((aj.mk (Q43 p0 Q1c (Qu p0 5 (Q77 p0 Q29 o1).2).2).1 (Q1x p0 Q4t (Q43 p0 Q1c (Qu p0 5 (Q77 p0 Q29 o1).2).2).2).1 (Q77 p0 Q29 o1).1), (Q1x p0 Q4t (Q43 p0 Q1c (Qu p0 5 (Q77 p0 Q29 o1).2).2).2).2)) := by
  simp only [Qu, Q1x, Q43, Q77, Q7u, Q6o]
  refine Prod.ext rfl (congrArg (bp o1) ?_)
  show aj.cnt p0 = _
  try unfold aj.cnt
  try unfold cM
  first | rfl | omega
def Q29e (p0 : Val) (o1 : av) : En := .call 180 [.agg (Val.cells p0), .bx 0 0] [⟨1, 0, false, [.bx 1 0]⟩, ⟨1, 0, false, (av.cells o1)⟩]
def Q2e2 (_p0 : Val) (_o1 : av) (q0 : aj) (q1 : av) : Rs := .ret (.agg (aj.cells q0)) [⟨1, 0, false, [.bx 1 0]⟩, ⟨1, 0, false, (av.cells q1)⟩]
def Q1yg (p0 : Val) (o1 : av) : Rs := Q2e2 p0 o1 (Q7u p0 o1).1 (Q7u p0 o1).2
def Q1ph (p0 : Val) : Prop := Val.Sm 1000000000 p0
theorem Qxp (p0 : Val) (_o1 : av) (H : Q1ph p0) : (Q1pm p0) ∧ (Q197 p0) ∧ (Qde p0) ∧ True := by
  repeat' with_reducible apply And.intro
  all_goals first | exact True.intro | exact H | exact Qp H _
theorem Q2g5 (p0 : Val) (o1 : av) (H : Q1ph p0) : Q5 G (Q29e p0 o1) (Q1yg p0 o1) := by
 unfold Q1yg
 rw [Q2cr]
 exact Q6 (fn := Ir.K6b) (by kernel_rfl) (h := [⟨1, 0, false, [.bx 1 0]⟩, ⟨1, 0, false, (av.cells o1)⟩]) (vw := []) VOK.nil [] [aN (Q2gb p0 Q29 o1 (Qxp p0 o1 H).1), aN (Qae p0 5 (Q77 p0 Q29 o1).2), aN (Q1is p0 Q1c (Qu p0 5 (Q77 p0 Q29 o1).2).2 (Qxp p0 o1 H).2.1), aN (Q7y p0 Q4t (Q43 p0 Q1c (Qu p0 5 (Q77 p0 Q29 o1).2).2).2 (Qxp p0 o1 H).2.2.1)] (by kernel_rfl)
def Q5y (p1 : Val) (p2 : BA) (o0 : av) : List Val → Nat → Int → (List aj) → Int × (List aj)
 | [], _i0, ah, ay =>
  (ah, ay)
 | x0 :: r0, i0, ah, ay =>
  Q5y p1 p2 o0 r0 (i0 + 1) (Q7u x0 (av.mk ah)).2.bR (ay ++ [(Q7u x0 (av.mk ah)).1])
def Q1fh (p1 : Val) (p2 : BA) (o0 : av) (i0 : Nat) (_ah : Int) (ay : List aj) : List PV :=
  [.un, .un, .un, .fn 180 [] [.bx 1 0]] ++ nuns 5 ++ [.ms 2 3 0 (List.length ay)] ++ nuns 8 ++ [.sl (Val.rows (Qu (Q9 p1 p2 o0).1 4 (Q9 p1 p2 o0).2).1.list), iN ((List.length (Qu (Q9 p1 p2 o0).1 4 (Q9 p1 p2 o0).2).1.list) : Int), iN (i0 : Int)] ++ nuns 11
def Qzq (_p1 : Val) (_p2 : BA) (_o0 : av) (_i0 : Nat) (ah : Int) (ay : List aj) : List Ob :=
  [⟨1, 0, false, [iN ah]⟩, ⟨1, 0, false, [.bx 0 0]⟩, ⟨3, 0, true, (aj.rows ay).flatten⟩]
def Qh7 (p1 : Val) (p2 : BA) (o0 : av) (i0 : Nat) (ah : Int) (ay : List aj) : En := .loop 2 Ir.Qlj Ir.Q1nw (Q1fh p1 p2 o0 i0 ah ay) (Qzq p1 p2 o0 i0 ah ay)
def Qsg (_p1 : Val) (_p2 : BA) (_o0 : av) (q0 : Int) (q1 : List aj) (z : Nat → PV) (_zo : Nat → List PV) : St :=
  ⟨zr z 0 9 ++ [.ms 2 3 0 (List.length q1)] ++ zr z 10 22, [(0, ⟨1, 0, false, [iN q0]⟩), (1, ⟨1, 0, false, [.bx 0 0]⟩), (2, ⟨3, 0, true, (aj.rows q1).flatten⟩)], 67⟩
theorem Q15v (p1 : Val) (p2 : BA) (o0 : av) (i0 : Nat) (ah : Int) (ay : List aj) : VOK (Go.Pv.look (number 0 (Qzq p1 p2 o0 i0 ah ay))) [(2, aj.rows ay)] := (VOK.cons (show Seen _ _ from Q3r (ob := ⟨3, 0, true, (aj.rows ay).flatten⟩) (aj.Q8 ay 3 rfl)) VOK.nil)
def Qj0 (p1 : Val) (p2 : BA) (o0 : av) (e : En) (q : Int × (List aj)) : Prop := ∃ z zo, Q5 G e (.st (.exit 0) (Qsg p1 p2 o0 q.1 q.2 z zo))
theorem Qws (p1 : Val) (p2 : BA) (o0 : av) {e e' : En} (h : ∀ r, Q5 G e r → Q5 G e' r) : ∀ q, Qj0 p1 p2 o0 e q → Qj0 p1 p2 o0 e' q
  | _, ⟨z, zo, hz⟩ => ⟨z, zo, h _ hz⟩
def Qdi (p1 : Val) (p2 : BA) (o0 : av) : Prop := (List.length (Qu (Q9 p1 p2 o0).1 4 (Q9 p1 p2 o0).2).1.list ≤ 137438953472) ∧ (∀ x0 ∈ (Qu (Q9 p1 p2 o0).1 4 (Q9 p1 p2 o0).2).1.list, Q1ph x0) ∧ True
def Qui (p1 : Val) (p2 : BA) (o0 : av) (i0 : Nat) (_ah : Int) (_ay : List aj) : List PV :=
  [.un, .un, .un, .fn 180 [] [.bx 1 0]] ++ nuns 14 ++ [.sl (Val.rows (Qu (Q9 p1 p2 o0).1 4 (Q9 p1 p2 o0).2).1.list), iN ((List.length (Qu (Q9 p1 p2 o0).1 4 (Q9 p1 p2 o0).2).1.list) : Int), iN (i0 : Int), .bool false]
def Qnf (_p1 : Val) (_p2 : BA) (_o0 : av) (_i0 : Nat) (_ah : Int) (_ay : List aj) : List (Nat × List PV) :=
  []
theorem Q1dx (p1 : Val) (p2 : BA) (o0 : av) (_H : Qdi p1 p2 o0) (i0 : Nat) (ah : Int) (ay : List aj) (_aR : List.length ay ≤ i0) (bF : (decide ((i0 : Int) < ((List.length (Qu (Q9 p1 p2 o0).1 4 (Q9 p1 p2 o0).2).1.list) : Int))) = false) : Qj0 p1 p2 o0 (Qh7 p1 p2 o0 i0 ah ay) (ah, ay) := by
 exact ⟨(envF (Qui p1 p2 o0 i0 ah ay)), (zoF (Qnf p1 p2 o0 i0 ah ay)), Qg (Q15v p1 p2 o0 i0 ah ay) (x := ((.exit 0), Qsg p1 p2 o0 ah ay (envF (Qui p1 p2 o0 i0 ah ay)) (zoF (Qnf p1 p2 o0 i0 ah ay)))) [hB 0 bF] [] (by kernel_rfl)⟩
theorem Q1bm (p1 : Val) (p2 : BA) (o0 : av) (H : Qdi p1 p2 o0) (x0 : Val) (i0 : Nat) (ah : Int) (ay : List aj) (bH : (Qu (Q9 p1 p2 o0).1 4 (Q9 p1 p2 o0).2).1.list[i0]? = some x0) (bT : i0 < List.length (Qu (Q9 p1 p2 o0).1 4 (Q9 p1 p2 o0).2).1.list) (aR : List.length ay ≤ i0) (bF : (decide ((i0 : Int) < ((List.length (Qu (Q9 p1 p2 o0).1 4 (Q9 p1 p2 o0).2).1.list) : Int))) = true) {r : Rs} (hr : Q5 G (Qh7 p1 p2 o0 (i0 + 1) (Q7u x0 (av.mk ah)).2.bR (ay ++ [(Q7u x0 (av.mk ah)).1])) r) : Q5 G (Qh7 p1 p2 o0 i0 ah ay) r := by
 have hB0 := H.1
 exact Qc (Q15v p1 p2 o0 i0 ah ay) [hB 0 bF, hP 0 (Q1f 5 _ i0 _ (Val.Qb bH) rfl), hA 8 2 579 643 3 48 0 0 true aj.Q7 aj.Q1l ay (Q7u x0 (av.mk ah)).1 (aj.Qt ay) rfl rfl (by omega), hS 0 true (aj.Q8 (ay ++ [(Q7u x0 (av.mk ah)).1]) 3 rfl), hP 1 (Q26 i0 (by omega))] [aN (Q2g5 x0 (av.mk ah) (H.2.1 x0 (Q15 bH)))] hr (by kernel_rfl)
theorem Q12i (p1 : Val) (p2 : BA) (o0 : av) (H : Qdi p1 p2 o0) : ∀ (r0 : List Val) (i0 : Nat) (ah : Int) (ay : List aj), List.drop i0 (Qu (Q9 p1 p2 o0).1 4 (Q9 p1 p2 o0).2).1.list = r0 → List.length ay ≤ i0 → Qj0 p1 p2 o0 (Qh7 p1 p2 o0 i0 ah ay) (Q5y p1 p2 o0 r0 i0 ah ay)
 | [], i0, ah, ay, hd, aR => by
  have bF : (decide ((i0 : Int) < ((List.length (Qu (Q9 p1 p2 o0).1 4 (Q9 p1 p2 o0).2).1.list) : Int))) = false := by have := Q1n hd; simp; omega
  rw [Q5y]
  exact Q1dx p1 p2 o0 H i0 ah ay aR bF
 | x0 :: r0, i0, ah, ay, hd, aR => by
  obtain ⟨bH, bT, hd'⟩ := Q1o hd
  have bF : (decide ((i0 : Int) < ((List.length (Qu (Q9 p1 p2 o0).1 4 (Q9 p1 p2 o0).2).1.list) : Int))) = true := by simp; omega
  rw [Q5y]
  exact Qws p1 p2 o0 (fun r hr => Q1bm p1 p2 o0 H x0 i0 ah ay bH bT aR bF hr) _ (Q12i p1 p2 o0 H r0 _ _ _ hd' (by first | omega | (simp; omega)))
def Q9g (p1 : Val) (p2 : BA) (o0 : av) : List aj × av := ((dE aj.dec p1 p2).1, bp o0 (pE (aj.cnt) p1 p2))
theorem Q18u (p1 : Val) (p2 : BA) (o0 : av) : ∀ (l : List Val) (i : Nat) (b : Int) (a : List aj), Q5y p1 p2 o0 l i b a = (bw b (sumC (aj.cnt) l), a ++ l.map (fun x => (aj.dec x).1))
  | [], _, b, a => by rw [Q5y]; simp [sumC, bw]
  | x :: l, i, b, a => by
    rw [Q5y]
    refine (Q18u p1 p2 o0 l (i + 1) (bw b ((aj.cnt) x)) (a ++ [(aj.dec x).1])).trans ?_
    rw [Qce]
    simp only [List.append_assoc, List.singleton_append, List.map_cons, sumC]
theorem Q2d0 (p1 : Val) (p2 : BA) (o0 : av) : Q9g p1 p2 o0 = (((Q5y p1 p2 o0 (Qu (Q9 p1 p2 o0).1 4 (Q9 p1 p2 o0).2).1.list 0 (Qu (Q9 p1 p2 o0).1 4 (Q9 p1 p2 o0).2).2.bR []).2, (av.mk (Q5y p1 p2 o0 (Qu (Q9 p1 p2 o0).1 4 (Q9 p1 p2 o0).2).1.list 0 (Qu (Q9 p1 p2 o0).1 4 (Q9 p1 p2 o0).2).2.bR []).1))) := by
  rw [Q18u]
  unfold Q9 Qu Q9g
  simp only [Q6o, getL, Qa7, Qce]
  rfl
def Q29n (p1 : Val) (p2 : BA) (o0 : av) : En := .call 179 [.bx 0 0, .agg (Val.cells p1), .str p2, .fn 180 [] [.bx 1 0]] [⟨1, 0, false, (av.cells o0)⟩, ⟨1, 0, false, [.bx 0 0]⟩]
def Q2eb (_p1 : Val) (_p2 : BA) (_o0 : av) (q0 : List aj) (q1 : av) : Rs := .ret (.sl (aj.rows q0)) [⟨1, 0, false, (av.cells q1)⟩, ⟨1, 0, false, [.bx 0 0]⟩]
def Q1yp (p1 : Val) (p2 : BA) (o0 : av) : Rs := Q2eb p1 p2 o0 (Q9g p1 p2 o0).1 (Q9g p1 p2 o0).2
def Q1pl (p1 : Val) : Prop := Val.Sm 1000000000 p1
theorem Q17a (p1 : Val) (p2 : BA) (o0 : av) (H : Q1pl p1) : (Qc0 p1) ∧ (Qdi p1 p2 o0) ∧ True := by
  have hl := Q69 (Qp H p2)
  refine ⟨H, ?_, trivial⟩
  unfold Qdi Q9 Qu
  simp only [getL]
  exact ⟨Nat.le_trans hl.1 (Nat.le_of_ble_eq_true rfl), hl.2, trivial⟩
theorem Q2ga (p1 : Val) (p2 : BA) (o0 : av) (H : Q1pl p1) : Q5 G (Q29n p1 p2 o0) (Q1yp p1 p2 o0) := by
 unfold Q1yp
 rw [Q2d0]
 have hl0 := Q12i p1 p2 o0 ((Q17a p1 p2 o0 H).2.1) (Qu (Q9 p1 p2 o0).1 4 (Q9 p1 p2 o0).2).1.list 0 (Qu (Q9 p1 p2 o0).1 4 (Q9 p1 p2 o0).2).2.bR [] (by simp) (by simp)
 obtain ⟨z0, eG, hl0⟩ := hl0
 exact Q6 (fn := Ir.K6n) (by kernel_rfl) (h := [⟨1, 0, false, (av.cells o0)⟩, ⟨1, 0, false, [.bx 0 0]⟩]) (vw := []) VOK.nil [hP 10 (Qq _ _ (Val.Q7 (Qu (Q9 p1 p2 o0).1 4 (Q9 p1 p2 o0).2).1.list)), hS 0 true (aj.Q8 (Q5y p1 p2 o0 (Qu (Q9 p1 p2 o0).1 4 (Q9 p1 p2 o0).2).1.list 0 (Qu (Q9 p1 p2 o0).1 4 (Q9 p1 p2 o0).2).2.bR []).2 3 rfl), hQ (aj.Q7 (Q5y p1 p2 o0 (Qu (Q9 p1 p2 o0).1 4 (Q9 p1 p2 o0).2).1.list 0 (Qu (Q9 p1 p2 o0).1 4 (Q9 p1 p2 o0).2).2.bR []).2).symm] [aN (Qc6 p1 p2 o0 (Q17a p1 p2 o0 H).1), aN (Qae (Q9 p1 p2 o0).1 4 (Q9 p1 p2 o0).2), aV [(2, aj.rows (Q5y p1 p2 o0 (Qu (Q9 p1 p2 o0).1 4 (Q9 p1 p2 o0).2).1.list 0 (Qu (Q9 p1 p2 o0).1 4 (Q9 p1 p2 o0).2).2.bR []).2)] hl0] (by kernel_rfl)
def Q4s (p1 : Val) (o0 : av) : List aj × av := ((dE aj.dec p1 Q0).1, bp o0 (pE aj.cnt p1 Q0))
theorem Q2cq (p1 : Val) (o0 : av) : Q4s p1 o0 = (((Q9g p1 Q0 o0).1, (Q9g p1 Q0 o0).2)) := by
  rfl
def Q29d (p1 : Val) (o0 : av) : En := .call 72 [.bx 0 0, .agg (Val.cells p1)] [⟨1, 0, false, (av.cells o0)⟩]
def Q2e1 (_p1 : Val) (_o0 : av) (q0 : List aj) (q1 : av) : Rs := .ret (.sl (aj.rows q0)) [⟨1, 0, false, (av.cells q1)⟩]
def Q1yf (p1 : Val) (o0 : av) : Rs := Q2e1 p1 o0 (Q4s p1 o0).1 (Q4s p1 o0).2
def Qzz (p1 : Val) : Prop := Val.Sm 1000000000 p1
theorem Q1le (p1 : Val) (_o0 : av) (H : Qzz p1) : (Q1pl p1) ∧ True := by
  repeat' with_reducible apply And.intro
  all_goals first | exact True.intro | exact H
theorem Q1c4 (p1 : Val) (o0 : av) (H : Qzz p1) : Q5 G (Q29d p1 o0) (Q1yf p1 o0) := by
 unfold Q1yf
 rw [Q2cq]
 exact Q6 (fn := Ir.K6a) (by kernel_rfl) (h := [⟨1, 0, false, (av.cells o0)⟩]) (vw := []) VOK.nil [] [aN (Q2ga p1 Q0 o0 (Q1le p1 o0 H).1)] (by kernel_rfl)
def Q6a (p1 : Val) (o0 : av) : bn × av := ((tD p1 Qv).1, bp o0 (tC p1 Qv))
theorem Q2cu (p1 : Val) (o0 : av) : Q6a p1 o0 = (bif ((Q9 p1 Qv o0).1.kind == 0) then
    ((bn.mk [] (bC.mk eB 0 0 0 [] [] [] [] [] [])), (Q9 p1 Qv o0).2)
  else
    bif ((s_Ka (Q9 p1 Qv o0).1).2 == 0) then
      ((s_Ka (Q9 p1 Qv o0).1).1, (Q9 p1 Qv o0).2)
    else
      ((s_Ka (Q9 p1 Qv o0).1).1, (av.mk (w64 ((Q9 p1 Qv o0).2.bR + 1))))) := by
  unfold Q6a Q9 s_Ka tD tC
  cases h : ((prt p1 Qv).kind == 0) with
  | true =>
    have h5 : ((prt p1 Qv).kind == 5) = false := by rw [eq_of_beq h]; rfl
    unfold Qpl
    rw [bn.Qak h5, h]
    rfl
  | false =>
    unfold Qpl
    cases h2 : (bn.dec (prt p1 Qv)).2 with
    | true => rfl
    | false =>
      refine Prod.ext rfl ?_
      exact (Q6o o0 _ 1).symm
def Q29h (p1 : Val) (o0 : av) : En := .call 73 [.bx 0 0, .agg (Val.cells p1)] [⟨1, 0, false, (av.cells o0)⟩]
def Q2e5 (_p1 : Val) (_o0 : av) (q0 : bn) (q1 : av) : Rs := .ret (.agg (bn.cells q0)) [⟨1, 0, false, (av.cells q1)⟩]
def Q1yj (p1 : Val) (o0 : av) : Rs := Q2e5 p1 o0 (Q6a p1 o0).1 (Q6a p1 o0).2
def Q1g2 (p1 : Val) : Prop := Val.Sm 1000000000 p1
theorem Qe9 (p1 : Val) (o0 : av) (H : Q1g2 p1) : (Qc0 p1) ∧ (H_Ka (Q9 p1 Qv o0).1) ∧ True := by
  repeat' with_reducible apply And.intro
  all_goals first | exact True.intro | exact H | exact Qp H _
theorem Q1qk (p1 : Val) (o0 : av) (H : Q1g2 p1) : Q5 G (Q29h p1 o0) (Q1yj p1 o0) := by
 unfold Q1yj
 rw [Q2cu]
 cases h0 : ((Q9 p1 Qv o0).1.kind == 0) with
 | true =>
  exact Q6 (fn := Ir.K6e) (by kernel_rfl) (h := [⟨1, 0, false, (av.cells o0)⟩]) (vw := []) VOK.nil [hB 9 h0] [aN (Qc6 p1 Qv o0 (Qe9 p1 o0 H).1)] (by kernel_rfl)
 | false =>
  cases h1 : ((s_Ka (Q9 p1 Qv o0).1).2 == 0) with
  | true =>
   exact Q6 (fn := Ir.K6e) (by kernel_rfl) (h := [⟨1, 0, false, (av.cells o0)⟩]) (vw := []) VOK.nil [hB 9 h0, hP 9 (dec (!((s_Ka (Q9 p1 Qv o0).1).2 == 0)) false (by rw [h1]; rfl))] [aN (Qc6 p1 Qv o0 (Qe9 p1 o0 H).1), aN (t_Ka (Q9 p1 Qv o0).1 (Qe9 p1 o0 H).2.1)] (by kernel_rfl)
  | false =>
   exact Q6 (fn := Ir.K6e) (by kernel_rfl) (h := [⟨1, 0, false, (av.cells o0)⟩]) (vw := []) VOK.nil [hB 9 h0, hP 9 (dec (!((s_Ka (Q9 p1 Qv o0).1).2 == 0)) true (by rw [h1]; rfl))] [aN (Qc6 p1 Qv o0 (Qe9 p1 o0 H).1), aN (t_Ka (Q9 p1 Qv o0).1 (Qe9 p1 o0 H).2.1)] (by kernel_rfl)
def Q92 (p1 : Val) (o0 : av) : bK × av := ((bK.dec p1).1, bp o0 (bK.cnt p1))
theorem Q2ch (p1 : Val) (o0 : av) : Q92 p1 o0 = (((bK.mk (Q44 p1 Q2w o0).1 (Q1x p1 kw_n (Q44 p1 Q2w o0).2).1), (Q1x p1 kw_n (Q44 p1 Q2w o0).2).2)) := by
  simp only [Q1x, Q44, Q92, Q6o]
  refine Prod.ext rfl (congrArg (bp o0) ?_)
  show bK.cnt p1 = _
  try unfold bK.cnt
  try unfold cM
  first | rfl | omega
def Q294 (p1 : Val) (o0 : av) : En := .call 75 [.bx 0 0, .agg (Val.cells p1)] [⟨1, 0, false, (av.cells o0)⟩]
def Q2ds (_p1 : Val) (_o0 : av) (q0 : bK) (q1 : av) : Rs := .ret (.agg (bK.cells q0)) [⟨1, 0, false, (av.cells q1)⟩]
def Q1y6 (p1 : Val) (o0 : av) : Rs := Q2ds p1 o0 (Q92 p1 o0).1 (Q92 p1 o0).2
def Q1pe (p1 : Val) : Prop := Val.Sm 1000000000 p1
theorem Q176 (p1 : Val) (_o0 : av) (H : Q1pe p1) : (Qvj p1) ∧ (Qde p1) ∧ True := by
  repeat' with_reducible apply And.intro
  all_goals first | exact True.intro | exact H | exact Qp H _
theorem Q2g1 (p1 : Val) (o0 : av) (H : Q1pe p1) : Q5 G (Q294 p1 o0) (Q1y6 p1 o0) := by
 unfold Q1y6
 rw [Q2ch]
 exact Q6 (fn := Ir.K60) (by kernel_rfl) (h := [⟨1, 0, false, (av.cells o0)⟩]) (vw := []) VOK.nil [] [aN (Qyi p1 Q2w o0 (Q176 p1 o0 H).1), aN (Q7y p1 kw_n (Q44 p1 Q2w o0).2 (Q176 p1 o0 H).2.1)] (by kernel_rfl)
def Q6p (p1 : Val) (o0 : av) : aX × av := ((aX.dec p1).1, bp o0 (aX.cnt p1))
theorem Q2cv (p1 : Val) (o0 : av) : Q6p p1 o0 = (((aX.mk (Q1x p1 Q17 o0).1 (Q1x p1 Qf (Q1x p1 Q17 o0).2).1 (Q1x p1 Q27 (Q1x p1 Qf (Q1x p1 Q17 o0).2).2).1 (Q1x p1 Qh (Q1x p1 Q27 (Q1x p1 Qf (Q1x p1 Q17 o0).2).2).2).1 (Q1x p1 Q2c (Q1x p1 Qh (Q1x p1 Q27 (Q1x p1 Qf (Q1x p1 Q17 o0).2).2).2).2).1 (Q1x p1 Q2x (Q1x p1 Q2c (Q1x p1 Qh (Q1x p1 Q27 (Q1x p1 Qf (Q1x p1 Q17 o0).2).2).2).2).2).1 (Q44 p1 Q4a (Q1x p1 Q2x (Q1x p1 Q2c (Q1x p1 Qh (Q1x p1 Q27 (Q1x p1 Qf (Q1x p1 Q17 o0).2).2).2).2).2).2).1), (Q44 p1 Q4a (Q1x p1 Q2x (Q1x p1 Q2c (Q1x p1 Qh (Q1x p1 Q27 (Q1x p1 Qf (Q1x p1 Q17 o0).2).2).2).2).2).2).2)) := by
  simp only [Q1x, Q44, Q6p, Q6o]
  refine Prod.ext rfl (congrArg (bp o0) ?_)
  show aX.cnt p1 = _
  try unfold aX.cnt
  try unfold cM
  first | rfl | omega
def Q29i (p1 : Val) (o0 : av) : En := .call 77 [.bx 0 0, .agg (Val.cells p1)] [⟨1, 0, false, (av.cells o0)⟩]
def Q2e6 (_p1 : Val) (_o0 : av) (q0 : aX) (q1 : av) : Rs := .ret (.agg (aX.cells q0)) [⟨1, 0, false, (av.cells q1)⟩]
def Q1yk (p1 : Val) (o0 : av) : Rs := Q2e6 p1 o0 (Q6p p1 o0).1 (Q6p p1 o0).2
def Q1g3 (p1 : Val) : Prop := Val.Sm 1000000000 p1
theorem Q9y (p1 : Val) (_o0 : av) (H : Q1g3 p1) : (Qde p1) ∧ (Qvj p1) ∧ True := by
  repeat' with_reducible apply And.intro
  all_goals first | exact True.intro | exact H | exact Qp H _
theorem Q1ql (p1 : Val) (o0 : av) (H : Q1g3 p1) : Q5 G (Q29i p1 o0) (Q1yk p1 o0) := by
 unfold Q1yk
 rw [Q2cv]
 exact Q6 (fn := Ir.K6f) (by kernel_rfl) (h := [⟨1, 0, false, (av.cells o0)⟩]) (vw := []) VOK.nil [] [aN (Q7y p1 Q17 o0 (Q9y p1 o0 H).1), aN (Q7y p1 Qf (Q1x p1 Q17 o0).2 (Q9y p1 o0 H).1), aN (Q7y p1 Q27 (Q1x p1 Qf (Q1x p1 Q17 o0).2).2 (Q9y p1 o0 H).1), aN (Q7y p1 Qh (Q1x p1 Q27 (Q1x p1 Qf (Q1x p1 Q17 o0).2).2).2 (Q9y p1 o0 H).1), aN (Q7y p1 Q2c (Q1x p1 Qh (Q1x p1 Q27 (Q1x p1 Qf (Q1x p1 Q17 o0).2).2).2).2 (Q9y p1 o0 H).1), aN (Q7y p1 Q2x (Q1x p1 Q2c (Q1x p1 Qh (Q1x p1 Q27 (Q1x p1 Qf (Q1x p1 Q17 o0).2).2).2).2).2 (Q9y p1 o0 H).1), aN (Qyi p1 Q4a (Q1x p1 Q2x (Q1x p1 Q2c (Q1x p1 Qh (Q1x p1 Q27 (Q1x p1 Qf (Q1x p1 Q17 o0).2).2).2).2).2).2 (Q9y p1 o0 H).2.1)] (by kernel_rfl)
def Qg5 (p1 : dY) (o0 : av) : dY × Int :=
 bif (decide (0 < o0.bR)) then
  ((dY.mk (bN.mk eB eB eB 0 0 0 0 false 0 [] [] [] []) 0 0 0 0 [] (bn.mk [] (bC.mk eB 0 0 0 [] [] [] [] [] [])) false false (bK.mk false 0) (bK.mk false 0) 0 (aX.mk 0 0 0 0 0 0 false)), 6)
 else
  (p1, 0)
def Qg1 (p0 : Val) (o1 : av) : dZ × av := ((dZ.dec p0).1, bp o1 (dZ.cnt p0))
def Qg3 (p1 : Val) (p2 : BA) (o0 : av) : List dZ × av := ((dE dZ.dec p1 p2).1, bp o0 (pE (dZ.cnt) p1 p2))
def Qg2 (p0 : Val) (o1 : av) : dW × av := ((dW.dec p0).1, bp o1 (dW.cnt p0))
def Qg4 (p1 : Val) (p2 : BA) (o0 : av) : List dW × av := ((dE dW.dec p1 p2).1, bp o0 (pE (dW.cnt) p1 p2))
def Qg7 (p1 : dX) (o0 : av) : dX × Int :=
 bif (decide (0 < o0.bR)) then
  ((dX.mk (bN.mk eB eB eB 0 0 0 0 false 0 [] [] [] []) eB eB 0 0 [] 0 0 0 (bK.mk false 0) (bK.mk false 0) 0 [] 0), 6)
 else
  (p1, 0)
def Qad (p1 : aO) (o0 : av) : aO × Int :=
 bif (decide (0 < o0.bR)) then
  ((aO.mk (bN.mk eB eB eB 0 0 0 0 false 0 [] [] [] []) 0 0 0 [] (bn.mk [] (bC.mk eB 0 0 0 [] [] [] [] [] [])) (aX.mk 0 0 0 0 0 0 false)), 6)
 else
  (p1, 0)
def Q29s (p1 : aO) (o0 : av) : En := .call 104 [.bx 0 0, .agg (aO.cells p1)] [⟨1, 0, false, (av.cells o0)⟩]
def Q2eg (_p1 : aO) (o0 : av) (q0 : aO) (q1 : Int) : Rs := .ret (.tup [.agg (aO.cells q0), iN q1]) [⟨1, 0, false, (av.cells o0)⟩]
def Q1yu (p1 : aO) (o0 : av) : Rs := Q2eg p1 o0 (Qad p1 o0).1 (Qad p1 o0).2
theorem Q2ge (p1 : aO) (o0 : av) : Q5 G (Q29s p1 o0) (Q1yu p1 o0) := by
 unfold Q1yu Qad
 cases h0 : (decide (0 < o0.bR)) with
 | true =>
  exact Q6 (fn := Ir.K7a) (by kernel_rfl) (h := [⟨1, 0, false, (av.cells o0)⟩]) (vw := []) VOK.nil [hB 7 h0] [] (by kernel_rfl)
 | false =>
  exact Q6 (fn := Ir.K7a) (by kernel_rfl) (h := [⟨1, 0, false, (av.cells o0)⟩]) (vw := []) VOK.nil [hB 7 h0] [] (by kernel_rfl)
def Qps (p0 : aD) : av :=
  (Q1x p0.aU Qf (Q49 p0 Q22)).2
def Qq2 (p0 : aD) : av :=
  (Q1x p0.aU Q11 (Qps p0)).2
def Qqa (p0 : aD) : av :=
  (Q1x p0.aU Q3d (Qq2 p0)).2
def Qqi (p0 : aD) : av :=
  (Q4s p0.aU (Qqa p0)).2
def Qqn (p0 : aD) : av :=
  (Q6a p0.aU (Qqi p0)).2
def Q14m (p0 : aD) : av :=
  (Q6p p0.aZ (Qqn p0)).2
def Q1im (p0 : aD) : aO × Int := resC (aO.cnt p0) (aO.of p0) aO.z
theorem Qpg (n : Nat) (x : aO) : Qad x (bp ⟨0⟩ n) = resC n x aO.z := rfl
theorem Q2cd (p0 : aD) : Q1im p0 = (((Qad (aO.mk p0.aM (Q1x p0.aU Qf (Q49 p0 Q22)).1 (Q1x p0.aU Q11 (Qps p0)).1 (Q1x p0.aU Q3d (Qq2 p0)).1 (Q4s p0.aU (Qqa p0)).1 (Q6a p0.aU (Qqi p0)).1 (Q6p p0.aZ (Qqn p0)).1) (Q14m p0)).1, (Qad (aO.mk p0.aM (Q1x p0.aU Qf (Q49 p0 Q22)).1 (Q1x p0.aU Q11 (Qps p0)).1 (Q1x p0.aU Q3d (Qq2 p0)).1 (Q4s p0.aU (Qqa p0)).1 (Q6a p0.aU (Qqi p0)).1 (Q6p p0.aZ (Qqn p0)).1) (Q14m p0)).2)) := by
  simp only [Qps, Qq2, Qqa, Qqi, Qqn, Q14m, Q1x, Q4s, Q6a, Q6p, Qad, Q49, Q6o]
  refine Eq.trans ?_ (Qpg _ _).symm
  refine Qco ?_ rfl
  unfold aO.cnt
  omega
def Q290 (p0 : aD) : En := .call 21 [.agg (aD.cells p0)] []
def Q1y2 (p0 : aD) : Rs := .ret (.tup [.agg (aO.cells (Q1im p0).1), iN (Q1im p0).2]) []
def Q1k4 (p0 : aD) : Prop := Qbz p0.aM ∧ aD.sm p0
theorem Q9x (p0 : aD) (H : Q1k4 p0) : (Qbz p0.aM) ∧ (Qde p0.aU) ∧ (Qzz p0.aU) ∧ (Q1g2 p0.aU) ∧ (Q1g3 p0.aZ) ∧ True := by
  repeat' with_reducible apply And.intro
  all_goals first | exact True.intro | exact H.1 | exact H.2 | exact H.2.1 | exact H.2.2 | exact Qp H.2.1 _ | exact Qp H.2.2 _
theorem Q2fy (p0 : aD) (H : Q1k4 p0) : Q5 G (Q290 p0) (Q1y2 p0) := by
 unfold Q1y2
 rw [Q2cd]
 exact Q6 (fn := Ir.K5w) (by kernel_rfl) VOK.nil [] [aN (Q14c p0 Q22), aN (Q14b p0.aM (Q9x p0 H).1), aN (Q7y p0.aU Qf (Q49 p0 Q22) (Q9x p0 H).2.1), aN (Q7y p0.aU Q11 (Qps p0) (Q9x p0 H).2.1), aN (Q7y p0.aU Q3d (Qq2 p0) (Q9x p0 H).2.1), aN (Q1c4 p0.aU (Qqa p0) (Q9x p0 H).2.2.1), aN (Q1qk p0.aU (Qqi p0) (Q9x p0 H).2.2.2.1), aN (Q1ql p0.aZ (Qqn p0) (Q9x p0 H).2.2.2.2.1), aN (Q2ge (aO.mk p0.aM (Q1x p0.aU Qf (Q49 p0 Q22)).1 (Q1x p0.aU Q11 (Qps p0)).1 (Q1x p0.aU Q3d (Qq2 p0)).1 (Q4s p0.aU (Qqa p0)).1 (Q6a p0.aU (Qqi p0)).1 (Q6p p0.aZ (Qqn p0)).1) (Q14m p0))] (by kernel_rfl)
def Qoz (p1 : Val) (o0 : av) : iC × av := ((JobS.dec p1).1, bp o0 (JobS.cnt p1))
def Q9f (p0 : Val) (o1 : av) : Int × av := ((xN p0).1, bp o1 (cK 2 p0))
theorem Q2cl (p0 : Val) (o1 : av) : Q9f p0 o1 = (((Qu p0 2 o1).1.n, (Qu p0 2 o1).2)) := by
  exact Prod.ext (getN p0).symm rfl
def Q298 (p0 : Val) (o1 : av) : En := .call 198 [.agg (Val.cells p0), .bx 0 0] [⟨1, 0, false, [.bx 1 0]⟩, ⟨1, 0, false, (av.cells o1)⟩]
def Q2dw (_p0 : Val) (_o1 : av) (q0 : Int) (q1 : av) : Rs := .ret (iN q0) [⟨1, 0, false, [.bx 1 0]⟩, ⟨1, 0, false, (av.cells q1)⟩]
def Q1ya (p0 : Val) (o1 : av) : Rs := Q2dw p0 o1 (Q9f p0 o1).1 (Q9f p0 o1).2
theorem Q2g3 (p0 : Val) (o1 : av) : Q5 G (Q298 p0 o1) (Q1ya p0 o1) := by
 unfold Q1ya
 rw [Q2cl]
 exact Q6 (fn := Ir.K64) (by kernel_rfl) (h := [⟨1, 0, false, [.bx 1 0]⟩, ⟨1, 0, false, (av.cells o1)⟩]) (vw := []) VOK.nil [] [aN (Qae p0 2 o1)] (by kernel_rfl)
def Q60 (p1 : Val) (p2 : BA) (o0 : av) : List Val → Nat → Int → (List Int) → Int × (List Int)
 | [], _i0, ah, ay =>
  (ah, ay)
 | x0 :: r0, i0, ah, ay =>
  Q60 p1 p2 o0 r0 (i0 + 1) (Q9f x0 (av.mk ah)).2.bR (ay ++ [(Q9f x0 (av.mk ah)).1])
def Q1fj (p1 : Val) (p2 : BA) (o0 : av) (i0 : Nat) (_ah : Int) (ay : List Int) : List PV :=
  [.un, .un, .un, .fn 198 [] [.bx 1 0]] ++ nuns 5 ++ [.ms 2 1 0 (List.length ay)] ++ nuns 8 ++ [.sl (Val.rows (Qu (Q9 p1 p2 o0).1 4 (Q9 p1 p2 o0).2).1.list), iN ((List.length (Qu (Q9 p1 p2 o0).1 4 (Q9 p1 p2 o0).2).1.list) : Int), iN (i0 : Int)] ++ nuns 11
def Qzs (_p1 : Val) (_p2 : BA) (_o0 : av) (_i0 : Nat) (ah : Int) (ay : List Int) : List Ob :=
  [⟨1, 0, false, [iN ah]⟩, ⟨1, 0, false, [.bx 0 0]⟩, ⟨1, 0, true, (Q3h ay).flatten⟩]
def Qh9 (p1 : Val) (p2 : BA) (o0 : av) (i0 : Nat) (ah : Int) (ay : List Int) : En := .loop 2 Ir.Qll Ir.Q1ny (Q1fj p1 p2 o0 i0 ah ay) (Qzs p1 p2 o0 i0 ah ay)
def Qsi (_p1 : Val) (_p2 : BA) (_o0 : av) (q0 : Int) (q1 : List Int) (z : Nat → PV) (_zo : Nat → List PV) : St :=
  ⟨zr z 0 9 ++ [.ms 2 1 0 (List.length q1)] ++ zr z 10 22, [(0, ⟨1, 0, false, [iN q0]⟩), (1, ⟨1, 0, false, [.bx 0 0]⟩), (2, ⟨1, 0, true, (Q3h q1).flatten⟩)], 67⟩
theorem Q15x (p1 : Val) (p2 : BA) (o0 : av) (i0 : Nat) (ah : Int) (ay : List Int) : VOK (Go.Pv.look (number 0 (Qzs p1 p2 o0 i0 ah ay))) [(2, Q3h ay)] := (VOK.cons (show Seen _ _ from Q3r (ob := ⟨1, 0, true, (Q3h ay).flatten⟩) (Q65 ay 1 rfl)) VOK.nil)
def Qj2 (p1 : Val) (p2 : BA) (o0 : av) (e : En) (q : Int × (List Int)) : Prop := ∃ z zo, Q5 G e (.st (.exit 0) (Qsi p1 p2 o0 q.1 q.2 z zo))
theorem Qwu (p1 : Val) (p2 : BA) (o0 : av) {e e' : En} (h : ∀ r, Q5 G e r → Q5 G e' r) : ∀ q, Qj2 p1 p2 o0 e q → Qj2 p1 p2 o0 e' q
  | _, ⟨z, zo, hz⟩ => ⟨z, zo, h _ hz⟩
def Qdk (p1 : Val) (p2 : BA) (o0 : av) : Prop := (List.length (Qu (Q9 p1 p2 o0).1 4 (Q9 p1 p2 o0).2).1.list ≤ 137438953472) ∧ True
def Quk (p1 : Val) (p2 : BA) (o0 : av) (i0 : Nat) (_ah : Int) (_ay : List Int) : List PV :=
  [.un, .un, .un, .fn 198 [] [.bx 1 0]] ++ nuns 14 ++ [.sl (Val.rows (Qu (Q9 p1 p2 o0).1 4 (Q9 p1 p2 o0).2).1.list), iN ((List.length (Qu (Q9 p1 p2 o0).1 4 (Q9 p1 p2 o0).2).1.list) : Int), iN (i0 : Int), .bool false]
def Qnh (_p1 : Val) (_p2 : BA) (_o0 : av) (_i0 : Nat) (_ah : Int) (_ay : List Int) : List (Nat × List PV) :=
  []
theorem Q1dz (p1 : Val) (p2 : BA) (o0 : av) (_H : Qdk p1 p2 o0) (i0 : Nat) (ah : Int) (ay : List Int) (_aR : List.length ay ≤ i0) (bF : (decide ((i0 : Int) < ((List.length (Qu (Q9 p1 p2 o0).1 4 (Q9 p1 p2 o0).2).1.list) : Int))) = false) : Qj2 p1 p2 o0 (Qh9 p1 p2 o0 i0 ah ay) (ah, ay) := by
 exact ⟨(envF (Quk p1 p2 o0 i0 ah ay)), (zoF (Qnh p1 p2 o0 i0 ah ay)), Qg (Q15x p1 p2 o0 i0 ah ay) (x := ((.exit 0), Qsi p1 p2 o0 ah ay (envF (Quk p1 p2 o0 i0 ah ay)) (zoF (Qnh p1 p2 o0 i0 ah ay)))) [hB 0 bF] [] (by kernel_rfl)⟩
theorem Q1bo (p1 : Val) (p2 : BA) (o0 : av) (H : Qdk p1 p2 o0) (x0 : Val) (i0 : Nat) (ah : Int) (ay : List Int) (bH : (Qu (Q9 p1 p2 o0).1 4 (Q9 p1 p2 o0).2).1.list[i0]? = some x0) (bT : i0 < List.length (Qu (Q9 p1 p2 o0).1 4 (Q9 p1 p2 o0).2).1.list) (aR : List.length ay ≤ i0) (bF : (decide ((i0 : Int) < ((List.length (Qu (Q9 p1 p2 o0).1 4 (Q9 p1 p2 o0).2).1.list) : Int))) = true) {r : Rs} (hr : Q5 G (Qh9 p1 p2 o0 (i0 + 1) (Q9f x0 (av.mk ah)).2.bR (ay ++ [(Q9f x0 (av.mk ah)).1])) r) : Q5 G (Qh9 p1 p2 o0 i0 ah ay) r := by
 have hB0 := H.1
 exact Qc (Q15x p1 p2 o0 i0 ah ay) [hB 0 bF, hP 0 (Q1f 5 _ i0 _ (Val.Qb bH) rfl), hA 8 2 579 643 1 8 0 0 true Q6u Qcg ay (Q9f x0 (av.mk ah)).1 (Qa0 ay) rfl rfl (by omega), hS 0 true (Q65 (ay ++ [(Q9f x0 (av.mk ah)).1]) 1 rfl), hP 1 (Q26 i0 (by omega))] [aN (Q2g3 x0 (av.mk ah))] hr (by kernel_rfl)
theorem Q12k (p1 : Val) (p2 : BA) (o0 : av) (H : Qdk p1 p2 o0) : ∀ (r0 : List Val) (i0 : Nat) (ah : Int) (ay : List Int), List.drop i0 (Qu (Q9 p1 p2 o0).1 4 (Q9 p1 p2 o0).2).1.list = r0 → List.length ay ≤ i0 → Qj2 p1 p2 o0 (Qh9 p1 p2 o0 i0 ah ay) (Q60 p1 p2 o0 r0 i0 ah ay)
 | [], i0, ah, ay, hd, aR => by
  have bF : (decide ((i0 : Int) < ((List.length (Qu (Q9 p1 p2 o0).1 4 (Q9 p1 p2 o0).2).1.list) : Int))) = false := by have := Q1n hd; simp; omega
  rw [Q60]
  exact Q1dz p1 p2 o0 H i0 ah ay aR bF
 | x0 :: r0, i0, ah, ay, hd, aR => by
  obtain ⟨bH, bT, hd'⟩ := Q1o hd
  have bF : (decide ((i0 : Int) < ((List.length (Qu (Q9 p1 p2 o0).1 4 (Q9 p1 p2 o0).2).1.list) : Int))) = true := by simp; omega
  rw [Q60]
  exact Qwu p1 p2 o0 (fun r hr => Q1bo p1 p2 o0 H x0 i0 ah ay bH bT aR bF hr) _ (Q12k p1 p2 o0 H r0 _ _ _ hd' (by first | omega | (simp; omega)))
def Qat (p1 : Val) (p2 : BA) (o0 : av) : List Int × av := ((dE xN p1 p2).1, bp o0 (pE (cK 2) p1 p2))
theorem Q18w (p1 : Val) (p2 : BA) (o0 : av) : ∀ (l : List Val) (i : Nat) (b : Int) (a : List Int), Q60 p1 p2 o0 l i b a = (bw b (sumC (cK 2) l), a ++ l.map (fun x => (xN x).1))
  | [], _, b, a => by rw [Q60]; simp [sumC, bw]
  | x :: l, i, b, a => by
    rw [Q60]
    refine (Q18w p1 p2 o0 l (i + 1) (bw b ((cK 2) x)) (a ++ [(xN x).1])).trans ?_
    rw [Qce]
    simp only [List.append_assoc, List.singleton_append, List.map_cons, sumC]
theorem Q2d2 (p1 : Val) (p2 : BA) (o0 : av) : Qat p1 p2 o0 = (((Q60 p1 p2 o0 (Qu (Q9 p1 p2 o0).1 4 (Q9 p1 p2 o0).2).1.list 0 (Qu (Q9 p1 p2 o0).1 4 (Q9 p1 p2 o0).2).2.bR []).2, (av.mk (Q60 p1 p2 o0 (Qu (Q9 p1 p2 o0).1 4 (Q9 p1 p2 o0).2).1.list 0 (Qu (Q9 p1 p2 o0).1 4 (Q9 p1 p2 o0).2).2.bR []).1))) := by
  rw [Q18w]
  unfold Q9 Qu Qat
  simp only [Q6o, getL, Qa7, Qce]
  rfl
def Q29p (p1 : Val) (p2 : BA) (o0 : av) : En := .call 197 [.bx 0 0, .agg (Val.cells p1), .str p2, .fn 198 [] [.bx 1 0]] [⟨1, 0, false, (av.cells o0)⟩, ⟨1, 0, false, [.bx 0 0]⟩]
def Q2ed (_p1 : Val) (_p2 : BA) (_o0 : av) (q0 : List Int) (q1 : av) : Rs := .ret (.sl (Q3h q0)) [⟨1, 0, false, (av.cells q1)⟩, ⟨1, 0, false, [.bx 0 0]⟩]
def Q1yr (p1 : Val) (p2 : BA) (o0 : av) : Rs := Q2ed p1 p2 o0 (Qat p1 p2 o0).1 (Qat p1 p2 o0).2
def Q1pn (p1 : Val) : Prop := Val.Sm 1000000000 p1
theorem Q17c (p1 : Val) (p2 : BA) (o0 : av) (H : Q1pn p1) : (Qc0 p1) ∧ (Qdk p1 p2 o0) ∧ True := by
  have hl := Q69 (Qp H p2)
  refine ⟨H, ?_, trivial⟩
  unfold Qdk Q9 Qu
  simp only [getL]
  exact ⟨Nat.le_trans hl.1 (Nat.le_of_ble_eq_true rfl), trivial⟩
theorem Q2gc (p1 : Val) (p2 : BA) (o0 : av) (H : Q1pn p1) : Q5 G (Q29p p1 p2 o0) (Q1yr p1 p2 o0) := by
 unfold Q1yr
 rw [Q2d2]
 have hl0 := Q12k p1 p2 o0 ((Q17c p1 p2 o0 H).2.1) (Qu (Q9 p1 p2 o0).1 4 (Q9 p1 p2 o0).2).1.list 0 (Qu (Q9 p1 p2 o0).1 4 (Q9 p1 p2 o0).2).2.bR [] (by simp) (by simp)
 obtain ⟨z0, eG, hl0⟩ := hl0
 exact Q6 (fn := Ir.K6p) (by kernel_rfl) (h := [⟨1, 0, false, (av.cells o0)⟩, ⟨1, 0, false, [.bx 0 0]⟩]) (vw := []) VOK.nil [hP 10 (Qq _ _ (Val.Q7 (Qu (Q9 p1 p2 o0).1 4 (Q9 p1 p2 o0).2).1.list)), hS 0 true (Q65 (Q60 p1 p2 o0 (Qu (Q9 p1 p2 o0).1 4 (Q9 p1 p2 o0).2).1.list 0 (Qu (Q9 p1 p2 o0).1 4 (Q9 p1 p2 o0).2).2.bR []).2 1 rfl), hQ (Q6u (Q60 p1 p2 o0 (Qu (Q9 p1 p2 o0).1 4 (Q9 p1 p2 o0).2).1.list 0 (Qu (Q9 p1 p2 o0).1 4 (Q9 p1 p2 o0).2).2.bR []).2).symm] [aN (Qc6 p1 p2 o0 (Q17c p1 p2 o0 H).1), aN (Qae (Q9 p1 p2 o0).1 4 (Q9 p1 p2 o0).2), aV [(2, Q3h (Q60 p1 p2 o0 (Qu (Q9 p1 p2 o0).1 4 (Q9 p1 p2 o0).2).1.list 0 (Qu (Q9 p1 p2 o0).1 4 (Q9 p1 p2 o0).2).2.bR []).2)] hl0] (by kernel_rfl)
def Qc2 (p1 : Val) (p2 : BA) (o0 : av) : List Int × av := ((dE xN p1 p2).1, bp o0 (pE (cK 2) p1 p2))
theorem Q2ck (p1 : Val) (p2 : BA) (o0 : av) : Qc2 p1 p2 o0 = (((Qat p1 p2 o0).1, (Qat p1 p2 o0).2)) := by
  rfl
def Q297 (p1 : Val) (p2 : BA) (o0 : av) : En := .call 106 [.bx 0 0, .agg (Val.cells p1), .str p2] [⟨1, 0, false, (av.cells o0)⟩]
def Q2dv (_p1 : Val) (_p2 : BA) (_o0 : av) (q0 : List Int) (q1 : av) : Rs := .ret (.sl (Q3h q0)) [⟨1, 0, false, (av.cells q1)⟩]
def Q1y9 (p1 : Val) (p2 : BA) (o0 : av) : Rs := Q2dv p1 p2 o0 (Qc2 p1 p2 o0).1 (Qc2 p1 p2 o0).2
def Q1pf (p1 : Val) : Prop := Val.Sm 1000000000 p1
theorem Q1lb (p1 : Val) (_p2 : BA) (_o0 : av) (H : Q1pf p1) : (Q1pn p1) ∧ True := by
  repeat' with_reducible apply And.intro
  all_goals first | exact True.intro | exact H
theorem Q2g2 (p1 : Val) (p2 : BA) (o0 : av) (H : Q1pf p1) : Q5 G (Q297 p1 p2 o0) (Q1y9 p1 p2 o0) := by
 unfold Q1y9
 rw [Q2ck]
 exact Q6 (fn := Ir.K63) (by kernel_rfl) (h := [⟨1, 0, false, (av.cells o0)⟩]) (vw := []) VOK.nil [] [aN (Q2gc p1 p2 o0 (Q1lb p1 p2 o0 H).1)] (by kernel_rfl)
def Qp3 (p1 : iC) (o0 : av) : iC × Int :=
 bif (decide (0 < o0.bR)) then
  ((iC.mk (bN.mk eB eB eB 0 0 0 0 false 0 [] [] [] []) 0 0 0 0 false false (bn.mk [] (bC.mk eB 0 0 0 [] [] [] [] [] [])) 0 0 0 0 0 [] 0), 6)
 else
  (p1, 0)
def Qox (p0 : Val) (o1 : av) : dA × av := ((dA.dec p0).1, bp o1 (dA.cnt p0))
def Qp0 (p1 : Val) (p2 : BA) (o0 : av) : List dA × av := ((dE dA.dec p1 p2).1, bp o0 (pE (dA.cnt) p1 p2))
def Qoy (p0 : Val) (o1 : av) : bK × av := ((bK.dec p0).1, bp o1 (bK.cnt p0))
def Qp1 (p1 : Val) (p2 : BA) (o0 : av) : List bK × av := ((dE bK.dec p1 p2).1, bp o0 (pE (bK.cnt) p1 p2))
def Qp4 (p1 : fP) (o0 : av) : fP × Int :=
 bif (decide (0 < o0.bR)) then
  ((fP.mk (bN.mk eB eB eB 0 0 0 0 false 0 [] [] [] []) [] [] [] 0 0 0 0 0 []), 6)
 else
  (p1, 0)
def Qau (p1 : aL) (o0 : av) : aL × Int :=
 bif (decide (0 < o0.bR)) then
  ((aL.mk (bN.mk eB eB eB 0 0 0 0 false 0 [] [] [] []) 0 0 0 false [] (bn.mk [] (bC.mk eB 0 0 0 [] [] [] [] [] [])) (aX.mk 0 0 0 0 0 0 false)), 6)
 else
  (p1, 0)
def Q29t (p1 : aL) (o0 : av) : En := .call 127 [.bx 0 0, .agg (aL.cells p1)] [⟨1, 0, false, (av.cells o0)⟩]
def Q2eh (_p1 : aL) (o0 : av) (q0 : aL) (q1 : Int) : Rs := .ret (.tup [.agg (aL.cells q0), iN q1]) [⟨1, 0, false, (av.cells o0)⟩]
def Q1yv (p1 : aL) (o0 : av) : Rs := Q2eh p1 o0 (Qau p1 o0).1 (Qau p1 o0).2
theorem Q2gf (p1 : aL) (o0 : av) : Q5 G (Q29t p1 o0) (Q1yv p1 o0) := by
 unfold Q1yv Qau
 cases h0 : (decide (0 < o0.bR)) with
 | true =>
  exact Q6 (fn := Ir.K7d) (by kernel_rfl) (h := [⟨1, 0, false, (av.cells o0)⟩]) (vw := []) VOK.nil [hB 7 h0] [] (by kernel_rfl)
 | false =>
  exact Q6 (fn := Ir.K7d) (by kernel_rfl) (h := [⟨1, 0, false, (av.cells o0)⟩]) (vw := []) VOK.nil [hB 7 h0] [] (by kernel_rfl)
def Qpu (p0 : aD) : av :=
  (Q1x p0.aU Qf (Q49 p0 Q1u)).2
def Qq4 (p0 : aD) : av :=
  (Q1x p0.aU Q2z (Qpu p0)).2
def Qqc (p0 : aD) : av :=
  (Q1x p0.aU Q11 (Qq4 p0)).2
def Qqj (p0 : aD) : av :=
  (Q44 p0.aU Q3c (Qqc p0)).2
def Qqo (p0 : aD) : av :=
  (Q4s p0.aU (Qqj p0)).2
def Qqp (p0 : aD) : av :=
  (Q6a p0.aU (Qqo p0)).2
def Q14n (p0 : aD) : av :=
  (Q6p p0.aZ (Qqp p0)).2
def Q1io (p0 : aD) : aL × Int := resC (aL.cnt p0) (aL.of p0) aL.z
theorem Qop (n : Nat) (x : aL) : Qau x (bp ⟨0⟩ n) = resC n x aL.z := rfl
theorem Q2cf (p0 : aD) : Q1io p0 = (((Qau (aL.mk p0.aM (Q1x p0.aU Qf (Q49 p0 Q1u)).1 (Q1x p0.aU Q2z (Qpu p0)).1 (Q1x p0.aU Q11 (Qq4 p0)).1 (Q44 p0.aU Q3c (Qqc p0)).1 (Q4s p0.aU (Qqj p0)).1 (Q6a p0.aU (Qqo p0)).1 (Q6p p0.aZ (Qqp p0)).1) (Q14n p0)).1, (Qau (aL.mk p0.aM (Q1x p0.aU Qf (Q49 p0 Q1u)).1 (Q1x p0.aU Q2z (Qpu p0)).1 (Q1x p0.aU Q11 (Qq4 p0)).1 (Q44 p0.aU Q3c (Qqc p0)).1 (Q4s p0.aU (Qqj p0)).1 (Q6a p0.aU (Qqo p0)).1 (Q6p p0.aZ (Qqp p0)).1) (Q14n p0)).2)) := by
  simp only [Qpu, Qq4, Qqc, Qqj, Qqo, Qqp, Q14n, Q1x, Q44, Q4s, Q6a, Q6p, Qau, Q49, Q6o]
  refine Eq.trans ?_ (Qop _ _).symm
  refine Qco ?_ rfl
  unfold aL.cnt
  omega
def Q292 (p0 : aD) : En := .call 29 [.agg (aD.cells p0)] []
def Q1y4 (p0 : aD) : Rs := .ret (.tup [.agg (aL.cells (Q1io p0).1), iN (Q1io p0).2]) []
def Q1k6 (p0 : aD) : Prop := Qbz p0.aM ∧ aD.sm p0
theorem Q8m (p0 : aD) (H : Q1k6 p0) : (Qbz p0.aM) ∧ (Qde p0.aU) ∧ (Qvj p0.aU) ∧ (Qzz p0.aU) ∧ (Q1g2 p0.aU) ∧ (Q1g3 p0.aZ) ∧ True := by
  repeat' with_reducible apply And.intro
  all_goals first | exact True.intro | exact H.1 | exact H.2 | exact H.2.1 | exact H.2.2 | exact Qp H.2.1 _ | exact Qp H.2.2 _
theorem Q2g0 (p0 : aD) (H : Q1k6 p0) : Q5 G (Q292 p0) (Q1y4 p0) := by
 unfold Q1y4
 rw [Q2cf]
 exact Q6 (fn := Ir.K5y) (by kernel_rfl) VOK.nil [] [aN (Q14c p0 Q1u), aN (Q14b p0.aM (Q8m p0 H).1), aN (Q7y p0.aU Qf (Q49 p0 Q1u) (Q8m p0 H).2.1), aN (Q7y p0.aU Q2z (Qpu p0) (Q8m p0 H).2.1), aN (Q7y p0.aU Q11 (Qq4 p0) (Q8m p0 H).2.1), aN (Qyi p0.aU Q3c (Qqc p0) (Q8m p0 H).2.2.1), aN (Q1c4 p0.aU (Qqj p0) (Q8m p0 H).2.2.2.1), aN (Q1qk p0.aU (Qqo p0) (Q8m p0 H).2.2.2.2.1), aN (Q1ql p0.aZ (Qqp p0) (Q8m p0 H).2.2.2.2.2.1), aN (Q2gf (aL.mk p0.aM (Q1x p0.aU Qf (Q49 p0 Q1u)).1 (Q1x p0.aU Q2z (Qpu p0)).1 (Q1x p0.aU Q11 (Qq4 p0)).1 (Q44 p0.aU Q3c (Qqc p0)).1 (Q4s p0.aU (Qqj p0)).1 (Q6a p0.aU (Qqo p0)).1 (Q6p p0.aZ (Qqp p0)).1) (Q14n p0))] (by kernel_rfl)
def Qc3 (p1 : aQ) (o0 : av) : aQ × Int :=
 bif (decide (0 < o0.bR)) then
  ((aQ.mk (bN.mk eB eB eB 0 0 0 0 false 0 [] [] [] []) 0 (bK.mk false 0) [] (bn.mk [] (bC.mk eB 0 0 0 [] [] [] [] [] [])) (aX.mk 0 0 0 0 0 0 false)), 6)
 else
  (p1, 0)
def Q29u (p1 : aQ) (o0 : av) : En := .call 129 [.bx 0 0, .agg (aQ.cells p1)] [⟨1, 0, false, (av.cells o0)⟩]
def Q2ei (_p1 : aQ) (o0 : av) (q0 : aQ) (q1 : Int) : Rs := .ret (.tup [.agg (aQ.cells q0), iN q1]) [⟨1, 0, false, (av.cells o0)⟩]
def Q1yw (p1 : aQ) (o0 : av) : Rs := Q2ei p1 o0 (Qc3 p1 o0).1 (Qc3 p1 o0).2
theorem Q2gg (p1 : aQ) (o0 : av) : Q5 G (Q29u p1 o0) (Q1yw p1 o0) := by
 unfold Q1yw Qc3
 cases h0 : (decide (0 < o0.bR)) with
 | true =>
  exact Q6 (fn := Ir.K7e) (by kernel_rfl) (h := [⟨1, 0, false, (av.cells o0)⟩]) (vw := []) VOK.nil [hB 7 h0] [] (by kernel_rfl)
 | false =>
  exact Q6 (fn := Ir.K7e) (by kernel_rfl) (h := [⟨1, 0, false, (av.cells o0)⟩]) (vw := []) VOK.nil [hB 7 h0] [] (by kernel_rfl)
def Qcw (p0 : aD) : av :=
  (Q1x p0.aU Q11 (Q49 p0 Q2b)).2
def Qpz (p0 : aD) : av :=
  (Q9 p0.aU Q2g (Qcw p0)).2
def Qq8 (p0 : aD) : av :=
  (Q92 (Q9 p0.aU Q2g (Qcw p0)).1 (Qpz p0)).2
def Qqg (p0 : aD) : av :=
  (Q4s p0.aU (Qq8 p0)).2
def Qql (p0 : aD) : av :=
  (Q6a p0.aU (Qqg p0)).2
def Q14k (p0 : aD) : av :=
  (Q6p p0.aZ (Qql p0)).2
def Q1ii (p0 : aD) : aQ × Int := resC (aQ.cnt p0) (aQ.of p0) aQ.z
theorem Qy8 (n : Nat) (x : aQ) : Qc3 x (bp ⟨0⟩ n) = resC n x aQ.z := rfl
theorem Q2c6 (p0 : aD) : Q1ii p0 = (((Qc3 (aQ.mk p0.aM (Q1x p0.aU Q11 (Q49 p0 Q2b)).1 (Q92 (Q9 p0.aU Q2g (Qcw p0)).1 (Qpz p0)).1 (Q4s p0.aU (Qq8 p0)).1 (Q6a p0.aU (Qqg p0)).1 (Q6p p0.aZ (Qql p0)).1) (Q14k p0)).1, (Qc3 (aQ.mk p0.aM (Q1x p0.aU Q11 (Q49 p0 Q2b)).1 (Q92 (Q9 p0.aU Q2g (Qcw p0)).1 (Qpz p0)).1 (Q4s p0.aU (Qq8 p0)).1 (Q6a p0.aU (Qqg p0)).1 (Q6p p0.aZ (Qql p0)).1) (Q14k p0)).2)) := by
  simp only [Qcw, Qpz, Qq8, Qqg, Qql, Q14k, Q9, Q1x, Q4s, Q6a, Q92, Q6p, Qc3, Q49, Q6o]
  refine Eq.trans ?_ (Qy8 _ _).symm
  refine Qco ?_ rfl
  unfold aQ.cnt
  omega
def Q28t (p0 : aD) : En := .call 31 [.agg (aD.cells p0)] []
def Q1xv (p0 : aD) : Rs := .ret (.tup [.agg (aQ.cells (Q1ii p0).1), iN (Q1ii p0).2]) []
def Q1k0 (p0 : aD) : Prop := Qbz p0.aM ∧ aD.sm p0
theorem Q9v (p0 : aD) (H : Q1k0 p0) : (Qbz p0.aM) ∧ (Qde p0.aU) ∧ (Qc0 p0.aU) ∧ (Q1pe (Q9 p0.aU Q2g (Qcw p0)).1) ∧ (Qzz p0.aU) ∧ (Q1g2 p0.aU) ∧ (Q1g3 p0.aZ) ∧ True := by
  repeat' with_reducible apply And.intro
  all_goals first | exact True.intro | exact H.1 | exact H.2 | exact H.2.1 | exact H.2.2 | exact Qp H.2.1 _ | exact Qp H.2.2 _
theorem Q2fr (p0 : aD) (H : Q1k0 p0) : Q5 G (Q28t p0) (Q1xv p0) := by
 unfold Q1xv
 rw [Q2c6]
 exact Q6 (fn := Ir.K5n) (by kernel_rfl) VOK.nil [] [aN (Q14c p0 Q2b), aN (Q14b p0.aM (Q9v p0 H).1), aN (Q7y p0.aU Q11 (Q49 p0 Q2b) (Q9v p0 H).2.1), aN (Qc6 p0.aU Q2g (Qcw p0) (Q9v p0 H).2.2.1), aN (Q2g1 (Q9 p0.aU Q2g (Qcw p0)).1 (Qpz p0) (Q9v p0 H).2.2.2.1), aN (Q1c4 p0.aU (Qq8 p0) (Q9v p0 H).2.2.2.2.1), aN (Q1qk p0.aU (Qqg p0) (Q9v p0 H).2.2.2.2.2.1), aN (Q1ql p0.aZ (Qql p0) (Q9v p0 H).2.2.2.2.2.2.1), aN (Q2gg (aQ.mk p0.aM (Q1x p0.aU Q11 (Q49 p0 Q2b)).1 (Q92 (Q9 p0.aU Q2g (Qcw p0)).1 (Qpz p0)).1 (Q4s p0.aU (Qq8 p0)).1 (Q6a p0.aU (Qqg p0)).1 (Q6p p0.aZ (Qql p0)).1) (Q14k p0))] (by kernel_rfl)
def Qac (p0 : Val) (o1 : av) : aC × av := ((aC.dec p0).1, bp o1 (aC.cnt p0))
theorem Q2co (p0 : Val) (o1 : av) : Qac p0 o1 = (((aC.mk (Q43 p0 Qi o1).1 (Q1x p0 Q3i (Q43 p0 Qi o1).2).1 (Q1x p0 Q2y (Q1x p0 Q3i (Q43 p0 Qi o1).2).2).1), (Q1x p0 Q2y (Q1x p0 Q3i (Q43 p0 Qi o1).2).2).2)) := by
  simp only [Q1x, Q43, Qac, Q6o]
  refine Prod.ext rfl (congrArg (bp o1) ?_)
  show aC.cnt p0 = _
  try unfold aC.cnt
  try unfold cM
  first | rfl | omega
def Q29b (p0 : Val) (o1 : av) : En := .call 206 [.agg (Val.cells p0), .bx 0 0] [⟨1, 0, false, [.bx 1 0]⟩, ⟨1, 0, false, (av.cells o1)⟩]
def Q2dz (_p0 : Val) (_o1 : av) (q0 : aC) (q1 : av) : Rs := .ret (.agg (aC.cells q0)) [⟨1, 0, false, [.bx 1 0]⟩, ⟨1, 0, false, (av.cells q1)⟩]
def Q1yd (p0 : Val) (o1 : av) : Rs := Q2dz p0 o1 (Qac p0 o1).1 (Qac p0 o1).2
def Q1pg (p0 : Val) : Prop := Val.Sm 1000000000 p0
theorem Qxn (p0 : Val) (_o1 : av) (H : Q1pg p0) : (Q197 p0) ∧ (Qde p0) ∧ True := by
  repeat' with_reducible apply And.intro
  all_goals first | exact True.intro | exact H | exact Qp H _
theorem Q2g4 (p0 : Val) (o1 : av) (H : Q1pg p0) : Q5 G (Q29b p0 o1) (Q1yd p0 o1) := by
 unfold Q1yd
 rw [Q2co]
 exact Q6 (fn := Ir.K68) (by kernel_rfl) (h := [⟨1, 0, false, [.bx 1 0]⟩, ⟨1, 0, false, (av.cells o1)⟩]) (vw := []) VOK.nil [] [aN (Q1is p0 Qi o1 (Qxn p0 o1 H).1), aN (Q7y p0 Q3i (Q43 p0 Qi o1).2 (Qxn p0 o1 H).2.1), aN (Q7y p0 Q2y (Q1x p0 Q3i (Q43 p0 Qi o1).2).2 (Qxn p0 o1 H).2.1)] (by kernel_rfl)
def Q61 (p1 : Val) (p2 : BA) (o0 : av) : List Val → Nat → Int → (List aC) → Int × (List aC)
 | [], _i0, ah, ay =>
  (ah, ay)
 | x0 :: r0, i0, ah, ay =>
  Q61 p1 p2 o0 r0 (i0 + 1) (Qac x0 (av.mk ah)).2.bR (ay ++ [(Qac x0 (av.mk ah)).1])
def Q1fk (p1 : Val) (p2 : BA) (o0 : av) (i0 : Nat) (_ah : Int) (ay : List aC) : List PV :=
  [.un, .un, .un, .fn 206 [] [.bx 1 0]] ++ nuns 5 ++ [.ms 2 3 0 (List.length ay)] ++ nuns 8 ++ [.sl (Val.rows (Qu (Q9 p1 p2 o0).1 4 (Q9 p1 p2 o0).2).1.list), iN ((List.length (Qu (Q9 p1 p2 o0).1 4 (Q9 p1 p2 o0).2).1.list) : Int), iN (i0 : Int)] ++ nuns 11
def Qzt (_p1 : Val) (_p2 : BA) (_o0 : av) (_i0 : Nat) (ah : Int) (ay : List aC) : List Ob :=
  [⟨1, 0, false, [iN ah]⟩, ⟨1, 0, false, [.bx 0 0]⟩, ⟨3, 0, true, (aC.rows ay).flatten⟩]
def Qha (p1 : Val) (p2 : BA) (o0 : av) (i0 : Nat) (ah : Int) (ay : List aC) : En := .loop 2 Ir.Qlm Ir.Q1nz (Q1fk p1 p2 o0 i0 ah ay) (Qzt p1 p2 o0 i0 ah ay)
def Qsj (_p1 : Val) (_p2 : BA) (_o0 : av) (q0 : Int) (q1 : List aC) (z : Nat → PV) (_zo : Nat → List PV) : St :=
  ⟨zr z 0 9 ++ [.ms 2 3 0 (List.length q1)] ++ zr z 10 22, [(0, ⟨1, 0, false, [iN q0]⟩), (1, ⟨1, 0, false, [.bx 0 0]⟩), (2, ⟨3, 0, true, (aC.rows q1).flatten⟩)], 67⟩
theorem Q15y (p1 : Val) (p2 : BA) (o0 : av) (i0 : Nat) (ah : Int) (ay : List aC) : VOK (Go.Pv.look (number 0 (Qzt p1 p2 o0 i0 ah ay))) [(2, aC.rows ay)] := (VOK.cons (show Seen _ _ from Q3r (ob := ⟨3, 0, true, (aC.rows ay).flatten⟩) (aC.Q8 ay 3 rfl)) VOK.nil)
def Qj3 (p1 : Val) (p2 : BA) (o0 : av) (e : En) (q : Int × (List aC)) : Prop := ∃ z zo, Q5 G e (.st (.exit 0) (Qsj p1 p2 o0 q.1 q.2 z zo))
theorem Qwv (p1 : Val) (p2 : BA) (o0 : av) {e e' : En} (h : ∀ r, Q5 G e r → Q5 G e' r) : ∀ q, Qj3 p1 p2 o0 e q → Qj3 p1 p2 o0 e' q
  | _, ⟨z, zo, hz⟩ => ⟨z, zo, h _ hz⟩
def Qdl (p1 : Val) (p2 : BA) (o0 : av) : Prop := (List.length (Qu (Q9 p1 p2 o0).1 4 (Q9 p1 p2 o0).2).1.list ≤ 137438953472) ∧ (∀ x0 ∈ (Qu (Q9 p1 p2 o0).1 4 (Q9 p1 p2 o0).2).1.list, Q1pg x0) ∧ True
def Qul (p1 : Val) (p2 : BA) (o0 : av) (i0 : Nat) (_ah : Int) (_ay : List aC) : List PV :=
  [.un, .un, .un, .fn 206 [] [.bx 1 0]] ++ nuns 14 ++ [.sl (Val.rows (Qu (Q9 p1 p2 o0).1 4 (Q9 p1 p2 o0).2).1.list), iN ((List.length (Qu (Q9 p1 p2 o0).1 4 (Q9 p1 p2 o0).2).1.list) : Int), iN (i0 : Int), .bool false]
def Qni (_p1 : Val) (_p2 : BA) (_o0 : av) (_i0 : Nat) (_ah : Int) (_ay : List aC) : List (Nat × List PV) :=
  []
theorem Q1e0 (p1 : Val) (p2 : BA) (o0 : av) (_H : Qdl p1 p2 o0) (i0 : Nat) (ah : Int) (ay : List aC) (_aR : List.length ay ≤ i0) (bF : (decide ((i0 : Int) < ((List.length (Qu (Q9 p1 p2 o0).1 4 (Q9 p1 p2 o0).2).1.list) : Int))) = false) : Qj3 p1 p2 o0 (Qha p1 p2 o0 i0 ah ay) (ah, ay) := by
 exact ⟨(envF (Qul p1 p2 o0 i0 ah ay)), (zoF (Qni p1 p2 o0 i0 ah ay)), Qg (Q15y p1 p2 o0 i0 ah ay) (x := ((.exit 0), Qsj p1 p2 o0 ah ay (envF (Qul p1 p2 o0 i0 ah ay)) (zoF (Qni p1 p2 o0 i0 ah ay)))) [hB 0 bF] [] (by kernel_rfl)⟩
theorem Q1bp (p1 : Val) (p2 : BA) (o0 : av) (H : Qdl p1 p2 o0) (x0 : Val) (i0 : Nat) (ah : Int) (ay : List aC) (bH : (Qu (Q9 p1 p2 o0).1 4 (Q9 p1 p2 o0).2).1.list[i0]? = some x0) (bT : i0 < List.length (Qu (Q9 p1 p2 o0).1 4 (Q9 p1 p2 o0).2).1.list) (aR : List.length ay ≤ i0) (bF : (decide ((i0 : Int) < ((List.length (Qu (Q9 p1 p2 o0).1 4 (Q9 p1 p2 o0).2).1.list) : Int))) = true) {r : Rs} (hr : Q5 G (Qha p1 p2 o0 (i0 + 1) (Qac x0 (av.mk ah)).2.bR (ay ++ [(Qac x0 (av.mk ah)).1])) r) : Q5 G (Qha p1 p2 o0 i0 ah ay) r := by
 have hB0 := H.1
 exact Qc (Q15y p1 p2 o0 i0 ah ay) [hB 0 bF, hP 0 (Q1f 5 _ i0 _ (Val.Qb bH) rfl), hA 8 2 579 643 3 32 0 0 true aC.Q7 aC.Q1l ay (Qac x0 (av.mk ah)).1 (aC.Qt ay) rfl rfl (by omega), hS 0 true (aC.Q8 (ay ++ [(Qac x0 (av.mk ah)).1]) 3 rfl), hP 1 (Q26 i0 (by omega))] [aN (Q2g4 x0 (av.mk ah) (H.2.1 x0 (Q15 bH)))] hr (by kernel_rfl)
theorem Q12l (p1 : Val) (p2 : BA) (o0 : av) (H : Qdl p1 p2 o0) : ∀ (r0 : List Val) (i0 : Nat) (ah : Int) (ay : List aC), List.drop i0 (Qu (Q9 p1 p2 o0).1 4 (Q9 p1 p2 o0).2).1.list = r0 → List.length ay ≤ i0 → Qj3 p1 p2 o0 (Qha p1 p2 o0 i0 ah ay) (Q61 p1 p2 o0 r0 i0 ah ay)
 | [], i0, ah, ay, hd, aR => by
  have bF : (decide ((i0 : Int) < ((List.length (Qu (Q9 p1 p2 o0).1 4 (Q9 p1 p2 o0).2).1.list) : Int))) = false := by have := Q1n hd; simp; omega
  rw [Q61]
  exact Q1e0 p1 p2 o0 H i0 ah ay aR bF
 | x0 :: r0, i0, ah, ay, hd, aR => by
  obtain ⟨bH, bT, hd'⟩ := Q1o hd
  have bF : (decide ((i0 : Int) < ((List.length (Qu (Q9 p1 p2 o0).1 4 (Q9 p1 p2 o0).2).1.list) : Int))) = true := by simp; omega
  rw [Q61]
  exact Qwv p1 p2 o0 (fun r hr => Q1bp p1 p2 o0 H x0 i0 ah ay bH bT aR bF hr) _ (Q12l p1 p2 o0 H r0 _ _ _ hd' (by first | omega | (simp; omega)))
def Qer (p1 : Val) (p2 : BA) (o0 : av) : List aC × av := ((dE aC.dec p1 p2).1, bp o0 (pE (aC.cnt) p1 p2))
theorem Q18x (p1 : Val) (p2 : BA) (o0 : av) : ∀ (l : List Val) (i : Nat) (b : Int) (a : List aC), Q61 p1 p2 o0 l i b a = (bw b (sumC (aC.cnt) l), a ++ l.map (fun x => (aC.dec x).1))
  | [], _, b, a => by rw [Q61]; simp [sumC, bw]
  | x :: l, i, b, a => by
    rw [Q61]
    refine (Q18x p1 p2 o0 l (i + 1) (bw b ((aC.cnt) x)) (a ++ [(aC.dec x).1])).trans ?_
    rw [Qce]
    simp only [List.append_assoc, List.singleton_append, List.map_cons, sumC]
theorem Q2d3 (p1 : Val) (p2 : BA) (o0 : av) : Qer p1 p2 o0 = (((Q61 p1 p2 o0 (Qu (Q9 p1 p2 o0).1 4 (Q9 p1 p2 o0).2).1.list 0 (Qu (Q9 p1 p2 o0).1 4 (Q9 p1 p2 o0).2).2.bR []).2, (av.mk (Q61 p1 p2 o0 (Qu (Q9 p1 p2 o0).1 4 (Q9 p1 p2 o0).2).1.list 0 (Qu (Q9 p1 p2 o0).1 4 (Q9 p1 p2 o0).2).2.bR []).1))) := by
  rw [Q18x]
  unfold Q9 Qu Qer
  simp only [Q6o, getL, Qa7, Qce]
  rfl
def Q29q (p1 : Val) (p2 : BA) (o0 : av) : En := .call 205 [.bx 0 0, .agg (Val.cells p1), .str p2, .fn 206 [] [.bx 1 0]] [⟨1, 0, false, (av.cells o0)⟩, ⟨1, 0, false, [.bx 0 0]⟩]
def Q2ee (_p1 : Val) (_p2 : BA) (_o0 : av) (q0 : List aC) (q1 : av) : Rs := .ret (.sl (aC.rows q0)) [⟨1, 0, false, (av.cells q1)⟩, ⟨1, 0, false, [.bx 0 0]⟩]
def Q1ys (p1 : Val) (p2 : BA) (o0 : av) : Rs := Q2ee p1 p2 o0 (Qer p1 p2 o0).1 (Qer p1 p2 o0).2
def Q1po (p1 : Val) : Prop := Val.Sm 1000000000 p1
theorem Q17d (p1 : Val) (p2 : BA) (o0 : av) (H : Q1po p1) : (Qc0 p1) ∧ (Qdl p1 p2 o0) ∧ True := by
  have hl := Q69 (Qp H p2)
  refine ⟨H, ?_, trivial⟩
  unfold Qdl Q9 Qu
  simp only [getL]
  exact ⟨Nat.le_trans hl.1 (Nat.le_of_ble_eq_true rfl), hl.2, trivial⟩
theorem Q2gd (p1 : Val) (p2 : BA) (o0 : av) (H : Q1po p1) : Q5 G (Q29q p1 p2 o0) (Q1ys p1 p2 o0) := by
 unfold Q1ys
 rw [Q2d3]
 have hl0 := Q12l p1 p2 o0 ((Q17d p1 p2 o0 H).2.1) (Qu (Q9 p1 p2 o0).1 4 (Q9 p1 p2 o0).2).1.list 0 (Qu (Q9 p1 p2 o0).1 4 (Q9 p1 p2 o0).2).2.bR [] (by simp) (by simp)
 obtain ⟨z0, eG, hl0⟩ := hl0
 exact Q6 (fn := Ir.K6q) (by kernel_rfl) (h := [⟨1, 0, false, (av.cells o0)⟩, ⟨1, 0, false, [.bx 0 0]⟩]) (vw := []) VOK.nil [hP 10 (Qq _ _ (Val.Q7 (Qu (Q9 p1 p2 o0).1 4 (Q9 p1 p2 o0).2).1.list)), hS 0 true (aC.Q8 (Q61 p1 p2 o0 (Qu (Q9 p1 p2 o0).1 4 (Q9 p1 p2 o0).2).1.list 0 (Qu (Q9 p1 p2 o0).1 4 (Q9 p1 p2 o0).2).2.bR []).2 3 rfl), hQ (aC.Q7 (Q61 p1 p2 o0 (Qu (Q9 p1 p2 o0).1 4 (Q9 p1 p2 o0).2).1.list 0 (Qu (Q9 p1 p2 o0).1 4 (Q9 p1 p2 o0).2).2.bR []).2).symm] [aN (Qc6 p1 p2 o0 (Q17d p1 p2 o0 H).1), aN (Qae (Q9 p1 p2 o0).1 4 (Q9 p1 p2 o0).2), aV [(2, aC.rows (Q61 p1 p2 o0 (Qu (Q9 p1 p2 o0).1 4 (Q9 p1 p2 o0).2).1.list 0 (Qu (Q9 p1 p2 o0).1 4 (Q9 p1 p2 o0).2).2.bR []).2)] hl0] (by kernel_rfl)
def Qa6 (p1 : Val) (o0 : av) : List aC × av := ((dE aC.dec p1 Qn).1, bp o0 (pE aC.cnt p1 Qn))
theorem Q2cn (p1 : Val) (o0 : av) : Qa6 p1 o0 = (((Qer p1 Qn o0).1, (Qer p1 Qn o0).2)) := by
  rfl
def Q29a (p1 : Val) (o0 : av) : En := .call 135 [.bx 0 0, .agg (Val.cells p1)] [⟨1, 0, false, (av.cells o0)⟩]
def Q2dy (_p1 : Val) (_o0 : av) (q0 : List aC) (q1 : av) : Rs := .ret (.sl (aC.rows q0)) [⟨1, 0, false, (av.cells q1)⟩]
def Q1yc (p1 : Val) (o0 : av) : Rs := Q2dy p1 o0 (Qa6 p1 o0).1 (Qa6 p1 o0).2
def Q1k7 (p1 : Val) : Prop := Val.Sm 1000000000 p1
theorem Q1ld (p1 : Val) (_o0 : av) (H : Q1k7 p1) : (Q1po p1) ∧ True := by
  repeat' with_reducible apply And.intro
  all_goals first | exact True.intro | exact H
theorem Q20f (p1 : Val) (o0 : av) (H : Q1k7 p1) : Q5 G (Q29a p1 o0) (Q1yc p1 o0) := by
 unfold Q1yc
 rw [Q2cn]
 exact Q6 (fn := Ir.K67) (by kernel_rfl) (h := [⟨1, 0, false, (av.cells o0)⟩]) (vw := []) VOK.nil [] [aN (Q2gd p1 Qn o0 (Q1ld p1 o0 H).1)] (by kernel_rfl)
def Qes (p1 : aY) (o0 : av) : aY × Int :=
 bif (decide (0 < o0.bR)) then
  ((aY.mk (bN.mk eB eB eB 0 0 0 0 false 0 [] [] [] []) [] [] false 0), 6)
 else
  (p1, 0)
def Q29v (p1 : aY) (o0 : av) : En := .call 134 [.bx 0 0, .agg (aY.cells p1)] [⟨1, 0, false, (av.cells o0)⟩]
def Q2ej (_p1 : aY) (o0 : av) (q0 : aY) (q1 : Int) : Rs := .ret (.tup [.agg (aY.cells q0), iN q1]) [⟨1, 0, false, (av.cells o0)⟩]
def Q1yx (p1 : aY) (o0 : av) : Rs := Q2ej p1 o0 (Qes p1 o0).1 (Qes p1 o0).2
theorem Q2gh (p1 : aY) (o0 : av) : Q5 G (Q29v p1 o0) (Q1yx p1 o0) := by
 unfold Q1yx Qes
 cases h0 : (decide (0 < o0.bR)) with
 | true =>
  exact Q6 (fn := Ir.K7f) (by kernel_rfl) (h := [⟨1, 0, false, (av.cells o0)⟩]) (vw := []) VOK.nil [hB 7 h0] [] (by kernel_rfl)
 | false =>
  exact Q6 (fn := Ir.K7f) (by kernel_rfl) (h := [⟨1, 0, false, (av.cells o0)⟩]) (vw := []) VOK.nil [hB 7 h0] [] (by kernel_rfl)
def Qpt (p0 : aD) : av :=
  (Q4s p0.aU (Q49 p0 Q2r)).2
def Qq3 (p0 : aD) : av :=
  (Qa6 p0.aU (Qpt p0)).2
def Qqb (p0 : aD) : av :=
  (Q44 p0.aU Q3v (Qq3 p0)).2
def Q14j (p0 : aD) : av :=
  (Q1x p0.aZ Q10 (Qqb p0)).2
def Q1in (p0 : aD) : aY × Int := resC (aY.cnt p0) (aY.of p0) aY.z
theorem Q13z (n : Nat) (x : aY) : Qes x (bp ⟨0⟩ n) = resC n x aY.z := rfl
theorem Q2ce (p0 : aD) : Q1in p0 = (((Qes (aY.mk p0.aM (Q4s p0.aU (Q49 p0 Q2r)).1 (Qa6 p0.aU (Qpt p0)).1 (Q44 p0.aU Q3v (Qq3 p0)).1 (Q1x p0.aZ Q10 (Qqb p0)).1) (Q14j p0)).1, (Qes (aY.mk p0.aM (Q4s p0.aU (Q49 p0 Q2r)).1 (Qa6 p0.aU (Qpt p0)).1 (Q44 p0.aU Q3v (Qq3 p0)).1 (Q1x p0.aZ Q10 (Qqb p0)).1) (Q14j p0)).2)) := by
  simp only [Qpt, Qq3, Qqb, Q14j, Q1x, Q44, Q4s, Qa6, Qes, Q49, Q6o]
  refine Eq.trans ?_ (Q13z _ _).symm
  refine Qco ?_ rfl
  unfold aY.cnt
  omega
def Q291 (p0 : aD) : En := .call 35 [.agg (aD.cells p0)] []
def Q1y3 (p0 : aD) : Rs := .ret (.tup [.agg (aY.cells (Q1in p0).1), iN (Q1in p0).2]) []
def Q1k5 (p0 : aD) : Prop := Qbz p0.aM ∧ aD.sm p0
theorem Qe8 (p0 : aD) (H : Q1k5 p0) : (Qbz p0.aM) ∧ (Qzz p0.aU) ∧ (Q1k7 p0.aU) ∧ (Qvj p0.aU) ∧ (Qde p0.aZ) ∧ True := by
  repeat' with_reducible apply And.intro
  all_goals first | exact True.intro | exact H.1 | exact H.2 | exact H.2.1 | exact H.2.2 | exact Qp H.2.1 _ | exact Qp H.2.2 _
theorem Q2fz (p0 : aD) (H : Q1k5 p0) : Q5 G (Q291 p0) (Q1y3 p0) := by
 unfold Q1y3
 rw [Q2ce]
 exact Q6 (fn := Ir.K5x) (by kernel_rfl) VOK.nil [] [aN (Q14c p0 Q2r), aN (Q14b p0.aM (Qe8 p0 H).1), aN (Q1c4 p0.aU (Q49 p0 Q2r) (Qe8 p0 H).2.1), aN (Q20f p0.aU (Qpt p0) (Qe8 p0 H).2.2.1), aN (Qyi p0.aU Q3v (Qq3 p0) (Qe8 p0 H).2.2.2.1), aN (Q7y p0.aZ Q10 (Qqb p0) (Qe8 p0 H).2.2.2.2.1), aN (Q2gh (aY.mk p0.aM (Q4s p0.aU (Q49 p0 Q2r)).1 (Qa6 p0.aU (Qpt p0)).1 (Q44 p0.aU Q3v (Qq3 p0)).1 (Q1x p0.aZ Q10 (Qqb p0)).1) (Q14j p0))] (by kernel_rfl)
def Qc1 (p0 : Val) (o1 : av) : aT × av := ((aT.dec p0).1, bp o1 (aT.cnt p0))
theorem Q2c8 (p0 : Val) (o1 : av) : Qc1 p0 o1 = (((aT.mk (Q43 p0 Q2v o1).1 (Q43 p0 Q1b (Q43 p0 Q2v o1).2).1 (Q1x p0 Q10 (Q43 p0 Q1b (Q43 p0 Q2v o1).2).2).1 (Q44 p0 Qh (Q1x p0 Q10 (Q43 p0 Q1b (Q43 p0 Q2v o1).2).2).2).1 (Q44 p0 Q1y (Q44 p0 Qh (Q1x p0 Q10 (Q43 p0 Q1b (Q43 p0 Q2v o1).2).2).2).2).1), (Q44 p0 Q1y (Q44 p0 Qh (Q1x p0 Q10 (Q43 p0 Q1b (Q43 p0 Q2v o1).2).2).2).2).2)) := by
  simp only [Q1x, Q43, Q44, Qc1, Q6o]
  refine Prod.ext rfl (congrArg (bp o1) ?_)
  show aT.cnt p0 = _
  try unfold aT.cnt
  try unfold cM
  first | rfl | omega
def Q28v (p0 : Val) (o1 : av) : En := .call 138 [.agg (Val.cells p0), .bx 0 0] [⟨1, 0, false, [.bx 1 0]⟩, ⟨1, 0, false, (av.cells o1)⟩]
def Q2dp (_p0 : Val) (_o1 : av) (q0 : aT) (q1 : av) : Rs := .ret (.agg (aT.cells q0)) [⟨1, 0, false, [.bx 1 0]⟩, ⟨1, 0, false, (av.cells q1)⟩]
def Q1xx (p0 : Val) (o1 : av) : Rs := Q2dp p0 o1 (Qc1 p0 o1).1 (Qc1 p0 o1).2
def Q1pb (p0 : Val) : Prop := Val.Sm 1000000000 p0
theorem Qe6 (p0 : Val) (_o1 : av) (H : Q1pb p0) : (Q197 p0) ∧ (Qde p0) ∧ (Qvj p0) ∧ True := by
  repeat' with_reducible apply And.intro
  all_goals first | exact True.intro | exact H | exact Qp H _
theorem Q2ft (p0 : Val) (o1 : av) (H : Q1pb p0) : Q5 G (Q28v p0 o1) (Q1xx p0 o1) := by
 unfold Q1xx
 rw [Q2c8]
 exact Q6 (fn := Ir.K5q) (by kernel_rfl) (h := [⟨1, 0, false, [.bx 1 0]⟩, ⟨1, 0, false, (av.cells o1)⟩]) (vw := []) VOK.nil [] [aN (Q1is p0 Q2v o1 (Qe6 p0 o1 H).1), aN (Q1is p0 Q1b (Q43 p0 Q2v o1).2 (Qe6 p0 o1 H).1), aN (Q7y p0 Q10 (Q43 p0 Q1b (Q43 p0 Q2v o1).2).2 (Qe6 p0 o1 H).2.1), aN (Qyi p0 Qh (Q1x p0 Q10 (Q43 p0 Q1b (Q43 p0 Q2v o1).2).2).2 (Qe6 p0 o1 H).2.2.1), aN (Qyi p0 Q1y (Q44 p0 Qh (Q1x p0 Q10 (Q43 p0 Q1b (Q43 p0 Q2v o1).2).2).2).2 (Qe6 p0 o1 H).2.2.1)] (by kernel_rfl)
def Q5v (p1 : Val) (p2 : BA) (o0 : av) : List Val → Nat → Int → (List aT) → Int × (List aT)
 | [], _i0, ah, ay =>
  (ah, ay)
 | x0 :: r0, i0, ah, ay =>
  Q5v p1 p2 o0 r0 (i0 + 1) (Qc1 x0 (av.mk ah)).2.bR (ay ++ [(Qc1 x0 (av.mk ah)).1])
def Q1fe (p1 : Val) (p2 : BA) (o0 : av) (i0 : Nat) (_ah : Int) (ay : List aT) : List PV :=
  [.un, .un, .un, .fn 138 [] [.bx 1 0]] ++ nuns 5 ++ [.ms 2 5 0 (List.length ay)] ++ nuns 8 ++ [.sl (Val.rows (Qu (Q9 p1 p2 o0).1 4 (Q9 p1 p2 o0).2).1.list), iN ((List.length (Qu (Q9 p1 p2 o0).1 4 (Q9 p1 p2 o0).2).1.list) : Int), iN (i0 : Int)] ++ nuns 11
def Qzn (_p1 : Val) (_p2 : BA) (_o0 : av) (_i0 : Nat) (ah : Int) (ay : List aT) : List Ob :=
  [⟨1, 0, false, [iN ah]⟩, ⟨1, 0, false, [.bx 0 0]⟩, ⟨5, 0, true, (aT.rows ay).flatten⟩]
def Qh4 (p1 : Val) (p2 : BA) (o0 : av) (i0 : Nat) (ah : Int) (ay : List aT) : En := .loop 2 Ir.Qlg Ir.Q1nt (Q1fe p1 p2 o0 i0 ah ay) (Qzn p1 p2 o0 i0 ah ay)
def Qsd (_p1 : Val) (_p2 : BA) (_o0 : av) (q0 : Int) (q1 : List aT) (z : Nat → PV) (_zo : Nat → List PV) : St :=
  ⟨zr z 0 9 ++ [.ms 2 5 0 (List.length q1)] ++ zr z 10 22, [(0, ⟨1, 0, false, [iN q0]⟩), (1, ⟨1, 0, false, [.bx 0 0]⟩), (2, ⟨5, 0, true, (aT.rows q1).flatten⟩)], 67⟩
theorem Q15s (p1 : Val) (p2 : BA) (o0 : av) (i0 : Nat) (ah : Int) (ay : List aT) : VOK (Go.Pv.look (number 0 (Qzn p1 p2 o0 i0 ah ay))) [(2, aT.rows ay)] := (VOK.cons (show Seen _ _ from Q3r (ob := ⟨5, 0, true, (aT.rows ay).flatten⟩) (aT.Q8 ay 5 rfl)) VOK.nil)
def Qix (p1 : Val) (p2 : BA) (o0 : av) (e : En) (q : Int × (List aT)) : Prop := ∃ z zo, Q5 G e (.st (.exit 0) (Qsd p1 p2 o0 q.1 q.2 z zo))
theorem Qwp (p1 : Val) (p2 : BA) (o0 : av) {e e' : En} (h : ∀ r, Q5 G e r → Q5 G e' r) : ∀ q, Qix p1 p2 o0 e q → Qix p1 p2 o0 e' q
  | _, ⟨z, zo, hz⟩ => ⟨z, zo, h _ hz⟩
def Qdf (p1 : Val) (p2 : BA) (o0 : av) : Prop := (List.length (Qu (Q9 p1 p2 o0).1 4 (Q9 p1 p2 o0).2).1.list ≤ 137438953472) ∧ (∀ x0 ∈ (Qu (Q9 p1 p2 o0).1 4 (Q9 p1 p2 o0).2).1.list, Q1pb x0) ∧ True
def Quf (p1 : Val) (p2 : BA) (o0 : av) (i0 : Nat) (_ah : Int) (_ay : List aT) : List PV :=
  [.un, .un, .un, .fn 138 [] [.bx 1 0]] ++ nuns 14 ++ [.sl (Val.rows (Qu (Q9 p1 p2 o0).1 4 (Q9 p1 p2 o0).2).1.list), iN ((List.length (Qu (Q9 p1 p2 o0).1 4 (Q9 p1 p2 o0).2).1.list) : Int), iN (i0 : Int), .bool false]
def Qnc (_p1 : Val) (_p2 : BA) (_o0 : av) (_i0 : Nat) (_ah : Int) (_ay : List aT) : List (Nat × List PV) :=
  []
theorem Q1du (p1 : Val) (p2 : BA) (o0 : av) (_H : Qdf p1 p2 o0) (i0 : Nat) (ah : Int) (ay : List aT) (_aR : List.length ay ≤ i0) (bF : (decide ((i0 : Int) < ((List.length (Qu (Q9 p1 p2 o0).1 4 (Q9 p1 p2 o0).2).1.list) : Int))) = false) : Qix p1 p2 o0 (Qh4 p1 p2 o0 i0 ah ay) (ah, ay) := by
 exact ⟨(envF (Quf p1 p2 o0 i0 ah ay)), (zoF (Qnc p1 p2 o0 i0 ah ay)), Qg (Q15s p1 p2 o0 i0 ah ay) (x := ((.exit 0), Qsd p1 p2 o0 ah ay (envF (Quf p1 p2 o0 i0 ah ay)) (zoF (Qnc p1 p2 o0 i0 ah ay)))) [hB 0 bF] [] (by kernel_rfl)⟩
theorem Q1bj (p1 : Val) (p2 : BA) (o0 : av) (H : Qdf p1 p2 o0) (x0 : Val) (i0 : Nat) (ah : Int) (ay : List aT) (bH : (Qu (Q9 p1 p2 o0).1 4 (Q9 p1 p2 o0).2).1.list[i0]? = some x0) (bT : i0 < List.length (Qu (Q9 p1 p2 o0).1 4 (Q9 p1 p2 o0).2).1.list) (aR : List.length ay ≤ i0) (bF : (decide ((i0 : Int) < ((List.length (Qu (Q9 p1 p2 o0).1 4 (Q9 p1 p2 o0).2).1.list) : Int))) = true) {r : Rs} (hr : Q5 G (Qh4 p1 p2 o0 (i0 + 1) (Qc1 x0 (av.mk ah)).2.bR (ay ++ [(Qc1 x0 (av.mk ah)).1])) r) : Q5 G (Qh4 p1 p2 o0 i0 ah ay) r := by
 have hB0 := H.1
 exact Qc (Q15s p1 p2 o0 i0 ah ay) [hB 0 bF, hP 0 (Q1f 5 _ i0 _ (Val.Qb bH) rfl), hA 8 2 579 643 5 48 0 0 true aT.Q7 aT.Q1l ay (Qc1 x0 (av.mk ah)).1 (aT.Qt ay) rfl rfl (by omega), hS 0 true (aT.Q8 (ay ++ [(Qc1 x0 (av.mk ah)).1]) 5 rfl), hP 1 (Q26 i0 (by omega))] [aN (Q2ft x0 (av.mk ah) (H.2.1 x0 (Q15 bH)))] hr (by kernel_rfl)
theorem Q12f (p1 : Val) (p2 : BA) (o0 : av) (H : Qdf p1 p2 o0) : ∀ (r0 : List Val) (i0 : Nat) (ah : Int) (ay : List aT), List.drop i0 (Qu (Q9 p1 p2 o0).1 4 (Q9 p1 p2 o0).2).1.list = r0 → List.length ay ≤ i0 → Qix p1 p2 o0 (Qh4 p1 p2 o0 i0 ah ay) (Q5v p1 p2 o0 r0 i0 ah ay)
 | [], i0, ah, ay, hd, aR => by
  have bF : (decide ((i0 : Int) < ((List.length (Qu (Q9 p1 p2 o0).1 4 (Q9 p1 p2 o0).2).1.list) : Int))) = false := by have := Q1n hd; simp; omega
  rw [Q5v]
  exact Q1du p1 p2 o0 H i0 ah ay aR bF
 | x0 :: r0, i0, ah, ay, hd, aR => by
  obtain ⟨bH, bT, hd'⟩ := Q1o hd
  have bF : (decide ((i0 : Int) < ((List.length (Qu (Q9 p1 p2 o0).1 4 (Q9 p1 p2 o0).2).1.list) : Int))) = true := by simp; omega
  rw [Q5v]
  exact Qwp p1 p2 o0 (fun r hr => Q1bj p1 p2 o0 H x0 i0 ah ay bH bT aR bF hr) _ (Q12f p1 p2 o0 H r0 _ _ _ hd' (by first | omega | (simp; omega)))
def Qep (p1 : Val) (p2 : BA) (o0 : av) : List aT × av := ((dE aT.dec p1 p2).1, bp o0 (pE (aT.cnt) p1 p2))
theorem Q18r (p1 : Val) (p2 : BA) (o0 : av) : ∀ (l : List Val) (i : Nat) (b : Int) (a : List aT), Q5v p1 p2 o0 l i b a = (bw b (sumC (aT.cnt) l), a ++ l.map (fun x => (aT.dec x).1))
  | [], _, b, a => by rw [Q5v]; simp [sumC, bw]
  | x :: l, i, b, a => by
    rw [Q5v]
    refine (Q18r p1 p2 o0 l (i + 1) (bw b ((aT.cnt) x)) (a ++ [(aT.dec x).1])).trans ?_
    rw [Qce]
    simp only [List.append_assoc, List.singleton_append, List.map_cons, sumC]
theorem Q2cx (p1 : Val) (p2 : BA) (o0 : av) : Qep p1 p2 o0 = (((Q5v p1 p2 o0 (Qu (Q9 p1 p2 o0).1 4 (Q9 p1 p2 o0).2).1.list 0 (Qu (Q9 p1 p2 o0).1 4 (Q9 p1 p2 o0).2).2.bR []).2, (av.mk (Q5v p1 p2 o0 (Qu (Q9 p1 p2 o0).1 4 (Q9 p1 p2 o0).2).1.list 0 (Qu (Q9 p1 p2 o0).1 4 (Q9 p1 p2 o0).2).2.bR []).1))) := by
  rw [Q18r]
  unfold Q9 Qu Qep
  simp only [Q6o, getL, Qa7, Qce]
  rfl
def Q29k (p1 : Val) (p2 : BA) (o0 : av) : En := .call 137 [.bx 0 0, .agg (Val.cells p1), .str p2, .fn 138 [] [.bx 1 0]] [⟨1, 0, false, (av.cells o0)⟩, ⟨1, 0, false, [.bx 0 0]⟩]
def Q2e8 (_p1 : Val) (_p2 : BA) (_o0 : av) (q0 : List aT) (q1 : av) : Rs := .ret (.sl (aT.rows q0)) [⟨1, 0, false, (av.cells q1)⟩, ⟨1, 0, false, [.bx 0 0]⟩]
def Q1ym (p1 : Val) (p2 : BA) (o0 : av) : Rs := Q2e8 p1 p2 o0 (Qep p1 p2 o0).1 (Qep p1 p2 o0).2
def Q1pi (p1 : Val) : Prop := Val.Sm 1000000000 p1
theorem Q177 (p1 : Val) (p2 : BA) (o0 : av) (H : Q1pi p1) : (Qc0 p1) ∧ (Qdf p1 p2 o0) ∧ True := by
  have hl := Q69 (Qp H p2)
  refine ⟨H, ?_, trivial⟩
  unfold Qdf Q9 Qu
  simp only [getL]
  exact ⟨Nat.le_trans hl.1 (Nat.le_of_ble_eq_true rfl), hl.2, trivial⟩
theorem Q2g7 (p1 : Val) (p2 : BA) (o0 : av) (H : Q1pi p1) : Q5 G (Q29k p1 p2 o0) (Q1ym p1 p2 o0) := by
 unfold Q1ym
 rw [Q2cx]
 have hl0 := Q12f p1 p2 o0 ((Q177 p1 p2 o0 H).2.1) (Qu (Q9 p1 p2 o0).1 4 (Q9 p1 p2 o0).2).1.list 0 (Qu (Q9 p1 p2 o0).1 4 (Q9 p1 p2 o0).2).2.bR [] (by simp) (by simp)
 obtain ⟨z0, eG, hl0⟩ := hl0
 exact Q6 (fn := Ir.K6k) (by kernel_rfl) (h := [⟨1, 0, false, (av.cells o0)⟩, ⟨1, 0, false, [.bx 0 0]⟩]) (vw := []) VOK.nil [hP 10 (Qq _ _ (Val.Q7 (Qu (Q9 p1 p2 o0).1 4 (Q9 p1 p2 o0).2).1.list)), hS 0 true (aT.Q8 (Q5v p1 p2 o0 (Qu (Q9 p1 p2 o0).1 4 (Q9 p1 p2 o0).2).1.list 0 (Qu (Q9 p1 p2 o0).1 4 (Q9 p1 p2 o0).2).2.bR []).2 5 rfl), hQ (aT.Q7 (Q5v p1 p2 o0 (Qu (Q9 p1 p2 o0).1 4 (Q9 p1 p2 o0).2).1.list 0 (Qu (Q9 p1 p2 o0).1 4 (Q9 p1 p2 o0).2).2.bR []).2).symm] [aN (Qc6 p1 p2 o0 (Q177 p1 p2 o0 H).1), aN (Qae (Q9 p1 p2 o0).1 4 (Q9 p1 p2 o0).2), aV [(2, aT.rows (Q5v p1 p2 o0 (Qu (Q9 p1 p2 o0).1 4 (Q9 p1 p2 o0).2).1.list 0 (Qu (Q9 p1 p2 o0).1 4 (Q9 p1 p2 o0).2).2.bR []).2)] hl0] (by kernel_rfl)
def Qg6 (p1 : aH) (o0 : av) : aH × Int :=
 bif (decide (0 < o0.bR)) then
  ((aH.mk (bN.mk eB eB eB 0 0 0 0 false 0 [] [] [] []) [] []), 6)
 else
  (p1, 0)
def Q29w (p1 : aH) (o0 : av) : En := .call 139 [.bx 0 0, .agg (aH.cells p1)] [⟨1, 0, false, (av.cells o0)⟩]
def Q2ek (_p1 : aH) (o0 : av) (q0 : aH) (q1 : Int) : Rs := .ret (.tup [.agg (aH.cells q0), iN q1]) [⟨1, 0, false, (av.cells o0)⟩]
def Q1yy (p1 : aH) (o0 : av) : Rs := Q2ek p1 o0 (Qg6 p1 o0).1 (Qg6 p1 o0).2
theorem Q2gi (p1 : aH) (o0 : av) : Q5 G (Q29w p1 o0) (Q1yy p1 o0) := by
 unfold Q1yy Qg6
 cases h0 : (decide (0 < o0.bR)) with
 | true =>
  exact Q6 (fn := Ir.K7g) (by kernel_rfl) (h := [⟨1, 0, false, (av.cells o0)⟩]) (vw := []) VOK.nil [hB 7 h0] [] (by kernel_rfl)
 | false =>
  exact Q6 (fn := Ir.K7g) (by kernel_rfl) (h := [⟨1, 0, false, (av.cells o0)⟩]) (vw := []) VOK.nil [hB 7 h0] [] (by kernel_rfl)
end Go.Proofs.YtimjjohlpnkacaaGreat
end

section
/- What the program's decoders compute (printed by a program). -/
namespace Go.Proofs.YtimjjohlpnkacaaGreat
open Go.Pv
def Qpp (p0 : aD) : av :=
  (Qep p0.aU Q20 (Q49 p0 Q1k)).2
def Q14h (p0 : aD) : av :=
  (Qa6 p0.aU (Qpp p0)).2
def Q1ij (p0 : aD) : aH × Int := resC (aH.cnt p0) (aH.of p0) aH.z
theorem Qoo (n : Nat) (x : aH) : Qg6 x (bp ⟨0⟩ n) = resC n x aH.z := rfl
theorem Q2c7 (p0 : aD) : Q1ij p0 = (((Qg6 (aH.mk p0.aM (Qa6 p0.aU (Qpp p0)).1 (Qep p0.aU Q20 (Q49 p0 Q1k)).1) (Q14h p0)).1, (Qg6 (aH.mk p0.aM (Qa6 p0.aU (Qpp p0)).1 (Qep p0.aU Q20 (Q49 p0 Q1k)).1) (Q14h p0)).2)) := by
  simp only [Qpp, Q14h, Qa6, Qep, Qg6, Q49, Q6o]
  refine Eq.trans ?_ (Qoo _ _).symm
  refine Qco ?_ rfl
  unfold aH.cnt
  omega
def Q28u (p0 : aD) : En := .call 37 [.agg (aD.cells p0)] []
def Q1xw (p0 : aD) : Rs := .ret (.tup [.agg (aH.cells (Q1ij p0).1), iN (Q1ij p0).2]) []
def Q1k1 (p0 : aD) : Prop := Qbz p0.aM ∧ aD.sm p0
theorem Qxl (p0 : aD) (H : Q1k1 p0) : (Q1pi p0.aU) ∧ (Qbz p0.aM) ∧ (Q1k7 p0.aU) ∧ True := by
  repeat' with_reducible apply And.intro
  all_goals first | exact True.intro | exact H.1 | exact H.2 | exact H.2.1 | exact H.2.2 | exact Qp H.2.1 _ | exact Qp H.2.2 _
theorem Q2fs (p0 : aD) (H : Q1k1 p0) : Q5 G (Q28u p0) (Q1xw p0) := by
 unfold Q1xw
 rw [Q2c7]
 exact Q6 (fn := Ir.K5p) (by kernel_rfl) VOK.nil [] [aN (Q14c p0 Q1k), aN (Q2g7 p0.aU Q20 (Q49 p0 Q1k) (Qxl p0 H).1), aN (Q14b p0.aM (Qxl p0 H).2.1), aN (Q20f p0.aU (Qpp p0) (Qxl p0 H).2.2.1), aN (Q2gi (aH.mk p0.aM (Qa6 p0.aU (Qpp p0)).1 (Qep p0.aU Q20 (Q49 p0 Q1k)).1) (Q14h p0))] (by kernel_rfl)
def Qeo (p0 : Val) (o1 : av) : bM × av := ((bM.dec p0).1, bp o1 (bM.cnt p0))
theorem Q2cb (p0 : Val) (o1 : av) : Qeo p0 o1 = (((bM.mk (Q43 p0 Q1r o1).1 (Q4s p0 (Q43 p0 Q1r o1).2).1), (Q4s p0 (Q43 p0 Q1r o1).2).2)) := by
  simp only [Q43, Q4s, Qeo, Q6o]
  refine Prod.ext rfl (congrArg (bp o1) ?_)
  show bM.cnt p0 = _
  try unfold bM.cnt
  try unfold cM
  first | rfl | omega
def Q28y (p0 : Val) (o1 : av) : En := .call 149 [.agg (Val.cells p0), .bx 0 0] [⟨1, 0, false, [.bx 1 0]⟩, ⟨1, 0, false, (av.cells o1)⟩]
def Q2dr (_p0 : Val) (_o1 : av) (q0 : bM) (q1 : av) : Rs := .ret (.agg (bM.cells q0)) [⟨1, 0, false, [.bx 1 0]⟩, ⟨1, 0, false, (av.cells q1)⟩]
def Q1y0 (p0 : Val) (o1 : av) : Rs := Q2dr p0 o1 (Qeo p0 o1).1 (Qeo p0 o1).2
def Q1pd (p0 : Val) : Prop := Val.Sm 1000000000 p0
theorem Q175 (p0 : Val) (_o1 : av) (H : Q1pd p0) : (Q197 p0) ∧ (Qzz p0) ∧ True := by
  repeat' with_reducible apply And.intro
  all_goals first | exact True.intro | exact H | exact Qp H _
theorem Q2fw (p0 : Val) (o1 : av) (H : Q1pd p0) : Q5 G (Q28y p0 o1) (Q1y0 p0 o1) := by
 unfold Q1y0
 rw [Q2cb]
 exact Q6 (fn := Ir.K5u) (by kernel_rfl) (h := [⟨1, 0, false, [.bx 1 0]⟩, ⟨1, 0, false, (av.cells o1)⟩]) (vw := []) VOK.nil [] [aN (Q1is p0 Q1r o1 (Q175 p0 o1 H).1), aN (Q1c4 p0 (Q43 p0 Q1r o1).2 (Q175 p0 o1 H).2.1)] (by kernel_rfl)
def Q5x (p1 : Val) (p2 : BA) (o0 : av) : List Val → Nat → Int → (List bM) → Int × (List bM)
 | [], _i0, ah, ay =>
  (ah, ay)
 | x0 :: r0, i0, ah, ay =>
  Q5x p1 p2 o0 r0 (i0 + 1) (Qeo x0 (av.mk ah)).2.bR (ay ++ [(Qeo x0 (av.mk ah)).1])
def Q1fg (p1 : Val) (p2 : BA) (o0 : av) (i0 : Nat) (_ah : Int) (ay : List bM) : List PV :=
  [.un, .un, .un, .fn 149 [] [.bx 1 0]] ++ nuns 5 ++ [.ms 2 2 0 (List.length ay)] ++ nuns 8 ++ [.sl (Val.rows (Qu (Q9 p1 p2 o0).1 4 (Q9 p1 p2 o0).2).1.list), iN ((List.length (Qu (Q9 p1 p2 o0).1 4 (Q9 p1 p2 o0).2).1.list) : Int), iN (i0 : Int)] ++ nuns 11
def Qzp (_p1 : Val) (_p2 : BA) (_o0 : av) (_i0 : Nat) (ah : Int) (ay : List bM) : List Ob :=
  [⟨1, 0, false, [iN ah]⟩, ⟨1, 0, false, [.bx 0 0]⟩, ⟨2, 0, true, (bM.rows ay).flatten⟩]
def Qh6 (p1 : Val) (p2 : BA) (o0 : av) (i0 : Nat) (ah : Int) (ay : List bM) : En := .loop 2 Ir.Qli Ir.Q1nv (Q1fg p1 p2 o0 i0 ah ay) (Qzp p1 p2 o0 i0 ah ay)
def Qsf (_p1 : Val) (_p2 : BA) (_o0 : av) (q0 : Int) (q1 : List bM) (z : Nat → PV) (_zo : Nat → List PV) : St :=
  ⟨zr z 0 9 ++ [.ms 2 2 0 (List.length q1)] ++ zr z 10 22, [(0, ⟨1, 0, false, [iN q0]⟩), (1, ⟨1, 0, false, [.bx 0 0]⟩), (2, ⟨2, 0, true, (bM.rows q1).flatten⟩)], 67⟩
theorem Q15u (p1 : Val) (p2 : BA) (o0 : av) (i0 : Nat) (ah : Int) (ay : List bM) : VOK (Go.Pv.look (number 0 (Qzp p1 p2 o0 i0 ah ay))) [(2, bM.rows ay)] := (VOK.cons (show Seen _ _ from Q3r (ob := ⟨2, 0, true, (bM.rows ay).flatten⟩) (bM.Q8 ay 2 rfl)) VOK.nil)
def Qiz (p1 : Val) (p2 : BA) (o0 : av) (e : En) (q : Int × (List bM)) : Prop := ∃ z zo, Q5 G e (.st (.exit 0) (Qsf p1 p2 o0 q.1 q.2 z zo))
theorem Qwr (p1 : Val) (p2 : BA) (o0 : av) {e e' : En} (h : ∀ r, Q5 G e r → Q5 G e' r) : ∀ q, Qiz p1 p2 o0 e q → Qiz p1 p2 o0 e' q
  | _, ⟨z, zo, hz⟩ => ⟨z, zo, h _ hz⟩
def Qdh (p1 : Val) (p2 : BA) (o0 : av) : Prop := (List.length (Qu (Q9 p1 p2 o0).1 4 (Q9 p1 p2 o0).2).1.list ≤ 137438953472) ∧ (∀ x0 ∈ (Qu (Q9 p1 p2 o0).1 4 (Q9 p1 p2 o0).2).1.list, Q1pd x0) ∧ True
def Quh (p1 : Val) (p2 : BA) (o0 : av) (i0 : Nat) (_ah : Int) (_ay : List bM) : List PV :=
  [.un, .un, .un, .fn 149 [] [.bx 1 0]] ++ nuns 14 ++ [.sl (Val.rows (Qu (Q9 p1 p2 o0).1 4 (Q9 p1 p2 o0).2).1.list), iN ((List.length (Qu (Q9 p1 p2 o0).1 4 (Q9 p1 p2 o0).2).1.list) : Int), iN (i0 : Int), .bool false]
def Qne (_p1 : Val) (_p2 : BA) (_o0 : av) (_i0 : Nat) (_ah : Int) (_ay : List bM) : List (Nat × List PV) :=
  []
theorem Q1dw (p1 : Val) (p2 : BA) (o0 : av) (_H : Qdh p1 p2 o0) (i0 : Nat) (ah : Int) (ay : List bM) (_aR : List.length ay ≤ i0) (bF : (decide ((i0 : Int) < ((List.length (Qu (Q9 p1 p2 o0).1 4 (Q9 p1 p2 o0).2).1.list) : Int))) = false) : Qiz p1 p2 o0 (Qh6 p1 p2 o0 i0 ah ay) (ah, ay) := by
 exact ⟨(envF (Quh p1 p2 o0 i0 ah ay)), (zoF (Qne p1 p2 o0 i0 ah ay)), Qg (Q15u p1 p2 o0 i0 ah ay) (x := ((.exit 0), Qsf p1 p2 o0 ah ay (envF (Quh p1 p2 o0 i0 ah ay)) (zoF (Qne p1 p2 o0 i0 ah ay)))) [hB 0 bF] [] (by kernel_rfl)⟩
theorem Q1bl (p1 : Val) (p2 : BA) (o0 : av) (H : Qdh p1 p2 o0) (x0 : Val) (i0 : Nat) (ah : Int) (ay : List bM) (bH : (Qu (Q9 p1 p2 o0).1 4 (Q9 p1 p2 o0).2).1.list[i0]? = some x0) (bT : i0 < List.length (Qu (Q9 p1 p2 o0).1 4 (Q9 p1 p2 o0).2).1.list) (aR : List.length ay ≤ i0) (bF : (decide ((i0 : Int) < ((List.length (Qu (Q9 p1 p2 o0).1 4 (Q9 p1 p2 o0).2).1.list) : Int))) = true) {r : Rs} (hr : Q5 G (Qh6 p1 p2 o0 (i0 + 1) (Qeo x0 (av.mk ah)).2.bR (ay ++ [(Qeo x0 (av.mk ah)).1])) r) : Q5 G (Qh6 p1 p2 o0 i0 ah ay) r := by
 have hB0 := H.1
 exact Qc (Q15u p1 p2 o0 i0 ah ay) [hB 0 bF, hP 0 (Q1f 5 _ i0 _ (Val.Qb bH) rfl), hA 8 2 579 643 2 40 0 0 true bM.Q7 bM.Q1l ay (Qeo x0 (av.mk ah)).1 (bM.Qt ay) rfl rfl (by omega), hS 0 true (bM.Q8 (ay ++ [(Qeo x0 (av.mk ah)).1]) 2 rfl), hP 1 (Q26 i0 (by omega))] [aN (Q2fw x0 (av.mk ah) (H.2.1 x0 (Q15 bH)))] hr (by kernel_rfl)
theorem Q12h (p1 : Val) (p2 : BA) (o0 : av) (H : Qdh p1 p2 o0) : ∀ (r0 : List Val) (i0 : Nat) (ah : Int) (ay : List bM), List.drop i0 (Qu (Q9 p1 p2 o0).1 4 (Q9 p1 p2 o0).2).1.list = r0 → List.length ay ≤ i0 → Qiz p1 p2 o0 (Qh6 p1 p2 o0 i0 ah ay) (Q5x p1 p2 o0 r0 i0 ah ay)
 | [], i0, ah, ay, hd, aR => by
  have bF : (decide ((i0 : Int) < ((List.length (Qu (Q9 p1 p2 o0).1 4 (Q9 p1 p2 o0).2).1.list) : Int))) = false := by have := Q1n hd; simp; omega
  rw [Q5x]
  exact Q1dw p1 p2 o0 H i0 ah ay aR bF
 | x0 :: r0, i0, ah, ay, hd, aR => by
  obtain ⟨bH, bT, hd'⟩ := Q1o hd
  have bF : (decide ((i0 : Int) < ((List.length (Qu (Q9 p1 p2 o0).1 4 (Q9 p1 p2 o0).2).1.list) : Int))) = true := by simp; omega
  rw [Q5x]
  exact Qwr p1 p2 o0 (fun r hr => Q1bl p1 p2 o0 H x0 i0 ah ay bH bT aR bF hr) _ (Q12h p1 p2 o0 H r0 _ _ _ hd' (by first | omega | (simp; omega)))
def Qeq (p1 : Val) (p2 : BA) (o0 : av) : List bM × av := ((dE bM.dec p1 p2).1, bp o0 (pE (bM.cnt) p1 p2))
theorem Q18t (p1 : Val) (p2 : BA) (o0 : av) : ∀ (l : List Val) (i : Nat) (b : Int) (a : List bM), Q5x p1 p2 o0 l i b a = (bw b (sumC (bM.cnt) l), a ++ l.map (fun x => (bM.dec x).1))
  | [], _, b, a => by rw [Q5x]; simp [sumC, bw]
  | x :: l, i, b, a => by
    rw [Q5x]
    refine (Q18t p1 p2 o0 l (i + 1) (bw b ((bM.cnt) x)) (a ++ [(bM.dec x).1])).trans ?_
    rw [Qce]
    simp only [List.append_assoc, List.singleton_append, List.map_cons, sumC]
theorem Q2cz (p1 : Val) (p2 : BA) (o0 : av) : Qeq p1 p2 o0 = (((Q5x p1 p2 o0 (Qu (Q9 p1 p2 o0).1 4 (Q9 p1 p2 o0).2).1.list 0 (Qu (Q9 p1 p2 o0).1 4 (Q9 p1 p2 o0).2).2.bR []).2, (av.mk (Q5x p1 p2 o0 (Qu (Q9 p1 p2 o0).1 4 (Q9 p1 p2 o0).2).1.list 0 (Qu (Q9 p1 p2 o0).1 4 (Q9 p1 p2 o0).2).2.bR []).1))) := by
  rw [Q18t]
  unfold Q9 Qu Qeq
  simp only [Q6o, getL, Qa7, Qce]
  rfl
def Q29m (p1 : Val) (p2 : BA) (o0 : av) : En := .call 148 [.bx 0 0, .agg (Val.cells p1), .str p2, .fn 149 [] [.bx 1 0]] [⟨1, 0, false, (av.cells o0)⟩, ⟨1, 0, false, [.bx 0 0]⟩]
def Q2ea (_p1 : Val) (_p2 : BA) (_o0 : av) (q0 : List bM) (q1 : av) : Rs := .ret (.sl (bM.rows q0)) [⟨1, 0, false, (av.cells q1)⟩, ⟨1, 0, false, [.bx 0 0]⟩]
def Q1yo (p1 : Val) (p2 : BA) (o0 : av) : Rs := Q2ea p1 p2 o0 (Qeq p1 p2 o0).1 (Qeq p1 p2 o0).2
def Q1pk (p1 : Val) : Prop := Val.Sm 1000000000 p1
theorem Q179 (p1 : Val) (p2 : BA) (o0 : av) (H : Q1pk p1) : (Qc0 p1) ∧ (Qdh p1 p2 o0) ∧ True := by
  have hl := Q69 (Qp H p2)
  refine ⟨H, ?_, trivial⟩
  unfold Qdh Q9 Qu
  simp only [getL]
  exact ⟨Nat.le_trans hl.1 (Nat.le_of_ble_eq_true rfl), hl.2, trivial⟩
theorem Q2g9 (p1 : Val) (p2 : BA) (o0 : av) (H : Q1pk p1) : Q5 G (Q29m p1 p2 o0) (Q1yo p1 p2 o0) := by
 unfold Q1yo
 rw [Q2cz]
 have hl0 := Q12h p1 p2 o0 ((Q179 p1 p2 o0 H).2.1) (Qu (Q9 p1 p2 o0).1 4 (Q9 p1 p2 o0).2).1.list 0 (Qu (Q9 p1 p2 o0).1 4 (Q9 p1 p2 o0).2).2.bR [] (by simp) (by simp)
 obtain ⟨z0, eG, hl0⟩ := hl0
 exact Q6 (fn := Ir.K6m) (by kernel_rfl) (h := [⟨1, 0, false, (av.cells o0)⟩, ⟨1, 0, false, [.bx 0 0]⟩]) (vw := []) VOK.nil [hP 10 (Qq _ _ (Val.Q7 (Qu (Q9 p1 p2 o0).1 4 (Q9 p1 p2 o0).2).1.list)), hS 0 true (bM.Q8 (Q5x p1 p2 o0 (Qu (Q9 p1 p2 o0).1 4 (Q9 p1 p2 o0).2).1.list 0 (Qu (Q9 p1 p2 o0).1 4 (Q9 p1 p2 o0).2).2.bR []).2 2 rfl), hQ (bM.Q7 (Q5x p1 p2 o0 (Qu (Q9 p1 p2 o0).1 4 (Q9 p1 p2 o0).2).1.list 0 (Qu (Q9 p1 p2 o0).1 4 (Q9 p1 p2 o0).2).2.bR []).2).symm] [aN (Qc6 p1 p2 o0 (Q179 p1 p2 o0 H).1), aN (Qae (Q9 p1 p2 o0).1 4 (Q9 p1 p2 o0).2), aV [(2, bM.rows (Q5x p1 p2 o0 (Qu (Q9 p1 p2 o0).1 4 (Q9 p1 p2 o0).2).1.list 0 (Qu (Q9 p1 p2 o0).1 4 (Q9 p1 p2 o0).2).2.bR []).2)] hl0] (by kernel_rfl)
def Qfb (p0 : Val) (o1 : av) : aG × av := ((aG.dec p0).1, bp o1 (aG.cnt p0))
theorem Q2ca (p0 : Val) (o1 : av) : Qfb p0 o1 = (((aG.mk (Q44 p0 Qw (Qeq p0 Q21 o1).2).1 (Qeq p0 Q21 o1).1 (Qc2 p0 Qn (Q44 p0 Qw (Qeq p0 Q21 o1).2).2).1), (Qc2 p0 Qn (Q44 p0 Qw (Qeq p0 Q21 o1).2).2).2)) := by
  simp only [Q44, Qc2, Qeq, Qfb, Q6o]
  refine Prod.ext rfl (congrArg (bp o1) ?_)
  show aG.cnt p0 = _
  try unfold aG.cnt
  try unfold cM
  first | rfl | omega
def Q28x (p0 : Val) (o1 : av) : En := .call 147 [.agg (Val.cells p0), .bx 0 0] [⟨1, 0, false, [.bx 1 0]⟩, ⟨1, 0, false, (av.cells o1)⟩]
def Q2dq (_p0 : Val) (_o1 : av) (q0 : aG) (q1 : av) : Rs := .ret (.agg (aG.cells q0)) [⟨1, 0, false, [.bx 1 0]⟩, ⟨1, 0, false, (av.cells q1)⟩]
def Q1xz (p0 : Val) (o1 : av) : Rs := Q2dq p0 o1 (Qfb p0 o1).1 (Qfb p0 o1).2
def Q1pc (p0 : Val) : Prop := Val.Sm 1000000000 p0
theorem Qxm (p0 : Val) (_o1 : av) (H : Q1pc p0) : (Q1pk p0) ∧ (Qvj p0) ∧ (Q1pf p0) ∧ True := by
  repeat' with_reducible apply And.intro
  all_goals first | exact True.intro | exact H | exact Qp H _
theorem Q2fv (p0 : Val) (o1 : av) (H : Q1pc p0) : Q5 G (Q28x p0 o1) (Q1xz p0 o1) := by
 unfold Q1xz
 rw [Q2ca]
 exact Q6 (fn := Ir.K5t) (by kernel_rfl) (h := [⟨1, 0, false, [.bx 1 0]⟩, ⟨1, 0, false, (av.cells o1)⟩]) (vw := []) VOK.nil [] [aN (Q2g9 p0 Q21 o1 (Qxm p0 o1 H).1), aN (Qyi p0 Qw (Qeq p0 Q21 o1).2 (Qxm p0 o1 H).2.1), aN (Q2g2 p0 Qn (Q44 p0 Qw (Qeq p0 Q21 o1).2).2 (Qxm p0 o1 H).2.2.1)] (by kernel_rfl)
def Q5w (p1 : Val) (p2 : BA) (o0 : av) : List Val → Nat → Int → (List aG) → Int × (List aG)
 | [], _i0, ah, ay =>
  (ah, ay)
 | x0 :: r0, i0, ah, ay =>
  Q5w p1 p2 o0 r0 (i0 + 1) (Qfb x0 (av.mk ah)).2.bR (ay ++ [(Qfb x0 (av.mk ah)).1])
def Q1ff (p1 : Val) (p2 : BA) (o0 : av) (i0 : Nat) (_ah : Int) (ay : List aG) : List PV :=
  [.un, .un, .un, .fn 147 [] [.bx 1 0]] ++ nuns 5 ++ [.ms 2 3 0 (List.length ay)] ++ nuns 8 ++ [.sl (Val.rows (Qu (Q9 p1 p2 o0).1 4 (Q9 p1 p2 o0).2).1.list), iN ((List.length (Qu (Q9 p1 p2 o0).1 4 (Q9 p1 p2 o0).2).1.list) : Int), iN (i0 : Int)] ++ nuns 11
def Qzo (_p1 : Val) (_p2 : BA) (_o0 : av) (_i0 : Nat) (ah : Int) (ay : List aG) : List Ob :=
  [⟨1, 0, false, [iN ah]⟩, ⟨1, 0, false, [.bx 0 0]⟩, ⟨3, 0, true, (aG.rows ay).flatten⟩]
def Qh5 (p1 : Val) (p2 : BA) (o0 : av) (i0 : Nat) (ah : Int) (ay : List aG) : En := .loop 2 Ir.Qlh Ir.Q1nu (Q1ff p1 p2 o0 i0 ah ay) (Qzo p1 p2 o0 i0 ah ay)
def Qse (_p1 : Val) (_p2 : BA) (_o0 : av) (q0 : Int) (q1 : List aG) (z : Nat → PV) (_zo : Nat → List PV) : St :=
  ⟨zr z 0 9 ++ [.ms 2 3 0 (List.length q1)] ++ zr z 10 22, [(0, ⟨1, 0, false, [iN q0]⟩), (1, ⟨1, 0, false, [.bx 0 0]⟩), (2, ⟨3, 0, true, (aG.rows q1).flatten⟩)], 67⟩
theorem Q15t (p1 : Val) (p2 : BA) (o0 : av) (i0 : Nat) (ah : Int) (ay : List aG) : VOK (Go.Pv.look (number 0 (Qzo p1 p2 o0 i0 ah ay))) [(2, aG.rows ay)] := (VOK.cons (show Seen _ _ from Q3r (ob := ⟨3, 0, true, (aG.rows ay).flatten⟩) (aG.Q8 ay 3 rfl)) VOK.nil)
def Qiy (p1 : Val) (p2 : BA) (o0 : av) (e : En) (q : Int × (List aG)) : Prop := ∃ z zo, Q5 G e (.st (.exit 0) (Qse p1 p2 o0 q.1 q.2 z zo))
theorem Qwq (p1 : Val) (p2 : BA) (o0 : av) {e e' : En} (h : ∀ r, Q5 G e r → Q5 G e' r) : ∀ q, Qiy p1 p2 o0 e q → Qiy p1 p2 o0 e' q
  | _, ⟨z, zo, hz⟩ => ⟨z, zo, h _ hz⟩
def Qdg (p1 : Val) (p2 : BA) (o0 : av) : Prop := (List.length (Qu (Q9 p1 p2 o0).1 4 (Q9 p1 p2 o0).2).1.list ≤ 137438953472) ∧ (∀ x0 ∈ (Qu (Q9 p1 p2 o0).1 4 (Q9 p1 p2 o0).2).1.list, Q1pc x0) ∧ True
def Qug (p1 : Val) (p2 : BA) (o0 : av) (i0 : Nat) (_ah : Int) (_ay : List aG) : List PV :=
  [.un, .un, .un, .fn 147 [] [.bx 1 0]] ++ nuns 14 ++ [.sl (Val.rows (Qu (Q9 p1 p2 o0).1 4 (Q9 p1 p2 o0).2).1.list), iN ((List.length (Qu (Q9 p1 p2 o0).1 4 (Q9 p1 p2 o0).2).1.list) : Int), iN (i0 : Int), .bool false]
def Qnd (_p1 : Val) (_p2 : BA) (_o0 : av) (_i0 : Nat) (_ah : Int) (_ay : List aG) : List (Nat × List PV) :=
  []
theorem Q1dv (p1 : Val) (p2 : BA) (o0 : av) (_H : Qdg p1 p2 o0) (i0 : Nat) (ah : Int) (ay : List aG) (_aR : List.length ay ≤ i0) (bF : (decide ((i0 : Int) < ((List.length (Qu (Q9 p1 p2 o0).1 4 (Q9 p1 p2 o0).2).1.list) : Int))) = false) : Qiy p1 p2 o0 (Qh5 p1 p2 o0 i0 ah ay) (ah, ay) := by
 exact ⟨(envF (Qug p1 p2 o0 i0 ah ay)), (zoF (Qnd p1 p2 o0 i0 ah ay)), Qg (Q15t p1 p2 o0 i0 ah ay) (x := ((.exit 0), Qse p1 p2 o0 ah ay (envF (Qug p1 p2 o0 i0 ah ay)) (zoF (Qnd p1 p2 o0 i0 ah ay)))) [hB 0 bF] [] (by kernel_rfl)⟩
theorem Q1bk (p1 : Val) (p2 : BA) (o0 : av) (H : Qdg p1 p2 o0) (x0 : Val) (i0 : Nat) (ah : Int) (ay : List aG) (bH : (Qu (Q9 p1 p2 o0).1 4 (Q9 p1 p2 o0).2).1.list[i0]? = some x0) (bT : i0 < List.length (Qu (Q9 p1 p2 o0).1 4 (Q9 p1 p2 o0).2).1.list) (aR : List.length ay ≤ i0) (bF : (decide ((i0 : Int) < ((List.length (Qu (Q9 p1 p2 o0).1 4 (Q9 p1 p2 o0).2).1.list) : Int))) = true) {r : Rs} (hr : Q5 G (Qh5 p1 p2 o0 (i0 + 1) (Qfb x0 (av.mk ah)).2.bR (ay ++ [(Qfb x0 (av.mk ah)).1])) r) : Q5 G (Qh5 p1 p2 o0 i0 ah ay) r := by
 have hB0 := H.1
 exact Qc (Q15t p1 p2 o0 i0 ah ay) [hB 0 bF, hP 0 (Q1f 5 _ i0 _ (Val.Qb bH) rfl), hA 8 2 579 643 3 56 0 0 true aG.Q7 aG.Q1l ay (Qfb x0 (av.mk ah)).1 (aG.Qt ay) rfl rfl (by omega), hS 0 true (aG.Q8 (ay ++ [(Qfb x0 (av.mk ah)).1]) 3 rfl), hP 1 (Q26 i0 (by omega))] [aN (Q2fv x0 (av.mk ah) (H.2.1 x0 (Q15 bH)))] hr (by kernel_rfl)
theorem Q12g (p1 : Val) (p2 : BA) (o0 : av) (H : Qdg p1 p2 o0) : ∀ (r0 : List Val) (i0 : Nat) (ah : Int) (ay : List aG), List.drop i0 (Qu (Q9 p1 p2 o0).1 4 (Q9 p1 p2 o0).2).1.list = r0 → List.length ay ≤ i0 → Qiy p1 p2 o0 (Qh5 p1 p2 o0 i0 ah ay) (Q5w p1 p2 o0 r0 i0 ah ay)
 | [], i0, ah, ay, hd, aR => by
  have bF : (decide ((i0 : Int) < ((List.length (Qu (Q9 p1 p2 o0).1 4 (Q9 p1 p2 o0).2).1.list) : Int))) = false := by have := Q1n hd; simp; omega
  rw [Q5w]
  exact Q1dv p1 p2 o0 H i0 ah ay aR bF
 | x0 :: r0, i0, ah, ay, hd, aR => by
  obtain ⟨bH, bT, hd'⟩ := Q1o hd
  have bF : (decide ((i0 : Int) < ((List.length (Qu (Q9 p1 p2 o0).1 4 (Q9 p1 p2 o0).2).1.list) : Int))) = true := by simp; omega
  rw [Q5w]
  exact Qwq p1 p2 o0 (fun r hr => Q1bk p1 p2 o0 H x0 i0 ah ay bH bT aR bF hr) _ (Q12g p1 p2 o0 H r0 _ _ _ hd' (by first | omega | (simp; omega)))
def Qp2 (p1 : Val) (p2 : BA) (o0 : av) : List aG × av := ((dE aG.dec p1 p2).1, bp o0 (pE (aG.cnt) p1 p2))
theorem Q18s (p1 : Val) (p2 : BA) (o0 : av) : ∀ (l : List Val) (i : Nat) (b : Int) (a : List aG), Q5w p1 p2 o0 l i b a = (bw b (sumC (aG.cnt) l), a ++ l.map (fun x => (aG.dec x).1))
  | [], _, b, a => by rw [Q5w]; simp [sumC, bw]
  | x :: l, i, b, a => by
    rw [Q5w]
    refine (Q18s p1 p2 o0 l (i + 1) (bw b ((aG.cnt) x)) (a ++ [(aG.dec x).1])).trans ?_
    rw [Qce]
    simp only [List.append_assoc, List.singleton_append, List.map_cons, sumC]
theorem Q2cy (p1 : Val) (p2 : BA) (o0 : av) : Qp2 p1 p2 o0 = (((Q5w p1 p2 o0 (Qu (Q9 p1 p2 o0).1 4 (Q9 p1 p2 o0).2).1.list 0 (Qu (Q9 p1 p2 o0).1 4 (Q9 p1 p2 o0).2).2.bR []).2, (av.mk (Q5w p1 p2 o0 (Qu (Q9 p1 p2 o0).1 4 (Q9 p1 p2 o0).2).1.list 0 (Qu (Q9 p1 p2 o0).1 4 (Q9 p1 p2 o0).2).2.bR []).1))) := by
  rw [Q18s]
  unfold Q9 Qu Qp2
  simp only [Q6o, getL, Qa7, Qce]
  rfl
def Q29l (p1 : Val) (p2 : BA) (o0 : av) : En := .call 146 [.bx 0 0, .agg (Val.cells p1), .str p2, .fn 147 [] [.bx 1 0]] [⟨1, 0, false, (av.cells o0)⟩, ⟨1, 0, false, [.bx 0 0]⟩]
def Q2e9 (_p1 : Val) (_p2 : BA) (_o0 : av) (q0 : List aG) (q1 : av) : Rs := .ret (.sl (aG.rows q0)) [⟨1, 0, false, (av.cells q1)⟩, ⟨1, 0, false, [.bx 0 0]⟩]
def Q1yn (p1 : Val) (p2 : BA) (o0 : av) : Rs := Q2e9 p1 p2 o0 (Qp2 p1 p2 o0).1 (Qp2 p1 p2 o0).2
def Q1pj (p1 : Val) : Prop := Val.Sm 1000000000 p1
theorem Q178 (p1 : Val) (p2 : BA) (o0 : av) (H : Q1pj p1) : (Qc0 p1) ∧ (Qdg p1 p2 o0) ∧ True := by
  have hl := Q69 (Qp H p2)
  refine ⟨H, ?_, trivial⟩
  unfold Qdg Q9 Qu
  simp only [getL]
  exact ⟨Nat.le_trans hl.1 (Nat.le_of_ble_eq_true rfl), hl.2, trivial⟩
theorem Q2g8 (p1 : Val) (p2 : BA) (o0 : av) (H : Q1pj p1) : Q5 G (Q29l p1 p2 o0) (Q1yn p1 p2 o0) := by
 unfold Q1yn
 rw [Q2cy]
 have hl0 := Q12g p1 p2 o0 ((Q178 p1 p2 o0 H).2.1) (Qu (Q9 p1 p2 o0).1 4 (Q9 p1 p2 o0).2).1.list 0 (Qu (Q9 p1 p2 o0).1 4 (Q9 p1 p2 o0).2).2.bR [] (by simp) (by simp)
 obtain ⟨z0, eG, hl0⟩ := hl0
 exact Q6 (fn := Ir.K6l) (by kernel_rfl) (h := [⟨1, 0, false, (av.cells o0)⟩, ⟨1, 0, false, [.bx 0 0]⟩]) (vw := []) VOK.nil [hP 10 (Qq _ _ (Val.Q7 (Qu (Q9 p1 p2 o0).1 4 (Q9 p1 p2 o0).2).1.list)), hS 0 true (aG.Q8 (Q5w p1 p2 o0 (Qu (Q9 p1 p2 o0).1 4 (Q9 p1 p2 o0).2).1.list 0 (Qu (Q9 p1 p2 o0).1 4 (Q9 p1 p2 o0).2).2.bR []).2 3 rfl), hQ (aG.Q7 (Q5w p1 p2 o0 (Qu (Q9 p1 p2 o0).1 4 (Q9 p1 p2 o0).2).1.list 0 (Qu (Q9 p1 p2 o0).1 4 (Q9 p1 p2 o0).2).2.bR []).2).symm] [aN (Qc6 p1 p2 o0 (Q178 p1 p2 o0 H).1), aN (Qae (Q9 p1 p2 o0).1 4 (Q9 p1 p2 o0).2), aV [(2, aG.rows (Q5w p1 p2 o0 (Qu (Q9 p1 p2 o0).1 4 (Q9 p1 p2 o0).2).1.list 0 (Qu (Q9 p1 p2 o0).1 4 (Q9 p1 p2 o0).2).2.bR []).2)] hl0] (by kernel_rfl)
def Qyf (p1 : aA) (o0 : av) : aA × Int :=
 bif (decide (0 < o0.bR)) then
  ((aA.mk (bN.mk eB eB eB 0 0 0 0 false 0 [] [] [] []) [] false false []), 6)
 else
  (p1, 0)
def Q29x (p1 : aA) (o0 : av) : En := .call 150 [.bx 0 0, .agg (aA.cells p1)] [⟨1, 0, false, (av.cells o0)⟩]
def Q2el (_p1 : aA) (o0 : av) (q0 : aA) (q1 : Int) : Rs := .ret (.tup [.agg (aA.cells q0), iN q1]) [⟨1, 0, false, (av.cells o0)⟩]
def Q1yz (p1 : aA) (o0 : av) : Rs := Q2el p1 o0 (Qyf p1 o0).1 (Qyf p1 o0).2
theorem Q2gj (p1 : aA) (o0 : av) : Q5 G (Q29x p1 o0) (Q1yz p1 o0) := by
 unfold Q1yz Qyf
 cases h0 : (decide (0 < o0.bR)) with
 | true =>
  exact Q6 (fn := Ir.K7h) (by kernel_rfl) (h := [⟨1, 0, false, (av.cells o0)⟩]) (vw := []) VOK.nil [hB 7 h0] [] (by kernel_rfl)
 | false =>
  exact Q6 (fn := Ir.K7h) (by kernel_rfl) (h := [⟨1, 0, false, (av.cells o0)⟩]) (vw := []) VOK.nil [hB 7 h0] [] (by kernel_rfl)
def Qpq (p0 : aD) : av :=
  (Qp2 p0.aU Q28 (Q49 p0 Q12)).2
def Qq0 (p0 : aD) : av :=
  (Q4s p0.aU (Qpq p0)).2
def Qq9 (p0 : aD) : av :=
  (Q44 p0.aU Q3e (Qq0 p0)).2
def Q14i (p0 : aD) : av :=
  (Q44 p0.aU Qw (Qq9 p0)).2
def Q1ik (p0 : aD) : aA × Int := resC (aA.cnt p0) (aA.of p0) aA.z
theorem Qfa (n : Nat) (x : aA) : Qyf x (bp ⟨0⟩ n) = resC n x aA.z := rfl
theorem Q2c9 (p0 : aD) : Q1ik p0 = (((Qyf (aA.mk p0.aM (Q4s p0.aU (Qpq p0)).1 (Q44 p0.aU Q3e (Qq0 p0)).1 (Q44 p0.aU Qw (Qq9 p0)).1 (Qp2 p0.aU Q28 (Q49 p0 Q12)).1) (Q14i p0)).1, (Qyf (aA.mk p0.aM (Q4s p0.aU (Qpq p0)).1 (Q44 p0.aU Q3e (Qq0 p0)).1 (Q44 p0.aU Qw (Qq9 p0)).1 (Qp2 p0.aU Q28 (Q49 p0 Q12)).1) (Q14i p0)).2)) := by
  simp only [Qpq, Qq0, Qq9, Q14i, Q44, Q4s, Qp2, Qyf, Q49, Q6o]
  refine Eq.trans ?_ (Qfa _ _).symm
  refine Qco ?_ rfl
  unfold aA.cnt
  omega
def Q28w (p0 : aD) : En := .call 41 [.agg (aD.cells p0)] []
def Q1xy (p0 : aD) : Rs := .ret (.tup [.agg (aA.cells (Q1ik p0).1), iN (Q1ik p0).2]) []
def Q1k2 (p0 : aD) : Prop := Qbz p0.aM ∧ aD.sm p0
theorem Qe7 (p0 : aD) (H : Q1k2 p0) : (Q1pj p0.aU) ∧ (Qbz p0.aM) ∧ (Qzz p0.aU) ∧ (Qvj p0.aU) ∧ True := by
  repeat' with_reducible apply And.intro
  all_goals first | exact True.intro | exact H.1 | exact H.2 | exact H.2.1 | exact H.2.2 | exact Qp H.2.1 _ | exact Qp H.2.2 _
theorem Q2fu (p0 : aD) (H : Q1k2 p0) : Q5 G (Q28w p0) (Q1xy p0) := by
 unfold Q1xy
 rw [Q2c9]
 exact Q6 (fn := Ir.K5s) (by kernel_rfl) VOK.nil [] [aN (Q14c p0 Q12), aN (Q2g8 p0.aU Q28 (Q49 p0 Q12) (Qe7 p0 H).1), aN (Q14b p0.aM (Qe7 p0 H).2.1), aN (Q1c4 p0.aU (Qpq p0) (Qe7 p0 H).2.2.1), aN (Qyi p0.aU Q3e (Qq0 p0) (Qe7 p0 H).2.2.2.1), aN (Qyi p0.aU Qw (Qq9 p0) (Qe7 p0 H).2.2.2.1), aN (Q2gj (aA.mk p0.aM (Q4s p0.aU (Qpq p0)).1 (Q44 p0.aU Q3e (Qq0 p0)).1 (Q44 p0.aU Qw (Qq9 p0)).1 (Qp2 p0.aU Q28 (Q49 p0 Q12)).1) (Q14i p0))] (by kernel_rfl)
def Qfc (p1 : Val) (o0 : av) : aW × av := ((aW.dec p1).1, bp o0 (aW.cnt p1))
theorem Q2cp (p1 : Val) (o0 : av) : Qfc p1 o0 = (((aW.mk (Q1x p1 Q3k o0).1 (Q1x p1 Q2p (Q1x p1 Q3k o0).2).1 (Q1x p1 Q42 (Q1x p1 Q2p (Q1x p1 Q3k o0).2).2).1), (Q1x p1 Q42 (Q1x p1 Q2p (Q1x p1 Q3k o0).2).2).2)) := by
  simp only [Q1x, Qfc, Q6o]
  refine Prod.ext rfl (congrArg (bp o0) ?_)
  show aW.cnt p1 = _
  try unfold aW.cnt
  try unfold cM
  first | rfl | omega
def Q29c (p1 : Val) (o0 : av) : En := .call 153 [.bx 0 0, .agg (Val.cells p1)] [⟨1, 0, false, (av.cells o0)⟩]
def Q2e0 (_p1 : Val) (_o0 : av) (q0 : aW) (q1 : av) : Rs := .ret (.agg (aW.cells q0)) [⟨1, 0, false, (av.cells q1)⟩]
def Q1ye (p1 : Val) (o0 : av) : Rs := Q2e0 p1 o0 (Qfc p1 o0).1 (Qfc p1 o0).2
def Q1k8 (p1 : Val) : Prop := Val.Sm 1000000000 p1
theorem Qxo (p1 : Val) (_o0 : av) (H : Q1k8 p1) : (Qde p1) ∧ True := by
  repeat' with_reducible apply And.intro
  all_goals first | exact True.intro | exact H | exact Qp H _
theorem Q20g (p1 : Val) (o0 : av) (H : Q1k8 p1) : Q5 G (Q29c p1 o0) (Q1ye p1 o0) := by
 unfold Q1ye
 rw [Q2cp]
 exact Q6 (fn := Ir.K69) (by kernel_rfl) (h := [⟨1, 0, false, (av.cells o0)⟩]) (vw := []) VOK.nil [] [aN (Q7y p1 Q3k o0 (Qxo p1 o0 H).1), aN (Q7y p1 Q2p (Q1x p1 Q3k o0).2 (Qxo p1 o0 H).1), aN (Q7y p1 Q42 (Q1x p1 Q2p (Q1x p1 Q3k o0).2).2 (Qxo p1 o0 H).1)] (by kernel_rfl)
def Q143 (p1 : bI) (o0 : av) : bI × Int :=
 bif (decide (0 < o0.bR)) then
  ((bI.mk (bN.mk eB eB eB 0 0 0 0 false 0 [] [] [] []) (aW.mk 0 0 0) (aW.mk 0 0 0) 0 0), 6)
 else
  (p1, 0)
def Q29y (p1 : bI) (o0 : av) : En := .call 152 [.bx 0 0, .agg (bI.cells p1)] [⟨1, 0, false, (av.cells o0)⟩]
def Q2em (_p1 : bI) (o0 : av) (q0 : bI) (q1 : Int) : Rs := .ret (.tup [.agg (bI.cells q0), iN q1]) [⟨1, 0, false, (av.cells o0)⟩]
def Q1z0 (p1 : bI) (o0 : av) : Rs := Q2em p1 o0 (Q143 p1 o0).1 (Q143 p1 o0).2
theorem Q2gk (p1 : bI) (o0 : av) : Q5 G (Q29y p1 o0) (Q1z0 p1 o0) := by
 unfold Q1z0 Q143
 cases h0 : (decide (0 < o0.bR)) with
 | true =>
  exact Q6 (fn := Ir.K7i) (by kernel_rfl) (h := [⟨1, 0, false, (av.cells o0)⟩]) (vw := []) VOK.nil [hB 7 h0] [] (by kernel_rfl)
 | false =>
  exact Q6 (fn := Ir.K7i) (by kernel_rfl) (h := [⟨1, 0, false, (av.cells o0)⟩]) (vw := []) VOK.nil [hB 7 h0] [] (by kernel_rfl)
def Qpr (p0 : aD) : av :=
  (Q9 p0.aU Q4m (Q49 p0 Q3a)).2
def Qq1 (p0 : aD) : av :=
  (Qfc (Q9 p0.aU Q4m (Q49 p0 Q3a)).1 (Qpr p0)).2
def Qcx (p0 : aD) : av :=
  (Q1x p0.aU Q51 (Qq1 p0)).2
def Qqh (p0 : aD) : av :=
  (Q9 p0.aZ Q4n (Qcx p0)).2
def Qqm (p0 : aD) : av :=
  (Qfc (Q9 p0.aZ Q4n (Qcx p0)).1 (Qqh p0)).2
def Q14l (p0 : aD) : av :=
  (Q1x p0.aZ Q76 (Qqm p0)).2
def Q1il (p0 : aD) : bI × Int := resC (bI.cnt p0) (bI.of p0) bI.z
theorem Q1i6 (n : Nat) (x : bI) : Q143 x (bp ⟨0⟩ n) = resC n x bI.z := rfl
theorem Q2cc (p0 : aD) : Q1il p0 = (((Q143 (bI.mk p0.aM (Qfc (Q9 p0.aU Q4m (Q49 p0 Q3a)).1 (Qpr p0)).1 (Qfc (Q9 p0.aZ Q4n (Qcx p0)).1 (Qqh p0)).1 (Q1x p0.aU Q51 (Qq1 p0)).1 (Q1x p0.aZ Q76 (Qqm p0)).1) (Q14l p0)).1, (Q143 (bI.mk p0.aM (Qfc (Q9 p0.aU Q4m (Q49 p0 Q3a)).1 (Qpr p0)).1 (Qfc (Q9 p0.aZ Q4n (Qcx p0)).1 (Qqh p0)).1 (Q1x p0.aU Q51 (Qq1 p0)).1 (Q1x p0.aZ Q76 (Qqm p0)).1) (Q14l p0)).2)) := by
  simp only [Qpr, Qq1, Qcx, Qqh, Qqm, Q14l, Q9, Q1x, Qfc, Q143, Q49, Q6o]
  refine Eq.trans ?_ (Q1i6 _ _).symm
  refine Qco ?_ rfl
  unfold bI.cnt
  omega
def Q28z (p0 : aD) : En := .call 43 [.agg (aD.cells p0)] []
def Q1y1 (p0 : aD) : Rs := .ret (.tup [.agg (bI.cells (Q1il p0).1), iN (Q1il p0).2]) []
def Q1k3 (p0 : aD) : Prop := Qbz p0.aM ∧ aD.sm p0
theorem Q9w (p0 : aD) (H : Q1k3 p0) : (Qbz p0.aM) ∧ (Qc0 p0.aU) ∧ (Q1k8 (Q9 p0.aU Q4m (Q49 p0 Q3a)).1) ∧ (Qde p0.aU) ∧ (Qc0 p0.aZ) ∧ (Q1k8 (Q9 p0.aZ Q4n (Qcx p0)).1) ∧ (Qde p0.aZ) ∧ True := by
  repeat' with_reducible apply And.intro
  all_goals first | exact True.intro | exact H.1 | exact H.2 | exact H.2.1 | exact H.2.2 | exact Qp H.2.1 _ | exact Qp H.2.2 _
theorem Q2fx (p0 : aD) (H : Q1k3 p0) : Q5 G (Q28z p0) (Q1y1 p0) := by
 unfold Q1y1
 rw [Q2cc]
 exact Q6 (fn := Ir.K5v) (by kernel_rfl) VOK.nil [] [aN (Q14c p0 Q3a), aN (Q14b p0.aM (Q9w p0 H).1), aN (Qc6 p0.aU Q4m (Q49 p0 Q3a) (Q9w p0 H).2.1), aN (Q20g (Q9 p0.aU Q4m (Q49 p0 Q3a)).1 (Qpr p0) (Q9w p0 H).2.2.1), aN (Q7y p0.aU Q51 (Qq1 p0) (Q9w p0 H).2.2.2.1), aN (Qc6 p0.aZ Q4n (Qcx p0) (Q9w p0 H).2.2.2.2.1), aN (Q20g (Q9 p0.aZ Q4n (Qcx p0)).1 (Qqh p0) (Q9w p0 H).2.2.2.2.2.1), aN (Q7y p0.aZ Q76 (Qqm p0) (Q9w p0 H).2.2.2.2.2.2.1), aN (Q2gk (bI.mk p0.aM (Qfc (Q9 p0.aU Q4m (Q49 p0 Q3a)).1 (Qpr p0)).1 (Qfc (Q9 p0.aZ Q4n (Qcx p0)).1 (Qqh p0)).1 (Q1x p0.aU Q51 (Qq1 p0)).1 (Q1x p0.aZ Q76 (Qqm p0)).1) (Q14l p0))] (by kernel_rfl)
end Go.Proofs.YtimjjohlpnkacaaGreat
end

