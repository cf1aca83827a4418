/- Texts of the claim, merged by a program; what the statement does not reach is left out. -/
import Derived.Test.YtimjjohlpnkacaaGreatBWorkcodecBack6

section
/- What the program's decoders compute (printed by a program). -/
namespace Go.Proofs.YtimjjohlpnkacaaGreat
open Go.Pv
structure av where
  dD : Int
def av.cells (x : av) : List PV :=
  [iN x.dD]
def av.rows (l : List av) : List (List PV) := l.map av.cells
def bp (o : av) (n : Nat) : av := ⟨bw o.dD n⟩
theorem Q96 (o : av) (a b : Nat) : bp (bp o a) b = bp o (a + b) := by unfold bp; rw [Qnj]
theorem Qeg (o : av) (n : Nat) : (bp o n).dD = bw o.dD n := rfl
def Qy (p1 : Val) (p2 : Int) (o0 : av) : Val × av := (bif p1.kind == p2 then p1 else vZ, bp o0 (cK p2 p1))
theorem Q2b6 (p1 : Val) (p2 : Int) (o0 : av) : Qy p1 p2 o0 = (bif (p1.kind == p2) then
    (p1, o0)
  else
    bif (p1.kind == 0) then
      ((Val.mk 0 0 eB [] []), o0)
    else
      ((Val.mk 0 0 eB [] []), (av.mk (w64 (o0.dD + 1))))) := by
  obtain ⟨w⟩ := o0
  unfold Qy bp cK nb
  cases (p1.kind == p2) <;> cases (p1.kind == 0) <;> rfl
def Q28p (p1 : Val) (p2 : Int) (o0 : av) : En := .call 174 [.bx 0 0, .agg (Val.cells p1), iN p2] [⟨1, 0, false, (av.cells o0)⟩]
def Q2ca (_p1 : Val) (_p2 : Int) (_o0 : av) (q0 : Val) (q1 : av) : Rs := .ret (.agg (Val.cells q0)) [⟨1, 0, false, (av.cells q1)⟩]
def Q1yq (p1 : Val) (p2 : Int) (o0 : av) : Rs := Q2ca p1 p2 o0 (Qy p1 p2 o0).1 (Qy p1 p2 o0).2
theorem Qc6 (p1 : Val) (p2 : Int) (o0 : av) : Q0 G (Q28p p1 p2 o0) (Q1yq p1 p2 o0) := by
 unfold Q1yq
 rw [Q2b6]
 cases h0 : (p1.kind == p2) with
 | true =>
  exact Q5 (fn := Ir.K61) (by kernel_rfl) (h := [⟨1, 0, false, (av.cells o0)⟩]) (vw := []) VOK.nil [hB 5 h0] [] (by kernel_rfl)
 | false =>
  cases h1 : (p1.kind == 0) with
  | true =>
   exact Q5 (fn := Ir.K61) (by kernel_rfl) (h := [⟨1, 0, false, (av.cells o0)⟩]) (vw := []) VOK.nil [hB 5 h0, hP 2 (dec (!(p1.kind == 0)) false (by rw [h1]; rfl))] [] (by kernel_rfl)
  | false =>
   exact Q5 (fn := Ir.K61) (by kernel_rfl) (h := [⟨1, 0, false, (av.cells o0)⟩]) (vw := []) VOK.nil [hB 5 h0, hP 2 (dec (!(p1.kind == 0)) true (by rw [h1]; rfl))] [] (by kernel_rfl)
def Q9 (p1 : Val) (p2 : BA) (o0 : av) : Val × av := (prt p1 p2, bp o0 (cM p1))
theorem Q2b7 (p1 : Val) (p2 : BA) (o0 : av) : Q9 p1 p2 o0 = (((Qpb (Qy p1 5 o0).1 p2).1, (Qy p1 5 o0).2)) := by
  unfold Q9
  rw [vprt]
  unfold Qy
  cases h : (p1.kind == 5) with
  | true => rfl
  | false => rw [Qof h]; rfl
def Q28q (p1 : Val) (p2 : BA) (o0 : av) : En := .call 76 [.bx 0 0, .agg (Val.cells p1), .str p2] [⟨1, 0, false, (av.cells o0)⟩]
def Q2cb (_p1 : Val) (_p2 : BA) (_o0 : av) (q0 : Val) (q1 : av) : Rs := .ret (.agg (Val.cells q0)) [⟨1, 0, false, (av.cells q1)⟩]
def Q1yr (p1 : Val) (p2 : BA) (o0 : av) : Rs := Q2cb p1 p2 o0 (Q9 p1 p2 o0).1 (Q9 p1 p2 o0).2
def Qg1 (p1 : Val) : Prop := Val.Sm 1000000000 p1
theorem Q1mp (p1 : Val) (p2 : BA) (o0 : av) (H : Qg1 p1) : (Q1lb (Qy p1 5 o0).1 p2) ∧ True := by
  refine ⟨Q1w5 ?_ _, trivial⟩
  unfold Qy
  cases (p1.kind == 5) with
  | true => exact H
  | false => exact Q20t
theorem Qfk (p1 : Val) (p2 : BA) (o0 : av) (H : Qg1 p1) : Q0 G (Q28q p1 p2 o0) (Q1yr p1 p2 o0) := by
 unfold Q1yr
 rw [Q2b7]
 exact Q5 (fn := Ir.K62) (by kernel_rfl) (h := [⟨1, 0, false, (av.cells o0)⟩]) (vw := []) VOK.nil [] [aN (Qc6 p1 5 o0), aN (Q1o0 (Qy p1 5 o0).1 p2 (Q1mp p1 p2 o0 H).1)] (by kernel_rfl)
def Qs (p1 : Val) (p2 : BA) (o0 : av) : Int × av := ((dN p1 p2).1, bp o0 (pK 2 p1 p2))
theorem Q2bb (p1 : Val) (p2 : BA) (o0 : av) : Qs p1 p2 o0 = (((Qy (Q9 p1 p2 o0).1 2 (Q9 p1 p2 o0).2).1.n, (Qy (Q9 p1 p2 o0).1 2 (Q9 p1 p2 o0).2).2)) := by
  unfold Qs Q9 Qy
  simp only [Q96]
  exact Prod.ext (getN (prt p1 p2)).symm rfl
def Q28u (p1 : Val) (p2 : BA) (o0 : av) : En := .call 71 [.bx 0 0, .agg (Val.cells p1), .str p2] [⟨1, 0, false, (av.cells o0)⟩]
def Q2cf (_p1 : Val) (_p2 : BA) (_o0 : av) (q0 : Int) (q1 : av) : Rs := .ret (iN q0) [⟨1, 0, false, (av.cells q1)⟩]
def Q1yv (p1 : Val) (p2 : BA) (o0 : av) : Rs := Q2cf p1 p2 o0 (Qs p1 p2 o0).1 (Qs p1 p2 o0).2
def Qjy (p1 : Val) : Prop := Val.Sm 1000000000 p1
theorem Q1mr (p1 : Val) (_p2 : BA) (_o0 : av) (H : Qjy p1) : (Qg1 p1) ∧ True := by
  exact ⟨H, trivial⟩
theorem Q5o (p1 : Val) (p2 : BA) (o0 : av) (H : Qjy p1) : Q0 G (Q28u p1 p2 o0) (Q1yv p1 p2 o0) := by
 unfold Q1yv
 rw [Q2bb]
 exact Q5 (fn := Ir.K66) (by kernel_rfl) (h := [⟨1, 0, false, (av.cells o0)⟩]) (vw := []) VOK.nil [] [aN (Qfk p1 p2 o0 (Q1mr p1 p2 o0 H).1), aN (Qc6 (Q9 p1 p2 o0).1 2 (Q9 p1 p2 o0).2)] (by kernel_rfl)
def Q91 (p1 : Val) (p2 : BA) (o0 : av) : ByteArray × av := ((dS p1 p2).1, bp o0 (pK 3 p1 p2))
theorem Q2bf (p1 : Val) (p2 : BA) (o0 : av) : Q91 p1 p2 o0 = (((Qy (Q9 p1 p2 o0).1 3 (Q9 p1 p2 o0).2).1.s, (Qy (Q9 p1 p2 o0).1 3 (Q9 p1 p2 o0).2).2)) := by
  unfold Q91 Q9 Qy
  simp only [Q96]
  exact Prod.ext (getS (prt p1 p2)).symm rfl
def Q28y (p1 : Val) (p2 : BA) (o0 : av) : En := .call 89 [.bx 0 0, .agg (Val.cells p1), .str p2] [⟨1, 0, false, (av.cells o0)⟩]
def Q2cj (_p1 : Val) (_p2 : BA) (_o0 : av) (q0 : BA) (q1 : av) : Rs := .ret (.str q0) [⟨1, 0, false, (av.cells q1)⟩]
def Q1yz (p1 : Val) (p2 : BA) (o0 : av) : Rs := Q2cj p1 p2 o0 (Q91 p1 p2 o0).1 (Q91 p1 p2 o0).2
def Q1lk (p1 : Val) : Prop := Val.Sm 1000000000 p1
theorem Q1mt (p1 : Val) (_p2 : BA) (_o0 : av) (H : Q1lk p1) : (Qg1 p1) ∧ True := by
  exact ⟨H, trivial⟩
theorem Q213 (p1 : Val) (p2 : BA) (o0 : av) (H : Q1lk p1) : Q0 G (Q28y p1 p2 o0) (Q1yz p1 p2 o0) := by
 unfold Q1yz
 rw [Q2bf]
 exact Q5 (fn := Ir.K6d) (by kernel_rfl) (h := [⟨1, 0, false, (av.cells o0)⟩]) (vw := []) VOK.nil [] [aN (Qfk p1 p2 o0 (Q1mt p1 p2 o0 H).1), aN (Qc6 (Q9 p1 p2 o0).1 3 (Q9 p1 p2 o0).2)] (by kernel_rfl)
def Q4v (p1 : Val) (p2 : BA) (o0 : av) : Bool × av := ((dB p1 p2).1, bp o0 (pK 1 p1 p2))
theorem Q2bi (p1 : Val) (p2 : BA) (o0 : av) : Q4v p1 p2 o0 = (((!((Qy (Q9 p1 p2 o0).1 1 (Q9 p1 p2 o0).2).1.n == 0)), (Qy (Q9 p1 p2 o0).1 1 (Q9 p1 p2 o0).2).2)) := by
  unfold Q4v Q9 Qy
  simp only [Q96]
  exact Prod.ext (getB (prt p1 p2)).symm rfl
def Q291 (p1 : Val) (p2 : BA) (o0 : av) : En := .call 74 [.bx 0 0, .agg (Val.cells p1), .str p2] [⟨1, 0, false, (av.cells o0)⟩]
def Q2cm (_p1 : Val) (_p2 : BA) (_o0 : av) (q0 : Bool) (q1 : av) : Rs := .ret (.bool q0) [⟨1, 0, false, (av.cells q1)⟩]
def Q1z2 (p1 : Val) (p2 : BA) (o0 : av) : Rs := Q2cm p1 p2 o0 (Q4v p1 p2 o0).1 (Q4v p1 p2 o0).2
def Q19h (p1 : Val) : Prop := Val.Sm 1000000000 p1
theorem Q1mu (p1 : Val) (_p2 : BA) (_o0 : av) (H : Q19h p1) : (Qg1 p1) ∧ True := by
  exact ⟨H, trivial⟩
theorem Q1cz (p1 : Val) (p2 : BA) (o0 : av) (H : Q19h p1) : Q0 G (Q291 p1 p2 o0) (Q1z2 p1 p2 o0) := by
 unfold Q1z2
 rw [Q2bi]
 exact Q5 (fn := Ir.K6g) (by kernel_rfl) (h := [⟨1, 0, false, (av.cells o0)⟩]) (vw := []) VOK.nil [] [aN (Qfk p1 p2 o0 (Q1mu p1 p2 o0 H).1), aN (Qc6 (Q9 p1 p2 o0).1 1 (Q9 p1 p2 o0).2)] (by kernel_rfl)
def Q4b (p0 : aW) (p1 : BA) : av := bp ⟨0⟩ (nb (sEq p0.aG.kind p1) + cM p0.aS + cM p0.aL)
theorem Q2bu (p0 : aW) (p1 : BA) : Q4b p0 p1 = (bif (sEq p0.aG.kind p1) then
    (Qy p0.aL 5 (Qy p0.aS 5 (av.mk 0)).2).2
  else
    (Qy p0.aL 5 (Qy p0.aS 5 (av.mk 1)).2).2) := by
  unfold Q4b
  simp only [Qy, Q96]
  cases sEq p0.aG.kind p1 with
  | true => exact congrArg (bp ⟨0⟩) (by show 0 + cM p0.aS + cM p0.aL = cK 5 p0.aS + cK 5 p0.aL; unfold cM; omega)
  | false =>
    refine Eq.trans ?_ (Q96 ⟨0⟩ 1 (cK 5 p0.aS + cK 5 p0.aL)).symm
    exact congrArg (bp ⟨0⟩) (by show 1 + cM p0.aS + cM p0.aL = 1 + (cK 5 p0.aS + cK 5 p0.aL); unfold cM; omega)
def Q29e (p0 : aW) (p1 : BA) : En := .call 68 [.agg (aW.cells p0), .str p1] []
def Q2cs (_p0 : aW) (_p1 : BA) (q0 : av) : Rs := .ret (.bx 0 0) [⟨1, 0, true, (av.cells q0)⟩]
def Q1zf (p0 : aW) (p1 : BA) : Rs := Q2cs p0 p1 (Q4b p0 p1)
theorem Q1o2 (p0 : aW) (p1 : BA) : Q0 G (Q29e p0 p1) (Q1zf p0 p1) := by
 unfold Q1zf
 rw [Q2bu]
 cases h0 : (sEq p0.aG.kind p1) with
 | true =>
  exact Q5 (fn := Ir.K77) (by kernel_rfl) VOK.nil [hP 9 (dec (!(sEq p0.aG.kind p1)) false (by rw [h0]; rfl))] [aN (Qc6 p0.aS 5 (av.mk 0)), aN (Qc6 p0.aL 5 (Qy p0.aS 5 (av.mk 0)).2)] (by kernel_rfl)
 | false =>
  exact Q5 (fn := Ir.K77) (by kernel_rfl) VOK.nil [hP 9 (dec (!(sEq p0.aG.kind p1)) true (by rw [h0]; rfl))] [aN (Qc6 p0.aS 5 (av.mk 1)), aN (Qc6 p0.aL 5 (Qy p0.aS 5 (av.mk 1)).2)] (by kernel_rfl)
def Qam (p0 : Val) (o1 : av) : ByteArray × av := ((xS p0).1, bp o1 (cK 3 p0))
theorem Q2be (p0 : Val) (o1 : av) : Qam p0 o1 = (((Qy p0 3 o1).1.s, (Qy p0 3 o1).2)) := by
  exact Prod.ext (getS p0).symm rfl
def Q28x (p0 : Val) (o1 : av) : En := .call 182 [.agg (Val.cells p0), .bx 0 0] [⟨1, 0, false, [.bx 1 0]⟩, ⟨1, 0, false, (av.cells o1)⟩]
def Q2ci (_p0 : Val) (_o1 : av) (q0 : BA) (q1 : av) : Rs := .ret (.str q0) [⟨1, 0, false, [.bx 1 0]⟩, ⟨1, 0, false, (av.cells q1)⟩]
def Q1yy (p0 : Val) (o1 : av) : Rs := Q2ci p0 o1 (Qam p0 o1).1 (Qam p0 o1).2
theorem Q2e6 (p0 : Val) (o1 : av) : Q0 G (Q28x p0 o1) (Q1yy p0 o1) := by
 unfold Q1yy
 rw [Q2be]
 exact Q5 (fn := Ir.K6c) (by kernel_rfl) (h := [⟨1, 0, false, [.bx 1 0]⟩, ⟨1, 0, false, (av.cells o1)⟩]) (vw := []) VOK.nil [] [aN (Qc6 p0 3 o1)] (by kernel_rfl)
def Q5v (p1 : Val) (p2 : BA) (o0 : av) : List Val → Nat → Int → (List ByteArray) → Int × (List ByteArray)
 | [], _i0, ah, aH =>
  (ah, aH)
 | x0 :: r0, i0, ah, aH =>
  Q5v p1 p2 o0 r0 (i0 + 1) (Qam x0 (av.mk ah)).2.dD (aH ++ [(Qam x0 (av.mk ah)).1])
def Q1g4 (p1 : Val) (p2 : BA) (o0 : av) (i0 : Nat) (_ah : Int) (aH : List ByteArray) : List PV :=
  [.un, .un, .un, .fn 182 [] [.bx 1 0]] ++ nuns 5 ++ [.ms 2 1 0 (List.length aH)] ++ nuns 8 ++ [.sl (Val.rows (Qy (Q9 p1 p2 o0).1 4 (Q9 p1 p2 o0).2).1.list), iN ((List.length (Qy (Q9 p1 p2 o0).1 4 (Q9 p1 p2 o0).2).1.list) : Int), iN (i0 : Int)] ++ nuns 11
def Qzr (_p1 : Val) (_p2 : BA) (_o0 : av) (_i0 : Nat) (ah : Int) (aH : List ByteArray) : List Ob :=
  [⟨1, 0, false, [iN ah]⟩, ⟨1, 0, false, [.bx 0 0]⟩, ⟨1, 0, true, (Q18 aH).flatten⟩]
def Qhe (p1 : Val) (p2 : BA) (o0 : av) (i0 : Nat) (ah : Int) (aH : List ByteArray) : En := .loop 2 Ir.Qlg Ir.Q1pe (Q1g4 p1 p2 o0 i0 ah aH) (Qzr p1 p2 o0 i0 ah aH)
def Qrr (_p1 : Val) (_p2 : BA) (_o0 : av) (q0 : Int) (q1 : List ByteArray) (z : Nat → PV) (_zo : Nat → List PV) : St :=
  ⟨zr z 0 9 ++ [.ms 2 1 0 (List.length q1)] ++ zr z 10 22, [(0, ⟨1, 0, false, [iN q0]⟩), (1, ⟨1, 0, false, [.bx 0 0]⟩), (2, ⟨1, 0, true, (Q18 q1).flatten⟩)], 67⟩
theorem Q16n (p1 : Val) (p2 : BA) (o0 : av) (i0 : Nat) (ah : Int) (aH : List ByteArray) : VOK (Go.Pv.look (number 0 (Qzr p1 p2 o0 i0 ah aH))) [(2, Q18 aH)] := (VOK.cons (show Seen _ _ from Q3o (ob := ⟨1, 0, true, (Q18 aH).flatten⟩) (Q4y aH 1 rfl)) VOK.nil)
def Qjb (p1 : Val) (p2 : BA) (o0 : av) (e : En) (q : Int × (List ByteArray)) : Prop := ∃ z zo, Q0 G e (.st (.exit 0) (Qrr p1 p2 o0 q.1 q.2 z zo))
theorem Qwl (p1 : Val) (p2 : BA) (o0 : av) {e e' : En} (h : ∀ r, Q0 G e r → Q0 G e' r) : ∀ q, Qjb p1 p2 o0 e q → Qjb p1 p2 o0 e' q
  | _, ⟨z, zo, hz⟩ => ⟨z, zo, h _ hz⟩
def Qd9 (p1 : Val) (p2 : BA) (o0 : av) : Prop := (List.length (Qy (Q9 p1 p2 o0).1 4 (Q9 p1 p2 o0).2).1.list ≤ 137438953472) ∧ True
def Qtm (p1 : Val) (p2 : BA) (o0 : av) (i0 : Nat) (_ah : Int) (_aH : List ByteArray) : List PV :=
  [.un, .un, .un, .fn 182 [] [.bx 1 0]] ++ nuns 14 ++ [.sl (Val.rows (Qy (Q9 p1 p2 o0).1 4 (Q9 p1 p2 o0).2).1.list), iN ((List.length (Qy (Q9 p1 p2 o0).1 4 (Q9 p1 p2 o0).2).1.list) : Int), iN (i0 : Int), .bool false]
def Qnc (_p1 : Val) (_p2 : BA) (_o0 : av) (_i0 : Nat) (_ah : Int) (_aH : List ByteArray) : List (Nat × List PV) :=
  []
theorem Q1eo (p1 : Val) (p2 : BA) (o0 : av) (_H : Qd9 p1 p2 o0) (i0 : Nat) (ah : Int) (aH : List ByteArray) (_aT : List.length aH ≤ i0) (bG : (decide ((i0 : Int) < ((List.length (Qy (Q9 p1 p2 o0).1 4 (Q9 p1 p2 o0).2).1.list) : Int))) = false) : Qjb p1 p2 o0 (Qhe p1 p2 o0 i0 ah aH) (ah, aH) := by
 exact ⟨(envF (Qtm p1 p2 o0 i0 ah aH)), (zoF (Qnc p1 p2 o0 i0 ah aH)), Qd (Q16n p1 p2 o0 i0 ah aH) (x := ((.exit 0), Qrr p1 p2 o0 ah aH (envF (Qtm p1 p2 o0 i0 ah aH)) (zoF (Qnc p1 p2 o0 i0 ah aH)))) [hB 0 bG] [] (by kernel_rfl)⟩
theorem Q1bz (p1 : Val) (p2 : BA) (o0 : av) (H : Qd9 p1 p2 o0) (x0 : Val) (i0 : Nat) (ah : Int) (aH : List ByteArray) (bU : (Qy (Q9 p1 p2 o0).1 4 (Q9 p1 p2 o0).2).1.list[i0]? = some x0) (dG : i0 < List.length (Qy (Q9 p1 p2 o0).1 4 (Q9 p1 p2 o0).2).1.list) (aT : List.length aH ≤ i0) (bG : (decide ((i0 : Int) < ((List.length (Qy (Q9 p1 p2 o0).1 4 (Q9 p1 p2 o0).2).1.list) : Int))) = true) {r : Rs} (hr : Q0 G (Qhe p1 p2 o0 (i0 + 1) (Qam x0 (av.mk ah)).2.dD (aH ++ [(Qam x0 (av.mk ah)).1])) r) : Q0 G (Qhe p1 p2 o0 i0 ah aH) r := by
 have hB0 := H.1
 exact Qc (Q16n p1 p2 o0 i0 ah aH) [hB 0 bG, hP 0 (Q2q 5 _ i0 _ (Val.Qg bU) rfl), hA 8 2 579 643 1 16 0 0 true Q2s Qor aH (Qam x0 (av.mk ah)).1 (Qcu aH) rfl rfl (by omega), hS 0 true (Q4y (aH ++ [(Qam x0 (av.mk ah)).1]) 1 rfl), hP 1 (Q26 i0 (by omega))] [aN (Q2e6 x0 (av.mk ah))] hr (by kernel_rfl)
theorem Q12n (p1 : Val) (p2 : BA) (o0 : av) (H : Qd9 p1 p2 o0) : ∀ (r0 : List Val) (i0 : Nat) (ah : Int) (aH : List ByteArray), List.drop i0 (Qy (Q9 p1 p2 o0).1 4 (Q9 p1 p2 o0).2).1.list = r0 → List.length aH ≤ i0 → Qjb p1 p2 o0 (Qhe p1 p2 o0 i0 ah aH) (Q5v p1 p2 o0 r0 i0 ah aH)
 | [], i0, ah, aH, hd, aT => by
  have bG : (decide ((i0 : Int) < ((List.length (Qy (Q9 p1 p2 o0).1 4 (Q9 p1 p2 o0).2).1.list) : Int))) = false := by have := Q1c hd; simp; omega
  rw [Q5v]
  exact Q1eo p1 p2 o0 H i0 ah aH aT bG
 | x0 :: r0, i0, ah, aH, hd, aT => by
  obtain ⟨bU, dG, hd'⟩ := Q19 hd
  have bG : (decide ((i0 : Int) < ((List.length (Qy (Q9 p1 p2 o0).1 4 (Q9 p1 p2 o0).2).1.list) : Int))) = true := by simp; omega
  rw [Q5v]
  exact Qwl p1 p2 o0 (fun r hr => Q1bz p1 p2 o0 H x0 i0 ah aH bU dG aT bG hr) _ (Q12n p1 p2 o0 H r0 _ _ _ hd' (by first | omega | (simp; omega)))
def Q9h (p1 : Val) (p2 : BA) (o0 : av) : List ByteArray × av := ((dE xS p1 p2).1, bp o0 (pE (cK 3) p1 p2))
theorem Q198 (p1 : Val) (p2 : BA) (o0 : av) : ∀ (l : List Val) (i : Nat) (b : Int) (a : List ByteArray), Q5v p1 p2 o0 l i b a = (bw b (sumC (cK 3) l), a ++ l.map (fun x => (xS x).1))
  | [], _, b, a => by rw [Q5v]; simp [sumC, bw]
  | x :: l, i, b, a => by
    rw [Q5v]
    refine (Q198 p1 p2 o0 l (i + 1) (bw b ((cK 3) x)) (a ++ [(xS x).1])).trans ?_
    rw [Qnj]
    simp only [List.append_assoc, List.singleton_append, List.map_cons, sumC]
theorem Q2bm (p1 : Val) (p2 : BA) (o0 : av) : Q9h p1 p2 o0 = (((Q5v p1 p2 o0 (Qy (Q9 p1 p2 o0).1 4 (Q9 p1 p2 o0).2).1.list 0 (Qy (Q9 p1 p2 o0).1 4 (Q9 p1 p2 o0).2).2.dD []).2, (av.mk (Q5v p1 p2 o0 (Qy (Q9 p1 p2 o0).1 4 (Q9 p1 p2 o0).2).1.list 0 (Qy (Q9 p1 p2 o0).1 4 (Q9 p1 p2 o0).2).2.dD []).1))) := by
  rw [Q198]
  unfold Q9 Qy Q9h
  simp only [Q96, getL, Qeg, Qnj]
  rfl
def Q295 (p1 : Val) (p2 : BA) (o0 : av) : En := .call 181 [.bx 0 0, .agg (Val.cells p1), .str p2, .fn 182 [] [.bx 1 0]] [⟨1, 0, false, (av.cells o0)⟩, ⟨1, 0, false, [.bx 0 0]⟩]
def Q2cq (_p1 : Val) (_p2 : BA) (_o0 : av) (q0 : List ByteArray) (q1 : av) : Rs := .ret (.sl (Q18 q0)) [⟨1, 0, false, (av.cells q1)⟩, ⟨1, 0, false, [.bx 0 0]⟩]
def Q1z6 (p1 : Val) (p2 : BA) (o0 : av) : Rs := Q2cq p1 p2 o0 (Q9h p1 p2 o0).1 (Q9h p1 p2 o0).2
def Q1r6 (p1 : Val) : Prop := Val.Sm 1000000000 p1
theorem Q17o (p1 : Val) (p2 : BA) (o0 : av) (H : Q1r6 p1) : (Qg1 p1) ∧ (Qd9 p1 p2 o0) ∧ True := by
  have hl := Qeh (Q3d H p2)
  refine ⟨H, ?_, trivial⟩
  unfold Qd9 Q9 Qy
  simp only [getL]
  exact ⟨Nat.le_trans hl.1 (Nat.le_of_ble_eq_true rfl), trivial⟩
theorem Q2e9 (p1 : Val) (p2 : BA) (o0 : av) (H : Q1r6 p1) : Q0 G (Q295 p1 p2 o0) (Q1z6 p1 p2 o0) := by
 unfold Q1z6
 rw [Q2bm]
 have hl0 := Q12n p1 p2 o0 ((Q17o p1 p2 o0 H).2.1) (Qy (Q9 p1 p2 o0).1 4 (Q9 p1 p2 o0).2).1.list 0 (Qy (Q9 p1 p2 o0).1 4 (Q9 p1 p2 o0).2).2.dD [] (by simp) (by simp)
 obtain ⟨z0, gq, hl0⟩ := hl0
 exact Q5 (fn := Ir.K6o) (by kernel_rfl) (h := [⟨1, 0, false, (av.cells o0)⟩, ⟨1, 0, false, [.bx 0 0]⟩]) (vw := []) VOK.nil [hP 10 (Qw _ _ (Val.Q8 (Qy (Q9 p1 p2 o0).1 4 (Q9 p1 p2 o0).2).1.list)), hS 0 true (Q4y (Q5v p1 p2 o0 (Qy (Q9 p1 p2 o0).1 4 (Q9 p1 p2 o0).2).1.list 0 (Qy (Q9 p1 p2 o0).1 4 (Q9 p1 p2 o0).2).2.dD []).2 1 rfl), hQ (Q2s (Q5v p1 p2 o0 (Qy (Q9 p1 p2 o0).1 4 (Q9 p1 p2 o0).2).1.list 0 (Qy (Q9 p1 p2 o0).1 4 (Q9 p1 p2 o0).2).2.dD []).2).symm] [aN (Qfk p1 p2 o0 (Q17o p1 p2 o0 H).1), aN (Qc6 (Q9 p1 p2 o0).1 4 (Q9 p1 p2 o0).2), aV [(2, Q18 (Q5v p1 p2 o0 (Qy (Q9 p1 p2 o0).1 4 (Q9 p1 p2 o0).2).1.list 0 (Qy (Q9 p1 p2 o0).1 4 (Q9 p1 p2 o0).2).2.dD []).2)] hl0] (by kernel_rfl)
def Qal (p0 : Val) (o1 : av) : aj × av := ((aj.dec p0).1, bp o1 (aj.cnt p0))
theorem Q2bd (p0 : Val) (o1 : av) : Qal p0 o1 = (((aj.mk (Q91 p0 Q13 (Qy p0 5 (Q9h p0 Q1w o1).2).2).1 (Qs p0 Q5l (Q91 p0 Q13 (Qy p0 5 (Q9h p0 Q1w o1).2).2).2).1 (Q9h p0 Q1w o1).1), (Qs p0 Q5l (Q91 p0 Q13 (Qy p0 5 (Q9h p0 Q1w o1).2).2).2).2)) := by
  simp only [Qy, Qs, Q91, Q9h, Qal, Q96]
  refine Prod.ext rfl (congrArg (bp o1) ?_)
  show aj.cnt p0 = _
  try unfold aj.cnt
  try unfold cM
  first | rfl | omega
def Q28w (p0 : Val) (o1 : av) : En := .call 180 [.agg (Val.cells p0), .bx 0 0] [⟨1, 0, false, [.bx 1 0]⟩, ⟨1, 0, false, (av.cells o1)⟩]
def Q2ch (_p0 : Val) (_o1 : av) (q0 : aj) (q1 : av) : Rs := .ret (.agg (aj.cells q0)) [⟨1, 0, false, [.bx 1 0]⟩, ⟨1, 0, false, (av.cells q1)⟩]
def Q1yx (p0 : Val) (o1 : av) : Rs := Q2ch p0 o1 (Qal p0 o1).1 (Qal p0 o1).2
def Q1r2 (p0 : Val) : Prop := Val.Sm 1000000000 p0
theorem Qxf (p0 : Val) (_o1 : av) (H : Q1r2 p0) : (Q1r6 p0) ∧ (Q1lk p0) ∧ (Qjy p0) ∧ True := by
  repeat' with_reducible apply And.intro
  all_goals first | exact True.intro | exact H | exact Q3d H _
theorem Q2e5 (p0 : Val) (o1 : av) (H : Q1r2 p0) : Q0 G (Q28w p0 o1) (Q1yx p0 o1) := by
 unfold Q1yx
 rw [Q2bd]
 exact Q5 (fn := Ir.K6b) (by kernel_rfl) (h := [⟨1, 0, false, [.bx 1 0]⟩, ⟨1, 0, false, (av.cells o1)⟩]) (vw := []) VOK.nil [] [aN (Q2e9 p0 Q1w o1 (Qxf p0 o1 H).1), aN (Qc6 p0 5 (Q9h p0 Q1w o1).2), aN (Q213 p0 Q13 (Qy p0 5 (Q9h p0 Q1w o1).2).2 (Qxf p0 o1 H).2.1), aN (Q5o p0 Q5l (Q91 p0 Q13 (Qy p0 5 (Q9h p0 Q1w o1).2).2).2 (Qxf p0 o1 H).2.2.1)] (by kernel_rfl)
def Q5u (p1 : Val) (p2 : BA) (o0 : av) : List Val → Nat → Int → (List aj) → Int × (List aj)
 | [], _i0, ah, aH =>
  (ah, aH)
 | x0 :: r0, i0, ah, aH =>
  Q5u p1 p2 o0 r0 (i0 + 1) (Qal x0 (av.mk ah)).2.dD (aH ++ [(Qal x0 (av.mk ah)).1])
def Q1g3 (p1 : Val) (p2 : BA) (o0 : av) (i0 : Nat) (_ah : Int) (aH : List aj) : List PV :=
  [.un, .un, .un, .fn 180 [] [.bx 1 0]] ++ nuns 5 ++ [.ms 2 3 0 (List.length aH)] ++ nuns 8 ++ [.sl (Val.rows (Qy (Q9 p1 p2 o0).1 4 (Q9 p1 p2 o0).2).1.list), iN ((List.length (Qy (Q9 p1 p2 o0).1 4 (Q9 p1 p2 o0).2).1.list) : Int), iN (i0 : Int)] ++ nuns 11
def Qzq (_p1 : Val) (_p2 : BA) (_o0 : av) (_i0 : Nat) (ah : Int) (aH : List aj) : List Ob :=
  [⟨1, 0, false, [iN ah]⟩, ⟨1, 0, false, [.bx 0 0]⟩, ⟨3, 0, true, (aj.rows aH).flatten⟩]
def Qhd (p1 : Val) (p2 : BA) (o0 : av) (i0 : Nat) (ah : Int) (aH : List aj) : En := .loop 2 Ir.Qlf Ir.Q1pd (Q1g3 p1 p2 o0 i0 ah aH) (Qzq p1 p2 o0 i0 ah aH)
def Qrq (_p1 : Val) (_p2 : BA) (_o0 : av) (q0 : Int) (q1 : List aj) (z : Nat → PV) (_zo : Nat → List PV) : St :=
  ⟨zr z 0 9 ++ [.ms 2 3 0 (List.length q1)] ++ zr z 10 22, [(0, ⟨1, 0, false, [iN q0]⟩), (1, ⟨1, 0, false, [.bx 0 0]⟩), (2, ⟨3, 0, true, (aj.rows q1).flatten⟩)], 67⟩
theorem Q16m (p1 : Val) (p2 : BA) (o0 : av) (i0 : Nat) (ah : Int) (aH : List aj) : VOK (Go.Pv.look (number 0 (Qzq p1 p2 o0 i0 ah aH))) [(2, aj.rows aH)] := (VOK.cons (show Seen _ _ from Q3o (ob := ⟨3, 0, true, (aj.rows aH).flatten⟩) (aj.Q7 aH 3 rfl)) VOK.nil)
def Qja (p1 : Val) (p2 : BA) (o0 : av) (e : En) (q : Int × (List aj)) : Prop := ∃ z zo, Q0 G e (.st (.exit 0) (Qrq p1 p2 o0 q.1 q.2 z zo))
theorem Qwk (p1 : Val) (p2 : BA) (o0 : av) {e e' : En} (h : ∀ r, Q0 G e r → Q0 G e' r) : ∀ q, Qja p1 p2 o0 e q → Qja p1 p2 o0 e' q
  | _, ⟨z, zo, hz⟩ => ⟨z, zo, h _ hz⟩
def Qd8 (p1 : Val) (p2 : BA) (o0 : av) : Prop := (List.length (Qy (Q9 p1 p2 o0).1 4 (Q9 p1 p2 o0).2).1.list ≤ 137438953472) ∧ (∀ x0 ∈ (Qy (Q9 p1 p2 o0).1 4 (Q9 p1 p2 o0).2).1.list, Q1r2 x0) ∧ True
def Qtl (p1 : Val) (p2 : BA) (o0 : av) (i0 : Nat) (_ah : Int) (_aH : List aj) : List PV :=
  [.un, .un, .un, .fn 180 [] [.bx 1 0]] ++ nuns 14 ++ [.sl (Val.rows (Qy (Q9 p1 p2 o0).1 4 (Q9 p1 p2 o0).2).1.list), iN ((List.length (Qy (Q9 p1 p2 o0).1 4 (Q9 p1 p2 o0).2).1.list) : Int), iN (i0 : Int), .bool false]
def Qnb (_p1 : Val) (_p2 : BA) (_o0 : av) (_i0 : Nat) (_ah : Int) (_aH : List aj) : List (Nat × List PV) :=
  []
theorem Q1en (p1 : Val) (p2 : BA) (o0 : av) (_H : Qd8 p1 p2 o0) (i0 : Nat) (ah : Int) (aH : List aj) (_aT : List.length aH ≤ i0) (bG : (decide ((i0 : Int) < ((List.length (Qy (Q9 p1 p2 o0).1 4 (Q9 p1 p2 o0).2).1.list) : Int))) = false) : Qja p1 p2 o0 (Qhd p1 p2 o0 i0 ah aH) (ah, aH) := by
 exact ⟨(envF (Qtl p1 p2 o0 i0 ah aH)), (zoF (Qnb p1 p2 o0 i0 ah aH)), Qd (Q16m p1 p2 o0 i0 ah aH) (x := ((.exit 0), Qrq p1 p2 o0 ah aH (envF (Qtl p1 p2 o0 i0 ah aH)) (zoF (Qnb p1 p2 o0 i0 ah aH)))) [hB 0 bG] [] (by kernel_rfl)⟩
theorem Q1by (p1 : Val) (p2 : BA) (o0 : av) (H : Qd8 p1 p2 o0) (x0 : Val) (i0 : Nat) (ah : Int) (aH : List aj) (bU : (Qy (Q9 p1 p2 o0).1 4 (Q9 p1 p2 o0).2).1.list[i0]? = some x0) (dG : i0 < List.length (Qy (Q9 p1 p2 o0).1 4 (Q9 p1 p2 o0).2).1.list) (aT : List.length aH ≤ i0) (bG : (decide ((i0 : Int) < ((List.length (Qy (Q9 p1 p2 o0).1 4 (Q9 p1 p2 o0).2).1.list) : Int))) = true) {r : Rs} (hr : Q0 G (Qhd p1 p2 o0 (i0 + 1) (Qal x0 (av.mk ah)).2.dD (aH ++ [(Qal x0 (av.mk ah)).1])) r) : Q0 G (Qhd p1 p2 o0 i0 ah aH) r := by
 have hB0 := H.1
 exact Qc (Q16m p1 p2 o0 i0 ah aH) [hB 0 bG, hP 0 (Q2q 5 _ i0 _ (Val.Qg bU) rfl), hA 8 2 579 643 3 48 0 0 true aj.Q8 aj.Q1g aH (Qal x0 (av.mk ah)).1 (aj.Qh aH) rfl rfl (by omega), hS 0 true (aj.Q7 (aH ++ [(Qal x0 (av.mk ah)).1]) 3 rfl), hP 1 (Q26 i0 (by omega))] [aN (Q2e5 x0 (av.mk ah) (H.2.1 x0 (Q2l bU)))] hr (by kernel_rfl)
theorem Q12m (p1 : Val) (p2 : BA) (o0 : av) (H : Qd8 p1 p2 o0) : ∀ (r0 : List Val) (i0 : Nat) (ah : Int) (aH : List aj), List.drop i0 (Qy (Q9 p1 p2 o0).1 4 (Q9 p1 p2 o0).2).1.list = r0 → List.length aH ≤ i0 → Qja p1 p2 o0 (Qhd p1 p2 o0 i0 ah aH) (Q5u p1 p2 o0 r0 i0 ah aH)
 | [], i0, ah, aH, hd, aT => by
  have bG : (decide ((i0 : Int) < ((List.length (Qy (Q9 p1 p2 o0).1 4 (Q9 p1 p2 o0).2).1.list) : Int))) = false := by have := Q1c hd; simp; omega
  rw [Q5u]
  exact Q1en p1 p2 o0 H i0 ah aH aT bG
 | x0 :: r0, i0, ah, aH, hd, aT => by
  obtain ⟨bU, dG, hd'⟩ := Q19 hd
  have bG : (decide ((i0 : Int) < ((List.length (Qy (Q9 p1 p2 o0).1 4 (Q9 p1 p2 o0).2).1.list) : Int))) = true := by simp; omega
  rw [Q5u]
  exact Qwk p1 p2 o0 (fun r hr => Q1by p1 p2 o0 H x0 i0 ah aH bU dG aT bG hr) _ (Q12m p1 p2 o0 H r0 _ _ _ hd' (by first | omega | (simp; omega)))
def Qee (p1 : Val) (p2 : BA) (o0 : av) : List aj × av := ((dE aj.dec p1 p2).1, bp o0 (pE (aj.cnt) p1 p2))
theorem Q197 (p1 : Val) (p2 : BA) (o0 : av) : ∀ (l : List Val) (i : Nat) (b : Int) (a : List aj), Q5u p1 p2 o0 l i b a = (bw b (sumC (aj.cnt) l), a ++ l.map (fun x => (aj.dec x).1))
  | [], _, b, a => by rw [Q5u]; simp [sumC, bw]
  | x :: l, i, b, a => by
    rw [Q5u]
    refine (Q197 p1 p2 o0 l (i + 1) (bw b ((aj.cnt) x)) (a ++ [(aj.dec x).1])).trans ?_
    rw [Qnj]
    simp only [List.append_assoc, List.singleton_append, List.map_cons, sumC]
theorem Q2bl (p1 : Val) (p2 : BA) (o0 : av) : Qee p1 p2 o0 = (((Q5u p1 p2 o0 (Qy (Q9 p1 p2 o0).1 4 (Q9 p1 p2 o0).2).1.list 0 (Qy (Q9 p1 p2 o0).1 4 (Q9 p1 p2 o0).2).2.dD []).2, (av.mk (Q5u p1 p2 o0 (Qy (Q9 p1 p2 o0).1 4 (Q9 p1 p2 o0).2).1.list 0 (Qy (Q9 p1 p2 o0).1 4 (Q9 p1 p2 o0).2).2.dD []).1))) := by
  rw [Q197]
  unfold Q9 Qy Qee
  simp only [Q96, getL, Qeg, Qnj]
  rfl
def Q294 (p1 : Val) (p2 : BA) (o0 : av) : En := .call 179 [.bx 0 0, .agg (Val.cells p1), .str p2, .fn 180 [] [.bx 1 0]] [⟨1, 0, false, (av.cells o0)⟩, ⟨1, 0, false, [.bx 0 0]⟩]
def Q2cp (_p1 : Val) (_p2 : BA) (_o0 : av) (q0 : List aj) (q1 : av) : Rs := .ret (.sl (aj.rows q0)) [⟨1, 0, false, (av.cells q1)⟩, ⟨1, 0, false, [.bx 0 0]⟩]
def Q1z5 (p1 : Val) (p2 : BA) (o0 : av) : Rs := Q2cp p1 p2 o0 (Qee p1 p2 o0).1 (Qee p1 p2 o0).2
def Q1r5 (p1 : Val) : Prop := Val.Sm 1000000000 p1
theorem Q17n (p1 : Val) (p2 : BA) (o0 : av) (H : Q1r5 p1) : (Qg1 p1) ∧ (Qd8 p1 p2 o0) ∧ True := by
  have hl := Qeh (Q3d H p2)
  refine ⟨H, ?_, trivial⟩
  unfold Qd8 Q9 Qy
  simp only [getL]
  exact ⟨Nat.le_trans hl.1 (Nat.le_of_ble_eq_true rfl), hl.2, trivial⟩
theorem Q2e8 (p1 : Val) (p2 : BA) (o0 : av) (H : Q1r5 p1) : Q0 G (Q294 p1 p2 o0) (Q1z5 p1 p2 o0) := by
 unfold Q1z5
 rw [Q2bl]
 have hl0 := Q12m p1 p2 o0 ((Q17n p1 p2 o0 H).2.1) (Qy (Q9 p1 p2 o0).1 4 (Q9 p1 p2 o0).2).1.list 0 (Qy (Q9 p1 p2 o0).1 4 (Q9 p1 p2 o0).2).2.dD [] (by simp) (by simp)
 obtain ⟨z0, gq, hl0⟩ := hl0
 exact Q5 (fn := Ir.K6n) (by kernel_rfl) (h := [⟨1, 0, false, (av.cells o0)⟩, ⟨1, 0, false, [.bx 0 0]⟩]) (vw := []) VOK.nil [hP 10 (Qw _ _ (Val.Q8 (Qy (Q9 p1 p2 o0).1 4 (Q9 p1 p2 o0).2).1.list)), hS 0 true (aj.Q7 (Q5u p1 p2 o0 (Qy (Q9 p1 p2 o0).1 4 (Q9 p1 p2 o0).2).1.list 0 (Qy (Q9 p1 p2 o0).1 4 (Q9 p1 p2 o0).2).2.dD []).2 3 rfl), hQ (aj.Q8 (Q5u p1 p2 o0 (Qy (Q9 p1 p2 o0).1 4 (Q9 p1 p2 o0).2).1.list 0 (Qy (Q9 p1 p2 o0).1 4 (Q9 p1 p2 o0).2).2.dD []).2).symm] [aN (Qfk p1 p2 o0 (Q17n p1 p2 o0 H).1), aN (Qc6 (Q9 p1 p2 o0).1 4 (Q9 p1 p2 o0).2), aV [(2, aj.rows (Q5u p1 p2 o0 (Qy (Q9 p1 p2 o0).1 4 (Q9 p1 p2 o0).2).1.list 0 (Qy (Q9 p1 p2 o0).1 4 (Q9 p1 p2 o0).2).2.dD []).2)] hl0] (by kernel_rfl)
def Q89 (p1 : Val) (o0 : av) : List aj × av := ((dE aj.dec p1 Q6).1, bp o0 (pE aj.cnt p1 Q6))
theorem Q2bc (p1 : Val) (o0 : av) : Q89 p1 o0 = (((Qee p1 Q6 o0).1, (Qee p1 Q6 o0).2)) := by
  rfl
def Q28v (p1 : Val) (o0 : av) : En := .call 72 [.bx 0 0, .agg (Val.cells p1)] [⟨1, 0, false, (av.cells o0)⟩]
def Q2cg (_p1 : Val) (_o0 : av) (q0 : List aj) (q1 : av) : Rs := .ret (.sl (aj.rows q0)) [⟨1, 0, false, (av.cells q1)⟩]
def Q1yw (p1 : Val) (o0 : av) : Rs := Q2cg p1 o0 (Q89 p1 o0).1 (Q89 p1 o0).2
def Q1gr (p1 : Val) : Prop := Val.Sm 1000000000 p1
theorem Q1ms (p1 : Val) (_o0 : av) (H : Q1gr p1) : (Q1r5 p1) ∧ True := by
  repeat' with_reducible apply And.intro
  all_goals first | exact True.intro | exact H
theorem Q1s9 (p1 : Val) (o0 : av) (H : Q1gr p1) : Q0 G (Q28v p1 o0) (Q1yw p1 o0) := by
 unfold Q1yw
 rw [Q2bc]
 exact Q5 (fn := Ir.K6a) (by kernel_rfl) (h := [⟨1, 0, false, (av.cells o0)⟩]) (vw := []) VOK.nil [] [aN (Q2e8 p1 Q6 o0 (Q1ms p1 o0 H).1)] (by kernel_rfl)
def Q8d (p1 : Val) (o0 : av) : aU × av := ((tD p1 Qe).1, bp o0 (tC p1 Qe))
theorem Q2bg (p1 : Val) (o0 : av) : Q8d p1 o0 = (bif ((Q9 p1 Qe o0).1.kind == 0) then
    ((aU.mk [] (aY.mk eB 0 0 0 [] [] [] [] [] [])), (Q9 p1 Qe o0).2)
  else
    bif ((s_Ka (Q9 p1 Qe o0).1).2 == 0) then
      ((s_Ka (Q9 p1 Qe o0).1).1, (Q9 p1 Qe o0).2)
    else
      ((s_Ka (Q9 p1 Qe o0).1).1, (av.mk (w64 ((Q9 p1 Qe o0).2.dD + 1))))) := by
  unfold Q8d Q9 s_Ka tD tC
  cases h : ((prt p1 Qe).kind == 0) with
  | true =>
    have h5 : ((prt p1 Qe).kind == 5) = false := by rw [eq_of_beq h]; rfl
    unfold Q13g
    rw [aU.Qb4 h5, h]
    rfl
  | false =>
    unfold Q13g
    cases h2 : (aU.dec (prt p1 Qe)).2 with
    | true => rfl
    | false =>
      refine Prod.ext rfl ?_
      exact (Q96 o0 _ 1).symm
def Q28z (p1 : Val) (o0 : av) : En := .call 73 [.bx 0 0, .agg (Val.cells p1)] [⟨1, 0, false, (av.cells o0)⟩]
def Q2ck (_p1 : Val) (_o0 : av) (q0 : aU) (q1 : av) : Rs := .ret (.agg (aU.cells q0)) [⟨1, 0, false, (av.cells q1)⟩]
def Q1z0 (p1 : Val) (o0 : av) : Rs := Q2ck p1 o0 (Q8d p1 o0).1 (Q8d p1 o0).2
def Q1gs (p1 : Val) : Prop := Val.Sm 1000000000 p1
theorem Qe4 (p1 : Val) (o0 : av) (H : Q1gs p1) : (Qg1 p1) ∧ (H_Ka (Q9 p1 Qe o0).1) ∧ True := by
  repeat' with_reducible apply And.intro
  all_goals first | exact True.intro | exact H | exact Q3d H _
theorem Q1sa (p1 : Val) (o0 : av) (H : Q1gs p1) : Q0 G (Q28z p1 o0) (Q1z0 p1 o0) := by
 unfold Q1z0
 rw [Q2bg]
 cases h0 : ((Q9 p1 Qe o0).1.kind == 0) with
 | true =>
  exact Q5 (fn := Ir.K6e) (by kernel_rfl) (h := [⟨1, 0, false, (av.cells o0)⟩]) (vw := []) VOK.nil [hB 9 h0] [aN (Qfk p1 Qe o0 (Qe4 p1 o0 H).1)] (by kernel_rfl)
 | false =>
  cases h1 : ((s_Ka (Q9 p1 Qe o0).1).2 == 0) with
  | true =>
   exact Q5 (fn := Ir.K6e) (by kernel_rfl) (h := [⟨1, 0, false, (av.cells o0)⟩]) (vw := []) VOK.nil [hB 9 h0, hP 9 (dec (!((s_Ka (Q9 p1 Qe o0).1).2 == 0)) false (by rw [h1]; rfl))] [aN (Qfk p1 Qe o0 (Qe4 p1 o0 H).1), aN (t_Ka (Q9 p1 Qe o0).1 (Qe4 p1 o0 H).2.1)] (by kernel_rfl)
  | false =>
   exact Q5 (fn := Ir.K6e) (by kernel_rfl) (h := [⟨1, 0, false, (av.cells o0)⟩]) (vw := []) VOK.nil [hB 9 h0, hP 9 (dec (!((s_Ka (Q9 p1 Qe o0).1).2 == 0)) true (by rw [h1]; rfl))] [aN (Qfk p1 Qe o0 (Qe4 p1 o0 H).1), aN (t_Ka (Q9 p1 Qe o0).1 (Qe4 p1 o0 H).2.1)] (by kernel_rfl)
def Q90 (p1 : Val) (o0 : av) : aJ × av := ((aJ.dec p1).1, bp o0 (aJ.cnt p1))
theorem Q2b5 (p1 : Val) (o0 : av) : Q90 p1 o0 = (((aJ.mk (Q4v p1 Q32 o0).1 (Qs p1 kw_n (Q4v p1 Q32 o0).2).1), (Qs p1 kw_n (Q4v p1 Q32 o0).2).2)) := by
  simp only [Qs, Q4v, Q90, Q96]
  refine Prod.ext rfl (congrArg (bp o0) ?_)
  show aJ.cnt p1 = _
  try unfold aJ.cnt
  try unfold cM
  first | rfl | omega
def Q28o (p1 : Val) (o0 : av) : En := .call 75 [.bx 0 0, .agg (Val.cells p1)] [⟨1, 0, false, (av.cells o0)⟩]
def Q2c9 (_p1 : Val) (_o0 : av) (q0 : aJ) (q1 : av) : Rs := .ret (.agg (aJ.cells q0)) [⟨1, 0, false, (av.cells q1)⟩]
def Q1yp (p1 : Val) (o0 : av) : Rs := Q2c9 p1 o0 (Q90 p1 o0).1 (Q90 p1 o0).2
def Q1gq (p1 : Val) : Prop := Val.Sm 1000000000 p1
theorem Q17k (p1 : Val) (_o0 : av) (H : Q1gq p1) : (Q19h p1) ∧ (Qjy p1) ∧ True := by
  repeat' with_reducible apply And.intro
  all_goals first | exact True.intro | exact H | exact Q3d H _
theorem Q1s8 (p1 : Val) (o0 : av) (H : Q1gq p1) : Q0 G (Q28o p1 o0) (Q1yp p1 o0) := by
 unfold Q1yp
 rw [Q2b5]
 exact Q5 (fn := Ir.K60) (by kernel_rfl) (h := [⟨1, 0, false, (av.cells o0)⟩]) (vw := []) VOK.nil [] [aN (Q1cz p1 Q32 o0 (Q17k p1 o0 H).1), aN (Q5o p1 kw_n (Q4v p1 Q32 o0).2 (Q17k p1 o0 H).2.1)] (by kernel_rfl)
def Qan (p1 : Val) (o0 : av) : aO × av := ((aO.dec p1).1, bp o0 (aO.cnt p1))
theorem Q2bh (p1 : Val) (o0 : av) : Qan p1 o0 = (((aO.mk (Qs p1 Ql o0).1 (Qs p1 Qa (Qs p1 Ql o0).2).1 (Qs p1 Q29 (Qs p1 Qa (Qs p1 Ql o0).2).2).1 (Qs p1 Q1o (Qs p1 Q29 (Qs p1 Qa (Qs p1 Ql o0).2).2).2).1 (Qs p1 Q1x (Qs p1 Q1o (Qs p1 Q29 (Qs p1 Qa (Qs p1 Ql o0).2).2).2).2).1 (Qs p1 Q2k (Qs p1 Q1x (Qs p1 Q1o (Qs p1 Q29 (Qs p1 Qa (Qs p1 Ql o0).2).2).2).2).2).1 (Q4v p1 Q1h (Qs p1 Q2k (Qs p1 Q1x (Qs p1 Q1o (Qs p1 Q29 (Qs p1 Qa (Qs p1 Ql o0).2).2).2).2).2).2).1), (Q4v p1 Q1h (Qs p1 Q2k (Qs p1 Q1x (Qs p1 Q1o (Qs p1 Q29 (Qs p1 Qa (Qs p1 Ql o0).2).2).2).2).2).2).2)) := by
  simp only [Qs, Q4v, Qan, Q96]
  refine Prod.ext rfl (congrArg (bp o0) ?_)
  show aO.cnt p1 = _
  try unfold aO.cnt
  try unfold cM
  first | rfl | omega
def Q290 (p1 : Val) (o0 : av) : En := .call 77 [.bx 0 0, .agg (Val.cells p1)] [⟨1, 0, false, (av.cells o0)⟩]
def Q2cl (_p1 : Val) (_o0 : av) (q0 : aO) (q1 : av) : Rs := .ret (.agg (aO.cells q0)) [⟨1, 0, false, (av.cells q1)⟩]
def Q1z1 (p1 : Val) (o0 : av) : Rs := Q2cl p1 o0 (Qan p1 o0).1 (Qan p1 o0).2
def Q1ll (p1 : Val) : Prop := Val.Sm 1000000000 p1
theorem Qab (p1 : Val) (_o0 : av) (H : Q1ll p1) : (Qjy p1) ∧ (Q19h p1) ∧ True := by
  repeat' with_reducible apply And.intro
  all_goals first | exact True.intro | exact H | exact Q3d H _
theorem Q214 (p1 : Val) (o0 : av) (H : Q1ll p1) : Q0 G (Q290 p1 o0) (Q1z1 p1 o0) := by
 unfold Q1z1
 rw [Q2bh]
 exact Q5 (fn := Ir.K6f) (by kernel_rfl) (h := [⟨1, 0, false, (av.cells o0)⟩]) (vw := []) VOK.nil [] [aN (Q5o p1 Ql o0 (Qab p1 o0 H).1), aN (Q5o p1 Qa (Qs p1 Ql o0).2 (Qab p1 o0 H).1), aN (Q5o p1 Q29 (Qs p1 Qa (Qs p1 Ql o0).2).2 (Qab p1 o0 H).1), aN (Q5o p1 Q1o (Qs p1 Q29 (Qs p1 Qa (Qs p1 Ql o0).2).2).2 (Qab p1 o0 H).1), aN (Q5o p1 Q1x (Qs p1 Q1o (Qs p1 Q29 (Qs p1 Qa (Qs p1 Ql o0).2).2).2).2 (Qab p1 o0 H).1), aN (Q5o p1 Q2k (Qs p1 Q1x (Qs p1 Q1o (Qs p1 Q29 (Qs p1 Qa (Qs p1 Ql o0).2).2).2).2).2 (Qab p1 o0 H).1), aN (Q1cz p1 Q1h (Qs p1 Q2k (Qs p1 Q1x (Qs p1 Q1o (Qs p1 Q29 (Qs p1 Qa (Qs p1 Ql o0).2).2).2).2).2).2 (Qab p1 o0 H).2.1)] (by kernel_rfl)
def Qgb (p1 : ay) (o0 : av) : ay × Int :=
 bif (decide (0 < o0.dD)) then
  ((ay.mk (bJ.mk eB eB eB 0 0 0 0 false 0 [] [] [] []) 0 0 0 0 [] (aU.mk [] (aY.mk eB 0 0 0 [] [] [] [] [] [])) false false (aJ.mk false 0) (aJ.mk false 0) 0 (aO.mk 0 0 0 0 0 0 false)), 6)
 else
  (p1, 0)
def Q29g (p1 : ay) (o0 : av) : En := .call 69 [.bx 0 0, .agg (ay.cells p1)] [⟨1, 0, false, (av.cells o0)⟩]
def Q2ct (_p1 : ay) (o0 : av) (q0 : ay) (q1 : Int) : Rs := .ret (.tup [.agg (ay.cells q0), iN q1]) [⟨1, 0, false, (av.cells o0)⟩]
def Q1zh (p1 : ay) (o0 : av) : Rs := Q2ct p1 o0 (Qgb p1 o0).1 (Qgb p1 o0).2
theorem Q2ee (p1 : ay) (o0 : av) : Q0 G (Q29g p1 o0) (Q1zh p1 o0) := by
 unfold Q1zh Qgb
 cases h0 : (decide (0 < o0.dD)) with
 | true =>
  exact Q5 (fn := Ir.K79) (by kernel_rfl) (h := [⟨1, 0, false, (av.cells o0)⟩]) (vw := []) VOK.nil [hB 7 h0] [] (by kernel_rfl)
 | false =>
  exact Q5 (fn := Ir.K79) (by kernel_rfl) (h := [⟨1, 0, false, (av.cells o0)⟩]) (vw := []) VOK.nil [hB 7 h0] [] (by kernel_rfl)
def Qpg (p0 : aW) : av :=
  (Qs p0.aS Qa (Q4b p0 Q1k)).2
def Qpk (p0 : aW) : av :=
  (Qs p0.aS Qq (Qpg p0)).2
def Qpo (p0 : aW) : av :=
  (Qs p0.aS Q2g (Qpk p0)).2
def Qps (p0 : aW) : av :=
  (Qs p0.aS Qk (Qpo p0)).2
def Qpw (p0 : aW) : av :=
  (Q89 p0.aS (Qps p0)).2
def Qq0 (p0 : aW) : av :=
  (Q8d p0.aS (Qpw p0)).2
def Qq3 (p0 : aW) : av :=
  (Q4v p0.aS Q24 (Qq0 p0)).2
def Qcw (p0 : aW) : av :=
  (Q4v p0.aS Q2x (Qq3 p0)).2
def Qq6 (p0 : aW) : av :=
  (Q9 p0.aS Q38 (Qcw p0)).2
def Qcx (p0 : aW) : av :=
  (Q90 (Q9 p0.aS Q38 (Qcw p0)).1 (Qq6 p0)).2
def Qei (p0 : aW) : av :=
  (Q9 p0.aS Q15 (Qcx p0)).2
def Qej (p0 : aW) : av :=
  (Q90 (Q9 p0.aS Q15 (Qcx p0)).1 (Qei p0)).2
def Qek (p0 : aW) : av :=
  (Qs p0.aS Q40 (Qej p0)).2
def Qv0 (p0 : aW) : av :=
  (Qan p0.aL (Qek p0)).2
def Q1k7 (p0 : aW) : ay × Int := resC (ay.cnt p0) (ay.of p0) ay.z
theorem Qp8 (n : Nat) (x : ay) : Qgb x (bp ⟨0⟩ n) = resC n x ay.z := rfl
theorem Q2b1 (p0 : aW) : Q1k7 p0 = (((Qgb (ay.mk p0.aG (Qs p0.aS Qa (Q4b p0 Q1k)).1 (Qs p0.aS Qq (Qpg p0)).1 (Qs p0.aS Q2g (Qpk p0)).1 (Qs p0.aS Qk (Qpo p0)).1 (Q89 p0.aS (Qps p0)).1 (Q8d p0.aS (Qpw p0)).1 (Q4v p0.aS Q24 (Qq0 p0)).1 (Q4v p0.aS Q2x (Qq3 p0)).1 (Q90 (Q9 p0.aS Q38 (Qcw p0)).1 (Qq6 p0)).1 (Q90 (Q9 p0.aS Q15 (Qcx p0)).1 (Qei p0)).1 (Qs p0.aS Q40 (Qej p0)).1 (Qan p0.aL (Qek p0)).1) (Qv0 p0)).1, (Qgb (ay.mk p0.aG (Qs p0.aS Qa (Q4b p0 Q1k)).1 (Qs p0.aS Qq (Qpg p0)).1 (Qs p0.aS Q2g (Qpk p0)).1 (Qs p0.aS Qk (Qpo p0)).1 (Q89 p0.aS (Qps p0)).1 (Q8d p0.aS (Qpw p0)).1 (Q4v p0.aS Q24 (Qq0 p0)).1 (Q4v p0.aS Q2x (Qq3 p0)).1 (Q90 (Q9 p0.aS Q38 (Qcw p0)).1 (Qq6 p0)).1 (Q90 (Q9 p0.aS Q15 (Qcx p0)).1 (Qei p0)).1 (Qs p0.aS Q40 (Qej p0)).1 (Qan p0.aL (Qek p0)).1) (Qv0 p0)).2)) := by
  simp only [Qpg, Qpk, Qpo, Qps, Qpw, Qq0, Qq3, Qcw, Qq6, Qcx, Qei, Qej, Qek, Qv0, Q9, Qs, Q4v, Q89, Q8d, Q90, Qan, Qgb, Q4b, Q96]
  refine Eq.trans ?_ (Qp8 _ _).symm
  refine Qy9 ?_ rfl
  unfold ay.cnt
  omega
def Q28k (p0 : aW) : En := .call 13 [.agg (aW.cells p0)] []
def Q1yl (p0 : aW) : Rs := .ret (.tup [.agg (ay.cells (Q1k7 p0).1), iN (Q1k7 p0).2]) []
def Q1lh (p0 : aW) : Prop := Qcb p0.aG ∧ aW.sm p0
theorem Q4q (p0 : aW) (H : Q1lh p0) : (Qcb p0.aG) ∧ (Qjy p0.aS) ∧ (Q1gr p0.aS) ∧ (Q1gs p0.aS) ∧ (Q19h p0.aS) ∧ (Qg1 p0.aS) ∧ (Q1gq (Q9 p0.aS Q38 (Qcw p0)).1) ∧ (Q1gq (Q9 p0.aS Q15 (Qcx p0)).1) ∧ (Q1ll p0.aL) ∧ True := by
  repeat' with_reducible apply And.intro
  all_goals first | exact True.intro | exact H.1 | exact H.2 | exact H.2.1 | exact H.2.2 | exact Q3d H.2.1 _ | exact Q3d H.2.2 _
theorem Q2dz (p0 : aW) (H : Q1lh p0) : Q0 G (Q28k p0) (Q1yl p0) := by
 unfold Q1yl
 rw [Q2b1]
 exact Q5 (fn := Ir.K5o) (by kernel_rfl) VOK.nil [] [aN (Q1o2 p0 Q1k), aN (Q1ki p0.aG (Q4q p0 H).1), aN (Q5o p0.aS Qa (Q4b p0 Q1k) (Q4q p0 H).2.1), aN (Q5o p0.aS Qq (Qpg p0) (Q4q p0 H).2.1), aN (Q5o p0.aS Q2g (Qpk p0) (Q4q p0 H).2.1), aN (Q5o p0.aS Qk (Qpo p0) (Q4q p0 H).2.1), aN (Q1s9 p0.aS (Qps p0) (Q4q p0 H).2.2.1), aN (Q1sa p0.aS (Qpw p0) (Q4q p0 H).2.2.2.1), aN (Q1cz p0.aS Q24 (Qq0 p0) (Q4q p0 H).2.2.2.2.1), aN (Q1cz p0.aS Q2x (Qq3 p0) (Q4q p0 H).2.2.2.2.1), aN (Qfk p0.aS Q38 (Qcw p0) (Q4q p0 H).2.2.2.2.2.1), aN (Q1s8 (Q9 p0.aS Q38 (Qcw p0)).1 (Qq6 p0) (Q4q p0 H).2.2.2.2.2.2.1), aN (Qfk p0.aS Q15 (Qcx p0) (Q4q p0 H).2.2.2.2.2.1), aN (Q1s8 (Q9 p0.aS Q15 (Qcx p0)).1 (Qei p0) (Q4q p0 H).2.2.2.2.2.2.2.1), aN (Q5o p0.aS Q40 (Qej p0) (Q4q p0 H).2.1), aN (Q214 p0.aL (Qek p0) (Q4q p0 H).2.2.2.2.2.2.2.2.1), aN (Q2ee (ay.mk p0.aG (Qs p0.aS Qa (Q4b p0 Q1k)).1 (Qs p0.aS Qq (Qpg p0)).1 (Qs p0.aS Q2g (Qpk p0)).1 (Qs p0.aS Qk (Qpo p0)).1 (Q89 p0.aS (Qps p0)).1 (Q8d p0.aS (Qpw p0)).1 (Q4v p0.aS Q24 (Qq0 p0)).1 (Q4v p0.aS Q2x (Qq3 p0)).1 (Q90 (Q9 p0.aS Q38 (Qcw p0)).1 (Qq6 p0)).1 (Q90 (Q9 p0.aS Q15 (Qcx p0)).1 (Qei p0)).1 (Qs p0.aS Q40 (Qej p0)).1 (Qan p0.aL (Qek p0)).1) (Qv0 p0))] (by kernel_rfl)
def Q1k4 (p0 : Val) (o1 : av) : fJ × av := ((fJ.dec p0).1, bp o1 (fJ.cnt p0))
def Q1ka (p1 : Val) (p2 : BA) (o0 : av) : List fJ × av := ((dE fJ.dec p1 p2).1, bp o0 (pE (fJ.cnt) p1 p2))
def Q1k5 (p0 : Val) (o1 : av) : fH × av := ((fH.dec p0).1, bp o1 (fH.cnt p0))
def Q1kb (p1 : Val) (p2 : BA) (o0 : av) : List fH × av := ((dE fH.dec p1 p2).1, bp o0 (pE (fH.cnt) p1 p2))
def Q1kd (p1 : fI) (o0 : av) : fI × Int :=
 bif (decide (0 < o0.dD)) then
  ((fI.mk (bJ.mk eB eB eB 0 0 0 0 false 0 [] [] [] []) eB eB 0 0 [] 0 0 0 (aJ.mk false 0) (aJ.mk false 0) 0 [] 0), 6)
 else
  (p1, 0)
def Qop (p1 : aF) (o0 : av) : aF × Int :=
 bif (decide (0 < o0.dD)) then
  ((aF.mk (bJ.mk eB eB eB 0 0 0 0 false 0 [] [] [] []) 0 0 0 [] (aU.mk [] (aY.mk eB 0 0 0 [] [] [] [] [] [])) (aO.mk 0 0 0 0 0 0 false)), 6)
 else
  (p1, 0)
def Q29h (p1 : aF) (o0 : av) : En := .call 104 [.bx 0 0, .agg (aF.cells p1)] [⟨1, 0, false, (av.cells o0)⟩]
def Q2cu (_p1 : aF) (o0 : av) (q0 : aF) (q1 : Int) : Rs := .ret (.tup [.agg (aF.cells q0), iN q1]) [⟨1, 0, false, (av.cells o0)⟩]
def Q1zi (p1 : aF) (o0 : av) : Rs := Q2cu p1 o0 (Qop p1 o0).1 (Qop p1 o0).2
theorem Q2ef (p1 : aF) (o0 : av) : Q0 G (Q29h p1 o0) (Q1zi p1 o0) := by
 unfold Q1zi Qop
 cases h0 : (decide (0 < o0.dD)) with
 | true =>
  exact Q5 (fn := Ir.K7a) (by kernel_rfl) (h := [⟨1, 0, false, (av.cells o0)⟩]) (vw := []) VOK.nil [hB 7 h0] [] (by kernel_rfl)
 | false =>
  exact Q5 (fn := Ir.K7a) (by kernel_rfl) (h := [⟨1, 0, false, (av.cells o0)⟩]) (vw := []) VOK.nil [hB 7 h0] [] (by kernel_rfl)
def Qpi (p0 : aW) : av :=
  (Qs p0.aS Qa (Q4b p0 Q1l)).2
def Qpm (p0 : aW) : av :=
  (Qs p0.aS Qq (Qpi p0)).2
def Qpq (p0 : aW) : av :=
  (Qs p0.aS Q25 (Qpm p0)).2
def Qpu (p0 : aW) : av :=
  (Q89 p0.aS (Qpq p0)).2
def Qpy (p0 : aW) : av :=
  (Q8d p0.aS (Qpu p0)).2
def Q15d (p0 : aW) : av :=
  (Qan p0.aL (Qpy p0)).2
def Q1k9 (p0 : aW) : aF × Int := resC (aF.cnt p0) (aF.of p0) aF.z
theorem Qp9 (n : Nat) (x : aF) : Qop x (bp ⟨0⟩ n) = resC n x aF.z := rfl
theorem Q2b3 (p0 : aW) : Q1k9 p0 = (((Qop (aF.mk p0.aG (Qs p0.aS Qa (Q4b p0 Q1l)).1 (Qs p0.aS Qq (Qpi p0)).1 (Qs p0.aS Q25 (Qpm p0)).1 (Q89 p0.aS (Qpq p0)).1 (Q8d p0.aS (Qpu p0)).1 (Qan p0.aL (Qpy p0)).1) (Q15d p0)).1, (Qop (aF.mk p0.aG (Qs p0.aS Qa (Q4b p0 Q1l)).1 (Qs p0.aS Qq (Qpi p0)).1 (Qs p0.aS Q25 (Qpm p0)).1 (Q89 p0.aS (Qpq p0)).1 (Q8d p0.aS (Qpu p0)).1 (Qan p0.aL (Qpy p0)).1) (Q15d p0)).2)) := by
  simp only [Qpi, Qpm, Qpq, Qpu, Qpy, Q15d, Qs, Q89, Q8d, Qan, Qop, Q4b, Q96]
  refine Eq.trans ?_ (Qp9 _ _).symm
  refine Qy9 ?_ rfl
  unfold aF.cnt
  omega
def Q28m (p0 : aW) : En := .call 21 [.agg (aW.cells p0)] []
def Q1yn (p0 : aW) : Rs := .ret (.tup [.agg (aF.cells (Q1k9 p0).1), iN (Q1k9 p0).2]) []
def Q1lj (p0 : aW) : Prop := Qcb p0.aG ∧ aW.sm p0
theorem Qa9 (p0 : aW) (H : Q1lj p0) : (Qcb p0.aG) ∧ (Qjy p0.aS) ∧ (Q1gr p0.aS) ∧ (Q1gs p0.aS) ∧ (Q1ll p0.aL) ∧ True := by
  repeat' with_reducible apply And.intro
  all_goals first | exact True.intro | exact H.1 | exact H.2 | exact H.2.1 | exact H.2.2 | exact Q3d H.2.1 _ | exact Q3d H.2.2 _
theorem Q2e1 (p0 : aW) (H : Q1lj p0) : Q0 G (Q28m p0) (Q1yn p0) := by
 unfold Q1yn
 rw [Q2b3]
 exact Q5 (fn := Ir.K5w) (by kernel_rfl) VOK.nil [] [aN (Q1o2 p0 Q1l), aN (Q1ki p0.aG (Qa9 p0 H).1), aN (Q5o p0.aS Qa (Q4b p0 Q1l) (Qa9 p0 H).2.1), aN (Q5o p0.aS Qq (Qpi p0) (Qa9 p0 H).2.1), aN (Q5o p0.aS Q25 (Qpm p0) (Qa9 p0 H).2.1), aN (Q1s9 p0.aS (Qpq p0) (Qa9 p0 H).2.2.1), aN (Q1sa p0.aS (Qpu p0) (Qa9 p0 H).2.2.2.1), aN (Q214 p0.aL (Qpy p0) (Qa9 p0 H).2.2.2.2.1), aN (Q2ef (aF.mk p0.aG (Qs p0.aS Qa (Q4b p0 Q1l)).1 (Qs p0.aS Qq (Qpi p0)).1 (Qs p0.aS Q25 (Qpm p0)).1 (Q89 p0.aS (Qpq p0)).1 (Q8d p0.aS (Qpu p0)).1 (Qan p0.aL (Qpy p0)).1) (Q15d p0))] (by kernel_rfl)
def Q6q (p1 : Val) (o0 : av) : bQ × av := ((JobS.dec p1).1, bp o0 (JobS.cnt p1))
theorem Q2ba (p1 : Val) (o0 : av) : Q6q p1 o0 = (((bQ.mk (bJ.mk eB eB eB 0 0 0 0 false 0 [] [] [] []) (Qs p1 Qo o0).1 (Qs p1 Qu (Qs p1 Qo o0).2).1 (Qs p1 Q1q (Qs p1 Qu (Qs p1 Qo o0).2).2).1 (Qs p1 Qk (Qs p1 Q1q (Qs p1 Qu (Qs p1 Qo o0).2).2).2).1 (Q4v p1 Q21 (Qs p1 Qk (Qs p1 Q1q (Qs p1 Qu (Qs p1 Qo o0).2).2).2).2).1 (Q4v p1 Q1n (Q4v p1 Q21 (Qs p1 Qk (Qs p1 Q1q (Qs p1 Qu (Qs p1 Qo o0).2).2).2).2).2).1 (Q8d p1 (Q4v p1 Q1n (Q4v p1 Q21 (Qs p1 Qk (Qs p1 Q1q (Qs p1 Qu (Qs p1 Qo o0).2).2).2).2).2).2).1 0 0 0 0 0 [] 0), (Q8d p1 (Q4v p1 Q1n (Q4v p1 Q21 (Qs p1 Qk (Qs p1 Q1q (Qs p1 Qu (Qs p1 Qo o0).2).2).2).2).2).2).2)) := by
  simp only [Qs, Q4v, Q8d, Q6q, Q96]
  refine Prod.ext rfl (congrArg (bp o0) ?_)
  show JobS.cnt p1 = _
  try unfold JobS.cnt
  try unfold cM
  first | rfl | omega
def Q28t (p1 : Val) (o0 : av) : En := .call 105 [.bx 0 0, .agg (Val.cells p1)] [⟨1, 0, false, (av.cells o0)⟩]
def Q2ce (_p1 : Val) (_o0 : av) (q0 : bQ) (q1 : av) : Rs := .ret (.agg (bQ.cells q0)) [⟨1, 0, false, (av.cells q1)⟩]
def Q1yu (p1 : Val) (o0 : av) : Rs := Q2ce p1 o0 (Q6q p1 o0).1 (Q6q p1 o0).2
def Q1r1 (p1 : Val) : Prop := Val.Sm 1000000000 p1
theorem Qaa (p1 : Val) (_o0 : av) (H : Q1r1 p1) : (Qjy p1) ∧ (Q19h p1) ∧ (Q1gs p1) ∧ True := by
  repeat' with_reducible apply And.intro
  all_goals first | exact True.intro | exact H | exact Q3d H _
theorem Q2e4 (p1 : Val) (o0 : av) (H : Q1r1 p1) : Q0 G (Q28t p1 o0) (Q1yu p1 o0) := by
 unfold Q1yu
 rw [Q2ba]
 exact Q5 (fn := Ir.K65) (by kernel_rfl) (h := [⟨1, 0, false, (av.cells o0)⟩]) (vw := []) VOK.nil [] [aN (Q5o p1 Qo o0 (Qaa p1 o0 H).1), aN (Q5o p1 Qu (Qs p1 Qo o0).2 (Qaa p1 o0 H).1), aN (Q5o p1 Q1q (Qs p1 Qu (Qs p1 Qo o0).2).2 (Qaa p1 o0 H).1), aN (Q5o p1 Qk (Qs p1 Q1q (Qs p1 Qu (Qs p1 Qo o0).2).2).2 (Qaa p1 o0 H).1), aN (Q1cz p1 Q21 (Qs p1 Qk (Qs p1 Q1q (Qs p1 Qu (Qs p1 Qo o0).2).2).2).2 (Qaa p1 o0 H).2.1), aN (Q1cz p1 Q1n (Q4v p1 Q21 (Qs p1 Qk (Qs p1 Q1q (Qs p1 Qu (Qs p1 Qo o0).2).2).2).2).2 (Qaa p1 o0 H).2.1), aN (Q1sa p1 (Q4v p1 Q1n (Q4v p1 Q21 (Qs p1 Qk (Qs p1 Q1q (Qs p1 Qu (Qs p1 Qo o0).2).2).2).2).2).2 (Qaa p1 o0 H).2.2.1)] (by kernel_rfl)
def Qga (p0 : Val) (o1 : av) : Int × av := ((xN p0).1, bp o1 (cK 2 p0))
theorem Q2b9 (p0 : Val) (o1 : av) : Qga p0 o1 = (((Qy p0 2 o1).1.n, (Qy p0 2 o1).2)) := by
  exact Prod.ext (getN p0).symm rfl
def Q28s (p0 : Val) (o1 : av) : En := .call 198 [.agg (Val.cells p0), .bx 0 0] [⟨1, 0, false, [.bx 1 0]⟩, ⟨1, 0, false, (av.cells o1)⟩]
def Q2cd (_p0 : Val) (_o1 : av) (q0 : Int) (q1 : av) : Rs := .ret (iN q0) [⟨1, 0, false, [.bx 1 0]⟩, ⟨1, 0, false, (av.cells q1)⟩]
def Q1yt (p0 : Val) (o1 : av) : Rs := Q2cd p0 o1 (Qga p0 o1).1 (Qga p0 o1).2
theorem Q2e3 (p0 : Val) (o1 : av) : Q0 G (Q28s p0 o1) (Q1yt p0 o1) := by
 unfold Q1yt
 rw [Q2b9]
 exact Q5 (fn := Ir.K64) (by kernel_rfl) (h := [⟨1, 0, false, [.bx 1 0]⟩, ⟨1, 0, false, (av.cells o1)⟩]) (vw := []) VOK.nil [] [aN (Qc6 p0 2 o1)] (by kernel_rfl)
def Q5w (p1 : Val) (p2 : BA) (o0 : av) : List Val → Nat → Int → (List Int) → Int × (List Int)
 | [], _i0, ah, aH =>
  (ah, aH)
 | x0 :: r0, i0, ah, aH =>
  Q5w p1 p2 o0 r0 (i0 + 1) (Qga x0 (av.mk ah)).2.dD (aH ++ [(Qga x0 (av.mk ah)).1])
def Q1g5 (p1 : Val) (p2 : BA) (o0 : av) (i0 : Nat) (_ah : Int) (aH : List Int) : List PV :=
  [.un, .un, .un, .fn 198 [] [.bx 1 0]] ++ nuns 5 ++ [.ms 2 1 0 (List.length aH)] ++ nuns 8 ++ [.sl (Val.rows (Qy (Q9 p1 p2 o0).1 4 (Q9 p1 p2 o0).2).1.list), iN ((List.length (Qy (Q9 p1 p2 o0).1 4 (Q9 p1 p2 o0).2).1.list) : Int), iN (i0 : Int)] ++ nuns 11
def Qzs (_p1 : Val) (_p2 : BA) (_o0 : av) (_i0 : Nat) (ah : Int) (aH : List Int) : List Ob :=
  [⟨1, 0, false, [iN ah]⟩, ⟨1, 0, false, [.bx 0 0]⟩, ⟨1, 0, true, (Q3m aH).flatten⟩]
def Qhf (p1 : Val) (p2 : BA) (o0 : av) (i0 : Nat) (ah : Int) (aH : List Int) : En := .loop 2 Ir.Qlh Ir.Q1pf (Q1g5 p1 p2 o0 i0 ah aH) (Qzs p1 p2 o0 i0 ah aH)
def Qrs (_p1 : Val) (_p2 : BA) (_o0 : av) (q0 : Int) (q1 : List Int) (z : Nat → PV) (_zo : Nat → List PV) : St :=
  ⟨zr z 0 9 ++ [.ms 2 1 0 (List.length q1)] ++ zr z 10 22, [(0, ⟨1, 0, false, [iN q0]⟩), (1, ⟨1, 0, false, [.bx 0 0]⟩), (2, ⟨1, 0, true, (Q3m q1).flatten⟩)], 67⟩
theorem Q16o (p1 : Val) (p2 : BA) (o0 : av) (i0 : Nat) (ah : Int) (aH : List Int) : VOK (Go.Pv.look (number 0 (Qzs p1 p2 o0 i0 ah aH))) [(2, Q3m aH)] := (VOK.cons (show Seen _ _ from Q3o (ob := ⟨1, 0, true, (Q3m aH).flatten⟩) (Qck aH 1 rfl)) VOK.nil)
def Qjc (p1 : Val) (p2 : BA) (o0 : av) (e : En) (q : Int × (List Int)) : Prop := ∃ z zo, Q0 G e (.st (.exit 0) (Qrs p1 p2 o0 q.1 q.2 z zo))
theorem Qwm (p1 : Val) (p2 : BA) (o0 : av) {e e' : En} (h : ∀ r, Q0 G e r → Q0 G e' r) : ∀ q, Qjc p1 p2 o0 e q → Qjc p1 p2 o0 e' q
  | _, ⟨z, zo, hz⟩ => ⟨z, zo, h _ hz⟩
def Qda (p1 : Val) (p2 : BA) (o0 : av) : Prop := (List.length (Qy (Q9 p1 p2 o0).1 4 (Q9 p1 p2 o0).2).1.list ≤ 137438953472) ∧ True
def Qtn (p1 : Val) (p2 : BA) (o0 : av) (i0 : Nat) (_ah : Int) (_aH : List Int) : List PV :=
  [.un, .un, .un, .fn 198 [] [.bx 1 0]] ++ nuns 14 ++ [.sl (Val.rows (Qy (Q9 p1 p2 o0).1 4 (Q9 p1 p2 o0).2).1.list), iN ((List.length (Qy (Q9 p1 p2 o0).1 4 (Q9 p1 p2 o0).2).1.list) : Int), iN (i0 : Int), .bool false]
def Qnd (_p1 : Val) (_p2 : BA) (_o0 : av) (_i0 : Nat) (_ah : Int) (_aH : List Int) : List (Nat × List PV) :=
  []
theorem Q1ep (p1 : Val) (p2 : BA) (o0 : av) (_H : Qda p1 p2 o0) (i0 : Nat) (ah : Int) (aH : List Int) (_aT : List.length aH ≤ i0) (bG : (decide ((i0 : Int) < ((List.length (Qy (Q9 p1 p2 o0).1 4 (Q9 p1 p2 o0).2).1.list) : Int))) = false) : Qjc p1 p2 o0 (Qhf p1 p2 o0 i0 ah aH) (ah, aH) := by
 exact ⟨(envF (Qtn p1 p2 o0 i0 ah aH)), (zoF (Qnd p1 p2 o0 i0 ah aH)), Qd (Q16o p1 p2 o0 i0 ah aH) (x := ((.exit 0), Qrs p1 p2 o0 ah aH (envF (Qtn p1 p2 o0 i0 ah aH)) (zoF (Qnd p1 p2 o0 i0 ah aH)))) [hB 0 bG] [] (by kernel_rfl)⟩
theorem Q1c0 (p1 : Val) (p2 : BA) (o0 : av) (H : Qda p1 p2 o0) (x0 : Val) (i0 : Nat) (ah : Int) (aH : List Int) (bU : (Qy (Q9 p1 p2 o0).1 4 (Q9 p1 p2 o0).2).1.list[i0]? = some x0) (dG : i0 < List.length (Qy (Q9 p1 p2 o0).1 4 (Q9 p1 p2 o0).2).1.list) (aT : List.length aH ≤ i0) (bG : (decide ((i0 : Int) < ((List.length (Qy (Q9 p1 p2 o0).1 4 (Q9 p1 p2 o0).2).1.list) : Int))) = true) {r : Rs} (hr : Q0 G (Qhf p1 p2 o0 (i0 + 1) (Qga x0 (av.mk ah)).2.dD (aH ++ [(Qga x0 (av.mk ah)).1])) r) : Q0 G (Qhf p1 p2 o0 i0 ah aH) r := by
 have hB0 := H.1
 exact Qc (Q16o p1 p2 o0 i0 ah aH) [hB 0 bG, hP 0 (Q2q 5 _ i0 _ (Val.Qg bU) rfl), hA 8 2 579 643 1 8 0 0 true Q6v Q147 aH (Qga x0 (av.mk ah)).1 (Qny aH) rfl rfl (by omega), hS 0 true (Qck (aH ++ [(Qga x0 (av.mk ah)).1]) 1 rfl), hP 1 (Q26 i0 (by omega))] [aN (Q2e3 x0 (av.mk ah))] hr (by kernel_rfl)
theorem Q12o (p1 : Val) (p2 : BA) (o0 : av) (H : Qda p1 p2 o0) : ∀ (r0 : List Val) (i0 : Nat) (ah : Int) (aH : List Int), List.drop i0 (Qy (Q9 p1 p2 o0).1 4 (Q9 p1 p2 o0).2).1.list = r0 → List.length aH ≤ i0 → Qjc p1 p2 o0 (Qhf p1 p2 o0 i0 ah aH) (Q5w p1 p2 o0 r0 i0 ah aH)
 | [], i0, ah, aH, hd, aT => by
  have bG : (decide ((i0 : Int) < ((List.length (Qy (Q9 p1 p2 o0).1 4 (Q9 p1 p2 o0).2).1.list) : Int))) = false := by have := Q1c hd; simp; omega
  rw [Q5w]
  exact Q1ep p1 p2 o0 H i0 ah aH aT bG
 | x0 :: r0, i0, ah, aH, hd, aT => by
  obtain ⟨bU, dG, hd'⟩ := Q19 hd
  have bG : (decide ((i0 : Int) < ((List.length (Qy (Q9 p1 p2 o0).1 4 (Q9 p1 p2 o0).2).1.list) : Int))) = true := by simp; omega
  rw [Q5w]
  exact Qwm p1 p2 o0 (fun r hr => Q1c0 p1 p2 o0 H x0 i0 ah aH bU dG aT bG hr) _ (Q12o p1 p2 o0 H r0 _ _ _ hd' (by first | omega | (simp; omega)))
def Qyh (p1 : Val) (p2 : BA) (o0 : av) : List Int × av := ((dE xN p1 p2).1, bp o0 (pE (cK 2) p1 p2))
theorem Q199 (p1 : Val) (p2 : BA) (o0 : av) : ∀ (l : List Val) (i : Nat) (b : Int) (a : List Int), Q5w p1 p2 o0 l i b a = (bw b (sumC (cK 2) l), a ++ l.map (fun x => (xN x).1))
  | [], _, b, a => by rw [Q5w]; simp [sumC, bw]
  | x :: l, i, b, a => by
    rw [Q5w]
    refine (Q199 p1 p2 o0 l (i + 1) (bw b ((cK 2) x)) (a ++ [(xN x).1])).trans ?_
    rw [Qnj]
    simp only [List.append_assoc, List.singleton_append, List.map_cons, sumC]
theorem Q2bn (p1 : Val) (p2 : BA) (o0 : av) : Qyh p1 p2 o0 = (((Q5w p1 p2 o0 (Qy (Q9 p1 p2 o0).1 4 (Q9 p1 p2 o0).2).1.list 0 (Qy (Q9 p1 p2 o0).1 4 (Q9 p1 p2 o0).2).2.dD []).2, (av.mk (Q5w p1 p2 o0 (Qy (Q9 p1 p2 o0).1 4 (Q9 p1 p2 o0).2).1.list 0 (Qy (Q9 p1 p2 o0).1 4 (Q9 p1 p2 o0).2).2.dD []).1))) := by
  rw [Q199]
  unfold Q9 Qy Qyh
  simp only [Q96, getL, Qeg, Qnj]
  rfl
def Q296 (p1 : Val) (p2 : BA) (o0 : av) : En := .call 197 [.bx 0 0, .agg (Val.cells p1), .str p2, .fn 198 [] [.bx 1 0]] [⟨1, 0, false, (av.cells o0)⟩, ⟨1, 0, false, [.bx 0 0]⟩]
def Q2cr (_p1 : Val) (_p2 : BA) (_o0 : av) (q0 : List Int) (q1 : av) : Rs := .ret (.sl (Q3m q0)) [⟨1, 0, false, (av.cells q1)⟩, ⟨1, 0, false, [.bx 0 0]⟩]
def Q1z7 (p1 : Val) (p2 : BA) (o0 : av) : Rs := Q2cr p1 p2 o0 (Qyh p1 p2 o0).1 (Qyh p1 p2 o0).2
def Q1r7 (p1 : Val) : Prop := Val.Sm 1000000000 p1
theorem Q17p (p1 : Val) (p2 : BA) (o0 : av) (H : Q1r7 p1) : (Qg1 p1) ∧ (Qda p1 p2 o0) ∧ True := by
  have hl := Qeh (Q3d H p2)
  refine ⟨H, ?_, trivial⟩
  unfold Qda Q9 Qy
  simp only [getL]
  exact ⟨Nat.le_trans hl.1 (Nat.le_of_ble_eq_true rfl), trivial⟩
theorem Q2ea (p1 : Val) (p2 : BA) (o0 : av) (H : Q1r7 p1) : Q0 G (Q296 p1 p2 o0) (Q1z7 p1 p2 o0) := by
 unfold Q1z7
 rw [Q2bn]
 have hl0 := Q12o p1 p2 o0 ((Q17p p1 p2 o0 H).2.1) (Qy (Q9 p1 p2 o0).1 4 (Q9 p1 p2 o0).2).1.list 0 (Qy (Q9 p1 p2 o0).1 4 (Q9 p1 p2 o0).2).2.dD [] (by simp) (by simp)
 obtain ⟨z0, gq, hl0⟩ := hl0
 exact Q5 (fn := Ir.K6p) (by kernel_rfl) (h := [⟨1, 0, false, (av.cells o0)⟩, ⟨1, 0, false, [.bx 0 0]⟩]) (vw := []) VOK.nil [hP 10 (Qw _ _ (Val.Q8 (Qy (Q9 p1 p2 o0).1 4 (Q9 p1 p2 o0).2).1.list)), hS 0 true (Qck (Q5w p1 p2 o0 (Qy (Q9 p1 p2 o0).1 4 (Q9 p1 p2 o0).2).1.list 0 (Qy (Q9 p1 p2 o0).1 4 (Q9 p1 p2 o0).2).2.dD []).2 1 rfl), hQ (Q6v (Q5w p1 p2 o0 (Qy (Q9 p1 p2 o0).1 4 (Q9 p1 p2 o0).2).1.list 0 (Qy (Q9 p1 p2 o0).1 4 (Q9 p1 p2 o0).2).2.dD []).2).symm] [aN (Qfk p1 p2 o0 (Q17p p1 p2 o0 H).1), aN (Qc6 (Q9 p1 p2 o0).1 4 (Q9 p1 p2 o0).2), aV [(2, Q3m (Q5w p1 p2 o0 (Qy (Q9 p1 p2 o0).1 4 (Q9 p1 p2 o0).2).1.list 0 (Qy (Q9 p1 p2 o0).1 4 (Q9 p1 p2 o0).2).2.dD []).2)] hl0] (by kernel_rfl)
def Qpd (p1 : Val) (p2 : BA) (o0 : av) : List Int × av := ((dE xN p1 p2).1, bp o0 (pE (cK 2) p1 p2))
theorem Q2b8 (p1 : Val) (p2 : BA) (o0 : av) : Qpd p1 p2 o0 = (((Qyh p1 p2 o0).1, (Qyh p1 p2 o0).2)) := by
  rfl
def Q28r (p1 : Val) (p2 : BA) (o0 : av) : En := .call 106 [.bx 0 0, .agg (Val.cells p1), .str p2] [⟨1, 0, false, (av.cells o0)⟩]
def Q2cc (_p1 : Val) (_p2 : BA) (_o0 : av) (q0 : List Int) (q1 : av) : Rs := .ret (.sl (Q3m q0)) [⟨1, 0, false, (av.cells q1)⟩]
def Q1ys (p1 : Val) (p2 : BA) (o0 : av) : Rs := Q2cc p1 p2 o0 (Qpd p1 p2 o0).1 (Qpd p1 p2 o0).2
def Q1r0 (p1 : Val) : Prop := Val.Sm 1000000000 p1
theorem Q1mq (p1 : Val) (_p2 : BA) (_o0 : av) (H : Q1r0 p1) : (Q1r7 p1) ∧ True := by
  repeat' with_reducible apply And.intro
  all_goals first | exact True.intro | exact H
theorem Q2e2 (p1 : Val) (p2 : BA) (o0 : av) (H : Q1r0 p1) : Q0 G (Q28r p1 p2 o0) (Q1ys p1 p2 o0) := by
 unfold Q1ys
 rw [Q2b8]
 exact Q5 (fn := Ir.K63) (by kernel_rfl) (h := [⟨1, 0, false, (av.cells o0)⟩]) (vw := []) VOK.nil [] [aN (Q2ea p1 p2 o0 (Q1mq p1 p2 o0 H).1)] (by kernel_rfl)
def Qyj (p1 : bQ) (o0 : av) : bQ × Int :=
 bif (decide (0 < o0.dD)) then
  ((bQ.mk (bJ.mk eB eB eB 0 0 0 0 false 0 [] [] [] []) 0 0 0 0 false false (aU.mk [] (aY.mk eB 0 0 0 [] [] [] [] [] [])) 0 0 0 0 0 [] 0), 6)
 else
  (p1, 0)
def Q29i (p1 : bQ) (o0 : av) : En := .call 107 [.bx 0 0, .agg (bQ.cells p1)] [⟨1, 0, false, (av.cells o0)⟩]
def Q2cv (_p1 : bQ) (o0 : av) (q0 : bQ) (q1 : Int) : Rs := .ret (.tup [.agg (bQ.cells q0), iN q1]) [⟨1, 0, false, (av.cells o0)⟩]
def Q1zj (p1 : bQ) (o0 : av) : Rs := Q2cv p1 o0 (Qyj p1 o0).1 (Qyj p1 o0).2
theorem Q2eg (p1 : bQ) (o0 : av) : Q0 G (Q29i p1 o0) (Q1zj p1 o0) := by
 unfold Q1zj Qyj
 cases h0 : (decide (0 < o0.dD)) with
 | true =>
  exact Q5 (fn := Ir.K7b) (by kernel_rfl) (h := [⟨1, 0, false, (av.cells o0)⟩]) (vw := []) VOK.nil [hB 7 h0] [] (by kernel_rfl)
 | false =>
  exact Q5 (fn := Ir.K7b) (by kernel_rfl) (h := [⟨1, 0, false, (av.cells o0)⟩]) (vw := []) VOK.nil [hB 7 h0] [] (by kernel_rfl)
def Qph (p0 : aW) : av :=
  (Q6q p0.aS (Q4b p0 Q3c)).2
def Qpl (p0 : aW) : av :=
  (Qs p0.aL Q2v (Qph p0)).2
def Qpp (p0 : aW) : av :=
  (Qs p0.aL Q1s (Qpl p0)).2
def Qpt (p0 : aW) : av :=
  (Qs p0.aL Q1h (Qpp p0)).2
def Qpx (p0 : aW) : av :=
  (Qs p0.aL Q2h (Qpt p0)).2
def Qq1 (p0 : aW) : av :=
  (Qs p0.aL Q23 (Qpx p0)).2
def Qq4 (p0 : aW) : av :=
  (Qpd p0.aL Q3y (Qq1 p0)).2
def Q15e (p0 : aW) : av :=
  (Qs p0.aL Q2z (Qq4 p0)).2
def Q1k8 (p0 : aW) : bQ × Int := resC (bQ.cnt p0) (bQ.of p0) bQ.z
theorem Q1rw (n : Nat) (x : bQ) : Qyj x (bp ⟨0⟩ n) = resC n x bQ.z := rfl
theorem Q2b2 (p0 : aW) : Q1k8 p0 = (((Qyj (bQ.mk p0.aG (Q6q p0.aS (Q4b p0 Q3c)).1.cB (Q6q p0.aS (Q4b p0 Q3c)).1.dn (Q6q p0.aS (Q4b p0 Q3c)).1.eu (Q6q p0.aS (Q4b p0 Q3c)).1.bY (Q6q p0.aS (Q4b p0 Q3c)).1.dZ (Q6q p0.aS (Q4b p0 Q3c)).1.d9 (Q6q p0.aS (Q4b p0 Q3c)).1.aP (Qs p0.aL Q2v (Qph p0)).1 (Qs p0.aL Q1s (Qpl p0)).1 (Qs p0.aL Q1h (Qpp p0)).1 (Qs p0.aL Q2h (Qpt p0)).1 (Qs p0.aL Q23 (Qpx p0)).1 (Qpd p0.aL Q3y (Qq1 p0)).1 (Qs p0.aL Q2z (Qq4 p0)).1) (Q15e p0)).1, (Qyj (bQ.mk p0.aG (Q6q p0.aS (Q4b p0 Q3c)).1.cB (Q6q p0.aS (Q4b p0 Q3c)).1.dn (Q6q p0.aS (Q4b p0 Q3c)).1.eu (Q6q p0.aS (Q4b p0 Q3c)).1.bY (Q6q p0.aS (Q4b p0 Q3c)).1.dZ (Q6q p0.aS (Q4b p0 Q3c)).1.d9 (Q6q p0.aS (Q4b p0 Q3c)).1.aP (Qs p0.aL Q2v (Qph p0)).1 (Qs p0.aL Q1s (Qpl p0)).1 (Qs p0.aL Q1h (Qpp p0)).1 (Qs p0.aL Q2h (Qpt p0)).1 (Qs p0.aL Q23 (Qpx p0)).1 (Qpd p0.aL Q3y (Qq1 p0)).1 (Qs p0.aL Q2z (Qq4 p0)).1) (Q15e p0)).2)) := by
  simp only [Qph, Qpl, Qpp, Qpt, Qpx, Qq1, Qq4, Q15e, Qs, Q6q, Qpd, Qyj, Q4b, Q96]
  refine Eq.trans ?_ (Q1rw _ _).symm
  refine Qy9 ?_ rfl
  unfold bQ.cnt JobS.cnt
  omega
def Q28l (p0 : aW) : En := .call 23 [.agg (aW.cells p0)] []
def Q1ym (p0 : aW) : Rs := .ret (.tup [.agg (bQ.cells (Q1k8 p0).1), iN (Q1k8 p0).2]) []
def Q1li (p0 : aW) : Prop := Qcb p0.aG ∧ aW.sm p0
theorem Q7r (p0 : aW) (H : Q1li p0) : (Q1r1 p0.aS) ∧ (Qcb p0.aG) ∧ (Qjy p0.aL) ∧ (Q1r0 p0.aL) ∧ True := by
  repeat' with_reducible apply And.intro
  all_goals first | exact True.intro | exact H.1 | exact H.2 | exact H.2.1 | exact H.2.2 | exact Q3d H.2.1 _ | exact Q3d H.2.2 _
theorem Q2e0 (p0 : aW) (H : Q1li p0) : Q0 G (Q28l p0) (Q1ym p0) := by
 unfold Q1ym
 rw [Q2b2]
 exact Q5 (fn := Ir.K5r) (by kernel_rfl) VOK.nil [] [aN (Q1o2 p0 Q3c), aN (Q2e4 p0.aS (Q4b p0 Q3c) (Q7r p0 H).1), aN (Q1ki p0.aG (Q7r p0 H).2.1), aN (Q5o p0.aL Q2v (Qph p0) (Q7r p0 H).2.2.1), aN (Q5o p0.aL Q1s (Qpl p0) (Q7r p0 H).2.2.1), aN (Q5o p0.aL Q1h (Qpp p0) (Q7r p0 H).2.2.1), aN (Q5o p0.aL Q2h (Qpt p0) (Q7r p0 H).2.2.1), aN (Q5o p0.aL Q23 (Qpx p0) (Q7r p0 H).2.2.1), aN (Q2e2 p0.aL Q3y (Qq1 p0) (Q7r p0 H).2.2.2.1), aN (Q5o p0.aL Q2z (Qq4 p0) (Q7r p0 H).2.2.1), aN (Q2eg (bQ.mk p0.aG (Q6q p0.aS (Q4b p0 Q3c)).1.cB (Q6q p0.aS (Q4b p0 Q3c)).1.dn (Q6q p0.aS (Q4b p0 Q3c)).1.eu (Q6q p0.aS (Q4b p0 Q3c)).1.bY (Q6q p0.aS (Q4b p0 Q3c)).1.dZ (Q6q p0.aS (Q4b p0 Q3c)).1.d9 (Q6q p0.aS (Q4b p0 Q3c)).1.aP (Qs p0.aL Q2v (Qph p0)).1 (Qs p0.aL Q1s (Qpl p0)).1 (Qs p0.aL Q1h (Qpp p0)).1 (Qs p0.aL Q2h (Qpt p0)).1 (Qs p0.aL Q23 (Qpx p0)).1 (Qpd p0.aL Q3y (Qq1 p0)).1 (Qs p0.aL Q2z (Qq4 p0)).1) (Q15e p0))] (by kernel_rfl)
def Qoo (p0 : Val) (o1 : av) : aK × av := ((aK.dec p0).1, bp o1 (aK.cnt p0))
theorem Q2az (p0 : Val) (o1 : av) : Qoo p0 o1 = (((aK.mk (Q91 p0 Q13 o1).1 (Qs p0 Q7g (Q91 p0 Q13 o1).2).1), (Qs p0 Q7g (Q91 p0 Q13 o1).2).2)) := by
  simp only [Qs, Q91, Qoo, Q96]
  refine Prod.ext rfl (congrArg (bp o1) ?_)
  show aK.cnt p0 = _
  try unfold aK.cnt
  try unfold cM
  first | rfl | omega
def Q28i (p0 : Val) (o1 : av) : En := .call 112 [.agg (Val.cells p0), .bx 0 0] [⟨1, 0, false, [.bx 1 0]⟩, ⟨1, 0, false, (av.cells o1)⟩]
def Q2c7 (_p0 : Val) (_o1 : av) (q0 : aK) (q1 : av) : Rs := .ret (.agg (aK.cells q0)) [⟨1, 0, false, [.bx 1 0]⟩, ⟨1, 0, false, (av.cells q1)⟩]
def Q1yj (p0 : Val) (o1 : av) : Rs := Q2c7 p0 o1 (Qoo p0 o1).1 (Qoo p0 o1).2
def Q1qy (p0 : Val) : Prop := Val.Sm 1000000000 p0
theorem Q17j (p0 : Val) (_o1 : av) (H : Q1qy p0) : (Q1lk p0) ∧ (Qjy p0) ∧ True := by
  repeat' with_reducible apply And.intro
  all_goals first | exact True.intro | exact H | exact Q3d H _
theorem Q2dx (p0 : Val) (o1 : av) (H : Q1qy p0) : Q0 G (Q28i p0 o1) (Q1yj p0 o1) := by
 unfold Q1yj
 rw [Q2az]
 exact Q5 (fn := Ir.K5k) (by kernel_rfl) (h := [⟨1, 0, false, [.bx 1 0]⟩, ⟨1, 0, false, (av.cells o1)⟩]) (vw := []) VOK.nil [] [aN (Q213 p0 Q13 o1 (Q17j p0 o1 H).1), aN (Q5o p0 Q7g (Q91 p0 Q13 o1).2 (Q17j p0 o1 H).2.1)] (by kernel_rfl)
def Q5s (p1 : Val) (p2 : BA) (o0 : av) : List Val → Nat → Int → (List aK) → Int × (List aK)
 | [], _i0, ah, aH =>
  (ah, aH)
 | x0 :: r0, i0, ah, aH =>
  Q5s p1 p2 o0 r0 (i0 + 1) (Qoo x0 (av.mk ah)).2.dD (aH ++ [(Qoo x0 (av.mk ah)).1])
def Q1g1 (p1 : Val) (p2 : BA) (o0 : av) (i0 : Nat) (_ah : Int) (aH : List aK) : List PV :=
  [.un, .un, .un, .fn 112 [] [.bx 1 0]] ++ nuns 5 ++ [.ms 2 2 0 (List.length aH)] ++ nuns 8 ++ [.sl (Val.rows (Qy (Q9 p1 p2 o0).1 4 (Q9 p1 p2 o0).2).1.list), iN ((List.length (Qy (Q9 p1 p2 o0).1 4 (Q9 p1 p2 o0).2).1.list) : Int), iN (i0 : Int)] ++ nuns 11
def Qzo (_p1 : Val) (_p2 : BA) (_o0 : av) (_i0 : Nat) (ah : Int) (aH : List aK) : List Ob :=
  [⟨1, 0, false, [iN ah]⟩, ⟨1, 0, false, [.bx 0 0]⟩, ⟨2, 0, true, (aK.rows aH).flatten⟩]
def Qhb (p1 : Val) (p2 : BA) (o0 : av) (i0 : Nat) (ah : Int) (aH : List aK) : En := .loop 2 Ir.Qld Ir.Q1pb (Q1g1 p1 p2 o0 i0 ah aH) (Qzo p1 p2 o0 i0 ah aH)
def Qro (_p1 : Val) (_p2 : BA) (_o0 : av) (q0 : Int) (q1 : List aK) (z : Nat → PV) (_zo : Nat → List PV) : St :=
  ⟨zr z 0 9 ++ [.ms 2 2 0 (List.length q1)] ++ zr z 10 22, [(0, ⟨1, 0, false, [iN q0]⟩), (1, ⟨1, 0, false, [.bx 0 0]⟩), (2, ⟨2, 0, true, (aK.rows q1).flatten⟩)], 67⟩
theorem Q16k (p1 : Val) (p2 : BA) (o0 : av) (i0 : Nat) (ah : Int) (aH : List aK) : VOK (Go.Pv.look (number 0 (Qzo p1 p2 o0 i0 ah aH))) [(2, aK.rows aH)] := (VOK.cons (show Seen _ _ from Q3o (ob := ⟨2, 0, true, (aK.rows aH).flatten⟩) (aK.Q7 aH 2 rfl)) VOK.nil)
def Qj8 (p1 : Val) (p2 : BA) (o0 : av) (e : En) (q : Int × (List aK)) : Prop := ∃ z zo, Q0 G e (.st (.exit 0) (Qro p1 p2 o0 q.1 q.2 z zo))
theorem Qwi (p1 : Val) (p2 : BA) (o0 : av) {e e' : En} (h : ∀ r, Q0 G e r → Q0 G e' r) : ∀ q, Qj8 p1 p2 o0 e q → Qj8 p1 p2 o0 e' q
  | _, ⟨z, zo, hz⟩ => ⟨z, zo, h _ hz⟩
def Qd6 (p1 : Val) (p2 : BA) (o0 : av) : Prop := (List.length (Qy (Q9 p1 p2 o0).1 4 (Q9 p1 p2 o0).2).1.list ≤ 137438953472) ∧ (∀ x0 ∈ (Qy (Q9 p1 p2 o0).1 4 (Q9 p1 p2 o0).2).1.list, Q1qy x0) ∧ True
def Qtj (p1 : Val) (p2 : BA) (o0 : av) (i0 : Nat) (_ah : Int) (_aH : List aK) : List PV :=
  [.un, .un, .un, .fn 112 [] [.bx 1 0]] ++ nuns 14 ++ [.sl (Val.rows (Qy (Q9 p1 p2 o0).1 4 (Q9 p1 p2 o0).2).1.list), iN ((List.length (Qy (Q9 p1 p2 o0).1 4 (Q9 p1 p2 o0).2).1.list) : Int), iN (i0 : Int), .bool false]
def Qn9 (_p1 : Val) (_p2 : BA) (_o0 : av) (_i0 : Nat) (_ah : Int) (_aH : List aK) : List (Nat × List PV) :=
  []
theorem Q1el (p1 : Val) (p2 : BA) (o0 : av) (_H : Qd6 p1 p2 o0) (i0 : Nat) (ah : Int) (aH : List aK) (_aT : List.length aH ≤ i0) (bG : (decide ((i0 : Int) < ((List.length (Qy (Q9 p1 p2 o0).1 4 (Q9 p1 p2 o0).2).1.list) : Int))) = false) : Qj8 p1 p2 o0 (Qhb p1 p2 o0 i0 ah aH) (ah, aH) := by
 exact ⟨(envF (Qtj p1 p2 o0 i0 ah aH)), (zoF (Qn9 p1 p2 o0 i0 ah aH)), Qd (Q16k p1 p2 o0 i0 ah aH) (x := ((.exit 0), Qro p1 p2 o0 ah aH (envF (Qtj p1 p2 o0 i0 ah aH)) (zoF (Qn9 p1 p2 o0 i0 ah aH)))) [hB 0 bG] [] (by kernel_rfl)⟩
theorem Q1bw (p1 : Val) (p2 : BA) (o0 : av) (H : Qd6 p1 p2 o0) (x0 : Val) (i0 : Nat) (ah : Int) (aH : List aK) (bU : (Qy (Q9 p1 p2 o0).1 4 (Q9 p1 p2 o0).2).1.list[i0]? = some x0) (dG : i0 < List.length (Qy (Q9 p1 p2 o0).1 4 (Q9 p1 p2 o0).2).1.list) (aT : List.length aH ≤ i0) (bG : (decide ((i0 : Int) < ((List.length (Qy (Q9 p1 p2 o0).1 4 (Q9 p1 p2 o0).2).1.list) : Int))) = true) {r : Rs} (hr : Q0 G (Qhb p1 p2 o0 (i0 + 1) (Qoo x0 (av.mk ah)).2.dD (aH ++ [(Qoo x0 (av.mk ah)).1])) r) : Q0 G (Qhb p1 p2 o0 i0 ah aH) r := by
 have hB0 := H.1
 exact Qc (Q16k p1 p2 o0 i0 ah aH) [hB 0 bG, hP 0 (Q2q 5 _ i0 _ (Val.Qg bU) rfl), hA 8 2 579 643 2 24 0 0 true aK.Q8 aK.Q1g aH (Qoo x0 (av.mk ah)).1 (aK.Qh aH) rfl rfl (by omega), hS 0 true (aK.Q7 (aH ++ [(Qoo x0 (av.mk ah)).1]) 2 rfl), hP 1 (Q26 i0 (by omega))] [aN (Q2dx x0 (av.mk ah) (H.2.1 x0 (Q2l bU)))] hr (by kernel_rfl)
theorem Q12k (p1 : Val) (p2 : BA) (o0 : av) (H : Qd6 p1 p2 o0) : ∀ (r0 : List Val) (i0 : Nat) (ah : Int) (aH : List aK), List.drop i0 (Qy (Q9 p1 p2 o0).1 4 (Q9 p1 p2 o0).2).1.list = r0 → List.length aH ≤ i0 → Qj8 p1 p2 o0 (Qhb p1 p2 o0 i0 ah aH) (Q5s p1 p2 o0 r0 i0 ah aH)
 | [], i0, ah, aH, hd, aT => by
  have bG : (decide ((i0 : Int) < ((List.length (Qy (Q9 p1 p2 o0).1 4 (Q9 p1 p2 o0).2).1.list) : Int))) = false := by have := Q1c hd; simp; omega
  rw [Q5s]
  exact Q1el p1 p2 o0 H i0 ah aH aT bG
 | x0 :: r0, i0, ah, aH, hd, aT => by
  obtain ⟨bU, dG, hd'⟩ := Q19 hd
  have bG : (decide ((i0 : Int) < ((List.length (Qy (Q9 p1 p2 o0).1 4 (Q9 p1 p2 o0).2).1.list) : Int))) = true := by simp; omega
  rw [Q5s]
  exact Qwi p1 p2 o0 (fun r hr => Q1bw p1 p2 o0 H x0 i0 ah aH bU dG aT bG hr) _ (Q12k p1 p2 o0 H r0 _ _ _ hd' (by first | omega | (simp; omega)))
def Qyg (p1 : Val) (p2 : BA) (o0 : av) : List aK × av := ((dE aK.dec p1 p2).1, bp o0 (pE (aK.cnt) p1 p2))
theorem Q195 (p1 : Val) (p2 : BA) (o0 : av) : ∀ (l : List Val) (i : Nat) (b : Int) (a : List aK), Q5s p1 p2 o0 l i b a = (bw b (sumC (aK.cnt) l), a ++ l.map (fun x => (aK.dec x).1))
  | [], _, b, a => by rw [Q5s]; simp [sumC, bw]
  | x :: l, i, b, a => by
    rw [Q5s]
    refine (Q195 p1 p2 o0 l (i + 1) (bw b ((aK.cnt) x)) (a ++ [(aK.dec x).1])).trans ?_
    rw [Qnj]
    simp only [List.append_assoc, List.singleton_append, List.map_cons, sumC]
theorem Q2bj (p1 : Val) (p2 : BA) (o0 : av) : Qyg p1 p2 o0 = (((Q5s p1 p2 o0 (Qy (Q9 p1 p2 o0).1 4 (Q9 p1 p2 o0).2).1.list 0 (Qy (Q9 p1 p2 o0).1 4 (Q9 p1 p2 o0).2).2.dD []).2, (av.mk (Q5s p1 p2 o0 (Qy (Q9 p1 p2 o0).1 4 (Q9 p1 p2 o0).2).1.list 0 (Qy (Q9 p1 p2 o0).1 4 (Q9 p1 p2 o0).2).2.dD []).1))) := by
  rw [Q195]
  unfold Q9 Qy Qyg
  simp only [Q96, getL, Qeg, Qnj]
  rfl
def Q292 (p1 : Val) (p2 : BA) (o0 : av) : En := .call 111 [.bx 0 0, .agg (Val.cells p1), .str p2, .fn 112 [] [.bx 1 0]] [⟨1, 0, false, (av.cells o0)⟩, ⟨1, 0, false, [.bx 0 0]⟩]
def Q2cn (_p1 : Val) (_p2 : BA) (_o0 : av) (q0 : List aK) (q1 : av) : Rs := .ret (.sl (aK.rows q0)) [⟨1, 0, false, (av.cells q1)⟩, ⟨1, 0, false, [.bx 0 0]⟩]
def Q1z3 (p1 : Val) (p2 : BA) (o0 : av) : Rs := Q2cn p1 p2 o0 (Qyg p1 p2 o0).1 (Qyg p1 p2 o0).2
def Q1r3 (p1 : Val) : Prop := Val.Sm 1000000000 p1
theorem Q17l (p1 : Val) (p2 : BA) (o0 : av) (H : Q1r3 p1) : (Qg1 p1) ∧ (Qd6 p1 p2 o0) ∧ True := by
  have hl := Qeh (Q3d H p2)
  refine ⟨H, ?_, trivial⟩
  unfold Qd6 Q9 Qy
  simp only [getL]
  exact ⟨Nat.le_trans hl.1 (Nat.le_of_ble_eq_true rfl), hl.2, trivial⟩
theorem Q2e7 (p1 : Val) (p2 : BA) (o0 : av) (H : Q1r3 p1) : Q0 G (Q292 p1 p2 o0) (Q1z3 p1 p2 o0) := by
 unfold Q1z3
 rw [Q2bj]
 have hl0 := Q12k p1 p2 o0 ((Q17l p1 p2 o0 H).2.1) (Qy (Q9 p1 p2 o0).1 4 (Q9 p1 p2 o0).2).1.list 0 (Qy (Q9 p1 p2 o0).1 4 (Q9 p1 p2 o0).2).2.dD [] (by simp) (by simp)
 obtain ⟨z0, gq, hl0⟩ := hl0
 exact Q5 (fn := Ir.K6i) (by kernel_rfl) (h := [⟨1, 0, false, (av.cells o0)⟩, ⟨1, 0, false, [.bx 0 0]⟩]) (vw := []) VOK.nil [hP 10 (Qw _ _ (Val.Q8 (Qy (Q9 p1 p2 o0).1 4 (Q9 p1 p2 o0).2).1.list)), hS 0 true (aK.Q7 (Q5s p1 p2 o0 (Qy (Q9 p1 p2 o0).1 4 (Q9 p1 p2 o0).2).1.list 0 (Qy (Q9 p1 p2 o0).1 4 (Q9 p1 p2 o0).2).2.dD []).2 2 rfl), hQ (aK.Q8 (Q5s p1 p2 o0 (Qy (Q9 p1 p2 o0).1 4 (Q9 p1 p2 o0).2).1.list 0 (Qy (Q9 p1 p2 o0).1 4 (Q9 p1 p2 o0).2).2.dD []).2).symm] [aN (Qfk p1 p2 o0 (Q17l p1 p2 o0 H).1), aN (Qc6 (Q9 p1 p2 o0).1 4 (Q9 p1 p2 o0).2), aV [(2, aK.rows (Q5s p1 p2 o0 (Qy (Q9 p1 p2 o0).1 4 (Q9 p1 p2 o0).2).1.list 0 (Qy (Q9 p1 p2 o0).1 4 (Q9 p1 p2 o0).2).2.dD []).2)] hl0] (by kernel_rfl)
def Qpc (p0 : Val) (o1 : av) : aJ × av := ((aJ.dec p0).1, bp o1 (aJ.cnt p0))
theorem Q2b0 (p0 : Val) (o1 : av) : Qpc p0 o1 = (((Q90 p0 o1).1, (Q90 p0 o1).2)) := by
  rfl
def Q28j (p0 : Val) (o1 : av) : En := .call 113 [.agg (Val.cells p0), .bx 0 0] [⟨1, 0, false, [.bx 1 0]⟩, ⟨1, 0, false, (av.cells o1)⟩]
def Q2c8 (_p0 : Val) (_o1 : av) (q0 : aJ) (q1 : av) : Rs := .ret (.agg (aJ.cells q0)) [⟨1, 0, false, [.bx 1 0]⟩, ⟨1, 0, false, (av.cells q1)⟩]
def Q1yk (p0 : Val) (o1 : av) : Rs := Q2c8 p0 o1 (Qpc p0 o1).1 (Qpc p0 o1).2
def Q1qz (p0 : Val) : Prop := Val.Sm 1000000000 p0
theorem Q1mo (p0 : Val) (_o1 : av) (H : Q1qz p0) : (Q1gq p0) ∧ True := by
  repeat' with_reducible apply And.intro
  all_goals first | exact True.intro | exact H
theorem Q2dy (p0 : Val) (o1 : av) (H : Q1qz p0) : Q0 G (Q28j p0 o1) (Q1yk p0 o1) := by
 unfold Q1yk
 rw [Q2b0]
 exact Q5 (fn := Ir.K5l) (by kernel_rfl) (h := [⟨1, 0, false, [.bx 1 0]⟩, ⟨1, 0, false, (av.cells o1)⟩]) (vw := []) VOK.nil [] [aN (Q1s8 p0 o1 (Q1mo p0 o1 H).1)] (by kernel_rfl)
def Q5t (p1 : Val) (p2 : BA) (o0 : av) : List Val → Nat → Int → (List aJ) → Int × (List aJ)
 | [], _i0, ah, aH =>
  (ah, aH)
 | x0 :: r0, i0, ah, aH =>
  Q5t p1 p2 o0 r0 (i0 + 1) (Qpc x0 (av.mk ah)).2.dD (aH ++ [(Qpc x0 (av.mk ah)).1])
def Q1g2 (p1 : Val) (p2 : BA) (o0 : av) (i0 : Nat) (_ah : Int) (aH : List aJ) : List PV :=
  [.un, .un, .un, .fn 113 [] [.bx 1 0]] ++ nuns 5 ++ [.ms 2 2 0 (List.length aH)] ++ nuns 8 ++ [.sl (Val.rows (Qy (Q9 p1 p2 o0).1 4 (Q9 p1 p2 o0).2).1.list), iN ((List.length (Qy (Q9 p1 p2 o0).1 4 (Q9 p1 p2 o0).2).1.list) : Int), iN (i0 : Int)] ++ nuns 11
def Qzp (_p1 : Val) (_p2 : BA) (_o0 : av) (_i0 : Nat) (ah : Int) (aH : List aJ) : List Ob :=
  [⟨1, 0, false, [iN ah]⟩, ⟨1, 0, false, [.bx 0 0]⟩, ⟨2, 0, true, (aJ.rows aH).flatten⟩]
def Qhc (p1 : Val) (p2 : BA) (o0 : av) (i0 : Nat) (ah : Int) (aH : List aJ) : En := .loop 2 Ir.Qle Ir.Q1pc (Q1g2 p1 p2 o0 i0 ah aH) (Qzp p1 p2 o0 i0 ah aH)
def Qrp (_p1 : Val) (_p2 : BA) (_o0 : av) (q0 : Int) (q1 : List aJ) (z : Nat → PV) (_zo : Nat → List PV) : St :=
  ⟨zr z 0 9 ++ [.ms 2 2 0 (List.length q1)] ++ zr z 10 22, [(0, ⟨1, 0, false, [iN q0]⟩), (1, ⟨1, 0, false, [.bx 0 0]⟩), (2, ⟨2, 0, true, (aJ.rows q1).flatten⟩)], 67⟩
theorem Q16l (p1 : Val) (p2 : BA) (o0 : av) (i0 : Nat) (ah : Int) (aH : List aJ) : VOK (Go.Pv.look (number 0 (Qzp p1 p2 o0 i0 ah aH))) [(2, aJ.rows aH)] := (VOK.cons (show Seen _ _ from Q3o (ob := ⟨2, 0, true, (aJ.rows aH).flatten⟩) (aJ.Q7 aH 2 rfl)) VOK.nil)
def Qj9 (p1 : Val) (p2 : BA) (o0 : av) (e : En) (q : Int × (List aJ)) : Prop := ∃ z zo, Q0 G e (.st (.exit 0) (Qrp p1 p2 o0 q.1 q.2 z zo))
theorem Qwj (p1 : Val) (p2 : BA) (o0 : av) {e e' : En} (h : ∀ r, Q0 G e r → Q0 G e' r) : ∀ q, Qj9 p1 p2 o0 e q → Qj9 p1 p2 o0 e' q
  | _, ⟨z, zo, hz⟩ => ⟨z, zo, h _ hz⟩
def Qd7 (p1 : Val) (p2 : BA) (o0 : av) : Prop := (List.length (Qy (Q9 p1 p2 o0).1 4 (Q9 p1 p2 o0).2).1.list ≤ 137438953472) ∧ (∀ x0 ∈ (Qy (Q9 p1 p2 o0).1 4 (Q9 p1 p2 o0).2).1.list, Q1qz x0) ∧ True
def Qtk (p1 : Val) (p2 : BA) (o0 : av) (i0 : Nat) (_ah : Int) (_aH : List aJ) : List PV :=
  [.un, .un, .un, .fn 113 [] [.bx 1 0]] ++ nuns 14 ++ [.sl (Val.rows (Qy (Q9 p1 p2 o0).1 4 (Q9 p1 p2 o0).2).1.list), iN ((List.length (Qy (Q9 p1 p2 o0).1 4 (Q9 p1 p2 o0).2).1.list) : Int), iN (i0 : Int), .bool false]
def Qna (_p1 : Val) (_p2 : BA) (_o0 : av) (_i0 : Nat) (_ah : Int) (_aH : List aJ) : List (Nat × List PV) :=
  []
theorem Q1em (p1 : Val) (p2 : BA) (o0 : av) (_H : Qd7 p1 p2 o0) (i0 : Nat) (ah : Int) (aH : List aJ) (_aT : List.length aH ≤ i0) (bG : (decide ((i0 : Int) < ((List.length (Qy (Q9 p1 p2 o0).1 4 (Q9 p1 p2 o0).2).1.list) : Int))) = false) : Qj9 p1 p2 o0 (Qhc p1 p2 o0 i0 ah aH) (ah, aH) := by
 exact ⟨(envF (Qtk p1 p2 o0 i0 ah aH)), (zoF (Qna p1 p2 o0 i0 ah aH)), Qd (Q16l p1 p2 o0 i0 ah aH) (x := ((.exit 0), Qrp p1 p2 o0 ah aH (envF (Qtk p1 p2 o0 i0 ah aH)) (zoF (Qna p1 p2 o0 i0 ah aH)))) [hB 0 bG] [] (by kernel_rfl)⟩
theorem Q1bx (p1 : Val) (p2 : BA) (o0 : av) (H : Qd7 p1 p2 o0) (x0 : Val) (i0 : Nat) (ah : Int) (aH : List aJ) (bU : (Qy (Q9 p1 p2 o0).1 4 (Q9 p1 p2 o0).2).1.list[i0]? = some x0) (dG : i0 < List.length (Qy (Q9 p1 p2 o0).1 4 (Q9 p1 p2 o0).2).1.list) (aT : List.length aH ≤ i0) (bG : (decide ((i0 : Int) < ((List.length (Qy (Q9 p1 p2 o0).1 4 (Q9 p1 p2 o0).2).1.list) : Int))) = true) {r : Rs} (hr : Q0 G (Qhc p1 p2 o0 (i0 + 1) (Qpc x0 (av.mk ah)).2.dD (aH ++ [(Qpc x0 (av.mk ah)).1])) r) : Q0 G (Qhc p1 p2 o0 i0 ah aH) r := by
 have hB0 := H.1
 exact Qc (Q16l p1 p2 o0 i0 ah aH) [hB 0 bG, hP 0 (Q2q 5 _ i0 _ (Val.Qg bU) rfl), hA 8 2 579 643 2 16 0 0 true aJ.Q8 aJ.Q1g aH (Qpc x0 (av.mk ah)).1 (aJ.Qh aH) rfl rfl (by omega), hS 0 true (aJ.Q7 (aH ++ [(Qpc x0 (av.mk ah)).1]) 2 rfl), hP 1 (Q26 i0 (by omega))] [aN (Q2dy x0 (av.mk ah) (H.2.1 x0 (Q2l bU)))] hr (by kernel_rfl)
theorem Q12l (p1 : Val) (p2 : BA) (o0 : av) (H : Qd7 p1 p2 o0) : ∀ (r0 : List Val) (i0 : Nat) (ah : Int) (aH : List aJ), List.drop i0 (Qy (Q9 p1 p2 o0).1 4 (Q9 p1 p2 o0).2).1.list = r0 → List.length aH ≤ i0 → Qj9 p1 p2 o0 (Qhc p1 p2 o0 i0 ah aH) (Q5t p1 p2 o0 r0 i0 ah aH)
 | [], i0, ah, aH, hd, aT => by
  have bG : (decide ((i0 : Int) < ((List.length (Qy (Q9 p1 p2 o0).1 4 (Q9 p1 p2 o0).2).1.list) : Int))) = false := by have := Q1c hd; simp; omega
  rw [Q5t]
  exact Q1em p1 p2 o0 H i0 ah aH aT bG
 | x0 :: r0, i0, ah, aH, hd, aT => by
  obtain ⟨bU, dG, hd'⟩ := Q19 hd
  have bG : (decide ((i0 : Int) < ((List.length (Qy (Q9 p1 p2 o0).1 4 (Q9 p1 p2 o0).2).1.list) : Int))) = true := by simp; omega
  rw [Q5t]
  exact Qwj p1 p2 o0 (fun r hr => Q1bx p1 p2 o0 H x0 i0 ah aH bU dG aT bG hr) _ (Q12l p1 p2 o0 H r0 _ _ _ hd' (by first | omega | (simp; omega)))
def Qff (p1 : Val) (p2 : BA) (o0 : av) : List aJ × av := ((dE aJ.dec p1 p2).1, bp o0 (pE (aJ.cnt) p1 p2))
theorem Q196 (p1 : Val) (p2 : BA) (o0 : av) : ∀ (l : List Val) (i : Nat) (b : Int) (a : List aJ), Q5t p1 p2 o0 l i b a = (bw b (sumC (aJ.cnt) l), a ++ l.map (fun x => (aJ.dec x).1))
  | [], _, b, a => by rw [Q5t]; simp [sumC, bw]
  | x :: l, i, b, a => by
    rw [Q5t]
    refine (Q196 p1 p2 o0 l (i + 1) (bw b ((aJ.cnt) x)) (a ++ [(aJ.dec x).1])).trans ?_
    rw [Qnj]
    simp only [List.append_assoc, List.singleton_append, List.map_cons, sumC]
theorem Q2bk (p1 : Val) (p2 : BA) (o0 : av) : Qff p1 p2 o0 = (((Q5t p1 p2 o0 (Qy (Q9 p1 p2 o0).1 4 (Q9 p1 p2 o0).2).1.list 0 (Qy (Q9 p1 p2 o0).1 4 (Q9 p1 p2 o0).2).2.dD []).2, (av.mk (Q5t p1 p2 o0 (Qy (Q9 p1 p2 o0).1 4 (Q9 p1 p2 o0).2).1.list 0 (Qy (Q9 p1 p2 o0).1 4 (Q9 p1 p2 o0).2).2.dD []).1))) := by
  rw [Q196]
  unfold Q9 Qy Qff
  simp only [Q96, getL, Qeg, Qnj]
  rfl
def Q293 (p1 : Val) (p2 : BA) (o0 : av) : En := .call 115 [.bx 0 0, .agg (Val.cells p1), .str p2, .fn 113 [] [.bx 1 0]] [⟨1, 0, false, (av.cells o0)⟩, ⟨1, 0, false, [.bx 0 0]⟩]
def Q2co (_p1 : Val) (_p2 : BA) (_o0 : av) (q0 : List aJ) (q1 : av) : Rs := .ret (.sl (aJ.rows q0)) [⟨1, 0, false, (av.cells q1)⟩, ⟨1, 0, false, [.bx 0 0]⟩]
def Q1z4 (p1 : Val) (p2 : BA) (o0 : av) : Rs := Q2co p1 p2 o0 (Qff p1 p2 o0).1 (Qff p1 p2 o0).2
def Q1r4 (p1 : Val) : Prop := Val.Sm 1000000000 p1
theorem Q17m (p1 : Val) (p2 : BA) (o0 : av) (H : Q1r4 p1) : (Qg1 p1) ∧ (Qd7 p1 p2 o0) ∧ True := by
  have hl := Qeh (Q3d H p2)
  refine ⟨H, ?_, trivial⟩
  unfold Qd7 Q9 Qy
  simp only [getL]
  exact ⟨Nat.le_trans hl.1 (Nat.le_of_ble_eq_true rfl), hl.2, trivial⟩
theorem Q215 (p1 : Val) (p2 : BA) (o0 : av) (H : Q1r4 p1) : Q0 G (Q293 p1 p2 o0) (Q1z4 p1 p2 o0) := by
 unfold Q1z4
 rw [Q2bk]
 have hl0 := Q12l p1 p2 o0 ((Q17m p1 p2 o0 H).2.1) (Qy (Q9 p1 p2 o0).1 4 (Q9 p1 p2 o0).2).1.list 0 (Qy (Q9 p1 p2 o0).1 4 (Q9 p1 p2 o0).2).2.dD [] (by simp) (by simp)
 obtain ⟨z0, gq, hl0⟩ := hl0
 exact Q5 (fn := Ir.K6j) (by kernel_rfl) (h := [⟨1, 0, false, (av.cells o0)⟩, ⟨1, 0, false, [.bx 0 0]⟩]) (vw := []) VOK.nil [hP 10 (Qw _ _ (Val.Q8 (Qy (Q9 p1 p2 o0).1 4 (Q9 p1 p2 o0).2).1.list)), hS 0 true (aJ.Q7 (Q5t p1 p2 o0 (Qy (Q9 p1 p2 o0).1 4 (Q9 p1 p2 o0).2).1.list 0 (Qy (Q9 p1 p2 o0).1 4 (Q9 p1 p2 o0).2).2.dD []).2 2 rfl), hQ (aJ.Q8 (Q5t p1 p2 o0 (Qy (Q9 p1 p2 o0).1 4 (Q9 p1 p2 o0).2).1.list 0 (Qy (Q9 p1 p2 o0).1 4 (Q9 p1 p2 o0).2).2.dD []).2).symm] [aN (Qfk p1 p2 o0 (Q17m p1 p2 o0 H).1), aN (Qc6 (Q9 p1 p2 o0).1 4 (Q9 p1 p2 o0).2), aV [(2, aJ.rows (Q5t p1 p2 o0 (Qy (Q9 p1 p2 o0).1 4 (Q9 p1 p2 o0).2).1.list 0 (Qy (Q9 p1 p2 o0).1 4 (Q9 p1 p2 o0).2).2.dD []).2)] hl0] (by kernel_rfl)
def Q155 (p1 : aQ) (o0 : av) : aQ × Int :=
 bif (decide (0 < o0.dD)) then
  ((aQ.mk (bJ.mk eB eB eB 0 0 0 0 false 0 [] [] [] []) [] [] [] 0 0 0 0 0 []), 6)
 else
  (p1, 0)
def Q29j (p1 : aQ) (o0 : av) : En := .call 114 [.bx 0 0, .agg (aQ.cells p1)] [⟨1, 0, false, (av.cells o0)⟩]
def Q2cw (_p1 : aQ) (o0 : av) (q0 : aQ) (q1 : Int) : Rs := .ret (.tup [.agg (aQ.cells q0), iN q1]) [⟨1, 0, false, (av.cells o0)⟩]
def Q1zk (p1 : aQ) (o0 : av) : Rs := Q2cw p1 o0 (Q155 p1 o0).1 (Q155 p1 o0).2
theorem Q2eh (p1 : aQ) (o0 : av) : Q0 G (Q29j p1 o0) (Q1zk p1 o0) := by
 unfold Q1zk Q155
 cases h0 : (decide (0 < o0.dD)) with
 | true =>
  exact Q5 (fn := Ir.K7c) (by kernel_rfl) (h := [⟨1, 0, false, (av.cells o0)⟩]) (vw := []) VOK.nil [hB 7 h0] [] (by kernel_rfl)
 | false =>
  exact Q5 (fn := Ir.K7c) (by kernel_rfl) (h := [⟨1, 0, false, (av.cells o0)⟩]) (vw := []) VOK.nil [hB 7 h0] [] (by kernel_rfl)
def Qpf (p0 : aW) : av :=
  (Qyg p0.aL Q1r (Q4b p0 Q2u)).2
def Qpj (p0 : aW) : av :=
  (Q89 p0.aS (Qpf p0)).2
def Qpn (p0 : aW) : av :=
  (Qff p0.aS Q16 (Qpj p0)).2
def Qpr (p0 : aW) : av :=
  (Qff p0.aS Q10 (Qpn p0)).2
def Qpv (p0 : aW) : av :=
  (Qs p0.aL Ql (Qpr p0)).2
def Qpz (p0 : aW) : av :=
  (Qs p0.aL Q2f (Qpv p0)).2
def Qq2 (p0 : aW) : av :=
  (Qs p0.aL Q2e (Qpz p0)).2
def Qq5 (p0 : aW) : av :=
  (Qs p0.aL Q22 (Qq2 p0)).2
def Q15f (p0 : aW) : av :=
  (Qs p0.aL Q2d (Qq5 p0)).2
def Q1k6 (p0 : aW) : aQ × Int := resC (aQ.cnt p0) (aQ.of p0) aQ.z
theorem Q1cg (n : Nat) (x : aQ) : Q155 x (bp ⟨0⟩ n) = resC n x aQ.z := rfl
theorem Q2ay (p0 : aW) : Q1k6 p0 = (((Q155 (aQ.mk p0.aG (Q89 p0.aS (Qpf p0)).1 (Qff p0.aS Q16 (Qpj p0)).1 (Qff p0.aS Q10 (Qpn p0)).1 (Qs p0.aL Ql (Qpr p0)).1 (Qs p0.aL Q2f (Qpv p0)).1 (Qs p0.aL Q2e (Qpz p0)).1 (Qs p0.aL Q22 (Qq2 p0)).1 (Qs p0.aL Q2d (Qq5 p0)).1 (Qyg p0.aL Q1r (Q4b p0 Q2u)).1) (Q15f p0)).1, (Q155 (aQ.mk p0.aG (Q89 p0.aS (Qpf p0)).1 (Qff p0.aS Q16 (Qpj p0)).1 (Qff p0.aS Q10 (Qpn p0)).1 (Qs p0.aL Ql (Qpr p0)).1 (Qs p0.aL Q2f (Qpv p0)).1 (Qs p0.aL Q2e (Qpz p0)).1 (Qs p0.aL Q22 (Qq2 p0)).1 (Qs p0.aL Q2d (Qq5 p0)).1 (Qyg p0.aL Q1r (Q4b p0 Q2u)).1) (Q15f p0)).2)) := by
  simp only [Qpf, Qpj, Qpn, Qpr, Qpv, Qpz, Qq2, Qq5, Q15f, Qs, Q89, Qyg, Qff, Q155, Q4b, Q96]
  refine Eq.trans ?_ (Q1cg _ _).symm
  refine Qy9 ?_ rfl
  unfold aQ.cnt
  omega
def Q28h (p0 : aW) : En := .call 25 [.agg (aW.cells p0)] []
def Q1yi (p0 : aW) : Rs := .ret (.tup [.agg (aQ.cells (Q1k6 p0).1), iN (Q1k6 p0).2]) []
def Q1lg (p0 : aW) : Prop := Qcb p0.aG ∧ aW.sm p0
theorem Q7b (p0 : aW) (H : Q1lg p0) : (Q1r3 p0.aL) ∧ (Qcb p0.aG) ∧ (Q1gr p0.aS) ∧ (Q1r4 p0.aS) ∧ (Qjy p0.aL) ∧ True := by
  repeat' with_reducible apply And.intro
  all_goals first | exact True.intro | exact H.1 | exact H.2 | exact H.2.1 | exact H.2.2 | exact Q3d H.2.1 _ | exact Q3d H.2.2 _
theorem Q2dw (p0 : aW) (H : Q1lg p0) : Q0 G (Q28h p0) (Q1yi p0) := by
 unfold Q1yi
 rw [Q2ay]
 exact Q5 (fn := Ir.K5j) (by kernel_rfl) VOK.nil [] [aN (Q1o2 p0 Q2u), aN (Q2e7 p0.aL Q1r (Q4b p0 Q2u) (Q7b p0 H).1), aN (Q1ki p0.aG (Q7b p0 H).2.1), aN (Q1s9 p0.aS (Qpf p0) (Q7b p0 H).2.2.1), aN (Q215 p0.aS Q16 (Qpj p0) (Q7b p0 H).2.2.2.1), aN (Q215 p0.aS Q10 (Qpn p0) (Q7b p0 H).2.2.2.1), aN (Q5o p0.aL Ql (Qpr p0) (Q7b p0 H).2.2.2.2.1), aN (Q5o p0.aL Q2f (Qpv p0) (Q7b p0 H).2.2.2.2.1), aN (Q5o p0.aL Q2e (Qpz p0) (Q7b p0 H).2.2.2.2.1), aN (Q5o p0.aL Q22 (Qq2 p0) (Q7b p0 H).2.2.2.2.1), aN (Q5o p0.aL Q2d (Qq5 p0) (Q7b p0 H).2.2.2.2.1), aN (Q2eh (aQ.mk p0.aG (Q89 p0.aS (Qpf p0)).1 (Qff p0.aS Q16 (Qpj p0)).1 (Qff p0.aS Q10 (Qpn p0)).1 (Qs p0.aL Ql (Qpr p0)).1 (Qs p0.aL Q2f (Qpv p0)).1 (Qs p0.aL Q2e (Qpz p0)).1 (Qs p0.aL Q22 (Qq2 p0)).1 (Qs p0.aL Q2d (Qq5 p0)).1 (Qyg p0.aL Q1r (Q4b p0 Q2u)).1) (Q15f p0))] (by kernel_rfl)
end Go.Proofs.YtimjjohlpnkacaaGreat
end

section
/- What the program's decoders compute (printed by a program). -/
namespace Go.Proofs.YtimjjohlpnkacaaGreat
open Go.Pv
end Go.Proofs.YtimjjohlpnkacaaGreat
end

