/- Texts of the claim, merged by a program; what the statement does not reach is left out. -/
import Derived.Test.YtimjjohlpnkacaaGreatBWorkcodecScaled6

section
/- What the program's decoders compute (printed by a program). -/
namespace Go.Proofs.YtimjjohlpnkacaaGreat
open Go.Pv
structure Decoder where
  wrong : Int
def Decoder.cells (x : Decoder) : List PV :=
  [.int .i64 x.wrong]
def Decoder.rows (l : List Decoder) : List (List PV) := l.map Decoder.cells
def bp (o : Decoder) (n : Nat) : Decoder := ⟨bw o.wrong n⟩
theorem Qa7 (o : Decoder) (a b : Nat) : bp (bp o a) b = bp o (a + b) := by unfold bp; rw [Qvn]
theorem Qii (o : Decoder) (n : Nat) : (bp o n).wrong = bw o.wrong n := rfl
def Q1o (p1 : Val) (p2 : Int) (o0 : Decoder) : Val × Decoder := (bif p1.kind == p2 then p1 else vZ, bp o0 (cK p2 p1))
theorem Q23i (p1 : Val) (p2 : Int) (o0 : Decoder) : Q1o p1 p2 o0 = (bif (p1.kind == p2) then
    (p1, o0)
  else
    bif (p1.kind == 0) then
      ((Val.mk 0 0 eB [] []), o0)
    else
      ((Val.mk 0 0 eB [] []), (Decoder.mk (w64 (o0.wrong + 1))))) := by
  obtain ⟨w⟩ := o0
  unfold Q1o bp cK nb
  cases (p1.kind == p2) <;> cases (p1.kind == 0) <;> rfl
def Q21i (p1 : Val) (p2 : Int) (o0 : Decoder) : En := .call 174 [.bx 0 0, .agg (Val.cells p1), .int .i64 p2] [⟨1, 0, false, (Decoder.cells o0)⟩]
def Q24h (_p1 : Val) (_p2 : Int) (_o0 : Decoder) (q0 : Val) (q1 : Decoder) : Rs := .ret (.agg (Val.cells q0)) [⟨1, 0, false, (Decoder.cells q1)⟩]
def Q1sh (p1 : Val) (p2 : Int) (o0 : Decoder) : Rs := Q24h p1 p2 o0 (Q1o p1 p2 o0).1 (Q1o p1 p2 o0).2
theorem Qdp (p1 : Val) (p2 : Int) (o0 : Decoder) : Qd G (Q21i p1 p2 o0) (Q1sh p1 p2 o0) := by
 unfold Q1sh
 rw [Q23i]
 cases h0 : (p1.kind == p2) with
 | true =>
  exact Qj (fn := Ir.K61) rfl (h := [⟨1, 0, false, (Decoder.cells o0)⟩]) (vw := []) VOK.nil [hB 5 h0] [] (by kernel_rfl)
 | false =>
  cases h1 : (p1.kind == 0) with
  | true =>
   exact Qj (fn := Ir.K61) rfl (h := [⟨1, 0, false, (Decoder.cells o0)⟩]) (vw := []) VOK.nil [hB 5 h0, hP 2 (dec (!(p1.kind == 0)) false (by rw [h1]; rfl))] [] (by kernel_rfl)
  | false =>
   exact Qj (fn := Ir.K61) rfl (h := [⟨1, 0, false, (Decoder.cells o0)⟩]) (vw := []) VOK.nil [hB 5 h0, hP 2 (dec (!(p1.kind == 0)) true (by rw [h1]; rfl))] [] (by kernel_rfl)
def Q9 (p1 : Val) (p2 : BA) (o0 : Decoder) : Val × Decoder := (prt p1 p2, bp o0 (cM p1))
theorem Q23j (p1 : Val) (p2 : BA) (o0 : Decoder) : Q9 p1 p2 o0 = (((Qoo (Q1o p1 5 o0).1 p2).1, (Q1o p1 5 o0).2)) := by
  unfold Q9
  rw [vprt]
  unfold Q1o
  cases h : (p1.kind == 5) with
  | true => rfl
  | false => rw [Qnx h]; rfl
def Q21j (p1 : Val) (p2 : BA) (o0 : Decoder) : En := .call 76 [.bx 0 0, .agg (Val.cells p1), .str p2] [⟨1, 0, false, (Decoder.cells o0)⟩]
def Q24i (_p1 : Val) (_p2 : BA) (_o0 : Decoder) (q0 : Val) (q1 : Decoder) : Rs := .ret (.agg (Val.cells q0)) [⟨1, 0, false, (Decoder.cells q1)⟩]
def Q1si (p1 : Val) (p2 : BA) (o0 : Decoder) : Rs := Q24i p1 p2 o0 (Q9 p1 p2 o0).1 (Q9 p1 p2 o0).2
def Qf2 (p1 : Val) : Prop := Val.Sm 1000000000 p1
theorem Q1hj (p1 : Val) (p2 : BA) (o0 : Decoder) (H : Qf2 p1) : (Q1gh (Q1o p1 5 o0).1 p2) ∧ True := by
  refine ⟨Q1q6 ?_ _, trivial⟩
  unfold Q1o
  cases (p1.kind == 5) with
  | true => exact H
  | false => exact Q1ud
theorem Qdq (p1 : Val) (p2 : BA) (o0 : Decoder) (H : Qf2 p1) : Qd G (Q21j p1 p2 o0) (Q1si p1 p2 o0) := by
 unfold Q1si
 rw [Q23j]
 exact Qj (fn := Ir.K62) rfl (h := [⟨1, 0, false, (Decoder.cells o0)⟩]) (vw := []) VOK.nil [] [aN (Qdp p1 5 o0), aN (Q1ix (Q1o p1 5 o0).1 p2 (Q1hj p1 p2 o0 H).1)] (by kernel_rfl)
def Q0 (p1 : Val) (p2 : BA) (o0 : Decoder) : Int × Decoder := ((dN p1 p2).1, bp o0 (pK 2 p1 p2))
theorem Q23k (p1 : Val) (p2 : BA) (o0 : Decoder) : Q0 p1 p2 o0 = (((Q1o (Q9 p1 p2 o0).1 2 (Q9 p1 p2 o0).2).1.n, (Q1o (Q9 p1 p2 o0).1 2 (Q9 p1 p2 o0).2).2)) := by
  unfold Q0 Q9 Q1o
  simp only [Qa7]
  exact Prod.ext (getN (prt p1 p2)).symm rfl
def Q21k (p1 : Val) (p2 : BA) (o0 : Decoder) : En := .call 71 [.bx 0 0, .agg (Val.cells p1), .str p2] [⟨1, 0, false, (Decoder.cells o0)⟩]
def Q24j (_p1 : Val) (_p2 : BA) (_o0 : Decoder) (q0 : Int) (q1 : Decoder) : Rs := .ret (.int .i64 q0) [⟨1, 0, false, (Decoder.cells q1)⟩]
def Q1sj (p1 : Val) (p2 : BA) (o0 : Decoder) : Rs := Q24j p1 p2 o0 (Q0 p1 p2 o0).1 (Q0 p1 p2 o0).2
def Qog (p1 : Val) : Prop := Val.Sm 1000000000 p1
theorem Q1hk (p1 : Val) (_p2 : BA) (_o0 : Decoder) (H : Qog p1) : (Qf2 p1) ∧ True := by
  exact ⟨H, trivial⟩
theorem Q7p (p1 : Val) (p2 : BA) (o0 : Decoder) (H : Qog p1) : Qd G (Q21k p1 p2 o0) (Q1sj p1 p2 o0) := by
 unfold Q1sj
 rw [Q23k]
 exact Qj (fn := Ir.K66) rfl (h := [⟨1, 0, false, (Decoder.cells o0)⟩]) (vw := []) VOK.nil [] [aN (Qdq p1 p2 o0 (Q1hk p1 p2 o0 H).1), aN (Qdp (Q9 p1 p2 o0).1 2 (Q9 p1 p2 o0).2)] (by kernel_rfl)
def Q16 (p1 : Val) (p2 : BA) (o0 : Decoder) : ByteArray × Decoder := ((dS p1 p2).1, bp o0 (pK 3 p1 p2))
theorem Q23o (p1 : Val) (p2 : BA) (o0 : Decoder) : Q16 p1 p2 o0 = (((Q1o (Q9 p1 p2 o0).1 3 (Q9 p1 p2 o0).2).1.s, (Q1o (Q9 p1 p2 o0).1 3 (Q9 p1 p2 o0).2).2)) := by
  unfold Q16 Q9 Q1o
  simp only [Qa7]
  exact Prod.ext (getS (prt p1 p2)).symm rfl
def Q21o (p1 : Val) (p2 : BA) (o0 : Decoder) : En := .call 89 [.bx 0 0, .agg (Val.cells p1), .str p2] [⟨1, 0, false, (Decoder.cells o0)⟩]
def Q24n (_p1 : Val) (_p2 : BA) (_o0 : Decoder) (q0 : BA) (q1 : Decoder) : Rs := .ret (.str q0) [⟨1, 0, false, (Decoder.cells q1)⟩]
def Q1sn (p1 : Val) (p2 : BA) (o0 : Decoder) : Rs := Q24n p1 p2 o0 (Q16 p1 p2 o0).1 (Q16 p1 p2 o0).2
def Q1cm (p1 : Val) : Prop := Val.Sm 1000000000 p1
theorem Q1hm (p1 : Val) (_p2 : BA) (_o0 : Decoder) (H : Q1cm p1) : (Qf2 p1) ∧ True := by
  exact ⟨H, trivial⟩
theorem Q1iz (p1 : Val) (p2 : BA) (o0 : Decoder) (H : Q1cm p1) : Qd G (Q21o p1 p2 o0) (Q1sn p1 p2 o0) := by
 unfold Q1sn
 rw [Q23o]
 exact Qj (fn := Ir.K6d) rfl (h := [⟨1, 0, false, (Decoder.cells o0)⟩]) (vw := []) VOK.nil [] [aN (Qdq p1 p2 o0 (Q1hm p1 p2 o0 H).1), aN (Qdp (Q9 p1 p2 o0).1 3 (Q9 p1 p2 o0).2)] (by kernel_rfl)
def Q1h (p1 : Val) (p2 : BA) (o0 : Decoder) : Bool × Decoder := ((dB p1 p2).1, bp o0 (pK 1 p1 p2))
theorem Q23r (p1 : Val) (p2 : BA) (o0 : Decoder) : Q1h p1 p2 o0 = (((!((Q1o (Q9 p1 p2 o0).1 1 (Q9 p1 p2 o0).2).1.n == 0)), (Q1o (Q9 p1 p2 o0).1 1 (Q9 p1 p2 o0).2).2)) := by
  unfold Q1h Q9 Q1o
  simp only [Qa7]
  exact Prod.ext (getB (prt p1 p2)).symm rfl
def Q21r (p1 : Val) (p2 : BA) (o0 : Decoder) : En := .call 74 [.bx 0 0, .agg (Val.cells p1), .str p2] [⟨1, 0, false, (Decoder.cells o0)⟩]
def Q24q (_p1 : Val) (_p2 : BA) (_o0 : Decoder) (q0 : Bool) (q1 : Decoder) : Rs := .ret (.bool q0) [⟨1, 0, false, (Decoder.cells q1)⟩]
def Q1sq (p1 : Val) (p2 : BA) (o0 : Decoder) : Rs := Q24q p1 p2 o0 (Q1h p1 p2 o0).1 (Q1h p1 p2 o0).2
def Q1cn (p1 : Val) : Prop := Val.Sm 1000000000 p1
theorem Q1hn (p1 : Val) (_p2 : BA) (_o0 : Decoder) (H : Q1cn p1) : (Qf2 p1) ∧ True := by
  exact ⟨H, trivial⟩
theorem Q1j0 (p1 : Val) (p2 : BA) (o0 : Decoder) (H : Q1cn p1) : Qd G (Q21r p1 p2 o0) (Q1sq p1 p2 o0) := by
 unfold Q1sq
 rw [Q23r]
 exact Qj (fn := Ir.K6g) rfl (h := [⟨1, 0, false, (Decoder.cells o0)⟩]) (vw := []) VOK.nil [] [aN (Qdq p1 p2 o0 (Q1hn p1 p2 o0 H).1), aN (Qdp (Q9 p1 p2 o0).1 1 (Q9 p1 p2 o0).2)] (by kernel_rfl)
def Q15 (p0 : Object) (p1 : BA) : Decoder := bp ⟨0⟩ (nb (sEq p0.meta_.kind p1) + cM p0.spec + cM p0.status)
theorem Q241 (p0 : Object) (p1 : BA) : Q15 p0 p1 = (bif (sEq p0.meta_.kind p1) then
    (Q1o p0.status 5 (Q1o p0.spec 5 (Decoder.mk 0)).2).2
  else
    (Q1o p0.status 5 (Q1o p0.spec 5 (Decoder.mk 1)).2).2) := by
  unfold Q15
  simp only [Q1o, Qa7]
  cases sEq p0.meta_.kind p1 with
  | true => exact congrArg (bp ⟨0⟩) (by show 0 + cM p0.spec + cM p0.status = cK 5 p0.spec + cK 5 p0.status; unfold cM; omega)
  | false =>
    refine Eq.trans ?_ (Qa7 ⟨0⟩ 1 (cK 5 p0.spec + cK 5 p0.status)).symm
    exact congrArg (bp ⟨0⟩) (by show 1 + cM p0.spec + cM p0.status = 1 + (cK 5 p0.spec + cK 5 p0.status); unfold cM; omega)
def Q222 (p0 : Object) (p1 : BA) : En := .call 68 [.agg (Object.cells p0), .str p1] []
def Q24v (_p0 : Object) (_p1 : BA) (q0 : Decoder) : Rs := .ret (.bx 0 0) [⟨1, 0, true, (Decoder.cells q0)⟩]
def Q1t1 (p0 : Object) (p1 : BA) : Rs := Q24v p0 p1 (Q15 p0 p1)
theorem Q1up (p0 : Object) (p1 : BA) : Qd G (Q222 p0 p1) (Q1t1 p0 p1) := by
 unfold Q1t1
 rw [Q241]
 cases h0 : (sEq p0.meta_.kind p1) with
 | true =>
  exact Qj (fn := Ir.K77) rfl VOK.nil [hP 9 (dec (!(sEq p0.meta_.kind p1)) false (by rw [h0]; rfl))] [aN (Qdp p0.spec 5 (Decoder.mk 0)), aN (Qdp p0.status 5 (Q1o p0.spec 5 (Decoder.mk 0)).2)] (by kernel_rfl)
 | false =>
  exact Qj (fn := Ir.K77) rfl VOK.nil [hP 9 (dec (!(sEq p0.meta_.kind p1)) true (by rw [h0]; rfl))] [aN (Qdp p0.spec 5 (Decoder.mk 1)), aN (Qdp p0.status 5 (Q1o p0.spec 5 (Decoder.mk 1)).2)] (by kernel_rfl)
def Q6p (p0 : Val) (o1 : Decoder) : ByteArray × Decoder := ((xS p0).1, bp o1 (cK 3 p0))
theorem Q23n (p0 : Val) (o1 : Decoder) : Q6p p0 o1 = (((Q1o p0 3 o1).1.s, (Q1o p0 3 o1).2)) := by
  exact Prod.ext (getS p0).symm rfl
def Q21n (p0 : Val) (o1 : Decoder) : En := .call 182 [.agg (Val.cells p0), .bx 0 0] [⟨1, 0, false, [.bx 1 0]⟩, ⟨1, 0, false, (Decoder.cells o1)⟩]
def Q24m (_p0 : Val) (_o1 : Decoder) (q0 : BA) (q1 : Decoder) : Rs := .ret (.str q0) [⟨1, 0, false, [.bx 1 0]⟩, ⟨1, 0, false, (Decoder.cells q1)⟩]
def Q1sm (p0 : Val) (o1 : Decoder) : Rs := Q24m p0 o1 (Q6p p0 o1).1 (Q6p p0 o1).2
theorem Q260 (p0 : Val) (o1 : Decoder) : Qd G (Q21n p0 o1) (Q1sm p0 o1) := by
 unfold Q1sm
 rw [Q23n]
 exact Qj (fn := Ir.K6c) rfl (h := [⟨1, 0, false, [.bx 1 0]⟩, ⟨1, 0, false, (Decoder.cells o1)⟩]) (vw := []) VOK.nil [] [aN (Qdp p0 3 o1)] (by kernel_rfl)
def Q5h (p1 : Val) (p2 : BA) (o0 : Decoder) : List Val → Nat → Int → (List ByteArray) → Int × (List ByteArray)
 | [], _i0, v0_1, v0_2 =>
  (v0_1, v0_2)
 | x0 :: r0, i0, v0_1, v0_2 =>
  Q5h p1 p2 o0 r0 (i0 + 1) (Q6p x0 (Decoder.mk v0_1)).2.wrong (v0_2 ++ [(Q6p x0 (Decoder.mk v0_1)).1])
def Qy4 (p1 : Val) (p2 : BA) (o0 : Decoder) (i0 : Nat) (_v0_1 : Int) (v0_2 : List ByteArray) : List PV :=
  [.un, .un, .un, .fn 182 [] [.bx 1 0]] ++ nuns 5 ++ [.ms 2 1 0 (List.length v0_2)] ++ nuns 8 ++ [.sl (Val.rows (Q1o (Q9 p1 p2 o0).1 4 (Q9 p1 p2 o0).2).1.list), .int .i64 ((List.length (Q1o (Q9 p1 p2 o0).1 4 (Q9 p1 p2 o0).2).1.list) : Int), .int .i64 (i0 : Int)] ++ nuns 11
def Qji (_p1 : Val) (_p2 : BA) (_o0 : Decoder) (_i0 : Nat) (v0_1 : Int) (v0_2 : List ByteArray) : List Ob :=
  [⟨1, 0, false, [.int .i64 v0_1]⟩, ⟨1, 0, false, [.bx 0 0]⟩, ⟨1, 0, true, (Q10 v0_2).flatten⟩]
def Qg9 (p1 : Val) (p2 : BA) (o0 : Decoder) (i0 : Nat) (v0_1 : Int) (v0_2 : List ByteArray) : En := .loop 2 Ir.Ql5 Ir.Q1kc (Qy4 p1 p2 o0 i0 v0_1 v0_2) (Qji p1 p2 o0 i0 v0_1 v0_2)
def Qq9 (_p1 : Val) (_p2 : BA) (_o0 : Decoder) (q0 : Int) (q1 : List ByteArray) (z : Nat → PV) (_zo : Nat → List PV) : St :=
  ⟨zr z 0 9 ++ [.ms 2 1 0 (List.length q1)] ++ zr z 10 22, [(0, ⟨1, 0, false, [.int .i64 q0]⟩), (1, ⟨1, 0, false, [.bx 0 0]⟩), (2, ⟨1, 0, true, (Q10 q1).flatten⟩)], 67⟩
theorem Q14w (p1 : Val) (p2 : BA) (o0 : Decoder) (i0 : Nat) (v0_1 : Int) (v0_2 : List ByteArray) : VOK (Go.Pv.look (number 0 (Qji p1 p2 o0 i0 v0_1 v0_2))) [(2, Q10 v0_2)] := (VOK.cons (show Seen _ _ from Q3r (ob := ⟨1, 0, true, (Q10 v0_2).flatten⟩) (Q4n v0_2 1 rfl)) VOK.nil)
def Qi1 (p1 : Val) (p2 : BA) (o0 : Decoder) (e : En) (q : Int × (List ByteArray)) : Prop := ∃ z zo, Qd G e (.st (.exit 0) (Qq9 p1 p2 o0 q.1 q.2 z zo))
theorem Qv1 (p1 : Val) (p2 : BA) (o0 : Decoder) {e e' : En} (h : ∀ r, Qd G e r → Qd G e' r) : ∀ q, Qi1 p1 p2 o0 e q → Qi1 p1 p2 o0 e' q
  | _, ⟨z, zo, hz⟩ => ⟨z, zo, h _ hz⟩
def Qcl (p1 : Val) (p2 : BA) (o0 : Decoder) : Prop := (List.length (Q1o (Q9 p1 p2 o0).1 4 (Q9 p1 p2 o0).2).1.list ≤ 137438953472) ∧ True
def Qs1 (p1 : Val) (p2 : BA) (o0 : Decoder) (i0 : Nat) (_v0_1 : Int) (_v0_2 : List ByteArray) : List PV :=
  [.un, .un, .un, .fn 182 [] [.bx 1 0]] ++ nuns 14 ++ [.sl (Val.rows (Q1o (Q9 p1 p2 o0).1 4 (Q9 p1 p2 o0).2).1.list), .int .i64 ((List.length (Q1o (Q9 p1 p2 o0).1 4 (Q9 p1 p2 o0).2).1.list) : Int), .int .i64 (i0 : Int), .bool false]
def Qmz (_p1 : Val) (_p2 : BA) (_o0 : Decoder) (_i0 : Nat) (_v0_1 : Int) (_v0_2 : List ByteArray) : List (Nat × List PV) :=
  []
theorem Q1cb (p1 : Val) (p2 : BA) (o0 : Decoder) (_H : Qcl p1 p2 o0) (i0 : Nat) (v0_1 : Int) (v0_2 : List ByteArray) (_ho0_0 : List.length v0_2 ≤ i0) (hc0 : (decide ((i0 : Int) < ((List.length (Q1o (Q9 p1 p2 o0).1 4 (Q9 p1 p2 o0).2).1.list) : Int))) = false) : Qi1 p1 p2 o0 (Qg9 p1 p2 o0 i0 v0_1 v0_2) (v0_1, v0_2) := by
 exact ⟨(envF (Qs1 p1 p2 o0 i0 v0_1 v0_2)), (zoF (Qmz p1 p2 o0 i0 v0_1 v0_2)), Qv (Q14w p1 p2 o0 i0 v0_1 v0_2) (x := ((.exit 0), Qq9 p1 p2 o0 v0_1 v0_2 (envF (Qs1 p1 p2 o0 i0 v0_1 v0_2)) (zoF (Qmz p1 p2 o0 i0 v0_1 v0_2)))) [hB 0 hc0] [] (by kernel_rfl)⟩
theorem Q19w (p1 : Val) (p2 : BA) (o0 : Decoder) (H : Qcl p1 p2 o0) (x0 : Val) (i0 : Nat) (v0_1 : Int) (v0_2 : List ByteArray) (hx0 : (Q1o (Q9 p1 p2 o0).1 4 (Q9 p1 p2 o0).2).1.list[i0]? = some x0) (hi0 : i0 < List.length (Q1o (Q9 p1 p2 o0).1 4 (Q9 p1 p2 o0).2).1.list) (ho0_0 : List.length v0_2 ≤ i0) (hc0 : (decide ((i0 : Int) < ((List.length (Q1o (Q9 p1 p2 o0).1 4 (Q9 p1 p2 o0).2).1.list) : Int))) = true) {r : Rs} (hr : Qd G (Qg9 p1 p2 o0 (i0 + 1) (Q6p x0 (Decoder.mk v0_1)).2.wrong (v0_2 ++ [(Q6p x0 (Decoder.mk v0_1)).1])) r) : Qd G (Qg9 p1 p2 o0 i0 v0_1 v0_2) r := by
 have hB0 := H.1
 exact Qu (Q14w p1 p2 o0 i0 v0_1 v0_2) (y := (Qy4 p1 p2 o0 (i0 + 1) (Q6p x0 (Decoder.mk v0_1)).2.wrong (v0_2 ++ [(Q6p x0 (Decoder.mk v0_1)).1]), Qji p1 p2 o0 (i0 + 1) (Q6p x0 (Decoder.mk v0_1)).2.wrong (v0_2 ++ [(Q6p x0 (Decoder.mk v0_1)).1]))) [hB 0 hc0, hP 0 (Q35 5 (Val.rows (Q1o (Q9 p1 p2 o0).1 4 (Q9 p1 p2 o0).2).1.list) i0 _ (Val.Qz hx0) rfl), hV 8 [(643, Q10 (v0_2 ++ [(Q6p x0 (Decoder.mk v0_1)).1]))] (Q4a 2 579 643 1 16 0 0 true (Q10 v0_2) (Q10 (v0_2 ++ [(Q6p x0 (Decoder.mk v0_1)).1])) [.str (Q6p x0 (Decoder.mk v0_1)).1] (List.length v0_2) (List.length (v0_2 ++ [(Q6p x0 (Decoder.mk v0_1)).1])) rfl (Q30 v0_2).symm (Q30 (v0_2 ++ [(Q6p x0 (Decoder.mk v0_1)).1])).symm (Qo6 v0_2 (Q6p x0 (Decoder.mk v0_1)).1) (Qc6 v0_2) rfl (by omega)), hS 0 true (Q4n (v0_2 ++ [(Q6p x0 (Decoder.mk v0_1)).1]) 1 rfl), hP 1 (Q2s i0 (by omega))] [aN (Q260 x0 (Decoder.mk v0_1))] (by kernel_rfl) hr
theorem Q11d (p1 : Val) (p2 : BA) (o0 : Decoder) (H : Qcl p1 p2 o0) : ∀ (r0 : List Val) (i0 : Nat) (v0_1 : Int) (v0_2 : List ByteArray), List.drop i0 (Q1o (Q9 p1 p2 o0).1 4 (Q9 p1 p2 o0).2).1.list = r0 → List.length v0_2 ≤ i0 → Qi1 p1 p2 o0 (Qg9 p1 p2 o0 i0 v0_1 v0_2) (Q5h p1 p2 o0 r0 i0 v0_1 v0_2)
 | [], i0, v0_1, v0_2, hd, ho0_0 => by
  have hc0 : (decide ((i0 : Int) < ((List.length (Q1o (Q9 p1 p2 o0).1 4 (Q9 p1 p2 o0).2).1.list) : Int))) = false := by have := Q1y hd; simp; omega
  rw [Q5h]
  exact Q1cb p1 p2 o0 H i0 v0_1 v0_2 ho0_0 hc0
 | x0 :: r0, i0, v0_1, v0_2, hd, ho0_0 => by
  obtain ⟨hx0, hi0, hd'⟩ := Q1v hd
  have hc0 : (decide ((i0 : Int) < ((List.length (Q1o (Q9 p1 p2 o0).1 4 (Q9 p1 p2 o0).2).1.list) : Int))) = true := by simp; omega
  rw [Q5h]
  exact Qv1 p1 p2 o0 (fun r hr => Q19w p1 p2 o0 H x0 i0 v0_1 v0_2 hx0 hi0 ho0_0 hc0 hr) _ (Q11d p1 p2 o0 H r0 (i0 + 1) (Q6p x0 (Decoder.mk v0_1)).2.wrong (v0_2 ++ [(Q6p x0 (Decoder.mk v0_1)).1]) hd' (by first | omega | (simp; omega)))
def Q9q (p1 : Val) (p2 : BA) (o0 : Decoder) : List ByteArray × Decoder := ((dE xS p1 p2).1, bp o0 (pE (cK 3) p1 p2))
theorem Q179 (p1 : Val) (p2 : BA) (o0 : Decoder) : ∀ (l : List Val) (i : Nat) (b : Int) (a : List ByteArray), Q5h p1 p2 o0 l i b a = (bw b (sumC (cK 3) l), a ++ l.map (fun x => (xS x).1))
  | [], _, b, a => by rw [Q5h]; simp [sumC, bw]
  | x :: l, i, b, a => by
    rw [Q5h]
    refine (Q179 p1 p2 o0 l (i + 1) (bw b ((cK 3) x)) (a ++ [(xS x).1])).trans ?_
    rw [Qvn]
    simp only [List.append_assoc, List.singleton_append, List.map_cons, sumC]
theorem Q23u (p1 : Val) (p2 : BA) (o0 : Decoder) : Q9q p1 p2 o0 = (((Q5h p1 p2 o0 (Q1o (Q9 p1 p2 o0).1 4 (Q9 p1 p2 o0).2).1.list 0 (Q1o (Q9 p1 p2 o0).1 4 (Q9 p1 p2 o0).2).2.wrong []).2, (Decoder.mk (Q5h p1 p2 o0 (Q1o (Q9 p1 p2 o0).1 4 (Q9 p1 p2 o0).2).1.list 0 (Q1o (Q9 p1 p2 o0).1 4 (Q9 p1 p2 o0).2).2.wrong []).1))) := by
  rw [Q179]
  unfold Q9 Q1o Q9q
  simp only [Qa7, getL, Qii, Qvn]
  rfl
def Q21u (p1 : Val) (p2 : BA) (o0 : Decoder) : En := .call 181 [.bx 0 0, .agg (Val.cells p1), .str p2, .fn 182 [] [.bx 1 0]] [⟨1, 0, false, (Decoder.cells o0)⟩, ⟨1, 0, false, [.bx 0 0]⟩]
def Q24t (_p1 : Val) (_p2 : BA) (_o0 : Decoder) (q0 : List ByteArray) (q1 : Decoder) : Rs := .ret (.sl (Q10 q0)) [⟨1, 0, false, (Decoder.cells q1)⟩, ⟨1, 0, false, [.bx 0 0]⟩]
def Q1st (p1 : Val) (p2 : BA) (o0 : Decoder) : Rs := Q24t p1 p2 o0 (Q9q p1 p2 o0).1 (Q9q p1 p2 o0).2
def Q1lz (p1 : Val) : Prop := Val.Sm 1000000000 p1
theorem Q15t (p1 : Val) (p2 : BA) (o0 : Decoder) (H : Q1lz p1) : (Qf2 p1) ∧ (Qcl p1 p2 o0) ∧ True := by
  have hl := Qem (Q3j H p2)
  refine ⟨H, ?_, trivial⟩
  unfold Qcl Q9 Q1o
  simp only [getL]
  exact ⟨Nat.le_trans hl.1 (Nat.le_of_ble_eq_true rfl), trivial⟩
theorem Q265 (p1 : Val) (p2 : BA) (o0 : Decoder) (H : Q1lz p1) : Qd G (Q21u p1 p2 o0) (Q1st p1 p2 o0) := by
 unfold Q1st
 rw [Q23u]
 have hl0 := Q11d p1 p2 o0 ((Q15t p1 p2 o0 H).2.1) (Q1o (Q9 p1 p2 o0).1 4 (Q9 p1 p2 o0).2).1.list 0 (Q1o (Q9 p1 p2 o0).1 4 (Q9 p1 p2 o0).2).2.wrong [] (by simp) (by simp)
 obtain ⟨z0, zo0, hl0⟩ := hl0
 exact Qj (fn := Ir.K6o) rfl (h := [⟨1, 0, false, (Decoder.cells o0)⟩, ⟨1, 0, false, [.bx 0 0]⟩]) (vw := []) VOK.nil [hP 10 (Q1g (Val.rows (Q1o (Q9 p1 p2 o0).1 4 (Q9 p1 p2 o0).2).1.list) (List.length (Q1o (Q9 p1 p2 o0).1 4 (Q9 p1 p2 o0).2).1.list) (Val.Qa (Q1o (Q9 p1 p2 o0).1 4 (Q9 p1 p2 o0).2).1.list)), hS 0 true (Q4n (Q5h p1 p2 o0 (Q1o (Q9 p1 p2 o0).1 4 (Q9 p1 p2 o0).2).1.list 0 (Q1o (Q9 p1 p2 o0).1 4 (Q9 p1 p2 o0).2).2.wrong []).2 1 rfl), hQ (Q30 (Q5h p1 p2 o0 (Q1o (Q9 p1 p2 o0).1 4 (Q9 p1 p2 o0).2).1.list 0 (Q1o (Q9 p1 p2 o0).1 4 (Q9 p1 p2 o0).2).2.wrong []).2).symm] [aN (Qdq p1 p2 o0 (Q15t p1 p2 o0 H).1), aN (Qdp (Q9 p1 p2 o0).1 4 (Q9 p1 p2 o0).2), aV [(2, Q10 (Q5h p1 p2 o0 (Q1o (Q9 p1 p2 o0).1 4 (Q9 p1 p2 o0).2).1.list 0 (Q1o (Q9 p1 p2 o0).1 4 (Q9 p1 p2 o0).2).2.wrong []).2)] hl0] (by kernel_rfl)
def Q6o (p0 : Val) (o1 : Decoder) : Requirement × Decoder := ((Requirement.dec p0).1, bp o1 (Requirement.cnt p0))
theorem Q23m (p0 : Val) (o1 : Decoder) : Q6o p0 o1 = (((Requirement.mk (Q16 p0 Q1m (Q1o p0 5 (Q9q p0 Q20 o1).2).2).1 (Q0 p0 Q4b (Q16 p0 Q1m (Q1o p0 5 (Q9q p0 Q20 o1).2).2).2).1 (Q9q p0 Q20 o1).1), (Q0 p0 Q4b (Q16 p0 Q1m (Q1o p0 5 (Q9q p0 Q20 o1).2).2).2).2)) := by
  simp only [Q1o, Q0, Q16, Q9q, Q6o, Qa7]
  refine Prod.ext rfl (congrArg (bp o1) ?_)
  show Requirement.cnt p0 = _
  try unfold Requirement.cnt
  try unfold cM
  first | rfl | omega
def Q21m (p0 : Val) (o1 : Decoder) : En := .call 180 [.agg (Val.cells p0), .bx 0 0] [⟨1, 0, false, [.bx 1 0]⟩, ⟨1, 0, false, (Decoder.cells o1)⟩]
def Q24l (_p0 : Val) (_o1 : Decoder) (q0 : Requirement) (q1 : Decoder) : Rs := .ret (.agg (Requirement.cells q0)) [⟨1, 0, false, [.bx 1 0]⟩, ⟨1, 0, false, (Decoder.cells q1)⟩]
def Q1sl (p0 : Val) (o1 : Decoder) : Rs := Q24l p0 o1 (Q6o p0 o1).1 (Q6o p0 o1).2
def Q1lu (p0 : Val) : Prop := Val.Sm 1000000000 p0
theorem Qvv (p0 : Val) (_o1 : Decoder) (H : Q1lu p0) : (Q1lz p0) ∧ (Q1cm p0) ∧ (Qog p0) ∧ True := by
  repeat' with_reducible apply And.intro
  all_goals first | exact True.intro | exact H | exact Q3j H _
theorem Q25z (p0 : Val) (o1 : Decoder) (H : Q1lu p0) : Qd G (Q21m p0 o1) (Q1sl p0 o1) := by
 unfold Q1sl
 rw [Q23m]
 exact Qj (fn := Ir.K6b) rfl (h := [⟨1, 0, false, [.bx 1 0]⟩, ⟨1, 0, false, (Decoder.cells o1)⟩]) (vw := []) VOK.nil [] [aN (Q265 p0 Q20 o1 (Qvv p0 o1 H).1), aN (Qdp p0 5 (Q9q p0 Q20 o1).2), aN (Q1iz p0 Q1m (Q1o p0 5 (Q9q p0 Q20 o1).2).2 (Qvv p0 o1 H).2.1), aN (Q7p p0 Q4b (Q16 p0 Q1m (Q1o p0 5 (Q9q p0 Q20 o1).2).2).2 (Qvv p0 o1 H).2.2.1)] (by kernel_rfl)
def Q5g (p1 : Val) (p2 : BA) (o0 : Decoder) : List Val → Nat → Int → (List Requirement) → Int × (List Requirement)
 | [], _i0, v0_1, v0_2 =>
  (v0_1, v0_2)
 | x0 :: r0, i0, v0_1, v0_2 =>
  Q5g p1 p2 o0 r0 (i0 + 1) (Q6o x0 (Decoder.mk v0_1)).2.wrong (v0_2 ++ [(Q6o x0 (Decoder.mk v0_1)).1])
def Qy3 (p1 : Val) (p2 : BA) (o0 : Decoder) (i0 : Nat) (_v0_1 : Int) (v0_2 : List Requirement) : List PV :=
  [.un, .un, .un, .fn 180 [] [.bx 1 0]] ++ nuns 5 ++ [.ms 2 3 0 (List.length v0_2)] ++ nuns 8 ++ [.sl (Val.rows (Q1o (Q9 p1 p2 o0).1 4 (Q9 p1 p2 o0).2).1.list), .int .i64 ((List.length (Q1o (Q9 p1 p2 o0).1 4 (Q9 p1 p2 o0).2).1.list) : Int), .int .i64 (i0 : Int)] ++ nuns 11
def Qjh (_p1 : Val) (_p2 : BA) (_o0 : Decoder) (_i0 : Nat) (v0_1 : Int) (v0_2 : List Requirement) : List Ob :=
  [⟨1, 0, false, [.int .i64 v0_1]⟩, ⟨1, 0, false, [.bx 0 0]⟩, ⟨3, 0, true, (Requirement.rows v0_2).flatten⟩]
def Qg8 (p1 : Val) (p2 : BA) (o0 : Decoder) (i0 : Nat) (v0_1 : Int) (v0_2 : List Requirement) : En := .loop 2 Ir.Ql4 Ir.Q1kb (Qy3 p1 p2 o0 i0 v0_1 v0_2) (Qjh p1 p2 o0 i0 v0_1 v0_2)
def Qq8 (_p1 : Val) (_p2 : BA) (_o0 : Decoder) (q0 : Int) (q1 : List Requirement) (z : Nat → PV) (_zo : Nat → List PV) : St :=
  ⟨zr z 0 9 ++ [.ms 2 3 0 (List.length q1)] ++ zr z 10 22, [(0, ⟨1, 0, false, [.int .i64 q0]⟩), (1, ⟨1, 0, false, [.bx 0 0]⟩), (2, ⟨3, 0, true, (Requirement.rows q1).flatten⟩)], 67⟩
theorem Q14v (p1 : Val) (p2 : BA) (o0 : Decoder) (i0 : Nat) (v0_1 : Int) (v0_2 : List Requirement) : VOK (Go.Pv.look (number 0 (Qjh p1 p2 o0 i0 v0_1 v0_2))) [(2, Requirement.rows v0_2)] := (VOK.cons (show Seen _ _ from Q3r (ob := ⟨3, 0, true, (Requirement.rows v0_2).flatten⟩) (Requirement.Qk v0_2 3 rfl)) VOK.nil)
def Qi0 (p1 : Val) (p2 : BA) (o0 : Decoder) (e : En) (q : Int × (List Requirement)) : Prop := ∃ z zo, Qd G e (.st (.exit 0) (Qq8 p1 p2 o0 q.1 q.2 z zo))
theorem Qv0 (p1 : Val) (p2 : BA) (o0 : Decoder) {e e' : En} (h : ∀ r, Qd G e r → Qd G e' r) : ∀ q, Qi0 p1 p2 o0 e q → Qi0 p1 p2 o0 e' q
  | _, ⟨z, zo, hz⟩ => ⟨z, zo, h _ hz⟩
def Qck (p1 : Val) (p2 : BA) (o0 : Decoder) : Prop := (List.length (Q1o (Q9 p1 p2 o0).1 4 (Q9 p1 p2 o0).2).1.list ≤ 137438953472) ∧ (∀ x0 ∈ (Q1o (Q9 p1 p2 o0).1 4 (Q9 p1 p2 o0).2).1.list, Q1lu x0) ∧ True
def Qs0 (p1 : Val) (p2 : BA) (o0 : Decoder) (i0 : Nat) (_v0_1 : Int) (_v0_2 : List Requirement) : List PV :=
  [.un, .un, .un, .fn 180 [] [.bx 1 0]] ++ nuns 14 ++ [.sl (Val.rows (Q1o (Q9 p1 p2 o0).1 4 (Q9 p1 p2 o0).2).1.list), .int .i64 ((List.length (Q1o (Q9 p1 p2 o0).1 4 (Q9 p1 p2 o0).2).1.list) : Int), .int .i64 (i0 : Int), .bool false]
def Qmy (_p1 : Val) (_p2 : BA) (_o0 : Decoder) (_i0 : Nat) (_v0_1 : Int) (_v0_2 : List Requirement) : List (Nat × List PV) :=
  []
theorem Q1ca (p1 : Val) (p2 : BA) (o0 : Decoder) (_H : Qck p1 p2 o0) (i0 : Nat) (v0_1 : Int) (v0_2 : List Requirement) (_ho0_0 : List.length v0_2 ≤ i0) (hc0 : (decide ((i0 : Int) < ((List.length (Q1o (Q9 p1 p2 o0).1 4 (Q9 p1 p2 o0).2).1.list) : Int))) = false) : Qi0 p1 p2 o0 (Qg8 p1 p2 o0 i0 v0_1 v0_2) (v0_1, v0_2) := by
 exact ⟨(envF (Qs0 p1 p2 o0 i0 v0_1 v0_2)), (zoF (Qmy p1 p2 o0 i0 v0_1 v0_2)), Qv (Q14v p1 p2 o0 i0 v0_1 v0_2) (x := ((.exit 0), Qq8 p1 p2 o0 v0_1 v0_2 (envF (Qs0 p1 p2 o0 i0 v0_1 v0_2)) (zoF (Qmy p1 p2 o0 i0 v0_1 v0_2)))) [hB 0 hc0] [] (by kernel_rfl)⟩
theorem Q19v (p1 : Val) (p2 : BA) (o0 : Decoder) (H : Qck p1 p2 o0) (x0 : Val) (i0 : Nat) (v0_1 : Int) (v0_2 : List Requirement) (hx0 : (Q1o (Q9 p1 p2 o0).1 4 (Q9 p1 p2 o0).2).1.list[i0]? = some x0) (hi0 : i0 < List.length (Q1o (Q9 p1 p2 o0).1 4 (Q9 p1 p2 o0).2).1.list) (ho0_0 : List.length v0_2 ≤ i0) (hc0 : (decide ((i0 : Int) < ((List.length (Q1o (Q9 p1 p2 o0).1 4 (Q9 p1 p2 o0).2).1.list) : Int))) = true) {r : Rs} (hr : Qd G (Qg8 p1 p2 o0 (i0 + 1) (Q6o x0 (Decoder.mk v0_1)).2.wrong (v0_2 ++ [(Q6o x0 (Decoder.mk v0_1)).1])) r) : Qd G (Qg8 p1 p2 o0 i0 v0_1 v0_2) r := by
 have hB0 := H.1
 exact Qu (Q14v p1 p2 o0 i0 v0_1 v0_2) (y := (Qy3 p1 p2 o0 (i0 + 1) (Q6o x0 (Decoder.mk v0_1)).2.wrong (v0_2 ++ [(Q6o x0 (Decoder.mk v0_1)).1]), Qjh p1 p2 o0 (i0 + 1) (Q6o x0 (Decoder.mk v0_1)).2.wrong (v0_2 ++ [(Q6o x0 (Decoder.mk v0_1)).1]))) [hB 0 hc0, hP 0 (Q35 5 (Val.rows (Q1o (Q9 p1 p2 o0).1 4 (Q9 p1 p2 o0).2).1.list) i0 _ (Val.Qz hx0) rfl), hV 8 [(643, Requirement.rows (v0_2 ++ [(Q6o x0 (Decoder.mk v0_1)).1]))] (Q4a 2 579 643 3 48 0 0 true (Requirement.rows v0_2) (Requirement.rows (v0_2 ++ [(Q6o x0 (Decoder.mk v0_1)).1])) (Requirement.cells (Q6o x0 (Decoder.mk v0_1)).1) (List.length v0_2) (List.length (v0_2 ++ [(Q6o x0 (Decoder.mk v0_1)).1])) rfl (Requirement.Qa v0_2).symm (Requirement.Qa (v0_2 ++ [(Q6o x0 (Decoder.mk v0_1)).1])).symm (Requirement.Q23 v0_2 (Q6o x0 (Decoder.mk v0_1)).1) (Requirement.Q12 v0_2) rfl (by omega)), hS 0 true (Requirement.Qk (v0_2 ++ [(Q6o x0 (Decoder.mk v0_1)).1]) 3 rfl), hP 1 (Q2s i0 (by omega))] [aN (Q25z x0 (Decoder.mk v0_1) (H.2.1 x0 (Q2z hx0)))] (by kernel_rfl) hr
theorem Q11c (p1 : Val) (p2 : BA) (o0 : Decoder) (H : Qck p1 p2 o0) : ∀ (r0 : List Val) (i0 : Nat) (v0_1 : Int) (v0_2 : List Requirement), List.drop i0 (Q1o (Q9 p1 p2 o0).1 4 (Q9 p1 p2 o0).2).1.list = r0 → List.length v0_2 ≤ i0 → Qi0 p1 p2 o0 (Qg8 p1 p2 o0 i0 v0_1 v0_2) (Q5g p1 p2 o0 r0 i0 v0_1 v0_2)
 | [], i0, v0_1, v0_2, hd, ho0_0 => by
  have hc0 : (decide ((i0 : Int) < ((List.length (Q1o (Q9 p1 p2 o0).1 4 (Q9 p1 p2 o0).2).1.list) : Int))) = false := by have := Q1y hd; simp; omega
  rw [Q5g]
  exact Q1ca p1 p2 o0 H i0 v0_1 v0_2 ho0_0 hc0
 | x0 :: r0, i0, v0_1, v0_2, hd, ho0_0 => by
  obtain ⟨hx0, hi0, hd'⟩ := Q1v hd
  have hc0 : (decide ((i0 : Int) < ((List.length (Q1o (Q9 p1 p2 o0).1 4 (Q9 p1 p2 o0).2).1.list) : Int))) = true := by simp; omega
  rw [Q5g]
  exact Qv0 p1 p2 o0 (fun r hr => Q19v p1 p2 o0 H x0 i0 v0_1 v0_2 hx0 hi0 ho0_0 hc0 hr) _ (Q11c p1 p2 o0 H r0 (i0 + 1) (Q6o x0 (Decoder.mk v0_1)).2.wrong (v0_2 ++ [(Q6o x0 (Decoder.mk v0_1)).1]) hd' (by first | omega | (simp; omega)))
def Qf9 (p1 : Val) (p2 : BA) (o0 : Decoder) : List Requirement × Decoder := ((dE Requirement.dec p1 p2).1, bp o0 (pE (Requirement.cnt) p1 p2))
theorem Q178 (p1 : Val) (p2 : BA) (o0 : Decoder) : ∀ (l : List Val) (i : Nat) (b : Int) (a : List Requirement), Q5g p1 p2 o0 l i b a = (bw b (sumC (Requirement.cnt) l), a ++ l.map (fun x => (Requirement.dec x).1))
  | [], _, b, a => by rw [Q5g]; simp [sumC, bw]
  | x :: l, i, b, a => by
    rw [Q5g]
    refine (Q178 p1 p2 o0 l (i + 1) (bw b ((Requirement.cnt) x)) (a ++ [(Requirement.dec x).1])).trans ?_
    rw [Qvn]
    simp only [List.append_assoc, List.singleton_append, List.map_cons, sumC]
theorem Q23t (p1 : Val) (p2 : BA) (o0 : Decoder) : Qf9 p1 p2 o0 = (((Q5g p1 p2 o0 (Q1o (Q9 p1 p2 o0).1 4 (Q9 p1 p2 o0).2).1.list 0 (Q1o (Q9 p1 p2 o0).1 4 (Q9 p1 p2 o0).2).2.wrong []).2, (Decoder.mk (Q5g p1 p2 o0 (Q1o (Q9 p1 p2 o0).1 4 (Q9 p1 p2 o0).2).1.list 0 (Q1o (Q9 p1 p2 o0).1 4 (Q9 p1 p2 o0).2).2.wrong []).1))) := by
  rw [Q178]
  unfold Q9 Q1o Qf9
  simp only [Qa7, getL, Qii, Qvn]
  rfl
def Q21t (p1 : Val) (p2 : BA) (o0 : Decoder) : En := .call 179 [.bx 0 0, .agg (Val.cells p1), .str p2, .fn 180 [] [.bx 1 0]] [⟨1, 0, false, (Decoder.cells o0)⟩, ⟨1, 0, false, [.bx 0 0]⟩]
def Q24s (_p1 : Val) (_p2 : BA) (_o0 : Decoder) (q0 : List Requirement) (q1 : Decoder) : Rs := .ret (.sl (Requirement.rows q0)) [⟨1, 0, false, (Decoder.cells q1)⟩, ⟨1, 0, false, [.bx 0 0]⟩]
def Q1ss (p1 : Val) (p2 : BA) (o0 : Decoder) : Rs := Q24s p1 p2 o0 (Qf9 p1 p2 o0).1 (Qf9 p1 p2 o0).2
def Q1ly (p1 : Val) : Prop := Val.Sm 1000000000 p1
theorem Q15s (p1 : Val) (p2 : BA) (o0 : Decoder) (H : Q1ly p1) : (Qf2 p1) ∧ (Qck p1 p2 o0) ∧ True := by
  have hl := Qem (Q3j H p2)
  refine ⟨H, ?_, trivial⟩
  unfold Qck Q9 Q1o
  simp only [getL]
  exact ⟨Nat.le_trans hl.1 (Nat.le_of_ble_eq_true rfl), hl.2, trivial⟩
theorem Q264 (p1 : Val) (p2 : BA) (o0 : Decoder) (H : Q1ly p1) : Qd G (Q21t p1 p2 o0) (Q1ss p1 p2 o0) := by
 unfold Q1ss
 rw [Q23t]
 have hl0 := Q11c p1 p2 o0 ((Q15s p1 p2 o0 H).2.1) (Q1o (Q9 p1 p2 o0).1 4 (Q9 p1 p2 o0).2).1.list 0 (Q1o (Q9 p1 p2 o0).1 4 (Q9 p1 p2 o0).2).2.wrong [] (by simp) (by simp)
 obtain ⟨z0, zo0, hl0⟩ := hl0
 exact Qj (fn := Ir.K6n) rfl (h := [⟨1, 0, false, (Decoder.cells o0)⟩, ⟨1, 0, false, [.bx 0 0]⟩]) (vw := []) VOK.nil [hP 10 (Q1g (Val.rows (Q1o (Q9 p1 p2 o0).1 4 (Q9 p1 p2 o0).2).1.list) (List.length (Q1o (Q9 p1 p2 o0).1 4 (Q9 p1 p2 o0).2).1.list) (Val.Qa (Q1o (Q9 p1 p2 o0).1 4 (Q9 p1 p2 o0).2).1.list)), hS 0 true (Requirement.Qk (Q5g p1 p2 o0 (Q1o (Q9 p1 p2 o0).1 4 (Q9 p1 p2 o0).2).1.list 0 (Q1o (Q9 p1 p2 o0).1 4 (Q9 p1 p2 o0).2).2.wrong []).2 3 rfl), hQ (Requirement.Qa (Q5g p1 p2 o0 (Q1o (Q9 p1 p2 o0).1 4 (Q9 p1 p2 o0).2).1.list 0 (Q1o (Q9 p1 p2 o0).1 4 (Q9 p1 p2 o0).2).2.wrong []).2).symm] [aN (Qdq p1 p2 o0 (Q15s p1 p2 o0 H).1), aN (Qdp (Q9 p1 p2 o0).1 4 (Q9 p1 p2 o0).2), aV [(2, Requirement.rows (Q5g p1 p2 o0 (Q1o (Q9 p1 p2 o0).1 4 (Q9 p1 p2 o0).2).1.list 0 (Q1o (Q9 p1 p2 o0).1 4 (Q9 p1 p2 o0).2).2.wrong []).2)] hl0] (by kernel_rfl)
def Q2n (p1 : Val) (o0 : Decoder) : List Requirement × Decoder := ((dE Requirement.dec p1 Qh).1, bp o0 (pE Requirement.cnt p1 Qh))
theorem Q23l (p1 : Val) (o0 : Decoder) : Q2n p1 o0 = (((Qf9 p1 Qh o0).1, (Qf9 p1 Qh o0).2)) := by
  rfl
def Q21l (p1 : Val) (o0 : Decoder) : En := .call 72 [.bx 0 0, .agg (Val.cells p1)] [⟨1, 0, false, (Decoder.cells o0)⟩]
def Q24k (_p1 : Val) (_o0 : Decoder) (q0 : List Requirement) (q1 : Decoder) : Rs := .ret (.sl (Requirement.rows q0)) [⟨1, 0, false, (Decoder.cells q1)⟩]
def Q1sk (p1 : Val) (o0 : Decoder) : Rs := Q24k p1 o0 (Q2n p1 o0).1 (Q2n p1 o0).2
def Q1lt (p1 : Val) : Prop := Val.Sm 1000000000 p1
theorem Q1hl (p1 : Val) (_o0 : Decoder) (H : Q1lt p1) : (Q1ly p1) ∧ True := by
  repeat' with_reducible apply And.intro
  all_goals first | exact True.intro | exact H
theorem Q25y (p1 : Val) (o0 : Decoder) (H : Q1lt p1) : Qd G (Q21l p1 o0) (Q1sk p1 o0) := by
 unfold Q1sk
 rw [Q23l]
 exact Qj (fn := Ir.K6a) rfl (h := [⟨1, 0, false, (Decoder.cells o0)⟩]) (vw := []) VOK.nil [] [aN (Q264 p1 Qh o0 (Q1hl p1 o0 H).1)] (by kernel_rfl)
def Q2o (p1 : Val) (o0 : Decoder) : Template × Decoder := ((tD p1 Q1s).1, bp o0 (tC p1 Q1s))
theorem Q23p (p1 : Val) (o0 : Decoder) : Q2o p1 o0 = (bif ((Q9 p1 Q1s o0).1.kind == 0) then
    ((Template.mk [] (PodSpec.mk eB 0 0 0 [] [] [] [] [] [])), (Q9 p1 Q1s o0).2)
  else
    bif ((s_Ka (Q9 p1 Q1s o0).1).2 == 0) then
      ((s_Ka (Q9 p1 Q1s o0).1).1, (Q9 p1 Q1s o0).2)
    else
      ((s_Ka (Q9 p1 Q1s o0).1).1, (Decoder.mk (w64 ((Q9 p1 Q1s o0).2.wrong + 1))))) := by
  unfold Q2o Q9 s_Ka tD tC
  cases h : ((prt p1 Q1s).kind == 0) with
  | true =>
    have h5 : ((prt p1 Q1s).kind == 5) = false := by rw [eq_of_beq h]; rfl
    unfold Q1av
    rw [Template.Qa9 h5, h]
    rfl
  | false =>
    unfold Q1av
    cases h2 : (Template.dec (prt p1 Q1s)).2 with
    | true => rfl
    | false =>
      refine Prod.ext rfl ?_
      exact (Qa7 o0 _ 1).symm
def Q21p (p1 : Val) (o0 : Decoder) : En := .call 73 [.bx 0 0, .agg (Val.cells p1)] [⟨1, 0, false, (Decoder.cells o0)⟩]
def Q24o (_p1 : Val) (_o0 : Decoder) (q0 : Template) (q1 : Decoder) : Rs := .ret (.agg (Template.cells q0)) [⟨1, 0, false, (Decoder.cells q1)⟩]
def Q1so (p1 : Val) (o0 : Decoder) : Rs := Q24o p1 o0 (Q2o p1 o0).1 (Q2o p1 o0).2
def Q1lv (p1 : Val) : Prop := Val.Sm 1000000000 p1
theorem Qdc (p1 : Val) (o0 : Decoder) (H : Q1lv p1) : (Qf2 p1) ∧ (H_Ka (Q9 p1 Q1s o0).1) ∧ True := by
  repeat' with_reducible apply And.intro
  all_goals first | exact True.intro | exact H | exact Q3j H _
theorem Q261 (p1 : Val) (o0 : Decoder) (H : Q1lv p1) : Qd G (Q21p p1 o0) (Q1so p1 o0) := by
 unfold Q1so
 rw [Q23p]
 cases h0 : ((Q9 p1 Q1s o0).1.kind == 0) with
 | true =>
  exact Qj (fn := Ir.K6e) rfl (h := [⟨1, 0, false, (Decoder.cells o0)⟩]) (vw := []) VOK.nil [hB 9 h0] [aN (Qdq p1 Q1s o0 (Qdc p1 o0 H).1)] (by kernel_rfl)
 | false =>
  cases h1 : ((s_Ka (Q9 p1 Q1s o0).1).2 == 0) with
  | true =>
   exact Qj (fn := Ir.K6e) rfl (h := [⟨1, 0, false, (Decoder.cells o0)⟩]) (vw := []) VOK.nil [hB 9 h0, hP 9 (dec (!((s_Ka (Q9 p1 Q1s o0).1).2 == 0)) false (by rw [h1]; rfl))] [aN (Qdq p1 Q1s o0 (Qdc p1 o0 H).1), aN (t_Ka (Q9 p1 Q1s o0).1 (Qdc p1 o0 H).2.1)] (by kernel_rfl)
  | false =>
   exact Qj (fn := Ir.K6e) rfl (h := [⟨1, 0, false, (Decoder.cells o0)⟩]) (vw := []) VOK.nil [hB 9 h0, hP 9 (dec (!((s_Ka (Q9 p1 Q1s o0).1).2 == 0)) true (by rw [h1]; rfl))] [aN (Qdq p1 Q1s o0 (Qdc p1 o0 H).1), aN (t_Ka (Q9 p1 Q1s o0).1 (Qdc p1 o0 H).2.1)] (by kernel_rfl)
def Q2d (p1 : Val) (o0 : Decoder) : Amount × Decoder := ((Amount.dec p1).1, bp o0 (Amount.cnt p1))
theorem Q23h (p1 : Val) (o0 : Decoder) : Q2d p1 o0 = (((Amount.mk (Q1h p1 Q37 o0).1 (Q0 p1 kw_n (Q1h p1 Q37 o0).2).1), (Q0 p1 kw_n (Q1h p1 Q37 o0).2).2)) := by
  simp only [Q0, Q1h, Q2d, Qa7]
  refine Prod.ext rfl (congrArg (bp o0) ?_)
  show Amount.cnt p1 = _
  try unfold Amount.cnt
  try unfold cM
  first | rfl | omega
def Q21h (p1 : Val) (o0 : Decoder) : En := .call 75 [.bx 0 0, .agg (Val.cells p1)] [⟨1, 0, false, (Decoder.cells o0)⟩]
def Q24g (_p1 : Val) (_o0 : Decoder) (q0 : Amount) (q1 : Decoder) : Rs := .ret (.agg (Amount.cells q0)) [⟨1, 0, false, (Decoder.cells q1)⟩]
def Q1sg (p1 : Val) (o0 : Decoder) : Rs := Q24g p1 o0 (Q2d p1 o0).1 (Q2d p1 o0).2
def Q17i (p1 : Val) : Prop := Val.Sm 1000000000 p1
theorem Q15q (p1 : Val) (_o0 : Decoder) (H : Q17i p1) : (Q1cn p1) ∧ (Qog p1) ∧ True := by
  repeat' with_reducible apply And.intro
  all_goals first | exact True.intro | exact H | exact Q3j H _
theorem Q1iy (p1 : Val) (o0 : Decoder) (H : Q17i p1) : Qd G (Q21h p1 o0) (Q1sg p1 o0) := by
 unfold Q1sg
 rw [Q23h]
 exact Qj (fn := Ir.K60) rfl (h := [⟨1, 0, false, (Decoder.cells o0)⟩]) (vw := []) VOK.nil [] [aN (Q1j0 p1 Q37 o0 (Q15q p1 o0 H).1), aN (Q7p p1 kw_n (Q1h p1 Q37 o0).2 (Q15q p1 o0 H).2.1)] (by kernel_rfl)
def Qdm (p1 : Val) (o0 : Decoder) : WorkStatus × Decoder := ((WorkStatus.dec p1).1, bp o0 (WorkStatus.cnt p1))
theorem Q23q (p1 : Val) (o0 : Decoder) : Qdm p1 o0 = (((WorkStatus.mk (Q0 p1 Q24 o0).1 (Q0 p1 Q5 (Q0 p1 Q24 o0).2).1 (Q0 p1 Q2p (Q0 p1 Q5 (Q0 p1 Q24 o0).2).2).1 (Q0 p1 Q1w (Q0 p1 Q2p (Q0 p1 Q5 (Q0 p1 Q24 o0).2).2).2).1 (Q0 p1 Q2e (Q0 p1 Q1w (Q0 p1 Q2p (Q0 p1 Q5 (Q0 p1 Q24 o0).2).2).2).2).1 (Q0 p1 Q2y (Q0 p1 Q2e (Q0 p1 Q1w (Q0 p1 Q2p (Q0 p1 Q5 (Q0 p1 Q24 o0).2).2).2).2).2).1 (Q1h p1 Q3k (Q0 p1 Q2y (Q0 p1 Q2e (Q0 p1 Q1w (Q0 p1 Q2p (Q0 p1 Q5 (Q0 p1 Q24 o0).2).2).2).2).2).2).1), (Q1h p1 Q3k (Q0 p1 Q2y (Q0 p1 Q2e (Q0 p1 Q1w (Q0 p1 Q2p (Q0 p1 Q5 (Q0 p1 Q24 o0).2).2).2).2).2).2).2)) := by
  simp only [Q0, Q1h, Qdm, Qa7]
  refine Prod.ext rfl (congrArg (bp o0) ?_)
  show WorkStatus.cnt p1 = _
  try unfold WorkStatus.cnt
  try unfold cM
  first | rfl | omega
def Q21q (p1 : Val) (o0 : Decoder) : En := .call 77 [.bx 0 0, .agg (Val.cells p1)] [⟨1, 0, false, (Decoder.cells o0)⟩]
def Q24p (_p1 : Val) (_o0 : Decoder) (q0 : WorkStatus) (q1 : Decoder) : Rs := .ret (.agg (WorkStatus.cells q0)) [⟨1, 0, false, (Decoder.cells q1)⟩]
def Q1sp (p1 : Val) (o0 : Decoder) : Rs := Q24p p1 o0 (Qdm p1 o0).1 (Qdm p1 o0).2
def Q1lw (p1 : Val) : Prop := Val.Sm 1000000000 p1
theorem Q9g (p1 : Val) (_o0 : Decoder) (H : Q1lw p1) : (Qog p1) ∧ (Q1cn p1) ∧ True := by
  repeat' with_reducible apply And.intro
  all_goals first | exact True.intro | exact H | exact Q3j H _
theorem Q262 (p1 : Val) (o0 : Decoder) (H : Q1lw p1) : Qd G (Q21q p1 o0) (Q1sp p1 o0) := by
 unfold Q1sp
 rw [Q23q]
 exact Qj (fn := Ir.K6f) rfl (h := [⟨1, 0, false, (Decoder.cells o0)⟩]) (vw := []) VOK.nil [] [aN (Q7p p1 Q24 o0 (Q9g p1 o0 H).1), aN (Q7p p1 Q5 (Q0 p1 Q24 o0).2 (Q9g p1 o0 H).1), aN (Q7p p1 Q2p (Q0 p1 Q5 (Q0 p1 Q24 o0).2).2 (Q9g p1 o0 H).1), aN (Q7p p1 Q1w (Q0 p1 Q2p (Q0 p1 Q5 (Q0 p1 Q24 o0).2).2).2 (Q9g p1 o0 H).1), aN (Q7p p1 Q2e (Q0 p1 Q1w (Q0 p1 Q2p (Q0 p1 Q5 (Q0 p1 Q24 o0).2).2).2).2 (Q9g p1 o0 H).1), aN (Q7p p1 Q2y (Q0 p1 Q2e (Q0 p1 Q1w (Q0 p1 Q2p (Q0 p1 Q5 (Q0 p1 Q24 o0).2).2).2).2).2 (Q9g p1 o0 H).1), aN (Q1j0 p1 Q3k (Q0 p1 Q2y (Q0 p1 Q2e (Q0 p1 Q1w (Q0 p1 Q2p (Q0 p1 Q5 (Q0 p1 Q24 o0).2).2).2).2).2).2 (Q9g p1 o0 H).2.1)] (by kernel_rfl)
def Qop (p1 : Deployment) (o0 : Decoder) : Deployment × Int :=
 bif (decide (0 < o0.wrong)) then
  ((Deployment.mk (Meta.mk eB eB eB 0 0 0 0 false 0 [] [] [] []) 0 0 0 0 [] (Template.mk [] (PodSpec.mk eB 0 0 0 [] [] [] [] [] [])) false false (Amount.mk false 0) (Amount.mk false 0) 0 (WorkStatus.mk 0 0 0 0 0 0 false)), 6)
 else
  (p1, 0)
def Q224 (p1 : Deployment) (o0 : Decoder) : En := .call 69 [.bx 0 0, .agg (Deployment.cells p1)] [⟨1, 0, false, (Decoder.cells o0)⟩]
def Q24w (_p1 : Deployment) (o0 : Decoder) (q0 : Deployment) (q1 : Int) : Rs := .ret (.tup [.agg (Deployment.cells q0), .int .i64 q1]) [⟨1, 0, false, (Decoder.cells o0)⟩]
def Q1t3 (p1 : Deployment) (o0 : Decoder) : Rs := Q24w p1 o0 (Qop p1 o0).1 (Qop p1 o0).2
theorem Q26a (p1 : Deployment) (o0 : Decoder) : Qd G (Q224 p1 o0) (Q1t3 p1 o0) := by
 unfold Q1t3 Qop
 cases h0 : (decide (0 < o0.wrong)) with
 | true =>
  exact Qj (fn := Ir.K79) rfl (h := [⟨1, 0, false, (Decoder.cells o0)⟩]) (vw := []) VOK.nil [hB 7 h0] [] (by kernel_rfl)
 | false =>
  exact Qj (fn := Ir.K79) rfl (h := [⟨1, 0, false, (Decoder.cells o0)⟩]) (vw := []) VOK.nil [hB 7 h0] [] (by kernel_rfl)
def Q1fs (p0 : Object) : Deployment × Int := resC (Deployment.cnt p0) (Deployment.of p0) Deployment.z
theorem Qom (n : Nat) (x : Deployment) : Qop x (bp ⟨0⟩ n) = resC n x Deployment.z := rfl
theorem Q23f (p0 : Object) : Q1fs p0 = (((Qop (Deployment.mk p0.meta_ (Q0 p0.spec Q5 (Q15 p0 Q7)).1 (Q0 p0.spec Qc (Q0 p0.spec Q5 (Q15 p0 Q7)).2).1 (Q0 p0.spec Ql (Q0 p0.spec Qc (Q0 p0.spec Q5 (Q15 p0 Q7)).2).2).1 (Q0 p0.spec Qf (Q0 p0.spec Ql (Q0 p0.spec Qc (Q0 p0.spec Q5 (Q15 p0 Q7)).2).2).2).1 (Q2n p0.spec (Q0 p0.spec Qf (Q0 p0.spec Ql (Q0 p0.spec Qc (Q0 p0.spec Q5 (Q15 p0 Q7)).2).2).2).2).1 (Q2o p0.spec (Q2n p0.spec (Q0 p0.spec Qf (Q0 p0.spec Ql (Q0 p0.spec Qc (Q0 p0.spec Q5 (Q15 p0 Q7)).2).2).2).2).2).1 (Q1h p0.spec Qm (Q2o p0.spec (Q2n p0.spec (Q0 p0.spec Qf (Q0 p0.spec Ql (Q0 p0.spec Qc (Q0 p0.spec Q5 (Q15 p0 Q7)).2).2).2).2).2).2).1 (Q1h p0.spec Qq (Q1h p0.spec Qm (Q2o p0.spec (Q2n p0.spec (Q0 p0.spec Qf (Q0 p0.spec Ql (Q0 p0.spec Qc (Q0 p0.spec Q5 (Q15 p0 Q7)).2).2).2).2).2).2).2).1 (Q2d (Q9 p0.spec Q11 (Q1h p0.spec Qq (Q1h p0.spec Qm (Q2o p0.spec (Q2n p0.spec (Q0 p0.spec Qf (Q0 p0.spec Ql (Q0 p0.spec Qc (Q0 p0.spec Q5 (Q15 p0 Q7)).2).2).2).2).2).2).2).2).1 (Q9 p0.spec Q11 (Q1h p0.spec Qq (Q1h p0.spec Qm (Q2o p0.spec (Q2n p0.spec (Q0 p0.spec Qf (Q0 p0.spec Ql (Q0 p0.spec Qc (Q0 p0.spec Q5 (Q15 p0 Q7)).2).2).2).2).2).2).2).2).2).1 (Q2d (Q9 p0.spec Qr (Q2d (Q9 p0.spec Q11 (Q1h p0.spec Qq (Q1h p0.spec Qm (Q2o p0.spec (Q2n p0.spec (Q0 p0.spec Qf (Q0 p0.spec Ql (Q0 p0.spec Qc (Q0 p0.spec Q5 (Q15 p0 Q7)).2).2).2).2).2).2).2).2).1 (Q9 p0.spec Q11 (Q1h p0.spec Qq (Q1h p0.spec Qm (Q2o p0.spec (Q2n p0.spec (Q0 p0.spec Qf (Q0 p0.spec Ql (Q0 p0.spec Qc (Q0 p0.spec Q5 (Q15 p0 Q7)).2).2).2).2).2).2).2).2).2).2).1 (Q9 p0.spec Qr (Q2d (Q9 p0.spec Q11 (Q1h p0.spec Qq (Q1h p0.spec Qm (Q2o p0.spec (Q2n p0.spec (Q0 p0.spec Qf (Q0 p0.spec Ql (Q0 p0.spec Qc (Q0 p0.spec Q5 (Q15 p0 Q7)).2).2).2).2).2).2).2).2).1 (Q9 p0.spec Q11 (Q1h p0.spec Qq (Q1h p0.spec Qm (Q2o p0.spec (Q2n p0.spec (Q0 p0.spec Qf (Q0 p0.spec Ql (Q0 p0.spec Qc (Q0 p0.spec Q5 (Q15 p0 Q7)).2).2).2).2).2).2).2).2).2).2).2).1 (Q0 p0.spec Q3h (Q2d (Q9 p0.spec Qr (Q2d (Q9 p0.spec Q11 (Q1h p0.spec Qq (Q1h p0.spec Qm (Q2o p0.spec (Q2n p0.spec (Q0 p0.spec Qf (Q0 p0.spec Ql (Q0 p0.spec Qc (Q0 p0.spec Q5 (Q15 p0 Q7)).2).2).2).2).2).2).2).2).1 (Q9 p0.spec Q11 (Q1h p0.spec Qq (Q1h p0.spec Qm (Q2o p0.spec (Q2n p0.spec (Q0 p0.spec Qf (Q0 p0.spec Ql (Q0 p0.spec Qc (Q0 p0.spec Q5 (Q15 p0 Q7)).2).2).2).2).2).2).2).2).2).2).1 (Q9 p0.spec Qr (Q2d (Q9 p0.spec Q11 (Q1h p0.spec Qq (Q1h p0.spec Qm (Q2o p0.spec (Q2n p0.spec (Q0 p0.spec Qf (Q0 p0.spec Ql (Q0 p0.spec Qc (Q0 p0.spec Q5 (Q15 p0 Q7)).2).2).2).2).2).2).2).2).1 (Q9 p0.spec Q11 (Q1h p0.spec Qq (Q1h p0.spec Qm (Q2o p0.spec (Q2n p0.spec (Q0 p0.spec Qf (Q0 p0.spec Ql (Q0 p0.spec Qc (Q0 p0.spec Q5 (Q15 p0 Q7)).2).2).2).2).2).2).2).2).2).2).2).2).1 (Qdm p0.status (Q0 p0.spec Q3h (Q2d (Q9 p0.spec Qr (Q2d (Q9 p0.spec Q11 (Q1h p0.spec Qq (Q1h p0.spec Qm (Q2o p0.spec (Q2n p0.spec (Q0 p0.spec Qf (Q0 p0.spec Ql (Q0 p0.spec Qc (Q0 p0.spec Q5 (Q15 p0 Q7)).2).2).2).2).2).2).2).2).1 (Q9 p0.spec Q11 (Q1h p0.spec Qq (Q1h p0.spec Qm (Q2o p0.spec (Q2n p0.spec (Q0 p0.spec Qf (Q0 p0.spec Ql (Q0 p0.spec Qc (Q0 p0.spec Q5 (Q15 p0 Q7)).2).2).2).2).2).2).2).2).2).2).1 (Q9 p0.spec Qr (Q2d (Q9 p0.spec Q11 (Q1h p0.spec Qq (Q1h p0.spec Qm (Q2o p0.spec (Q2n p0.spec (Q0 p0.spec Qf (Q0 p0.spec Ql (Q0 p0.spec Qc (Q0 p0.spec Q5 (Q15 p0 Q7)).2).2).2).2).2).2).2).2).1 (Q9 p0.spec Q11 (Q1h p0.spec Qq (Q1h p0.spec Qm (Q2o p0.spec (Q2n p0.spec (Q0 p0.spec Qf (Q0 p0.spec Ql (Q0 p0.spec Qc (Q0 p0.spec Q5 (Q15 p0 Q7)).2).2).2).2).2).2).2).2).2).2).2).2).2).1) (Qdm p0.status (Q0 p0.spec Q3h (Q2d (Q9 p0.spec Qr (Q2d (Q9 p0.spec Q11 (Q1h p0.spec Qq (Q1h p0.spec Qm (Q2o p0.spec (Q2n p0.spec (Q0 p0.spec Qf (Q0 p0.spec Ql (Q0 p0.spec Qc (Q0 p0.spec Q5 (Q15 p0 Q7)).2).2).2).2).2).2).2).2).1 (Q9 p0.spec Q11 (Q1h p0.spec Qq (Q1h p0.spec Qm (Q2o p0.spec (Q2n p0.spec (Q0 p0.spec Qf (Q0 p0.spec Ql (Q0 p0.spec Qc (Q0 p0.spec Q5 (Q15 p0 Q7)).2).2).2).2).2).2).2).2).2).2).1 (Q9 p0.spec Qr (Q2d (Q9 p0.spec Q11 (Q1h p0.spec Qq (Q1h p0.spec Qm (Q2o p0.spec (Q2n p0.spec (Q0 p0.spec Qf (Q0 p0.spec Ql (Q0 p0.spec Qc (Q0 p0.spec Q5 (Q15 p0 Q7)).2).2).2).2).2).2).2).2).1 (Q9 p0.spec Q11 (Q1h p0.spec Qq (Q1h p0.spec Qm (Q2o p0.spec (Q2n p0.spec (Q0 p0.spec Qf (Q0 p0.spec Ql (Q0 p0.spec Qc (Q0 p0.spec Q5 (Q15 p0 Q7)).2).2).2).2).2).2).2).2).2).2).2).2).2).2).1, (Qop (Deployment.mk p0.meta_ (Q0 p0.spec Q5 (Q15 p0 Q7)).1 (Q0 p0.spec Qc (Q0 p0.spec Q5 (Q15 p0 Q7)).2).1 (Q0 p0.spec Ql (Q0 p0.spec Qc (Q0 p0.spec Q5 (Q15 p0 Q7)).2).2).1 (Q0 p0.spec Qf (Q0 p0.spec Ql (Q0 p0.spec Qc (Q0 p0.spec Q5 (Q15 p0 Q7)).2).2).2).1 (Q2n p0.spec (Q0 p0.spec Qf (Q0 p0.spec Ql (Q0 p0.spec Qc (Q0 p0.spec Q5 (Q15 p0 Q7)).2).2).2).2).1 (Q2o p0.spec (Q2n p0.spec (Q0 p0.spec Qf (Q0 p0.spec Ql (Q0 p0.spec Qc (Q0 p0.spec Q5 (Q15 p0 Q7)).2).2).2).2).2).1 (Q1h p0.spec Qm (Q2o p0.spec (Q2n p0.spec (Q0 p0.spec Qf (Q0 p0.spec Ql (Q0 p0.spec Qc (Q0 p0.spec Q5 (Q15 p0 Q7)).2).2).2).2).2).2).1 (Q1h p0.spec Qq (Q1h p0.spec Qm (Q2o p0.spec (Q2n p0.spec (Q0 p0.spec Qf (Q0 p0.spec Ql (Q0 p0.spec Qc (Q0 p0.spec Q5 (Q15 p0 Q7)).2).2).2).2).2).2).2).1 (Q2d (Q9 p0.spec Q11 (Q1h p0.spec Qq (Q1h p0.spec Qm (Q2o p0.spec (Q2n p0.spec (Q0 p0.spec Qf (Q0 p0.spec Ql (Q0 p0.spec Qc (Q0 p0.spec Q5 (Q15 p0 Q7)).2).2).2).2).2).2).2).2).1 (Q9 p0.spec Q11 (Q1h p0.spec Qq (Q1h p0.spec Qm (Q2o p0.spec (Q2n p0.spec (Q0 p0.spec Qf (Q0 p0.spec Ql (Q0 p0.spec Qc (Q0 p0.spec Q5 (Q15 p0 Q7)).2).2).2).2).2).2).2).2).2).1 (Q2d (Q9 p0.spec Qr (Q2d (Q9 p0.spec Q11 (Q1h p0.spec Qq (Q1h p0.spec Qm (Q2o p0.spec (Q2n p0.spec (Q0 p0.spec Qf (Q0 p0.spec Ql (Q0 p0.spec Qc (Q0 p0.spec Q5 (Q15 p0 Q7)).2).2).2).2).2).2).2).2).1 (Q9 p0.spec Q11 (Q1h p0.spec Qq (Q1h p0.spec Qm (Q2o p0.spec (Q2n p0.spec (Q0 p0.spec Qf (Q0 p0.spec Ql (Q0 p0.spec Qc (Q0 p0.spec Q5 (Q15 p0 Q7)).2).2).2).2).2).2).2).2).2).2).1 (Q9 p0.spec Qr (Q2d (Q9 p0.spec Q11 (Q1h p0.spec Qq (Q1h p0.spec Qm (Q2o p0.spec (Q2n p0.spec (Q0 p0.spec Qf (Q0 p0.spec Ql (Q0 p0.spec Qc (Q0 p0.spec Q5 (Q15 p0 Q7)).2).2).2).2).2).2).2).2).1 (Q9 p0.spec Q11 (Q1h p0.spec Qq (Q1h p0.spec Qm (Q2o p0.spec (Q2n p0.spec (Q0 p0.spec Qf (Q0 p0.spec Ql (Q0 p0.spec Qc (Q0 p0.spec Q5 (Q15 p0 Q7)).2).2).2).2).2).2).2).2).2).2).2).1 (Q0 p0.spec Q3h (Q2d (Q9 p0.spec Qr (Q2d (Q9 p0.spec Q11 (Q1h p0.spec Qq (Q1h p0.spec Qm (Q2o p0.spec (Q2n p0.spec (Q0 p0.spec Qf (Q0 p0.spec Ql (Q0 p0.spec Qc (Q0 p0.spec Q5 (Q15 p0 Q7)).2).2).2).2).2).2).2).2).1 (Q9 p0.spec Q11 (Q1h p0.spec Qq (Q1h p0.spec Qm (Q2o p0.spec (Q2n p0.spec (Q0 p0.spec Qf (Q0 p0.spec Ql (Q0 p0.spec Qc (Q0 p0.spec Q5 (Q15 p0 Q7)).2).2).2).2).2).2).2).2).2).2).1 (Q9 p0.spec Qr (Q2d (Q9 p0.spec Q11 (Q1h p0.spec Qq (Q1h p0.spec Qm (Q2o p0.spec (Q2n p0.spec (Q0 p0.spec Qf (Q0 p0.spec Ql (Q0 p0.spec Qc (Q0 p0.spec Q5 (Q15 p0 Q7)).2).2).2).2).2).2).2).2).1 (Q9 p0.spec Q11 (Q1h p0.spec Qq (Q1h p0.spec Qm (Q2o p0.spec (Q2n p0.spec (Q0 p0.spec Qf (Q0 p0.spec Ql (Q0 p0.spec Qc (Q0 p0.spec Q5 (Q15 p0 Q7)).2).2).2).2).2).2).2).2).2).2).2).2).1 (Qdm p0.status (Q0 p0.spec Q3h (Q2d (Q9 p0.spec Qr (Q2d (Q9 p0.spec Q11 (Q1h p0.spec Qq (Q1h p0.spec Qm (Q2o p0.spec (Q2n p0.spec (Q0 p0.spec Qf (Q0 p0.spec Ql (Q0 p0.spec Qc (Q0 p0.spec Q5 (Q15 p0 Q7)).2).2).2).2).2).2).2).2).1 (Q9 p0.spec Q11 (Q1h p0.spec Qq (Q1h p0.spec Qm (Q2o p0.spec (Q2n p0.spec (Q0 p0.spec Qf (Q0 p0.spec Ql (Q0 p0.spec Qc (Q0 p0.spec Q5 (Q15 p0 Q7)).2).2).2).2).2).2).2).2).2).2).1 (Q9 p0.spec Qr (Q2d (Q9 p0.spec Q11 (Q1h p0.spec Qq (Q1h p0.spec Qm (Q2o p0.spec (Q2n p0.spec (Q0 p0.spec Qf (Q0 p0.spec Ql (Q0 p0.spec Qc (Q0 p0.spec Q5 (Q15 p0 Q7)).2).2).2).2).2).2).2).2).1 (Q9 p0.spec Q11 (Q1h p0.spec Qq (Q1h p0.spec Qm (Q2o p0.spec (Q2n p0.spec (Q0 p0.spec Qf (Q0 p0.spec Ql (Q0 p0.spec Qc (Q0 p0.spec Q5 (Q15 p0 Q7)).2).2).2).2).2).2).2).2).2).2).2).2).2).1) (Qdm p0.status (Q0 p0.spec Q3h (Q2d (Q9 p0.spec Qr (Q2d (Q9 p0.spec Q11 (Q1h p0.spec Qq (Q1h p0.spec Qm (Q2o p0.spec (Q2n p0.spec (Q0 p0.spec Qf (Q0 p0.spec Ql (Q0 p0.spec Qc (Q0 p0.spec Q5 (Q15 p0 Q7)).2).2).2).2).2).2).2).2).1 (Q9 p0.spec Q11 (Q1h p0.spec Qq (Q1h p0.spec Qm (Q2o p0.spec (Q2n p0.spec (Q0 p0.spec Qf (Q0 p0.spec Ql (Q0 p0.spec Qc (Q0 p0.spec Q5 (Q15 p0 Q7)).2).2).2).2).2).2).2).2).2).2).1 (Q9 p0.spec Qr (Q2d (Q9 p0.spec Q11 (Q1h p0.spec Qq (Q1h p0.spec Qm (Q2o p0.spec (Q2n p0.spec (Q0 p0.spec Qf (Q0 p0.spec Ql (Q0 p0.spec Qc (Q0 p0.spec Q5 (Q15 p0 Q7)).2).2).2).2).2).2).2).2).1 (Q9 p0.spec Q11 (Q1h p0.spec Qq (Q1h p0.spec Qm (Q2o p0.spec (Q2n p0.spec (Q0 p0.spec Qf (Q0 p0.spec Ql (Q0 p0.spec Qc (Q0 p0.spec Q5 (Q15 p0 Q7)).2).2).2).2).2).2).2).2).2).2).2).2).2).2).2)) := by
  simp only [Q9, Q0, Q1h, Q2n, Q2o, Q2d, Qdm, Qop, Q15, Qa7]
  refine Eq.trans ?_ (Qom _ _).symm
  refine Q1fe ?_ rfl
  unfold Deployment.cnt
  omega
def Q21f (p0 : Object) : En := .call 13 [.agg (Object.cells p0)] []
def Q1se (p0 : Object) : Rs := .ret (.tup [.agg (Deployment.cells (Q1fs p0).1), .int .i64 (Q1fs p0).2]) []
def Q1gl (p0 : Object) : Prop := Qtq p0.meta_ ∧ Object.sm p0
theorem Q4c (p0 : Object) (H : Q1gl p0) : (Qtq p0.meta_) ∧ (Qog p0.spec) ∧ (Q1lt p0.spec) ∧ (Q1lv p0.spec) ∧ (Q1cn p0.spec) ∧ (Qf2 p0.spec) ∧ (Q17i (Q9 p0.spec Q11 (Q1h p0.spec Qq (Q1h p0.spec Qm (Q2o p0.spec (Q2n p0.spec (Q0 p0.spec Qf (Q0 p0.spec Ql (Q0 p0.spec Qc (Q0 p0.spec Q5 (Q15 p0 Q7)).2).2).2).2).2).2).2).2).1) ∧ (Q17i (Q9 p0.spec Qr (Q2d (Q9 p0.spec Q11 (Q1h p0.spec Qq (Q1h p0.spec Qm (Q2o p0.spec (Q2n p0.spec (Q0 p0.spec Qf (Q0 p0.spec Ql (Q0 p0.spec Qc (Q0 p0.spec Q5 (Q15 p0 Q7)).2).2).2).2).2).2).2).2).1 (Q9 p0.spec Q11 (Q1h p0.spec Qq (Q1h p0.spec Qm (Q2o p0.spec (Q2n p0.spec (Q0 p0.spec Qf (Q0 p0.spec Ql (Q0 p0.spec Qc (Q0 p0.spec Q5 (Q15 p0 Q7)).2).2).2).2).2).2).2).2).2).2).1) ∧ (Q1lw p0.status) ∧ True := by
  repeat' with_reducible apply And.intro
  all_goals first | exact True.intro | exact H.1 | exact H.2 | exact H.2.1 | exact H.2.2 | exact Q3j H.2.1 _ | exact Q3j H.2.2 _
theorem Q25x (p0 : Object) (H : Q1gl p0) : Qd G (Q21f p0) (Q1se p0) := by
 unfold Q1se
 rw [Q23f]
 exact Qj (fn := Ir.K5o) rfl VOK.nil [] [aN (Q1up p0 Q7), aN (Q1n0 p0.meta_ (Q4c p0 H).1), aN (Q7p p0.spec Q5 (Q15 p0 Q7) (Q4c p0 H).2.1), aN (Q7p p0.spec Qc (Q0 p0.spec Q5 (Q15 p0 Q7)).2 (Q4c p0 H).2.1), aN (Q7p p0.spec Ql (Q0 p0.spec Qc (Q0 p0.spec Q5 (Q15 p0 Q7)).2).2 (Q4c p0 H).2.1), aN (Q7p p0.spec Qf (Q0 p0.spec Ql (Q0 p0.spec Qc (Q0 p0.spec Q5 (Q15 p0 Q7)).2).2).2 (Q4c p0 H).2.1), aN (Q25y p0.spec (Q0 p0.spec Qf (Q0 p0.spec Ql (Q0 p0.spec Qc (Q0 p0.spec Q5 (Q15 p0 Q7)).2).2).2).2 (Q4c p0 H).2.2.1), aN (Q261 p0.spec (Q2n p0.spec (Q0 p0.spec Qf (Q0 p0.spec Ql (Q0 p0.spec Qc (Q0 p0.spec Q5 (Q15 p0 Q7)).2).2).2).2).2 (Q4c p0 H).2.2.2.1), aN (Q1j0 p0.spec Qm (Q2o p0.spec (Q2n p0.spec (Q0 p0.spec Qf (Q0 p0.spec Ql (Q0 p0.spec Qc (Q0 p0.spec Q5 (Q15 p0 Q7)).2).2).2).2).2).2 (Q4c p0 H).2.2.2.2.1), aN (Q1j0 p0.spec Qq (Q1h p0.spec Qm (Q2o p0.spec (Q2n p0.spec (Q0 p0.spec Qf (Q0 p0.spec Ql (Q0 p0.spec Qc (Q0 p0.spec Q5 (Q15 p0 Q7)).2).2).2).2).2).2).2 (Q4c p0 H).2.2.2.2.1), aN (Qdq p0.spec Q11 (Q1h p0.spec Qq (Q1h p0.spec Qm (Q2o p0.spec (Q2n p0.spec (Q0 p0.spec Qf (Q0 p0.spec Ql (Q0 p0.spec Qc (Q0 p0.spec Q5 (Q15 p0 Q7)).2).2).2).2).2).2).2).2 (Q4c p0 H).2.2.2.2.2.1), aN (Q1iy (Q9 p0.spec Q11 (Q1h p0.spec Qq (Q1h p0.spec Qm (Q2o p0.spec (Q2n p0.spec (Q0 p0.spec Qf (Q0 p0.spec Ql (Q0 p0.spec Qc (Q0 p0.spec Q5 (Q15 p0 Q7)).2).2).2).2).2).2).2).2).1 (Q9 p0.spec Q11 (Q1h p0.spec Qq (Q1h p0.spec Qm (Q2o p0.spec (Q2n p0.spec (Q0 p0.spec Qf (Q0 p0.spec Ql (Q0 p0.spec Qc (Q0 p0.spec Q5 (Q15 p0 Q7)).2).2).2).2).2).2).2).2).2 (Q4c p0 H).2.2.2.2.2.2.1), aN (Qdq p0.spec Qr (Q2d (Q9 p0.spec Q11 (Q1h p0.spec Qq (Q1h p0.spec Qm (Q2o p0.spec (Q2n p0.spec (Q0 p0.spec Qf (Q0 p0.spec Ql (Q0 p0.spec Qc (Q0 p0.spec Q5 (Q15 p0 Q7)).2).2).2).2).2).2).2).2).1 (Q9 p0.spec Q11 (Q1h p0.spec Qq (Q1h p0.spec Qm (Q2o p0.spec (Q2n p0.spec (Q0 p0.spec Qf (Q0 p0.spec Ql (Q0 p0.spec Qc (Q0 p0.spec Q5 (Q15 p0 Q7)).2).2).2).2).2).2).2).2).2).2 (Q4c p0 H).2.2.2.2.2.1), aN (Q1iy (Q9 p0.spec Qr (Q2d (Q9 p0.spec Q11 (Q1h p0.spec Qq (Q1h p0.spec Qm (Q2o p0.spec (Q2n p0.spec (Q0 p0.spec Qf (Q0 p0.spec Ql (Q0 p0.spec Qc (Q0 p0.spec Q5 (Q15 p0 Q7)).2).2).2).2).2).2).2).2).1 (Q9 p0.spec Q11 (Q1h p0.spec Qq (Q1h p0.spec Qm (Q2o p0.spec (Q2n p0.spec (Q0 p0.spec Qf (Q0 p0.spec Ql (Q0 p0.spec Qc (Q0 p0.spec Q5 (Q15 p0 Q7)).2).2).2).2).2).2).2).2).2).2).1 (Q9 p0.spec Qr (Q2d (Q9 p0.spec Q11 (Q1h p0.spec Qq (Q1h p0.spec Qm (Q2o p0.spec (Q2n p0.spec (Q0 p0.spec Qf (Q0 p0.spec Ql (Q0 p0.spec Qc (Q0 p0.spec Q5 (Q15 p0 Q7)).2).2).2).2).2).2).2).2).1 (Q9 p0.spec Q11 (Q1h p0.spec Qq (Q1h p0.spec Qm (Q2o p0.spec (Q2n p0.spec (Q0 p0.spec Qf (Q0 p0.spec Ql (Q0 p0.spec Qc (Q0 p0.spec Q5 (Q15 p0 Q7)).2).2).2).2).2).2).2).2).2).2).2 (Q4c p0 H).2.2.2.2.2.2.2.1), aN (Q7p p0.spec Q3h (Q2d (Q9 p0.spec Qr (Q2d (Q9 p0.spec Q11 (Q1h p0.spec Qq (Q1h p0.spec Qm (Q2o p0.spec (Q2n p0.spec (Q0 p0.spec Qf (Q0 p0.spec Ql (Q0 p0.spec Qc (Q0 p0.spec Q5 (Q15 p0 Q7)).2).2).2).2).2).2).2).2).1 (Q9 p0.spec Q11 (Q1h p0.spec Qq (Q1h p0.spec Qm (Q2o p0.spec (Q2n p0.spec (Q0 p0.spec Qf (Q0 p0.spec Ql (Q0 p0.spec Qc (Q0 p0.spec Q5 (Q15 p0 Q7)).2).2).2).2).2).2).2).2).2).2).1 (Q9 p0.spec Qr (Q2d (Q9 p0.spec Q11 (Q1h p0.spec Qq (Q1h p0.spec Qm (Q2o p0.spec (Q2n p0.spec (Q0 p0.spec Qf (Q0 p0.spec Ql (Q0 p0.spec Qc (Q0 p0.spec Q5 (Q15 p0 Q7)).2).2).2).2).2).2).2).2).1 (Q9 p0.spec Q11 (Q1h p0.spec Qq (Q1h p0.spec Qm (Q2o p0.spec (Q2n p0.spec (Q0 p0.spec Qf (Q0 p0.spec Ql (Q0 p0.spec Qc (Q0 p0.spec Q5 (Q15 p0 Q7)).2).2).2).2).2).2).2).2).2).2).2).2 (Q4c p0 H).2.1), aN (Q262 p0.status (Q0 p0.spec Q3h (Q2d (Q9 p0.spec Qr (Q2d (Q9 p0.spec Q11 (Q1h p0.spec Qq (Q1h p0.spec Qm (Q2o p0.spec (Q2n p0.spec (Q0 p0.spec Qf (Q0 p0.spec Ql (Q0 p0.spec Qc (Q0 p0.spec Q5 (Q15 p0 Q7)).2).2).2).2).2).2).2).2).1 (Q9 p0.spec Q11 (Q1h p0.spec Qq (Q1h p0.spec Qm (Q2o p0.spec (Q2n p0.spec (Q0 p0.spec Qf (Q0 p0.spec Ql (Q0 p0.spec Qc (Q0 p0.spec Q5 (Q15 p0 Q7)).2).2).2).2).2).2).2).2).2).2).1 (Q9 p0.spec Qr (Q2d (Q9 p0.spec Q11 (Q1h p0.spec Qq (Q1h p0.spec Qm (Q2o p0.spec (Q2n p0.spec (Q0 p0.spec Qf (Q0 p0.spec Ql (Q0 p0.spec Qc (Q0 p0.spec Q5 (Q15 p0 Q7)).2).2).2).2).2).2).2).2).1 (Q9 p0.spec Q11 (Q1h p0.spec Qq (Q1h p0.spec Qm (Q2o p0.spec (Q2n p0.spec (Q0 p0.spec Qf (Q0 p0.spec Ql (Q0 p0.spec Qc (Q0 p0.spec Q5 (Q15 p0 Q7)).2).2).2).2).2).2).2).2).2).2).2).2).2 (Q4c p0 H).2.2.2.2.2.2.2.2.1), aN (Q26a (Deployment.mk p0.meta_ (Q0 p0.spec Q5 (Q15 p0 Q7)).1 (Q0 p0.spec Qc (Q0 p0.spec Q5 (Q15 p0 Q7)).2).1 (Q0 p0.spec Ql (Q0 p0.spec Qc (Q0 p0.spec Q5 (Q15 p0 Q7)).2).2).1 (Q0 p0.spec Qf (Q0 p0.spec Ql (Q0 p0.spec Qc (Q0 p0.spec Q5 (Q15 p0 Q7)).2).2).2).1 (Q2n p0.spec (Q0 p0.spec Qf (Q0 p0.spec Ql (Q0 p0.spec Qc (Q0 p0.spec Q5 (Q15 p0 Q7)).2).2).2).2).1 (Q2o p0.spec (Q2n p0.spec (Q0 p0.spec Qf (Q0 p0.spec Ql (Q0 p0.spec Qc (Q0 p0.spec Q5 (Q15 p0 Q7)).2).2).2).2).2).1 (Q1h p0.spec Qm (Q2o p0.spec (Q2n p0.spec (Q0 p0.spec Qf (Q0 p0.spec Ql (Q0 p0.spec Qc (Q0 p0.spec Q5 (Q15 p0 Q7)).2).2).2).2).2).2).1 (Q1h p0.spec Qq (Q1h p0.spec Qm (Q2o p0.spec (Q2n p0.spec (Q0 p0.spec Qf (Q0 p0.spec Ql (Q0 p0.spec Qc (Q0 p0.spec Q5 (Q15 p0 Q7)).2).2).2).2).2).2).2).1 (Q2d (Q9 p0.spec Q11 (Q1h p0.spec Qq (Q1h p0.spec Qm (Q2o p0.spec (Q2n p0.spec (Q0 p0.spec Qf (Q0 p0.spec Ql (Q0 p0.spec Qc (Q0 p0.spec Q5 (Q15 p0 Q7)).2).2).2).2).2).2).2).2).1 (Q9 p0.spec Q11 (Q1h p0.spec Qq (Q1h p0.spec Qm (Q2o p0.spec (Q2n p0.spec (Q0 p0.spec Qf (Q0 p0.spec Ql (Q0 p0.spec Qc (Q0 p0.spec Q5 (Q15 p0 Q7)).2).2).2).2).2).2).2).2).2).1 (Q2d (Q9 p0.spec Qr (Q2d (Q9 p0.spec Q11 (Q1h p0.spec Qq (Q1h p0.spec Qm (Q2o p0.spec (Q2n p0.spec (Q0 p0.spec Qf (Q0 p0.spec Ql (Q0 p0.spec Qc (Q0 p0.spec Q5 (Q15 p0 Q7)).2).2).2).2).2).2).2).2).1 (Q9 p0.spec Q11 (Q1h p0.spec Qq (Q1h p0.spec Qm (Q2o p0.spec (Q2n p0.spec (Q0 p0.spec Qf (Q0 p0.spec Ql (Q0 p0.spec Qc (Q0 p0.spec Q5 (Q15 p0 Q7)).2).2).2).2).2).2).2).2).2).2).1 (Q9 p0.spec Qr (Q2d (Q9 p0.spec Q11 (Q1h p0.spec Qq (Q1h p0.spec Qm (Q2o p0.spec (Q2n p0.spec (Q0 p0.spec Qf (Q0 p0.spec Ql (Q0 p0.spec Qc (Q0 p0.spec Q5 (Q15 p0 Q7)).2).2).2).2).2).2).2).2).1 (Q9 p0.spec Q11 (Q1h p0.spec Qq (Q1h p0.spec Qm (Q2o p0.spec (Q2n p0.spec (Q0 p0.spec Qf (Q0 p0.spec Ql (Q0 p0.spec Qc (Q0 p0.spec Q5 (Q15 p0 Q7)).2).2).2).2).2).2).2).2).2).2).2).1 (Q0 p0.spec Q3h (Q2d (Q9 p0.spec Qr (Q2d (Q9 p0.spec Q11 (Q1h p0.spec Qq (Q1h p0.spec Qm (Q2o p0.spec (Q2n p0.spec (Q0 p0.spec Qf (Q0 p0.spec Ql (Q0 p0.spec Qc (Q0 p0.spec Q5 (Q15 p0 Q7)).2).2).2).2).2).2).2).2).1 (Q9 p0.spec Q11 (Q1h p0.spec Qq (Q1h p0.spec Qm (Q2o p0.spec (Q2n p0.spec (Q0 p0.spec Qf (Q0 p0.spec Ql (Q0 p0.spec Qc (Q0 p0.spec Q5 (Q15 p0 Q7)).2).2).2).2).2).2).2).2).2).2).1 (Q9 p0.spec Qr (Q2d (Q9 p0.spec Q11 (Q1h p0.spec Qq (Q1h p0.spec Qm (Q2o p0.spec (Q2n p0.spec (Q0 p0.spec Qf (Q0 p0.spec Ql (Q0 p0.spec Qc (Q0 p0.spec Q5 (Q15 p0 Q7)).2).2).2).2).2).2).2).2).1 (Q9 p0.spec Q11 (Q1h p0.spec Qq (Q1h p0.spec Qm (Q2o p0.spec (Q2n p0.spec (Q0 p0.spec Qf (Q0 p0.spec Ql (Q0 p0.spec Qc (Q0 p0.spec Q5 (Q15 p0 Q7)).2).2).2).2).2).2).2).2).2).2).2).2).1 (Qdm p0.status (Q0 p0.spec Q3h (Q2d (Q9 p0.spec Qr (Q2d (Q9 p0.spec Q11 (Q1h p0.spec Qq (Q1h p0.spec Qm (Q2o p0.spec (Q2n p0.spec (Q0 p0.spec Qf (Q0 p0.spec Ql (Q0 p0.spec Qc (Q0 p0.spec Q5 (Q15 p0 Q7)).2).2).2).2).2).2).2).2).1 (Q9 p0.spec Q11 (Q1h p0.spec Qq (Q1h p0.spec Qm (Q2o p0.spec (Q2n p0.spec (Q0 p0.spec Qf (Q0 p0.spec Ql (Q0 p0.spec Qc (Q0 p0.spec Q5 (Q15 p0 Q7)).2).2).2).2).2).2).2).2).2).2).1 (Q9 p0.spec Qr (Q2d (Q9 p0.spec Q11 (Q1h p0.spec Qq (Q1h p0.spec Qm (Q2o p0.spec (Q2n p0.spec (Q0 p0.spec Qf (Q0 p0.spec Ql (Q0 p0.spec Qc (Q0 p0.spec Q5 (Q15 p0 Q7)).2).2).2).2).2).2).2).2).1 (Q9 p0.spec Q11 (Q1h p0.spec Qq (Q1h p0.spec Qm (Q2o p0.spec (Q2n p0.spec (Q0 p0.spec Qf (Q0 p0.spec Ql (Q0 p0.spec Qc (Q0 p0.spec Q5 (Q15 p0 Q7)).2).2).2).2).2).2).2).2).2).2).2).2).2).1) (Qdm p0.status (Q0 p0.spec Q3h (Q2d (Q9 p0.spec Qr (Q2d (Q9 p0.spec Q11 (Q1h p0.spec Qq (Q1h p0.spec Qm (Q2o p0.spec (Q2n p0.spec (Q0 p0.spec Qf (Q0 p0.spec Ql (Q0 p0.spec Qc (Q0 p0.spec Q5 (Q15 p0 Q7)).2).2).2).2).2).2).2).2).1 (Q9 p0.spec Q11 (Q1h p0.spec Qq (Q1h p0.spec Qm (Q2o p0.spec (Q2n p0.spec (Q0 p0.spec Qf (Q0 p0.spec Ql (Q0 p0.spec Qc (Q0 p0.spec Q5 (Q15 p0 Q7)).2).2).2).2).2).2).2).2).2).2).1 (Q9 p0.spec Qr (Q2d (Q9 p0.spec Q11 (Q1h p0.spec Qq (Q1h p0.spec Qm (Q2o p0.spec (Q2n p0.spec (Q0 p0.spec Qf (Q0 p0.spec Ql (Q0 p0.spec Qc (Q0 p0.spec Q5 (Q15 p0 Q7)).2).2).2).2).2).2).2).2).1 (Q9 p0.spec Q11 (Q1h p0.spec Qq (Q1h p0.spec Qm (Q2o p0.spec (Q2n p0.spec (Q0 p0.spec Qf (Q0 p0.spec Ql (Q0 p0.spec Qc (Q0 p0.spec Q5 (Q15 p0 Q7)).2).2).2).2).2).2).2).2).2).2).2).2).2).2)] (by kernel_rfl)
def Q7n (p0 : Val) (o1 : Decoder) : Metric × Decoder := ((Metric.dec p0).1, bp o1 (Metric.cnt p0))
theorem Q23d (p0 : Val) (o1 : Decoder) : Q7n p0 o1 = (((Metric.mk (Q16 p0 Q17 o1).1 (Q0 p0 Qi (Q16 p0 Q17 o1).2).1), (Q0 p0 Qi (Q16 p0 Q17 o1).2).2)) := by
  simp only [Q0, Q16, Q7n, Qa7]
  refine Prod.ext rfl (congrArg (bp o1) ?_)
  show Metric.cnt p0 = _
  try unfold Metric.cnt
  try unfold cM
  first | rfl | omega
def Q21d (p0 : Val) (o1 : Decoder) : En := .call 88 [.agg (Val.cells p0), .bx 0 0] [⟨1, 0, false, [.bx 1 0]⟩, ⟨1, 0, false, (Decoder.cells o1)⟩]
def Q24e (_p0 : Val) (_o1 : Decoder) (q0 : Metric) (q1 : Decoder) : Rs := .ret (.agg (Metric.cells q0)) [⟨1, 0, false, [.bx 1 0]⟩, ⟨1, 0, false, (Decoder.cells q1)⟩]
def Q1sc (p0 : Val) (o1 : Decoder) : Rs := Q24e p0 o1 (Q7n p0 o1).1 (Q7n p0 o1).2
def Q1lr (p0 : Val) : Prop := Val.Sm 1000000000 p0
theorem Q15o (p0 : Val) (_o1 : Decoder) (H : Q1lr p0) : (Q1cm p0) ∧ (Qog p0) ∧ True := by
  repeat' with_reducible apply And.intro
  all_goals first | exact True.intro | exact H | exact Q3j H _
theorem Q25v (p0 : Val) (o1 : Decoder) (H : Q1lr p0) : Qd G (Q21d p0 o1) (Q1sc p0 o1) := by
 unfold Q1sc
 rw [Q23d]
 exact Qj (fn := Ir.K5h) rfl (h := [⟨1, 0, false, [.bx 1 0]⟩, ⟨1, 0, false, (Decoder.cells o1)⟩]) (vw := []) VOK.nil [] [aN (Q1iz p0 Q17 o1 (Q15o p0 o1 H).1), aN (Q7p p0 Qi (Q16 p0 Q17 o1).2 (Q15o p0 o1 H).2.1)] (by kernel_rfl)
def Q5f (p1 : Val) (p2 : BA) (o0 : Decoder) : List Val → Nat → Int → (List Metric) → Int × (List Metric)
 | [], _i0, v0_1, v0_2 =>
  (v0_1, v0_2)
 | x0 :: r0, i0, v0_1, v0_2 =>
  Q5f p1 p2 o0 r0 (i0 + 1) (Q7n x0 (Decoder.mk v0_1)).2.wrong (v0_2 ++ [(Q7n x0 (Decoder.mk v0_1)).1])
def Qy2 (p1 : Val) (p2 : BA) (o0 : Decoder) (i0 : Nat) (_v0_1 : Int) (v0_2 : List Metric) : List PV :=
  [.un, .un, .un, .fn 88 [] [.bx 1 0]] ++ nuns 5 ++ [.ms 2 2 0 (List.length v0_2)] ++ nuns 8 ++ [.sl (Val.rows (Q1o (Q9 p1 p2 o0).1 4 (Q9 p1 p2 o0).2).1.list), .int .i64 ((List.length (Q1o (Q9 p1 p2 o0).1 4 (Q9 p1 p2 o0).2).1.list) : Int), .int .i64 (i0 : Int)] ++ nuns 11
def Qjg (_p1 : Val) (_p2 : BA) (_o0 : Decoder) (_i0 : Nat) (v0_1 : Int) (v0_2 : List Metric) : List Ob :=
  [⟨1, 0, false, [.int .i64 v0_1]⟩, ⟨1, 0, false, [.bx 0 0]⟩, ⟨2, 0, true, (Metric.rows v0_2).flatten⟩]
def Qg7 (p1 : Val) (p2 : BA) (o0 : Decoder) (i0 : Nat) (v0_1 : Int) (v0_2 : List Metric) : En := .loop 2 Ir.Ql3 Ir.Q1ka (Qy2 p1 p2 o0 i0 v0_1 v0_2) (Qjg p1 p2 o0 i0 v0_1 v0_2)
def Qq7 (_p1 : Val) (_p2 : BA) (_o0 : Decoder) (q0 : Int) (q1 : List Metric) (z : Nat → PV) (_zo : Nat → List PV) : St :=
  ⟨zr z 0 9 ++ [.ms 2 2 0 (List.length q1)] ++ zr z 10 22, [(0, ⟨1, 0, false, [.int .i64 q0]⟩), (1, ⟨1, 0, false, [.bx 0 0]⟩), (2, ⟨2, 0, true, (Metric.rows q1).flatten⟩)], 67⟩
theorem Q14u (p1 : Val) (p2 : BA) (o0 : Decoder) (i0 : Nat) (v0_1 : Int) (v0_2 : List Metric) : VOK (Go.Pv.look (number 0 (Qjg p1 p2 o0 i0 v0_1 v0_2))) [(2, Metric.rows v0_2)] := (VOK.cons (show Seen _ _ from Q3r (ob := ⟨2, 0, true, (Metric.rows v0_2).flatten⟩) (Metric.Qk v0_2 2 rfl)) VOK.nil)
def Qhz (p1 : Val) (p2 : BA) (o0 : Decoder) (e : En) (q : Int × (List Metric)) : Prop := ∃ z zo, Qd G e (.st (.exit 0) (Qq7 p1 p2 o0 q.1 q.2 z zo))
theorem Quz (p1 : Val) (p2 : BA) (o0 : Decoder) {e e' : En} (h : ∀ r, Qd G e r → Qd G e' r) : ∀ q, Qhz p1 p2 o0 e q → Qhz p1 p2 o0 e' q
  | _, ⟨z, zo, hz⟩ => ⟨z, zo, h _ hz⟩
def Qcj (p1 : Val) (p2 : BA) (o0 : Decoder) : Prop := (List.length (Q1o (Q9 p1 p2 o0).1 4 (Q9 p1 p2 o0).2).1.list ≤ 137438953472) ∧ (∀ x0 ∈ (Q1o (Q9 p1 p2 o0).1 4 (Q9 p1 p2 o0).2).1.list, Q1lr x0) ∧ True
def Qrz (p1 : Val) (p2 : BA) (o0 : Decoder) (i0 : Nat) (_v0_1 : Int) (_v0_2 : List Metric) : List PV :=
  [.un, .un, .un, .fn 88 [] [.bx 1 0]] ++ nuns 14 ++ [.sl (Val.rows (Q1o (Q9 p1 p2 o0).1 4 (Q9 p1 p2 o0).2).1.list), .int .i64 ((List.length (Q1o (Q9 p1 p2 o0).1 4 (Q9 p1 p2 o0).2).1.list) : Int), .int .i64 (i0 : Int), .bool false]
def Qmx (_p1 : Val) (_p2 : BA) (_o0 : Decoder) (_i0 : Nat) (_v0_1 : Int) (_v0_2 : List Metric) : List (Nat × List PV) :=
  []
theorem Q1c9 (p1 : Val) (p2 : BA) (o0 : Decoder) (_H : Qcj p1 p2 o0) (i0 : Nat) (v0_1 : Int) (v0_2 : List Metric) (_ho0_0 : List.length v0_2 ≤ i0) (hc0 : (decide ((i0 : Int) < ((List.length (Q1o (Q9 p1 p2 o0).1 4 (Q9 p1 p2 o0).2).1.list) : Int))) = false) : Qhz p1 p2 o0 (Qg7 p1 p2 o0 i0 v0_1 v0_2) (v0_1, v0_2) := by
 exact ⟨(envF (Qrz p1 p2 o0 i0 v0_1 v0_2)), (zoF (Qmx p1 p2 o0 i0 v0_1 v0_2)), Qv (Q14u p1 p2 o0 i0 v0_1 v0_2) (x := ((.exit 0), Qq7 p1 p2 o0 v0_1 v0_2 (envF (Qrz p1 p2 o0 i0 v0_1 v0_2)) (zoF (Qmx p1 p2 o0 i0 v0_1 v0_2)))) [hB 0 hc0] [] (by kernel_rfl)⟩
theorem Q19u (p1 : Val) (p2 : BA) (o0 : Decoder) (H : Qcj p1 p2 o0) (x0 : Val) (i0 : Nat) (v0_1 : Int) (v0_2 : List Metric) (hx0 : (Q1o (Q9 p1 p2 o0).1 4 (Q9 p1 p2 o0).2).1.list[i0]? = some x0) (hi0 : i0 < List.length (Q1o (Q9 p1 p2 o0).1 4 (Q9 p1 p2 o0).2).1.list) (ho0_0 : List.length v0_2 ≤ i0) (hc0 : (decide ((i0 : Int) < ((List.length (Q1o (Q9 p1 p2 o0).1 4 (Q9 p1 p2 o0).2).1.list) : Int))) = true) {r : Rs} (hr : Qd G (Qg7 p1 p2 o0 (i0 + 1) (Q7n x0 (Decoder.mk v0_1)).2.wrong (v0_2 ++ [(Q7n x0 (Decoder.mk v0_1)).1])) r) : Qd G (Qg7 p1 p2 o0 i0 v0_1 v0_2) r := by
 have hB0 := H.1
 exact Qu (Q14u p1 p2 o0 i0 v0_1 v0_2) (y := (Qy2 p1 p2 o0 (i0 + 1) (Q7n x0 (Decoder.mk v0_1)).2.wrong (v0_2 ++ [(Q7n x0 (Decoder.mk v0_1)).1]), Qjg p1 p2 o0 (i0 + 1) (Q7n x0 (Decoder.mk v0_1)).2.wrong (v0_2 ++ [(Q7n x0 (Decoder.mk v0_1)).1]))) [hB 0 hc0, hP 0 (Q35 5 (Val.rows (Q1o (Q9 p1 p2 o0).1 4 (Q9 p1 p2 o0).2).1.list) i0 _ (Val.Qz hx0) rfl), hV 8 [(643, Metric.rows (v0_2 ++ [(Q7n x0 (Decoder.mk v0_1)).1]))] (Q4a 2 579 643 2 24 0 0 true (Metric.rows v0_2) (Metric.rows (v0_2 ++ [(Q7n x0 (Decoder.mk v0_1)).1])) (Metric.cells (Q7n x0 (Decoder.mk v0_1)).1) (List.length v0_2) (List.length (v0_2 ++ [(Q7n x0 (Decoder.mk v0_1)).1])) rfl (Metric.Qa v0_2).symm (Metric.Qa (v0_2 ++ [(Q7n x0 (Decoder.mk v0_1)).1])).symm (Metric.Q23 v0_2 (Q7n x0 (Decoder.mk v0_1)).1) (Metric.Q12 v0_2) rfl (by omega)), hS 0 true (Metric.Qk (v0_2 ++ [(Q7n x0 (Decoder.mk v0_1)).1]) 2 rfl), hP 1 (Q2s i0 (by omega))] [aN (Q25v x0 (Decoder.mk v0_1) (H.2.1 x0 (Q2z hx0)))] (by kernel_rfl) hr
theorem Q11b (p1 : Val) (p2 : BA) (o0 : Decoder) (H : Qcj p1 p2 o0) : ∀ (r0 : List Val) (i0 : Nat) (v0_1 : Int) (v0_2 : List Metric), List.drop i0 (Q1o (Q9 p1 p2 o0).1 4 (Q9 p1 p2 o0).2).1.list = r0 → List.length v0_2 ≤ i0 → Qhz p1 p2 o0 (Qg7 p1 p2 o0 i0 v0_1 v0_2) (Q5f p1 p2 o0 r0 i0 v0_1 v0_2)
 | [], i0, v0_1, v0_2, hd, ho0_0 => by
  have hc0 : (decide ((i0 : Int) < ((List.length (Q1o (Q9 p1 p2 o0).1 4 (Q9 p1 p2 o0).2).1.list) : Int))) = false := by have := Q1y hd; simp; omega
  rw [Q5f]
  exact Q1c9 p1 p2 o0 H i0 v0_1 v0_2 ho0_0 hc0
 | x0 :: r0, i0, v0_1, v0_2, hd, ho0_0 => by
  obtain ⟨hx0, hi0, hd'⟩ := Q1v hd
  have hc0 : (decide ((i0 : Int) < ((List.length (Q1o (Q9 p1 p2 o0).1 4 (Q9 p1 p2 o0).2).1.list) : Int))) = true := by simp; omega
  rw [Q5f]
  exact Quz p1 p2 o0 (fun r hr => Q19u p1 p2 o0 H x0 i0 v0_1 v0_2 hx0 hi0 ho0_0 hc0 hr) _ (Q11b p1 p2 o0 H r0 (i0 + 1) (Q7n x0 (Decoder.mk v0_1)).2.wrong (v0_2 ++ [(Q7n x0 (Decoder.mk v0_1)).1]) hd' (by first | omega | (simp; omega)))
def Q27 (p1 : Val) (p2 : BA) (o0 : Decoder) : List Metric × Decoder := ((dE Metric.dec p1 p2).1, bp o0 (pE (Metric.cnt) p1 p2))
theorem Q177 (p1 : Val) (p2 : BA) (o0 : Decoder) : ∀ (l : List Val) (i : Nat) (b : Int) (a : List Metric), Q5f p1 p2 o0 l i b a = (bw b (sumC (Metric.cnt) l), a ++ l.map (fun x => (Metric.dec x).1))
  | [], _, b, a => by rw [Q5f]; simp [sumC, bw]
  | x :: l, i, b, a => by
    rw [Q5f]
    refine (Q177 p1 p2 o0 l (i + 1) (bw b ((Metric.cnt) x)) (a ++ [(Metric.dec x).1])).trans ?_
    rw [Qvn]
    simp only [List.append_assoc, List.singleton_append, List.map_cons, sumC]
theorem Q23s (p1 : Val) (p2 : BA) (o0 : Decoder) : Q27 p1 p2 o0 = (((Q5f p1 p2 o0 (Q1o (Q9 p1 p2 o0).1 4 (Q9 p1 p2 o0).2).1.list 0 (Q1o (Q9 p1 p2 o0).1 4 (Q9 p1 p2 o0).2).2.wrong []).2, (Decoder.mk (Q5f p1 p2 o0 (Q1o (Q9 p1 p2 o0).1 4 (Q9 p1 p2 o0).2).1.list 0 (Q1o (Q9 p1 p2 o0).1 4 (Q9 p1 p2 o0).2).2.wrong []).1))) := by
  rw [Q177]
  unfold Q9 Q1o Q27
  simp only [Qa7, getL, Qii, Qvn]
  rfl
def Q21s (p1 : Val) (p2 : BA) (o0 : Decoder) : En := .call 87 [.bx 0 0, .agg (Val.cells p1), .str p2, .fn 88 [] [.bx 1 0]] [⟨1, 0, false, (Decoder.cells o0)⟩, ⟨1, 0, false, [.bx 0 0]⟩]
def Q24r (_p1 : Val) (_p2 : BA) (_o0 : Decoder) (q0 : List Metric) (q1 : Decoder) : Rs := .ret (.sl (Metric.rows q0)) [⟨1, 0, false, (Decoder.cells q1)⟩, ⟨1, 0, false, [.bx 0 0]⟩]
def Q1sr (p1 : Val) (p2 : BA) (o0 : Decoder) : Rs := Q24r p1 p2 o0 (Q27 p1 p2 o0).1 (Q27 p1 p2 o0).2
def Q1lx (p1 : Val) : Prop := Val.Sm 1000000000 p1
theorem Q15r (p1 : Val) (p2 : BA) (o0 : Decoder) (H : Q1lx p1) : (Qf2 p1) ∧ (Qcj p1 p2 o0) ∧ True := by
  have hl := Qem (Q3j H p2)
  refine ⟨H, ?_, trivial⟩
  unfold Qcj Q9 Q1o
  simp only [getL]
  exact ⟨Nat.le_trans hl.1 (Nat.le_of_ble_eq_true rfl), hl.2, trivial⟩
theorem Q263 (p1 : Val) (p2 : BA) (o0 : Decoder) (H : Q1lx p1) : Qd G (Q21s p1 p2 o0) (Q1sr p1 p2 o0) := by
 unfold Q1sr
 rw [Q23s]
 have hl0 := Q11b p1 p2 o0 ((Q15r p1 p2 o0 H).2.1) (Q1o (Q9 p1 p2 o0).1 4 (Q9 p1 p2 o0).2).1.list 0 (Q1o (Q9 p1 p2 o0).1 4 (Q9 p1 p2 o0).2).2.wrong [] (by simp) (by simp)
 obtain ⟨z0, zo0, hl0⟩ := hl0
 exact Qj (fn := Ir.K6h) rfl (h := [⟨1, 0, false, (Decoder.cells o0)⟩, ⟨1, 0, false, [.bx 0 0]⟩]) (vw := []) VOK.nil [hP 10 (Q1g (Val.rows (Q1o (Q9 p1 p2 o0).1 4 (Q9 p1 p2 o0).2).1.list) (List.length (Q1o (Q9 p1 p2 o0).1 4 (Q9 p1 p2 o0).2).1.list) (Val.Qa (Q1o (Q9 p1 p2 o0).1 4 (Q9 p1 p2 o0).2).1.list)), hS 0 true (Metric.Qk (Q5f p1 p2 o0 (Q1o (Q9 p1 p2 o0).1 4 (Q9 p1 p2 o0).2).1.list 0 (Q1o (Q9 p1 p2 o0).1 4 (Q9 p1 p2 o0).2).2.wrong []).2 2 rfl), hQ (Metric.Qa (Q5f p1 p2 o0 (Q1o (Q9 p1 p2 o0).1 4 (Q9 p1 p2 o0).2).1.list 0 (Q1o (Q9 p1 p2 o0).1 4 (Q9 p1 p2 o0).2).2.wrong []).2).symm] [aN (Qdq p1 p2 o0 (Q15r p1 p2 o0 H).1), aN (Qdp (Q9 p1 p2 o0).1 4 (Q9 p1 p2 o0).2), aV [(2, Metric.rows (Q5f p1 p2 o0 (Q1o (Q9 p1 p2 o0).1 4 (Q9 p1 p2 o0).2).1.list 0 (Q1o (Q9 p1 p2 o0).1 4 (Q9 p1 p2 o0).2).2.wrong []).2)] hl0] (by kernel_rfl)
def Q7t (p0 : Val) (o1 : Decoder) : Advice × Decoder := ((Advice.dec p0).1, bp o1 (Advice.cnt p0))
theorem Q23e (p0 : Val) (o1 : Decoder) : Q7t p0 o1 = (((Advice.mk (Q0 p0 Q59 o1).1 (Q0 p0 Q5 (Q0 p0 Q59 o1).2).1), (Q0 p0 Q5 (Q0 p0 Q59 o1).2).2)) := by
  simp only [Q0, Q7t, Qa7]
  refine Prod.ext rfl (congrArg (bp o1) ?_)
  show Advice.cnt p0 = _
  try unfold Advice.cnt
  try unfold cM
  first | rfl | omega
def Q21e (p0 : Val) (o1 : Decoder) : En := .call 91 [.agg (Val.cells p0), .bx 0 0] [⟨1, 0, false, [.bx 1 0]⟩, ⟨1, 0, false, (Decoder.cells o1)⟩]
def Q24f (_p0 : Val) (_o1 : Decoder) (q0 : Advice) (q1 : Decoder) : Rs := .ret (.agg (Advice.cells q0)) [⟨1, 0, false, [.bx 1 0]⟩, ⟨1, 0, false, (Decoder.cells q1)⟩]
def Q1sd (p0 : Val) (o1 : Decoder) : Rs := Q24f p0 o1 (Q7t p0 o1).1 (Q7t p0 o1).2
def Q1ls (p0 : Val) : Prop := Val.Sm 1000000000 p0
theorem Q15p (p0 : Val) (_o1 : Decoder) (H : Q1ls p0) : (Qog p0) ∧ True := by
  repeat' with_reducible apply And.intro
  all_goals first | exact True.intro | exact H | exact Q3j H _
theorem Q25w (p0 : Val) (o1 : Decoder) (H : Q1ls p0) : Qd G (Q21e p0 o1) (Q1sd p0 o1) := by
 unfold Q1sd
 rw [Q23e]
 exact Qj (fn := Ir.K5i) rfl (h := [⟨1, 0, false, [.bx 1 0]⟩, ⟨1, 0, false, (Decoder.cells o1)⟩]) (vw := []) VOK.nil [] [aN (Q7p p0 Q59 o1 (Q15p p0 o1 H).1), aN (Q7p p0 Q5 (Q0 p0 Q59 o1).2 (Q15p p0 o1 H).1)] (by kernel_rfl)
def Q5i (p1 : Val) (p2 : BA) (o0 : Decoder) : List Val → Nat → Int → (List Advice) → Int × (List Advice)
 | [], _i0, v0_1, v0_2 =>
  (v0_1, v0_2)
 | x0 :: r0, i0, v0_1, v0_2 =>
  Q5i p1 p2 o0 r0 (i0 + 1) (Q7t x0 (Decoder.mk v0_1)).2.wrong (v0_2 ++ [(Q7t x0 (Decoder.mk v0_1)).1])
def Qy5 (p1 : Val) (p2 : BA) (o0 : Decoder) (i0 : Nat) (_v0_1 : Int) (v0_2 : List Advice) : List PV :=
  [.un, .un, .un, .fn 91 [] [.bx 1 0]] ++ nuns 5 ++ [.ms 2 2 0 (List.length v0_2)] ++ nuns 8 ++ [.sl (Val.rows (Q1o (Q9 p1 p2 o0).1 4 (Q9 p1 p2 o0).2).1.list), .int .i64 ((List.length (Q1o (Q9 p1 p2 o0).1 4 (Q9 p1 p2 o0).2).1.list) : Int), .int .i64 (i0 : Int)] ++ nuns 11
def Qjj (_p1 : Val) (_p2 : BA) (_o0 : Decoder) (_i0 : Nat) (v0_1 : Int) (v0_2 : List Advice) : List Ob :=
  [⟨1, 0, false, [.int .i64 v0_1]⟩, ⟨1, 0, false, [.bx 0 0]⟩, ⟨2, 0, true, (Advice.rows v0_2).flatten⟩]
def Qga (p1 : Val) (p2 : BA) (o0 : Decoder) (i0 : Nat) (v0_1 : Int) (v0_2 : List Advice) : En := .loop 2 Ir.Ql6 Ir.Q1kd (Qy5 p1 p2 o0 i0 v0_1 v0_2) (Qjj p1 p2 o0 i0 v0_1 v0_2)
def Qqa (_p1 : Val) (_p2 : BA) (_o0 : Decoder) (q0 : Int) (q1 : List Advice) (z : Nat → PV) (_zo : Nat → List PV) : St :=
  ⟨zr z 0 9 ++ [.ms 2 2 0 (List.length q1)] ++ zr z 10 22, [(0, ⟨1, 0, false, [.int .i64 q0]⟩), (1, ⟨1, 0, false, [.bx 0 0]⟩), (2, ⟨2, 0, true, (Advice.rows q1).flatten⟩)], 67⟩
theorem Q14x (p1 : Val) (p2 : BA) (o0 : Decoder) (i0 : Nat) (v0_1 : Int) (v0_2 : List Advice) : VOK (Go.Pv.look (number 0 (Qjj p1 p2 o0 i0 v0_1 v0_2))) [(2, Advice.rows v0_2)] := (VOK.cons (show Seen _ _ from Q3r (ob := ⟨2, 0, true, (Advice.rows v0_2).flatten⟩) (Advice.Qk v0_2 2 rfl)) VOK.nil)
def Qi2 (p1 : Val) (p2 : BA) (o0 : Decoder) (e : En) (q : Int × (List Advice)) : Prop := ∃ z zo, Qd G e (.st (.exit 0) (Qqa p1 p2 o0 q.1 q.2 z zo))
theorem Qv2 (p1 : Val) (p2 : BA) (o0 : Decoder) {e e' : En} (h : ∀ r, Qd G e r → Qd G e' r) : ∀ q, Qi2 p1 p2 o0 e q → Qi2 p1 p2 o0 e' q
  | _, ⟨z, zo, hz⟩ => ⟨z, zo, h _ hz⟩
def Qcm (p1 : Val) (p2 : BA) (o0 : Decoder) : Prop := (List.length (Q1o (Q9 p1 p2 o0).1 4 (Q9 p1 p2 o0).2).1.list ≤ 137438953472) ∧ (∀ x0 ∈ (Q1o (Q9 p1 p2 o0).1 4 (Q9 p1 p2 o0).2).1.list, Q1ls x0) ∧ True
def Qs2 (p1 : Val) (p2 : BA) (o0 : Decoder) (i0 : Nat) (_v0_1 : Int) (_v0_2 : List Advice) : List PV :=
  [.un, .un, .un, .fn 91 [] [.bx 1 0]] ++ nuns 14 ++ [.sl (Val.rows (Q1o (Q9 p1 p2 o0).1 4 (Q9 p1 p2 o0).2).1.list), .int .i64 ((List.length (Q1o (Q9 p1 p2 o0).1 4 (Q9 p1 p2 o0).2).1.list) : Int), .int .i64 (i0 : Int), .bool false]
def Qn0 (_p1 : Val) (_p2 : BA) (_o0 : Decoder) (_i0 : Nat) (_v0_1 : Int) (_v0_2 : List Advice) : List (Nat × List PV) :=
  []
theorem Q1cc (p1 : Val) (p2 : BA) (o0 : Decoder) (_H : Qcm p1 p2 o0) (i0 : Nat) (v0_1 : Int) (v0_2 : List Advice) (_ho0_0 : List.length v0_2 ≤ i0) (hc0 : (decide ((i0 : Int) < ((List.length (Q1o (Q9 p1 p2 o0).1 4 (Q9 p1 p2 o0).2).1.list) : Int))) = false) : Qi2 p1 p2 o0 (Qga p1 p2 o0 i0 v0_1 v0_2) (v0_1, v0_2) := by
 exact ⟨(envF (Qs2 p1 p2 o0 i0 v0_1 v0_2)), (zoF (Qn0 p1 p2 o0 i0 v0_1 v0_2)), Qv (Q14x p1 p2 o0 i0 v0_1 v0_2) (x := ((.exit 0), Qqa p1 p2 o0 v0_1 v0_2 (envF (Qs2 p1 p2 o0 i0 v0_1 v0_2)) (zoF (Qn0 p1 p2 o0 i0 v0_1 v0_2)))) [hB 0 hc0] [] (by kernel_rfl)⟩
theorem Q19x (p1 : Val) (p2 : BA) (o0 : Decoder) (H : Qcm p1 p2 o0) (x0 : Val) (i0 : Nat) (v0_1 : Int) (v0_2 : List Advice) (hx0 : (Q1o (Q9 p1 p2 o0).1 4 (Q9 p1 p2 o0).2).1.list[i0]? = some x0) (hi0 : i0 < List.length (Q1o (Q9 p1 p2 o0).1 4 (Q9 p1 p2 o0).2).1.list) (ho0_0 : List.length v0_2 ≤ i0) (hc0 : (decide ((i0 : Int) < ((List.length (Q1o (Q9 p1 p2 o0).1 4 (Q9 p1 p2 o0).2).1.list) : Int))) = true) {r : Rs} (hr : Qd G (Qga p1 p2 o0 (i0 + 1) (Q7t x0 (Decoder.mk v0_1)).2.wrong (v0_2 ++ [(Q7t x0 (Decoder.mk v0_1)).1])) r) : Qd G (Qga p1 p2 o0 i0 v0_1 v0_2) r := by
 have hB0 := H.1
 exact Qu (Q14x p1 p2 o0 i0 v0_1 v0_2) (y := (Qy5 p1 p2 o0 (i0 + 1) (Q7t x0 (Decoder.mk v0_1)).2.wrong (v0_2 ++ [(Q7t x0 (Decoder.mk v0_1)).1]), Qjj p1 p2 o0 (i0 + 1) (Q7t x0 (Decoder.mk v0_1)).2.wrong (v0_2 ++ [(Q7t x0 (Decoder.mk v0_1)).1]))) [hB 0 hc0, hP 0 (Q35 5 (Val.rows (Q1o (Q9 p1 p2 o0).1 4 (Q9 p1 p2 o0).2).1.list) i0 _ (Val.Qz hx0) rfl), hV 8 [(643, Advice.rows (v0_2 ++ [(Q7t x0 (Decoder.mk v0_1)).1]))] (Q4a 2 579 643 2 16 0 0 true (Advice.rows v0_2) (Advice.rows (v0_2 ++ [(Q7t x0 (Decoder.mk v0_1)).1])) (Advice.cells (Q7t x0 (Decoder.mk v0_1)).1) (List.length v0_2) (List.length (v0_2 ++ [(Q7t x0 (Decoder.mk v0_1)).1])) rfl (Advice.Qa v0_2).symm (Advice.Qa (v0_2 ++ [(Q7t x0 (Decoder.mk v0_1)).1])).symm (Advice.Q23 v0_2 (Q7t x0 (Decoder.mk v0_1)).1) (Advice.Q12 v0_2) rfl (by omega)), hS 0 true (Advice.Qk (v0_2 ++ [(Q7t x0 (Decoder.mk v0_1)).1]) 2 rfl), hP 1 (Q2s i0 (by omega))] [aN (Q25w x0 (Decoder.mk v0_1) (H.2.1 x0 (Q2z hx0)))] (by kernel_rfl) hr
theorem Q11e (p1 : Val) (p2 : BA) (o0 : Decoder) (H : Qcm p1 p2 o0) : ∀ (r0 : List Val) (i0 : Nat) (v0_1 : Int) (v0_2 : List Advice), List.drop i0 (Q1o (Q9 p1 p2 o0).1 4 (Q9 p1 p2 o0).2).1.list = r0 → List.length v0_2 ≤ i0 → Qi2 p1 p2 o0 (Qga p1 p2 o0 i0 v0_1 v0_2) (Q5i p1 p2 o0 r0 i0 v0_1 v0_2)
 | [], i0, v0_1, v0_2, hd, ho0_0 => by
  have hc0 : (decide ((i0 : Int) < ((List.length (Q1o (Q9 p1 p2 o0).1 4 (Q9 p1 p2 o0).2).1.list) : Int))) = false := by have := Q1y hd; simp; omega
  rw [Q5i]
  exact Q1cc p1 p2 o0 H i0 v0_1 v0_2 ho0_0 hc0
 | x0 :: r0, i0, v0_1, v0_2, hd, ho0_0 => by
  obtain ⟨hx0, hi0, hd'⟩ := Q1v hd
  have hc0 : (decide ((i0 : Int) < ((List.length (Q1o (Q9 p1 p2 o0).1 4 (Q9 p1 p2 o0).2).1.list) : Int))) = true := by simp; omega
  rw [Q5i]
  exact Qv2 p1 p2 o0 (fun r hr => Q19x p1 p2 o0 H x0 i0 v0_1 v0_2 hx0 hi0 ho0_0 hc0 hr) _ (Q11e p1 p2 o0 H r0 (i0 + 1) (Q7t x0 (Decoder.mk v0_1)).2.wrong (v0_2 ++ [(Q7t x0 (Decoder.mk v0_1)).1]) hd' (by first | omega | (simp; omega)))
def Q29 (p1 : Val) (p2 : BA) (o0 : Decoder) : List Advice × Decoder := ((dE Advice.dec p1 p2).1, bp o0 (pE (Advice.cnt) p1 p2))
theorem Q17a (p1 : Val) (p2 : BA) (o0 : Decoder) : ∀ (l : List Val) (i : Nat) (b : Int) (a : List Advice), Q5i p1 p2 o0 l i b a = (bw b (sumC (Advice.cnt) l), a ++ l.map (fun x => (Advice.dec x).1))
  | [], _, b, a => by rw [Q5i]; simp [sumC, bw]
  | x :: l, i, b, a => by
    rw [Q5i]
    refine (Q17a p1 p2 o0 l (i + 1) (bw b ((Advice.cnt) x)) (a ++ [(Advice.dec x).1])).trans ?_
    rw [Qvn]
    simp only [List.append_assoc, List.singleton_append, List.map_cons, sumC]
theorem Q23v (p1 : Val) (p2 : BA) (o0 : Decoder) : Q29 p1 p2 o0 = (((Q5i p1 p2 o0 (Q1o (Q9 p1 p2 o0).1 4 (Q9 p1 p2 o0).2).1.list 0 (Q1o (Q9 p1 p2 o0).1 4 (Q9 p1 p2 o0).2).2.wrong []).2, (Decoder.mk (Q5i p1 p2 o0 (Q1o (Q9 p1 p2 o0).1 4 (Q9 p1 p2 o0).2).1.list 0 (Q1o (Q9 p1 p2 o0).1 4 (Q9 p1 p2 o0).2).2.wrong []).1))) := by
  rw [Q17a]
  unfold Q9 Q1o Q29
  simp only [Qa7, getL, Qii, Qvn]
  rfl
def Q21v (p1 : Val) (p2 : BA) (o0 : Decoder) : En := .call 90 [.bx 0 0, .agg (Val.cells p1), .str p2, .fn 91 [] [.bx 1 0]] [⟨1, 0, false, (Decoder.cells o0)⟩, ⟨1, 0, false, [.bx 0 0]⟩]
def Q24u (_p1 : Val) (_p2 : BA) (_o0 : Decoder) (q0 : List Advice) (q1 : Decoder) : Rs := .ret (.sl (Advice.rows q0)) [⟨1, 0, false, (Decoder.cells q1)⟩, ⟨1, 0, false, [.bx 0 0]⟩]
def Q1su (p1 : Val) (p2 : BA) (o0 : Decoder) : Rs := Q24u p1 p2 o0 (Q29 p1 p2 o0).1 (Q29 p1 p2 o0).2
def Q1m0 (p1 : Val) : Prop := Val.Sm 1000000000 p1
theorem Q15u (p1 : Val) (p2 : BA) (o0 : Decoder) (H : Q1m0 p1) : (Qf2 p1) ∧ (Qcm p1 p2 o0) ∧ True := by
  have hl := Qem (Q3j H p2)
  refine ⟨H, ?_, trivial⟩
  unfold Qcm Q9 Q1o
  simp only [getL]
  exact ⟨Nat.le_trans hl.1 (Nat.le_of_ble_eq_true rfl), hl.2, trivial⟩
theorem Q266 (p1 : Val) (p2 : BA) (o0 : Decoder) (H : Q1m0 p1) : Qd G (Q21v p1 p2 o0) (Q1su p1 p2 o0) := by
 unfold Q1su
 rw [Q23v]
 have hl0 := Q11e p1 p2 o0 ((Q15u p1 p2 o0 H).2.1) (Q1o (Q9 p1 p2 o0).1 4 (Q9 p1 p2 o0).2).1.list 0 (Q1o (Q9 p1 p2 o0).1 4 (Q9 p1 p2 o0).2).2.wrong [] (by simp) (by simp)
 obtain ⟨z0, zo0, hl0⟩ := hl0
 exact Qj (fn := Ir.K6r) rfl (h := [⟨1, 0, false, (Decoder.cells o0)⟩, ⟨1, 0, false, [.bx 0 0]⟩]) (vw := []) VOK.nil [hP 10 (Q1g (Val.rows (Q1o (Q9 p1 p2 o0).1 4 (Q9 p1 p2 o0).2).1.list) (List.length (Q1o (Q9 p1 p2 o0).1 4 (Q9 p1 p2 o0).2).1.list) (Val.Qa (Q1o (Q9 p1 p2 o0).1 4 (Q9 p1 p2 o0).2).1.list)), hS 0 true (Advice.Qk (Q5i p1 p2 o0 (Q1o (Q9 p1 p2 o0).1 4 (Q9 p1 p2 o0).2).1.list 0 (Q1o (Q9 p1 p2 o0).1 4 (Q9 p1 p2 o0).2).2.wrong []).2 2 rfl), hQ (Advice.Qa (Q5i p1 p2 o0 (Q1o (Q9 p1 p2 o0).1 4 (Q9 p1 p2 o0).2).1.list 0 (Q1o (Q9 p1 p2 o0).1 4 (Q9 p1 p2 o0).2).2.wrong []).2).symm] [aN (Qdq p1 p2 o0 (Q15u p1 p2 o0 H).1), aN (Qdp (Q9 p1 p2 o0).1 4 (Q9 p1 p2 o0).2), aV [(2, Advice.rows (Q5i p1 p2 o0 (Q1o (Q9 p1 p2 o0).1 4 (Q9 p1 p2 o0).2).1.list 0 (Q1o (Q9 p1 p2 o0).1 4 (Q9 p1 p2 o0).2).2.wrong []).2)] hl0] (by kernel_rfl)
def Q13i (p1 : Autoscaler) (o0 : Decoder) : Autoscaler × Int :=
 bif (decide (0 < o0.wrong)) then
  ((Autoscaler.mk (Meta.mk eB eB eB 0 0 0 0 false 0 [] [] [] []) eB eB 0 0 [] 0 0 0 (Amount.mk false 0) (Amount.mk false 0) 0 [] 0), 6)
 else
  (p1, 0)
def Q225 (p1 : Autoscaler) (o0 : Decoder) : En := .call 92 [.bx 0 0, .agg (Autoscaler.cells p1)] [⟨1, 0, false, (Decoder.cells o0)⟩]
def Q24x (_p1 : Autoscaler) (o0 : Decoder) (q0 : Autoscaler) (q1 : Int) : Rs := .ret (.tup [.agg (Autoscaler.cells q0), .int .i64 q1]) [⟨1, 0, false, (Decoder.cells o0)⟩]
def Q1t4 (p1 : Autoscaler) (o0 : Decoder) : Rs := Q24x p1 o0 (Q13i p1 o0).1 (Q13i p1 o0).2
theorem Q26b (p1 : Autoscaler) (o0 : Decoder) : Qd G (Q225 p1 o0) (Q1t4 p1 o0) := by
 unfold Q1t4 Q13i
 cases h0 : (decide (0 < o0.wrong)) with
 | true =>
  exact Qj (fn := Ir.K7k) rfl (h := [⟨1, 0, false, (Decoder.cells o0)⟩]) (vw := []) VOK.nil [hB 7 h0] [] (by kernel_rfl)
 | false =>
  exact Qj (fn := Ir.K7k) rfl (h := [⟨1, 0, false, (Decoder.cells o0)⟩]) (vw := []) VOK.nil [hB 7 h0] [] (by kernel_rfl)
def Q1fr (p0 : Object) : Autoscaler × Int := resC (Autoscaler.cnt p0) (Autoscaler.of p0) Autoscaler.z
theorem Qol (n : Nat) (x : Autoscaler) : Q13i x (bp ⟨0⟩ n) = resC n x Autoscaler.z := rfl
theorem Q23c (p0 : Object) : Q1fr p0 = (((Q13i (Autoscaler.mk p0.meta_ (Q16 p0.spec Q8 (Q29 p0.status Qp (Q27 p0.spec Qg (Q15 p0 Q6)).2).2).1 (Q16 p0.spec Qi (Q16 p0.spec Q8 (Q29 p0.status Qp (Q27 p0.spec Qg (Q15 p0 Q6)).2).2).2).1 (Q0 p0.spec Q1j (Q16 p0.spec Qi (Q16 p0.spec Q8 (Q29 p0.status Qp (Q27 p0.spec Qg (Q15 p0 Q6)).2).2).2).2).1 (Q0 p0.spec Q1n (Q0 p0.spec Q1j (Q16 p0.spec Qi (Q16 p0.spec Q8 (Q29 p0.status Qp (Q27 p0.spec Qg (Q15 p0 Q6)).2).2).2).2).2).1 (Q27 p0.spec Qg (Q15 p0 Q6)).1 (Q0 p0.spec Qe (Q0 p0.spec Q1n (Q0 p0.spec Q1j (Q16 p0.spec Qi (Q16 p0.spec Q8 (Q29 p0.status Qp (Q27 p0.spec Qg (Q15 p0 Q6)).2).2).2).2).2).2).1 (Q0 p0.spec Qn (Q0 p0.spec Qe (Q0 p0.spec Q1n (Q0 p0.spec Q1j (Q16 p0.spec Qi (Q16 p0.spec Q8 (Q29 p0.status Qp (Q27 p0.spec Qg (Q15 p0 Q6)).2).2).2).2).2).2).2).1 (Q0 p0.spec Qb (Q0 p0.spec Qn (Q0 p0.spec Qe (Q0 p0.spec Q1n (Q0 p0.spec Q1j (Q16 p0.spec Qi (Q16 p0.spec Q8 (Q29 p0.status Qp (Q27 p0.spec Qg (Q15 p0 Q6)).2).2).2).2).2).2).2).2).1 (Q2d (Q9 p0.spec Qs (Q0 p0.spec Qb (Q0 p0.spec Qn (Q0 p0.spec Qe (Q0 p0.spec Q1n (Q0 p0.spec Q1j (Q16 p0.spec Qi (Q16 p0.spec Q8 (Q29 p0.status Qp (Q27 p0.spec Qg (Q15 p0 Q6)).2).2).2).2).2).2).2).2).2).1 (Q9 p0.spec Qs (Q0 p0.spec Qb (Q0 p0.spec Qn (Q0 p0.spec Qe (Q0 p0.spec Q1n (Q0 p0.spec Q1j (Q16 p0.spec Qi (Q16 p0.spec Q8 (Q29 p0.status Qp (Q27 p0.spec Qg (Q15 p0 Q6)).2).2).2).2).2).2).2).2).2).2).1 (Q2d (Q9 p0.spec Q18 (Q2d (Q9 p0.spec Qs (Q0 p0.spec Qb (Q0 p0.spec Qn (Q0 p0.spec Qe (Q0 p0.spec Q1n (Q0 p0.spec Q1j (Q16 p0.spec Qi (Q16 p0.spec Q8 (Q29 p0.status Qp (Q27 p0.spec Qg (Q15 p0 Q6)).2).2).2).2).2).2).2).2).2).1 (Q9 p0.spec Qs (Q0 p0.spec Qb (Q0 p0.spec Qn (Q0 p0.spec Qe (Q0 p0.spec Q1n (Q0 p0.spec Q1j (Q16 p0.spec Qi (Q16 p0.spec Q8 (Q29 p0.status Qp (Q27 p0.spec Qg (Q15 p0 Q6)).2).2).2).2).2).2).2).2).2).2).2).1 (Q9 p0.spec Q18 (Q2d (Q9 p0.spec Qs (Q0 p0.spec Qb (Q0 p0.spec Qn (Q0 p0.spec Qe (Q0 p0.spec Q1n (Q0 p0.spec Q1j (Q16 p0.spec Qi (Q16 p0.spec Q8 (Q29 p0.status Qp (Q27 p0.spec Qg (Q15 p0 Q6)).2).2).2).2).2).2).2).2).2).1 (Q9 p0.spec Qs (Q0 p0.spec Qb (Q0 p0.spec Qn (Q0 p0.spec Qe (Q0 p0.spec Q1n (Q0 p0.spec Q1j (Q16 p0.spec Qi (Q16 p0.spec Q8 (Q29 p0.status Qp (Q27 p0.spec Qg (Q15 p0 Q6)).2).2).2).2).2).2).2).2).2).2).2).2).1 (Q0 p0.spec Q1d (Q2d (Q9 p0.spec Q18 (Q2d (Q9 p0.spec Qs (Q0 p0.spec Qb (Q0 p0.spec Qn (Q0 p0.spec Qe (Q0 p0.spec Q1n (Q0 p0.spec Q1j (Q16 p0.spec Qi (Q16 p0.spec Q8 (Q29 p0.status Qp (Q27 p0.spec Qg (Q15 p0 Q6)).2).2).2).2).2).2).2).2).2).1 (Q9 p0.spec Qs (Q0 p0.spec Qb (Q0 p0.spec Qn (Q0 p0.spec Qe (Q0 p0.spec Q1n (Q0 p0.spec Q1j (Q16 p0.spec Qi (Q16 p0.spec Q8 (Q29 p0.status Qp (Q27 p0.spec Qg (Q15 p0 Q6)).2).2).2).2).2).2).2).2).2).2).2).1 (Q9 p0.spec Q18 (Q2d (Q9 p0.spec Qs (Q0 p0.spec Qb (Q0 p0.spec Qn (Q0 p0.spec Qe (Q0 p0.spec Q1n (Q0 p0.spec Q1j (Q16 p0.spec Qi (Q16 p0.spec Q8 (Q29 p0.status Qp (Q27 p0.spec Qg (Q15 p0 Q6)).2).2).2).2).2).2).2).2).2).1 (Q9 p0.spec Qs (Q0 p0.spec Qb (Q0 p0.spec Qn (Q0 p0.spec Qe (Q0 p0.spec Q1n (Q0 p0.spec Q1j (Q16 p0.spec Qi (Q16 p0.spec Q8 (Q29 p0.status Qp (Q27 p0.spec Qg (Q15 p0 Q6)).2).2).2).2).2).2).2).2).2).2).2).2).2).1 (Q29 p0.status Qp (Q27 p0.spec Qg (Q15 p0 Q6)).2).1 (Q0 p0.status Q31 (Q0 p0.spec Q1d (Q2d (Q9 p0.spec Q18 (Q2d (Q9 p0.spec Qs (Q0 p0.spec Qb (Q0 p0.spec Qn (Q0 p0.spec Qe (Q0 p0.spec Q1n (Q0 p0.spec Q1j (Q16 p0.spec Qi (Q16 p0.spec Q8 (Q29 p0.status Qp (Q27 p0.spec Qg (Q15 p0 Q6)).2).2).2).2).2).2).2).2).2).1 (Q9 p0.spec Qs (Q0 p0.spec Qb (Q0 p0.spec Qn (Q0 p0.spec Qe (Q0 p0.spec Q1n (Q0 p0.spec Q1j (Q16 p0.spec Qi (Q16 p0.spec Q8 (Q29 p0.status Qp (Q27 p0.spec Qg (Q15 p0 Q6)).2).2).2).2).2).2).2).2).2).2).2).1 (Q9 p0.spec Q18 (Q2d (Q9 p0.spec Qs (Q0 p0.spec Qb (Q0 p0.spec Qn (Q0 p0.spec Qe (Q0 p0.spec Q1n (Q0 p0.spec Q1j (Q16 p0.spec Qi (Q16 p0.spec Q8 (Q29 p0.status Qp (Q27 p0.spec Qg (Q15 p0 Q6)).2).2).2).2).2).2).2).2).2).1 (Q9 p0.spec Qs (Q0 p0.spec Qb (Q0 p0.spec Qn (Q0 p0.spec Qe (Q0 p0.spec Q1n (Q0 p0.spec Q1j (Q16 p0.spec Qi (Q16 p0.spec Q8 (Q29 p0.status Qp (Q27 p0.spec Qg (Q15 p0 Q6)).2).2).2).2).2).2).2).2).2).2).2).2).2).2).1) (Q0 p0.status Q31 (Q0 p0.spec Q1d (Q2d (Q9 p0.spec Q18 (Q2d (Q9 p0.spec Qs (Q0 p0.spec Qb (Q0 p0.spec Qn (Q0 p0.spec Qe (Q0 p0.spec Q1n (Q0 p0.spec Q1j (Q16 p0.spec Qi (Q16 p0.spec Q8 (Q29 p0.status Qp (Q27 p0.spec Qg (Q15 p0 Q6)).2).2).2).2).2).2).2).2).2).1 (Q9 p0.spec Qs (Q0 p0.spec Qb (Q0 p0.spec Qn (Q0 p0.spec Qe (Q0 p0.spec Q1n (Q0 p0.spec Q1j (Q16 p0.spec Qi (Q16 p0.spec Q8 (Q29 p0.status Qp (Q27 p0.spec Qg (Q15 p0 Q6)).2).2).2).2).2).2).2).2).2).2).2).1 (Q9 p0.spec Q18 (Q2d (Q9 p0.spec Qs (Q0 p0.spec Qb (Q0 p0.spec Qn (Q0 p0.spec Qe (Q0 p0.spec Q1n (Q0 p0.spec Q1j (Q16 p0.spec Qi (Q16 p0.spec Q8 (Q29 p0.status Qp (Q27 p0.spec Qg (Q15 p0 Q6)).2).2).2).2).2).2).2).2).2).1 (Q9 p0.spec Qs (Q0 p0.spec Qb (Q0 p0.spec Qn (Q0 p0.spec Qe (Q0 p0.spec Q1n (Q0 p0.spec Q1j (Q16 p0.spec Qi (Q16 p0.spec Q8 (Q29 p0.status Qp (Q27 p0.spec Qg (Q15 p0 Q6)).2).2).2).2).2).2).2).2).2).2).2).2).2).2).2).1, (Q13i (Autoscaler.mk p0.meta_ (Q16 p0.spec Q8 (Q29 p0.status Qp (Q27 p0.spec Qg (Q15 p0 Q6)).2).2).1 (Q16 p0.spec Qi (Q16 p0.spec Q8 (Q29 p0.status Qp (Q27 p0.spec Qg (Q15 p0 Q6)).2).2).2).1 (Q0 p0.spec Q1j (Q16 p0.spec Qi (Q16 p0.spec Q8 (Q29 p0.status Qp (Q27 p0.spec Qg (Q15 p0 Q6)).2).2).2).2).1 (Q0 p0.spec Q1n (Q0 p0.spec Q1j (Q16 p0.spec Qi (Q16 p0.spec Q8 (Q29 p0.status Qp (Q27 p0.spec Qg (Q15 p0 Q6)).2).2).2).2).2).1 (Q27 p0.spec Qg (Q15 p0 Q6)).1 (Q0 p0.spec Qe (Q0 p0.spec Q1n (Q0 p0.spec Q1j (Q16 p0.spec Qi (Q16 p0.spec Q8 (Q29 p0.status Qp (Q27 p0.spec Qg (Q15 p0 Q6)).2).2).2).2).2).2).1 (Q0 p0.spec Qn (Q0 p0.spec Qe (Q0 p0.spec Q1n (Q0 p0.spec Q1j (Q16 p0.spec Qi (Q16 p0.spec Q8 (Q29 p0.status Qp (Q27 p0.spec Qg (Q15 p0 Q6)).2).2).2).2).2).2).2).1 (Q0 p0.spec Qb (Q0 p0.spec Qn (Q0 p0.spec Qe (Q0 p0.spec Q1n (Q0 p0.spec Q1j (Q16 p0.spec Qi (Q16 p0.spec Q8 (Q29 p0.status Qp (Q27 p0.spec Qg (Q15 p0 Q6)).2).2).2).2).2).2).2).2).1 (Q2d (Q9 p0.spec Qs (Q0 p0.spec Qb (Q0 p0.spec Qn (Q0 p0.spec Qe (Q0 p0.spec Q1n (Q0 p0.spec Q1j (Q16 p0.spec Qi (Q16 p0.spec Q8 (Q29 p0.status Qp (Q27 p0.spec Qg (Q15 p0 Q6)).2).2).2).2).2).2).2).2).2).1 (Q9 p0.spec Qs (Q0 p0.spec Qb (Q0 p0.spec Qn (Q0 p0.spec Qe (Q0 p0.spec Q1n (Q0 p0.spec Q1j (Q16 p0.spec Qi (Q16 p0.spec Q8 (Q29 p0.status Qp (Q27 p0.spec Qg (Q15 p0 Q6)).2).2).2).2).2).2).2).2).2).2).1 (Q2d (Q9 p0.spec Q18 (Q2d (Q9 p0.spec Qs (Q0 p0.spec Qb (Q0 p0.spec Qn (Q0 p0.spec Qe (Q0 p0.spec Q1n (Q0 p0.spec Q1j (Q16 p0.spec Qi (Q16 p0.spec Q8 (Q29 p0.status Qp (Q27 p0.spec Qg (Q15 p0 Q6)).2).2).2).2).2).2).2).2).2).1 (Q9 p0.spec Qs (Q0 p0.spec Qb (Q0 p0.spec Qn (Q0 p0.spec Qe (Q0 p0.spec Q1n (Q0 p0.spec Q1j (Q16 p0.spec Qi (Q16 p0.spec Q8 (Q29 p0.status Qp (Q27 p0.spec Qg (Q15 p0 Q6)).2).2).2).2).2).2).2).2).2).2).2).1 (Q9 p0.spec Q18 (Q2d (Q9 p0.spec Qs (Q0 p0.spec Qb (Q0 p0.spec Qn (Q0 p0.spec Qe (Q0 p0.spec Q1n (Q0 p0.spec Q1j (Q16 p0.spec Qi (Q16 p0.spec Q8 (Q29 p0.status Qp (Q27 p0.spec Qg (Q15 p0 Q6)).2).2).2).2).2).2).2).2).2).1 (Q9 p0.spec Qs (Q0 p0.spec Qb (Q0 p0.spec Qn (Q0 p0.spec Qe (Q0 p0.spec Q1n (Q0 p0.spec Q1j (Q16 p0.spec Qi (Q16 p0.spec Q8 (Q29 p0.status Qp (Q27 p0.spec Qg (Q15 p0 Q6)).2).2).2).2).2).2).2).2).2).2).2).2).1 (Q0 p0.spec Q1d (Q2d (Q9 p0.spec Q18 (Q2d (Q9 p0.spec Qs (Q0 p0.spec Qb (Q0 p0.spec Qn (Q0 p0.spec Qe (Q0 p0.spec Q1n (Q0 p0.spec Q1j (Q16 p0.spec Qi (Q16 p0.spec Q8 (Q29 p0.status Qp (Q27 p0.spec Qg (Q15 p0 Q6)).2).2).2).2).2).2).2).2).2).1 (Q9 p0.spec Qs (Q0 p0.spec Qb (Q0 p0.spec Qn (Q0 p0.spec Qe (Q0 p0.spec Q1n (Q0 p0.spec Q1j (Q16 p0.spec Qi (Q16 p0.spec Q8 (Q29 p0.status Qp (Q27 p0.spec Qg (Q15 p0 Q6)).2).2).2).2).2).2).2).2).2).2).2).1 (Q9 p0.spec Q18 (Q2d (Q9 p0.spec Qs (Q0 p0.spec Qb (Q0 p0.spec Qn (Q0 p0.spec Qe (Q0 p0.spec Q1n (Q0 p0.spec Q1j (Q16 p0.spec Qi (Q16 p0.spec Q8 (Q29 p0.status Qp (Q27 p0.spec Qg (Q15 p0 Q6)).2).2).2).2).2).2).2).2).2).1 (Q9 p0.spec Qs (Q0 p0.spec Qb (Q0 p0.spec Qn (Q0 p0.spec Qe (Q0 p0.spec Q1n (Q0 p0.spec Q1j (Q16 p0.spec Qi (Q16 p0.spec Q8 (Q29 p0.status Qp (Q27 p0.spec Qg (Q15 p0 Q6)).2).2).2).2).2).2).2).2).2).2).2).2).2).1 (Q29 p0.status Qp (Q27 p0.spec Qg (Q15 p0 Q6)).2).1 (Q0 p0.status Q31 (Q0 p0.spec Q1d (Q2d (Q9 p0.spec Q18 (Q2d (Q9 p0.spec Qs (Q0 p0.spec Qb (Q0 p0.spec Qn (Q0 p0.spec Qe (Q0 p0.spec Q1n (Q0 p0.spec Q1j (Q16 p0.spec Qi (Q16 p0.spec Q8 (Q29 p0.status Qp (Q27 p0.spec Qg (Q15 p0 Q6)).2).2).2).2).2).2).2).2).2).1 (Q9 p0.spec Qs (Q0 p0.spec Qb (Q0 p0.spec Qn (Q0 p0.spec Qe (Q0 p0.spec Q1n (Q0 p0.spec Q1j (Q16 p0.spec Qi (Q16 p0.spec Q8 (Q29 p0.status Qp (Q27 p0.spec Qg (Q15 p0 Q6)).2).2).2).2).2).2).2).2).2).2).2).1 (Q9 p0.spec Q18 (Q2d (Q9 p0.spec Qs (Q0 p0.spec Qb (Q0 p0.spec Qn (Q0 p0.spec Qe (Q0 p0.spec Q1n (Q0 p0.spec Q1j (Q16 p0.spec Qi (Q16 p0.spec Q8 (Q29 p0.status Qp (Q27 p0.spec Qg (Q15 p0 Q6)).2).2).2).2).2).2).2).2).2).1 (Q9 p0.spec Qs (Q0 p0.spec Qb (Q0 p0.spec Qn (Q0 p0.spec Qe (Q0 p0.spec Q1n (Q0 p0.spec Q1j (Q16 p0.spec Qi (Q16 p0.spec Q8 (Q29 p0.status Qp (Q27 p0.spec Qg (Q15 p0 Q6)).2).2).2).2).2).2).2).2).2).2).2).2).2).2).1) (Q0 p0.status Q31 (Q0 p0.spec Q1d (Q2d (Q9 p0.spec Q18 (Q2d (Q9 p0.spec Qs (Q0 p0.spec Qb (Q0 p0.spec Qn (Q0 p0.spec Qe (Q0 p0.spec Q1n (Q0 p0.spec Q1j (Q16 p0.spec Qi (Q16 p0.spec Q8 (Q29 p0.status Qp (Q27 p0.spec Qg (Q15 p0 Q6)).2).2).2).2).2).2).2).2).2).1 (Q9 p0.spec Qs (Q0 p0.spec Qb (Q0 p0.spec Qn (Q0 p0.spec Qe (Q0 p0.spec Q1n (Q0 p0.spec Q1j (Q16 p0.spec Qi (Q16 p0.spec Q8 (Q29 p0.status Qp (Q27 p0.spec Qg (Q15 p0 Q6)).2).2).2).2).2).2).2).2).2).2).2).1 (Q9 p0.spec Q18 (Q2d (Q9 p0.spec Qs (Q0 p0.spec Qb (Q0 p0.spec Qn (Q0 p0.spec Qe (Q0 p0.spec Q1n (Q0 p0.spec Q1j (Q16 p0.spec Qi (Q16 p0.spec Q8 (Q29 p0.status Qp (Q27 p0.spec Qg (Q15 p0 Q6)).2).2).2).2).2).2).2).2).2).1 (Q9 p0.spec Qs (Q0 p0.spec Qb (Q0 p0.spec Qn (Q0 p0.spec Qe (Q0 p0.spec Q1n (Q0 p0.spec Q1j (Q16 p0.spec Qi (Q16 p0.spec Q8 (Q29 p0.status Qp (Q27 p0.spec Qg (Q15 p0 Q6)).2).2).2).2).2).2).2).2).2).2).2).2).2).2).2).2)) := by
  simp only [Q9, Q0, Q16, Q2d, Q27, Q29, Q13i, Q15, Qa7]
  refine Eq.trans ?_ (Qol _ _).symm
  refine Q1fe ?_ rfl
  unfold Autoscaler.cnt
  omega
def Q21c (p0 : Object) : En := .call 15 [.agg (Object.cells p0)] []
def Q1sb (p0 : Object) : Rs := .ret (.tup [.agg (Autoscaler.cells (Q1fr p0).1), .int .i64 (Q1fr p0).2]) []
def Q1gk (p0 : Object) : Prop := Qtq p0.meta_ ∧ Object.sm p0
theorem Q47 (p0 : Object) (H : Q1gk p0) : (Q1lx p0.spec) ∧ (Q1m0 p0.status) ∧ (Qtq p0.meta_) ∧ (Q1cm p0.spec) ∧ (Qog p0.spec) ∧ (Qf2 p0.spec) ∧ (Q17i (Q9 p0.spec Qs (Q0 p0.spec Qb (Q0 p0.spec Qn (Q0 p0.spec Qe (Q0 p0.spec Q1n (Q0 p0.spec Q1j (Q16 p0.spec Qi (Q16 p0.spec Q8 (Q29 p0.status Qp (Q27 p0.spec Qg (Q15 p0 Q6)).2).2).2).2).2).2).2).2).2).1) ∧ (Q17i (Q9 p0.spec Q18 (Q2d (Q9 p0.spec Qs (Q0 p0.spec Qb (Q0 p0.spec Qn (Q0 p0.spec Qe (Q0 p0.spec Q1n (Q0 p0.spec Q1j (Q16 p0.spec Qi (Q16 p0.spec Q8 (Q29 p0.status Qp (Q27 p0.spec Qg (Q15 p0 Q6)).2).2).2).2).2).2).2).2).2).1 (Q9 p0.spec Qs (Q0 p0.spec Qb (Q0 p0.spec Qn (Q0 p0.spec Qe (Q0 p0.spec Q1n (Q0 p0.spec Q1j (Q16 p0.spec Qi (Q16 p0.spec Q8 (Q29 p0.status Qp (Q27 p0.spec Qg (Q15 p0 Q6)).2).2).2).2).2).2).2).2).2).2).2).1) ∧ (Qog p0.status) ∧ True := by
  repeat' with_reducible apply And.intro
  all_goals first | exact True.intro | exact H.1 | exact H.2 | exact H.2.1 | exact H.2.2 | exact Q3j H.2.1 _ | exact Q3j H.2.2 _
theorem Q25u (p0 : Object) (H : Q1gk p0) : Qd G (Q21c p0) (Q1sb p0) := by
 unfold Q1sb
 rw [Q23c]
 exact Qj (fn := Ir.K5g) rfl VOK.nil [] [aN (Q1up p0 Q6), aN (Q263 p0.spec Qg (Q15 p0 Q6) (Q47 p0 H).1), aN (Q266 p0.status Qp (Q27 p0.spec Qg (Q15 p0 Q6)).2 (Q47 p0 H).2.1), aN (Q1n0 p0.meta_ (Q47 p0 H).2.2.1), aN (Q1iz p0.spec Q8 (Q29 p0.status Qp (Q27 p0.spec Qg (Q15 p0 Q6)).2).2 (Q47 p0 H).2.2.2.1), aN (Q1iz p0.spec Qi (Q16 p0.spec Q8 (Q29 p0.status Qp (Q27 p0.spec Qg (Q15 p0 Q6)).2).2).2 (Q47 p0 H).2.2.2.1), aN (Q7p p0.spec Q1j (Q16 p0.spec Qi (Q16 p0.spec Q8 (Q29 p0.status Qp (Q27 p0.spec Qg (Q15 p0 Q6)).2).2).2).2 (Q47 p0 H).2.2.2.2.1), aN (Q7p p0.spec Q1n (Q0 p0.spec Q1j (Q16 p0.spec Qi (Q16 p0.spec Q8 (Q29 p0.status Qp (Q27 p0.spec Qg (Q15 p0 Q6)).2).2).2).2).2 (Q47 p0 H).2.2.2.2.1), aN (Q7p p0.spec Qe (Q0 p0.spec Q1n (Q0 p0.spec Q1j (Q16 p0.spec Qi (Q16 p0.spec Q8 (Q29 p0.status Qp (Q27 p0.spec Qg (Q15 p0 Q6)).2).2).2).2).2).2 (Q47 p0 H).2.2.2.2.1), aN (Q7p p0.spec Qn (Q0 p0.spec Qe (Q0 p0.spec Q1n (Q0 p0.spec Q1j (Q16 p0.spec Qi (Q16 p0.spec Q8 (Q29 p0.status Qp (Q27 p0.spec Qg (Q15 p0 Q6)).2).2).2).2).2).2).2 (Q47 p0 H).2.2.2.2.1), aN (Q7p p0.spec Qb (Q0 p0.spec Qn (Q0 p0.spec Qe (Q0 p0.spec Q1n (Q0 p0.spec Q1j (Q16 p0.spec Qi (Q16 p0.spec Q8 (Q29 p0.status Qp (Q27 p0.spec Qg (Q15 p0 Q6)).2).2).2).2).2).2).2).2 (Q47 p0 H).2.2.2.2.1), aN (Qdq p0.spec Qs (Q0 p0.spec Qb (Q0 p0.spec Qn (Q0 p0.spec Qe (Q0 p0.spec Q1n (Q0 p0.spec Q1j (Q16 p0.spec Qi (Q16 p0.spec Q8 (Q29 p0.status Qp (Q27 p0.spec Qg (Q15 p0 Q6)).2).2).2).2).2).2).2).2).2 (Q47 p0 H).2.2.2.2.2.1), aN (Q1iy (Q9 p0.spec Qs (Q0 p0.spec Qb (Q0 p0.spec Qn (Q0 p0.spec Qe (Q0 p0.spec Q1n (Q0 p0.spec Q1j (Q16 p0.spec Qi (Q16 p0.spec Q8 (Q29 p0.status Qp (Q27 p0.spec Qg (Q15 p0 Q6)).2).2).2).2).2).2).2).2).2).1 (Q9 p0.spec Qs (Q0 p0.spec Qb (Q0 p0.spec Qn (Q0 p0.spec Qe (Q0 p0.spec Q1n (Q0 p0.spec Q1j (Q16 p0.spec Qi (Q16 p0.spec Q8 (Q29 p0.status Qp (Q27 p0.spec Qg (Q15 p0 Q6)).2).2).2).2).2).2).2).2).2).2 (Q47 p0 H).2.2.2.2.2.2.1), aN (Qdq p0.spec Q18 (Q2d (Q9 p0.spec Qs (Q0 p0.spec Qb (Q0 p0.spec Qn (Q0 p0.spec Qe (Q0 p0.spec Q1n (Q0 p0.spec Q1j (Q16 p0.spec Qi (Q16 p0.spec Q8 (Q29 p0.status Qp (Q27 p0.spec Qg (Q15 p0 Q6)).2).2).2).2).2).2).2).2).2).1 (Q9 p0.spec Qs (Q0 p0.spec Qb (Q0 p0.spec Qn (Q0 p0.spec Qe (Q0 p0.spec Q1n (Q0 p0.spec Q1j (Q16 p0.spec Qi (Q16 p0.spec Q8 (Q29 p0.status Qp (Q27 p0.spec Qg (Q15 p0 Q6)).2).2).2).2).2).2).2).2).2).2).2 (Q47 p0 H).2.2.2.2.2.1), aN (Q1iy (Q9 p0.spec Q18 (Q2d (Q9 p0.spec Qs (Q0 p0.spec Qb (Q0 p0.spec Qn (Q0 p0.spec Qe (Q0 p0.spec Q1n (Q0 p0.spec Q1j (Q16 p0.spec Qi (Q16 p0.spec Q8 (Q29 p0.status Qp (Q27 p0.spec Qg (Q15 p0 Q6)).2).2).2).2).2).2).2).2).2).1 (Q9 p0.spec Qs (Q0 p0.spec Qb (Q0 p0.spec Qn (Q0 p0.spec Qe (Q0 p0.spec Q1n (Q0 p0.spec Q1j (Q16 p0.spec Qi (Q16 p0.spec Q8 (Q29 p0.status Qp (Q27 p0.spec Qg (Q15 p0 Q6)).2).2).2).2).2).2).2).2).2).2).2).1 (Q9 p0.spec Q18 (Q2d (Q9 p0.spec Qs (Q0 p0.spec Qb (Q0 p0.spec Qn (Q0 p0.spec Qe (Q0 p0.spec Q1n (Q0 p0.spec Q1j (Q16 p0.spec Qi (Q16 p0.spec Q8 (Q29 p0.status Qp (Q27 p0.spec Qg (Q15 p0 Q6)).2).2).2).2).2).2).2).2).2).1 (Q9 p0.spec Qs (Q0 p0.spec Qb (Q0 p0.spec Qn (Q0 p0.spec Qe (Q0 p0.spec Q1n (Q0 p0.spec Q1j (Q16 p0.spec Qi (Q16 p0.spec Q8 (Q29 p0.status Qp (Q27 p0.spec Qg (Q15 p0 Q6)).2).2).2).2).2).2).2).2).2).2).2).2 (Q47 p0 H).2.2.2.2.2.2.2.1), aN (Q7p p0.spec Q1d (Q2d (Q9 p0.spec Q18 (Q2d (Q9 p0.spec Qs (Q0 p0.spec Qb (Q0 p0.spec Qn (Q0 p0.spec Qe (Q0 p0.spec Q1n (Q0 p0.spec Q1j (Q16 p0.spec Qi (Q16 p0.spec Q8 (Q29 p0.status Qp (Q27 p0.spec Qg (Q15 p0 Q6)).2).2).2).2).2).2).2).2).2).1 (Q9 p0.spec Qs (Q0 p0.spec Qb (Q0 p0.spec Qn (Q0 p0.spec Qe (Q0 p0.spec Q1n (Q0 p0.spec Q1j (Q16 p0.spec Qi (Q16 p0.spec Q8 (Q29 p0.status Qp (Q27 p0.spec Qg (Q15 p0 Q6)).2).2).2).2).2).2).2).2).2).2).2).1 (Q9 p0.spec Q18 (Q2d (Q9 p0.spec Qs (Q0 p0.spec Qb (Q0 p0.spec Qn (Q0 p0.spec Qe (Q0 p0.spec Q1n (Q0 p0.spec Q1j (Q16 p0.spec Qi (Q16 p0.spec Q8 (Q29 p0.status Qp (Q27 p0.spec Qg (Q15 p0 Q6)).2).2).2).2).2).2).2).2).2).1 (Q9 p0.spec Qs (Q0 p0.spec Qb (Q0 p0.spec Qn (Q0 p0.spec Qe (Q0 p0.spec Q1n (Q0 p0.spec Q1j (Q16 p0.spec Qi (Q16 p0.spec Q8 (Q29 p0.status Qp (Q27 p0.spec Qg (Q15 p0 Q6)).2).2).2).2).2).2).2).2).2).2).2).2).2 (Q47 p0 H).2.2.2.2.1), aN (Q7p p0.status Q31 (Q0 p0.spec Q1d (Q2d (Q9 p0.spec Q18 (Q2d (Q9 p0.spec Qs (Q0 p0.spec Qb (Q0 p0.spec Qn (Q0 p0.spec Qe (Q0 p0.spec Q1n (Q0 p0.spec Q1j (Q16 p0.spec Qi (Q16 p0.spec Q8 (Q29 p0.status Qp (Q27 p0.spec Qg (Q15 p0 Q6)).2).2).2).2).2).2).2).2).2).1 (Q9 p0.spec Qs (Q0 p0.spec Qb (Q0 p0.spec Qn (Q0 p0.spec Qe (Q0 p0.spec Q1n (Q0 p0.spec Q1j (Q16 p0.spec Qi (Q16 p0.spec Q8 (Q29 p0.status Qp (Q27 p0.spec Qg (Q15 p0 Q6)).2).2).2).2).2).2).2).2).2).2).2).1 (Q9 p0.spec Q18 (Q2d (Q9 p0.spec Qs (Q0 p0.spec Qb (Q0 p0.spec Qn (Q0 p0.spec Qe (Q0 p0.spec Q1n (Q0 p0.spec Q1j (Q16 p0.spec Qi (Q16 p0.spec Q8 (Q29 p0.status Qp (Q27 p0.spec Qg (Q15 p0 Q6)).2).2).2).2).2).2).2).2).2).1 (Q9 p0.spec Qs (Q0 p0.spec Qb (Q0 p0.spec Qn (Q0 p0.spec Qe (Q0 p0.spec Q1n (Q0 p0.spec Q1j (Q16 p0.spec Qi (Q16 p0.spec Q8 (Q29 p0.status Qp (Q27 p0.spec Qg (Q15 p0 Q6)).2).2).2).2).2).2).2).2).2).2).2).2).2).2 (Q47 p0 H).2.2.2.2.2.2.2.2.1), aN (Q26b (Autoscaler.mk p0.meta_ (Q16 p0.spec Q8 (Q29 p0.status Qp (Q27 p0.spec Qg (Q15 p0 Q6)).2).2).1 (Q16 p0.spec Qi (Q16 p0.spec Q8 (Q29 p0.status Qp (Q27 p0.spec Qg (Q15 p0 Q6)).2).2).2).1 (Q0 p0.spec Q1j (Q16 p0.spec Qi (Q16 p0.spec Q8 (Q29 p0.status Qp (Q27 p0.spec Qg (Q15 p0 Q6)).2).2).2).2).1 (Q0 p0.spec Q1n (Q0 p0.spec Q1j (Q16 p0.spec Qi (Q16 p0.spec Q8 (Q29 p0.status Qp (Q27 p0.spec Qg (Q15 p0 Q6)).2).2).2).2).2).1 (Q27 p0.spec Qg (Q15 p0 Q6)).1 (Q0 p0.spec Qe (Q0 p0.spec Q1n (Q0 p0.spec Q1j (Q16 p0.spec Qi (Q16 p0.spec Q8 (Q29 p0.status Qp (Q27 p0.spec Qg (Q15 p0 Q6)).2).2).2).2).2).2).1 (Q0 p0.spec Qn (Q0 p0.spec Qe (Q0 p0.spec Q1n (Q0 p0.spec Q1j (Q16 p0.spec Qi (Q16 p0.spec Q8 (Q29 p0.status Qp (Q27 p0.spec Qg (Q15 p0 Q6)).2).2).2).2).2).2).2).1 (Q0 p0.spec Qb (Q0 p0.spec Qn (Q0 p0.spec Qe (Q0 p0.spec Q1n (Q0 p0.spec Q1j (Q16 p0.spec Qi (Q16 p0.spec Q8 (Q29 p0.status Qp (Q27 p0.spec Qg (Q15 p0 Q6)).2).2).2).2).2).2).2).2).1 (Q2d (Q9 p0.spec Qs (Q0 p0.spec Qb (Q0 p0.spec Qn (Q0 p0.spec Qe (Q0 p0.spec Q1n (Q0 p0.spec Q1j (Q16 p0.spec Qi (Q16 p0.spec Q8 (Q29 p0.status Qp (Q27 p0.spec Qg (Q15 p0 Q6)).2).2).2).2).2).2).2).2).2).1 (Q9 p0.spec Qs (Q0 p0.spec Qb (Q0 p0.spec Qn (Q0 p0.spec Qe (Q0 p0.spec Q1n (Q0 p0.spec Q1j (Q16 p0.spec Qi (Q16 p0.spec Q8 (Q29 p0.status Qp (Q27 p0.spec Qg (Q15 p0 Q6)).2).2).2).2).2).2).2).2).2).2).1 (Q2d (Q9 p0.spec Q18 (Q2d (Q9 p0.spec Qs (Q0 p0.spec Qb (Q0 p0.spec Qn (Q0 p0.spec Qe (Q0 p0.spec Q1n (Q0 p0.spec Q1j (Q16 p0.spec Qi (Q16 p0.spec Q8 (Q29 p0.status Qp (Q27 p0.spec Qg (Q15 p0 Q6)).2).2).2).2).2).2).2).2).2).1 (Q9 p0.spec Qs (Q0 p0.spec Qb (Q0 p0.spec Qn (Q0 p0.spec Qe (Q0 p0.spec Q1n (Q0 p0.spec Q1j (Q16 p0.spec Qi (Q16 p0.spec Q8 (Q29 p0.status Qp (Q27 p0.spec Qg (Q15 p0 Q6)).2).2).2).2).2).2).2).2).2).2).2).1 (Q9 p0.spec Q18 (Q2d (Q9 p0.spec Qs (Q0 p0.spec Qb (Q0 p0.spec Qn (Q0 p0.spec Qe (Q0 p0.spec Q1n (Q0 p0.spec Q1j (Q16 p0.spec Qi (Q16 p0.spec Q8 (Q29 p0.status Qp (Q27 p0.spec Qg (Q15 p0 Q6)).2).2).2).2).2).2).2).2).2).1 (Q9 p0.spec Qs (Q0 p0.spec Qb (Q0 p0.spec Qn (Q0 p0.spec Qe (Q0 p0.spec Q1n (Q0 p0.spec Q1j (Q16 p0.spec Qi (Q16 p0.spec Q8 (Q29 p0.status Qp (Q27 p0.spec Qg (Q15 p0 Q6)).2).2).2).2).2).2).2).2).2).2).2).2).1 (Q0 p0.spec Q1d (Q2d (Q9 p0.spec Q18 (Q2d (Q9 p0.spec Qs (Q0 p0.spec Qb (Q0 p0.spec Qn (Q0 p0.spec Qe (Q0 p0.spec Q1n (Q0 p0.spec Q1j (Q16 p0.spec Qi (Q16 p0.spec Q8 (Q29 p0.status Qp (Q27 p0.spec Qg (Q15 p0 Q6)).2).2).2).2).2).2).2).2).2).1 (Q9 p0.spec Qs (Q0 p0.spec Qb (Q0 p0.spec Qn (Q0 p0.spec Qe (Q0 p0.spec Q1n (Q0 p0.spec Q1j (Q16 p0.spec Qi (Q16 p0.spec Q8 (Q29 p0.status Qp (Q27 p0.spec Qg (Q15 p0 Q6)).2).2).2).2).2).2).2).2).2).2).2).1 (Q9 p0.spec Q18 (Q2d (Q9 p0.spec Qs (Q0 p0.spec Qb (Q0 p0.spec Qn (Q0 p0.spec Qe (Q0 p0.spec Q1n (Q0 p0.spec Q1j (Q16 p0.spec Qi (Q16 p0.spec Q8 (Q29 p0.status Qp (Q27 p0.spec Qg (Q15 p0 Q6)).2).2).2).2).2).2).2).2).2).1 (Q9 p0.spec Qs (Q0 p0.spec Qb (Q0 p0.spec Qn (Q0 p0.spec Qe (Q0 p0.spec Q1n (Q0 p0.spec Q1j (Q16 p0.spec Qi (Q16 p0.spec Q8 (Q29 p0.status Qp (Q27 p0.spec Qg (Q15 p0 Q6)).2).2).2).2).2).2).2).2).2).2).2).2).2).1 (Q29 p0.status Qp (Q27 p0.spec Qg (Q15 p0 Q6)).2).1 (Q0 p0.status Q31 (Q0 p0.spec Q1d (Q2d (Q9 p0.spec Q18 (Q2d (Q9 p0.spec Qs (Q0 p0.spec Qb (Q0 p0.spec Qn (Q0 p0.spec Qe (Q0 p0.spec Q1n (Q0 p0.spec Q1j (Q16 p0.spec Qi (Q16 p0.spec Q8 (Q29 p0.status Qp (Q27 p0.spec Qg (Q15 p0 Q6)).2).2).2).2).2).2).2).2).2).1 (Q9 p0.spec Qs (Q0 p0.spec Qb (Q0 p0.spec Qn (Q0 p0.spec Qe (Q0 p0.spec Q1n (Q0 p0.spec Q1j (Q16 p0.spec Qi (Q16 p0.spec Q8 (Q29 p0.status Qp (Q27 p0.spec Qg (Q15 p0 Q6)).2).2).2).2).2).2).2).2).2).2).2).1 (Q9 p0.spec Q18 (Q2d (Q9 p0.spec Qs (Q0 p0.spec Qb (Q0 p0.spec Qn (Q0 p0.spec Qe (Q0 p0.spec Q1n (Q0 p0.spec Q1j (Q16 p0.spec Qi (Q16 p0.spec Q8 (Q29 p0.status Qp (Q27 p0.spec Qg (Q15 p0 Q6)).2).2).2).2).2).2).2).2).2).1 (Q9 p0.spec Qs (Q0 p0.spec Qb (Q0 p0.spec Qn (Q0 p0.spec Qe (Q0 p0.spec Q1n (Q0 p0.spec Q1j (Q16 p0.spec Qi (Q16 p0.spec Q8 (Q29 p0.status Qp (Q27 p0.spec Qg (Q15 p0 Q6)).2).2).2).2).2).2).2).2).2).2).2).2).2).2).1) (Q0 p0.status Q31 (Q0 p0.spec Q1d (Q2d (Q9 p0.spec Q18 (Q2d (Q9 p0.spec Qs (Q0 p0.spec Qb (Q0 p0.spec Qn (Q0 p0.spec Qe (Q0 p0.spec Q1n (Q0 p0.spec Q1j (Q16 p0.spec Qi (Q16 p0.spec Q8 (Q29 p0.status Qp (Q27 p0.spec Qg (Q15 p0 Q6)).2).2).2).2).2).2).2).2).2).1 (Q9 p0.spec Qs (Q0 p0.spec Qb (Q0 p0.spec Qn (Q0 p0.spec Qe (Q0 p0.spec Q1n (Q0 p0.spec Q1j (Q16 p0.spec Qi (Q16 p0.spec Q8 (Q29 p0.status Qp (Q27 p0.spec Qg (Q15 p0 Q6)).2).2).2).2).2).2).2).2).2).2).2).1 (Q9 p0.spec Q18 (Q2d (Q9 p0.spec Qs (Q0 p0.spec Qb (Q0 p0.spec Qn (Q0 p0.spec Qe (Q0 p0.spec Q1n (Q0 p0.spec Q1j (Q16 p0.spec Qi (Q16 p0.spec Q8 (Q29 p0.status Qp (Q27 p0.spec Qg (Q15 p0 Q6)).2).2).2).2).2).2).2).2).2).1 (Q9 p0.spec Qs (Q0 p0.spec Qb (Q0 p0.spec Qn (Q0 p0.spec Qe (Q0 p0.spec Q1n (Q0 p0.spec Q1j (Q16 p0.spec Qi (Q16 p0.spec Q8 (Q29 p0.status Qp (Q27 p0.spec Qg (Q15 p0 Q6)).2).2).2).2).2).2).2).2).2).2).2).2).2).2).2)] (by kernel_rfl)
end Go.Proofs.YtimjjohlpnkacaaGreat
end

section
/- What the program's decoders compute (printed by a program). -/
namespace Go.Proofs.YtimjjohlpnkacaaGreat
open Go.Pv
end Go.Proofs.YtimjjohlpnkacaaGreat
end

