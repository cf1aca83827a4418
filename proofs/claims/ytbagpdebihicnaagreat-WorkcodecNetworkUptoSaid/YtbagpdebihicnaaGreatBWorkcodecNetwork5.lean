/- Texts of the claim, merged by a program; what the statement does not reach is left out. -/
import Derived.Test.YtbagpdebihicnaaGreatBWorkcodecNetwork4

section
/- What the program's decoders compute (printed by a program). -/
namespace Go.Proofs.YtbagpdebihicnaaGreat
open Go.Pv
structure Decoder where
  wrong : Int
def Decoder.cells (x : Decoder) : List PV :=
  [.int .i64 x.wrong]
def Decoder.rows (l : List Decoder) : List (List PV) := l.map Decoder.cells
theorem Decoder.Q5 (l : List Decoder) : (Decoder.rows l).length = l.length := by simp [Decoder.rows]
theorem Decoder.Q9 {l : List Decoder} {i : Nat} {x : Decoder} (h : l[i]? = some x) : (Decoder.rows l)[i]? = some (Decoder.cells x) := Go.Pv.Q9 h
theorem Decoder.Qv (l : List Decoder) (x : Decoder) : Decoder.rows (l ++ [x]) = Decoder.rows l ++ [Decoder.cells x] := by simp [Decoder.rows]
theorem Decoder.Q2n (l m : List Decoder) : Decoder.rows (l ++ m) = Decoder.rows l ++ Decoder.rows m := by simp [Decoder.rows]
theorem Decoder.Q2i (l : List Decoder) (k : Nat) (x : Decoder) : Decoder.rows (l.set k x) = (Decoder.rows l).set k (Decoder.cells x) := by simp [Decoder.rows, List.map_set]
theorem Decoder.Q21 (l : List Decoder) (n : Nat) : Decoder.rows (l.take n) = (Decoder.rows l).take n := by simp [Decoder.rows, List.map_take]
theorem Decoder.Q25 (l : List Decoder) (n : Nat) : Decoder.rows (l.drop n) = (Decoder.rows l).drop n := by simp [Decoder.rows, List.map_drop]
theorem Decoder.Qd (l : List Decoder) : ∀ r ∈ Decoder.rows l, r.length = 1 := Q2h (f := Decoder.cells) (fun _ => rfl) l
theorem Decoder.Q7 (l : List Decoder) (sz : Nat) (h : sz = 1) : ViewOK sz (Decoder.rows l).flatten (Decoder.rows l) := by subst h; exact ⟨rfl, Decoder.Qd l, Q20 (f := Decoder.cells) (fun _ => rfl) l⟩
def bp (o : Decoder) (n : Nat) : Decoder := ⟨bw o.wrong n⟩
theorem Q61 (o : Decoder) (a b : Nat) : bp (bp o a) b = bp o (a + b) := by unfold bp; rw [Q85]
theorem Q6p (o : Decoder) (n : Nat) : (bp o n).wrong = bw o.wrong n := rfl
def Qa (p1 : Val) (p2 : Int) (o0 : Decoder) : Val × Decoder := (bif p1.kind == p2 then p1 else vZ, bp o0 (cK p2 p1))
theorem Q1fd (p1 : Val) (p2 : Int) (o0 : Decoder) : Qa p1 p2 o0 = (bif (p1.kind == p2) then
    (p1, o0)
  else
    bif (p1.kind == 0) then
      ((Val.mk 0 0 eB [] []), o0)
    else
      ((Val.mk 0 0 eB [] []), (Decoder.mk (w64 (o0.wrong + 1))))) := by
  obtain ⟨w⟩ := o0
  unfold Qa bp cK nb
  cases (p1.kind == p2) <;> cases (p1.kind == 0) <;> rfl
def Q1e1 (p1 : Val) (p2 : Int) (o0 : Decoder) : En := .call 88 [.bx 0 0, .agg (Val.cells p1), .int .i64 p2] [⟨1, 0, false, (Decoder.cells o0)⟩]
def Q1gd (_p1 : Val) (_p2 : Int) (_o0 : Decoder) (q0 : Val) (q1 : Decoder) : Rs := .ret (.agg (Val.cells q0)) [⟨1, 0, false, (Decoder.cells q1)⟩]
def Q19h (p1 : Val) (p2 : Int) (o0 : Decoder) : Rs := Q1gd p1 p2 o0 (Qa p1 p2 o0).1 (Qa p1 p2 o0).2
theorem Q6w (p1 : Val) (p2 : Int) (o0 : Decoder) : Q6 G (Q1e1 p1 p2 o0) (Q19h p1 p2 o0) := by
 unfold Q19h
 rw [Q1fd]
 cases h0 : (p1.kind == p2) with
 | true =>
  exact Q8 (fn := Ir.K1n) rfl (h := [⟨1, 0, false, (Decoder.cells o0)⟩]) (vw := []) VOK.nil [hB 5 h0] [] (by kernel_rfl)
 | false =>
  cases h1 : (p1.kind == 0) with
  | true =>
   exact Q8 (fn := Ir.K1n) rfl (h := [⟨1, 0, false, (Decoder.cells o0)⟩]) (vw := []) VOK.nil [hB 5 h0, hP 2 (dec (!(p1.kind == 0)) false (by rw [h1]; rfl))] [] (by kernel_rfl)
  | false =>
   exact Q8 (fn := Ir.K1n) rfl (h := [⟨1, 0, false, (Decoder.cells o0)⟩]) (vw := []) VOK.nil [hB 5 h0, hP 2 (dec (!(p1.kind == 0)) true (by rw [h1]; rfl))] [] (by kernel_rfl)
def Q0 (p1 : Val) (p2 : BA) (o0 : Decoder) : Val × Decoder := (prt p1 p2, bp o0 (cM p1))
theorem Q1fe (p1 : Val) (p2 : BA) (o0 : Decoder) : Q0 p1 p2 o0 = (((Qy1 (Qa p1 5 o0).1 p2).1, (Qa p1 5 o0).2)) := by
  unfold Q0
  rw [vprt]
  unfold Qa
  cases h : (p1.kind == 5) with
  | true => rfl
  | false => rw [Q17p h]; rfl
def Q1e2 (p1 : Val) (p2 : BA) (o0 : Decoder) : En := .call 74 [.bx 0 0, .agg (Val.cells p1), .str p2] [⟨1, 0, false, (Decoder.cells o0)⟩]
def Q1ge (_p1 : Val) (_p2 : BA) (_o0 : Decoder) (q0 : Val) (q1 : Decoder) : Rs := .ret (.agg (Val.cells q0)) [⟨1, 0, false, (Decoder.cells q1)⟩]
def Q19i (p1 : Val) (p2 : BA) (o0 : Decoder) : Rs := Q1ge p1 p2 o0 (Q0 p1 p2 o0).1 (Q0 p1 p2 o0).2
def Qau (p1 : Val) : Prop := Val.Sm 1000000000 p1
theorem Q14q (p1 : Val) (p2 : BA) (o0 : Decoder) (H : Qau p1) : (Q16l (Qa p1 5 o0).1 p2) ∧ True := by
  refine ⟨Q1bk ?_ _, trivial⟩
  unfold Qa
  cases (p1.kind == 5) with
  | true => exact H
  | false => exact Q1h1
theorem Qga (p1 : Val) (p2 : BA) (o0 : Decoder) (H : Qau p1) : Q6 G (Q1e2 p1 p2 o0) (Q19i p1 p2 o0) := by
 unfold Q19i
 rw [Q1fe]
 exact Q8 (fn := Ir.K1o) rfl (h := [⟨1, 0, false, (Decoder.cells o0)⟩]) (vw := []) VOK.nil [] [aN (Q6w p1 5 o0), aN (Q1h4 (Qa p1 5 o0).1 p2 (Q14q p1 p2 o0 H).1)] (by kernel_rfl)
def Q2z (p1 : Val) (p2 : BA) (o0 : Decoder) : Int × Decoder := ((dN p1 p2).1, bp o0 (pK 2 p1 p2))
theorem Q1fh (p1 : Val) (p2 : BA) (o0 : Decoder) : Q2z p1 p2 o0 = (((Qa (Q0 p1 p2 o0).1 2 (Q0 p1 p2 o0).2).1.n, (Qa (Q0 p1 p2 o0).1 2 (Q0 p1 p2 o0).2).2)) := by
  unfold Q2z Q0 Qa
  simp only [Q61]
  exact Prod.ext (getN (prt p1 p2)).symm rfl
def Q1e5 (p1 : Val) (p2 : BA) (o0 : Decoder) : En := .call 50 [.bx 0 0, .agg (Val.cells p1), .str p2] [⟨1, 0, false, (Decoder.cells o0)⟩]
def Q1gh (_p1 : Val) (_p2 : BA) (_o0 : Decoder) (q0 : Int) (q1 : Decoder) : Rs := .ret (.int .i64 q0) [⟨1, 0, false, (Decoder.cells q1)⟩]
def Q19l (p1 : Val) (p2 : BA) (o0 : Decoder) : Rs := Q1gh p1 p2 o0 (Q2z p1 p2 o0).1 (Q2z p1 p2 o0).2
def Qwq (p1 : Val) : Prop := Val.Sm 1000000000 p1
theorem Q14s (p1 : Val) (_p2 : BA) (_o0 : Decoder) (H : Qwq p1) : (Qau p1) ∧ True := by
  exact ⟨H, trivial⟩
theorem Q12q (p1 : Val) (p2 : BA) (o0 : Decoder) (H : Qwq p1) : Q6 G (Q1e5 p1 p2 o0) (Q19l p1 p2 o0) := by
 unfold Q19l
 rw [Q1fh]
 exact Q8 (fn := Ir.K1r) rfl (h := [⟨1, 0, false, (Decoder.cells o0)⟩]) (vw := []) VOK.nil [] [aN (Qga p1 p2 o0 (Q14s p1 p2 o0 H).1), aN (Q6w (Q0 p1 p2 o0).1 2 (Q0 p1 p2 o0).2)] (by kernel_rfl)
def Q27 (p1 : Val) (p2 : BA) (o0 : Decoder) : ByteArray × Decoder := ((dS p1 p2).1, bp o0 (pK 3 p1 p2))
theorem Q1fn (p1 : Val) (p2 : BA) (o0 : Decoder) : Q27 p1 p2 o0 = (((Qa (Q0 p1 p2 o0).1 3 (Q0 p1 p2 o0).2).1.s, (Qa (Q0 p1 p2 o0).1 3 (Q0 p1 p2 o0).2).2)) := by
  unfold Q27 Q0 Qa
  simp only [Q61]
  exact Prod.ext (getS (prt p1 p2)).symm rfl
def Q1eb (p1 : Val) (p2 : BA) (o0 : Decoder) : En := .call 53 [.bx 0 0, .agg (Val.cells p1), .str p2] [⟨1, 0, false, (Decoder.cells o0)⟩]
def Q1gn (_p1 : Val) (_p2 : BA) (_o0 : Decoder) (q0 : BA) (q1 : Decoder) : Rs := .ret (.str q0) [⟨1, 0, false, (Decoder.cells q1)⟩]
def Q19r (p1 : Val) (p2 : BA) (o0 : Decoder) : Rs := Q1gn p1 p2 o0 (Q27 p1 p2 o0).1 (Q27 p1 p2 o0).2
def Qwr (p1 : Val) : Prop := Val.Sm 1000000000 p1
theorem Q14v (p1 : Val) (_p2 : BA) (_o0 : Decoder) (H : Qwr p1) : (Qau p1) ∧ True := by
  exact ⟨H, trivial⟩
theorem Q12r (p1 : Val) (p2 : BA) (o0 : Decoder) (H : Qwr p1) : Q6 G (Q1eb p1 p2 o0) (Q19r p1 p2 o0) := by
 unfold Q19r
 rw [Q1fn]
 exact Q8 (fn := Ir.K1y) rfl (h := [⟨1, 0, false, (Decoder.cells o0)⟩]) (vw := []) VOK.nil [] [aN (Qga p1 p2 o0 (Q14v p1 p2 o0 H).1), aN (Q6w (Q0 p1 p2 o0).1 3 (Q0 p1 p2 o0).2)] (by kernel_rfl)
def Q1x (p1 : Val) (p2 : BA) (o0 : Decoder) : Bool × Decoder := ((dB p1 p2).1, bp o0 (pK 1 p1 p2))
theorem Q1fo (p1 : Val) (p2 : BA) (o0 : Decoder) : Q1x p1 p2 o0 = (((!((Qa (Q0 p1 p2 o0).1 1 (Q0 p1 p2 o0).2).1.n == 0)), (Qa (Q0 p1 p2 o0).1 1 (Q0 p1 p2 o0).2).2)) := by
  unfold Q1x Q0 Qa
  simp only [Q61]
  exact Prod.ext (getB (prt p1 p2)).symm rfl
def Q1ec (p1 : Val) (p2 : BA) (o0 : Decoder) : En := .call 49 [.bx 0 0, .agg (Val.cells p1), .str p2] [⟨1, 0, false, (Decoder.cells o0)⟩]
def Q1go (_p1 : Val) (_p2 : BA) (_o0 : Decoder) (q0 : Bool) (q1 : Decoder) : Rs := .ret (.bool q0) [⟨1, 0, false, (Decoder.cells q1)⟩]
def Q19s (p1 : Val) (p2 : BA) (o0 : Decoder) : Rs := Q1go p1 p2 o0 (Q1x p1 p2 o0).1 (Q1x p1 p2 o0).2
def Qws (p1 : Val) : Prop := Val.Sm 1000000000 p1
theorem Q14w (p1 : Val) (_p2 : BA) (_o0 : Decoder) (H : Qws p1) : (Qau p1) ∧ True := by
  exact ⟨H, trivial⟩
theorem Qy6 (p1 : Val) (p2 : BA) (o0 : Decoder) (H : Qws p1) : Q6 G (Q1ec p1 p2 o0) (Q19s p1 p2 o0) := by
 unfold Q19s
 rw [Q1fo]
 exact Q8 (fn := Ir.K1z) rfl (h := [⟨1, 0, false, (Decoder.cells o0)⟩]) (vw := []) VOK.nil [] [aN (Qga p1 p2 o0 (Q14w p1 p2 o0 H).1), aN (Q6w (Q0 p1 p2 o0).1 1 (Q0 p1 p2 o0).2)] (by kernel_rfl)
def Q1r (p0 : Object) (p1 : BA) : Decoder := bp ⟨0⟩ (nb (sEq p0.meta_.kind p1) + cM p0.spec + cM p0.status)
theorem Q1g1 (p0 : Object) (p1 : BA) : Q1r p0 p1 = (bif (sEq p0.meta_.kind p1) then
    (Qa p0.status 5 (Qa p0.spec 5 (Decoder.mk 0)).2).2
  else
    (Qa p0.status 5 (Qa p0.spec 5 (Decoder.mk 1)).2).2) := by
  unfold Q1r
  simp only [Qa, Q61]
  cases sEq p0.meta_.kind p1 with
  | true => exact congrArg (bp ⟨0⟩) (by show 0 + cM p0.spec + cM p0.status = cK 5 p0.spec + cK 5 p0.status; unfold cM; omega)
  | false =>
    refine Eq.trans ?_ (Q61 ⟨0⟩ 1 (cK 5 p0.spec + cK 5 p0.status)).symm
    exact congrArg (bp ⟨0⟩) (by show 1 + cM p0.spec + cM p0.status = 1 + (cK 5 p0.spec + cK 5 p0.status); unfold cM; omega)
def Q1eq (p0 : Object) (p1 : BA) : En := .call 44 [.agg (Object.cells p0), .str p1] []
def Q1gw (_p0 : Object) (_p1 : BA) (q0 : Decoder) : Rs := .ret (.bx 0 0) [⟨1, 0, true, (Decoder.cells q0)⟩]
def Q1a6 (p0 : Object) (p1 : BA) : Rs := Q1gw p0 p1 (Q1r p0 p1)
theorem Q17y (p0 : Object) (p1 : BA) : Q6 G (Q1eq p0 p1) (Q1a6 p0 p1) := by
 unfold Q1a6
 rw [Q1g1]
 cases h0 : (sEq p0.meta_.kind p1) with
 | true =>
  exact Q8 (fn := Ir.K2l) rfl VOK.nil [hP 9 (dec (!(sEq p0.meta_.kind p1)) false (by rw [h0]; rfl))] [aN (Q6w p0.spec 5 (Decoder.mk 0)), aN (Q6w p0.status 5 (Qa p0.spec 5 (Decoder.mk 0)).2)] (by kernel_rfl)
 | false =>
  exact Q8 (fn := Ir.K2l) rfl VOK.nil [hP 9 (dec (!(sEq p0.meta_.kind p1)) true (by rw [h0]; rfl))] [aN (Q6w p0.spec 5 (Decoder.mk 1)), aN (Q6w p0.status 5 (Qa p0.spec 5 (Decoder.mk 1)).2)] (by kernel_rfl)
def Q3y (p0 : Val) (o1 : Decoder) : ByteArray × Decoder := ((xS p0).1, bp o1 (cK 3 p0))
theorem Q1fm (p0 : Val) (o1 : Decoder) : Q3y p0 o1 = (((Qa p0 3 o1).1.s, (Qa p0 3 o1).2)) := by
  exact Prod.ext (getS p0).symm rfl
def Q1ea (p0 : Val) (o1 : Decoder) : En := .call 96 [.agg (Val.cells p0), .bx 0 0] [⟨1, 0, false, [.bx 1 0]⟩, ⟨1, 0, false, (Decoder.cells o1)⟩]
def Q1gm (_p0 : Val) (_o1 : Decoder) (q0 : BA) (q1 : Decoder) : Rs := .ret (.str q0) [⟨1, 0, false, [.bx 1 0]⟩, ⟨1, 0, false, (Decoder.cells q1)⟩]
def Q19q (p0 : Val) (o1 : Decoder) : Rs := Q1gm p0 o1 (Q3y p0 o1).1 (Q3y p0 o1).2
theorem Q1hl (p0 : Val) (o1 : Decoder) : Q6 G (Q1ea p0 o1) (Q19q p0 o1) := by
 unfold Q19q
 rw [Q1fm]
 exact Q8 (fn := Ir.K1x) rfl (h := [⟨1, 0, false, [.bx 1 0]⟩, ⟨1, 0, false, (Decoder.cells o1)⟩]) (vw := []) VOK.nil [] [aN (Q6w p0 3 o1)] (by kernel_rfl)
def Q36 (p1 : Val) (p2 : BA) (o0 : Decoder) : List Val → Nat → Int → (List ByteArray) → Int × (List ByteArray)
 | [], _i0, v0_1, v0_2 =>
  (v0_1, v0_2)
 | x0 :: r0, i0, v0_1, v0_2 =>
  Q36 p1 p2 o0 r0 (i0 + 1) (Q3y x0 (Decoder.mk v0_1)).2.wrong (v0_2 ++ [(Q3y x0 (Decoder.mk v0_1)).1])
def Qna (p1 : Val) (p2 : BA) (o0 : Decoder) (i0 : Nat) (_v0_1 : Int) (v0_2 : List ByteArray) : List PV :=
  [.un, .un, .un, .fn 96 [] [.bx 1 0]] ++ nuns 5 ++ [.ms 2 1 0 (List.length v0_2)] ++ nuns 8 ++ [.sl (Val.rows (Qa (Q0 p1 p2 o0).1 4 (Q0 p1 p2 o0).2).1.list), .int .i64 ((List.length (Qa (Q0 p1 p2 o0).1 4 (Q0 p1 p2 o0).2).1.list) : Int), .int .i64 (i0 : Int)] ++ nuns 11
def Qcr (_p1 : Val) (_p2 : BA) (_o0 : Decoder) (_i0 : Nat) (v0_1 : Int) (v0_2 : List ByteArray) : List Ob :=
  [⟨1, 0, false, [.int .i64 v0_1]⟩, ⟨1, 0, false, [.bx 0 0]⟩, ⟨1, 0, true, (Qj v0_2).flatten⟩]
def Qb8 (p1 : Val) (p2 : BA) (o0 : Decoder) (i0 : Nat) (v0_1 : Int) (v0_2 : List ByteArray) : En := .loop 2 Ir.Qdl Ir.Q161 (Qna p1 p2 o0 i0 v0_1 v0_2) (Qcr p1 p2 o0 i0 v0_1 v0_2)
def Qhc (_p1 : Val) (_p2 : BA) (_o0 : Decoder) (q0 : Int) (q1 : List ByteArray) (z : Nat → PV) (_zo : Nat → List PV) : St :=
  ⟨zr z 0 9 ++ [.ms 2 1 0 (List.length q1)] ++ zr z 10 22, [(0, ⟨1, 0, false, [.int .i64 q0]⟩), (1, ⟨1, 0, false, [.bx 0 0]⟩), (2, ⟨1, 0, true, (Qj q1).flatten⟩)], 67⟩
theorem Qu3 (p1 : Val) (p2 : BA) (o0 : Decoder) (i0 : Nat) (v0_1 : Int) (v0_2 : List ByteArray) : VOK (Go.Pv.look (number 0 (Qcr p1 p2 o0 i0 v0_1 v0_2))) [(2, Qj v0_2)] := (VOK.cons (show Seen _ _ from Q2f (ob := ⟨1, 0, true, (Qj v0_2).flatten⟩) (Q5b v0_2 1 rfl)) VOK.nil)
def Qbz (p1 : Val) (p2 : BA) (o0 : Decoder) (e : En) (q : Int × (List ByteArray)) : Prop := ∃ z zo, Q6 G e (.st (.exit 0) (Qhc p1 p2 o0 q.1 q.2 z zo))
theorem Qlj (p1 : Val) (p2 : BA) (o0 : Decoder) {e e' : En} (h : ∀ r, Q6 G e r → Q6 G e' r) : ∀ q, Qbz p1 p2 o0 e q → Qbz p1 p2 o0 e' q
  | _, ⟨z, zo, hz⟩ => ⟨z, zo, h _ hz⟩
def Q8t (p1 : Val) (p2 : BA) (o0 : Decoder) : Prop := (List.length (Qa (Q0 p1 p2 o0).1 4 (Q0 p1 p2 o0).2).1.list ≤ 137438953472) ∧ True
def Qit (p1 : Val) (p2 : BA) (o0 : Decoder) (i0 : Nat) (_v0_1 : Int) (_v0_2 : List ByteArray) : List PV :=
  [.un, .un, .un, .fn 96 [] [.bx 1 0]] ++ nuns 14 ++ [.sl (Val.rows (Qa (Q0 p1 p2 o0).1 4 (Q0 p1 p2 o0).2).1.list), .int .i64 ((List.length (Qa (Q0 p1 p2 o0).1 4 (Q0 p1 p2 o0).2).1.list) : Int), .int .i64 (i0 : Int), .bool false]
def Qej (_p1 : Val) (_p2 : BA) (_o0 : Decoder) (_i0 : Nat) (_v0_1 : Int) (_v0_2 : List ByteArray) : List (Nat × List PV) :=
  []
theorem Qyn (p1 : Val) (p2 : BA) (o0 : Decoder) (_H : Q8t p1 p2 o0) (i0 : Nat) (v0_1 : Int) (v0_2 : List ByteArray) (_ho0_0 : List.length v0_2 ≤ i0) (hc0 : (decide ((i0 : Int) < ((List.length (Qa (Q0 p1 p2 o0).1 4 (Q0 p1 p2 o0).2).1.list) : Int))) = false) : Qbz p1 p2 o0 (Qb8 p1 p2 o0 i0 v0_1 v0_2) (v0_1, v0_2) := by
 exact ⟨(envF (Qit p1 p2 o0 i0 v0_1 v0_2)), (zoF (Qej p1 p2 o0 i0 v0_1 v0_2)), Qh (Qu3 p1 p2 o0 i0 v0_1 v0_2) (x := ((.exit 0), Qhc p1 p2 o0 v0_1 v0_2 (envF (Qit p1 p2 o0 i0 v0_1 v0_2)) (zoF (Qej p1 p2 o0 i0 v0_1 v0_2)))) [hB 0 hc0] [] (by kernel_rfl)⟩
theorem Qxo (p1 : Val) (p2 : BA) (o0 : Decoder) (H : Q8t p1 p2 o0) (x0 : Val) (i0 : Nat) (v0_1 : Int) (v0_2 : List ByteArray) (hx0 : (Qa (Q0 p1 p2 o0).1 4 (Q0 p1 p2 o0).2).1.list[i0]? = some x0) (hi0 : i0 < List.length (Qa (Q0 p1 p2 o0).1 4 (Q0 p1 p2 o0).2).1.list) (ho0_0 : List.length v0_2 ≤ i0) (hc0 : (decide ((i0 : Int) < ((List.length (Qa (Q0 p1 p2 o0).1 4 (Q0 p1 p2 o0).2).1.list) : Int))) = true) {r : Rs} (hr : Q6 G (Qb8 p1 p2 o0 (i0 + 1) (Q3y x0 (Decoder.mk v0_1)).2.wrong (v0_2 ++ [(Q3y x0 (Decoder.mk v0_1)).1])) r) : Q6 G (Qb8 p1 p2 o0 i0 v0_1 v0_2) r := by
 have hB0 := H.1
 exact Qb (Qu3 p1 p2 o0 i0 v0_1 v0_2) (y := (Qna p1 p2 o0 (i0 + 1) (Q3y x0 (Decoder.mk v0_1)).2.wrong (v0_2 ++ [(Q3y x0 (Decoder.mk v0_1)).1]), Qcr p1 p2 o0 (i0 + 1) (Q3y x0 (Decoder.mk v0_1)).2.wrong (v0_2 ++ [(Q3y x0 (Decoder.mk v0_1)).1]))) [hB 0 hc0, hP 0 (Q1f 5 (Val.rows (Qa (Q0 p1 p2 o0).1 4 (Q0 p1 p2 o0).2).1.list) i0 _ (Val.Q9 hx0) rfl), hV 8 [(643, Qj (v0_2 ++ [(Q3y x0 (Decoder.mk v0_1)).1]))] (Q2w 2 579 643 1 16 0 0 true (Qj v0_2) (Qj (v0_2 ++ [(Q3y x0 (Decoder.mk v0_1)).1])) [.str (Q3y x0 (Decoder.mk v0_1)).1] (List.length v0_2) (List.length (v0_2 ++ [(Q3y x0 (Decoder.mk v0_1)).1])) rfl (Q1k v0_2).symm (Q1k (v0_2 ++ [(Q3y x0 (Decoder.mk v0_1)).1])).symm (Qsq v0_2 (Q3y x0 (Decoder.mk v0_1)).1) (Qfv v0_2) rfl (by omega)), hS 0 true (Q5b (v0_2 ++ [(Q3y x0 (Decoder.mk v0_1)).1]) 1 rfl), hP 1 (Q1b i0 (by omega))] [aN (Q1hl x0 (Decoder.mk v0_1))] (by kernel_rfl) hr
theorem Qqy (p1 : Val) (p2 : BA) (o0 : Decoder) (H : Q8t p1 p2 o0) : ∀ (r0 : List Val) (i0 : Nat) (v0_1 : Int) (v0_2 : List ByteArray), List.drop i0 (Qa (Q0 p1 p2 o0).1 4 (Q0 p1 p2 o0).2).1.list = r0 → List.length v0_2 ≤ i0 → Qbz p1 p2 o0 (Qb8 p1 p2 o0 i0 v0_1 v0_2) (Q36 p1 p2 o0 r0 i0 v0_1 v0_2)
 | [], i0, v0_1, v0_2, hd, ho0_0 => by
  have hc0 : (decide ((i0 : Int) < ((List.length (Qa (Q0 p1 p2 o0).1 4 (Q0 p1 p2 o0).2).1.list) : Int))) = false := by have := Q10 hd; simp; omega
  rw [Q36]
  exact Qyn p1 p2 o0 H i0 v0_1 v0_2 ho0_0 hc0
 | x0 :: r0, i0, v0_1, v0_2, hd, ho0_0 => by
  obtain ⟨hx0, hi0, hd'⟩ := Qz hd
  have hc0 : (decide ((i0 : Int) < ((List.length (Qa (Q0 p1 p2 o0).1 4 (Q0 p1 p2 o0).2).1.list) : Int))) = true := by simp; omega
  rw [Q36]
  exact Qlj p1 p2 o0 (fun r hr => Qxo p1 p2 o0 H x0 i0 v0_1 v0_2 hx0 hi0 ho0_0 hc0 hr) _ (Qqy p1 p2 o0 H r0 (i0 + 1) (Q3y x0 (Decoder.mk v0_1)).2.wrong (v0_2 ++ [(Q3y x0 (Decoder.mk v0_1)).1]) hd' (by first | omega | (simp; omega)))
def Q6n (p1 : Val) (p2 : BA) (o0 : Decoder) : List ByteArray × Decoder := ((dE xS p1 p2).1, bp o0 (pE (cK 3) p1 p2))
theorem Qwe (p1 : Val) (p2 : BA) (o0 : Decoder) : ∀ (l : List Val) (i : Nat) (b : Int) (a : List ByteArray), Q36 p1 p2 o0 l i b a = (bw b (sumC (cK 3) l), a ++ l.map (fun x => (xS x).1))
  | [], _, b, a => by rw [Q36]; simp [sumC, bw]
  | x :: l, i, b, a => by
    rw [Q36]
    refine (Qwe p1 p2 o0 l (i + 1) (bw b ((cK 3) x)) (a ++ [(xS x).1])).trans ?_
    rw [Q85]
    simp only [List.append_assoc, List.singleton_append, List.map_cons, sumC]
theorem Q1ft (p1 : Val) (p2 : BA) (o0 : Decoder) : Q6n p1 p2 o0 = (((Q36 p1 p2 o0 (Qa (Q0 p1 p2 o0).1 4 (Q0 p1 p2 o0).2).1.list 0 (Qa (Q0 p1 p2 o0).1 4 (Q0 p1 p2 o0).2).2.wrong []).2, (Decoder.mk (Q36 p1 p2 o0 (Qa (Q0 p1 p2 o0).1 4 (Q0 p1 p2 o0).2).1.list 0 (Qa (Q0 p1 p2 o0).1 4 (Q0 p1 p2 o0).2).2.wrong []).1))) := by
  rw [Qwe]
  unfold Q0 Qa Q6n
  simp only [Q61, getL, Q6p, Q85]
  rfl
def Q1eh (p1 : Val) (p2 : BA) (o0 : Decoder) : En := .call 95 [.bx 0 0, .agg (Val.cells p1), .str p2, .fn 96 [] [.bx 1 0]] [⟨1, 0, false, (Decoder.cells o0)⟩, ⟨1, 0, false, [.bx 0 0]⟩]
def Q1gt (_p1 : Val) (_p2 : BA) (_o0 : Decoder) (q0 : List ByteArray) (q1 : Decoder) : Rs := .ret (.sl (Qj q0)) [⟨1, 0, false, (Decoder.cells q1)⟩, ⟨1, 0, false, [.bx 0 0]⟩]
def Q19x (p1 : Val) (p2 : BA) (o0 : Decoder) : Rs := Q1gt p1 p2 o0 (Q6n p1 p2 o0).1 (Q6n p1 p2 o0).2
def Q16z (p1 : Val) : Prop := Val.Sm 1000000000 p1
theorem Qux (p1 : Val) (p2 : BA) (o0 : Decoder) (H : Q16z p1) : (Qau p1) ∧ (Q8t p1 p2 o0) ∧ True := by
  have hl := Qst (Q3w H p2)
  refine ⟨H, ?_, trivial⟩
  unfold Q8t Q0 Qa
  simp only [getL]
  exact ⟨Nat.le_trans hl.1 (Nat.le_of_ble_eq_true rfl), trivial⟩
theorem Q1hq (p1 : Val) (p2 : BA) (o0 : Decoder) (H : Q16z p1) : Q6 G (Q1eh p1 p2 o0) (Q19x p1 p2 o0) := by
 unfold Q19x
 rw [Q1ft]
 have hl0 := Qqy p1 p2 o0 ((Qux p1 p2 o0 H).2.1) (Qa (Q0 p1 p2 o0).1 4 (Q0 p1 p2 o0).2).1.list 0 (Qa (Q0 p1 p2 o0).1 4 (Q0 p1 p2 o0).2).2.wrong [] (by simp) (by simp)
 obtain ⟨z0, zo0, hl0⟩ := hl0
 exact Q8 (fn := Ir.K24) rfl (h := [⟨1, 0, false, (Decoder.cells o0)⟩, ⟨1, 0, false, [.bx 0 0]⟩]) (vw := []) VOK.nil [hP 10 (Qn (Val.rows (Qa (Q0 p1 p2 o0).1 4 (Q0 p1 p2 o0).2).1.list) (List.length (Qa (Q0 p1 p2 o0).1 4 (Q0 p1 p2 o0).2).1.list) (Val.Q5 (Qa (Q0 p1 p2 o0).1 4 (Q0 p1 p2 o0).2).1.list)), hS 0 true (Q5b (Q36 p1 p2 o0 (Qa (Q0 p1 p2 o0).1 4 (Q0 p1 p2 o0).2).1.list 0 (Qa (Q0 p1 p2 o0).1 4 (Q0 p1 p2 o0).2).2.wrong []).2 1 rfl), hQ (Q1k (Q36 p1 p2 o0 (Qa (Q0 p1 p2 o0).1 4 (Q0 p1 p2 o0).2).1.list 0 (Qa (Q0 p1 p2 o0).1 4 (Q0 p1 p2 o0).2).2.wrong []).2).symm] [aN (Qga p1 p2 o0 (Qux p1 p2 o0 H).1), aN (Q6w (Q0 p1 p2 o0).1 4 (Q0 p1 p2 o0).2), aV [(2, Qj (Q36 p1 p2 o0 (Qa (Q0 p1 p2 o0).1 4 (Q0 p1 p2 o0).2).1.list 0 (Qa (Q0 p1 p2 o0).1 4 (Q0 p1 p2 o0).2).2.wrong []).2)] hl0] (by kernel_rfl)
def Q3x (p0 : Val) (o1 : Decoder) : Requirement × Decoder := ((Requirement.dec p0).1, bp o1 (Requirement.cnt p0))
theorem Q1fl (p0 : Val) (o1 : Decoder) : Q3x p0 o1 = (((Requirement.mk (Q27 p0 Q1w (Qa p0 5 (Q6n p0 Qy o1).2).2).1 (Q2z p0 Q3g (Q27 p0 Q1w (Qa p0 5 (Q6n p0 Qy o1).2).2).2).1 (Q6n p0 Qy o1).1), (Q2z p0 Q3g (Q27 p0 Q1w (Qa p0 5 (Q6n p0 Qy o1).2).2).2).2)) := by
  simp only [Qa, Q2z, Q27, Q6n, Q3x, Q61]
  refine Prod.ext rfl (congrArg (bp o1) ?_)
  show Requirement.cnt p0 = _
  try unfold Requirement.cnt
  try unfold cM
  first | rfl | omega
def Q1e9 (p0 : Val) (o1 : Decoder) : En := .call 94 [.agg (Val.cells p0), .bx 0 0] [⟨1, 0, false, [.bx 1 0]⟩, ⟨1, 0, false, (Decoder.cells o1)⟩]
def Q1gl (_p0 : Val) (_o1 : Decoder) (q0 : Requirement) (q1 : Decoder) : Rs := .ret (.agg (Requirement.cells q0)) [⟨1, 0, false, [.bx 1 0]⟩, ⟨1, 0, false, (Decoder.cells q1)⟩]
def Q19p (p0 : Val) (o1 : Decoder) : Rs := Q1gl p0 o1 (Q3x p0 o1).1 (Q3x p0 o1).2
def Q16u (p0 : Val) : Prop := Val.Sm 1000000000 p0
theorem Qmk (p0 : Val) (_o1 : Decoder) (H : Q16u p0) : (Q16z p0) ∧ (Qwr p0) ∧ (Qwq p0) ∧ True := by
  repeat' with_reducible apply And.intro
  all_goals first | exact True.intro | exact H | exact Q3w H _
theorem Q1hk (p0 : Val) (o1 : Decoder) (H : Q16u p0) : Q6 G (Q1e9 p0 o1) (Q19p p0 o1) := by
 unfold Q19p
 rw [Q1fl]
 exact Q8 (fn := Ir.K1w) rfl (h := [⟨1, 0, false, [.bx 1 0]⟩, ⟨1, 0, false, (Decoder.cells o1)⟩]) (vw := []) VOK.nil [] [aN (Q1hq p0 Qy o1 (Qmk p0 o1 H).1), aN (Q6w p0 5 (Q6n p0 Qy o1).2), aN (Q12r p0 Q1w (Qa p0 5 (Q6n p0 Qy o1).2).2 (Qmk p0 o1 H).2.1), aN (Q12q p0 Q3g (Q27 p0 Q1w (Qa p0 5 (Q6n p0 Qy o1).2).2).2 (Qmk p0 o1 H).2.2.1)] (by kernel_rfl)
def Q35 (p1 : Val) (p2 : BA) (o0 : Decoder) : List Val → Nat → Int → (List Requirement) → Int × (List Requirement)
 | [], _i0, v0_1, v0_2 =>
  (v0_1, v0_2)
 | x0 :: r0, i0, v0_1, v0_2 =>
  Q35 p1 p2 o0 r0 (i0 + 1) (Q3x x0 (Decoder.mk v0_1)).2.wrong (v0_2 ++ [(Q3x x0 (Decoder.mk v0_1)).1])
def Qn9 (p1 : Val) (p2 : BA) (o0 : Decoder) (i0 : Nat) (_v0_1 : Int) (v0_2 : List Requirement) : List PV :=
  [.un, .un, .un, .fn 94 [] [.bx 1 0]] ++ nuns 5 ++ [.ms 2 3 0 (List.length v0_2)] ++ nuns 8 ++ [.sl (Val.rows (Qa (Q0 p1 p2 o0).1 4 (Q0 p1 p2 o0).2).1.list), .int .i64 ((List.length (Qa (Q0 p1 p2 o0).1 4 (Q0 p1 p2 o0).2).1.list) : Int), .int .i64 (i0 : Int)] ++ nuns 11
def Qcq (_p1 : Val) (_p2 : BA) (_o0 : Decoder) (_i0 : Nat) (v0_1 : Int) (v0_2 : List Requirement) : List Ob :=
  [⟨1, 0, false, [.int .i64 v0_1]⟩, ⟨1, 0, false, [.bx 0 0]⟩, ⟨3, 0, true, (Requirement.rows v0_2).flatten⟩]
def Qb7 (p1 : Val) (p2 : BA) (o0 : Decoder) (i0 : Nat) (v0_1 : Int) (v0_2 : List Requirement) : En := .loop 2 Ir.Qdk Ir.Q160 (Qn9 p1 p2 o0 i0 v0_1 v0_2) (Qcq p1 p2 o0 i0 v0_1 v0_2)
def Qhb (_p1 : Val) (_p2 : BA) (_o0 : Decoder) (q0 : Int) (q1 : List Requirement) (z : Nat → PV) (_zo : Nat → List PV) : St :=
  ⟨zr z 0 9 ++ [.ms 2 3 0 (List.length q1)] ++ zr z 10 22, [(0, ⟨1, 0, false, [.int .i64 q0]⟩), (1, ⟨1, 0, false, [.bx 0 0]⟩), (2, ⟨3, 0, true, (Requirement.rows q1).flatten⟩)], 67⟩
theorem Qu2 (p1 : Val) (p2 : BA) (o0 : Decoder) (i0 : Nat) (v0_1 : Int) (v0_2 : List Requirement) : VOK (Go.Pv.look (number 0 (Qcq p1 p2 o0 i0 v0_1 v0_2))) [(2, Requirement.rows v0_2)] := (VOK.cons (show Seen _ _ from Q2f (ob := ⟨3, 0, true, (Requirement.rows v0_2).flatten⟩) (Requirement.Q7 v0_2 3 rfl)) VOK.nil)
def Qby (p1 : Val) (p2 : BA) (o0 : Decoder) (e : En) (q : Int × (List Requirement)) : Prop := ∃ z zo, Q6 G e (.st (.exit 0) (Qhb p1 p2 o0 q.1 q.2 z zo))
theorem Qli (p1 : Val) (p2 : BA) (o0 : Decoder) {e e' : En} (h : ∀ r, Q6 G e r → Q6 G e' r) : ∀ q, Qby p1 p2 o0 e q → Qby p1 p2 o0 e' q
  | _, ⟨z, zo, hz⟩ => ⟨z, zo, h _ hz⟩
def Q8s (p1 : Val) (p2 : BA) (o0 : Decoder) : Prop := (List.length (Qa (Q0 p1 p2 o0).1 4 (Q0 p1 p2 o0).2).1.list ≤ 137438953472) ∧ (∀ x0 ∈ (Qa (Q0 p1 p2 o0).1 4 (Q0 p1 p2 o0).2).1.list, Q16u x0) ∧ True
def Qis (p1 : Val) (p2 : BA) (o0 : Decoder) (i0 : Nat) (_v0_1 : Int) (_v0_2 : List Requirement) : List PV :=
  [.un, .un, .un, .fn 94 [] [.bx 1 0]] ++ nuns 14 ++ [.sl (Val.rows (Qa (Q0 p1 p2 o0).1 4 (Q0 p1 p2 o0).2).1.list), .int .i64 ((List.length (Qa (Q0 p1 p2 o0).1 4 (Q0 p1 p2 o0).2).1.list) : Int), .int .i64 (i0 : Int), .bool false]
def Qei (_p1 : Val) (_p2 : BA) (_o0 : Decoder) (_i0 : Nat) (_v0_1 : Int) (_v0_2 : List Requirement) : List (Nat × List PV) :=
  []
theorem Qym (p1 : Val) (p2 : BA) (o0 : Decoder) (_H : Q8s p1 p2 o0) (i0 : Nat) (v0_1 : Int) (v0_2 : List Requirement) (_ho0_0 : List.length v0_2 ≤ i0) (hc0 : (decide ((i0 : Int) < ((List.length (Qa (Q0 p1 p2 o0).1 4 (Q0 p1 p2 o0).2).1.list) : Int))) = false) : Qby p1 p2 o0 (Qb7 p1 p2 o0 i0 v0_1 v0_2) (v0_1, v0_2) := by
 exact ⟨(envF (Qis p1 p2 o0 i0 v0_1 v0_2)), (zoF (Qei p1 p2 o0 i0 v0_1 v0_2)), Qh (Qu2 p1 p2 o0 i0 v0_1 v0_2) (x := ((.exit 0), Qhb p1 p2 o0 v0_1 v0_2 (envF (Qis p1 p2 o0 i0 v0_1 v0_2)) (zoF (Qei p1 p2 o0 i0 v0_1 v0_2)))) [hB 0 hc0] [] (by kernel_rfl)⟩
theorem Qxn (p1 : Val) (p2 : BA) (o0 : Decoder) (H : Q8s p1 p2 o0) (x0 : Val) (i0 : Nat) (v0_1 : Int) (v0_2 : List Requirement) (hx0 : (Qa (Q0 p1 p2 o0).1 4 (Q0 p1 p2 o0).2).1.list[i0]? = some x0) (hi0 : i0 < List.length (Qa (Q0 p1 p2 o0).1 4 (Q0 p1 p2 o0).2).1.list) (ho0_0 : List.length v0_2 ≤ i0) (hc0 : (decide ((i0 : Int) < ((List.length (Qa (Q0 p1 p2 o0).1 4 (Q0 p1 p2 o0).2).1.list) : Int))) = true) {r : Rs} (hr : Q6 G (Qb7 p1 p2 o0 (i0 + 1) (Q3x x0 (Decoder.mk v0_1)).2.wrong (v0_2 ++ [(Q3x x0 (Decoder.mk v0_1)).1])) r) : Q6 G (Qb7 p1 p2 o0 i0 v0_1 v0_2) r := by
 have hB0 := H.1
 exact Qb (Qu2 p1 p2 o0 i0 v0_1 v0_2) (y := (Qn9 p1 p2 o0 (i0 + 1) (Q3x x0 (Decoder.mk v0_1)).2.wrong (v0_2 ++ [(Q3x x0 (Decoder.mk v0_1)).1]), Qcq p1 p2 o0 (i0 + 1) (Q3x x0 (Decoder.mk v0_1)).2.wrong (v0_2 ++ [(Q3x x0 (Decoder.mk v0_1)).1]))) [hB 0 hc0, hP 0 (Q1f 5 (Val.rows (Qa (Q0 p1 p2 o0).1 4 (Q0 p1 p2 o0).2).1.list) i0 _ (Val.Q9 hx0) rfl), hV 8 [(643, Requirement.rows (v0_2 ++ [(Q3x x0 (Decoder.mk v0_1)).1]))] (Q2w 2 579 643 3 48 0 0 true (Requirement.rows v0_2) (Requirement.rows (v0_2 ++ [(Q3x x0 (Decoder.mk v0_1)).1])) (Requirement.cells (Q3x x0 (Decoder.mk v0_1)).1) (List.length v0_2) (List.length (v0_2 ++ [(Q3x x0 (Decoder.mk v0_1)).1])) rfl (Requirement.Q5 v0_2).symm (Requirement.Q5 (v0_2 ++ [(Q3x x0 (Decoder.mk v0_1)).1])).symm (Requirement.Qv v0_2 (Q3x x0 (Decoder.mk v0_1)).1) (Requirement.Qd v0_2) rfl (by omega)), hS 0 true (Requirement.Q7 (v0_2 ++ [(Q3x x0 (Decoder.mk v0_1)).1]) 3 rfl), hP 1 (Q1b i0 (by omega))] [aN (Q1hk x0 (Decoder.mk v0_1) (H.2.1 x0 (Q1q hx0)))] (by kernel_rfl) hr
theorem Qqx (p1 : Val) (p2 : BA) (o0 : Decoder) (H : Q8s p1 p2 o0) : ∀ (r0 : List Val) (i0 : Nat) (v0_1 : Int) (v0_2 : List Requirement), List.drop i0 (Qa (Q0 p1 p2 o0).1 4 (Q0 p1 p2 o0).2).1.list = r0 → List.length v0_2 ≤ i0 → Qby p1 p2 o0 (Qb7 p1 p2 o0 i0 v0_1 v0_2) (Q35 p1 p2 o0 r0 i0 v0_1 v0_2)
 | [], i0, v0_1, v0_2, hd, ho0_0 => by
  have hc0 : (decide ((i0 : Int) < ((List.length (Qa (Q0 p1 p2 o0).1 4 (Q0 p1 p2 o0).2).1.list) : Int))) = false := by have := Q10 hd; simp; omega
  rw [Q35]
  exact Qym p1 p2 o0 H i0 v0_1 v0_2 ho0_0 hc0
 | x0 :: r0, i0, v0_1, v0_2, hd, ho0_0 => by
  obtain ⟨hx0, hi0, hd'⟩ := Qz hd
  have hc0 : (decide ((i0 : Int) < ((List.length (Qa (Q0 p1 p2 o0).1 4 (Q0 p1 p2 o0).2).1.list) : Int))) = true := by simp; omega
  rw [Q35]
  exact Qli p1 p2 o0 (fun r hr => Qxn p1 p2 o0 H x0 i0 v0_1 v0_2 hx0 hi0 ho0_0 hc0 hr) _ (Qqx p1 p2 o0 H r0 (i0 + 1) (Q3x x0 (Decoder.mk v0_1)).2.wrong (v0_2 ++ [(Q3x x0 (Decoder.mk v0_1)).1]) hd' (by first | omega | (simp; omega)))
def Qac (p1 : Val) (p2 : BA) (o0 : Decoder) : List Requirement × Decoder := ((dE Requirement.dec p1 p2).1, bp o0 (pE (Requirement.cnt) p1 p2))
theorem Qwd (p1 : Val) (p2 : BA) (o0 : Decoder) : ∀ (l : List Val) (i : Nat) (b : Int) (a : List Requirement), Q35 p1 p2 o0 l i b a = (bw b (sumC (Requirement.cnt) l), a ++ l.map (fun x => (Requirement.dec x).1))
  | [], _, b, a => by rw [Q35]; simp [sumC, bw]
  | x :: l, i, b, a => by
    rw [Q35]
    refine (Qwd p1 p2 o0 l (i + 1) (bw b ((Requirement.cnt) x)) (a ++ [(Requirement.dec x).1])).trans ?_
    rw [Q85]
    simp only [List.append_assoc, List.singleton_append, List.map_cons, sumC]
theorem Q1fs (p1 : Val) (p2 : BA) (o0 : Decoder) : Qac p1 p2 o0 = (((Q35 p1 p2 o0 (Qa (Q0 p1 p2 o0).1 4 (Q0 p1 p2 o0).2).1.list 0 (Qa (Q0 p1 p2 o0).1 4 (Q0 p1 p2 o0).2).2.wrong []).2, (Decoder.mk (Q35 p1 p2 o0 (Qa (Q0 p1 p2 o0).1 4 (Q0 p1 p2 o0).2).1.list 0 (Qa (Q0 p1 p2 o0).1 4 (Q0 p1 p2 o0).2).2.wrong []).1))) := by
  rw [Qwd]
  unfold Q0 Qa Qac
  simp only [Q61, getL, Q6p, Q85]
  rfl
def Q1eg (p1 : Val) (p2 : BA) (o0 : Decoder) : En := .call 93 [.bx 0 0, .agg (Val.cells p1), .str p2, .fn 94 [] [.bx 1 0]] [⟨1, 0, false, (Decoder.cells o0)⟩, ⟨1, 0, false, [.bx 0 0]⟩]
def Q1gs (_p1 : Val) (_p2 : BA) (_o0 : Decoder) (q0 : List Requirement) (q1 : Decoder) : Rs := .ret (.sl (Requirement.rows q0)) [⟨1, 0, false, (Decoder.cells q1)⟩, ⟨1, 0, false, [.bx 0 0]⟩]
def Q19w (p1 : Val) (p2 : BA) (o0 : Decoder) : Rs := Q1gs p1 p2 o0 (Qac p1 p2 o0).1 (Qac p1 p2 o0).2
def Q16y (p1 : Val) : Prop := Val.Sm 1000000000 p1
theorem Quw (p1 : Val) (p2 : BA) (o0 : Decoder) (H : Q16y p1) : (Qau p1) ∧ (Q8s p1 p2 o0) ∧ True := by
  have hl := Qst (Q3w H p2)
  refine ⟨H, ?_, trivial⟩
  unfold Q8s Q0 Qa
  simp only [getL]
  exact ⟨Nat.le_trans hl.1 (Nat.le_of_ble_eq_true rfl), hl.2, trivial⟩
theorem Q1hp (p1 : Val) (p2 : BA) (o0 : Decoder) (H : Q16y p1) : Q6 G (Q1eg p1 p2 o0) (Q19w p1 p2 o0) := by
 unfold Q19w
 rw [Q1fs]
 have hl0 := Qqx p1 p2 o0 ((Quw p1 p2 o0 H).2.1) (Qa (Q0 p1 p2 o0).1 4 (Q0 p1 p2 o0).2).1.list 0 (Qa (Q0 p1 p2 o0).1 4 (Q0 p1 p2 o0).2).2.wrong [] (by simp) (by simp)
 obtain ⟨z0, zo0, hl0⟩ := hl0
 exact Q8 (fn := Ir.K23) rfl (h := [⟨1, 0, false, (Decoder.cells o0)⟩, ⟨1, 0, false, [.bx 0 0]⟩]) (vw := []) VOK.nil [hP 10 (Qn (Val.rows (Qa (Q0 p1 p2 o0).1 4 (Q0 p1 p2 o0).2).1.list) (List.length (Qa (Q0 p1 p2 o0).1 4 (Q0 p1 p2 o0).2).1.list) (Val.Q5 (Qa (Q0 p1 p2 o0).1 4 (Q0 p1 p2 o0).2).1.list)), hS 0 true (Requirement.Q7 (Q35 p1 p2 o0 (Qa (Q0 p1 p2 o0).1 4 (Q0 p1 p2 o0).2).1.list 0 (Qa (Q0 p1 p2 o0).1 4 (Q0 p1 p2 o0).2).2.wrong []).2 3 rfl), hQ (Requirement.Q5 (Q35 p1 p2 o0 (Qa (Q0 p1 p2 o0).1 4 (Q0 p1 p2 o0).2).1.list 0 (Qa (Q0 p1 p2 o0).1 4 (Q0 p1 p2 o0).2).2.wrong []).2).symm] [aN (Qga p1 p2 o0 (Quw p1 p2 o0 H).1), aN (Q6w (Q0 p1 p2 o0).1 4 (Q0 p1 p2 o0).2), aV [(2, Requirement.rows (Q35 p1 p2 o0 (Qa (Q0 p1 p2 o0).1 4 (Q0 p1 p2 o0).2).1.list 0 (Qa (Q0 p1 p2 o0).1 4 (Q0 p1 p2 o0).2).2.wrong []).2)] hl0] (by kernel_rfl)
def Q26 (p1 : Val) (o0 : Decoder) : List Requirement × Decoder := ((dE Requirement.dec p1 Qg).1, bp o0 (pE Requirement.cnt p1 Qg))
theorem Q1fk (p1 : Val) (o0 : Decoder) : Q26 p1 o0 = (((Qac p1 Qg o0).1, (Qac p1 Qg o0).2)) := by
  rfl
def Q1e8 (p1 : Val) (o0 : Decoder) : En := .call 47 [.bx 0 0, .agg (Val.cells p1)] [⟨1, 0, false, (Decoder.cells o0)⟩]
def Q1gk (_p1 : Val) (_o0 : Decoder) (q0 : List Requirement) (q1 : Decoder) : Rs := .ret (.sl (Requirement.rows q0)) [⟨1, 0, false, (Decoder.cells q1)⟩]
def Q19o (p1 : Val) (o0 : Decoder) : Rs := Q1gk p1 o0 (Q26 p1 o0).1 (Q26 p1 o0).2
def Qyz (p1 : Val) : Prop := Val.Sm 1000000000 p1
theorem Q14u (p1 : Val) (_o0 : Decoder) (H : Qyz p1) : (Q16y p1) ∧ True := by
  repeat' with_reducible apply And.intro
  all_goals first | exact True.intro | exact H
theorem Q17w (p1 : Val) (o0 : Decoder) (H : Qyz p1) : Q6 G (Q1e8 p1 o0) (Q19o p1 o0) := by
 unfold Q19o
 rw [Q1fk]
 exact Q8 (fn := Ir.K1v) rfl (h := [⟨1, 0, false, (Decoder.cells o0)⟩]) (vw := []) VOK.nil [] [aN (Q1hp p1 Qg o0 (Q14u p1 o0 H).1)] (by kernel_rfl)
def Q4a (p0 : Val) (o1 : Decoder) : ServicePort × Decoder := ((ServicePort.dec p0).1, bp o1 (ServicePort.cnt p0))
theorem Q1fj (p0 : Val) (o1 : Decoder) : Q4a p0 o1 = (((ServicePort.mk (Q27 p0 Q1j o1).1 (Q2z p0 Q1l (Q27 p0 Q1j o1).2).1 (Q2z p0 Q15 (Q2z p0 Q1l (Q27 p0 Q1j o1).2).2).1), (Q2z p0 Q15 (Q2z p0 Q1l (Q27 p0 Q1j o1).2).2).2)) := by
  simp only [Q2z, Q27, Q4a, Q61]
  refine Prod.ext rfl (congrArg (bp o1) ?_)
  show ServicePort.cnt p0 = _
  try unfold ServicePort.cnt
  try unfold cM
  first | rfl | omega
def Q1e7 (p0 : Val) (o1 : Decoder) : En := .call 98 [.agg (Val.cells p0), .bx 0 0] [⟨1, 0, false, [.bx 1 0]⟩, ⟨1, 0, false, (Decoder.cells o1)⟩]
def Q1gj (_p0 : Val) (_o1 : Decoder) (q0 : ServicePort) (q1 : Decoder) : Rs := .ret (.agg (ServicePort.cells q0)) [⟨1, 0, false, [.bx 1 0]⟩, ⟨1, 0, false, (Decoder.cells q1)⟩]
def Q19n (p0 : Val) (o1 : Decoder) : Rs := Q1gj p0 o1 (Q4a p0 o1).1 (Q4a p0 o1).2
def Q16t (p0 : Val) : Prop := Val.Sm 1000000000 p0
theorem Qmj (p0 : Val) (_o1 : Decoder) (H : Q16t p0) : (Qwr p0) ∧ (Qwq p0) ∧ True := by
  repeat' with_reducible apply And.intro
  all_goals first | exact True.intro | exact H | exact Q3w H _
theorem Q1hj (p0 : Val) (o1 : Decoder) (H : Q16t p0) : Q6 G (Q1e7 p0 o1) (Q19n p0 o1) := by
 unfold Q19n
 rw [Q1fj]
 exact Q8 (fn := Ir.K1t) rfl (h := [⟨1, 0, false, [.bx 1 0]⟩, ⟨1, 0, false, (Decoder.cells o1)⟩]) (vw := []) VOK.nil [] [aN (Q12r p0 Q1j o1 (Qmj p0 o1 H).1), aN (Q12q p0 Q1l (Q27 p0 Q1j o1).2 (Qmj p0 o1 H).2.1), aN (Q12q p0 Q15 (Q2z p0 Q1l (Q27 p0 Q1j o1).2).2 (Qmj p0 o1 H).2.1)] (by kernel_rfl)
def Q37 (p1 : Val) (p2 : BA) (o0 : Decoder) : List Val → Nat → Int → (List ServicePort) → Int × (List ServicePort)
 | [], _i0, v0_1, v0_2 =>
  (v0_1, v0_2)
 | x0 :: r0, i0, v0_1, v0_2 =>
  Q37 p1 p2 o0 r0 (i0 + 1) (Q4a x0 (Decoder.mk v0_1)).2.wrong (v0_2 ++ [(Q4a x0 (Decoder.mk v0_1)).1])
def Qnb (p1 : Val) (p2 : BA) (o0 : Decoder) (i0 : Nat) (_v0_1 : Int) (v0_2 : List ServicePort) : List PV :=
  [.un, .un, .un, .fn 98 [] [.bx 1 0]] ++ nuns 5 ++ [.ms 2 3 0 (List.length v0_2)] ++ nuns 8 ++ [.sl (Val.rows (Qa (Q0 p1 p2 o0).1 4 (Q0 p1 p2 o0).2).1.list), .int .i64 ((List.length (Qa (Q0 p1 p2 o0).1 4 (Q0 p1 p2 o0).2).1.list) : Int), .int .i64 (i0 : Int)] ++ nuns 11
def Qcs (_p1 : Val) (_p2 : BA) (_o0 : Decoder) (_i0 : Nat) (v0_1 : Int) (v0_2 : List ServicePort) : List Ob :=
  [⟨1, 0, false, [.int .i64 v0_1]⟩, ⟨1, 0, false, [.bx 0 0]⟩, ⟨3, 0, true, (ServicePort.rows v0_2).flatten⟩]
def Qb9 (p1 : Val) (p2 : BA) (o0 : Decoder) (i0 : Nat) (v0_1 : Int) (v0_2 : List ServicePort) : En := .loop 2 Ir.Qdm Ir.Q162 (Qnb p1 p2 o0 i0 v0_1 v0_2) (Qcs p1 p2 o0 i0 v0_1 v0_2)
def Qhd (_p1 : Val) (_p2 : BA) (_o0 : Decoder) (q0 : Int) (q1 : List ServicePort) (z : Nat → PV) (_zo : Nat → List PV) : St :=
  ⟨zr z 0 9 ++ [.ms 2 3 0 (List.length q1)] ++ zr z 10 22, [(0, ⟨1, 0, false, [.int .i64 q0]⟩), (1, ⟨1, 0, false, [.bx 0 0]⟩), (2, ⟨3, 0, true, (ServicePort.rows q1).flatten⟩)], 67⟩
theorem Qu4 (p1 : Val) (p2 : BA) (o0 : Decoder) (i0 : Nat) (v0_1 : Int) (v0_2 : List ServicePort) : VOK (Go.Pv.look (number 0 (Qcs p1 p2 o0 i0 v0_1 v0_2))) [(2, ServicePort.rows v0_2)] := (VOK.cons (show Seen _ _ from Q2f (ob := ⟨3, 0, true, (ServicePort.rows v0_2).flatten⟩) (ServicePort.Q7 v0_2 3 rfl)) VOK.nil)
def Qc0 (p1 : Val) (p2 : BA) (o0 : Decoder) (e : En) (q : Int × (List ServicePort)) : Prop := ∃ z zo, Q6 G e (.st (.exit 0) (Qhd p1 p2 o0 q.1 q.2 z zo))
theorem Qlk (p1 : Val) (p2 : BA) (o0 : Decoder) {e e' : En} (h : ∀ r, Q6 G e r → Q6 G e' r) : ∀ q, Qc0 p1 p2 o0 e q → Qc0 p1 p2 o0 e' q
  | _, ⟨z, zo, hz⟩ => ⟨z, zo, h _ hz⟩
def Q8u (p1 : Val) (p2 : BA) (o0 : Decoder) : Prop := (List.length (Qa (Q0 p1 p2 o0).1 4 (Q0 p1 p2 o0).2).1.list ≤ 137438953472) ∧ (∀ x0 ∈ (Qa (Q0 p1 p2 o0).1 4 (Q0 p1 p2 o0).2).1.list, Q16t x0) ∧ True
def Qiu (p1 : Val) (p2 : BA) (o0 : Decoder) (i0 : Nat) (_v0_1 : Int) (_v0_2 : List ServicePort) : List PV :=
  [.un, .un, .un, .fn 98 [] [.bx 1 0]] ++ nuns 14 ++ [.sl (Val.rows (Qa (Q0 p1 p2 o0).1 4 (Q0 p1 p2 o0).2).1.list), .int .i64 ((List.length (Qa (Q0 p1 p2 o0).1 4 (Q0 p1 p2 o0).2).1.list) : Int), .int .i64 (i0 : Int), .bool false]
def Qek (_p1 : Val) (_p2 : BA) (_o0 : Decoder) (_i0 : Nat) (_v0_1 : Int) (_v0_2 : List ServicePort) : List (Nat × List PV) :=
  []
theorem Qyo (p1 : Val) (p2 : BA) (o0 : Decoder) (_H : Q8u p1 p2 o0) (i0 : Nat) (v0_1 : Int) (v0_2 : List ServicePort) (_ho0_0 : List.length v0_2 ≤ i0) (hc0 : (decide ((i0 : Int) < ((List.length (Qa (Q0 p1 p2 o0).1 4 (Q0 p1 p2 o0).2).1.list) : Int))) = false) : Qc0 p1 p2 o0 (Qb9 p1 p2 o0 i0 v0_1 v0_2) (v0_1, v0_2) := by
 exact ⟨(envF (Qiu p1 p2 o0 i0 v0_1 v0_2)), (zoF (Qek p1 p2 o0 i0 v0_1 v0_2)), Qh (Qu4 p1 p2 o0 i0 v0_1 v0_2) (x := ((.exit 0), Qhd p1 p2 o0 v0_1 v0_2 (envF (Qiu p1 p2 o0 i0 v0_1 v0_2)) (zoF (Qek p1 p2 o0 i0 v0_1 v0_2)))) [hB 0 hc0] [] (by kernel_rfl)⟩
theorem Qxp (p1 : Val) (p2 : BA) (o0 : Decoder) (H : Q8u p1 p2 o0) (x0 : Val) (i0 : Nat) (v0_1 : Int) (v0_2 : List ServicePort) (hx0 : (Qa (Q0 p1 p2 o0).1 4 (Q0 p1 p2 o0).2).1.list[i0]? = some x0) (hi0 : i0 < List.length (Qa (Q0 p1 p2 o0).1 4 (Q0 p1 p2 o0).2).1.list) (ho0_0 : List.length v0_2 ≤ i0) (hc0 : (decide ((i0 : Int) < ((List.length (Qa (Q0 p1 p2 o0).1 4 (Q0 p1 p2 o0).2).1.list) : Int))) = true) {r : Rs} (hr : Q6 G (Qb9 p1 p2 o0 (i0 + 1) (Q4a x0 (Decoder.mk v0_1)).2.wrong (v0_2 ++ [(Q4a x0 (Decoder.mk v0_1)).1])) r) : Q6 G (Qb9 p1 p2 o0 i0 v0_1 v0_2) r := by
 have hB0 := H.1
 exact Qb (Qu4 p1 p2 o0 i0 v0_1 v0_2) (y := (Qnb p1 p2 o0 (i0 + 1) (Q4a x0 (Decoder.mk v0_1)).2.wrong (v0_2 ++ [(Q4a x0 (Decoder.mk v0_1)).1]), Qcs p1 p2 o0 (i0 + 1) (Q4a x0 (Decoder.mk v0_1)).2.wrong (v0_2 ++ [(Q4a x0 (Decoder.mk v0_1)).1]))) [hB 0 hc0, hP 0 (Q1f 5 (Val.rows (Qa (Q0 p1 p2 o0).1 4 (Q0 p1 p2 o0).2).1.list) i0 _ (Val.Q9 hx0) rfl), hV 8 [(643, ServicePort.rows (v0_2 ++ [(Q4a x0 (Decoder.mk v0_1)).1]))] (Q2w 2 579 643 3 32 0 0 true (ServicePort.rows v0_2) (ServicePort.rows (v0_2 ++ [(Q4a x0 (Decoder.mk v0_1)).1])) (ServicePort.cells (Q4a x0 (Decoder.mk v0_1)).1) (List.length v0_2) (List.length (v0_2 ++ [(Q4a x0 (Decoder.mk v0_1)).1])) rfl (ServicePort.Q5 v0_2).symm (ServicePort.Q5 (v0_2 ++ [(Q4a x0 (Decoder.mk v0_1)).1])).symm (ServicePort.Qv v0_2 (Q4a x0 (Decoder.mk v0_1)).1) (ServicePort.Qd v0_2) rfl (by omega)), hS 0 true (ServicePort.Q7 (v0_2 ++ [(Q4a x0 (Decoder.mk v0_1)).1]) 3 rfl), hP 1 (Q1b i0 (by omega))] [aN (Q1hj x0 (Decoder.mk v0_1) (H.2.1 x0 (Q1q hx0)))] (by kernel_rfl) hr
theorem Qqz (p1 : Val) (p2 : BA) (o0 : Decoder) (H : Q8u p1 p2 o0) : ∀ (r0 : List Val) (i0 : Nat) (v0_1 : Int) (v0_2 : List ServicePort), List.drop i0 (Qa (Q0 p1 p2 o0).1 4 (Q0 p1 p2 o0).2).1.list = r0 → List.length v0_2 ≤ i0 → Qc0 p1 p2 o0 (Qb9 p1 p2 o0 i0 v0_1 v0_2) (Q37 p1 p2 o0 r0 i0 v0_1 v0_2)
 | [], i0, v0_1, v0_2, hd, ho0_0 => by
  have hc0 : (decide ((i0 : Int) < ((List.length (Qa (Q0 p1 p2 o0).1 4 (Q0 p1 p2 o0).2).1.list) : Int))) = false := by have := Q10 hd; simp; omega
  rw [Q37]
  exact Qyo p1 p2 o0 H i0 v0_1 v0_2 ho0_0 hc0
 | x0 :: r0, i0, v0_1, v0_2, hd, ho0_0 => by
  obtain ⟨hx0, hi0, hd'⟩ := Qz hd
  have hc0 : (decide ((i0 : Int) < ((List.length (Qa (Q0 p1 p2 o0).1 4 (Q0 p1 p2 o0).2).1.list) : Int))) = true := by simp; omega
  rw [Q37]
  exact Qlk p1 p2 o0 (fun r hr => Qxp p1 p2 o0 H x0 i0 v0_1 v0_2 hx0 hi0 ho0_0 hc0 hr) _ (Qqz p1 p2 o0 H r0 (i0 + 1) (Q4a x0 (Decoder.mk v0_1)).2.wrong (v0_2 ++ [(Q4a x0 (Decoder.mk v0_1)).1]) hd' (by first | omega | (simp; omega)))
def Qaz (p1 : Val) (p2 : BA) (o0 : Decoder) : List ServicePort × Decoder := ((dE ServicePort.dec p1 p2).1, bp o0 (pE (ServicePort.cnt) p1 p2))
theorem Qwf (p1 : Val) (p2 : BA) (o0 : Decoder) : ∀ (l : List Val) (i : Nat) (b : Int) (a : List ServicePort), Q37 p1 p2 o0 l i b a = (bw b (sumC (ServicePort.cnt) l), a ++ l.map (fun x => (ServicePort.dec x).1))
  | [], _, b, a => by rw [Q37]; simp [sumC, bw]
  | x :: l, i, b, a => by
    rw [Q37]
    refine (Qwf p1 p2 o0 l (i + 1) (bw b ((ServicePort.cnt) x)) (a ++ [(ServicePort.dec x).1])).trans ?_
    rw [Q85]
    simp only [List.append_assoc, List.singleton_append, List.map_cons, sumC]
theorem Q1fu (p1 : Val) (p2 : BA) (o0 : Decoder) : Qaz p1 p2 o0 = (((Q37 p1 p2 o0 (Qa (Q0 p1 p2 o0).1 4 (Q0 p1 p2 o0).2).1.list 0 (Qa (Q0 p1 p2 o0).1 4 (Q0 p1 p2 o0).2).2.wrong []).2, (Decoder.mk (Q37 p1 p2 o0 (Qa (Q0 p1 p2 o0).1 4 (Q0 p1 p2 o0).2).1.list 0 (Qa (Q0 p1 p2 o0).1 4 (Q0 p1 p2 o0).2).2.wrong []).1))) := by
  rw [Qwf]
  unfold Q0 Qa Qaz
  simp only [Q61, getL, Q6p, Q85]
  rfl
def Q1ei (p1 : Val) (p2 : BA) (o0 : Decoder) : En := .call 97 [.bx 0 0, .agg (Val.cells p1), .str p2, .fn 98 [] [.bx 1 0]] [⟨1, 0, false, (Decoder.cells o0)⟩, ⟨1, 0, false, [.bx 0 0]⟩]
def Q1gu (_p1 : Val) (_p2 : BA) (_o0 : Decoder) (q0 : List ServicePort) (q1 : Decoder) : Rs := .ret (.sl (ServicePort.rows q0)) [⟨1, 0, false, (Decoder.cells q1)⟩, ⟨1, 0, false, [.bx 0 0]⟩]
def Q19y (p1 : Val) (p2 : BA) (o0 : Decoder) : Rs := Q1gu p1 p2 o0 (Qaz p1 p2 o0).1 (Qaz p1 p2 o0).2
def Q170 (p1 : Val) : Prop := Val.Sm 1000000000 p1
theorem Quy (p1 : Val) (p2 : BA) (o0 : Decoder) (H : Q170 p1) : (Qau p1) ∧ (Q8u p1 p2 o0) ∧ True := by
  have hl := Qst (Q3w H p2)
  refine ⟨H, ?_, trivial⟩
  unfold Q8u Q0 Qa
  simp only [getL]
  exact ⟨Nat.le_trans hl.1 (Nat.le_of_ble_eq_true rfl), hl.2, trivial⟩
theorem Q1hr (p1 : Val) (p2 : BA) (o0 : Decoder) (H : Q170 p1) : Q6 G (Q1ei p1 p2 o0) (Q19y p1 p2 o0) := by
 unfold Q19y
 rw [Q1fu]
 have hl0 := Qqz p1 p2 o0 ((Quy p1 p2 o0 H).2.1) (Qa (Q0 p1 p2 o0).1 4 (Q0 p1 p2 o0).2).1.list 0 (Qa (Q0 p1 p2 o0).1 4 (Q0 p1 p2 o0).2).2.wrong [] (by simp) (by simp)
 obtain ⟨z0, zo0, hl0⟩ := hl0
 exact Q8 (fn := Ir.K25) rfl (h := [⟨1, 0, false, (Decoder.cells o0)⟩, ⟨1, 0, false, [.bx 0 0]⟩]) (vw := []) VOK.nil [hP 10 (Qn (Val.rows (Qa (Q0 p1 p2 o0).1 4 (Q0 p1 p2 o0).2).1.list) (List.length (Qa (Q0 p1 p2 o0).1 4 (Q0 p1 p2 o0).2).1.list) (Val.Q5 (Qa (Q0 p1 p2 o0).1 4 (Q0 p1 p2 o0).2).1.list)), hS 0 true (ServicePort.Q7 (Q37 p1 p2 o0 (Qa (Q0 p1 p2 o0).1 4 (Q0 p1 p2 o0).2).1.list 0 (Qa (Q0 p1 p2 o0).1 4 (Q0 p1 p2 o0).2).2.wrong []).2 3 rfl), hQ (ServicePort.Q5 (Q37 p1 p2 o0 (Qa (Q0 p1 p2 o0).1 4 (Q0 p1 p2 o0).2).1.list 0 (Qa (Q0 p1 p2 o0).1 4 (Q0 p1 p2 o0).2).2.wrong []).2).symm] [aN (Qga p1 p2 o0 (Quy p1 p2 o0 H).1), aN (Q6w (Q0 p1 p2 o0).1 4 (Q0 p1 p2 o0).2), aV [(2, ServicePort.rows (Q37 p1 p2 o0 (Qa (Q0 p1 p2 o0).1 4 (Q0 p1 p2 o0).2).1.list 0 (Qa (Q0 p1 p2 o0).1 4 (Q0 p1 p2 o0).2).2.wrong []).2)] hl0] (by kernel_rfl)
def Q3t (p1 : Val) (o0 : Decoder) : List ServicePort × Decoder := ((dE ServicePort.dec p1 Qk).1, bp o0 (pE ServicePort.cnt p1 Qk))
theorem Q1fi (p1 : Val) (o0 : Decoder) : Q3t p1 o0 = (((Qaz p1 Qk o0).1, (Qaz p1 Qk o0).2)) := by
  rfl
def Q1e6 (p1 : Val) (o0 : Decoder) : En := .call 48 [.bx 0 0, .agg (Val.cells p1)] [⟨1, 0, false, (Decoder.cells o0)⟩]
def Q1gi (_p1 : Val) (_o0 : Decoder) (q0 : List ServicePort) (q1 : Decoder) : Rs := .ret (.sl (ServicePort.rows q0)) [⟨1, 0, false, (Decoder.cells q1)⟩]
def Q19m (p1 : Val) (o0 : Decoder) : Rs := Q1gi p1 o0 (Q3t p1 o0).1 (Q3t p1 o0).2
def Q148 (p1 : Val) : Prop := Val.Sm 1000000000 p1
theorem Q14t (p1 : Val) (_o0 : Decoder) (H : Q148 p1) : (Q170 p1) ∧ True := by
  repeat' with_reducible apply And.intro
  all_goals first | exact True.intro | exact H
theorem Q1bb (p1 : Val) (o0 : Decoder) (H : Q148 p1) : Q6 G (Q1e6 p1 o0) (Q19m p1 o0) := by
 unfold Q19m
 rw [Q1fi]
 exact Q8 (fn := Ir.K1s) rfl (h := [⟨1, 0, false, (Decoder.cells o0)⟩]) (vw := []) VOK.nil [] [aN (Q1hr p1 Qk o0 (Q14t p1 o0 H).1)] (by kernel_rfl)
def Qb0 (p1 : Service) (o0 : Decoder) : Service × Int :=
 bif (decide (0 < o0.wrong)) then
  ((Service.mk (Meta.mk eB eB eB 0 0 0 0 false 0 [] [] [] []) [] [] false 0), 6)
 else
  (p1, 0)
def Q1es (p1 : Service) (o0 : Decoder) : En := .call 45 [.bx 0 0, .agg (Service.cells p1)] [⟨1, 0, false, (Decoder.cells o0)⟩]
def Q1gx (_p1 : Service) (o0 : Decoder) (q0 : Service) (q1 : Int) : Rs := .ret (.tup [.agg (Service.cells q0), .int .i64 q1]) [⟨1, 0, false, (Decoder.cells o0)⟩]
def Q1a8 (p1 : Service) (o0 : Decoder) : Rs := Q1gx p1 o0 (Qb0 p1 o0).1 (Qb0 p1 o0).2
theorem Q1hw (p1 : Service) (o0 : Decoder) : Q6 G (Q1es p1 o0) (Q1a8 p1 o0) := by
 unfold Q1a8 Qb0
 cases h0 : (decide (0 < o0.wrong)) with
 | true =>
  exact Q8 (fn := Ir.K2n) rfl (h := [⟨1, 0, false, (Decoder.cells o0)⟩]) (vw := []) VOK.nil [hB 7 h0] [] (by kernel_rfl)
 | false =>
  exact Q8 (fn := Ir.K2n) rfl (h := [⟨1, 0, false, (Decoder.cells o0)⟩]) (vw := []) VOK.nil [hB 7 h0] [] (by kernel_rfl)
def Q12m (p0 : Object) : Service × Int := resC (Service.cnt p0) (Service.of p0) Service.z
theorem Qsk (n : Nat) (x : Service) : Qb0 x (bp ⟨0⟩ n) = resC n x Service.z := rfl
theorem Q1fb (p0 : Object) : Q12m p0 = (((Qb0 (Service.mk p0.meta_ (Q26 p0.spec (Q1r p0 Qu)).1 (Q3t p0.spec (Q26 p0.spec (Q1r p0 Qu)).2).1 (Q1x p0.spec Q14 (Q3t p0.spec (Q26 p0.spec (Q1r p0 Qu)).2).2).1 (Q2z p0.status Qe (Q1x p0.spec Q14 (Q3t p0.spec (Q26 p0.spec (Q1r p0 Qu)).2).2).2).1) (Q2z p0.status Qe (Q1x p0.spec Q14 (Q3t p0.spec (Q26 p0.spec (Q1r p0 Qu)).2).2).2).2).1, (Qb0 (Service.mk p0.meta_ (Q26 p0.spec (Q1r p0 Qu)).1 (Q3t p0.spec (Q26 p0.spec (Q1r p0 Qu)).2).1 (Q1x p0.spec Q14 (Q3t p0.spec (Q26 p0.spec (Q1r p0 Qu)).2).2).1 (Q2z p0.status Qe (Q1x p0.spec Q14 (Q3t p0.spec (Q26 p0.spec (Q1r p0 Qu)).2).2).2).1) (Q2z p0.status Qe (Q1x p0.spec Q14 (Q3t p0.spec (Q26 p0.spec (Q1r p0 Qu)).2).2).2).2).2)) := by
  simp only [Q2z, Q1x, Q26, Q3t, Qb0, Q1r, Q61]
  refine Eq.trans ?_ (Qsk _ _).symm
  refine Qsi ?_ rfl
  unfold Service.cnt
  omega
def Q1dz (p0 : Object) : En := .call 13 [.agg (Object.cells p0)] []
def Q19f (p0 : Object) : Rs := .ret (.tup [.agg (Service.cells (Q12m p0).1), .int .i64 (Q12m p0).2]) []
def Q147 (p0 : Object) : Prop := Qat p0.meta_ ∧ Object.sm p0
theorem Q9a (p0 : Object) (H : Q147 p0) : (Qat p0.meta_) ∧ (Qyz p0.spec) ∧ (Q148 p0.spec) ∧ (Qws p0.spec) ∧ (Qwq p0.status) ∧ True := by
  repeat' with_reducible apply And.intro
  all_goals first | exact True.intro | exact H.1 | exact H.2 | exact H.2.1 | exact H.2.2 | exact Q3w H.2.1 _ | exact Q3w H.2.2 _
theorem Q1hg (p0 : Object) (H : Q147 p0) : Q6 G (Q1dz p0) (Q19f p0) := by
 unfold Q19f
 rw [Q1fb]
 exact Q8 (fn := Ir.K1l) rfl VOK.nil [] [aN (Q17y p0 Qu), aN (Q15n p0.meta_ (Q9a p0 H).1), aN (Q17w p0.spec (Q1r p0 Qu) (Q9a p0 H).2.1), aN (Q1bb p0.spec (Q26 p0.spec (Q1r p0 Qu)).2 (Q9a p0 H).2.2.1), aN (Qy6 p0.spec Q14 (Q3t p0.spec (Q26 p0.spec (Q1r p0 Qu)).2).2 (Q9a p0 H).2.2.2.1), aN (Q12q p0.status Qe (Q1x p0.spec Q14 (Q3t p0.spec (Q26 p0.spec (Q1r p0 Qu)).2).2).2 (Q9a p0 H).2.2.2.2.1), aN (Q1hw (Service.mk p0.meta_ (Q26 p0.spec (Q1r p0 Qu)).1 (Q3t p0.spec (Q26 p0.spec (Q1r p0 Qu)).2).1 (Q1x p0.spec Q14 (Q3t p0.spec (Q26 p0.spec (Q1r p0 Qu)).2).2).1 (Q2z p0.status Qe (Q1x p0.spec Q14 (Q3t p0.spec (Q26 p0.spec (Q1r p0 Qu)).2).2).2).1) (Q2z p0.status Qe (Q1x p0.spec Q14 (Q3t p0.spec (Q26 p0.spec (Q1r p0 Qu)).2).2).2).2)] (by kernel_rfl)
def Q4k (p0 : Val) (o1 : Decoder) : Endpoint × Decoder := ((Endpoint.dec p0).1, bp o1 (Endpoint.cnt p0))
theorem Q1f7 (p0 : Val) (o1 : Decoder) : Q4k p0 o1 = (((Endpoint.mk (Q27 p0 Q1p o1).1 (Q27 p0 Q1g (Q27 p0 Q1p o1).2).1 (Q2z p0 Qe (Q27 p0 Q1g (Q27 p0 Q1p o1).2).2).1 (Q1x p0 Q18 (Q2z p0 Qe (Q27 p0 Q1g (Q27 p0 Q1p o1).2).2).2).1 (Q1x p0 Qm (Q1x p0 Q18 (Q2z p0 Qe (Q27 p0 Q1g (Q27 p0 Q1p o1).2).2).2).2).1), (Q1x p0 Qm (Q1x p0 Q18 (Q2z p0 Qe (Q27 p0 Q1g (Q27 p0 Q1p o1).2).2).2).2).2)) := by
  simp only [Q2z, Q27, Q1x, Q4k, Q61]
  refine Prod.ext rfl (congrArg (bp o1) ?_)
  show Endpoint.cnt p0 = _
  try unfold Endpoint.cnt
  try unfold cM
  first | rfl | omega
def Q1dv (p0 : Val) (o1 : Decoder) : En := .call 52 [.agg (Val.cells p0), .bx 0 0] [⟨1, 0, false, [.bx 1 0]⟩, ⟨1, 0, false, (Decoder.cells o1)⟩]
def Q1ga (_p0 : Val) (_o1 : Decoder) (q0 : Endpoint) (q1 : Decoder) : Rs := .ret (.agg (Endpoint.cells q0)) [⟨1, 0, false, [.bx 1 0]⟩, ⟨1, 0, false, (Decoder.cells q1)⟩]
def Q19b (p0 : Val) (o1 : Decoder) : Rs := Q1ga p0 o1 (Q4k p0 o1).1 (Q4k p0 o1).2
def Q16p (p0 : Val) : Prop := Val.Sm 1000000000 p0
theorem Q98 (p0 : Val) (_o1 : Decoder) (H : Q16p p0) : (Qwr p0) ∧ (Qwq p0) ∧ (Qws p0) ∧ True := by
  repeat' with_reducible apply And.intro
  all_goals first | exact True.intro | exact H | exact Q3w H _
theorem Q1hc (p0 : Val) (o1 : Decoder) (H : Q16p p0) : Q6 G (Q1dv p0 o1) (Q19b p0 o1) := by
 unfold Q19b
 rw [Q1f7]
 exact Q8 (fn := Ir.K1g) rfl (h := [⟨1, 0, false, [.bx 1 0]⟩, ⟨1, 0, false, (Decoder.cells o1)⟩]) (vw := []) VOK.nil [] [aN (Q12r p0 Q1p o1 (Q98 p0 o1 H).1), aN (Q12r p0 Q1g (Q27 p0 Q1p o1).2 (Q98 p0 o1 H).1), aN (Q12q p0 Qe (Q27 p0 Q1g (Q27 p0 Q1p o1).2).2 (Q98 p0 o1 H).2.1), aN (Qy6 p0 Q18 (Q2z p0 Qe (Q27 p0 Q1g (Q27 p0 Q1p o1).2).2).2 (Q98 p0 o1 H).2.2.1), aN (Qy6 p0 Qm (Q1x p0 Q18 (Q2z p0 Qe (Q27 p0 Q1g (Q27 p0 Q1p o1).2).2).2).2 (Q98 p0 o1 H).2.2.1)] (by kernel_rfl)
def Q32 (p1 : Val) (p2 : BA) (o0 : Decoder) : List Val → Nat → Int → (List Endpoint) → Int × (List Endpoint)
 | [], _i0, v0_1, v0_2 =>
  (v0_1, v0_2)
 | x0 :: r0, i0, v0_1, v0_2 =>
  Q32 p1 p2 o0 r0 (i0 + 1) (Q4k x0 (Decoder.mk v0_1)).2.wrong (v0_2 ++ [(Q4k x0 (Decoder.mk v0_1)).1])
def Qn6 (p1 : Val) (p2 : BA) (o0 : Decoder) (i0 : Nat) (_v0_1 : Int) (v0_2 : List Endpoint) : List PV :=
  [.un, .un, .un, .fn 52 [] [.bx 1 0]] ++ nuns 5 ++ [.ms 2 5 0 (List.length v0_2)] ++ nuns 8 ++ [.sl (Val.rows (Qa (Q0 p1 p2 o0).1 4 (Q0 p1 p2 o0).2).1.list), .int .i64 ((List.length (Qa (Q0 p1 p2 o0).1 4 (Q0 p1 p2 o0).2).1.list) : Int), .int .i64 (i0 : Int)] ++ nuns 11
def Qcn (_p1 : Val) (_p2 : BA) (_o0 : Decoder) (_i0 : Nat) (v0_1 : Int) (v0_2 : List Endpoint) : List Ob :=
  [⟨1, 0, false, [.int .i64 v0_1]⟩, ⟨1, 0, false, [.bx 0 0]⟩, ⟨5, 0, true, (Endpoint.rows v0_2).flatten⟩]
def Qb4 (p1 : Val) (p2 : BA) (o0 : Decoder) (i0 : Nat) (v0_1 : Int) (v0_2 : List Endpoint) : En := .loop 2 Ir.Qdh Ir.Q15x (Qn6 p1 p2 o0 i0 v0_1 v0_2) (Qcn p1 p2 o0 i0 v0_1 v0_2)
def Qh8 (_p1 : Val) (_p2 : BA) (_o0 : Decoder) (q0 : Int) (q1 : List Endpoint) (z : Nat → PV) (_zo : Nat → List PV) : St :=
  ⟨zr z 0 9 ++ [.ms 2 5 0 (List.length q1)] ++ zr z 10 22, [(0, ⟨1, 0, false, [.int .i64 q0]⟩), (1, ⟨1, 0, false, [.bx 0 0]⟩), (2, ⟨5, 0, true, (Endpoint.rows q1).flatten⟩)], 67⟩
theorem Qtz (p1 : Val) (p2 : BA) (o0 : Decoder) (i0 : Nat) (v0_1 : Int) (v0_2 : List Endpoint) : VOK (Go.Pv.look (number 0 (Qcn p1 p2 o0 i0 v0_1 v0_2))) [(2, Endpoint.rows v0_2)] := (VOK.cons (show Seen _ _ from Q2f (ob := ⟨5, 0, true, (Endpoint.rows v0_2).flatten⟩) (Endpoint.Q7 v0_2 5 rfl)) VOK.nil)
def Qbv (p1 : Val) (p2 : BA) (o0 : Decoder) (e : En) (q : Int × (List Endpoint)) : Prop := ∃ z zo, Q6 G e (.st (.exit 0) (Qh8 p1 p2 o0 q.1 q.2 z zo))
theorem Qlf (p1 : Val) (p2 : BA) (o0 : Decoder) {e e' : En} (h : ∀ r, Q6 G e r → Q6 G e' r) : ∀ q, Qbv p1 p2 o0 e q → Qbv p1 p2 o0 e' q
  | _, ⟨z, zo, hz⟩ => ⟨z, zo, h _ hz⟩
def Q8p (p1 : Val) (p2 : BA) (o0 : Decoder) : Prop := (List.length (Qa (Q0 p1 p2 o0).1 4 (Q0 p1 p2 o0).2).1.list ≤ 137438953472) ∧ (∀ x0 ∈ (Qa (Q0 p1 p2 o0).1 4 (Q0 p1 p2 o0).2).1.list, Q16p x0) ∧ True
def Qip (p1 : Val) (p2 : BA) (o0 : Decoder) (i0 : Nat) (_v0_1 : Int) (_v0_2 : List Endpoint) : List PV :=
  [.un, .un, .un, .fn 52 [] [.bx 1 0]] ++ nuns 14 ++ [.sl (Val.rows (Qa (Q0 p1 p2 o0).1 4 (Q0 p1 p2 o0).2).1.list), .int .i64 ((List.length (Qa (Q0 p1 p2 o0).1 4 (Q0 p1 p2 o0).2).1.list) : Int), .int .i64 (i0 : Int), .bool false]
def Qef (_p1 : Val) (_p2 : BA) (_o0 : Decoder) (_i0 : Nat) (_v0_1 : Int) (_v0_2 : List Endpoint) : List (Nat × List PV) :=
  []
theorem Qyj (p1 : Val) (p2 : BA) (o0 : Decoder) (_H : Q8p p1 p2 o0) (i0 : Nat) (v0_1 : Int) (v0_2 : List Endpoint) (_ho0_0 : List.length v0_2 ≤ i0) (hc0 : (decide ((i0 : Int) < ((List.length (Qa (Q0 p1 p2 o0).1 4 (Q0 p1 p2 o0).2).1.list) : Int))) = false) : Qbv p1 p2 o0 (Qb4 p1 p2 o0 i0 v0_1 v0_2) (v0_1, v0_2) := by
 exact ⟨(envF (Qip p1 p2 o0 i0 v0_1 v0_2)), (zoF (Qef p1 p2 o0 i0 v0_1 v0_2)), Qh (Qtz p1 p2 o0 i0 v0_1 v0_2) (x := ((.exit 0), Qh8 p1 p2 o0 v0_1 v0_2 (envF (Qip p1 p2 o0 i0 v0_1 v0_2)) (zoF (Qef p1 p2 o0 i0 v0_1 v0_2)))) [hB 0 hc0] [] (by kernel_rfl)⟩
theorem Qxk (p1 : Val) (p2 : BA) (o0 : Decoder) (H : Q8p p1 p2 o0) (x0 : Val) (i0 : Nat) (v0_1 : Int) (v0_2 : List Endpoint) (hx0 : (Qa (Q0 p1 p2 o0).1 4 (Q0 p1 p2 o0).2).1.list[i0]? = some x0) (hi0 : i0 < List.length (Qa (Q0 p1 p2 o0).1 4 (Q0 p1 p2 o0).2).1.list) (ho0_0 : List.length v0_2 ≤ i0) (hc0 : (decide ((i0 : Int) < ((List.length (Qa (Q0 p1 p2 o0).1 4 (Q0 p1 p2 o0).2).1.list) : Int))) = true) {r : Rs} (hr : Q6 G (Qb4 p1 p2 o0 (i0 + 1) (Q4k x0 (Decoder.mk v0_1)).2.wrong (v0_2 ++ [(Q4k x0 (Decoder.mk v0_1)).1])) r) : Q6 G (Qb4 p1 p2 o0 i0 v0_1 v0_2) r := by
 have hB0 := H.1
 exact Qb (Qtz p1 p2 o0 i0 v0_1 v0_2) (y := (Qn6 p1 p2 o0 (i0 + 1) (Q4k x0 (Decoder.mk v0_1)).2.wrong (v0_2 ++ [(Q4k x0 (Decoder.mk v0_1)).1]), Qcn p1 p2 o0 (i0 + 1) (Q4k x0 (Decoder.mk v0_1)).2.wrong (v0_2 ++ [(Q4k x0 (Decoder.mk v0_1)).1]))) [hB 0 hc0, hP 0 (Q1f 5 (Val.rows (Qa (Q0 p1 p2 o0).1 4 (Q0 p1 p2 o0).2).1.list) i0 _ (Val.Q9 hx0) rfl), hV 8 [(643, Endpoint.rows (v0_2 ++ [(Q4k x0 (Decoder.mk v0_1)).1]))] (Q2w 2 579 643 5 48 0 0 true (Endpoint.rows v0_2) (Endpoint.rows (v0_2 ++ [(Q4k x0 (Decoder.mk v0_1)).1])) (Endpoint.cells (Q4k x0 (Decoder.mk v0_1)).1) (List.length v0_2) (List.length (v0_2 ++ [(Q4k x0 (Decoder.mk v0_1)).1])) rfl (Endpoint.Q5 v0_2).symm (Endpoint.Q5 (v0_2 ++ [(Q4k x0 (Decoder.mk v0_1)).1])).symm (Endpoint.Qv v0_2 (Q4k x0 (Decoder.mk v0_1)).1) (Endpoint.Qd v0_2) rfl (by omega)), hS 0 true (Endpoint.Q7 (v0_2 ++ [(Q4k x0 (Decoder.mk v0_1)).1]) 5 rfl), hP 1 (Q1b i0 (by omega))] [aN (Q1hc x0 (Decoder.mk v0_1) (H.2.1 x0 (Q1q hx0)))] (by kernel_rfl) hr
theorem Qqu (p1 : Val) (p2 : BA) (o0 : Decoder) (H : Q8p p1 p2 o0) : ∀ (r0 : List Val) (i0 : Nat) (v0_1 : Int) (v0_2 : List Endpoint), List.drop i0 (Qa (Q0 p1 p2 o0).1 4 (Q0 p1 p2 o0).2).1.list = r0 → List.length v0_2 ≤ i0 → Qbv p1 p2 o0 (Qb4 p1 p2 o0 i0 v0_1 v0_2) (Q32 p1 p2 o0 r0 i0 v0_1 v0_2)
 | [], i0, v0_1, v0_2, hd, ho0_0 => by
  have hc0 : (decide ((i0 : Int) < ((List.length (Qa (Q0 p1 p2 o0).1 4 (Q0 p1 p2 o0).2).1.list) : Int))) = false := by have := Q10 hd; simp; omega
  rw [Q32]
  exact Qyj p1 p2 o0 H i0 v0_1 v0_2 ho0_0 hc0
 | x0 :: r0, i0, v0_1, v0_2, hd, ho0_0 => by
  obtain ⟨hx0, hi0, hd'⟩ := Qz hd
  have hc0 : (decide ((i0 : Int) < ((List.length (Qa (Q0 p1 p2 o0).1 4 (Q0 p1 p2 o0).2).1.list) : Int))) = true := by simp; omega
  rw [Q32]
  exact Qlf p1 p2 o0 (fun r hr => Qxk p1 p2 o0 H x0 i0 v0_1 v0_2 hx0 hi0 ho0_0 hc0 hr) _ (Qqu p1 p2 o0 H r0 (i0 + 1) (Q4k x0 (Decoder.mk v0_1)).2.wrong (v0_2 ++ [(Q4k x0 (Decoder.mk v0_1)).1]) hd' (by first | omega | (simp; omega)))
def Q6u (p1 : Val) (p2 : BA) (o0 : Decoder) : List Endpoint × Decoder := ((dE Endpoint.dec p1 p2).1, bp o0 (pE (Endpoint.cnt) p1 p2))
theorem Qwa (p1 : Val) (p2 : BA) (o0 : Decoder) : ∀ (l : List Val) (i : Nat) (b : Int) (a : List Endpoint), Q32 p1 p2 o0 l i b a = (bw b (sumC (Endpoint.cnt) l), a ++ l.map (fun x => (Endpoint.dec x).1))
  | [], _, b, a => by rw [Q32]; simp [sumC, bw]
  | x :: l, i, b, a => by
    rw [Q32]
    refine (Qwa p1 p2 o0 l (i + 1) (bw b ((Endpoint.cnt) x)) (a ++ [(Endpoint.dec x).1])).trans ?_
    rw [Q85]
    simp only [List.append_assoc, List.singleton_append, List.map_cons, sumC]
theorem Q1fp (p1 : Val) (p2 : BA) (o0 : Decoder) : Q6u p1 p2 o0 = (((Q32 p1 p2 o0 (Qa (Q0 p1 p2 o0).1 4 (Q0 p1 p2 o0).2).1.list 0 (Qa (Q0 p1 p2 o0).1 4 (Q0 p1 p2 o0).2).2.wrong []).2, (Decoder.mk (Q32 p1 p2 o0 (Qa (Q0 p1 p2 o0).1 4 (Q0 p1 p2 o0).2).1.list 0 (Qa (Q0 p1 p2 o0).1 4 (Q0 p1 p2 o0).2).2.wrong []).1))) := by
  rw [Qwa]
  unfold Q0 Qa Q6u
  simp only [Q61, getL, Q6p, Q85]
  rfl
def Q1ed (p1 : Val) (p2 : BA) (o0 : Decoder) : En := .call 51 [.bx 0 0, .agg (Val.cells p1), .str p2, .fn 52 [] [.bx 1 0]] [⟨1, 0, false, (Decoder.cells o0)⟩, ⟨1, 0, false, [.bx 0 0]⟩]
def Q1gp (_p1 : Val) (_p2 : BA) (_o0 : Decoder) (q0 : List Endpoint) (q1 : Decoder) : Rs := .ret (.sl (Endpoint.rows q0)) [⟨1, 0, false, (Decoder.cells q1)⟩, ⟨1, 0, false, [.bx 0 0]⟩]
def Q19t (p1 : Val) (p2 : BA) (o0 : Decoder) : Rs := Q1gp p1 p2 o0 (Q6u p1 p2 o0).1 (Q6u p1 p2 o0).2
def Q16v (p1 : Val) : Prop := Val.Sm 1000000000 p1
theorem Qut (p1 : Val) (p2 : BA) (o0 : Decoder) (H : Q16v p1) : (Qau p1) ∧ (Q8p p1 p2 o0) ∧ True := by
  have hl := Qst (Q3w H p2)
  refine ⟨H, ?_, trivial⟩
  unfold Q8p Q0 Qa
  simp only [getL]
  exact ⟨Nat.le_trans hl.1 (Nat.le_of_ble_eq_true rfl), hl.2, trivial⟩
theorem Q1hm (p1 : Val) (p2 : BA) (o0 : Decoder) (H : Q16v p1) : Q6 G (Q1ed p1 p2 o0) (Q19t p1 p2 o0) := by
 unfold Q19t
 rw [Q1fp]
 have hl0 := Qqu p1 p2 o0 ((Qut p1 p2 o0 H).2.1) (Qa (Q0 p1 p2 o0).1 4 (Q0 p1 p2 o0).2).1.list 0 (Qa (Q0 p1 p2 o0).1 4 (Q0 p1 p2 o0).2).2.wrong [] (by simp) (by simp)
 obtain ⟨z0, zo0, hl0⟩ := hl0
 exact Q8 (fn := Ir.K20) rfl (h := [⟨1, 0, false, (Decoder.cells o0)⟩, ⟨1, 0, false, [.bx 0 0]⟩]) (vw := []) VOK.nil [hP 10 (Qn (Val.rows (Qa (Q0 p1 p2 o0).1 4 (Q0 p1 p2 o0).2).1.list) (List.length (Qa (Q0 p1 p2 o0).1 4 (Q0 p1 p2 o0).2).1.list) (Val.Q5 (Qa (Q0 p1 p2 o0).1 4 (Q0 p1 p2 o0).2).1.list)), hS 0 true (Endpoint.Q7 (Q32 p1 p2 o0 (Qa (Q0 p1 p2 o0).1 4 (Q0 p1 p2 o0).2).1.list 0 (Qa (Q0 p1 p2 o0).1 4 (Q0 p1 p2 o0).2).2.wrong []).2 5 rfl), hQ (Endpoint.Q5 (Q32 p1 p2 o0 (Qa (Q0 p1 p2 o0).1 4 (Q0 p1 p2 o0).2).1.list 0 (Qa (Q0 p1 p2 o0).1 4 (Q0 p1 p2 o0).2).2.wrong []).2).symm] [aN (Qga p1 p2 o0 (Qut p1 p2 o0 H).1), aN (Q6w (Q0 p1 p2 o0).1 4 (Q0 p1 p2 o0).2), aV [(2, Endpoint.rows (Q32 p1 p2 o0 (Qa (Q0 p1 p2 o0).1 4 (Q0 p1 p2 o0).2).1.list 0 (Qa (Q0 p1 p2 o0).1 4 (Q0 p1 p2 o0).2).2.wrong []).2)] hl0] (by kernel_rfl)
def Qg9 (p1 : EndpointSet) (o0 : Decoder) : EndpointSet × Int :=
 bif (decide (0 < o0.wrong)) then
  ((EndpointSet.mk (Meta.mk eB eB eB 0 0 0 0 false 0 [] [] [] []) [] []), 6)
 else
  (p1, 0)
def Q1et (p1 : EndpointSet) (o0 : Decoder) : En := .call 54 [.bx 0 0, .agg (EndpointSet.cells p1)] [⟨1, 0, false, (Decoder.cells o0)⟩]
def Q1gy (_p1 : EndpointSet) (o0 : Decoder) (q0 : EndpointSet) (q1 : Int) : Rs := .ret (.tup [.agg (EndpointSet.cells q0), .int .i64 q1]) [⟨1, 0, false, (Decoder.cells o0)⟩]
def Q1a9 (p1 : EndpointSet) (o0 : Decoder) : Rs := Q1gy p1 o0 (Qg9 p1 o0).1 (Qg9 p1 o0).2
theorem Q1hx (p1 : EndpointSet) (o0 : Decoder) : Q6 G (Q1et p1 o0) (Q1a9 p1 o0) := by
 unfold Q1a9 Qg9
 cases h0 : (decide (0 < o0.wrong)) with
 | true =>
  exact Q8 (fn := Ir.K2o) rfl (h := [⟨1, 0, false, (Decoder.cells o0)⟩]) (vw := []) VOK.nil [hB 7 h0] [] (by kernel_rfl)
 | false =>
  exact Q8 (fn := Ir.K2o) rfl (h := [⟨1, 0, false, (Decoder.cells o0)⟩]) (vw := []) VOK.nil [hB 7 h0] [] (by kernel_rfl)
def Q12k (p0 : Object) : EndpointSet × Int := resC (EndpointSet.cnt p0) (EndpointSet.of p0) EndpointSet.z
theorem Qfp (n : Nat) (x : EndpointSet) : Qg9 x (bp ⟨0⟩ n) = resC n x EndpointSet.z := rfl
theorem Q1f6 (p0 : Object) : Q12k p0 = (((Qg9 (EndpointSet.mk p0.meta_ (Q3t p0.spec (Q6u p0.spec Q1d (Q1r p0 Qp)).2).1 (Q6u p0.spec Q1d (Q1r p0 Qp)).1) (Q3t p0.spec (Q6u p0.spec Q1d (Q1r p0 Qp)).2).2).1, (Qg9 (EndpointSet.mk p0.meta_ (Q3t p0.spec (Q6u p0.spec Q1d (Q1r p0 Qp)).2).1 (Q6u p0.spec Q1d (Q1r p0 Qp)).1) (Q3t p0.spec (Q6u p0.spec Q1d (Q1r p0 Qp)).2).2).2)) := by
  simp only [Q3t, Q6u, Qg9, Q1r, Q61]
  refine Eq.trans ?_ (Qfp _ _).symm
  refine Qsi ?_ rfl
  unfold EndpointSet.cnt
  omega
def Q1du (p0 : Object) : En := .call 14 [.agg (Object.cells p0)] []
def Q19a (p0 : Object) : Rs := .ret (.tup [.agg (EndpointSet.cells (Q12k p0).1), .int .i64 (Q12k p0).2]) []
def Q145 (p0 : Object) : Prop := Qat p0.meta_ ∧ Object.sm p0
theorem Qmh (p0 : Object) (H : Q145 p0) : (Q16v p0.spec) ∧ (Qat p0.meta_) ∧ (Q148 p0.spec) ∧ True := by
  repeat' with_reducible apply And.intro
  all_goals first | exact True.intro | exact H.1 | exact H.2 | exact H.2.1 | exact H.2.2 | exact Q3w H.2.1 _ | exact Q3w H.2.2 _
theorem Q1hb (p0 : Object) (H : Q145 p0) : Q6 G (Q1du p0) (Q19a p0) := by
 unfold Q19a
 rw [Q1f6]
 exact Q8 (fn := Ir.K1f) rfl VOK.nil [] [aN (Q17y p0 Qp), aN (Q1hm p0.spec Q1d (Q1r p0 Qp) (Qmh p0 H).1), aN (Q15n p0.meta_ (Qmh p0 H).2.1), aN (Q1bb p0.spec (Q6u p0.spec Q1d (Q1r p0 Qp)).2 (Qmh p0 H).2.2.1), aN (Q1hx (EndpointSet.mk p0.meta_ (Q3t p0.spec (Q6u p0.spec Q1d (Q1r p0 Qp)).2).1 (Q6u p0.spec Q1d (Q1r p0 Qp)).1) (Q3t p0.spec (Q6u p0.spec Q1d (Q1r p0 Qp)).2).2)] (by kernel_rfl)
def Q55 (p0 : Val) (o1 : Decoder) : Peer × Decoder := ((Peer.dec p0).1, bp o1 (Peer.cnt p0))
theorem Q1fa (p0 : Val) (o1 : Decoder) : Q55 p0 o1 = (((Peer.mk (Q27 p0 Qq o1).1 (Q26 p0 (Q27 p0 Qq o1).2).1), (Q26 p0 (Q27 p0 Qq o1).2).2)) := by
  simp only [Q27, Q26, Q55, Q61]
  refine Prod.ext rfl (congrArg (bp o1) ?_)
  show Peer.cnt p0 = _
  try unfold Peer.cnt
  try unfold cM
  first | rfl | omega
def Q1dy (p0 : Val) (o1 : Decoder) : En := .call 58 [.agg (Val.cells p0), .bx 0 0] [⟨1, 0, false, [.bx 1 0]⟩, ⟨1, 0, false, (Decoder.cells o1)⟩]
def Q1gc (_p0 : Val) (_o1 : Decoder) (q0 : Peer) (q1 : Decoder) : Rs := .ret (.agg (Peer.cells q0)) [⟨1, 0, false, [.bx 1 0]⟩, ⟨1, 0, false, (Decoder.cells q1)⟩]
def Q19e (p0 : Val) (o1 : Decoder) : Rs := Q1gc p0 o1 (Q55 p0 o1).1 (Q55 p0 o1).2
def Q16r (p0 : Val) : Prop := Val.Sm 1000000000 p0
theorem Qus (p0 : Val) (_o1 : Decoder) (H : Q16r p0) : (Qwr p0) ∧ (Qyz p0) ∧ True := by
  repeat' with_reducible apply And.intro
  all_goals first | exact True.intro | exact H | exact Q3w H _
theorem Q1hf (p0 : Val) (o1 : Decoder) (H : Q16r p0) : Q6 G (Q1dy p0 o1) (Q19e p0 o1) := by
 unfold Q19e
 rw [Q1fa]
 exact Q8 (fn := Ir.K1j) rfl (h := [⟨1, 0, false, [.bx 1 0]⟩, ⟨1, 0, false, (Decoder.cells o1)⟩]) (vw := []) VOK.nil [] [aN (Q12r p0 Qq o1 (Qus p0 o1 H).1), aN (Q17w p0 (Q27 p0 Qq o1).2 (Qus p0 o1 H).2.1)] (by kernel_rfl)
def Q34 (p1 : Val) (p2 : BA) (o0 : Decoder) : List Val → Nat → Int → (List Peer) → Int × (List Peer)
 | [], _i0, v0_1, v0_2 =>
  (v0_1, v0_2)
 | x0 :: r0, i0, v0_1, v0_2 =>
  Q34 p1 p2 o0 r0 (i0 + 1) (Q55 x0 (Decoder.mk v0_1)).2.wrong (v0_2 ++ [(Q55 x0 (Decoder.mk v0_1)).1])
def Qn8 (p1 : Val) (p2 : BA) (o0 : Decoder) (i0 : Nat) (_v0_1 : Int) (v0_2 : List Peer) : List PV :=
  [.un, .un, .un, .fn 58 [] [.bx 1 0]] ++ nuns 5 ++ [.ms 2 2 0 (List.length v0_2)] ++ nuns 8 ++ [.sl (Val.rows (Qa (Q0 p1 p2 o0).1 4 (Q0 p1 p2 o0).2).1.list), .int .i64 ((List.length (Qa (Q0 p1 p2 o0).1 4 (Q0 p1 p2 o0).2).1.list) : Int), .int .i64 (i0 : Int)] ++ nuns 11
def Qcp (_p1 : Val) (_p2 : BA) (_o0 : Decoder) (_i0 : Nat) (v0_1 : Int) (v0_2 : List Peer) : List Ob :=
  [⟨1, 0, false, [.int .i64 v0_1]⟩, ⟨1, 0, false, [.bx 0 0]⟩, ⟨2, 0, true, (Peer.rows v0_2).flatten⟩]
def Qb6 (p1 : Val) (p2 : BA) (o0 : Decoder) (i0 : Nat) (v0_1 : Int) (v0_2 : List Peer) : En := .loop 2 Ir.Qdj Ir.Q15z (Qn8 p1 p2 o0 i0 v0_1 v0_2) (Qcp p1 p2 o0 i0 v0_1 v0_2)
def Qha (_p1 : Val) (_p2 : BA) (_o0 : Decoder) (q0 : Int) (q1 : List Peer) (z : Nat → PV) (_zo : Nat → List PV) : St :=
  ⟨zr z 0 9 ++ [.ms 2 2 0 (List.length q1)] ++ zr z 10 22, [(0, ⟨1, 0, false, [.int .i64 q0]⟩), (1, ⟨1, 0, false, [.bx 0 0]⟩), (2, ⟨2, 0, true, (Peer.rows q1).flatten⟩)], 67⟩
theorem Qu1 (p1 : Val) (p2 : BA) (o0 : Decoder) (i0 : Nat) (v0_1 : Int) (v0_2 : List Peer) : VOK (Go.Pv.look (number 0 (Qcp p1 p2 o0 i0 v0_1 v0_2))) [(2, Peer.rows v0_2)] := (VOK.cons (show Seen _ _ from Q2f (ob := ⟨2, 0, true, (Peer.rows v0_2).flatten⟩) (Peer.Q7 v0_2 2 rfl)) VOK.nil)
def Qbx (p1 : Val) (p2 : BA) (o0 : Decoder) (e : En) (q : Int × (List Peer)) : Prop := ∃ z zo, Q6 G e (.st (.exit 0) (Qha p1 p2 o0 q.1 q.2 z zo))
theorem Qlh (p1 : Val) (p2 : BA) (o0 : Decoder) {e e' : En} (h : ∀ r, Q6 G e r → Q6 G e' r) : ∀ q, Qbx p1 p2 o0 e q → Qbx p1 p2 o0 e' q
  | _, ⟨z, zo, hz⟩ => ⟨z, zo, h _ hz⟩
def Q8r (p1 : Val) (p2 : BA) (o0 : Decoder) : Prop := (List.length (Qa (Q0 p1 p2 o0).1 4 (Q0 p1 p2 o0).2).1.list ≤ 137438953472) ∧ (∀ x0 ∈ (Qa (Q0 p1 p2 o0).1 4 (Q0 p1 p2 o0).2).1.list, Q16r x0) ∧ True
def Qir (p1 : Val) (p2 : BA) (o0 : Decoder) (i0 : Nat) (_v0_1 : Int) (_v0_2 : List Peer) : List PV :=
  [.un, .un, .un, .fn 58 [] [.bx 1 0]] ++ nuns 14 ++ [.sl (Val.rows (Qa (Q0 p1 p2 o0).1 4 (Q0 p1 p2 o0).2).1.list), .int .i64 ((List.length (Qa (Q0 p1 p2 o0).1 4 (Q0 p1 p2 o0).2).1.list) : Int), .int .i64 (i0 : Int), .bool false]
def Qeh (_p1 : Val) (_p2 : BA) (_o0 : Decoder) (_i0 : Nat) (_v0_1 : Int) (_v0_2 : List Peer) : List (Nat × List PV) :=
  []
theorem Qyl (p1 : Val) (p2 : BA) (o0 : Decoder) (_H : Q8r p1 p2 o0) (i0 : Nat) (v0_1 : Int) (v0_2 : List Peer) (_ho0_0 : List.length v0_2 ≤ i0) (hc0 : (decide ((i0 : Int) < ((List.length (Qa (Q0 p1 p2 o0).1 4 (Q0 p1 p2 o0).2).1.list) : Int))) = false) : Qbx p1 p2 o0 (Qb6 p1 p2 o0 i0 v0_1 v0_2) (v0_1, v0_2) := by
 exact ⟨(envF (Qir p1 p2 o0 i0 v0_1 v0_2)), (zoF (Qeh p1 p2 o0 i0 v0_1 v0_2)), Qh (Qu1 p1 p2 o0 i0 v0_1 v0_2) (x := ((.exit 0), Qha p1 p2 o0 v0_1 v0_2 (envF (Qir p1 p2 o0 i0 v0_1 v0_2)) (zoF (Qeh p1 p2 o0 i0 v0_1 v0_2)))) [hB 0 hc0] [] (by kernel_rfl)⟩
theorem Qxm (p1 : Val) (p2 : BA) (o0 : Decoder) (H : Q8r p1 p2 o0) (x0 : Val) (i0 : Nat) (v0_1 : Int) (v0_2 : List Peer) (hx0 : (Qa (Q0 p1 p2 o0).1 4 (Q0 p1 p2 o0).2).1.list[i0]? = some x0) (hi0 : i0 < List.length (Qa (Q0 p1 p2 o0).1 4 (Q0 p1 p2 o0).2).1.list) (ho0_0 : List.length v0_2 ≤ i0) (hc0 : (decide ((i0 : Int) < ((List.length (Qa (Q0 p1 p2 o0).1 4 (Q0 p1 p2 o0).2).1.list) : Int))) = true) {r : Rs} (hr : Q6 G (Qb6 p1 p2 o0 (i0 + 1) (Q55 x0 (Decoder.mk v0_1)).2.wrong (v0_2 ++ [(Q55 x0 (Decoder.mk v0_1)).1])) r) : Q6 G (Qb6 p1 p2 o0 i0 v0_1 v0_2) r := by
 have hB0 := H.1
 exact Qb (Qu1 p1 p2 o0 i0 v0_1 v0_2) (y := (Qn8 p1 p2 o0 (i0 + 1) (Q55 x0 (Decoder.mk v0_1)).2.wrong (v0_2 ++ [(Q55 x0 (Decoder.mk v0_1)).1]), Qcp p1 p2 o0 (i0 + 1) (Q55 x0 (Decoder.mk v0_1)).2.wrong (v0_2 ++ [(Q55 x0 (Decoder.mk v0_1)).1]))) [hB 0 hc0, hP 0 (Q1f 5 (Val.rows (Qa (Q0 p1 p2 o0).1 4 (Q0 p1 p2 o0).2).1.list) i0 _ (Val.Q9 hx0) rfl), hV 8 [(643, Peer.rows (v0_2 ++ [(Q55 x0 (Decoder.mk v0_1)).1]))] (Q2w 2 579 643 2 40 0 0 true (Peer.rows v0_2) (Peer.rows (v0_2 ++ [(Q55 x0 (Decoder.mk v0_1)).1])) (Peer.cells (Q55 x0 (Decoder.mk v0_1)).1) (List.length v0_2) (List.length (v0_2 ++ [(Q55 x0 (Decoder.mk v0_1)).1])) rfl (Peer.Q5 v0_2).symm (Peer.Q5 (v0_2 ++ [(Q55 x0 (Decoder.mk v0_1)).1])).symm (Peer.Qv v0_2 (Q55 x0 (Decoder.mk v0_1)).1) (Peer.Qd v0_2) rfl (by omega)), hS 0 true (Peer.Q7 (v0_2 ++ [(Q55 x0 (Decoder.mk v0_1)).1]) 2 rfl), hP 1 (Q1b i0 (by omega))] [aN (Q1hf x0 (Decoder.mk v0_1) (H.2.1 x0 (Q1q hx0)))] (by kernel_rfl) hr
theorem Qqw (p1 : Val) (p2 : BA) (o0 : Decoder) (H : Q8r p1 p2 o0) : ∀ (r0 : List Val) (i0 : Nat) (v0_1 : Int) (v0_2 : List Peer), List.drop i0 (Qa (Q0 p1 p2 o0).1 4 (Q0 p1 p2 o0).2).1.list = r0 → List.length v0_2 ≤ i0 → Qbx p1 p2 o0 (Qb6 p1 p2 o0 i0 v0_1 v0_2) (Q34 p1 p2 o0 r0 i0 v0_1 v0_2)
 | [], i0, v0_1, v0_2, hd, ho0_0 => by
  have hc0 : (decide ((i0 : Int) < ((List.length (Qa (Q0 p1 p2 o0).1 4 (Q0 p1 p2 o0).2).1.list) : Int))) = false := by have := Q10 hd; simp; omega
  rw [Q34]
  exact Qyl p1 p2 o0 H i0 v0_1 v0_2 ho0_0 hc0
 | x0 :: r0, i0, v0_1, v0_2, hd, ho0_0 => by
  obtain ⟨hx0, hi0, hd'⟩ := Qz hd
  have hc0 : (decide ((i0 : Int) < ((List.length (Qa (Q0 p1 p2 o0).1 4 (Q0 p1 p2 o0).2).1.list) : Int))) = true := by simp; omega
  rw [Q34]
  exact Qlh p1 p2 o0 (fun r hr => Qxm p1 p2 o0 H x0 i0 v0_1 v0_2 hx0 hi0 ho0_0 hc0 hr) _ (Qqw p1 p2 o0 H r0 (i0 + 1) (Q55 x0 (Decoder.mk v0_1)).2.wrong (v0_2 ++ [(Q55 x0 (Decoder.mk v0_1)).1]) hd' (by first | omega | (simp; omega)))
def Qay (p1 : Val) (p2 : BA) (o0 : Decoder) : List Peer × Decoder := ((dE Peer.dec p1 p2).1, bp o0 (pE (Peer.cnt) p1 p2))
theorem Qwc (p1 : Val) (p2 : BA) (o0 : Decoder) : ∀ (l : List Val) (i : Nat) (b : Int) (a : List Peer), Q34 p1 p2 o0 l i b a = (bw b (sumC (Peer.cnt) l), a ++ l.map (fun x => (Peer.dec x).1))
  | [], _, b, a => by rw [Q34]; simp [sumC, bw]
  | x :: l, i, b, a => by
    rw [Q34]
    refine (Qwc p1 p2 o0 l (i + 1) (bw b ((Peer.cnt) x)) (a ++ [(Peer.dec x).1])).trans ?_
    rw [Q85]
    simp only [List.append_assoc, List.singleton_append, List.map_cons, sumC]
theorem Q1fr (p1 : Val) (p2 : BA) (o0 : Decoder) : Qay p1 p2 o0 = (((Q34 p1 p2 o0 (Qa (Q0 p1 p2 o0).1 4 (Q0 p1 p2 o0).2).1.list 0 (Qa (Q0 p1 p2 o0).1 4 (Q0 p1 p2 o0).2).2.wrong []).2, (Decoder.mk (Q34 p1 p2 o0 (Qa (Q0 p1 p2 o0).1 4 (Q0 p1 p2 o0).2).1.list 0 (Qa (Q0 p1 p2 o0).1 4 (Q0 p1 p2 o0).2).2.wrong []).1))) := by
  rw [Qwc]
  unfold Q0 Qa Qay
  simp only [Q61, getL, Q6p, Q85]
  rfl
def Q1ef (p1 : Val) (p2 : BA) (o0 : Decoder) : En := .call 57 [.bx 0 0, .agg (Val.cells p1), .str p2, .fn 58 [] [.bx 1 0]] [⟨1, 0, false, (Decoder.cells o0)⟩, ⟨1, 0, false, [.bx 0 0]⟩]
def Q1gr (_p1 : Val) (_p2 : BA) (_o0 : Decoder) (q0 : List Peer) (q1 : Decoder) : Rs := .ret (.sl (Peer.rows q0)) [⟨1, 0, false, (Decoder.cells q1)⟩, ⟨1, 0, false, [.bx 0 0]⟩]
def Q19v (p1 : Val) (p2 : BA) (o0 : Decoder) : Rs := Q1gr p1 p2 o0 (Qay p1 p2 o0).1 (Qay p1 p2 o0).2
def Q16x (p1 : Val) : Prop := Val.Sm 1000000000 p1
theorem Quv (p1 : Val) (p2 : BA) (o0 : Decoder) (H : Q16x p1) : (Qau p1) ∧ (Q8r p1 p2 o0) ∧ True := by
  have hl := Qst (Q3w H p2)
  refine ⟨H, ?_, trivial⟩
  unfold Q8r Q0 Qa
  simp only [getL]
  exact ⟨Nat.le_trans hl.1 (Nat.le_of_ble_eq_true rfl), hl.2, trivial⟩
theorem Q1ho (p1 : Val) (p2 : BA) (o0 : Decoder) (H : Q16x p1) : Q6 G (Q1ef p1 p2 o0) (Q19v p1 p2 o0) := by
 unfold Q19v
 rw [Q1fr]
 have hl0 := Qqw p1 p2 o0 ((Quv p1 p2 o0 H).2.1) (Qa (Q0 p1 p2 o0).1 4 (Q0 p1 p2 o0).2).1.list 0 (Qa (Q0 p1 p2 o0).1 4 (Q0 p1 p2 o0).2).2.wrong [] (by simp) (by simp)
 obtain ⟨z0, zo0, hl0⟩ := hl0
 exact Q8 (fn := Ir.K22) rfl (h := [⟨1, 0, false, (Decoder.cells o0)⟩, ⟨1, 0, false, [.bx 0 0]⟩]) (vw := []) VOK.nil [hP 10 (Qn (Val.rows (Qa (Q0 p1 p2 o0).1 4 (Q0 p1 p2 o0).2).1.list) (List.length (Qa (Q0 p1 p2 o0).1 4 (Q0 p1 p2 o0).2).1.list) (Val.Q5 (Qa (Q0 p1 p2 o0).1 4 (Q0 p1 p2 o0).2).1.list)), hS 0 true (Peer.Q7 (Q34 p1 p2 o0 (Qa (Q0 p1 p2 o0).1 4 (Q0 p1 p2 o0).2).1.list 0 (Qa (Q0 p1 p2 o0).1 4 (Q0 p1 p2 o0).2).2.wrong []).2 2 rfl), hQ (Peer.Q5 (Q34 p1 p2 o0 (Qa (Q0 p1 p2 o0).1 4 (Q0 p1 p2 o0).2).1.list 0 (Qa (Q0 p1 p2 o0).1 4 (Q0 p1 p2 o0).2).2.wrong []).2).symm] [aN (Qga p1 p2 o0 (Quv p1 p2 o0 H).1), aN (Q6w (Q0 p1 p2 o0).1 4 (Q0 p1 p2 o0).2), aV [(2, Peer.rows (Q34 p1 p2 o0 (Qa (Q0 p1 p2 o0).1 4 (Q0 p1 p2 o0).2).1.list 0 (Qa (Q0 p1 p2 o0).1 4 (Q0 p1 p2 o0).2).2.wrong []).2)] hl0] (by kernel_rfl)
def Q5e (p0 : Val) (o1 : Decoder) : Int × Decoder := ((xN p0).1, bp o1 (cK 2 p0))
theorem Q1fg (p0 : Val) (o1 : Decoder) : Q5e p0 o1 = (((Qa p0 2 o1).1.n, (Qa p0 2 o1).2)) := by
  exact Prod.ext (getN p0).symm rfl
def Q1e4 (p0 : Val) (o1 : Decoder) : En := .call 100 [.agg (Val.cells p0), .bx 0 0] [⟨1, 0, false, [.bx 1 0]⟩, ⟨1, 0, false, (Decoder.cells o1)⟩]
def Q1gg (_p0 : Val) (_o1 : Decoder) (q0 : Int) (q1 : Decoder) : Rs := .ret (.int .i64 q0) [⟨1, 0, false, [.bx 1 0]⟩, ⟨1, 0, false, (Decoder.cells q1)⟩]
def Q19k (p0 : Val) (o1 : Decoder) : Rs := Q1gg p0 o1 (Q5e p0 o1).1 (Q5e p0 o1).2
theorem Q1hi (p0 : Val) (o1 : Decoder) : Q6 G (Q1e4 p0 o1) (Q19k p0 o1) := by
 unfold Q19k
 rw [Q1fg]
 exact Q8 (fn := Ir.K1q) rfl (h := [⟨1, 0, false, [.bx 1 0]⟩, ⟨1, 0, false, (Decoder.cells o1)⟩]) (vw := []) VOK.nil [] [aN (Q6w p0 2 o1)] (by kernel_rfl)
def Q38 (p1 : Val) (p2 : BA) (o0 : Decoder) : List Val → Nat → Int → (List Int) → Int × (List Int)
 | [], _i0, v0_1, v0_2 =>
  (v0_1, v0_2)
 | x0 :: r0, i0, v0_1, v0_2 =>
  Q38 p1 p2 o0 r0 (i0 + 1) (Q5e x0 (Decoder.mk v0_1)).2.wrong (v0_2 ++ [(Q5e x0 (Decoder.mk v0_1)).1])
def Qnc (p1 : Val) (p2 : BA) (o0 : Decoder) (i0 : Nat) (_v0_1 : Int) (v0_2 : List Int) : List PV :=
  [.un, .un, .un, .fn 100 [] [.bx 1 0]] ++ nuns 5 ++ [.ms 2 1 0 (List.length v0_2)] ++ nuns 8 ++ [.sl (Val.rows (Qa (Q0 p1 p2 o0).1 4 (Q0 p1 p2 o0).2).1.list), .int .i64 ((List.length (Qa (Q0 p1 p2 o0).1 4 (Q0 p1 p2 o0).2).1.list) : Int), .int .i64 (i0 : Int)] ++ nuns 11
def Qct (_p1 : Val) (_p2 : BA) (_o0 : Decoder) (_i0 : Nat) (v0_1 : Int) (v0_2 : List Int) : List Ob :=
  [⟨1, 0, false, [.int .i64 v0_1]⟩, ⟨1, 0, false, [.bx 0 0]⟩, ⟨1, 0, true, (Q1i v0_2).flatten⟩]
def Qba (p1 : Val) (p2 : BA) (o0 : Decoder) (i0 : Nat) (v0_1 : Int) (v0_2 : List Int) : En := .loop 2 Ir.Qdn Ir.Q163 (Qnc p1 p2 o0 i0 v0_1 v0_2) (Qct p1 p2 o0 i0 v0_1 v0_2)
def Qhe (_p1 : Val) (_p2 : BA) (_o0 : Decoder) (q0 : Int) (q1 : List Int) (z : Nat → PV) (_zo : Nat → List PV) : St :=
  ⟨zr z 0 9 ++ [.ms 2 1 0 (List.length q1)] ++ zr z 10 22, [(0, ⟨1, 0, false, [.int .i64 q0]⟩), (1, ⟨1, 0, false, [.bx 0 0]⟩), (2, ⟨1, 0, true, (Q1i q1).flatten⟩)], 67⟩
theorem Qu5 (p1 : Val) (p2 : BA) (o0 : Decoder) (i0 : Nat) (v0_1 : Int) (v0_2 : List Int) : VOK (Go.Pv.look (number 0 (Qct p1 p2 o0 i0 v0_1 v0_2))) [(2, Q1i v0_2)] := (VOK.cons (show Seen _ _ from Q2f (ob := ⟨1, 0, true, (Q1i v0_2).flatten⟩) (Q87 v0_2 1 rfl)) VOK.nil)
def Qc1 (p1 : Val) (p2 : BA) (o0 : Decoder) (e : En) (q : Int × (List Int)) : Prop := ∃ z zo, Q6 G e (.st (.exit 0) (Qhe p1 p2 o0 q.1 q.2 z zo))
theorem Qll (p1 : Val) (p2 : BA) (o0 : Decoder) {e e' : En} (h : ∀ r, Q6 G e r → Q6 G e' r) : ∀ q, Qc1 p1 p2 o0 e q → Qc1 p1 p2 o0 e' q
  | _, ⟨z, zo, hz⟩ => ⟨z, zo, h _ hz⟩
def Q8v (p1 : Val) (p2 : BA) (o0 : Decoder) : Prop := (List.length (Qa (Q0 p1 p2 o0).1 4 (Q0 p1 p2 o0).2).1.list ≤ 137438953472) ∧ True
def Qiv (p1 : Val) (p2 : BA) (o0 : Decoder) (i0 : Nat) (_v0_1 : Int) (_v0_2 : List Int) : List PV :=
  [.un, .un, .un, .fn 100 [] [.bx 1 0]] ++ nuns 14 ++ [.sl (Val.rows (Qa (Q0 p1 p2 o0).1 4 (Q0 p1 p2 o0).2).1.list), .int .i64 ((List.length (Qa (Q0 p1 p2 o0).1 4 (Q0 p1 p2 o0).2).1.list) : Int), .int .i64 (i0 : Int), .bool false]
def Qel (_p1 : Val) (_p2 : BA) (_o0 : Decoder) (_i0 : Nat) (_v0_1 : Int) (_v0_2 : List Int) : List (Nat × List PV) :=
  []
theorem Qyp (p1 : Val) (p2 : BA) (o0 : Decoder) (_H : Q8v p1 p2 o0) (i0 : Nat) (v0_1 : Int) (v0_2 : List Int) (_ho0_0 : List.length v0_2 ≤ i0) (hc0 : (decide ((i0 : Int) < ((List.length (Qa (Q0 p1 p2 o0).1 4 (Q0 p1 p2 o0).2).1.list) : Int))) = false) : Qc1 p1 p2 o0 (Qba p1 p2 o0 i0 v0_1 v0_2) (v0_1, v0_2) := by
 exact ⟨(envF (Qiv p1 p2 o0 i0 v0_1 v0_2)), (zoF (Qel p1 p2 o0 i0 v0_1 v0_2)), Qh (Qu5 p1 p2 o0 i0 v0_1 v0_2) (x := ((.exit 0), Qhe p1 p2 o0 v0_1 v0_2 (envF (Qiv p1 p2 o0 i0 v0_1 v0_2)) (zoF (Qel p1 p2 o0 i0 v0_1 v0_2)))) [hB 0 hc0] [] (by kernel_rfl)⟩
theorem Qxq (p1 : Val) (p2 : BA) (o0 : Decoder) (H : Q8v p1 p2 o0) (x0 : Val) (i0 : Nat) (v0_1 : Int) (v0_2 : List Int) (hx0 : (Qa (Q0 p1 p2 o0).1 4 (Q0 p1 p2 o0).2).1.list[i0]? = some x0) (hi0 : i0 < List.length (Qa (Q0 p1 p2 o0).1 4 (Q0 p1 p2 o0).2).1.list) (ho0_0 : List.length v0_2 ≤ i0) (hc0 : (decide ((i0 : Int) < ((List.length (Qa (Q0 p1 p2 o0).1 4 (Q0 p1 p2 o0).2).1.list) : Int))) = true) {r : Rs} (hr : Q6 G (Qba p1 p2 o0 (i0 + 1) (Q5e x0 (Decoder.mk v0_1)).2.wrong (v0_2 ++ [(Q5e x0 (Decoder.mk v0_1)).1])) r) : Q6 G (Qba p1 p2 o0 i0 v0_1 v0_2) r := by
 have hB0 := H.1
 exact Qb (Qu5 p1 p2 o0 i0 v0_1 v0_2) (y := (Qnc p1 p2 o0 (i0 + 1) (Q5e x0 (Decoder.mk v0_1)).2.wrong (v0_2 ++ [(Q5e x0 (Decoder.mk v0_1)).1]), Qct p1 p2 o0 (i0 + 1) (Q5e x0 (Decoder.mk v0_1)).2.wrong (v0_2 ++ [(Q5e x0 (Decoder.mk v0_1)).1]))) [hB 0 hc0, hP 0 (Q1f 5 (Val.rows (Qa (Q0 p1 p2 o0).1 4 (Q0 p1 p2 o0).2).1.list) i0 _ (Val.Q9 hx0) rfl), hV 8 [(643, Q1i (v0_2 ++ [(Q5e x0 (Decoder.mk v0_1)).1]))] (Q2w 2 579 643 1 8 0 0 true (Q1i v0_2) (Q1i (v0_2 ++ [(Q5e x0 (Decoder.mk v0_1)).1])) [.int .i64 (Q5e x0 (Decoder.mk v0_1)).1] (List.length v0_2) (List.length (v0_2 ++ [(Q5e x0 (Decoder.mk v0_1)).1])) rfl (Q4r v0_2).symm (Q4r (v0_2 ++ [(Q5e x0 (Decoder.mk v0_1)).1])).symm (Qs7 v0_2 (Q5e x0 (Decoder.mk v0_1)).1) (Qf6 v0_2) rfl (by omega)), hS 0 true (Q87 (v0_2 ++ [(Q5e x0 (Decoder.mk v0_1)).1]) 1 rfl), hP 1 (Q1b i0 (by omega))] [aN (Q1hi x0 (Decoder.mk v0_1))] (by kernel_rfl) hr
theorem Qr0 (p1 : Val) (p2 : BA) (o0 : Decoder) (H : Q8v p1 p2 o0) : ∀ (r0 : List Val) (i0 : Nat) (v0_1 : Int) (v0_2 : List Int), List.drop i0 (Qa (Q0 p1 p2 o0).1 4 (Q0 p1 p2 o0).2).1.list = r0 → List.length v0_2 ≤ i0 → Qc1 p1 p2 o0 (Qba p1 p2 o0 i0 v0_1 v0_2) (Q38 p1 p2 o0 r0 i0 v0_1 v0_2)
 | [], i0, v0_1, v0_2, hd, ho0_0 => by
  have hc0 : (decide ((i0 : Int) < ((List.length (Qa (Q0 p1 p2 o0).1 4 (Q0 p1 p2 o0).2).1.list) : Int))) = false := by have := Q10 hd; simp; omega
  rw [Q38]
  exact Qyp p1 p2 o0 H i0 v0_1 v0_2 ho0_0 hc0
 | x0 :: r0, i0, v0_1, v0_2, hd, ho0_0 => by
  obtain ⟨hx0, hi0, hd'⟩ := Qz hd
  have hc0 : (decide ((i0 : Int) < ((List.length (Qa (Q0 p1 p2 o0).1 4 (Q0 p1 p2 o0).2).1.list) : Int))) = true := by simp; omega
  rw [Q38]
  exact Qll p1 p2 o0 (fun r hr => Qxq p1 p2 o0 H x0 i0 v0_1 v0_2 hx0 hi0 ho0_0 hc0 hr) _ (Qr0 p1 p2 o0 H r0 (i0 + 1) (Q5e x0 (Decoder.mk v0_1)).2.wrong (v0_2 ++ [(Q5e x0 (Decoder.mk v0_1)).1]) hd' (by first | omega | (simp; omega)))
def Qrn (p1 : Val) (p2 : BA) (o0 : Decoder) : List Int × Decoder := ((dE xN p1 p2).1, bp o0 (pE (cK 2) p1 p2))
theorem Qwg (p1 : Val) (p2 : BA) (o0 : Decoder) : ∀ (l : List Val) (i : Nat) (b : Int) (a : List Int), Q38 p1 p2 o0 l i b a = (bw b (sumC (cK 2) l), a ++ l.map (fun x => (xN x).1))
  | [], _, b, a => by rw [Q38]; simp [sumC, bw]
  | x :: l, i, b, a => by
    rw [Q38]
    refine (Qwg p1 p2 o0 l (i + 1) (bw b ((cK 2) x)) (a ++ [(xN x).1])).trans ?_
    rw [Q85]
    simp only [List.append_assoc, List.singleton_append, List.map_cons, sumC]
theorem Q1fv (p1 : Val) (p2 : BA) (o0 : Decoder) : Qrn p1 p2 o0 = (((Q38 p1 p2 o0 (Qa (Q0 p1 p2 o0).1 4 (Q0 p1 p2 o0).2).1.list 0 (Qa (Q0 p1 p2 o0).1 4 (Q0 p1 p2 o0).2).2.wrong []).2, (Decoder.mk (Q38 p1 p2 o0 (Qa (Q0 p1 p2 o0).1 4 (Q0 p1 p2 o0).2).1.list 0 (Qa (Q0 p1 p2 o0).1 4 (Q0 p1 p2 o0).2).2.wrong []).1))) := by
  rw [Qwg]
  unfold Q0 Qa Qrn
  simp only [Q61, getL, Q6p, Q85]
  rfl
def Q1ej (p1 : Val) (p2 : BA) (o0 : Decoder) : En := .call 99 [.bx 0 0, .agg (Val.cells p1), .str p2, .fn 100 [] [.bx 1 0]] [⟨1, 0, false, (Decoder.cells o0)⟩, ⟨1, 0, false, [.bx 0 0]⟩]
def Q1gv (_p1 : Val) (_p2 : BA) (_o0 : Decoder) (q0 : List Int) (q1 : Decoder) : Rs := .ret (.sl (Q1i q0)) [⟨1, 0, false, (Decoder.cells q1)⟩, ⟨1, 0, false, [.bx 0 0]⟩]
def Q19z (p1 : Val) (p2 : BA) (o0 : Decoder) : Rs := Q1gv p1 p2 o0 (Qrn p1 p2 o0).1 (Qrn p1 p2 o0).2
def Q171 (p1 : Val) : Prop := Val.Sm 1000000000 p1
theorem Quz (p1 : Val) (p2 : BA) (o0 : Decoder) (H : Q171 p1) : (Qau p1) ∧ (Q8v p1 p2 o0) ∧ True := by
  have hl := Qst (Q3w H p2)
  refine ⟨H, ?_, trivial⟩
  unfold Q8v Q0 Qa
  simp only [getL]
  exact ⟨Nat.le_trans hl.1 (Nat.le_of_ble_eq_true rfl), trivial⟩
theorem Q1hs (p1 : Val) (p2 : BA) (o0 : Decoder) (H : Q171 p1) : Q6 G (Q1ej p1 p2 o0) (Q19z p1 p2 o0) := by
 unfold Q19z
 rw [Q1fv]
 have hl0 := Qr0 p1 p2 o0 ((Quz p1 p2 o0 H).2.1) (Qa (Q0 p1 p2 o0).1 4 (Q0 p1 p2 o0).2).1.list 0 (Qa (Q0 p1 p2 o0).1 4 (Q0 p1 p2 o0).2).2.wrong [] (by simp) (by simp)
 obtain ⟨z0, zo0, hl0⟩ := hl0
 exact Q8 (fn := Ir.K26) rfl (h := [⟨1, 0, false, (Decoder.cells o0)⟩, ⟨1, 0, false, [.bx 0 0]⟩]) (vw := []) VOK.nil [hP 10 (Qn (Val.rows (Qa (Q0 p1 p2 o0).1 4 (Q0 p1 p2 o0).2).1.list) (List.length (Qa (Q0 p1 p2 o0).1 4 (Q0 p1 p2 o0).2).1.list) (Val.Q5 (Qa (Q0 p1 p2 o0).1 4 (Q0 p1 p2 o0).2).1.list)), hS 0 true (Q87 (Q38 p1 p2 o0 (Qa (Q0 p1 p2 o0).1 4 (Q0 p1 p2 o0).2).1.list 0 (Qa (Q0 p1 p2 o0).1 4 (Q0 p1 p2 o0).2).2.wrong []).2 1 rfl), hQ (Q4r (Q38 p1 p2 o0 (Qa (Q0 p1 p2 o0).1 4 (Q0 p1 p2 o0).2).1.list 0 (Qa (Q0 p1 p2 o0).1 4 (Q0 p1 p2 o0).2).2.wrong []).2).symm] [aN (Qga p1 p2 o0 (Quz p1 p2 o0 H).1), aN (Q6w (Q0 p1 p2 o0).1 4 (Q0 p1 p2 o0).2), aV [(2, Q1i (Q38 p1 p2 o0 (Qa (Q0 p1 p2 o0).1 4 (Q0 p1 p2 o0).2).1.list 0 (Qa (Q0 p1 p2 o0).1 4 (Q0 p1 p2 o0).2).2.wrong []).2)] hl0] (by kernel_rfl)
def Qsm (p1 : Val) (p2 : BA) (o0 : Decoder) : List Int × Decoder := ((dE xN p1 p2).1, bp o0 (pE (cK 2) p1 p2))
theorem Q1ff (p1 : Val) (p2 : BA) (o0 : Decoder) : Qsm p1 p2 o0 = (((Qrn p1 p2 o0).1, (Qrn p1 p2 o0).2)) := by
  rfl
def Q1e3 (p1 : Val) (p2 : BA) (o0 : Decoder) : En := .call 59 [.bx 0 0, .agg (Val.cells p1), .str p2] [⟨1, 0, false, (Decoder.cells o0)⟩]
def Q1gf (_p1 : Val) (_p2 : BA) (_o0 : Decoder) (q0 : List Int) (q1 : Decoder) : Rs := .ret (.sl (Q1i q0)) [⟨1, 0, false, (Decoder.cells q1)⟩]
def Q19j (p1 : Val) (p2 : BA) (o0 : Decoder) : Rs := Q1gf p1 p2 o0 (Qsm p1 p2 o0).1 (Qsm p1 p2 o0).2
def Q16s (p1 : Val) : Prop := Val.Sm 1000000000 p1
theorem Q14r (p1 : Val) (_p2 : BA) (_o0 : Decoder) (H : Q16s p1) : (Q171 p1) ∧ True := by
  repeat' with_reducible apply And.intro
  all_goals first | exact True.intro | exact H
theorem Q1hh (p1 : Val) (p2 : BA) (o0 : Decoder) (H : Q16s p1) : Q6 G (Q1e3 p1 p2 o0) (Q19j p1 p2 o0) := by
 unfold Q19j
 rw [Q1ff]
 exact Q8 (fn := Ir.K1p) rfl (h := [⟨1, 0, false, (Decoder.cells o0)⟩]) (vw := []) VOK.nil [] [aN (Q1hs p1 p2 o0 (Q14r p1 p2 o0 H).1)] (by kernel_rfl)
def Q5d (p0 : Val) (o1 : Decoder) : PolicyRule × Decoder := ((PolicyRule.dec p0).1, bp o1 (PolicyRule.cnt p0))
theorem Q1f9 (p0 : Val) (o1 : Decoder) : Q5d p0 o1 = (((PolicyRule.mk (Q1x p0 Ql (Qay p0 Q17 o1).2).1 (Qay p0 Q17 o1).1 (Qsm p0 Qk (Q1x p0 Ql (Qay p0 Q17 o1).2).2).1), (Qsm p0 Qk (Q1x p0 Ql (Qay p0 Q17 o1).2).2).2)) := by
  simp only [Q1x, Qay, Qsm, Q5d, Q61]
  refine Prod.ext rfl (congrArg (bp o1) ?_)
  show PolicyRule.cnt p0 = _
  try unfold PolicyRule.cnt
  try unfold cM
  first | rfl | omega
def Q1dx (p0 : Val) (o1 : Decoder) : En := .call 56 [.agg (Val.cells p0), .bx 0 0] [⟨1, 0, false, [.bx 1 0]⟩, ⟨1, 0, false, (Decoder.cells o1)⟩]
def Q1gb (_p0 : Val) (_o1 : Decoder) (q0 : PolicyRule) (q1 : Decoder) : Rs := .ret (.agg (PolicyRule.cells q0)) [⟨1, 0, false, [.bx 1 0]⟩, ⟨1, 0, false, (Decoder.cells q1)⟩]
def Q19d (p0 : Val) (o1 : Decoder) : Rs := Q1gb p0 o1 (Q5d p0 o1).1 (Q5d p0 o1).2
def Q16q (p0 : Val) : Prop := Val.Sm 1000000000 p0
theorem Qmi (p0 : Val) (_o1 : Decoder) (H : Q16q p0) : (Q16x p0) ∧ (Qws p0) ∧ (Q16s p0) ∧ True := by
  repeat' with_reducible apply And.intro
  all_goals first | exact True.intro | exact H | exact Q3w H _
theorem Q1he (p0 : Val) (o1 : Decoder) (H : Q16q p0) : Q6 G (Q1dx p0 o1) (Q19d p0 o1) := by
 unfold Q19d
 rw [Q1f9]
 exact Q8 (fn := Ir.K1i) rfl (h := [⟨1, 0, false, [.bx 1 0]⟩, ⟨1, 0, false, (Decoder.cells o1)⟩]) (vw := []) VOK.nil [] [aN (Q1ho p0 Q17 o1 (Qmi p0 o1 H).1), aN (Qy6 p0 Ql (Qay p0 Q17 o1).2 (Qmi p0 o1 H).2.1), aN (Q1hh p0 Qk (Q1x p0 Ql (Qay p0 Q17 o1).2).2 (Qmi p0 o1 H).2.2.1)] (by kernel_rfl)
def Q33 (p1 : Val) (p2 : BA) (o0 : Decoder) : List Val → Nat → Int → (List PolicyRule) → Int × (List PolicyRule)
 | [], _i0, v0_1, v0_2 =>
  (v0_1, v0_2)
 | x0 :: r0, i0, v0_1, v0_2 =>
  Q33 p1 p2 o0 r0 (i0 + 1) (Q5d x0 (Decoder.mk v0_1)).2.wrong (v0_2 ++ [(Q5d x0 (Decoder.mk v0_1)).1])
def Qn7 (p1 : Val) (p2 : BA) (o0 : Decoder) (i0 : Nat) (_v0_1 : Int) (v0_2 : List PolicyRule) : List PV :=
  [.un, .un, .un, .fn 56 [] [.bx 1 0]] ++ nuns 5 ++ [.ms 2 3 0 (List.length v0_2)] ++ nuns 8 ++ [.sl (Val.rows (Qa (Q0 p1 p2 o0).1 4 (Q0 p1 p2 o0).2).1.list), .int .i64 ((List.length (Qa (Q0 p1 p2 o0).1 4 (Q0 p1 p2 o0).2).1.list) : Int), .int .i64 (i0 : Int)] ++ nuns 11
def Qco (_p1 : Val) (_p2 : BA) (_o0 : Decoder) (_i0 : Nat) (v0_1 : Int) (v0_2 : List PolicyRule) : List Ob :=
  [⟨1, 0, false, [.int .i64 v0_1]⟩, ⟨1, 0, false, [.bx 0 0]⟩, ⟨3, 0, true, (PolicyRule.rows v0_2).flatten⟩]
def Qb5 (p1 : Val) (p2 : BA) (o0 : Decoder) (i0 : Nat) (v0_1 : Int) (v0_2 : List PolicyRule) : En := .loop 2 Ir.Qdi Ir.Q15y (Qn7 p1 p2 o0 i0 v0_1 v0_2) (Qco p1 p2 o0 i0 v0_1 v0_2)
def Qh9 (_p1 : Val) (_p2 : BA) (_o0 : Decoder) (q0 : Int) (q1 : List PolicyRule) (z : Nat → PV) (_zo : Nat → List PV) : St :=
  ⟨zr z 0 9 ++ [.ms 2 3 0 (List.length q1)] ++ zr z 10 22, [(0, ⟨1, 0, false, [.int .i64 q0]⟩), (1, ⟨1, 0, false, [.bx 0 0]⟩), (2, ⟨3, 0, true, (PolicyRule.rows q1).flatten⟩)], 67⟩
theorem Qu0 (p1 : Val) (p2 : BA) (o0 : Decoder) (i0 : Nat) (v0_1 : Int) (v0_2 : List PolicyRule) : VOK (Go.Pv.look (number 0 (Qco p1 p2 o0 i0 v0_1 v0_2))) [(2, PolicyRule.rows v0_2)] := (VOK.cons (show Seen _ _ from Q2f (ob := ⟨3, 0, true, (PolicyRule.rows v0_2).flatten⟩) (PolicyRule.Q7 v0_2 3 rfl)) VOK.nil)
def Qbw (p1 : Val) (p2 : BA) (o0 : Decoder) (e : En) (q : Int × (List PolicyRule)) : Prop := ∃ z zo, Q6 G e (.st (.exit 0) (Qh9 p1 p2 o0 q.1 q.2 z zo))
theorem Qlg (p1 : Val) (p2 : BA) (o0 : Decoder) {e e' : En} (h : ∀ r, Q6 G e r → Q6 G e' r) : ∀ q, Qbw p1 p2 o0 e q → Qbw p1 p2 o0 e' q
  | _, ⟨z, zo, hz⟩ => ⟨z, zo, h _ hz⟩
def Q8q (p1 : Val) (p2 : BA) (o0 : Decoder) : Prop := (List.length (Qa (Q0 p1 p2 o0).1 4 (Q0 p1 p2 o0).2).1.list ≤ 137438953472) ∧ (∀ x0 ∈ (Qa (Q0 p1 p2 o0).1 4 (Q0 p1 p2 o0).2).1.list, Q16q x0) ∧ True
def Qiq (p1 : Val) (p2 : BA) (o0 : Decoder) (i0 : Nat) (_v0_1 : Int) (_v0_2 : List PolicyRule) : List PV :=
  [.un, .un, .un, .fn 56 [] [.bx 1 0]] ++ nuns 14 ++ [.sl (Val.rows (Qa (Q0 p1 p2 o0).1 4 (Q0 p1 p2 o0).2).1.list), .int .i64 ((List.length (Qa (Q0 p1 p2 o0).1 4 (Q0 p1 p2 o0).2).1.list) : Int), .int .i64 (i0 : Int), .bool false]
def Qeg (_p1 : Val) (_p2 : BA) (_o0 : Decoder) (_i0 : Nat) (_v0_1 : Int) (_v0_2 : List PolicyRule) : List (Nat × List PV) :=
  []
theorem Qyk (p1 : Val) (p2 : BA) (o0 : Decoder) (_H : Q8q p1 p2 o0) (i0 : Nat) (v0_1 : Int) (v0_2 : List PolicyRule) (_ho0_0 : List.length v0_2 ≤ i0) (hc0 : (decide ((i0 : Int) < ((List.length (Qa (Q0 p1 p2 o0).1 4 (Q0 p1 p2 o0).2).1.list) : Int))) = false) : Qbw p1 p2 o0 (Qb5 p1 p2 o0 i0 v0_1 v0_2) (v0_1, v0_2) := by
 exact ⟨(envF (Qiq p1 p2 o0 i0 v0_1 v0_2)), (zoF (Qeg p1 p2 o0 i0 v0_1 v0_2)), Qh (Qu0 p1 p2 o0 i0 v0_1 v0_2) (x := ((.exit 0), Qh9 p1 p2 o0 v0_1 v0_2 (envF (Qiq p1 p2 o0 i0 v0_1 v0_2)) (zoF (Qeg p1 p2 o0 i0 v0_1 v0_2)))) [hB 0 hc0] [] (by kernel_rfl)⟩
theorem Qxl (p1 : Val) (p2 : BA) (o0 : Decoder) (H : Q8q p1 p2 o0) (x0 : Val) (i0 : Nat) (v0_1 : Int) (v0_2 : List PolicyRule) (hx0 : (Qa (Q0 p1 p2 o0).1 4 (Q0 p1 p2 o0).2).1.list[i0]? = some x0) (hi0 : i0 < List.length (Qa (Q0 p1 p2 o0).1 4 (Q0 p1 p2 o0).2).1.list) (ho0_0 : List.length v0_2 ≤ i0) (hc0 : (decide ((i0 : Int) < ((List.length (Qa (Q0 p1 p2 o0).1 4 (Q0 p1 p2 o0).2).1.list) : Int))) = true) {r : Rs} (hr : Q6 G (Qb5 p1 p2 o0 (i0 + 1) (Q5d x0 (Decoder.mk v0_1)).2.wrong (v0_2 ++ [(Q5d x0 (Decoder.mk v0_1)).1])) r) : Q6 G (Qb5 p1 p2 o0 i0 v0_1 v0_2) r := by
 have hB0 := H.1
 exact Qb (Qu0 p1 p2 o0 i0 v0_1 v0_2) (y := (Qn7 p1 p2 o0 (i0 + 1) (Q5d x0 (Decoder.mk v0_1)).2.wrong (v0_2 ++ [(Q5d x0 (Decoder.mk v0_1)).1]), Qco p1 p2 o0 (i0 + 1) (Q5d x0 (Decoder.mk v0_1)).2.wrong (v0_2 ++ [(Q5d x0 (Decoder.mk v0_1)).1]))) [hB 0 hc0, hP 0 (Q1f 5 (Val.rows (Qa (Q0 p1 p2 o0).1 4 (Q0 p1 p2 o0).2).1.list) i0 _ (Val.Q9 hx0) rfl), hV 8 [(643, PolicyRule.rows (v0_2 ++ [(Q5d x0 (Decoder.mk v0_1)).1]))] (Q2w 2 579 643 3 56 0 0 true (PolicyRule.rows v0_2) (PolicyRule.rows (v0_2 ++ [(Q5d x0 (Decoder.mk v0_1)).1])) (PolicyRule.cells (Q5d x0 (Decoder.mk v0_1)).1) (List.length v0_2) (List.length (v0_2 ++ [(Q5d x0 (Decoder.mk v0_1)).1])) rfl (PolicyRule.Q5 v0_2).symm (PolicyRule.Q5 (v0_2 ++ [(Q5d x0 (Decoder.mk v0_1)).1])).symm (PolicyRule.Qv v0_2 (Q5d x0 (Decoder.mk v0_1)).1) (PolicyRule.Qd v0_2) rfl (by omega)), hS 0 true (PolicyRule.Q7 (v0_2 ++ [(Q5d x0 (Decoder.mk v0_1)).1]) 3 rfl), hP 1 (Q1b i0 (by omega))] [aN (Q1he x0 (Decoder.mk v0_1) (H.2.1 x0 (Q1q hx0)))] (by kernel_rfl) hr
theorem Qqv (p1 : Val) (p2 : BA) (o0 : Decoder) (H : Q8q p1 p2 o0) : ∀ (r0 : List Val) (i0 : Nat) (v0_1 : Int) (v0_2 : List PolicyRule), List.drop i0 (Qa (Q0 p1 p2 o0).1 4 (Q0 p1 p2 o0).2).1.list = r0 → List.length v0_2 ≤ i0 → Qbw p1 p2 o0 (Qb5 p1 p2 o0 i0 v0_1 v0_2) (Q33 p1 p2 o0 r0 i0 v0_1 v0_2)
 | [], i0, v0_1, v0_2, hd, ho0_0 => by
  have hc0 : (decide ((i0 : Int) < ((List.length (Qa (Q0 p1 p2 o0).1 4 (Q0 p1 p2 o0).2).1.list) : Int))) = false := by have := Q10 hd; simp; omega
  rw [Q33]
  exact Qyk p1 p2 o0 H i0 v0_1 v0_2 ho0_0 hc0
 | x0 :: r0, i0, v0_1, v0_2, hd, ho0_0 => by
  obtain ⟨hx0, hi0, hd'⟩ := Qz hd
  have hc0 : (decide ((i0 : Int) < ((List.length (Qa (Q0 p1 p2 o0).1 4 (Q0 p1 p2 o0).2).1.list) : Int))) = true := by simp; omega
  rw [Q33]
  exact Qlg p1 p2 o0 (fun r hr => Qxl p1 p2 o0 H x0 i0 v0_1 v0_2 hx0 hi0 ho0_0 hc0 hr) _ (Qqv p1 p2 o0 H r0 (i0 + 1) (Q5d x0 (Decoder.mk v0_1)).2.wrong (v0_2 ++ [(Q5d x0 (Decoder.mk v0_1)).1]) hd' (by first | omega | (simp; omega)))
def Q56 (p1 : Val) (p2 : BA) (o0 : Decoder) : List PolicyRule × Decoder := ((dE PolicyRule.dec p1 p2).1, bp o0 (pE (PolicyRule.cnt) p1 p2))
theorem Qwb (p1 : Val) (p2 : BA) (o0 : Decoder) : ∀ (l : List Val) (i : Nat) (b : Int) (a : List PolicyRule), Q33 p1 p2 o0 l i b a = (bw b (sumC (PolicyRule.cnt) l), a ++ l.map (fun x => (PolicyRule.dec x).1))
  | [], _, b, a => by rw [Q33]; simp [sumC, bw]
  | x :: l, i, b, a => by
    rw [Q33]
    refine (Qwb p1 p2 o0 l (i + 1) (bw b ((PolicyRule.cnt) x)) (a ++ [(PolicyRule.dec x).1])).trans ?_
    rw [Q85]
    simp only [List.append_assoc, List.singleton_append, List.map_cons, sumC]
theorem Q1fq (p1 : Val) (p2 : BA) (o0 : Decoder) : Q56 p1 p2 o0 = (((Q33 p1 p2 o0 (Qa (Q0 p1 p2 o0).1 4 (Q0 p1 p2 o0).2).1.list 0 (Qa (Q0 p1 p2 o0).1 4 (Q0 p1 p2 o0).2).2.wrong []).2, (Decoder.mk (Q33 p1 p2 o0 (Qa (Q0 p1 p2 o0).1 4 (Q0 p1 p2 o0).2).1.list 0 (Qa (Q0 p1 p2 o0).1 4 (Q0 p1 p2 o0).2).2.wrong []).1))) := by
  rw [Qwb]
  unfold Q0 Qa Q56
  simp only [Q61, getL, Q6p, Q85]
  rfl
def Q1ee (p1 : Val) (p2 : BA) (o0 : Decoder) : En := .call 55 [.bx 0 0, .agg (Val.cells p1), .str p2, .fn 56 [] [.bx 1 0]] [⟨1, 0, false, (Decoder.cells o0)⟩, ⟨1, 0, false, [.bx 0 0]⟩]
def Q1gq (_p1 : Val) (_p2 : BA) (_o0 : Decoder) (q0 : List PolicyRule) (q1 : Decoder) : Rs := .ret (.sl (PolicyRule.rows q0)) [⟨1, 0, false, (Decoder.cells q1)⟩, ⟨1, 0, false, [.bx 0 0]⟩]
def Q19u (p1 : Val) (p2 : BA) (o0 : Decoder) : Rs := Q1gq p1 p2 o0 (Q56 p1 p2 o0).1 (Q56 p1 p2 o0).2
def Q16w (p1 : Val) : Prop := Val.Sm 1000000000 p1
theorem Quu (p1 : Val) (p2 : BA) (o0 : Decoder) (H : Q16w p1) : (Qau p1) ∧ (Q8q p1 p2 o0) ∧ True := by
  have hl := Qst (Q3w H p2)
  refine ⟨H, ?_, trivial⟩
  unfold Q8q Q0 Qa
  simp only [getL]
  exact ⟨Nat.le_trans hl.1 (Nat.le_of_ble_eq_true rfl), hl.2, trivial⟩
theorem Q1hn (p1 : Val) (p2 : BA) (o0 : Decoder) (H : Q16w p1) : Q6 G (Q1ee p1 p2 o0) (Q19u p1 p2 o0) := by
 unfold Q19u
 rw [Q1fq]
 have hl0 := Qqv p1 p2 o0 ((Quu p1 p2 o0 H).2.1) (Qa (Q0 p1 p2 o0).1 4 (Q0 p1 p2 o0).2).1.list 0 (Qa (Q0 p1 p2 o0).1 4 (Q0 p1 p2 o0).2).2.wrong [] (by simp) (by simp)
 obtain ⟨z0, zo0, hl0⟩ := hl0
 exact Q8 (fn := Ir.K21) rfl (h := [⟨1, 0, false, (Decoder.cells o0)⟩, ⟨1, 0, false, [.bx 0 0]⟩]) (vw := []) VOK.nil [hP 10 (Qn (Val.rows (Qa (Q0 p1 p2 o0).1 4 (Q0 p1 p2 o0).2).1.list) (List.length (Qa (Q0 p1 p2 o0).1 4 (Q0 p1 p2 o0).2).1.list) (Val.Q5 (Qa (Q0 p1 p2 o0).1 4 (Q0 p1 p2 o0).2).1.list)), hS 0 true (PolicyRule.Q7 (Q33 p1 p2 o0 (Qa (Q0 p1 p2 o0).1 4 (Q0 p1 p2 o0).2).1.list 0 (Qa (Q0 p1 p2 o0).1 4 (Q0 p1 p2 o0).2).2.wrong []).2 3 rfl), hQ (PolicyRule.Q5 (Q33 p1 p2 o0 (Qa (Q0 p1 p2 o0).1 4 (Q0 p1 p2 o0).2).1.list 0 (Qa (Q0 p1 p2 o0).1 4 (Q0 p1 p2 o0).2).2.wrong []).2).symm] [aN (Qga p1 p2 o0 (Quu p1 p2 o0 H).1), aN (Q6w (Q0 p1 p2 o0).1 4 (Q0 p1 p2 o0).2), aV [(2, PolicyRule.rows (Q33 p1 p2 o0 (Qa (Q0 p1 p2 o0).1 4 (Q0 p1 p2 o0).2).1.list 0 (Qa (Q0 p1 p2 o0).1 4 (Q0 p1 p2 o0).2).2.wrong []).2)] hl0] (by kernel_rfl)
def Qsn (p1 : NetworkPolicy) (o0 : Decoder) : NetworkPolicy × Int :=
 bif (decide (0 < o0.wrong)) then
  ((NetworkPolicy.mk (Meta.mk eB eB eB 0 0 0 0 false 0 [] [] [] []) [] false false []), 6)
 else
  (p1, 0)
def Q1eu (p1 : NetworkPolicy) (o0 : Decoder) : En := .call 60 [.bx 0 0, .agg (NetworkPolicy.cells p1)] [⟨1, 0, false, (Decoder.cells o0)⟩]
def Q1gz (_p1 : NetworkPolicy) (o0 : Decoder) (q0 : NetworkPolicy) (q1 : Int) : Rs := .ret (.tup [.agg (NetworkPolicy.cells q0), .int .i64 q1]) [⟨1, 0, false, (Decoder.cells o0)⟩]
def Q1aa (p1 : NetworkPolicy) (o0 : Decoder) : Rs := Q1gz p1 o0 (Qsn p1 o0).1 (Qsn p1 o0).2
theorem Q1hy (p1 : NetworkPolicy) (o0 : Decoder) : Q6 G (Q1eu p1 o0) (Q1aa p1 o0) := by
 unfold Q1aa Qsn
 cases h0 : (decide (0 < o0.wrong)) with
 | true =>
  exact Q8 (fn := Ir.K2p) rfl (h := [⟨1, 0, false, (Decoder.cells o0)⟩]) (vw := []) VOK.nil [hB 7 h0] [] (by kernel_rfl)
 | false =>
  exact Q8 (fn := Ir.K2p) rfl (h := [⟨1, 0, false, (Decoder.cells o0)⟩]) (vw := []) VOK.nil [hB 7 h0] [] (by kernel_rfl)
def Q12l (p0 : Object) : NetworkPolicy × Int := resC (NetworkPolicy.cnt p0) (NetworkPolicy.of p0) NetworkPolicy.z
theorem Qab (n : Nat) (x : NetworkPolicy) : Qsn x (bp ⟨0⟩ n) = resC n x NetworkPolicy.z := rfl
theorem Q1f8 (p0 : Object) : Q12l p0 = (((Qsn (NetworkPolicy.mk p0.meta_ (Q26 p0.spec (Q56 p0.spec Q13 (Q1r p0 Qc)).2).1 (Q1x p0.spec Qx (Q26 p0.spec (Q56 p0.spec Q13 (Q1r p0 Qc)).2).2).1 (Q1x p0.spec Ql (Q1x p0.spec Qx (Q26 p0.spec (Q56 p0.spec Q13 (Q1r p0 Qc)).2).2).2).1 (Q56 p0.spec Q13 (Q1r p0 Qc)).1) (Q1x p0.spec Ql (Q1x p0.spec Qx (Q26 p0.spec (Q56 p0.spec Q13 (Q1r p0 Qc)).2).2).2).2).1, (Qsn (NetworkPolicy.mk p0.meta_ (Q26 p0.spec (Q56 p0.spec Q13 (Q1r p0 Qc)).2).1 (Q1x p0.spec Qx (Q26 p0.spec (Q56 p0.spec Q13 (Q1r p0 Qc)).2).2).1 (Q1x p0.spec Ql (Q1x p0.spec Qx (Q26 p0.spec (Q56 p0.spec Q13 (Q1r p0 Qc)).2).2).2).1 (Q56 p0.spec Q13 (Q1r p0 Qc)).1) (Q1x p0.spec Ql (Q1x p0.spec Qx (Q26 p0.spec (Q56 p0.spec Q13 (Q1r p0 Qc)).2).2).2).2).2)) := by
  simp only [Q1x, Q26, Q56, Qsn, Q1r, Q61]
  refine Eq.trans ?_ (Qab _ _).symm
  refine Qsi ?_ rfl
  unfold NetworkPolicy.cnt
  omega
def Q1dw (p0 : Object) : En := .call 15 [.agg (Object.cells p0)] []
def Q19c (p0 : Object) : Rs := .ret (.tup [.agg (NetworkPolicy.cells (Q12l p0).1), .int .i64 (Q12l p0).2]) []
def Q146 (p0 : Object) : Prop := Qat p0.meta_ ∧ Object.sm p0
theorem Q99 (p0 : Object) (H : Q146 p0) : (Q16w p0.spec) ∧ (Qat p0.meta_) ∧ (Qyz p0.spec) ∧ (Qws p0.spec) ∧ True := by
  repeat' with_reducible apply And.intro
  all_goals first | exact True.intro | exact H.1 | exact H.2 | exact H.2.1 | exact H.2.2 | exact Q3w H.2.1 _ | exact Q3w H.2.2 _
theorem Q1hd (p0 : Object) (H : Q146 p0) : Q6 G (Q1dw p0) (Q19c p0) := by
 unfold Q19c
 rw [Q1f8]
 exact Q8 (fn := Ir.K1h) rfl VOK.nil [] [aN (Q17y p0 Qc), aN (Q1hn p0.spec Q13 (Q1r p0 Qc) (Q99 p0 H).1), aN (Q15n p0.meta_ (Q99 p0 H).2.1), aN (Q17w p0.spec (Q56 p0.spec Q13 (Q1r p0 Qc)).2 (Q99 p0 H).2.2.1), aN (Qy6 p0.spec Qx (Q26 p0.spec (Q56 p0.spec Q13 (Q1r p0 Qc)).2).2 (Q99 p0 H).2.2.2.1), aN (Qy6 p0.spec Ql (Q1x p0.spec Qx (Q26 p0.spec (Q56 p0.spec Q13 (Q1r p0 Qc)).2).2).2 (Q99 p0 H).2.2.2.1), aN (Q1hy (NetworkPolicy.mk p0.meta_ (Q26 p0.spec (Q56 p0.spec Q13 (Q1r p0 Qc)).2).1 (Q1x p0.spec Qx (Q26 p0.spec (Q56 p0.spec Q13 (Q1r p0 Qc)).2).2).1 (Q1x p0.spec Ql (Q1x p0.spec Qx (Q26 p0.spec (Q56 p0.spec Q13 (Q1r p0 Qc)).2).2).2).1 (Q56 p0.spec Q13 (Q1r p0 Qc)).1) (Q1x p0.spec Ql (Q1x p0.spec Qx (Q26 p0.spec (Q56 p0.spec Q13 (Q1r p0 Qc)).2).2).2).2)] (by kernel_rfl)
end Go.Proofs.YtbagpdebihicnaaGreat
end

