/- Texts of the claim, merged by a program; what the statement does not reach is left out. -/
import Derived.Test.YtiflaadeikaghaaGreatBPodcodecDecodes8
import Derived.Lib.Strings
import Derived.Lib.Slices
import Derived.Lib.Walk
import Derived.Lib.Bytealg

section
/- What the reference's decoders compute (printed by a program). -/
namespace Go.Proofs.YtiflaadeikaghaaGreat
open Go.Pv
def Q32 (p0 : Val) : List Val → Nat → (List ContainerStatus) → Bool → (List ContainerStatus) × Bool
 | [], _i0, v0_1, v0_2 =>
  (v0_1, v0_2)
 | x0 :: r0, i0, v0_1, v0_2 =>
  bif (v0_2 == true) then
   bif (Q1u x0) then
    bif (Q5 x0 Qc).2 then
     bif (Qj x0 Qf).2 then
      bif (Qn x0 Qa).2 then
       bif (Q5 x0 Qd).2 then
        bif (Q5 x0 Qk).2 then
         bif (Qn x0 Qg).2 then
          Q32 p0 r0 (i0 + 1) (v0_1 ++ [(ContainerStatus.mk (Qj x0 Qf).1 (Q5 x0 Qq).1 (Q5 x0 Qd).1 (Q5 x0 Qc).1 (Q5 x0 Qk).1 (Qn x0 Qa).1 (Qn x0 Qg).1)]) (Q5 x0 Qq).2
         else
          Q32 p0 r0 (i0 + 1) (v0_1 ++ [(ContainerStatus.mk (Qj x0 Qf).1 (Q5 x0 Qq).1 (Q5 x0 Qd).1 (Q5 x0 Qc).1 (Q5 x0 Qk).1 (Qn x0 Qa).1 (Qn x0 Qg).1)]) false
        else
         Q32 p0 r0 (i0 + 1) (v0_1 ++ [(ContainerStatus.mk (Qj x0 Qf).1 (Q5 x0 Qq).1 (Q5 x0 Qd).1 (Q5 x0 Qc).1 (Q5 x0 Qk).1 (Qn x0 Qa).1 (Qn x0 Qg).1)]) false
       else
        Q32 p0 r0 (i0 + 1) (v0_1 ++ [(ContainerStatus.mk (Qj x0 Qf).1 (Q5 x0 Qq).1 (Q5 x0 Qd).1 (Q5 x0 Qc).1 (Q5 x0 Qk).1 (Qn x0 Qa).1 (Qn x0 Qg).1)]) false
      else
       Q32 p0 r0 (i0 + 1) (v0_1 ++ [(ContainerStatus.mk (Qj x0 Qf).1 (Q5 x0 Qq).1 (Q5 x0 Qd).1 (Q5 x0 Qc).1 (Q5 x0 Qk).1 (Qn x0 Qa).1 (Qn x0 Qg).1)]) false
     else
      Q32 p0 r0 (i0 + 1) (v0_1 ++ [(ContainerStatus.mk (Qj x0 Qf).1 (Q5 x0 Qq).1 (Q5 x0 Qd).1 (Q5 x0 Qc).1 (Q5 x0 Qk).1 (Qn x0 Qa).1 (Qn x0 Qg).1)]) false
    else
     Q32 p0 r0 (i0 + 1) (v0_1 ++ [(ContainerStatus.mk (Qj x0 Qf).1 (Q5 x0 Qq).1 (Q5 x0 Qd).1 (Q5 x0 Qc).1 (Q5 x0 Qk).1 (Qn x0 Qa).1 (Qn x0 Qg).1)]) false
   else
    Q32 p0 r0 (i0 + 1) (v0_1 ++ [(ContainerStatus.mk (Qj x0 Qf).1 (Q5 x0 Qq).1 (Q5 x0 Qd).1 (Q5 x0 Qc).1 (Q5 x0 Qk).1 (Qn x0 Qa).1 (Qn x0 Qg).1)]) false
  else
   Q32 p0 r0 (i0 + 1) (v0_1 ++ [(ContainerStatus.mk (Qj x0 Qf).1 (Q5 x0 Qq).1 (Q5 x0 Qd).1 (Q5 x0 Qc).1 (Q5 x0 Qk).1 (Qn x0 Qa).1 (Qn x0 Qg).1)]) false
def Q4z (p0 : Val) (i0 : Nat) (v0_1 : List ContainerStatus) (v0_2 : Bool) : List PV :=
  [.un, .un, .un, .un, .sl (Val.rows (Qb p0 Q0).1), .bool v0_2, .ms 0 7 0 (List.length v0_1), .int .i64 (i0 : Int)] ++ nuns 155
def Q4i (_p0 : Val) (_i0 : Nat) (v0_1 : List ContainerStatus) (_v0_2 : Bool) : List Ob :=
  [⟨7, 0, true, (ContainerStatus.rows v0_1).flatten⟩]
def Q3c (p0 : Val) (i0 : Nat) (v0_1 : List ContainerStatus) (v0_2 : Bool) : En := .loop 0 Ir.Qhq Ir.Q1en (Q4z p0 i0 v0_1 v0_2) (Q4i p0 i0 v0_1 v0_2)
def Qro (_p0 : Val) (q0 : List ContainerStatus) (q1 : Bool) (z : Nat → PV) (_zo : Nat → List PV) : St :=
  ⟨zr z 0 5 ++ [.bool q1, .ms 0 7 0 (List.length q0)] ++ zr z 7 156, [(0, ⟨7, 0, true, (ContainerStatus.rows q0).flatten⟩)], 257⟩
theorem Q69 (p0 : Val) (i0 : Nat) (v0_1 : List ContainerStatus) (v0_2 : Bool) : VOK (Go.Pv.look (number 0 (Q4i p0 i0 v0_1 v0_2))) [(0, ContainerStatus.rows v0_1)] := (VOK.cons (show Seen _ _ from Q42 (ob := ⟨7, 0, true, (ContainerStatus.rows v0_1).flatten⟩) (ContainerStatus.Qp v0_1 7 rfl)) VOK.nil)
def Qgc (p0 : Val) (e : En) (q : (List ContainerStatus) × Bool) : Prop := ∃ z zo, Qi G e (.st (.exit 0) (Qro p0 q.1 q.2 z zo))
theorem Q3k (p0 : Val) {e e' : En} (h : ∀ r, Qi G e r → Qi G e' r) : ∀ q, Qgc p0 e q → Qgc p0 e' q
  | _, ⟨z, zo, hz⟩ => ⟨z, zo, h _ hz⟩
def Q4n (p0 : Val) : Prop := (List.length (Qb p0 Q0).1 ≤ 137438953472) ∧ (∀ x0 ∈ (Qb p0 Q0).1, Qai x0) ∧ (∀ x0 ∈ (Qb p0 Q0).1, Qdv x0) ∧ (∀ x0 ∈ (Qb p0 Q0).1, Qnc x0) ∧ True
def Qpn (p0 : Val) (i0 : Nat) (_v0_1 : List ContainerStatus) (_v0_2 : Bool) : List PV :=
  [.un, .un, .un, .un, .sl (Val.rows (Qb p0 Q0).1), .un, .un, .int .i64 (i0 : Int)] ++ nuns 21 ++ [.int .i64 (i0 : Int), .sl (Val.rows (Qb p0 Q0).1), .int .i64 ((List.length (Qb p0 Q0).1) : Int), .bool false]
def Qmi (_p0 : Val) (_i0 : Nat) (_v0_1 : List ContainerStatus) (_v0_2 : Bool) : List (Nat × List PV) :=
  []
theorem Q16e (p0 : Val) (_H : Q4n p0) (i0 : Nat) (v0_1 : List ContainerStatus) (v0_2 : Bool) (_ho0_0 : List.length v0_1 ≤ i0) (hc0 : (decide ((i0 : Int) < ((List.length (Qb p0 Q0).1) : Int))) = false) : Qgc p0 (Q3c p0 i0 v0_1 v0_2) (v0_1, v0_2) := by
 exact ⟨(envF (Qpn p0 i0 v0_1 v0_2)), (zoF (Qmi p0 i0 v0_1 v0_2)), Q10 (Q69 p0 i0 v0_1 v0_2) (x := ((.exit 0), Qro p0 v0_1 v0_2 (envF (Qpn p0 i0 v0_1 v0_2)) (zoF (Qmi p0 i0 v0_1 v0_2)))) [hP 2 (Qz (Val.rows (Qb p0 Q0).1) (List.length (Qb p0 Q0).1) (Val.Q9 (Qb p0 Q0).1)), hB 0 hc0] [] (by kernel_rfl)⟩
theorem Q195 (p0 : Val) (H : Q4n p0) (x0 : Val) (i0 : Nat) (v0_1 : List ContainerStatus) (v0_2 : Bool) (hx0 : (Qb p0 Q0).1[i0]? = some x0) (hi0 : i0 < List.length (Qb p0 Q0).1) (ho0_0 : List.length v0_1 ≤ i0) (hc0 : (decide ((i0 : Int) < ((List.length (Qb p0 Q0).1) : Int))) = true) (h0 : (v0_2 == true) = true) (h1 : (Q1u x0) = true) (h2 : (Q5 x0 Qc).2 = true) (h3 : (Qj x0 Qf).2 = true) (h4 : (Qn x0 Qa).2 = true) (h5 : (Q5 x0 Qd).2 = true) (h6 : (Q5 x0 Qk).2 = true) (h7 : (Qn x0 Qg).2 = true) {r : Rs} (hr : Qi G (Q3c p0 (i0 + 1) (v0_1 ++ [(ContainerStatus.mk (Qj x0 Qf).1 (Q5 x0 Qq).1 (Q5 x0 Qd).1 (Q5 x0 Qc).1 (Q5 x0 Qk).1 (Qn x0 Qa).1 (Qn x0 Qg).1)]) (Q5 x0 Qq).2) r) : Qi G (Q3c p0 i0 v0_1 v0_2) r := by
 have hB0 := H.1
 exact Qw (Q69 p0 i0 v0_1 v0_2) (y := (Q4z p0 (i0 + 1) (v0_1 ++ [(ContainerStatus.mk (Qj x0 Qf).1 (Q5 x0 Qq).1 (Q5 x0 Qd).1 (Q5 x0 Qc).1 (Q5 x0 Qk).1 (Qn x0 Qa).1 (Qn x0 Qg).1)]) (Q5 x0 Qq).2, Q4i p0 (i0 + 1) (v0_1 ++ [(ContainerStatus.mk (Qj x0 Qf).1 (Q5 x0 Qq).1 (Q5 x0 Qd).1 (Q5 x0 Qc).1 (Q5 x0 Qk).1 (Qn x0 Qa).1 (Qn x0 Qg).1)]) (Q5 x0 Qq).2)) [hP 2 (Qz (Val.rows (Qb p0 Q0).1) (List.length (Qb p0 Q0).1) (Val.Q9 (Qb p0 Q0).1)), hB 0 hc0, hP 8 (Q15 5 (Val.rows (Qb p0 Q0).1) i0 _ (Val.Qe hx0) rfl), hP 15 (Q15 5 (Val.rows (Qb p0 Q0).1) i0 _ (Val.Qe hx0) rfl), hP 15 (Q15 5 (Val.rows (Qb p0 Q0).1) i0 _ (Val.Qe hx0) rfl), hP 15 (Q15 5 (Val.rows (Qb p0 Q0).1) i0 _ (Val.Qe hx0) rfl), hP 15 (Q15 5 (Val.rows (Qb p0 Q0).1) i0 _ (Val.Qe hx0) rfl), hP 15 (Q15 5 (Val.rows (Qb p0 Q0).1) i0 _ (Val.Qe hx0) rfl), hP 15 (Q15 5 (Val.rows (Qb p0 Q0).1) i0 _ (Val.Qe hx0) rfl), hV 16 [(8001, ContainerStatus.rows (v0_1 ++ [(ContainerStatus.mk (Qj x0 Qf).1 (Q5 x0 Qq).1 (Q5 x0 Qd).1 (Q5 x0 Qc).1 (Q5 x0 Qk).1 (Qn x0 Qa).1 (Qn x0 Qg).1)]))] (Q3g 0 7937 8001 7 56 0 0 true (ContainerStatus.rows v0_1) (ContainerStatus.rows (v0_1 ++ [(ContainerStatus.mk (Qj x0 Qf).1 (Q5 x0 Qq).1 (Q5 x0 Qd).1 (Q5 x0 Qc).1 (Q5 x0 Qk).1 (Qn x0 Qa).1 (Qn x0 Qg).1)])) (ContainerStatus.cells (ContainerStatus.mk (Qj x0 Qf).1 (Q5 x0 Qq).1 (Q5 x0 Qd).1 (Q5 x0 Qc).1 (Q5 x0 Qk).1 (Qn x0 Qa).1 (Qn x0 Qg).1)) (List.length v0_1) (List.length (v0_1 ++ [(ContainerStatus.mk (Qj x0 Qf).1 (Q5 x0 Qq).1 (Q5 x0 Qd).1 (Q5 x0 Qc).1 (Q5 x0 Qk).1 (Qn x0 Qa).1 (Qn x0 Qg).1)])) rfl (ContainerStatus.Q9 v0_1).symm (ContainerStatus.Q9 (v0_1 ++ [(ContainerStatus.mk (Qj x0 Qf).1 (Q5 x0 Qq).1 (Q5 x0 Qd).1 (Q5 x0 Qc).1 (Q5 x0 Qk).1 (Qn x0 Qa).1 (Qn x0 Qg).1)])).symm (ContainerStatus.Q1n v0_1 (ContainerStatus.mk (Qj x0 Qf).1 (Q5 x0 Qq).1 (Q5 x0 Qd).1 (Q5 x0 Qc).1 (Q5 x0 Qk).1 (Qn x0 Qa).1 (Qn x0 Qg).1)) (ContainerStatus.Q16 v0_1) rfl (by omega)), hS 0 true (ContainerStatus.Qp (v0_1 ++ [(ContainerStatus.mk (Qj x0 Qf).1 (Q5 x0 Qq).1 (Q5 x0 Qd).1 (Q5 x0 Qc).1 (Q5 x0 Qk).1 (Qn x0 Qa).1 (Qn x0 Qg).1)]) 7 rfl), hB 1 (beqT h0), hP 3 (Q15 5 (Val.rows (Qb p0 Q0).1) i0 _ (Val.Qe hx0) rfl), hP 5 (decR (Q5 x0 Qc).2 true [513] h2), hP 3 (decR (Qj x0 Qf).2 true [513] h3), hP 3 (decR (Qn x0 Qa).2 true [513] h4), hP 3 (decR (Q5 x0 Qd).2 true [513] h5), hP 3 (decR (Q5 x0 Qk).2 true [513] h6), hP 3 (decR (Qn x0 Qg).2 true [513] h7), hP 7 (Q25 i0 (by omega))] [aN (Q2m x0 Qc (H.2.1 x0 (Q13 hx0))), aN (Q3f x0 Qf (H.2.2.1 x0 (Q13 hx0))), aN (Q3j x0 Qa (H.2.2.2.1 x0 (Q13 hx0))), aN (Q2m x0 Qd (H.2.1 x0 (Q13 hx0))), aN (Q2m x0 Qk (H.2.1 x0 (Q13 hx0))), aN (Q3j x0 Qg (H.2.2.2.1 x0 (Q13 hx0))), aN (Q2m x0 Qq (H.2.1 x0 (Q13 hx0))), aB (Q4g x0) h1] (by kernel_rfl) hr
theorem Q17q (p0 : Val) (H : Q4n p0) (x0 : Val) (i0 : Nat) (v0_1 : List ContainerStatus) (v0_2 : Bool) (hx0 : (Qb p0 Q0).1[i0]? = some x0) (hi0 : i0 < List.length (Qb p0 Q0).1) (ho0_0 : List.length v0_1 ≤ i0) (hc0 : (decide ((i0 : Int) < ((List.length (Qb p0 Q0).1) : Int))) = true) (h0 : (v0_2 == true) = true) (h1 : (Q1u x0) = true) (h2 : (Q5 x0 Qc).2 = true) (h3 : (Qj x0 Qf).2 = true) (h4 : (Qn x0 Qa).2 = true) (h5 : (Q5 x0 Qd).2 = true) (h6 : (Q5 x0 Qk).2 = true) (h7 : (Qn x0 Qg).2 = false) {r : Rs} (hr : Qi G (Q3c p0 (i0 + 1) (v0_1 ++ [(ContainerStatus.mk (Qj x0 Qf).1 (Q5 x0 Qq).1 (Q5 x0 Qd).1 (Q5 x0 Qc).1 (Q5 x0 Qk).1 (Qn x0 Qa).1 (Qn x0 Qg).1)]) false) r) : Qi G (Q3c p0 i0 v0_1 v0_2) r := by
 have hB0 := H.1
 exact Qw (Q69 p0 i0 v0_1 v0_2) (y := (Q4z p0 (i0 + 1) (v0_1 ++ [(ContainerStatus.mk (Qj x0 Qf).1 (Q5 x0 Qq).1 (Q5 x0 Qd).1 (Q5 x0 Qc).1 (Q5 x0 Qk).1 (Qn x0 Qa).1 (Qn x0 Qg).1)]) false, Q4i p0 (i0 + 1) (v0_1 ++ [(ContainerStatus.mk (Qj x0 Qf).1 (Q5 x0 Qq).1 (Q5 x0 Qd).1 (Q5 x0 Qc).1 (Q5 x0 Qk).1 (Qn x0 Qa).1 (Qn x0 Qg).1)]) false)) [hP 2 (Qz (Val.rows (Qb p0 Q0).1) (List.length (Qb p0 Q0).1) (Val.Q9 (Qb p0 Q0).1)), hB 0 hc0, hP 8 (Q15 5 (Val.rows (Qb p0 Q0).1) i0 _ (Val.Qe hx0) rfl), hP 15 (Q15 5 (Val.rows (Qb p0 Q0).1) i0 _ (Val.Qe hx0) rfl), hP 15 (Q15 5 (Val.rows (Qb p0 Q0).1) i0 _ (Val.Qe hx0) rfl), hP 15 (Q15 5 (Val.rows (Qb p0 Q0).1) i0 _ (Val.Qe hx0) rfl), hP 15 (Q15 5 (Val.rows (Qb p0 Q0).1) i0 _ (Val.Qe hx0) rfl), hP 15 (Q15 5 (Val.rows (Qb p0 Q0).1) i0 _ (Val.Qe hx0) rfl), hP 15 (Q15 5 (Val.rows (Qb p0 Q0).1) i0 _ (Val.Qe hx0) rfl), hV 16 [(8001, ContainerStatus.rows (v0_1 ++ [(ContainerStatus.mk (Qj x0 Qf).1 (Q5 x0 Qq).1 (Q5 x0 Qd).1 (Q5 x0 Qc).1 (Q5 x0 Qk).1 (Qn x0 Qa).1 (Qn x0 Qg).1)]))] (Q3g 0 7937 8001 7 56 0 0 true (ContainerStatus.rows v0_1) (ContainerStatus.rows (v0_1 ++ [(ContainerStatus.mk (Qj x0 Qf).1 (Q5 x0 Qq).1 (Q5 x0 Qd).1 (Q5 x0 Qc).1 (Q5 x0 Qk).1 (Qn x0 Qa).1 (Qn x0 Qg).1)])) (ContainerStatus.cells (ContainerStatus.mk (Qj x0 Qf).1 (Q5 x0 Qq).1 (Q5 x0 Qd).1 (Q5 x0 Qc).1 (Q5 x0 Qk).1 (Qn x0 Qa).1 (Qn x0 Qg).1)) (List.length v0_1) (List.length (v0_1 ++ [(ContainerStatus.mk (Qj x0 Qf).1 (Q5 x0 Qq).1 (Q5 x0 Qd).1 (Q5 x0 Qc).1 (Q5 x0 Qk).1 (Qn x0 Qa).1 (Qn x0 Qg).1)])) rfl (ContainerStatus.Q9 v0_1).symm (ContainerStatus.Q9 (v0_1 ++ [(ContainerStatus.mk (Qj x0 Qf).1 (Q5 x0 Qq).1 (Q5 x0 Qd).1 (Q5 x0 Qc).1 (Q5 x0 Qk).1 (Qn x0 Qa).1 (Qn x0 Qg).1)])).symm (ContainerStatus.Q1n v0_1 (ContainerStatus.mk (Qj x0 Qf).1 (Q5 x0 Qq).1 (Q5 x0 Qd).1 (Q5 x0 Qc).1 (Q5 x0 Qk).1 (Qn x0 Qa).1 (Qn x0 Qg).1)) (ContainerStatus.Q16 v0_1) rfl (by omega)), hS 0 true (ContainerStatus.Qp (v0_1 ++ [(ContainerStatus.mk (Qj x0 Qf).1 (Q5 x0 Qq).1 (Q5 x0 Qd).1 (Q5 x0 Qc).1 (Q5 x0 Qk).1 (Qn x0 Qa).1 (Qn x0 Qg).1)]) 7 rfl), hB 1 (beqT h0), hP 3 (Q15 5 (Val.rows (Qb p0 Q0).1) i0 _ (Val.Qe hx0) rfl), hP 5 (decR (Q5 x0 Qc).2 true [513] h2), hP 3 (decR (Qj x0 Qf).2 true [513] h3), hP 3 (decR (Qn x0 Qa).2 true [513] h4), hP 3 (decR (Q5 x0 Qd).2 true [513] h5), hP 3 (decR (Q5 x0 Qk).2 true [513] h6), hP 3 (decR (Qn x0 Qg).2 false [513] h7), hP 7 (Q25 i0 (by omega))] [aN (Q2m x0 Qc (H.2.1 x0 (Q13 hx0))), aN (Q3f x0 Qf (H.2.2.1 x0 (Q13 hx0))), aN (Q3j x0 Qa (H.2.2.2.1 x0 (Q13 hx0))), aN (Q2m x0 Qd (H.2.1 x0 (Q13 hx0))), aN (Q2m x0 Qk (H.2.1 x0 (Q13 hx0))), aN (Q3j x0 Qg (H.2.2.2.1 x0 (Q13 hx0))), aN (Q2m x0 Qq (H.2.1 x0 (Q13 hx0))), aB (Q4g x0) h1] (by kernel_rfl) hr
theorem Q16v (p0 : Val) (H : Q4n p0) (x0 : Val) (i0 : Nat) (v0_1 : List ContainerStatus) (v0_2 : Bool) (hx0 : (Qb p0 Q0).1[i0]? = some x0) (hi0 : i0 < List.length (Qb p0 Q0).1) (ho0_0 : List.length v0_1 ≤ i0) (hc0 : (decide ((i0 : Int) < ((List.length (Qb p0 Q0).1) : Int))) = true) (h0 : (v0_2 == true) = true) (h1 : (Q1u x0) = true) (h2 : (Q5 x0 Qc).2 = true) (h3 : (Qj x0 Qf).2 = true) (h4 : (Qn x0 Qa).2 = true) (h5 : (Q5 x0 Qd).2 = true) (h6 : (Q5 x0 Qk).2 = false) {r : Rs} (hr : Qi G (Q3c p0 (i0 + 1) (v0_1 ++ [(ContainerStatus.mk (Qj x0 Qf).1 (Q5 x0 Qq).1 (Q5 x0 Qd).1 (Q5 x0 Qc).1 (Q5 x0 Qk).1 (Qn x0 Qa).1 (Qn x0 Qg).1)]) false) r) : Qi G (Q3c p0 i0 v0_1 v0_2) r := by
 have hB0 := H.1
 exact Qw (Q69 p0 i0 v0_1 v0_2) (y := (Q4z p0 (i0 + 1) (v0_1 ++ [(ContainerStatus.mk (Qj x0 Qf).1 (Q5 x0 Qq).1 (Q5 x0 Qd).1 (Q5 x0 Qc).1 (Q5 x0 Qk).1 (Qn x0 Qa).1 (Qn x0 Qg).1)]) false, Q4i p0 (i0 + 1) (v0_1 ++ [(ContainerStatus.mk (Qj x0 Qf).1 (Q5 x0 Qq).1 (Q5 x0 Qd).1 (Q5 x0 Qc).1 (Q5 x0 Qk).1 (Qn x0 Qa).1 (Qn x0 Qg).1)]) false)) [hP 2 (Qz (Val.rows (Qb p0 Q0).1) (List.length (Qb p0 Q0).1) (Val.Q9 (Qb p0 Q0).1)), hB 0 hc0, hP 8 (Q15 5 (Val.rows (Qb p0 Q0).1) i0 _ (Val.Qe hx0) rfl), hP 15 (Q15 5 (Val.rows (Qb p0 Q0).1) i0 _ (Val.Qe hx0) rfl), hP 15 (Q15 5 (Val.rows (Qb p0 Q0).1) i0 _ (Val.Qe hx0) rfl), hP 15 (Q15 5 (Val.rows (Qb p0 Q0).1) i0 _ (Val.Qe hx0) rfl), hP 15 (Q15 5 (Val.rows (Qb p0 Q0).1) i0 _ (Val.Qe hx0) rfl), hP 15 (Q15 5 (Val.rows (Qb p0 Q0).1) i0 _ (Val.Qe hx0) rfl), hP 15 (Q15 5 (Val.rows (Qb p0 Q0).1) i0 _ (Val.Qe hx0) rfl), hV 16 [(8001, ContainerStatus.rows (v0_1 ++ [(ContainerStatus.mk (Qj x0 Qf).1 (Q5 x0 Qq).1 (Q5 x0 Qd).1 (Q5 x0 Qc).1 (Q5 x0 Qk).1 (Qn x0 Qa).1 (Qn x0 Qg).1)]))] (Q3g 0 7937 8001 7 56 0 0 true (ContainerStatus.rows v0_1) (ContainerStatus.rows (v0_1 ++ [(ContainerStatus.mk (Qj x0 Qf).1 (Q5 x0 Qq).1 (Q5 x0 Qd).1 (Q5 x0 Qc).1 (Q5 x0 Qk).1 (Qn x0 Qa).1 (Qn x0 Qg).1)])) (ContainerStatus.cells (ContainerStatus.mk (Qj x0 Qf).1 (Q5 x0 Qq).1 (Q5 x0 Qd).1 (Q5 x0 Qc).1 (Q5 x0 Qk).1 (Qn x0 Qa).1 (Qn x0 Qg).1)) (List.length v0_1) (List.length (v0_1 ++ [(ContainerStatus.mk (Qj x0 Qf).1 (Q5 x0 Qq).1 (Q5 x0 Qd).1 (Q5 x0 Qc).1 (Q5 x0 Qk).1 (Qn x0 Qa).1 (Qn x0 Qg).1)])) rfl (ContainerStatus.Q9 v0_1).symm (ContainerStatus.Q9 (v0_1 ++ [(ContainerStatus.mk (Qj x0 Qf).1 (Q5 x0 Qq).1 (Q5 x0 Qd).1 (Q5 x0 Qc).1 (Q5 x0 Qk).1 (Qn x0 Qa).1 (Qn x0 Qg).1)])).symm (ContainerStatus.Q1n v0_1 (ContainerStatus.mk (Qj x0 Qf).1 (Q5 x0 Qq).1 (Q5 x0 Qd).1 (Q5 x0 Qc).1 (Q5 x0 Qk).1 (Qn x0 Qa).1 (Qn x0 Qg).1)) (ContainerStatus.Q16 v0_1) rfl (by omega)), hS 0 true (ContainerStatus.Qp (v0_1 ++ [(ContainerStatus.mk (Qj x0 Qf).1 (Q5 x0 Qq).1 (Q5 x0 Qd).1 (Q5 x0 Qc).1 (Q5 x0 Qk).1 (Qn x0 Qa).1 (Qn x0 Qg).1)]) 7 rfl), hB 1 (beqT h0), hP 3 (Q15 5 (Val.rows (Qb p0 Q0).1) i0 _ (Val.Qe hx0) rfl), hP 5 (decR (Q5 x0 Qc).2 true [513] h2), hP 3 (decR (Qj x0 Qf).2 true [513] h3), hP 3 (decR (Qn x0 Qa).2 true [513] h4), hP 3 (decR (Q5 x0 Qd).2 true [513] h5), hP 3 (decR (Q5 x0 Qk).2 false [513] h6), hP 11 (Q25 i0 (by omega))] [aN (Q2m x0 Qc (H.2.1 x0 (Q13 hx0))), aN (Q3f x0 Qf (H.2.2.1 x0 (Q13 hx0))), aN (Q3j x0 Qa (H.2.2.2.1 x0 (Q13 hx0))), aN (Q2m x0 Qd (H.2.1 x0 (Q13 hx0))), aN (Q2m x0 Qk (H.2.1 x0 (Q13 hx0))), aN (Q3j x0 Qg (H.2.2.2.1 x0 (Q13 hx0))), aN (Q2m x0 Qq (H.2.1 x0 (Q13 hx0))), aB (Q4g x0) h1] (by kernel_rfl) hr
theorem Q194 (p0 : Val) (H : Q4n p0) (x0 : Val) (i0 : Nat) (v0_1 : List ContainerStatus) (v0_2 : Bool) (hx0 : (Qb p0 Q0).1[i0]? = some x0) (hi0 : i0 < List.length (Qb p0 Q0).1) (ho0_0 : List.length v0_1 ≤ i0) (hc0 : (decide ((i0 : Int) < ((List.length (Qb p0 Q0).1) : Int))) = true) (h0 : (v0_2 == true) = true) (h1 : (Q1u x0) = true) (h2 : (Q5 x0 Qc).2 = true) (h3 : (Qj x0 Qf).2 = true) (h4 : (Qn x0 Qa).2 = true) (h5 : (Q5 x0 Qd).2 = false) {r : Rs} (hr : Qi G (Q3c p0 (i0 + 1) (v0_1 ++ [(ContainerStatus.mk (Qj x0 Qf).1 (Q5 x0 Qq).1 (Q5 x0 Qd).1 (Q5 x0 Qc).1 (Q5 x0 Qk).1 (Qn x0 Qa).1 (Qn x0 Qg).1)]) false) r) : Qi G (Q3c p0 i0 v0_1 v0_2) r := by
 have hB0 := H.1
 exact Qw (Q69 p0 i0 v0_1 v0_2) (y := (Q4z p0 (i0 + 1) (v0_1 ++ [(ContainerStatus.mk (Qj x0 Qf).1 (Q5 x0 Qq).1 (Q5 x0 Qd).1 (Q5 x0 Qc).1 (Q5 x0 Qk).1 (Qn x0 Qa).1 (Qn x0 Qg).1)]) false, Q4i p0 (i0 + 1) (v0_1 ++ [(ContainerStatus.mk (Qj x0 Qf).1 (Q5 x0 Qq).1 (Q5 x0 Qd).1 (Q5 x0 Qc).1 (Q5 x0 Qk).1 (Qn x0 Qa).1 (Qn x0 Qg).1)]) false)) [hP 2 (Qz (Val.rows (Qb p0 Q0).1) (List.length (Qb p0 Q0).1) (Val.Q9 (Qb p0 Q0).1)), hB 0 hc0, hP 8 (Q15 5 (Val.rows (Qb p0 Q0).1) i0 _ (Val.Qe hx0) rfl), hP 15 (Q15 5 (Val.rows (Qb p0 Q0).1) i0 _ (Val.Qe hx0) rfl), hP 15 (Q15 5 (Val.rows (Qb p0 Q0).1) i0 _ (Val.Qe hx0) rfl), hP 15 (Q15 5 (Val.rows (Qb p0 Q0).1) i0 _ (Val.Qe hx0) rfl), hP 15 (Q15 5 (Val.rows (Qb p0 Q0).1) i0 _ (Val.Qe hx0) rfl), hP 15 (Q15 5 (Val.rows (Qb p0 Q0).1) i0 _ (Val.Qe hx0) rfl), hP 15 (Q15 5 (Val.rows (Qb p0 Q0).1) i0 _ (Val.Qe hx0) rfl), hV 16 [(8001, ContainerStatus.rows (v0_1 ++ [(ContainerStatus.mk (Qj x0 Qf).1 (Q5 x0 Qq).1 (Q5 x0 Qd).1 (Q5 x0 Qc).1 (Q5 x0 Qk).1 (Qn x0 Qa).1 (Qn x0 Qg).1)]))] (Q3g 0 7937 8001 7 56 0 0 true (ContainerStatus.rows v0_1) (ContainerStatus.rows (v0_1 ++ [(ContainerStatus.mk (Qj x0 Qf).1 (Q5 x0 Qq).1 (Q5 x0 Qd).1 (Q5 x0 Qc).1 (Q5 x0 Qk).1 (Qn x0 Qa).1 (Qn x0 Qg).1)])) (ContainerStatus.cells (ContainerStatus.mk (Qj x0 Qf).1 (Q5 x0 Qq).1 (Q5 x0 Qd).1 (Q5 x0 Qc).1 (Q5 x0 Qk).1 (Qn x0 Qa).1 (Qn x0 Qg).1)) (List.length v0_1) (List.length (v0_1 ++ [(ContainerStatus.mk (Qj x0 Qf).1 (Q5 x0 Qq).1 (Q5 x0 Qd).1 (Q5 x0 Qc).1 (Q5 x0 Qk).1 (Qn x0 Qa).1 (Qn x0 Qg).1)])) rfl (ContainerStatus.Q9 v0_1).symm (ContainerStatus.Q9 (v0_1 ++ [(ContainerStatus.mk (Qj x0 Qf).1 (Q5 x0 Qq).1 (Q5 x0 Qd).1 (Q5 x0 Qc).1 (Q5 x0 Qk).1 (Qn x0 Qa).1 (Qn x0 Qg).1)])).symm (ContainerStatus.Q1n v0_1 (ContainerStatus.mk (Qj x0 Qf).1 (Q5 x0 Qq).1 (Q5 x0 Qd).1 (Q5 x0 Qc).1 (Q5 x0 Qk).1 (Qn x0 Qa).1 (Qn x0 Qg).1)) (ContainerStatus.Q16 v0_1) rfl (by omega)), hS 0 true (ContainerStatus.Qp (v0_1 ++ [(ContainerStatus.mk (Qj x0 Qf).1 (Q5 x0 Qq).1 (Q5 x0 Qd).1 (Q5 x0 Qc).1 (Q5 x0 Qk).1 (Qn x0 Qa).1 (Qn x0 Qg).1)]) 7 rfl), hB 1 (beqT h0), hP 3 (Q15 5 (Val.rows (Qb p0 Q0).1) i0 _ (Val.Qe hx0) rfl), hP 5 (decR (Q5 x0 Qc).2 true [513] h2), hP 3 (decR (Qj x0 Qf).2 true [513] h3), hP 3 (decR (Qn x0 Qa).2 true [513] h4), hP 3 (decR (Q5 x0 Qd).2 false [513] h5), hP 15 (Q25 i0 (by omega))] [aN (Q2m x0 Qc (H.2.1 x0 (Q13 hx0))), aN (Q3f x0 Qf (H.2.2.1 x0 (Q13 hx0))), aN (Q3j x0 Qa (H.2.2.2.1 x0 (Q13 hx0))), aN (Q2m x0 Qd (H.2.1 x0 (Q13 hx0))), aN (Q2m x0 Qk (H.2.1 x0 (Q13 hx0))), aN (Q3j x0 Qg (H.2.2.2.1 x0 (Q13 hx0))), aN (Q2m x0 Qq (H.2.1 x0 (Q13 hx0))), aB (Q4g x0) h1] (by kernel_rfl) hr
theorem Q16g (p0 : Val) (H : Q4n p0) (x0 : Val) (i0 : Nat) (v0_1 : List ContainerStatus) (v0_2 : Bool) (hx0 : (Qb p0 Q0).1[i0]? = some x0) (hi0 : i0 < List.length (Qb p0 Q0).1) (ho0_0 : List.length v0_1 ≤ i0) (hc0 : (decide ((i0 : Int) < ((List.length (Qb p0 Q0).1) : Int))) = true) (h0 : (v0_2 == true) = true) (h1 : (Q1u x0) = true) (h2 : (Q5 x0 Qc).2 = true) (h3 : (Qj x0 Qf).2 = true) (h4 : (Qn x0 Qa).2 = false) {r : Rs} (hr : Qi G (Q3c p0 (i0 + 1) (v0_1 ++ [(ContainerStatus.mk (Qj x0 Qf).1 (Q5 x0 Qq).1 (Q5 x0 Qd).1 (Q5 x0 Qc).1 (Q5 x0 Qk).1 (Qn x0 Qa).1 (Qn x0 Qg).1)]) false) r) : Qi G (Q3c p0 i0 v0_1 v0_2) r := by
 have hB0 := H.1
 exact Qw (Q69 p0 i0 v0_1 v0_2) (y := (Q4z p0 (i0 + 1) (v0_1 ++ [(ContainerStatus.mk (Qj x0 Qf).1 (Q5 x0 Qq).1 (Q5 x0 Qd).1 (Q5 x0 Qc).1 (Q5 x0 Qk).1 (Qn x0 Qa).1 (Qn x0 Qg).1)]) false, Q4i p0 (i0 + 1) (v0_1 ++ [(ContainerStatus.mk (Qj x0 Qf).1 (Q5 x0 Qq).1 (Q5 x0 Qd).1 (Q5 x0 Qc).1 (Q5 x0 Qk).1 (Qn x0 Qa).1 (Qn x0 Qg).1)]) false)) [hP 2 (Qz (Val.rows (Qb p0 Q0).1) (List.length (Qb p0 Q0).1) (Val.Q9 (Qb p0 Q0).1)), hB 0 hc0, hP 8 (Q15 5 (Val.rows (Qb p0 Q0).1) i0 _ (Val.Qe hx0) rfl), hP 15 (Q15 5 (Val.rows (Qb p0 Q0).1) i0 _ (Val.Qe hx0) rfl), hP 15 (Q15 5 (Val.rows (Qb p0 Q0).1) i0 _ (Val.Qe hx0) rfl), hP 15 (Q15 5 (Val.rows (Qb p0 Q0).1) i0 _ (Val.Qe hx0) rfl), hP 15 (Q15 5 (Val.rows (Qb p0 Q0).1) i0 _ (Val.Qe hx0) rfl), hP 15 (Q15 5 (Val.rows (Qb p0 Q0).1) i0 _ (Val.Qe hx0) rfl), hP 15 (Q15 5 (Val.rows (Qb p0 Q0).1) i0 _ (Val.Qe hx0) rfl), hV 16 [(8001, ContainerStatus.rows (v0_1 ++ [(ContainerStatus.mk (Qj x0 Qf).1 (Q5 x0 Qq).1 (Q5 x0 Qd).1 (Q5 x0 Qc).1 (Q5 x0 Qk).1 (Qn x0 Qa).1 (Qn x0 Qg).1)]))] (Q3g 0 7937 8001 7 56 0 0 true (ContainerStatus.rows v0_1) (ContainerStatus.rows (v0_1 ++ [(ContainerStatus.mk (Qj x0 Qf).1 (Q5 x0 Qq).1 (Q5 x0 Qd).1 (Q5 x0 Qc).1 (Q5 x0 Qk).1 (Qn x0 Qa).1 (Qn x0 Qg).1)])) (ContainerStatus.cells (ContainerStatus.mk (Qj x0 Qf).1 (Q5 x0 Qq).1 (Q5 x0 Qd).1 (Q5 x0 Qc).1 (Q5 x0 Qk).1 (Qn x0 Qa).1 (Qn x0 Qg).1)) (List.length v0_1) (List.length (v0_1 ++ [(ContainerStatus.mk (Qj x0 Qf).1 (Q5 x0 Qq).1 (Q5 x0 Qd).1 (Q5 x0 Qc).1 (Q5 x0 Qk).1 (Qn x0 Qa).1 (Qn x0 Qg).1)])) rfl (ContainerStatus.Q9 v0_1).symm (ContainerStatus.Q9 (v0_1 ++ [(ContainerStatus.mk (Qj x0 Qf).1 (Q5 x0 Qq).1 (Q5 x0 Qd).1 (Q5 x0 Qc).1 (Q5 x0 Qk).1 (Qn x0 Qa).1 (Qn x0 Qg).1)])).symm (ContainerStatus.Q1n v0_1 (ContainerStatus.mk (Qj x0 Qf).1 (Q5 x0 Qq).1 (Q5 x0 Qd).1 (Q5 x0 Qc).1 (Q5 x0 Qk).1 (Qn x0 Qa).1 (Qn x0 Qg).1)) (ContainerStatus.Q16 v0_1) rfl (by omega)), hS 0 true (ContainerStatus.Qp (v0_1 ++ [(ContainerStatus.mk (Qj x0 Qf).1 (Q5 x0 Qq).1 (Q5 x0 Qd).1 (Q5 x0 Qc).1 (Q5 x0 Qk).1 (Qn x0 Qa).1 (Qn x0 Qg).1)]) 7 rfl), hB 1 (beqT h0), hP 3 (Q15 5 (Val.rows (Qb p0 Q0).1) i0 _ (Val.Qe hx0) rfl), hP 5 (decR (Q5 x0 Qc).2 true [513] h2), hP 3 (decR (Qj x0 Qf).2 true [513] h3), hP 3 (decR (Qn x0 Qa).2 false [513] h4), hP 19 (Q25 i0 (by omega))] [aN (Q2m x0 Qc (H.2.1 x0 (Q13 hx0))), aN (Q3f x0 Qf (H.2.2.1 x0 (Q13 hx0))), aN (Q3j x0 Qa (H.2.2.2.1 x0 (Q13 hx0))), aN (Q2m x0 Qd (H.2.1 x0 (Q13 hx0))), aN (Q2m x0 Qk (H.2.1 x0 (Q13 hx0))), aN (Q3j x0 Qg (H.2.2.2.1 x0 (Q13 hx0))), aN (Q2m x0 Qq (H.2.1 x0 (Q13 hx0))), aB (Q4g x0) h1] (by kernel_rfl) hr
theorem Q17v (p0 : Val) (H : Q4n p0) (x0 : Val) (i0 : Nat) (v0_1 : List ContainerStatus) (v0_2 : Bool) (hx0 : (Qb p0 Q0).1[i0]? = some x0) (hi0 : i0 < List.length (Qb p0 Q0).1) (ho0_0 : List.length v0_1 ≤ i0) (hc0 : (decide ((i0 : Int) < ((List.length (Qb p0 Q0).1) : Int))) = true) (h0 : (v0_2 == true) = true) (h1 : (Q1u x0) = true) (h2 : (Q5 x0 Qc).2 = true) (h3 : (Qj x0 Qf).2 = false) {r : Rs} (hr : Qi G (Q3c p0 (i0 + 1) (v0_1 ++ [(ContainerStatus.mk (Qj x0 Qf).1 (Q5 x0 Qq).1 (Q5 x0 Qd).1 (Q5 x0 Qc).1 (Q5 x0 Qk).1 (Qn x0 Qa).1 (Qn x0 Qg).1)]) false) r) : Qi G (Q3c p0 i0 v0_1 v0_2) r := by
 have hB0 := H.1
 exact Qw (Q69 p0 i0 v0_1 v0_2) (y := (Q4z p0 (i0 + 1) (v0_1 ++ [(ContainerStatus.mk (Qj x0 Qf).1 (Q5 x0 Qq).1 (Q5 x0 Qd).1 (Q5 x0 Qc).1 (Q5 x0 Qk).1 (Qn x0 Qa).1 (Qn x0 Qg).1)]) false, Q4i p0 (i0 + 1) (v0_1 ++ [(ContainerStatus.mk (Qj x0 Qf).1 (Q5 x0 Qq).1 (Q5 x0 Qd).1 (Q5 x0 Qc).1 (Q5 x0 Qk).1 (Qn x0 Qa).1 (Qn x0 Qg).1)]) false)) [hP 2 (Qz (Val.rows (Qb p0 Q0).1) (List.length (Qb p0 Q0).1) (Val.Q9 (Qb p0 Q0).1)), hB 0 hc0, hP 8 (Q15 5 (Val.rows (Qb p0 Q0).1) i0 _ (Val.Qe hx0) rfl), hP 15 (Q15 5 (Val.rows (Qb p0 Q0).1) i0 _ (Val.Qe hx0) rfl), hP 15 (Q15 5 (Val.rows (Qb p0 Q0).1) i0 _ (Val.Qe hx0) rfl), hP 15 (Q15 5 (Val.rows (Qb p0 Q0).1) i0 _ (Val.Qe hx0) rfl), hP 15 (Q15 5 (Val.rows (Qb p0 Q0).1) i0 _ (Val.Qe hx0) rfl), hP 15 (Q15 5 (Val.rows (Qb p0 Q0).1) i0 _ (Val.Qe hx0) rfl), hP 15 (Q15 5 (Val.rows (Qb p0 Q0).1) i0 _ (Val.Qe hx0) rfl), hV 16 [(8001, ContainerStatus.rows (v0_1 ++ [(ContainerStatus.mk (Qj x0 Qf).1 (Q5 x0 Qq).1 (Q5 x0 Qd).1 (Q5 x0 Qc).1 (Q5 x0 Qk).1 (Qn x0 Qa).1 (Qn x0 Qg).1)]))] (Q3g 0 7937 8001 7 56 0 0 true (ContainerStatus.rows v0_1) (ContainerStatus.rows (v0_1 ++ [(ContainerStatus.mk (Qj x0 Qf).1 (Q5 x0 Qq).1 (Q5 x0 Qd).1 (Q5 x0 Qc).1 (Q5 x0 Qk).1 (Qn x0 Qa).1 (Qn x0 Qg).1)])) (ContainerStatus.cells (ContainerStatus.mk (Qj x0 Qf).1 (Q5 x0 Qq).1 (Q5 x0 Qd).1 (Q5 x0 Qc).1 (Q5 x0 Qk).1 (Qn x0 Qa).1 (Qn x0 Qg).1)) (List.length v0_1) (List.length (v0_1 ++ [(ContainerStatus.mk (Qj x0 Qf).1 (Q5 x0 Qq).1 (Q5 x0 Qd).1 (Q5 x0 Qc).1 (Q5 x0 Qk).1 (Qn x0 Qa).1 (Qn x0 Qg).1)])) rfl (ContainerStatus.Q9 v0_1).symm (ContainerStatus.Q9 (v0_1 ++ [(ContainerStatus.mk (Qj x0 Qf).1 (Q5 x0 Qq).1 (Q5 x0 Qd).1 (Q5 x0 Qc).1 (Q5 x0 Qk).1 (Qn x0 Qa).1 (Qn x0 Qg).1)])).symm (ContainerStatus.Q1n v0_1 (ContainerStatus.mk (Qj x0 Qf).1 (Q5 x0 Qq).1 (Q5 x0 Qd).1 (Q5 x0 Qc).1 (Q5 x0 Qk).1 (Qn x0 Qa).1 (Qn x0 Qg).1)) (ContainerStatus.Q16 v0_1) rfl (by omega)), hS 0 true (ContainerStatus.Qp (v0_1 ++ [(ContainerStatus.mk (Qj x0 Qf).1 (Q5 x0 Qq).1 (Q5 x0 Qd).1 (Q5 x0 Qc).1 (Q5 x0 Qk).1 (Qn x0 Qa).1 (Qn x0 Qg).1)]) 7 rfl), hB 1 (beqT h0), hP 3 (Q15 5 (Val.rows (Qb p0 Q0).1) i0 _ (Val.Qe hx0) rfl), hP 5 (decR (Q5 x0 Qc).2 true [513] h2), hP 3 (decR (Qj x0 Qf).2 false [513] h3), hP 23 (Q25 i0 (by omega))] [aN (Q2m x0 Qc (H.2.1 x0 (Q13 hx0))), aN (Q3f x0 Qf (H.2.2.1 x0 (Q13 hx0))), aN (Q3j x0 Qa (H.2.2.2.1 x0 (Q13 hx0))), aN (Q2m x0 Qd (H.2.1 x0 (Q13 hx0))), aN (Q2m x0 Qk (H.2.1 x0 (Q13 hx0))), aN (Q3j x0 Qg (H.2.2.2.1 x0 (Q13 hx0))), aN (Q2m x0 Qq (H.2.1 x0 (Q13 hx0))), aB (Q4g x0) h1] (by kernel_rfl) hr
theorem Q18q (p0 : Val) (H : Q4n p0) (x0 : Val) (i0 : Nat) (v0_1 : List ContainerStatus) (v0_2 : Bool) (hx0 : (Qb p0 Q0).1[i0]? = some x0) (hi0 : i0 < List.length (Qb p0 Q0).1) (ho0_0 : List.length v0_1 ≤ i0) (hc0 : (decide ((i0 : Int) < ((List.length (Qb p0 Q0).1) : Int))) = true) (h0 : (v0_2 == true) = true) (h1 : (Q1u x0) = true) (h2 : (Q5 x0 Qc).2 = false) {r : Rs} (hr : Qi G (Q3c p0 (i0 + 1) (v0_1 ++ [(ContainerStatus.mk (Qj x0 Qf).1 (Q5 x0 Qq).1 (Q5 x0 Qd).1 (Q5 x0 Qc).1 (Q5 x0 Qk).1 (Qn x0 Qa).1 (Qn x0 Qg).1)]) false) r) : Qi G (Q3c p0 i0 v0_1 v0_2) r := by
 have hB0 := H.1
 exact Qw (Q69 p0 i0 v0_1 v0_2) (y := (Q4z p0 (i0 + 1) (v0_1 ++ [(ContainerStatus.mk (Qj x0 Qf).1 (Q5 x0 Qq).1 (Q5 x0 Qd).1 (Q5 x0 Qc).1 (Q5 x0 Qk).1 (Qn x0 Qa).1 (Qn x0 Qg).1)]) false, Q4i p0 (i0 + 1) (v0_1 ++ [(ContainerStatus.mk (Qj x0 Qf).1 (Q5 x0 Qq).1 (Q5 x0 Qd).1 (Q5 x0 Qc).1 (Q5 x0 Qk).1 (Qn x0 Qa).1 (Qn x0 Qg).1)]) false)) [hP 2 (Qz (Val.rows (Qb p0 Q0).1) (List.length (Qb p0 Q0).1) (Val.Q9 (Qb p0 Q0).1)), hB 0 hc0, hP 8 (Q15 5 (Val.rows (Qb p0 Q0).1) i0 _ (Val.Qe hx0) rfl), hP 15 (Q15 5 (Val.rows (Qb p0 Q0).1) i0 _ (Val.Qe hx0) rfl), hP 15 (Q15 5 (Val.rows (Qb p0 Q0).1) i0 _ (Val.Qe hx0) rfl), hP 15 (Q15 5 (Val.rows (Qb p0 Q0).1) i0 _ (Val.Qe hx0) rfl), hP 15 (Q15 5 (Val.rows (Qb p0 Q0).1) i0 _ (Val.Qe hx0) rfl), hP 15 (Q15 5 (Val.rows (Qb p0 Q0).1) i0 _ (Val.Qe hx0) rfl), hP 15 (Q15 5 (Val.rows (Qb p0 Q0).1) i0 _ (Val.Qe hx0) rfl), hV 16 [(8001, ContainerStatus.rows (v0_1 ++ [(ContainerStatus.mk (Qj x0 Qf).1 (Q5 x0 Qq).1 (Q5 x0 Qd).1 (Q5 x0 Qc).1 (Q5 x0 Qk).1 (Qn x0 Qa).1 (Qn x0 Qg).1)]))] (Q3g 0 7937 8001 7 56 0 0 true (ContainerStatus.rows v0_1) (ContainerStatus.rows (v0_1 ++ [(ContainerStatus.mk (Qj x0 Qf).1 (Q5 x0 Qq).1 (Q5 x0 Qd).1 (Q5 x0 Qc).1 (Q5 x0 Qk).1 (Qn x0 Qa).1 (Qn x0 Qg).1)])) (ContainerStatus.cells (ContainerStatus.mk (Qj x0 Qf).1 (Q5 x0 Qq).1 (Q5 x0 Qd).1 (Q5 x0 Qc).1 (Q5 x0 Qk).1 (Qn x0 Qa).1 (Qn x0 Qg).1)) (List.length v0_1) (List.length (v0_1 ++ [(ContainerStatus.mk (Qj x0 Qf).1 (Q5 x0 Qq).1 (Q5 x0 Qd).1 (Q5 x0 Qc).1 (Q5 x0 Qk).1 (Qn x0 Qa).1 (Qn x0 Qg).1)])) rfl (ContainerStatus.Q9 v0_1).symm (ContainerStatus.Q9 (v0_1 ++ [(ContainerStatus.mk (Qj x0 Qf).1 (Q5 x0 Qq).1 (Q5 x0 Qd).1 (Q5 x0 Qc).1 (Q5 x0 Qk).1 (Qn x0 Qa).1 (Qn x0 Qg).1)])).symm (ContainerStatus.Q1n v0_1 (ContainerStatus.mk (Qj x0 Qf).1 (Q5 x0 Qq).1 (Q5 x0 Qd).1 (Q5 x0 Qc).1 (Q5 x0 Qk).1 (Qn x0 Qa).1 (Qn x0 Qg).1)) (ContainerStatus.Q16 v0_1) rfl (by omega)), hS 0 true (ContainerStatus.Qp (v0_1 ++ [(ContainerStatus.mk (Qj x0 Qf).1 (Q5 x0 Qq).1 (Q5 x0 Qd).1 (Q5 x0 Qc).1 (Q5 x0 Qk).1 (Qn x0 Qa).1 (Qn x0 Qg).1)]) 7 rfl), hB 1 (beqT h0), hP 3 (Q15 5 (Val.rows (Qb p0 Q0).1) i0 _ (Val.Qe hx0) rfl), hP 5 (decR (Q5 x0 Qc).2 false [513] h2), hP 27 (Q25 i0 (by omega))] [aN (Q2m x0 Qc (H.2.1 x0 (Q13 hx0))), aN (Q3f x0 Qf (H.2.2.1 x0 (Q13 hx0))), aN (Q3j x0 Qa (H.2.2.2.1 x0 (Q13 hx0))), aN (Q2m x0 Qd (H.2.1 x0 (Q13 hx0))), aN (Q2m x0 Qk (H.2.1 x0 (Q13 hx0))), aN (Q3j x0 Qg (H.2.2.2.1 x0 (Q13 hx0))), aN (Q2m x0 Qq (H.2.1 x0 (Q13 hx0))), aB (Q4g x0) h1] (by kernel_rfl) hr
theorem Q14m (p0 : Val) (H : Q4n p0) (x0 : Val) (i0 : Nat) (v0_1 : List ContainerStatus) (v0_2 : Bool) (hx0 : (Qb p0 Q0).1[i0]? = some x0) (hi0 : i0 < List.length (Qb p0 Q0).1) (ho0_0 : List.length v0_1 ≤ i0) (hc0 : (decide ((i0 : Int) < ((List.length (Qb p0 Q0).1) : Int))) = true) (h0 : (v0_2 == true) = true) (h1 : (Q1u x0) = false) {r : Rs} (hr : Qi G (Q3c p0 (i0 + 1) (v0_1 ++ [(ContainerStatus.mk (Qj x0 Qf).1 (Q5 x0 Qq).1 (Q5 x0 Qd).1 (Q5 x0 Qc).1 (Q5 x0 Qk).1 (Qn x0 Qa).1 (Qn x0 Qg).1)]) false) r) : Qi G (Q3c p0 i0 v0_1 v0_2) r := by
 have hB0 := H.1
 exact Qw (Q69 p0 i0 v0_1 v0_2) (y := (Q4z p0 (i0 + 1) (v0_1 ++ [(ContainerStatus.mk (Qj x0 Qf).1 (Q5 x0 Qq).1 (Q5 x0 Qd).1 (Q5 x0 Qc).1 (Q5 x0 Qk).1 (Qn x0 Qa).1 (Qn x0 Qg).1)]) false, Q4i p0 (i0 + 1) (v0_1 ++ [(ContainerStatus.mk (Qj x0 Qf).1 (Q5 x0 Qq).1 (Q5 x0 Qd).1 (Q5 x0 Qc).1 (Q5 x0 Qk).1 (Qn x0 Qa).1 (Qn x0 Qg).1)]) false)) [hP 2 (Qz (Val.rows (Qb p0 Q0).1) (List.length (Qb p0 Q0).1) (Val.Q9 (Qb p0 Q0).1)), hB 0 hc0, hP 8 (Q15 5 (Val.rows (Qb p0 Q0).1) i0 _ (Val.Qe hx0) rfl), hP 15 (Q15 5 (Val.rows (Qb p0 Q0).1) i0 _ (Val.Qe hx0) rfl), hP 15 (Q15 5 (Val.rows (Qb p0 Q0).1) i0 _ (Val.Qe hx0) rfl), hP 15 (Q15 5 (Val.rows (Qb p0 Q0).1) i0 _ (Val.Qe hx0) rfl), hP 15 (Q15 5 (Val.rows (Qb p0 Q0).1) i0 _ (Val.Qe hx0) rfl), hP 15 (Q15 5 (Val.rows (Qb p0 Q0).1) i0 _ (Val.Qe hx0) rfl), hP 15 (Q15 5 (Val.rows (Qb p0 Q0).1) i0 _ (Val.Qe hx0) rfl), hV 16 [(8001, ContainerStatus.rows (v0_1 ++ [(ContainerStatus.mk (Qj x0 Qf).1 (Q5 x0 Qq).1 (Q5 x0 Qd).1 (Q5 x0 Qc).1 (Q5 x0 Qk).1 (Qn x0 Qa).1 (Qn x0 Qg).1)]))] (Q3g 0 7937 8001 7 56 0 0 true (ContainerStatus.rows v0_1) (ContainerStatus.rows (v0_1 ++ [(ContainerStatus.mk (Qj x0 Qf).1 (Q5 x0 Qq).1 (Q5 x0 Qd).1 (Q5 x0 Qc).1 (Q5 x0 Qk).1 (Qn x0 Qa).1 (Qn x0 Qg).1)])) (ContainerStatus.cells (ContainerStatus.mk (Qj x0 Qf).1 (Q5 x0 Qq).1 (Q5 x0 Qd).1 (Q5 x0 Qc).1 (Q5 x0 Qk).1 (Qn x0 Qa).1 (Qn x0 Qg).1)) (List.length v0_1) (List.length (v0_1 ++ [(ContainerStatus.mk (Qj x0 Qf).1 (Q5 x0 Qq).1 (Q5 x0 Qd).1 (Q5 x0 Qc).1 (Q5 x0 Qk).1 (Qn x0 Qa).1 (Qn x0 Qg).1)])) rfl (ContainerStatus.Q9 v0_1).symm (ContainerStatus.Q9 (v0_1 ++ [(ContainerStatus.mk (Qj x0 Qf).1 (Q5 x0 Qq).1 (Q5 x0 Qd).1 (Q5 x0 Qc).1 (Q5 x0 Qk).1 (Qn x0 Qa).1 (Qn x0 Qg).1)])).symm (ContainerStatus.Q1n v0_1 (ContainerStatus.mk (Qj x0 Qf).1 (Q5 x0 Qq).1 (Q5 x0 Qd).1 (Q5 x0 Qc).1 (Q5 x0 Qk).1 (Qn x0 Qa).1 (Qn x0 Qg).1)) (ContainerStatus.Q16 v0_1) rfl (by omega)), hS 0 true (ContainerStatus.Qp (v0_1 ++ [(ContainerStatus.mk (Qj x0 Qf).1 (Q5 x0 Qq).1 (Q5 x0 Qd).1 (Q5 x0 Qc).1 (Q5 x0 Qk).1 (Qn x0 Qa).1 (Qn x0 Qg).1)]) 7 rfl), hB 1 (beqT h0), hP 3 (Q15 5 (Val.rows (Qb p0 Q0).1) i0 _ (Val.Qe hx0) rfl), hP 33 (Q25 i0 (by omega))] [aN (Q2m x0 Qc (H.2.1 x0 (Q13 hx0))), aN (Q3f x0 Qf (H.2.2.1 x0 (Q13 hx0))), aN (Q3j x0 Qa (H.2.2.2.1 x0 (Q13 hx0))), aN (Q2m x0 Qd (H.2.1 x0 (Q13 hx0))), aN (Q2m x0 Qk (H.2.1 x0 (Q13 hx0))), aN (Q3j x0 Qg (H.2.2.2.1 x0 (Q13 hx0))), aN (Q2m x0 Qq (H.2.1 x0 (Q13 hx0))), aB (Q4g x0) h1] (by kernel_rfl) hr
theorem Q15q (p0 : Val) (H : Q4n p0) (x0 : Val) (i0 : Nat) (v0_1 : List ContainerStatus) (v0_2 : Bool) (hx0 : (Qb p0 Q0).1[i0]? = some x0) (hi0 : i0 < List.length (Qb p0 Q0).1) (ho0_0 : List.length v0_1 ≤ i0) (hc0 : (decide ((i0 : Int) < ((List.length (Qb p0 Q0).1) : Int))) = true) (h0 : (v0_2 == true) = false) {r : Rs} (hr : Qi G (Q3c p0 (i0 + 1) (v0_1 ++ [(ContainerStatus.mk (Qj x0 Qf).1 (Q5 x0 Qq).1 (Q5 x0 Qd).1 (Q5 x0 Qc).1 (Q5 x0 Qk).1 (Qn x0 Qa).1 (Qn x0 Qg).1)]) false) r) : Qi G (Q3c p0 i0 v0_1 v0_2) r := by
 have hB0 := H.1
 exact Qw (Q69 p0 i0 v0_1 v0_2) (y := (Q4z p0 (i0 + 1) (v0_1 ++ [(ContainerStatus.mk (Qj x0 Qf).1 (Q5 x0 Qq).1 (Q5 x0 Qd).1 (Q5 x0 Qc).1 (Q5 x0 Qk).1 (Qn x0 Qa).1 (Qn x0 Qg).1)]) false, Q4i p0 (i0 + 1) (v0_1 ++ [(ContainerStatus.mk (Qj x0 Qf).1 (Q5 x0 Qq).1 (Q5 x0 Qd).1 (Q5 x0 Qc).1 (Q5 x0 Qk).1 (Qn x0 Qa).1 (Qn x0 Qg).1)]) false)) [hP 2 (Qz (Val.rows (Qb p0 Q0).1) (List.length (Qb p0 Q0).1) (Val.Q9 (Qb p0 Q0).1)), hB 0 hc0, hP 8 (Q15 5 (Val.rows (Qb p0 Q0).1) i0 _ (Val.Qe hx0) rfl), hP 15 (Q15 5 (Val.rows (Qb p0 Q0).1) i0 _ (Val.Qe hx0) rfl), hP 15 (Q15 5 (Val.rows (Qb p0 Q0).1) i0 _ (Val.Qe hx0) rfl), hP 15 (Q15 5 (Val.rows (Qb p0 Q0).1) i0 _ (Val.Qe hx0) rfl), hP 15 (Q15 5 (Val.rows (Qb p0 Q0).1) i0 _ (Val.Qe hx0) rfl), hP 15 (Q15 5 (Val.rows (Qb p0 Q0).1) i0 _ (Val.Qe hx0) rfl), hP 15 (Q15 5 (Val.rows (Qb p0 Q0).1) i0 _ (Val.Qe hx0) rfl), hV 16 [(8001, ContainerStatus.rows (v0_1 ++ [(ContainerStatus.mk (Qj x0 Qf).1 (Q5 x0 Qq).1 (Q5 x0 Qd).1 (Q5 x0 Qc).1 (Q5 x0 Qk).1 (Qn x0 Qa).1 (Qn x0 Qg).1)]))] (Q3g 0 7937 8001 7 56 0 0 true (ContainerStatus.rows v0_1) (ContainerStatus.rows (v0_1 ++ [(ContainerStatus.mk (Qj x0 Qf).1 (Q5 x0 Qq).1 (Q5 x0 Qd).1 (Q5 x0 Qc).1 (Q5 x0 Qk).1 (Qn x0 Qa).1 (Qn x0 Qg).1)])) (ContainerStatus.cells (ContainerStatus.mk (Qj x0 Qf).1 (Q5 x0 Qq).1 (Q5 x0 Qd).1 (Q5 x0 Qc).1 (Q5 x0 Qk).1 (Qn x0 Qa).1 (Qn x0 Qg).1)) (List.length v0_1) (List.length (v0_1 ++ [(ContainerStatus.mk (Qj x0 Qf).1 (Q5 x0 Qq).1 (Q5 x0 Qd).1 (Q5 x0 Qc).1 (Q5 x0 Qk).1 (Qn x0 Qa).1 (Qn x0 Qg).1)])) rfl (ContainerStatus.Q9 v0_1).symm (ContainerStatus.Q9 (v0_1 ++ [(ContainerStatus.mk (Qj x0 Qf).1 (Q5 x0 Qq).1 (Q5 x0 Qd).1 (Q5 x0 Qc).1 (Q5 x0 Qk).1 (Qn x0 Qa).1 (Qn x0 Qg).1)])).symm (ContainerStatus.Q1n v0_1 (ContainerStatus.mk (Qj x0 Qf).1 (Q5 x0 Qq).1 (Q5 x0 Qd).1 (Q5 x0 Qc).1 (Q5 x0 Qk).1 (Qn x0 Qa).1 (Qn x0 Qg).1)) (ContainerStatus.Q16 v0_1) rfl (by omega)), hS 0 true (ContainerStatus.Qp (v0_1 ++ [(ContainerStatus.mk (Qj x0 Qf).1 (Q5 x0 Qq).1 (Q5 x0 Qd).1 (Q5 x0 Qc).1 (Q5 x0 Qk).1 (Qn x0 Qa).1 (Qn x0 Qg).1)]) 7 rfl), hB 1 (beqT h0), hP 37 (Q25 i0 (by omega))] [aN (Q2m x0 Qc (H.2.1 x0 (Q13 hx0))), aN (Q3f x0 Qf (H.2.2.1 x0 (Q13 hx0))), aN (Q3j x0 Qa (H.2.2.2.1 x0 (Q13 hx0))), aN (Q2m x0 Qd (H.2.1 x0 (Q13 hx0))), aN (Q2m x0 Qk (H.2.1 x0 (Q13 hx0))), aN (Q3j x0 Qg (H.2.2.2.1 x0 (Q13 hx0))), aN (Q2m x0 Qq (H.2.1 x0 (Q13 hx0)))] (by kernel_rfl) hr
theorem Q50 (p0 : Val) (H : Q4n p0) : ∀ (r0 : List Val) (i0 : Nat) (v0_1 : List ContainerStatus) (v0_2 : Bool), List.drop i0 (Qb p0 Q0).1 = r0 → List.length v0_1 ≤ i0 → Qgc p0 (Q3c p0 i0 v0_1 v0_2) (Q32 p0 r0 i0 v0_1 v0_2)
 | [], i0, v0_1, v0_2, hd, ho0_0 => by
  have hc0 : (decide ((i0 : Int) < ((List.length (Qb p0 Q0).1) : Int))) = false := by have := Q1v hd; simp; omega
  rw [Q32]
  exact Q16e p0 H i0 v0_1 v0_2 ho0_0 hc0
 | x0 :: r0, i0, v0_1, v0_2, hd, ho0_0 => by
  obtain ⟨hx0, hi0, hd'⟩ := Q1s hd
  have hc0 : (decide ((i0 : Int) < ((List.length (Qb p0 Q0).1) : Int))) = true := by simp; omega
  rw [Q32]
  cases h0 : (v0_2 == true) with
  | true =>
   cases h1 : (Q1u x0) with
   | true =>
    cases h2 : (Q5 x0 Qc).2 with
    | true =>
     cases h3 : (Qj x0 Qf).2 with
     | true =>
      cases h4 : (Qn x0 Qa).2 with
      | true =>
       cases h5 : (Q5 x0 Qd).2 with
       | true =>
        cases h6 : (Q5 x0 Qk).2 with
        | true =>
         cases h7 : (Qn x0 Qg).2 with
         | true =>
          exact Q3k p0 (fun r hr => Q195 p0 H x0 i0 v0_1 v0_2 hx0 hi0 ho0_0 hc0 h0 h1 h2 h3 h4 h5 h6 h7 hr) _ (Q50 p0 H r0 (i0 + 1) (v0_1 ++ [(ContainerStatus.mk (Qj x0 Qf).1 (Q5 x0 Qq).1 (Q5 x0 Qd).1 (Q5 x0 Qc).1 (Q5 x0 Qk).1 (Qn x0 Qa).1 (Qn x0 Qg).1)]) (Q5 x0 Qq).2 hd' (by first | omega | (simp; omega)))
         | false =>
          exact Q3k p0 (fun r hr => Q17q p0 H x0 i0 v0_1 v0_2 hx0 hi0 ho0_0 hc0 h0 h1 h2 h3 h4 h5 h6 h7 hr) _ (Q50 p0 H r0 (i0 + 1) (v0_1 ++ [(ContainerStatus.mk (Qj x0 Qf).1 (Q5 x0 Qq).1 (Q5 x0 Qd).1 (Q5 x0 Qc).1 (Q5 x0 Qk).1 (Qn x0 Qa).1 (Qn x0 Qg).1)]) false hd' (by first | omega | (simp; omega)))
        | false =>
         exact Q3k p0 (fun r hr => Q16v p0 H x0 i0 v0_1 v0_2 hx0 hi0 ho0_0 hc0 h0 h1 h2 h3 h4 h5 h6 hr) _ (Q50 p0 H r0 (i0 + 1) (v0_1 ++ [(ContainerStatus.mk (Qj x0 Qf).1 (Q5 x0 Qq).1 (Q5 x0 Qd).1 (Q5 x0 Qc).1 (Q5 x0 Qk).1 (Qn x0 Qa).1 (Qn x0 Qg).1)]) false hd' (by first | omega | (simp; omega)))
       | false =>
        exact Q3k p0 (fun r hr => Q194 p0 H x0 i0 v0_1 v0_2 hx0 hi0 ho0_0 hc0 h0 h1 h2 h3 h4 h5 hr) _ (Q50 p0 H r0 (i0 + 1) (v0_1 ++ [(ContainerStatus.mk (Qj x0 Qf).1 (Q5 x0 Qq).1 (Q5 x0 Qd).1 (Q5 x0 Qc).1 (Q5 x0 Qk).1 (Qn x0 Qa).1 (Qn x0 Qg).1)]) false hd' (by first | omega | (simp; omega)))
      | false =>
       exact Q3k p0 (fun r hr => Q16g p0 H x0 i0 v0_1 v0_2 hx0 hi0 ho0_0 hc0 h0 h1 h2 h3 h4 hr) _ (Q50 p0 H r0 (i0 + 1) (v0_1 ++ [(ContainerStatus.mk (Qj x0 Qf).1 (Q5 x0 Qq).1 (Q5 x0 Qd).1 (Q5 x0 Qc).1 (Q5 x0 Qk).1 (Qn x0 Qa).1 (Qn x0 Qg).1)]) false hd' (by first | omega | (simp; omega)))
     | false =>
      exact Q3k p0 (fun r hr => Q17v p0 H x0 i0 v0_1 v0_2 hx0 hi0 ho0_0 hc0 h0 h1 h2 h3 hr) _ (Q50 p0 H r0 (i0 + 1) (v0_1 ++ [(ContainerStatus.mk (Qj x0 Qf).1 (Q5 x0 Qq).1 (Q5 x0 Qd).1 (Q5 x0 Qc).1 (Q5 x0 Qk).1 (Qn x0 Qa).1 (Qn x0 Qg).1)]) false hd' (by first | omega | (simp; omega)))
    | false =>
     exact Q3k p0 (fun r hr => Q18q p0 H x0 i0 v0_1 v0_2 hx0 hi0 ho0_0 hc0 h0 h1 h2 hr) _ (Q50 p0 H r0 (i0 + 1) (v0_1 ++ [(ContainerStatus.mk (Qj x0 Qf).1 (Q5 x0 Qq).1 (Q5 x0 Qd).1 (Q5 x0 Qc).1 (Q5 x0 Qk).1 (Qn x0 Qa).1 (Qn x0 Qg).1)]) false hd' (by first | omega | (simp; omega)))
   | false =>
    exact Q3k p0 (fun r hr => Q14m p0 H x0 i0 v0_1 v0_2 hx0 hi0 ho0_0 hc0 h0 h1 hr) _ (Q50 p0 H r0 (i0 + 1) (v0_1 ++ [(ContainerStatus.mk (Qj x0 Qf).1 (Q5 x0 Qq).1 (Q5 x0 Qd).1 (Q5 x0 Qc).1 (Q5 x0 Qk).1 (Qn x0 Qa).1 (Qn x0 Qg).1)]) false hd' (by first | omega | (simp; omega)))
  | false =>
   exact Q3k p0 (fun r hr => Q15q p0 H x0 i0 v0_1 v0_2 hx0 hi0 ho0_0 hc0 h0 hr) _ (Q50 p0 H r0 (i0 + 1) (v0_1 ++ [(ContainerStatus.mk (Qj x0 Qf).1 (Q5 x0 Qq).1 (Q5 x0 Qd).1 (Q5 x0 Qc).1 (Q5 x0 Qk).1 (Qn x0 Qa).1 (Qn x0 Qg).1)]) false hd' (by first | omega | (simp; omega)))
def Qd4 (p0 : Val) : List ContainerStatus × Bool := dE ContainerStatus.dec p0 Q0
theorem Q1c0 (p0 : Val) (r : List Val) (i : Nat) (a : List ContainerStatus) (x y : Bool) : (bif x then Q32 p0 r i a y else Q32 p0 r i a false) = Q32 p0 r i a (x && y) := by cases x <;> rfl
theorem Qt8 (p0 : Val) : ∀ (l : List Val) (i : Nat) (a : List ContainerStatus) (b : Bool), Q32 p0 l i a b = (a ++ l.map (fun x => (ContainerStatus.dec x).1), b && l.all fun x => (ContainerStatus.dec x).2)
  | [], _, a, b => by rw [Q32]; simp
  | x :: l, i, a, b => by
    rw [Q32]
    cases b with
    | false => exact (Qt8 p0 l (i + 1) (a ++ [(ContainerStatus.dec x).1]) false).trans (by simp only [List.append_assoc, List.singleton_append, List.map_cons, List.all_cons, Bool.false_and])
    | true =>
      have e : (ContainerStatus.dec x).2 = (Q1u x && ((Q5 x Qc).2 && ((Qj x Qf).2 && ((Qn x Qa).2 && ((Q5 x Qd).2 && ((Q5 x Qk).2 && ((Qn x Qg).2 && (Q5 x Qq).2))))))) := by
        simp only [ContainerStatus.dec, Q1u, Q5, Qj, Qn, Bool.and_assoc]
      simp only [Q1c0, show ((true == true) = true) from rfl, cond_true]
      rw [← e]
      exact (Qt8 p0 l (i + 1) (a ++ [(ContainerStatus.dec x).1]) (ContainerStatus.dec x).2).trans (by simp only [List.append_assoc, List.singleton_append, List.map_cons, List.all_cons, Bool.true_and])
theorem Q1mk (p0 : Val) : Qd4 p0 = (((Q32 p0 (Qb p0 Q0).1 0 [] (Qb p0 Q0).2).1, (Q32 p0 (Qb p0 Q0).1 0 [] (Qb p0 Q0).2).2)) := by
  rw [Qt8]
  rfl
def Q1r9 (p0 : Val) : En := .call 105 [.agg (Val.cells p0)] []
def Q1k5 (p0 : Val) : Rs := .ret (.tup [.sl (ContainerStatus.rows (Qd4 p0).1), .bool (Qd4 p0).2]) []
def Q1h1 (p0 : Val) : Prop := Val.Sm 1000000000 p0
theorem Q140 (p0 : Val) (H : Q1h1 p0) : (Qbn p0) ∧ (Q4n p0) ∧ True := by
  have hl := Q6h (Q2h H Q0)
  have g : ∀ x ∈ (dL p0 Q0).1, Val.Sm sB x := hl.2
  refine ⟨H, ?_, trivial⟩
  unfold Q4n
  refine ⟨Nat.le_trans hl.1 (Nat.le_of_ble_eq_true rfl), ?_⟩
  repeat' with_reducible apply And.intro
  all_goals first | exact True.intro | exact g
theorem Q1jd (p0 : Val) (H : Q1h1 p0) : Qi G (Q1r9 p0) (Q1k5 p0) := by
 unfold Q1k5
 rw [Q1mk]
 have hl0 := Q50 p0 ((Q140 p0 H).2.1) (Qb p0 Q0).1 0 [] (Qb p0 Q0).2 (by simp) (by simp)
 obtain ⟨z0, zo0, hl0⟩ := hl0
 exact Qm (fn := Ir.K3n) rfl VOK.nil [hS 0 true (ContainerStatus.Qp (Q32 p0 (Qb p0 Q0).1 0 [] (Qb p0 Q0).2).1 7 rfl), hQ (ContainerStatus.Q9 (Q32 p0 (Qb p0 Q0).1 0 [] (Qb p0 Q0).2).1).symm] [aN (Qaj p0 Q0 (Q140 p0 H).1), aV [(0, ContainerStatus.rows (Q32 p0 (Qb p0 Q0).1 0 [] (Qb p0 Q0).2).1)] hl0] (by kernel_rfl)
def Q40 (p0 : Val) : List Bool := [(Q5 p0 Q2l).2, (Qd4 p0).2, (Q5 p0 Q2o).2, (Qj p0 Q2a).2, (Q5 p0 Q2t).2, (Qn p0 Qa).2, (Q5 p0 Q21).2, (Qj p0 Q2v).2, (Q5 p0 Qg).2]
inductive Q143 where
  | k0
  | k1
def Q6q (p0 : Val) : List Bool → Nat → Q143
 | [], _i0 =>
  (.k0)
 | x0 :: r0, i0 =>
  bif (x0 == true) then
   Q6q p0 r0 (i0 + 1)
  else
   (.k1)
def Qw3 (_p0 : Val) (i0 : Nat) : List PV :=
  [.un, .bx 0 0, .bx 1 0, .un, .bx 2 0, .bx 3 0] ++ nuns 18 ++ [.int .i64 (i0 : Int)] ++ nuns 95
def Qxk (p0 : Val) (_i0 : Nat) : List Ob :=
  [⟨5, 0, true, [.int .i64 p0.kind, .int .i64 p0.n, .str p0.s, .sl (Val.rows p0.list), .sl (Fld.rows p0.fields)]⟩, ⟨9, 0, true, [.int .i64 0, .bool false, .int .i64 0, .int .i64 0, .int .i64 0, .ms 4 7 0 0, .int .i64 0, .str eB, .str eB]⟩, ⟨9, 0, true, [.int .i64 (Q5 p0 Q2t).1, .bool (Qn p0 Qa).1, .int .i64 (Q5 p0 Q21).1, .int .i64 (Q5 p0 Qg).1, .int .i64 (Q5 p0 Q2o).1, .sl (ContainerStatus.rows (Qd4 p0).1), .int .i64 (Q5 p0 Q2l).1, .str (Qj p0 Q2a).1, .str (Qj p0 Q2v).1]⟩, ⟨9, 0, true, [.bool (Q5 p0 Q2l).2, .bool (Qd4 p0).2, .bool (Q5 p0 Q2o).2, .bool (Qj p0 Q2a).2, .bool (Q5 p0 Q2t).2, .bool (Qn p0 Qa).2, .bool (Q5 p0 Q21).2, .bool (Qj p0 Q2v).2, .bool (Q5 p0 Qg).2]⟩, ⟨7, 0, true, []⟩]
def Qbi (p0 : Val) (i0 : Nat) : En := .loop 0 Ir.Qlj Ir.Q1el (Qw3 p0 i0) (Qxk p0 i0)
def Qq4 (p0 : Val) (z : Nat → PV) (_zo : Nat → List PV) : St :=
  ⟨[z 0, .bx 0 0, .bx 1 0, z 3, .bx 2 0] ++ zr z 5 115, [(0, ⟨5, 0, true, [.int .i64 p0.kind, .int .i64 p0.n, .str p0.s, .sl (Val.rows p0.list), .sl (Fld.rows p0.fields)]⟩), (1, ⟨9, 0, true, [.int .i64 0, .bool false, .int .i64 0, .int .i64 0, .int .i64 0, .ms 4 7 0 0, .int .i64 0, .str eB, .str eB]⟩), (2, ⟨9, 0, true, [.int .i64 (Q5 p0 Q2t).1, .bool (Qn p0 Qa).1, .int .i64 (Q5 p0 Q21).1, .int .i64 (Q5 p0 Qg).1, .int .i64 (Q5 p0 Q2o).1, .sl (ContainerStatus.rows (Qd4 p0).1), .int .i64 (Q5 p0 Q2l).1, .str (Qj p0 Q2a).1, .str (Qj p0 Q2v).1]⟩), (3, ⟨9, 0, true, [.bool (Q5 p0 Q2l).2, .bool (Qd4 p0).2, .bool (Q5 p0 Q2o).2, .bool (Qj p0 Q2a).2, .bool (Q5 p0 Q2t).2, .bool (Qn p0 Qa).2, .bool (Q5 p0 Q21).2, .bool (Qj p0 Q2v).2, .bool (Q5 p0 Qg).2]⟩), (4, ⟨7, 0, true, []⟩)], 133⟩
def Qru (_p0 : Val) (z : Nat → PV) (zo : Nat → List PV) : St :=
  ⟨[z 0, z 1, .bx 1 0, .bool false] ++ zr z 4 116, [(0, ⟨5, 0, true, zo 0⟩), (1, ⟨9, 0, true, [.int .i64 0, .bool false, .int .i64 0, .int .i64 0, .int .i64 0, .ns 7, .int .i64 0, .str eB, .str eB]⟩), (2, ⟨9, 0, true, zo 2⟩), (3, ⟨9, 0, true, zo 3⟩), (4, ⟨7, 0, true, zo 4⟩)], 581⟩
def Qci (p0 : Val) (e : En) : Q143 → Prop
  | .k0 => ∃ z zo, Qi G e (.st (.exit 0) (Qq4 p0 z zo))
  | .k1 => ∃ z zo, Qi G e (.st .ret (Qru p0 z zo))
theorem Qs9 (p0 : Val) {e e' : En} (h : ∀ r, Qi G e r → Qi G e' r) : ∀ q, Qci p0 e q → Qci p0 e' q
  | .k0, ⟨z, zo, hz⟩ => ⟨z, zo, h _ hz⟩
  | .k1, ⟨z, zo, hz⟩ => ⟨z, zo, h _ hz⟩
def Qcl (p0 : Val) : Prop := (List.length (Q40 p0) ≤ 4611686018427387904) ∧ True
def Qr4 (_p0 : Val) (i0 : Nat) : List PV :=
  nuns 5 ++ [.bx 3 0] ++ nuns 18 ++ [.int .i64 (i0 : Int)] ++ nuns 83 ++ [.int .i64 (i0 : Int), .bool false]
def Qiu (_p0 : Val) (_i0 : Nat) : List (Nat × List PV) :=
  []
theorem Q18d (p0 : Val) (_H : Qcl p0) (i0 : Nat) (hc0 : (decide ((i0 : Int) < 9)) = false) : Qci p0 (Qbi p0 i0) (.k0) := by
 exact ⟨(envF (Qr4 p0 i0)), (zoF (Qiu p0 i0)), Q10 VOK.nil (x := ((.exit 0), Qq4 p0 (envF (Qr4 p0 i0)) (zoF (Qiu p0 i0)))) [hB 1 hc0] [] (by kernel_rfl)⟩
theorem Q15y (p0 : Val) (H : Qcl p0) (x0 : Bool) (i0 : Nat) (hx0 : (Q40 p0)[i0]? = some x0) (hi0 : i0 < List.length (Q40 p0)) (hc0 : (decide ((i0 : Int) < 9)) = true) (h0 : (x0 == true) = true) {r : Rs} (hr : Qi G (Qbi p0 (i0 + 1)) r) : Qi G (Qbi p0 i0) r := by
 have hB0 := H.1
 exact Qw VOK.nil (y := (Qw3 p0 (i0 + 1), Qxk p0 (i0 + 1))) [hB 1 hc0, hP 1 (Qqz 9 1 3 0 i0 (Nat.lt_of_lt_of_eq hi0 rfl)), hP 0 (Qnm 3 9 0 true [.bool (Q5 p0 Q2l).2, .bool (Qd4 p0).2, .bool (Q5 p0 Q2o).2, .bool (Qj p0 Q2a).2, .bool (Q5 p0 Q2t).2, .bool (Qn p0 Qa).2, .bool (Q5 p0 Q21).2, .bool (Qj p0 Q2v).2, .bool (Q5 p0 Qg).2] (Q40 p0) i0 x0 true hx0 (beqT h0)), hP 2 (Q25 i0 (by omega))] [] (by kernel_rfl) hr
def Qqk (_p0 : Val) (i0 : Nat) (_x0 : Bool) : List PV :=
  [.un, .bx 0 0, .un, .un, .bx 2 0, .bx 3 0] ++ nuns 18 ++ [.int .i64 (i0 : Int)] ++ nuns 83 ++ [.int .i64 (i0 : Int), .bool true, .un, .un, .int .i64 (i0 : Int), .bx 3 (0 + i0 * 1), .bool false, .bool true, .agg [.int .i64 0, .bool false, .int .i64 0, .int .i64 0, .int .i64 0, .ns 7, .int .i64 0, .str eB, .str eB]]
def Qmd (p0 : Val) (_i0 : Nat) (_x0 : Bool) : List (Nat × List PV) :=
  [(0, [.int .i64 p0.kind, .int .i64 p0.n, .str p0.s, .sl (Val.rows p0.list), .sl (Fld.rows p0.fields)]), (2, [.int .i64 (Q5 p0 Q2t).1, .bool (Qn p0 Qa).1, .int .i64 (Q5 p0 Q21).1, .int .i64 (Q5 p0 Qg).1, .int .i64 (Q5 p0 Q2o).1, .sl (ContainerStatus.rows (Qd4 p0).1), .int .i64 (Q5 p0 Q2l).1, .str (Qj p0 Q2a).1, .str (Qj p0 Q2v).1]), (3, [.bool (Q5 p0 Q2l).2, .bool (Qd4 p0).2, .bool (Q5 p0 Q2o).2, .bool (Qj p0 Q2a).2, .bool (Q5 p0 Q2t).2, .bool (Qn p0 Qa).2, .bool (Q5 p0 Q21).2, .bool (Qj p0 Q2v).2, .bool (Q5 p0 Qg).2]), (4, [])]
theorem Q18m (p0 : Val) (_H : Qcl p0) (x0 : Bool) (i0 : Nat) (hx0 : (Q40 p0)[i0]? = some x0) (hi0 : i0 < List.length (Q40 p0)) (hc0 : (decide ((i0 : Int) < 9)) = true) (h0 : (x0 == true) = false) : Qci p0 (Qbi p0 i0) (.k1) := by
 exact ⟨(envF (Qqk p0 i0 x0)), (zoF (Qmd p0 i0 x0)), Q10 VOK.nil (x := (.ret, Qru p0 (envF (Qqk p0 i0 x0)) (zoF (Qmd p0 i0 x0)))) [hB 1 hc0, hP 1 (Qqz 9 1 3 0 i0 (Nat.lt_of_lt_of_eq hi0 rfl)), hP 0 (Qnm 3 9 0 true [.bool (Q5 p0 Q2l).2, .bool (Qd4 p0).2, .bool (Q5 p0 Q2o).2, .bool (Qj p0 Q2a).2, .bool (Q5 p0 Q2t).2, .bool (Qn p0 Qa).2, .bool (Q5 p0 Q21).2, .bool (Qj p0 Q2v).2, .bool (Q5 p0 Qg).2] (Q40 p0) i0 x0 false hx0 (beqT h0))] [] (by kernel_rfl)⟩
theorem Qyl (p0 : Val) (H : Qcl p0) : ∀ (r0 : List Bool) (i0 : Nat), List.drop i0 (Q40 p0) = r0 → Qci p0 (Qbi p0 i0) (Q6q p0 r0 i0)
 | [], i0, hd => by
  have hc0 : (decide ((i0 : Int) < 9)) = false := by have hL := (show List.length (Q40 p0) = 9 from rfl); have := Q1v hd; simp; omega
  rw [Q6q]
  exact Q18d p0 H i0 hc0
 | x0 :: r0, i0, hd => by
  obtain ⟨hx0, hi0, hd'⟩ := Q1s hd
  have hc0 : (decide ((i0 : Int) < 9)) = true := by have hL := (show List.length (Q40 p0) = 9 from rfl); simp; omega
  rw [Q6q]
  cases h0 : (x0 == true) with
  | true =>
   exact Qs9 p0 (fun r hr => Q15y p0 H x0 i0 hx0 hi0 hc0 h0 hr) _ (Qyl p0 H r0 (i0 + 1) hd')
  | false =>
   exact Q18m p0 H x0 i0 hx0 hi0 hc0 h0
def Qna (p0 : Val) : PodStatus × Bool := bif (PodStatus.dec p0).2 then ((PodStatus.dec p0).1, true) else ((PodStatus.mk 0 false 0 0 0 [] 0 eB eB), false)
theorem Q12q (p0 : Val) : ∀ (l : List Bool) (i : Nat), Q6q p0 l i = bif l.all id then .k0 else .k1
  | [], _ => by rw [Q6q]; rfl
  | x :: l, i => by
    rw [Q6q]
    cases x with
    | true => exact Q12q p0 l (i + 1)
    | false => rfl
theorem Q1pb (p0 : Val) : Qna p0 = ((match (Q6q p0 (Q40 p0) 0) with
  | .k0 => ((PodStatus.mk (Q5 p0 Q2t).1 (Qn p0 Qa).1 (Q5 p0 Q21).1 (Q5 p0 Qg).1 (Q5 p0 Q2o).1 (Qd4 p0).1 (Q5 p0 Q2l).1 (Qj p0 Q2a).1 (Qj p0 Q2v).1), (Q1u p0))
  | .k1 => ((PodStatus.mk 0 false 0 0 0 [] 0 eB eB), false))) := by
  rw [Q12q]
  have e : (PodStatus.dec p0).2 = (isM p0 && (Q40 p0).all id) := by
    simp only [PodStatus.dec, Q40, List.all_cons, List.all_nil, id, Bool.true_and, Q5, Qj, Qn, Qd4, Bool.and_assoc, Bool.and_left_comm, Bool.and_comm]
  have ag : (PodStatus.dec p0).2 = (PodStatus.dec p0).2 ∧ ((PodStatus.dec p0).2 = true → (PodStatus.dec p0).1 = (PodStatus.dec p0).1) := ⟨rfl, fun _ => rfl⟩
  unfold Qna
  rw [← ag.1, e]
  cases h : (Q40 p0).all id with
  | false => rw [Bool.and_false]; rfl
  | true =>
    cases hm : isM p0 with
    | true =>
      have hv := ag.2 (by rw [← ag.1, e, h, hm]; rfl)
      exact Prod.ext hv.symm hm.symm
    | false =>
      have hz : (PodStatus.dec p0).1 = (PodStatus.mk 0 false 0 0 0 [] 0 eB eB) := by
        unfold PodStatus.dec
        simp only [dN, dS, dB, dE, Q4a (Q1f2 hm)]
        rfl
      exact Prod.ext hz.symm hm.symm
def Q1pt (p0 : Val) : En := .call 35 [.agg (Val.cells p0)] []
def Q1i9 (p0 : Val) : Rs := .ret (.tup [.agg (PodStatus.cells (Qna p0).1), .bool (Qna p0).2]) []
def Q1gw (p0 : Val) : Prop := Val.Sm 1000000000 p0
theorem Q3l (p0 : Val) (H : Q1gw p0) : (Qai p0) ∧ (Q1h1 p0) ∧ (Qdv p0) ∧ (Qnc p0) ∧ (Qcl p0) ∧ True := by
  repeat' with_reducible apply And.intro
  all_goals first | exact True.intro | exact H | exact ⟨Nat.le_of_ble_eq_true rfl, trivial⟩ | exact Q2h H _
theorem Q1cg (p0 : Val) (H : Q1gw p0) : Qi G (Q1pt p0) (Q1i9 p0) := by
 unfold Q1i9
 rw [Q1pb]
 have hl0 := Qyl p0 ((Q3l p0 H).2.2.2.2.1) (Q40 p0) 0 (by simp)
 cases hr0 : (Q6q p0 (Q40 p0) 0) with
 | k0 =>
  rw [hr0] at hl0
  obtain ⟨z0, zo0, hl0⟩ := hl0
  exact Qm (fn := Ir.K3m) rfl VOK.nil [] [aN (Q2m p0 Q2l (Q3l p0 H).1), aN (Q1jd p0 (Q3l p0 H).2.1), aN (Q2m p0 Q2o (Q3l p0 H).1), aN (Q3f p0 Q2a (Q3l p0 H).2.2.1), aN (Q2m p0 Q2t (Q3l p0 H).1), aN (Q3j p0 Qa (Q3l p0 H).2.2.2.1), aN (Q2m p0 Q21 (Q3l p0 H).1), aN (Q3f p0 Q2v (Q3l p0 H).2.2.1), aN (Q2m p0 Qg (Q3l p0 H).1), aN hl0, aN (Q4g p0)] (by kernel_rfl)
 | k1 =>
  rw [hr0] at hl0
  obtain ⟨z0, zo0, hl0⟩ := hl0
  exact Qm (fn := Ir.K3m) rfl VOK.nil [] [aN (Q2m p0 Q2l (Q3l p0 H).1), aN (Q1jd p0 (Q3l p0 H).2.1), aN (Q2m p0 Q2o (Q3l p0 H).1), aN (Q3f p0 Q2a (Q3l p0 H).2.2.1), aN (Q2m p0 Q2t (Q3l p0 H).1), aN (Q3j p0 Qa (Q3l p0 H).2.2.2.1), aN (Q2m p0 Q21 (Q3l p0 H).1), aN (Q3f p0 Q2v (Q3l p0 H).2.2.1), aN (Q2m p0 Qg (Q3l p0 H).1), aN hl0] (by kernel_rfl)
def Q4o (p0 : Val) : List Val → Nat → (List Taint) → Bool → (List Taint) × Bool
 | [], _i0, v0_1, v0_2 =>
  (v0_1, v0_2)
 | x0 :: r0, i0, v0_1, v0_2 =>
  bif (v0_2 == true) then
   Q4o p0 r0 (i0 + 1) (v0_1 ++ [(Taint.mk (Qj x0 Qs).1 (Qj x0 Qo).1 (Q5 x0 Qr).1 (Q5 x0 Qk).1)]) (((((Q1u x0) && (Q5 x0 Qr).2) && (Qj x0 Qs).2) && (Q5 x0 Qk).2) && (Qj x0 Qo).2)
  else
   Q4o p0 r0 (i0 + 1) (v0_1 ++ [(Taint.mk (Qj x0 Qs).1 (Qj x0 Qo).1 (Q5 x0 Qr).1 (Q5 x0 Qk).1)]) false
def Qhz (p0 : Val) (i0 : Nat) (v0_1 : List Taint) (v0_2 : Bool) : List PV :=
  [.un, .un, .un, .un, .sl (Val.rows (Qb p0 Q18).1), .bool v0_2, .ms 0 4 0 (List.length v0_1), .int .i64 (i0 : Int)] ++ nuns 81
def Qca (_p0 : Val) (_i0 : Nat) (v0_1 : List Taint) (_v0_2 : Bool) : List Ob :=
  [⟨4, 0, true, (Taint.rows v0_1).flatten⟩]
def Qa9 (p0 : Val) (i0 : Nat) (v0_1 : List Taint) (v0_2 : Bool) : En := .loop 0 Ir.Qn1 Ir.Q1dq (Qhz p0 i0 v0_1 v0_2) (Qca p0 i0 v0_1 v0_2)
def Qqr (_p0 : Val) (q0 : List Taint) (q1 : Bool) (z : Nat → PV) (_zo : Nat → List PV) : St :=
  ⟨zr z 0 5 ++ [.bool q1, .ms 0 4 0 (List.length q0)] ++ zr z 7 82, [(0, ⟨4, 0, true, (Taint.rows q0).flatten⟩)], 257⟩
theorem Qs7 (p0 : Val) (i0 : Nat) (v0_1 : List Taint) (v0_2 : Bool) : VOK (Go.Pv.look (number 0 (Qca p0 i0 v0_1 v0_2))) [(0, Taint.rows v0_1)] := (VOK.cons (show Seen _ _ from Q42 (ob := ⟨4, 0, true, (Taint.rows v0_1).flatten⟩) (Taint.Qp v0_1 4 rfl)) VOK.nil)
def Qfd (p0 : Val) (e : En) (q : (List Taint) × Bool) : Prop := ∃ z zo, Qi G e (.st (.exit 0) (Qqr p0 q.1 q.2 z zo))
theorem Qb4 (p0 : Val) {e e' : En} (h : ∀ r, Qi G e r → Qi G e' r) : ∀ q, Qfd p0 e q → Qfd p0 e' q
  | _, ⟨z, zo, hz⟩ => ⟨z, zo, h _ hz⟩
def Qac (p0 : Val) : Prop := (List.length (Qb p0 Q18).1 ≤ 137438953472) ∧ (∀ x0 ∈ (Qb p0 Q18).1, Qai x0) ∧ (∀ x0 ∈ (Qb p0 Q18).1, Qdv x0) ∧ True
def Qrn (p0 : Val) (i0 : Nat) (_v0_1 : List Taint) (_v0_2 : Bool) : List PV :=
  [.un, .un, .un, .un, .sl (Val.rows (Qb p0 Q18).1), .un, .un, .int .i64 (i0 : Int)] ++ nuns 13 ++ [.int .i64 (i0 : Int), .sl (Val.rows (Qb p0 Q18).1), .int .i64 ((List.length (Qb p0 Q18).1) : Int), .bool false]
def Qhd (_p0 : Val) (_i0 : Nat) (_v0_1 : List Taint) (_v0_2 : Bool) : List (Nat × List PV) :=
  []
theorem Q17l (p0 : Val) (_H : Qac p0) (i0 : Nat) (v0_1 : List Taint) (v0_2 : Bool) (_ho0_0 : List.length v0_1 ≤ i0) (hc0 : (decide ((i0 : Int) < ((List.length (Qb p0 Q18).1) : Int))) = false) : Qfd p0 (Qa9 p0 i0 v0_1 v0_2) (v0_1, v0_2) := by
 exact ⟨(envF (Qrn p0 i0 v0_1 v0_2)), (zoF (Qhd p0 i0 v0_1 v0_2)), Q10 (Qs7 p0 i0 v0_1 v0_2) (x := ((.exit 0), Qqr p0 v0_1 v0_2 (envF (Qrn p0 i0 v0_1 v0_2)) (zoF (Qhd p0 i0 v0_1 v0_2)))) [hP 2 (Qz (Val.rows (Qb p0 Q18).1) (List.length (Qb p0 Q18).1) (Val.Q9 (Qb p0 Q18).1)), hB 0 hc0] [] (by kernel_rfl)⟩
theorem Q16z (p0 : Val) (H : Qac p0) (x0 : Val) (i0 : Nat) (v0_1 : List Taint) (v0_2 : Bool) (hx0 : (Qb p0 Q18).1[i0]? = some x0) (hi0 : i0 < List.length (Qb p0 Q18).1) (ho0_0 : List.length v0_1 ≤ i0) (hc0 : (decide ((i0 : Int) < ((List.length (Qb p0 Q18).1) : Int))) = true) (h0 : (v0_2 == true) = true) {r : Rs} (hr : Qi G (Qa9 p0 (i0 + 1) (v0_1 ++ [(Taint.mk (Qj x0 Qs).1 (Qj x0 Qo).1 (Q5 x0 Qr).1 (Q5 x0 Qk).1)]) (((((Q1u x0) && (Q5 x0 Qr).2) && (Qj x0 Qs).2) && (Q5 x0 Qk).2) && (Qj x0 Qo).2)) r) : Qi G (Qa9 p0 i0 v0_1 v0_2) r := by
 have hB0 := H.1
 exact Qw (Qs7 p0 i0 v0_1 v0_2) (y := (Qhz p0 (i0 + 1) (v0_1 ++ [(Taint.mk (Qj x0 Qs).1 (Qj x0 Qo).1 (Q5 x0 Qr).1 (Q5 x0 Qk).1)]) (((((Q1u x0) && (Q5 x0 Qr).2) && (Qj x0 Qs).2) && (Q5 x0 Qk).2) && (Qj x0 Qo).2), Qca p0 (i0 + 1) (v0_1 ++ [(Taint.mk (Qj x0 Qs).1 (Qj x0 Qo).1 (Q5 x0 Qr).1 (Q5 x0 Qk).1)]) (((((Q1u x0) && (Q5 x0 Qr).2) && (Qj x0 Qs).2) && (Q5 x0 Qk).2) && (Qj x0 Qo).2))) [hP 2 (Qz (Val.rows (Qb p0 Q18).1) (List.length (Qb p0 Q18).1) (Val.Q9 (Qb p0 Q18).1)), hB 0 hc0, hP 2 (Q15 5 (Val.rows (Qb p0 Q18).1) i0 _ (Val.Qe hx0) rfl), hP 9 (Q15 5 (Val.rows (Qb p0 Q18).1) i0 _ (Val.Qe hx0) rfl), hP 9 (Q15 5 (Val.rows (Qb p0 Q18).1) i0 _ (Val.Qe hx0) rfl), hP 9 (Q15 5 (Val.rows (Qb p0 Q18).1) i0 _ (Val.Qe hx0) rfl), hV 14 [(3265, Taint.rows (v0_1 ++ [(Taint.mk (Qj x0 Qs).1 (Qj x0 Qo).1 (Q5 x0 Qr).1 (Q5 x0 Qk).1)]))] (Q3g 0 3201 3265 4 48 0 0 true (Taint.rows v0_1) (Taint.rows (v0_1 ++ [(Taint.mk (Qj x0 Qs).1 (Qj x0 Qo).1 (Q5 x0 Qr).1 (Q5 x0 Qk).1)])) (Taint.cells (Taint.mk (Qj x0 Qs).1 (Qj x0 Qo).1 (Q5 x0 Qr).1 (Q5 x0 Qk).1)) (List.length v0_1) (List.length (v0_1 ++ [(Taint.mk (Qj x0 Qs).1 (Qj x0 Qo).1 (Q5 x0 Qr).1 (Q5 x0 Qk).1)])) rfl (Taint.Q9 v0_1).symm (Taint.Q9 (v0_1 ++ [(Taint.mk (Qj x0 Qs).1 (Qj x0 Qo).1 (Q5 x0 Qr).1 (Q5 x0 Qk).1)])).symm (Taint.Q1n v0_1 (Taint.mk (Qj x0 Qs).1 (Qj x0 Qo).1 (Q5 x0 Qr).1 (Q5 x0 Qk).1)) (Taint.Q16 v0_1) rfl (by omega)), hS 0 true (Taint.Qp (v0_1 ++ [(Taint.mk (Qj x0 Qs).1 (Qj x0 Qo).1 (Q5 x0 Qr).1 (Q5 x0 Qk).1)]) 4 rfl), hB 1 (beqT h0), hP 3 (Q15 5 (Val.rows (Qb p0 Q18).1) i0 _ (Val.Qe hx0) rfl), hP 4 (Q45 (Q1u x0) (.bool (Q5 x0 Qr).2)), hP 0 (Q43 (Q1u x0) (Q5 x0 Qr).2), hP 1 (Q45 ((Q1u x0) && (Q5 x0 Qr).2) (.bool (Qj x0 Qs).2)), hP 0 (Q43 ((Q1u x0) && (Q5 x0 Qr).2) (Qj x0 Qs).2), hP 1 (Q45 (((Q1u x0) && (Q5 x0 Qr).2) && (Qj x0 Qs).2) (.bool (Q5 x0 Qk).2)), hP 0 (Q43 (((Q1u x0) && (Q5 x0 Qr).2) && (Qj x0 Qs).2) (Q5 x0 Qk).2), hP 1 (Q45 ((((Q1u x0) && (Q5 x0 Qr).2) && (Qj x0 Qs).2) && (Q5 x0 Qk).2) (.bool (Qj x0 Qo).2)), hP 0 (Q43 ((((Q1u x0) && (Q5 x0 Qr).2) && (Qj x0 Qs).2) && (Q5 x0 Qk).2) (Qj x0 Qo).2), hP 2 (Q25 i0 (by omega))] [aN (Q2m x0 Qr (H.2.1 x0 (Q13 hx0))), aN (Q3f x0 Qs (H.2.2.1 x0 (Q13 hx0))), aN (Q2m x0 Qk (H.2.1 x0 (Q13 hx0))), aN (Q3f x0 Qo (H.2.2.1 x0 (Q13 hx0))), aN (Q4g x0)] (by kernel_rfl) hr
theorem Q16i (p0 : Val) (H : Qac p0) (x0 : Val) (i0 : Nat) (v0_1 : List Taint) (v0_2 : Bool) (hx0 : (Qb p0 Q18).1[i0]? = some x0) (hi0 : i0 < List.length (Qb p0 Q18).1) (ho0_0 : List.length v0_1 ≤ i0) (hc0 : (decide ((i0 : Int) < ((List.length (Qb p0 Q18).1) : Int))) = true) (h0 : (v0_2 == true) = false) {r : Rs} (hr : Qi G (Qa9 p0 (i0 + 1) (v0_1 ++ [(Taint.mk (Qj x0 Qs).1 (Qj x0 Qo).1 (Q5 x0 Qr).1 (Q5 x0 Qk).1)]) false) r) : Qi G (Qa9 p0 i0 v0_1 v0_2) r := by
 have hB0 := H.1
 exact Qw (Qs7 p0 i0 v0_1 v0_2) (y := (Qhz p0 (i0 + 1) (v0_1 ++ [(Taint.mk (Qj x0 Qs).1 (Qj x0 Qo).1 (Q5 x0 Qr).1 (Q5 x0 Qk).1)]) false, Qca p0 (i0 + 1) (v0_1 ++ [(Taint.mk (Qj x0 Qs).1 (Qj x0 Qo).1 (Q5 x0 Qr).1 (Q5 x0 Qk).1)]) false)) [hP 2 (Qz (Val.rows (Qb p0 Q18).1) (List.length (Qb p0 Q18).1) (Val.Q9 (Qb p0 Q18).1)), hB 0 hc0, hP 2 (Q15 5 (Val.rows (Qb p0 Q18).1) i0 _ (Val.Qe hx0) rfl), hP 9 (Q15 5 (Val.rows (Qb p0 Q18).1) i0 _ (Val.Qe hx0) rfl), hP 9 (Q15 5 (Val.rows (Qb p0 Q18).1) i0 _ (Val.Qe hx0) rfl), hP 9 (Q15 5 (Val.rows (Qb p0 Q18).1) i0 _ (Val.Qe hx0) rfl), hV 14 [(3265, Taint.rows (v0_1 ++ [(Taint.mk (Qj x0 Qs).1 (Qj x0 Qo).1 (Q5 x0 Qr).1 (Q5 x0 Qk).1)]))] (Q3g 0 3201 3265 4 48 0 0 true (Taint.rows v0_1) (Taint.rows (v0_1 ++ [(Taint.mk (Qj x0 Qs).1 (Qj x0 Qo).1 (Q5 x0 Qr).1 (Q5 x0 Qk).1)])) (Taint.cells (Taint.mk (Qj x0 Qs).1 (Qj x0 Qo).1 (Q5 x0 Qr).1 (Q5 x0 Qk).1)) (List.length v0_1) (List.length (v0_1 ++ [(Taint.mk (Qj x0 Qs).1 (Qj x0 Qo).1 (Q5 x0 Qr).1 (Q5 x0 Qk).1)])) rfl (Taint.Q9 v0_1).symm (Taint.Q9 (v0_1 ++ [(Taint.mk (Qj x0 Qs).1 (Qj x0 Qo).1 (Q5 x0 Qr).1 (Q5 x0 Qk).1)])).symm (Taint.Q1n v0_1 (Taint.mk (Qj x0 Qs).1 (Qj x0 Qo).1 (Q5 x0 Qr).1 (Q5 x0 Qk).1)) (Taint.Q16 v0_1) rfl (by omega)), hS 0 true (Taint.Qp (v0_1 ++ [(Taint.mk (Qj x0 Qs).1 (Qj x0 Qo).1 (Q5 x0 Qr).1 (Q5 x0 Qk).1)]) 4 rfl), hB 1 (beqT h0), hP 21 (Q25 i0 (by omega))] [aN (Q2m x0 Qr (H.2.1 x0 (Q13 hx0))), aN (Q3f x0 Qs (H.2.2.1 x0 (Q13 hx0))), aN (Q2m x0 Qk (H.2.1 x0 (Q13 hx0))), aN (Q3f x0 Qo (H.2.2.1 x0 (Q13 hx0)))] (by kernel_rfl) hr
theorem Qhu (p0 : Val) (H : Qac p0) : ∀ (r0 : List Val) (i0 : Nat) (v0_1 : List Taint) (v0_2 : Bool), List.drop i0 (Qb p0 Q18).1 = r0 → List.length v0_1 ≤ i0 → Qfd p0 (Qa9 p0 i0 v0_1 v0_2) (Q4o p0 r0 i0 v0_1 v0_2)
 | [], i0, v0_1, v0_2, hd, ho0_0 => by
  have hc0 : (decide ((i0 : Int) < ((List.length (Qb p0 Q18).1) : Int))) = false := by have := Q1v hd; simp; omega
  rw [Q4o]
  exact Q17l p0 H i0 v0_1 v0_2 ho0_0 hc0
 | x0 :: r0, i0, v0_1, v0_2, hd, ho0_0 => by
  obtain ⟨hx0, hi0, hd'⟩ := Q1s hd
  have hc0 : (decide ((i0 : Int) < ((List.length (Qb p0 Q18).1) : Int))) = true := by simp; omega
  rw [Q4o]
  cases h0 : (v0_2 == true) with
  | true =>
   exact Qb4 p0 (fun r hr => Q16z p0 H x0 i0 v0_1 v0_2 hx0 hi0 ho0_0 hc0 h0 hr) _ (Qhu p0 H r0 (i0 + 1) (v0_1 ++ [(Taint.mk (Qj x0 Qs).1 (Qj x0 Qo).1 (Q5 x0 Qr).1 (Q5 x0 Qk).1)]) (((((Q1u x0) && (Q5 x0 Qr).2) && (Qj x0 Qs).2) && (Q5 x0 Qk).2) && (Qj x0 Qo).2) hd' (by first | omega | (simp; omega)))
  | false =>
   exact Qb4 p0 (fun r hr => Q16i p0 H x0 i0 v0_1 v0_2 hx0 hi0 ho0_0 hc0 h0 hr) _ (Qhu p0 H r0 (i0 + 1) (v0_1 ++ [(Taint.mk (Qj x0 Qs).1 (Qj x0 Qo).1 (Q5 x0 Qr).1 (Q5 x0 Qk).1)]) false hd' (by first | omega | (simp; omega)))
def Qcz (p0 : Val) : List Taint × Bool := dE Taint.dec p0 Q18
theorem Qsy (p0 : Val) : ∀ (l : List Val) (i : Nat) (a : List Taint) (b : Bool), Q4o p0 l i a b = (a ++ l.map (fun x => (Taint.dec x).1), b && l.all fun x => (Taint.dec x).2)
  | [], _, a, b => by rw [Q4o]; simp
  | x :: l, i, a, b => by
    rw [Q4o]
    cases b with
    | false => exact (Qsy p0 l (i + 1) (a ++ [(Taint.dec x).1]) false).trans (by simp only [List.append_assoc, List.singleton_append, List.map_cons, List.all_cons, Bool.false_and])
    | true => exact (Qsy p0 l (i + 1) (a ++ [(Taint.dec x).1]) (Taint.dec x).2).trans (by simp only [List.append_assoc, List.singleton_append, List.map_cons, List.all_cons, Bool.true_and])
theorem Q1o9 (p0 : Val) : Qcz p0 = (((Q4o p0 (Qb p0 Q18).1 0 [] (Qb p0 Q18).2).1, (Q4o p0 (Qb p0 Q18).1 0 [] (Qb p0 Q18).2).2)) := by
  rw [Qsy]
  rfl
def Q1r0 (p0 : Val) : En := .call 48 [.agg (Val.cells p0)] []
def Q1kq (p0 : Val) : Rs := .ret (.tup [.sl (Taint.rows (Qcz p0).1), .bool (Qcz p0).2]) []
def Q1hr (p0 : Val) : Prop := Val.Sm 1000000000 p0
theorem Q126 (p0 : Val) (H : Q1hr p0) : (Qbn p0) ∧ (Qac p0) ∧ True := by
  have hl := Q6h (Q2h H Q18)
  have g : ∀ x ∈ (dL p0 Q18).1, Val.Sm sB x := hl.2
  refine ⟨H, ?_, trivial⟩
  unfold Qac
  refine ⟨Nat.le_trans hl.1 (Nat.le_of_ble_eq_true rfl), ?_⟩
  repeat' with_reducible apply And.intro
  all_goals first | exact True.intro | exact g
theorem Q19u (p0 : Val) (H : Q1hr p0) : Qi G (Q1r0 p0) (Q1kq p0) := by
 unfold Q1kq
 rw [Q1o9]
 have hl0 := Qhu p0 ((Q126 p0 H).2.1) (Qb p0 Q18).1 0 [] (Qb p0 Q18).2 (by simp) (by simp)
 obtain ⟨z0, zo0, hl0⟩ := hl0
 exact Qm (fn := Ir.K3o) rfl VOK.nil [hS 0 true (Taint.Qp (Q4o p0 (Qb p0 Q18).1 0 [] (Qb p0 Q18).2).1 4 rfl), hQ (Taint.Q9 (Q4o p0 (Qb p0 Q18).1 0 [] (Qb p0 Q18).2).1).symm] [aN (Qaj p0 Q18 (Q126 p0 H).1), aV [(0, Taint.rows (Q4o p0 (Qb p0 Q18).1 0 [] (Qb p0 Q18).2).1)] hl0] (by kernel_rfl)
def Q4m (p0 : Val) : List Val → Nat → (List Image) → Bool → (List Image) × Bool
 | [], _i0, v0_1, v0_2 =>
  (v0_1, v0_2)
 | x0 :: r0, i0, v0_1, v0_2 =>
  bif (v0_2 == true) then
   Q4m p0 r0 (i0 + 1) (v0_1 ++ [(Image.mk (Qj x0 Qf).1 (Q5 x0 Q26).1 (Q5 x0 Q2b).1)]) ((((Q1u x0) && (Qj x0 Qf).2) && (Q5 x0 Q26).2) && (Q5 x0 Q2b).2)
  else
   Q4m p0 r0 (i0 + 1) (v0_1 ++ [(Image.mk (Qj x0 Qf).1 (Q5 x0 Q26).1 (Q5 x0 Q2b).1)]) false
def Qib (p0 : Val) (i0 : Nat) (v0_1 : List Image) (v0_2 : Bool) : List PV :=
  [.un, .un, .un, .un, .sl (Val.rows (Qb p0 Q1k).1), .bool v0_2, .ms 0 3 0 (List.length v0_1), .int .i64 (i0 : Int)] ++ nuns 67
def Qc7 (_p0 : Val) (_i0 : Nat) (v0_1 : List Image) (_v0_2 : Bool) : List Ob :=
  [⟨3, 0, true, (Image.rows v0_1).flatten⟩]
def Qa2 (p0 : Val) (i0 : Nat) (v0_1 : List Image) (v0_2 : Bool) : En := .loop 0 Ir.Qim Ir.Q1eh (Qib p0 i0 v0_1 v0_2) (Qc7 p0 i0 v0_1 v0_2)
def Qor (_p0 : Val) (q0 : List Image) (q1 : Bool) (z : Nat → PV) (_zo : Nat → List PV) : St :=
  ⟨zr z 0 5 ++ [.bool q1, .ms 0 3 0 (List.length q0)] ++ zr z 7 68, [(0, ⟨3, 0, true, (Image.rows q0).flatten⟩)], 257⟩
theorem Qsp (p0 : Val) (i0 : Nat) (v0_1 : List Image) (v0_2 : Bool) : VOK (Go.Pv.look (number 0 (Qc7 p0 i0 v0_1 v0_2))) [(0, Image.rows v0_1)] := (VOK.cons (show Seen _ _ from Q42 (ob := ⟨3, 0, true, (Image.rows v0_1).flatten⟩) (Image.Qp v0_1 3 rfl)) VOK.nil)
def Qf7 (p0 : Val) (e : En) (q : (List Image) × Bool) : Prop := ∃ z zo, Qi G e (.st (.exit 0) (Qor p0 q.1 q.2 z zo))
theorem Qcy (p0 : Val) {e e' : En} (h : ∀ r, Qi G e r → Qi G e' r) : ∀ q, Qf7 p0 e q → Qf7 p0 e' q
  | _, ⟨z, zo, hz⟩ => ⟨z, zo, h _ hz⟩
def Q9k (p0 : Val) : Prop := (List.length (Qb p0 Q1k).1 ≤ 137438953472) ∧ (∀ x0 ∈ (Qb p0 Q1k).1, Qdv x0) ∧ (∀ x0 ∈ (Qb p0 Q1k).1, Qai x0) ∧ True
def Qry (p0 : Val) (i0 : Nat) (_v0_1 : List Image) (_v0_2 : Bool) : List PV :=
  [.un, .un, .un, .un, .sl (Val.rows (Qb p0 Q1k).1), .un, .un, .int .i64 (i0 : Int)] ++ nuns 11 ++ [.int .i64 (i0 : Int), .sl (Val.rows (Qb p0 Q1k).1), .int .i64 ((List.length (Qb p0 Q1k).1) : Int), .bool false]
def Qio (_p0 : Val) (_i0 : Nat) (_v0_1 : List Image) (_v0_2 : Bool) : List (Nat × List PV) :=
  []
theorem Q15j (p0 : Val) (_H : Q9k p0) (i0 : Nat) (v0_1 : List Image) (v0_2 : Bool) (_ho0_0 : List.length v0_1 ≤ i0) (hc0 : (decide ((i0 : Int) < ((List.length (Qb p0 Q1k).1) : Int))) = false) : Qf7 p0 (Qa2 p0 i0 v0_1 v0_2) (v0_1, v0_2) := by
 exact ⟨(envF (Qry p0 i0 v0_1 v0_2)), (zoF (Qio p0 i0 v0_1 v0_2)), Q10 (Qsp p0 i0 v0_1 v0_2) (x := ((.exit 0), Qor p0 v0_1 v0_2 (envF (Qry p0 i0 v0_1 v0_2)) (zoF (Qio p0 i0 v0_1 v0_2)))) [hP 2 (Qz (Val.rows (Qb p0 Q1k).1) (List.length (Qb p0 Q1k).1) (Val.Q9 (Qb p0 Q1k).1)), hB 0 hc0] [] (by kernel_rfl)⟩
theorem Q17j (p0 : Val) (H : Q9k p0) (x0 : Val) (i0 : Nat) (v0_1 : List Image) (v0_2 : Bool) (hx0 : (Qb p0 Q1k).1[i0]? = some x0) (hi0 : i0 < List.length (Qb p0 Q1k).1) (ho0_0 : List.length v0_1 ≤ i0) (hc0 : (decide ((i0 : Int) < ((List.length (Qb p0 Q1k).1) : Int))) = true) (h0 : (v0_2 == true) = true) {r : Rs} (hr : Qi G (Qa2 p0 (i0 + 1) (v0_1 ++ [(Image.mk (Qj x0 Qf).1 (Q5 x0 Q26).1 (Q5 x0 Q2b).1)]) ((((Q1u x0) && (Qj x0 Qf).2) && (Q5 x0 Q26).2) && (Q5 x0 Q2b).2)) r) : Qi G (Qa2 p0 i0 v0_1 v0_2) r := by
 have hB0 := H.1
 exact Qw (Qsp p0 i0 v0_1 v0_2) (y := (Qib p0 (i0 + 1) (v0_1 ++ [(Image.mk (Qj x0 Qf).1 (Q5 x0 Q26).1 (Q5 x0 Q2b).1)]) ((((Q1u x0) && (Qj x0 Qf).2) && (Q5 x0 Q26).2) && (Q5 x0 Q2b).2), Qc7 p0 (i0 + 1) (v0_1 ++ [(Image.mk (Qj x0 Qf).1 (Q5 x0 Q26).1 (Q5 x0 Q2b).1)]) ((((Q1u x0) && (Qj x0 Qf).2) && (Q5 x0 Q26).2) && (Q5 x0 Q2b).2))) [hP 2 (Qz (Val.rows (Qb p0 Q1k).1) (List.length (Qb p0 Q1k).1) (Val.Q9 (Qb p0 Q1k).1)), hB 0 hc0, hP 2 (Q15 5 (Val.rows (Qb p0 Q1k).1) i0 _ (Val.Qe hx0) rfl), hP 9 (Q15 5 (Val.rows (Qb p0 Q1k).1) i0 _ (Val.Qe hx0) rfl), hP 9 (Q15 5 (Val.rows (Qb p0 Q1k).1) i0 _ (Val.Qe hx0) rfl), hV 13 [(2561, Image.rows (v0_1 ++ [(Image.mk (Qj x0 Qf).1 (Q5 x0 Q26).1 (Q5 x0 Q2b).1)]))] (Q3g 0 2497 2561 3 32 0 0 true (Image.rows v0_1) (Image.rows (v0_1 ++ [(Image.mk (Qj x0 Qf).1 (Q5 x0 Q26).1 (Q5 x0 Q2b).1)])) (Image.cells (Image.mk (Qj x0 Qf).1 (Q5 x0 Q26).1 (Q5 x0 Q2b).1)) (List.length v0_1) (List.length (v0_1 ++ [(Image.mk (Qj x0 Qf).1 (Q5 x0 Q26).1 (Q5 x0 Q2b).1)])) rfl (Image.Q9 v0_1).symm (Image.Q9 (v0_1 ++ [(Image.mk (Qj x0 Qf).1 (Q5 x0 Q26).1 (Q5 x0 Q2b).1)])).symm (Image.Q1n v0_1 (Image.mk (Qj x0 Qf).1 (Q5 x0 Q26).1 (Q5 x0 Q2b).1)) (Image.Q16 v0_1) rfl (by omega)), hS 0 true (Image.Qp (v0_1 ++ [(Image.mk (Qj x0 Qf).1 (Q5 x0 Q26).1 (Q5 x0 Q2b).1)]) 3 rfl), hB 1 (beqT h0), hP 3 (Q15 5 (Val.rows (Qb p0 Q1k).1) i0 _ (Val.Qe hx0) rfl), hP 4 (Q45 (Q1u x0) (.bool (Qj x0 Qf).2)), hP 0 (Q43 (Q1u x0) (Qj x0 Qf).2), hP 1 (Q45 ((Q1u x0) && (Qj x0 Qf).2) (.bool (Q5 x0 Q26).2)), hP 0 (Q43 ((Q1u x0) && (Qj x0 Qf).2) (Q5 x0 Q26).2), hP 1 (Q45 (((Q1u x0) && (Qj x0 Qf).2) && (Q5 x0 Q26).2) (.bool (Q5 x0 Q2b).2)), hP 0 (Q43 (((Q1u x0) && (Qj x0 Qf).2) && (Q5 x0 Q26).2) (Q5 x0 Q2b).2), hP 2 (Q25 i0 (by omega))] [aN (Q3f x0 Qf (H.2.1 x0 (Q13 hx0))), aN (Q2m x0 Q26 (H.2.2.1 x0 (Q13 hx0))), aN (Q2m x0 Q2b (H.2.2.1 x0 (Q13 hx0))), aN (Q4g x0)] (by kernel_rfl) hr
theorem Q153 (p0 : Val) (H : Q9k p0) (x0 : Val) (i0 : Nat) (v0_1 : List Image) (v0_2 : Bool) (hx0 : (Qb p0 Q1k).1[i0]? = some x0) (hi0 : i0 < List.length (Qb p0 Q1k).1) (ho0_0 : List.length v0_1 ≤ i0) (hc0 : (decide ((i0 : Int) < ((List.length (Qb p0 Q1k).1) : Int))) = true) (h0 : (v0_2 == true) = false) {r : Rs} (hr : Qi G (Qa2 p0 (i0 + 1) (v0_1 ++ [(Image.mk (Qj x0 Qf).1 (Q5 x0 Q26).1 (Q5 x0 Q2b).1)]) false) r) : Qi G (Qa2 p0 i0 v0_1 v0_2) r := by
 have hB0 := H.1
 exact Qw (Qsp p0 i0 v0_1 v0_2) (y := (Qib p0 (i0 + 1) (v0_1 ++ [(Image.mk (Qj x0 Qf).1 (Q5 x0 Q26).1 (Q5 x0 Q2b).1)]) false, Qc7 p0 (i0 + 1) (v0_1 ++ [(Image.mk (Qj x0 Qf).1 (Q5 x0 Q26).1 (Q5 x0 Q2b).1)]) false)) [hP 2 (Qz (Val.rows (Qb p0 Q1k).1) (List.length (Qb p0 Q1k).1) (Val.Q9 (Qb p0 Q1k).1)), hB 0 hc0, hP 2 (Q15 5 (Val.rows (Qb p0 Q1k).1) i0 _ (Val.Qe hx0) rfl), hP 9 (Q15 5 (Val.rows (Qb p0 Q1k).1) i0 _ (Val.Qe hx0) rfl), hP 9 (Q15 5 (Val.rows (Qb p0 Q1k).1) i0 _ (Val.Qe hx0) rfl), hV 13 [(2561, Image.rows (v0_1 ++ [(Image.mk (Qj x0 Qf).1 (Q5 x0 Q26).1 (Q5 x0 Q2b).1)]))] (Q3g 0 2497 2561 3 32 0 0 true (Image.rows v0_1) (Image.rows (v0_1 ++ [(Image.mk (Qj x0 Qf).1 (Q5 x0 Q26).1 (Q5 x0 Q2b).1)])) (Image.cells (Image.mk (Qj x0 Qf).1 (Q5 x0 Q26).1 (Q5 x0 Q2b).1)) (List.length v0_1) (List.length (v0_1 ++ [(Image.mk (Qj x0 Qf).1 (Q5 x0 Q26).1 (Q5 x0 Q2b).1)])) rfl (Image.Q9 v0_1).symm (Image.Q9 (v0_1 ++ [(Image.mk (Qj x0 Qf).1 (Q5 x0 Q26).1 (Q5 x0 Q2b).1)])).symm (Image.Q1n v0_1 (Image.mk (Qj x0 Qf).1 (Q5 x0 Q26).1 (Q5 x0 Q2b).1)) (Image.Q16 v0_1) rfl (by omega)), hS 0 true (Image.Qp (v0_1 ++ [(Image.mk (Qj x0 Qf).1 (Q5 x0 Q26).1 (Q5 x0 Q2b).1)]) 3 rfl), hB 1 (beqT h0), hP 18 (Q25 i0 (by omega))] [aN (Q3f x0 Qf (H.2.1 x0 (Q13 hx0))), aN (Q2m x0 Q26 (H.2.2.1 x0 (Q13 hx0))), aN (Q2m x0 Q2b (H.2.2.1 x0 (Q13 hx0)))] (by kernel_rfl) hr
theorem Qm3 (p0 : Val) (H : Q9k p0) : ∀ (r0 : List Val) (i0 : Nat) (v0_1 : List Image) (v0_2 : Bool), List.drop i0 (Qb p0 Q1k).1 = r0 → List.length v0_1 ≤ i0 → Qf7 p0 (Qa2 p0 i0 v0_1 v0_2) (Q4m p0 r0 i0 v0_1 v0_2)
 | [], i0, v0_1, v0_2, hd, ho0_0 => by
  have hc0 : (decide ((i0 : Int) < ((List.length (Qb p0 Q1k).1) : Int))) = false := by have := Q1v hd; simp; omega
  rw [Q4m]
  exact Q15j p0 H i0 v0_1 v0_2 ho0_0 hc0
 | x0 :: r0, i0, v0_1, v0_2, hd, ho0_0 => by
  obtain ⟨hx0, hi0, hd'⟩ := Q1s hd
  have hc0 : (decide ((i0 : Int) < ((List.length (Qb p0 Q1k).1) : Int))) = true := by simp; omega
  rw [Q4m]
  cases h0 : (v0_2 == true) with
  | true =>
   exact Qcy p0 (fun r hr => Q17j p0 H x0 i0 v0_1 v0_2 hx0 hi0 ho0_0 hc0 h0 hr) _ (Qm3 p0 H r0 (i0 + 1) (v0_1 ++ [(Image.mk (Qj x0 Qf).1 (Q5 x0 Q26).1 (Q5 x0 Q2b).1)]) ((((Q1u x0) && (Qj x0 Qf).2) && (Q5 x0 Q26).2) && (Q5 x0 Q2b).2) hd' (by first | omega | (simp; omega)))
  | false =>
   exact Qcy p0 (fun r hr => Q153 p0 H x0 i0 v0_1 v0_2 hx0 hi0 ho0_0 hc0 h0 hr) _ (Qm3 p0 H r0 (i0 + 1) (v0_1 ++ [(Image.mk (Qj x0 Qf).1 (Q5 x0 Q26).1 (Q5 x0 Q2b).1)]) false hd' (by first | omega | (simp; omega)))
def Qb8 (p0 : Val) : List Image × Bool := dE Image.dec p0 Q1k
theorem Qt2 (p0 : Val) : ∀ (l : List Val) (i : Nat) (a : List Image) (b : Bool), Q4m p0 l i a b = (a ++ l.map (fun x => (Image.dec x).1), b && l.all fun x => (Image.dec x).2)
  | [], _, a, b => by rw [Q4m]; simp
  | x :: l, i, a, b => by
    rw [Q4m]
    cases b with
    | false => exact (Qt2 p0 l (i + 1) (a ++ [(Image.dec x).1]) false).trans (by simp only [List.append_assoc, List.singleton_append, List.map_cons, List.all_cons, Bool.false_and])
    | true => exact (Qt2 p0 l (i + 1) (a ++ [(Image.dec x).1]) (Image.dec x).2).trans (by simp only [List.append_assoc, List.singleton_append, List.map_cons, List.all_cons, Bool.true_and])
theorem Q1qn (p0 : Val) : Qb8 p0 = (((Q4m p0 (Qb p0 Q1k).1 0 [] (Qb p0 Q1k).2).1, (Q4m p0 (Qb p0 Q1k).1 0 [] (Qb p0 Q1k).2).2)) := by
  rw [Qt2]
  rfl
def Q1rj (p0 : Val) : En := .call 49 [.agg (Val.cells p0)] []
def Q1li (p0 : Val) : Rs := .ret (.tup [.sl (Image.rows (Qb8 p0).1), .bool (Qb8 p0).2]) []
def Q1hl (p0 : Val) : Prop := Val.Sm 1000000000 p0
theorem Q10y (p0 : Val) (H : Q1hl p0) : (Qbn p0) ∧ (Q9k p0) ∧ True := by
  have hl := Q6h (Q2h H Q1k)
  have g : ∀ x ∈ (dL p0 Q1k).1, Val.Sm sB x := hl.2
  refine ⟨H, ?_, trivial⟩
  unfold Q9k
  refine ⟨Nat.le_trans hl.1 (Nat.le_of_ble_eq_true rfl), ?_⟩
  repeat' with_reducible apply And.intro
  all_goals first | exact True.intro | exact g
theorem Q1b8 (p0 : Val) (H : Q1hl p0) : Qi G (Q1rj p0) (Q1li p0) := by
 unfold Q1li
 rw [Q1qn]
 have hl0 := Qm3 p0 ((Q10y p0 H).2.1) (Qb p0 Q1k).1 0 [] (Qb p0 Q1k).2 (by simp) (by simp)
 obtain ⟨z0, zo0, hl0⟩ := hl0
 exact Qm (fn := Ir.K3f) rfl VOK.nil [hS 0 true (Image.Qp (Q4m p0 (Qb p0 Q1k).1 0 [] (Qb p0 Q1k).2).1 3 rfl), hQ (Image.Q9 (Q4m p0 (Qb p0 Q1k).1 0 [] (Qb p0 Q1k).2).1).symm] [aN (Qaj p0 Q1k (Q10y p0 H).1), aV [(0, Image.rows (Q4m p0 (Qb p0 Q1k).1 0 [] (Qb p0 Q1k).2).1)] hl0] (by kernel_rfl)
end Go.Proofs.YtiflaadeikaghaaGreat
end

section
/- Pods, nodes and templates out of objects, by the reference (printed by a program). -/
namespace Go.Proofs.YtiflaadeikaghaaGreat
open Go.Pv
def Q71 (p0 : Object) : Pod × Int := podR p0
theorem Q1n4 (p0 : Object) : Q71 p0 = (bif (sEq p0.meta_.kind Q4w) then
    bif (Qay p0.spec).2 then
      bif (Qna p0.status).2 then
        ((Pod.mk p0.meta_ (Qay p0.spec).1 (Qna p0.status).1), 0)
      else
        ((Pod.mk (Meta.mk eB eB eB 0 0 0 0 false 0 [] [] [] []) (PodSpec.mk eB 0 0 0 [] [] [] [] [] []) (PodStatus.mk 0 false 0 0 0 [] 0 eB eB)), 6)
    else
      ((Pod.mk (Meta.mk eB eB eB 0 0 0 0 false 0 [] [] [] []) (PodSpec.mk eB 0 0 0 [] [] [] [] [] []) (PodStatus.mk 0 false 0 0 0 [] 0 eB eB)), 6)
  else
    ((Pod.mk (Meta.mk eB eB eB 0 0 0 0 false 0 [] [] [] []) (PodSpec.mk eB 0 0 0 [] [] [] [] [] []) (PodStatus.mk 0 false 0 0 0 [] 0 eB eB)), 6)) := by
  unfold Q71 podR podQ
  simp only [Qay, Qna]
  cases (sEq p0.meta_.kind Q4w) <;> cases h1 : (PodSpec.dec p0.spec).2 <;> cases h2 : (PodStatus.dec p0.status).2 <;> rfl
def Q1pp (p0 : Object) : En := .call 12 [.agg (Object.cells p0)] []
def Q1i8 (p0 : Object) : Rs := .ret (.tup [.agg (Pod.cells (Q71 p0).1), .int .i64 (Q71 p0).2]) []
def Q1go (p0 : Object) : Prop := Object.sm p0
theorem Q7k (p0 : Object) (H : Q1go p0) : (Q1c9 p0.spec) ∧ (Q1gw p0.status) ∧ True := by
  repeat' with_reducible apply And.intro
  all_goals first | exact True.intro | exact H.1 | exact H.2
theorem Qzc (p0 : Object) (H : Q1go p0) : Qi G (Q1pp p0) (Q1i8 p0) := by
 unfold Q1i8
 rw [Q1n4]
 cases h0 : (sEq p0.meta_.kind Q4w) with
 | true =>
  cases h1 : (Qay p0.spec).2 with
  | true =>
   cases h2 : (Qna p0.status).2 with
   | true =>
    exact Qm (fn := Ir.K2s) rfl VOK.nil [hP 24 (dec (!(sEq p0.meta_.kind Q4w)) false (by rw [h0]; rfl)), hP 2 (dec (!(Qay p0.spec).2) false (by rw [h1]; rfl)), hP 3 (dec (!(Qna p0.status).2) false (by rw [h2]; rfl))] [aN (Qtv p0.spec (Q7k p0 H).1), aN (Q1cg p0.status (Q7k p0 H).2.1)] (by kernel_rfl)
   | false =>
    exact Qm (fn := Ir.K2s) rfl VOK.nil [hP 24 (dec (!(sEq p0.meta_.kind Q4w)) false (by rw [h0]; rfl)), hP 2 (dec (!(Qay p0.spec).2) false (by rw [h1]; rfl)), hP 3 (dec (!(Qna p0.status).2) true (by rw [h2]; rfl))] [aN (Qtv p0.spec (Q7k p0 H).1), aN (Q1cg p0.status (Q7k p0 H).2.1)] (by kernel_rfl)
  | false =>
   exact Qm (fn := Ir.K2s) rfl VOK.nil [hP 24 (dec (!(sEq p0.meta_.kind Q4w)) false (by rw [h0]; rfl)), hP 2 (dec (!(Qay p0.spec).2) true (by rw [h1]; rfl))] [aN (Qtv p0.spec (Q7k p0 H).1), aN (Q1cg p0.status (Q7k p0 H).2.1)] (by kernel_rfl)
 | false =>
  exact Qm (fn := Ir.K2s) rfl VOK.nil [hP 24 (dec (!(sEq p0.meta_.kind Q4w)) true (by rw [h0]; rfl))] [aN (Qtv p0.spec (Q7k p0 H).1), aN (Q1cg p0.status (Q7k p0 H).2.1)] (by kernel_rfl)
def Q3y (p0 : Object) : List Bool := [(Q2q p0.spec Qt).2, (Qn p0.spec Q1l).2, (Q5 p0.spec Q1o).2, (Qcz p0.spec).2, (Q5 p0.status Q2s).2, (Qb8 p0.status).2, (Qn p0.status Q29).2, (Qn p0.status Q2d).2, (Qn p0.status Qa).2]
inductive Q13n where
  | k0
  | k1
def Q6p (p0 : Object) : List Bool → Nat → Q13n
 | [], _i0 =>
  (.k0)
 | x0 :: r0, i0 =>
  bif (x0 == true) then
   Q6p p0 r0 (i0 + 1)
  else
   (.k1)
def Qyv (_p0 : Object) (i0 : Nat) : List PV :=
  [.un, .bx 0 0, .bx 1 0, .un, .bx 2 0, .bx 3 0] ++ nuns 18 ++ [.int .i64 (i0 : Int)] ++ nuns 121
def Qyx (p0 : Object) (_i0 : Nat) : List Ob :=
  [⟨23, 0, true, [.str p0.meta_.kind, .str p0.meta_.namespace_, .str p0.meta_.name, .int .i64 p0.meta_.uid, .int .i64 p0.meta_.version, .int .i64 p0.meta_.generation, .int .i64 p0.meta_.created, .bool p0.meta_.deleting, .int .i64 p0.meta_.deleteAt, .sl (Label.rows p0.meta_.labels), .sl (Owner.rows p0.meta_.owners), .sl (Qv p0.meta_.finalizers), .sl (Manager.rows p0.meta_.managers), .int .i64 p0.spec.kind, .int .i64 p0.spec.n, .str p0.spec.s, .sl (Val.rows p0.spec.list), .sl (Fld.rows p0.spec.fields), .int .i64 p0.status.kind, .int .i64 p0.status.n, .str p0.status.s, .sl (Val.rows p0.status.list), .sl (Fld.rows p0.status.fields)]⟩, ⟨24, 0, true, [.str eB, .str eB, .str eB, .int .i64 0, .int .i64 0, .int .i64 0, .int .i64 0, .bool false, .int .i64 0, .ms 4 2 0 0, .ms 5 5 0 0, .ms 6 1 0 0, .ms 7 2 0 0, .int .i64 0, .int .i64 0, .int .i64 0, .int .i64 0, .bool false, .ms 8 4 0 0, .bool false, .int .i64 0, .bool false, .bool false, .ms 9 3 0 0]⟩, ⟨24, 0, true, [.str p0.meta_.kind, .str p0.meta_.namespace_, .str p0.meta_.name, .int .i64 p0.meta_.uid, .int .i64 p0.meta_.version, .int .i64 p0.meta_.generation, .int .i64 p0.meta_.created, .bool p0.meta_.deleting, .int .i64 p0.meta_.deleteAt, .sl (Label.rows p0.meta_.labels), .sl (Owner.rows p0.meta_.owners), .sl (Qv p0.meta_.finalizers), .sl (Manager.rows p0.meta_.managers), .int .i64 (Q2q p0.spec Qt).1.cPU, .int .i64 (Q2q p0.spec Qt).1.memory, .int .i64 (Q2q p0.spec Qt).1.disk, .int .i64 (Q5 p0.spec Q1o).1, .bool (Qn p0.spec Q1l).1, .sl (Taint.rows (Qcz p0.spec).1), .bool (Qn p0.status Qa).1, .int .i64 (Q5 p0.status Q2s).1, .bool (Qn p0.status Q2d).1, .bool (Qn p0.status Q29).1, .sl (Image.rows (Qb8 p0.status).1)]⟩, ⟨9, 0, true, [.bool (Q2q p0.spec Qt).2, .bool (Qn p0.spec Q1l).2, .bool (Q5 p0.spec Q1o).2, .bool (Qcz p0.spec).2, .bool (Q5 p0.status Q2s).2, .bool (Qb8 p0.status).2, .bool (Qn p0.status Q29).2, .bool (Qn p0.status Q2d).2, .bool (Qn p0.status Qa).2]⟩, ⟨2, 0, true, []⟩, ⟨5, 0, true, []⟩, ⟨1, 0, true, []⟩, ⟨2, 0, true, []⟩, ⟨4, 0, true, []⟩, ⟨3, 0, true, []⟩]
def Qbg (p0 : Object) (i0 : Nat) : En := .loop 0 Ir.Qhf Ir.Q1dw (Qyv p0 i0) (Qyx p0 i0)
def Qri (p0 : Object) (z : Nat → PV) (_zo : Nat → List PV) : St :=
  ⟨[z 0, .bx 0 0, .bx 1 0, z 3, .bx 2 0] ++ zr z 5 141, [(0, ⟨23, 0, true, [.str p0.meta_.kind, .str p0.meta_.namespace_, .str p0.meta_.name, .int .i64 p0.meta_.uid, .int .i64 p0.meta_.version, .int .i64 p0.meta_.generation, .int .i64 p0.meta_.created, .bool p0.meta_.deleting, .int .i64 p0.meta_.deleteAt, .sl (Label.rows p0.meta_.labels), .sl (Owner.rows p0.meta_.owners), .sl (Qv p0.meta_.finalizers), .sl (Manager.rows p0.meta_.managers), .int .i64 p0.spec.kind, .int .i64 p0.spec.n, .str p0.spec.s, .sl (Val.rows p0.spec.list), .sl (Fld.rows p0.spec.fields), .int .i64 p0.status.kind, .int .i64 p0.status.n, .str p0.status.s, .sl (Val.rows p0.status.list), .sl (Fld.rows p0.status.fields)]⟩), (1, ⟨24, 0, true, [.str eB, .str eB, .str eB, .int .i64 0, .int .i64 0, .int .i64 0, .int .i64 0, .bool false, .int .i64 0, .ms 4 2 0 0, .ms 5 5 0 0, .ms 6 1 0 0, .ms 7 2 0 0, .int .i64 0, .int .i64 0, .int .i64 0, .int .i64 0, .bool false, .ms 8 4 0 0, .bool false, .int .i64 0, .bool false, .bool false, .ms 9 3 0 0]⟩), (2, ⟨24, 0, true, [.str p0.meta_.kind, .str p0.meta_.namespace_, .str p0.meta_.name, .int .i64 p0.meta_.uid, .int .i64 p0.meta_.version, .int .i64 p0.meta_.generation, .int .i64 p0.meta_.created, .bool p0.meta_.deleting, .int .i64 p0.meta_.deleteAt, .sl (Label.rows p0.meta_.labels), .sl (Owner.rows p0.meta_.owners), .sl (Qv p0.meta_.finalizers), .sl (Manager.rows p0.meta_.managers), .int .i64 (Q2q p0.spec Qt).1.cPU, .int .i64 (Q2q p0.spec Qt).1.memory, .int .i64 (Q2q p0.spec Qt).1.disk, .int .i64 (Q5 p0.spec Q1o).1, .bool (Qn p0.spec Q1l).1, .sl (Taint.rows (Qcz p0.spec).1), .bool (Qn p0.status Qa).1, .int .i64 (Q5 p0.status Q2s).1, .bool (Qn p0.status Q2d).1, .bool (Qn p0.status Q29).1, .sl (Image.rows (Qb8 p0.status).1)]⟩), (3, ⟨9, 0, true, [.bool (Q2q p0.spec Qt).2, .bool (Qn p0.spec Q1l).2, .bool (Q5 p0.spec Q1o).2, .bool (Qcz p0.spec).2, .bool (Q5 p0.status Q2s).2, .bool (Qb8 p0.status).2, .bool (Qn p0.status Q29).2, .bool (Qn p0.status Q2d).2, .bool (Qn p0.status Qa).2]⟩), (4, ⟨2, 0, true, []⟩), (5, ⟨5, 0, true, []⟩), (6, ⟨1, 0, true, []⟩), (7, ⟨2, 0, true, []⟩), (8, ⟨4, 0, true, []⟩), (9, ⟨3, 0, true, []⟩)], 138⟩
def Qra (_p0 : Object) (z : Nat → PV) (zo : Nat → List PV) : St :=
  ⟨[z 0, z 1, .bx 1 0, .int .i64 6] ++ zr z 4 142, [(0, ⟨23, 0, true, zo 0⟩), (1, ⟨24, 0, true, [.str eB, .str eB, .str eB, .int .i64 0, .int .i64 0, .int .i64 0, .int .i64 0, .bool false, .int .i64 0, .ns 2, .ns 5, .ns 1, .ns 2, .int .i64 0, .int .i64 0, .int .i64 0, .int .i64 0, .bool false, .ns 4, .bool false, .int .i64 0, .bool false, .bool false, .ns 3]⟩), (2, ⟨24, 0, true, zo 2⟩), (3, ⟨9, 0, true, zo 3⟩), (4, ⟨2, 0, true, zo 4⟩), (5, ⟨5, 0, true, zo 5⟩), (6, ⟨1, 0, true, zo 6⟩), (7, ⟨2, 0, true, zo 7⟩), (8, ⟨4, 0, true, zo 8⟩), (9, ⟨3, 0, true, zo 9⟩)], 586⟩
def Qbo (p0 : Object) (e : En) : Q13n → Prop
  | .k0 => ∃ z zo, Qi G e (.st (.exit 0) (Qri p0 z zo))
  | .k1 => ∃ z zo, Qi G e (.st .ret (Qra p0 z zo))
theorem Qtb (p0 : Object) {e e' : En} (h : ∀ r, Qi G e r → Qi G e' r) : ∀ q, Qbo p0 e q → Qbo p0 e' q
  | .k0, ⟨z, zo, hz⟩ => ⟨z, zo, h _ hz⟩
  | .k1, ⟨z, zo, hz⟩ => ⟨z, zo, h _ hz⟩
def Qcn (p0 : Object) : Prop := (List.length (Q3y p0) ≤ 4611686018427387904) ∧ True
def Qrv (_p0 : Object) (i0 : Nat) : List PV :=
  nuns 5 ++ [.bx 3 0] ++ nuns 18 ++ [.int .i64 (i0 : Int)] ++ nuns 94 ++ [.int .i64 (i0 : Int), .bool false]
def Qi1 (_p0 : Object) (_i0 : Nat) : List (Nat × List PV) :=
  []
theorem Q16b (p0 : Object) (_H : Qcn p0) (i0 : Nat) (hc0 : (decide ((i0 : Int) < 9)) = false) : Qbo p0 (Qbg p0 i0) (.k0) := by
 exact ⟨(envF (Qrv p0 i0)), (zoF (Qi1 p0 i0)), Q10 VOK.nil (x := ((.exit 0), Qri p0 (envF (Qrv p0 i0)) (zoF (Qi1 p0 i0)))) [hB 1 hc0] [] (by kernel_rfl)⟩
theorem Q15z (p0 : Object) (H : Qcn p0) (x0 : Bool) (i0 : Nat) (hx0 : (Q3y p0)[i0]? = some x0) (hi0 : i0 < List.length (Q3y p0)) (hc0 : (decide ((i0 : Int) < 9)) = true) (h0 : (x0 == true) = true) {r : Rs} (hr : Qi G (Qbg p0 (i0 + 1)) r) : Qi G (Qbg p0 i0) r := by
 have hB0 := H.1
 exact Qw VOK.nil (y := (Qyv p0 (i0 + 1), Qyx p0 (i0 + 1))) [hB 1 hc0, hP 1 (Qqz 9 1 3 0 i0 (Nat.lt_of_lt_of_eq hi0 rfl)), hP 0 (Qnm 3 9 0 true [.bool (Q2q p0.spec Qt).2, .bool (Qn p0.spec Q1l).2, .bool (Q5 p0.spec Q1o).2, .bool (Qcz p0.spec).2, .bool (Q5 p0.status Q2s).2, .bool (Qb8 p0.status).2, .bool (Qn p0.status Q29).2, .bool (Qn p0.status Q2d).2, .bool (Qn p0.status Qa).2] (Q3y p0) i0 x0 true hx0 (beqT h0)), hP 2 (Q25 i0 (by omega))] [] (by kernel_rfl) hr
def Qr1 (_p0 : Object) (i0 : Nat) (_x0 : Bool) : List PV :=
  [.un, .bx 0 0, .un, .un, .bx 2 0, .bx 3 0] ++ nuns 18 ++ [.int .i64 (i0 : Int)] ++ nuns 94 ++ [.int .i64 (i0 : Int), .bool true, .un, .un, .int .i64 (i0 : Int), .bx 3 (0 + i0 * 1), .bool false, .bool true, .agg [.str eB, .str eB, .str eB, .int .i64 0, .int .i64 0, .int .i64 0, .int .i64 0, .bool false, .int .i64 0, .ns 2, .ns 5, .ns 1, .ns 2, .int .i64 0, .int .i64 0, .int .i64 0, .int .i64 0, .bool false, .ns 4, .bool false, .int .i64 0, .bool false, .bool false, .ns 3]]
def Qkz (p0 : Object) (_i0 : Nat) (_x0 : Bool) : List (Nat × List PV) :=
  [(0, [.str p0.meta_.kind, .str p0.meta_.namespace_, .str p0.meta_.name, .int .i64 p0.meta_.uid, .int .i64 p0.meta_.version, .int .i64 p0.meta_.generation, .int .i64 p0.meta_.created, .bool p0.meta_.deleting, .int .i64 p0.meta_.deleteAt, .sl (Label.rows p0.meta_.labels), .sl (Owner.rows p0.meta_.owners), .sl (Qv p0.meta_.finalizers), .sl (Manager.rows p0.meta_.managers), .int .i64 p0.spec.kind, .int .i64 p0.spec.n, .str p0.spec.s, .sl (Val.rows p0.spec.list), .sl (Fld.rows p0.spec.fields), .int .i64 p0.status.kind, .int .i64 p0.status.n, .str p0.status.s, .sl (Val.rows p0.status.list), .sl (Fld.rows p0.status.fields)]), (2, [.str p0.meta_.kind, .str p0.meta_.namespace_, .str p0.meta_.name, .int .i64 p0.meta_.uid, .int .i64 p0.meta_.version, .int .i64 p0.meta_.generation, .int .i64 p0.meta_.created, .bool p0.meta_.deleting, .int .i64 p0.meta_.deleteAt, .sl (Label.rows p0.meta_.labels), .sl (Owner.rows p0.meta_.owners), .sl (Qv p0.meta_.finalizers), .sl (Manager.rows p0.meta_.managers), .int .i64 (Q2q p0.spec Qt).1.cPU, .int .i64 (Q2q p0.spec Qt).1.memory, .int .i64 (Q2q p0.spec Qt).1.disk, .int .i64 (Q5 p0.spec Q1o).1, .bool (Qn p0.spec Q1l).1, .sl (Taint.rows (Qcz p0.spec).1), .bool (Qn p0.status Qa).1, .int .i64 (Q5 p0.status Q2s).1, .bool (Qn p0.status Q2d).1, .bool (Qn p0.status Q29).1, .sl (Image.rows (Qb8 p0.status).1)]), (3, [.bool (Q2q p0.spec Qt).2, .bool (Qn p0.spec Q1l).2, .bool (Q5 p0.spec Q1o).2, .bool (Qcz p0.spec).2, .bool (Q5 p0.status Q2s).2, .bool (Qb8 p0.status).2, .bool (Qn p0.status Q29).2, .bool (Qn p0.status Q2d).2, .bool (Qn p0.status Qa).2]), (4, []), (5, []), (6, []), (7, []), (8, []), (9, [])]
theorem Q14u (p0 : Object) (_H : Qcn p0) (x0 : Bool) (i0 : Nat) (hx0 : (Q3y p0)[i0]? = some x0) (hi0 : i0 < List.length (Q3y p0)) (hc0 : (decide ((i0 : Int) < 9)) = true) (h0 : (x0 == true) = false) : Qbo p0 (Qbg p0 i0) (.k1) := by
 exact ⟨(envF (Qr1 p0 i0 x0)), (zoF (Qkz p0 i0 x0)), Q10 VOK.nil (x := (.ret, Qra p0 (envF (Qr1 p0 i0 x0)) (zoF (Qkz p0 i0 x0)))) [hB 1 hc0, hP 1 (Qqz 9 1 3 0 i0 (Nat.lt_of_lt_of_eq hi0 rfl)), hP 0 (Qnm 3 9 0 true [.bool (Q2q p0.spec Qt).2, .bool (Qn p0.spec Q1l).2, .bool (Q5 p0.spec Q1o).2, .bool (Qcz p0.spec).2, .bool (Q5 p0.status Q2s).2, .bool (Qb8 p0.status).2, .bool (Qn p0.status Q29).2, .bool (Qn p0.status Q2d).2, .bool (Qn p0.status Qa).2] (Q3y p0) i0 x0 false hx0 (beqT h0))] [] (by kernel_rfl)⟩
theorem Qxt (p0 : Object) (H : Qcn p0) : ∀ (r0 : List Bool) (i0 : Nat), List.drop i0 (Q3y p0) = r0 → Qbo p0 (Qbg p0 i0) (Q6p p0 r0 i0)
 | [], i0, hd => by
  have hc0 : (decide ((i0 : Int) < 9)) = false := by have hL := (show List.length (Q3y p0) = 9 from rfl); have := Q1v hd; simp; omega
  rw [Q6p]
  exact Q16b p0 H i0 hc0
 | x0 :: r0, i0, hd => by
  obtain ⟨hx0, hi0, hd'⟩ := Q1s hd
  have hc0 : (decide ((i0 : Int) < 9)) = true := by have hL := (show List.length (Q3y p0) = 9 from rfl); simp; omega
  rw [Q6p]
  cases h0 : (x0 == true) with
  | true =>
   exact Qtb p0 (fun r hr => Q15z p0 H x0 i0 hx0 hi0 hc0 h0 hr) _ (Qxt p0 H r0 (i0 + 1) hd')
  | false =>
   exact Q14u p0 H x0 i0 hx0 hi0 hc0 h0
def Q86 (p0 : Object) : Node × Int := Qvg p0
theorem Q121 (p0 : Object) : ∀ (l : List Bool) (i : Nat), Q6p p0 l i = bif l.all id then .k0 else .k1
  | [], _ => by rw [Q6p]; rfl
  | x :: l, i => by
    rw [Q6p]
    cases x with
    | true => exact Q121 p0 l (i + 1)
    | false => rfl
theorem Q1ox (p0 : Object) : Q86 p0 = ((match (Q6p p0 (Q3y p0) 0) with
  | .k0 => bif (sEq p0.meta_.kind Qh) then
      bif (Q1u p0.spec) then
        bif (Q1u p0.status) then
          ((Node.mk p0.meta_ (Q2q p0.spec Qt).1 (Q5 p0.spec Q1o).1 (Qn p0.spec Q1l).1 (Qcz p0.spec).1 (Qn p0.status Qa).1 (Q5 p0.status Q2s).1 (Qn p0.status Q2d).1 (Qn p0.status Q29).1 (Qb8 p0.status).1), 0)
        else
          ((Node.mk (Meta.mk eB eB eB 0 0 0 0 false 0 [] [] [] []) (Resources.mk 0 0 0) 0 false [] false 0 false false []), 6)
      else
        ((Node.mk (Meta.mk eB eB eB 0 0 0 0 false 0 [] [] [] []) (Resources.mk 0 0 0) 0 false [] false 0 false false []), 6)
    else
      ((Node.mk (Meta.mk eB eB eB 0 0 0 0 false 0 [] [] [] []) (Resources.mk 0 0 0) 0 false [] false 0 false false []), 6)
  | .k1 => ((Node.mk (Meta.mk eB eB eB 0 0 0 0 false 0 [] [] [] []) (Resources.mk 0 0 0) 0 false [] false 0 false false []), 6))) := by
  rw [Q121]
  have e : Q1bn p0 = (isM p0.spec && (isM p0.status && (Q3y p0).all id)) := by
    simp only [Q1bn, Q3y, List.all_cons, List.all_nil, id, Bool.true_and, Q5, Qn, Q2q, Qcz, Qb8, Bool.and_assoc, Bool.and_left_comm, Bool.and_comm]
  unfold Q86 Qvg
  rw [e]
  simp only [Q1u]
  cases (Q3y p0).all id <;> cases (sEq p0.meta_.kind Qh) <;> cases (isM p0.spec) <;> cases (isM p0.status) <;> rfl
def Q1t9 (p0 : Object) : En := .call 14 [.agg (Object.cells p0)] []
def Q1jy (p0 : Object) : Rs := .ret (.tup [.agg (Node.cells (Q86 p0).1), .int .i64 (Q86 p0).2]) []
def Q1h2 (p0 : Object) : Prop := Object.sm p0
theorem Q27 (p0 : Object) (H : Q1h2 p0) : (Q1c2 p0.spec) ∧ (Qnc p0.spec) ∧ (Qai p0.spec) ∧ (Q1hr p0.spec) ∧ (Qai p0.status) ∧ (Q1hl p0.status) ∧ (Qnc p0.status) ∧ (Qcn p0) ∧ True := by
  repeat' with_reducible apply And.intro
  all_goals first | exact True.intro | exact H.1 | exact H.2 | exact ⟨Nat.le_of_ble_eq_true rfl, trivial⟩
theorem Qzk (p0 : Object) (H : Q1h2 p0) : Qi G (Q1t9 p0) (Q1jy p0) := by
 unfold Q1jy
 rw [Q1ox]
 have hl0 := Qxt p0 ((Q27 p0 H).2.2.2.2.2.2.2.1) (Q3y p0) 0 (by simp)
 cases hr0 : (Q6p p0 (Q3y p0) 0) with
 | k0 =>
  rw [hr0] at hl0
  obtain ⟨z0, zo0, hl0⟩ := hl0
  try dsimp only
  cases h0 : (sEq p0.meta_.kind Qh) with
  | true =>
   cases h1 : (Q1u p0.spec) with
   | true =>
    cases h2 : (Q1u p0.status) with
    | true =>
     exact Qm (fn := Ir.K2r) rfl VOK.nil [hP 142 (dec (!(sEq p0.meta_.kind Qh)) false (by rw [h0]; rfl))] [aN (Q83 p0.spec Qt (Q27 p0 H).1), aN (Q3j p0.spec Q1l (Q27 p0 H).2.1), aN (Q2m p0.spec Q1o (Q27 p0 H).2.2.1), aN (Q19u p0.spec (Q27 p0 H).2.2.2.1), aN (Q2m p0.status Q2s (Q27 p0 H).2.2.2.2.1), aN (Q1b8 p0.status (Q27 p0 H).2.2.2.2.2.1), aN (Q3j p0.status Q29 (Q27 p0 H).2.2.2.2.2.2.1), aN (Q3j p0.status Q2d (Q27 p0 H).2.2.2.2.2.2.1), aN (Q3j p0.status Qa (Q27 p0 H).2.2.2.2.2.2.1), aN hl0, aB (Q4g p0.spec) h1, aB (Q4g p0.status) h2] (by kernel_rfl)
    | false =>
     exact Qm (fn := Ir.K2r) rfl VOK.nil [hP 142 (dec (!(sEq p0.meta_.kind Qh)) false (by rw [h0]; rfl))] [aN (Q83 p0.spec Qt (Q27 p0 H).1), aN (Q3j p0.spec Q1l (Q27 p0 H).2.1), aN (Q2m p0.spec Q1o (Q27 p0 H).2.2.1), aN (Q19u p0.spec (Q27 p0 H).2.2.2.1), aN (Q2m p0.status Q2s (Q27 p0 H).2.2.2.2.1), aN (Q1b8 p0.status (Q27 p0 H).2.2.2.2.2.1), aN (Q3j p0.status Q29 (Q27 p0 H).2.2.2.2.2.2.1), aN (Q3j p0.status Q2d (Q27 p0 H).2.2.2.2.2.2.1), aN (Q3j p0.status Qa (Q27 p0 H).2.2.2.2.2.2.1), aN hl0, aB (Q4g p0.spec) h1, aB (Q4g p0.status) h2] (by kernel_rfl)
   | false =>
    exact Qm (fn := Ir.K2r) rfl VOK.nil [hP 142 (dec (!(sEq p0.meta_.kind Qh)) false (by rw [h0]; rfl))] [aN (Q83 p0.spec Qt (Q27 p0 H).1), aN (Q3j p0.spec Q1l (Q27 p0 H).2.1), aN (Q2m p0.spec Q1o (Q27 p0 H).2.2.1), aN (Q19u p0.spec (Q27 p0 H).2.2.2.1), aN (Q2m p0.status Q2s (Q27 p0 H).2.2.2.2.1), aN (Q1b8 p0.status (Q27 p0 H).2.2.2.2.2.1), aN (Q3j p0.status Q29 (Q27 p0 H).2.2.2.2.2.2.1), aN (Q3j p0.status Q2d (Q27 p0 H).2.2.2.2.2.2.1), aN (Q3j p0.status Qa (Q27 p0 H).2.2.2.2.2.2.1), aN hl0, aB (Q4g p0.spec) h1] (by kernel_rfl)
  | false =>
   exact Qm (fn := Ir.K2r) rfl VOK.nil [hP 142 (dec (!(sEq p0.meta_.kind Qh)) true (by rw [h0]; rfl))] [aN (Q83 p0.spec Qt (Q27 p0 H).1), aN (Q3j p0.spec Q1l (Q27 p0 H).2.1), aN (Q2m p0.spec Q1o (Q27 p0 H).2.2.1), aN (Q19u p0.spec (Q27 p0 H).2.2.2.1), aN (Q2m p0.status Q2s (Q27 p0 H).2.2.2.2.1), aN (Q1b8 p0.status (Q27 p0 H).2.2.2.2.2.1), aN (Q3j p0.status Q29 (Q27 p0 H).2.2.2.2.2.2.1), aN (Q3j p0.status Q2d (Q27 p0 H).2.2.2.2.2.2.1), aN (Q3j p0.status Qa (Q27 p0 H).2.2.2.2.2.2.1), aN hl0] (by kernel_rfl)
 | k1 =>
  rw [hr0] at hl0
  obtain ⟨z0, zo0, hl0⟩ := hl0
  exact Qm (fn := Ir.K2r) rfl VOK.nil [] [aN (Q83 p0.spec Qt (Q27 p0 H).1), aN (Q3j p0.spec Q1l (Q27 p0 H).2.1), aN (Q2m p0.spec Q1o (Q27 p0 H).2.2.1), aN (Q19u p0.spec (Q27 p0 H).2.2.2.1), aN (Q2m p0.status Q2s (Q27 p0 H).2.2.2.2.1), aN (Q1b8 p0.status (Q27 p0 H).2.2.2.2.2.1), aN (Q3j p0.status Q29 (Q27 p0 H).2.2.2.2.2.2.1), aN (Q3j p0.status Q2d (Q27 p0 H).2.2.2.2.2.2.1), aN (Q3j p0.status Qa (Q27 p0 H).2.2.2.2.2.2.1), aN hl0] (by kernel_rfl)
def Q2x (p0 : Val) : List Val → Nat → (List Label) → Bool → (List Label) × Bool
 | [], _i0, v0_1, v0_2 =>
  (v0_1, v0_2)
 | x0 :: r0, i0, v0_1, v0_2 =>
  bif (v0_2 == true) then
   Q2x p0 r0 (i0 + 1) (v0_1 ++ [(Label.mk (Qj x0 Qs).1 (Qj x0 Qo).1)]) (((Q1u x0) && (Qj x0 Qs).2) && (Qj x0 Qo).2)
  else
   Q2x p0 r0 (i0 + 1) (v0_1 ++ [(Label.mk (Qj x0 Qs).1 (Qj x0 Qo).1)]) false
def Qk1 (p0 : Val) (i0 : Nat) (_v0_1 : List Label) (v0_2 : Bool) : List PV :=
  [.un, .bx 0 0, .bx 1 0, .un, .sl (Val.rows (Qb p0 Q11).1), .bool v0_2, .bx 2 0, .int .i64 (i0 : Int)] ++ nuns 77
def Qc2 (p0 : Val) (_i0 : Nat) (v0_1 : List Label) (_v0_2 : Bool) : List Ob :=
  [⟨5, 0, true, [.int .i64 p0.kind, .int .i64 p0.n, .str p0.s, .sl (Val.rows p0.list), .sl (Fld.rows p0.fields)]⟩, ⟨11, 0, true, [.ms 3 2 0 0, .str eB, .int .i64 0, .int .i64 0, .int .i64 0, .ms 4 11 0 0, .ms 5 3 0 0, .ms 6 3 0 0, .ms 7 5 0 0, .ms 8 4 0 0, .ms 9 5 0 0]⟩, ⟨11, 0, true, [.ms 10 2 0 (List.length v0_1), .str eB, .int .i64 0, .int .i64 0, .int .i64 0, .ms 11 11 0 0, .ms 12 3 0 0, .ms 13 3 0 0, .ms 14 5 0 0, .ms 15 4 0 0, .ms 16 5 0 0]⟩, ⟨2, 0, true, []⟩, ⟨11, 0, true, []⟩, ⟨3, 0, true, []⟩, ⟨3, 0, true, []⟩, ⟨5, 0, true, []⟩, ⟨4, 0, true, []⟩, ⟨5, 0, true, []⟩, ⟨2, 0, true, (Label.rows v0_1).flatten⟩, ⟨11, 0, true, []⟩, ⟨3, 0, true, []⟩, ⟨3, 0, true, []⟩, ⟨5, 0, true, []⟩, ⟨4, 0, true, []⟩, ⟨5, 0, true, []⟩]
def Q9x (p0 : Val) (i0 : Nat) (v0_1 : List Label) (v0_2 : Bool) : En := .loop 0 Ir.Qn0 Ir.Q1f1 (Qk1 p0 i0 v0_1 v0_2) (Qc2 p0 i0 v0_1 v0_2)
def Qpp (p0 : Val) (q0 : List Label) (q1 : Bool) (z : Nat → PV) (_zo : Nat → List PV) : St :=
  ⟨[z 0, .bx 0 0, .bx 1 0, z 3, z 4, .bool q1, .bx 2 0] ++ zr z 7 78, [(0, ⟨5, 0, true, [.int .i64 p0.kind, .int .i64 p0.n, .str p0.s, .sl (Val.rows p0.list), .sl (Fld.rows p0.fields)]⟩), (1, ⟨11, 0, true, [.ms 3 2 0 0, .str eB, .int .i64 0, .int .i64 0, .int .i64 0, .ms 4 11 0 0, .ms 5 3 0 0, .ms 6 3 0 0, .ms 7 5 0 0, .ms 8 4 0 0, .ms 9 5 0 0]⟩), (2, ⟨11, 0, true, [.ms 10 2 0 (List.length q0), .str eB, .int .i64 0, .int .i64 0, .int .i64 0, .ms 11 11 0 0, .ms 12 3 0 0, .ms 13 3 0 0, .ms 14 5 0 0, .ms 15 4 0 0, .ms 16 5 0 0]⟩), (3, ⟨2, 0, true, []⟩), (4, ⟨11, 0, true, []⟩), (5, ⟨3, 0, true, []⟩), (6, ⟨3, 0, true, []⟩), (7, ⟨5, 0, true, []⟩), (8, ⟨4, 0, true, []⟩), (9, ⟨5, 0, true, []⟩), (10, ⟨2, 0, true, (Label.rows q0).flatten⟩), (11, ⟨11, 0, true, []⟩), (12, ⟨3, 0, true, []⟩), (13, ⟨3, 0, true, []⟩), (14, ⟨5, 0, true, []⟩), (15, ⟨4, 0, true, []⟩), (16, ⟨5, 0, true, []⟩)], 273⟩
theorem Qtr (p0 : Val) (i0 : Nat) (v0_1 : List Label) (v0_2 : Bool) : VOK (Go.Pv.look (number 0 (Qc2 p0 i0 v0_1 v0_2))) [(10, Label.rows v0_1)] := (VOK.cons (show Seen _ _ from Q42 (ob := ⟨2, 0, true, (Label.rows v0_1).flatten⟩) (Label.Qp v0_1 2 rfl)) VOK.nil)
def Qg6 (p0 : Val) (e : En) (q : (List Label) × Bool) : Prop := ∃ z zo, Qi G e (.st (.exit 0) (Qpp p0 q.1 q.2 z zo))
theorem Qce (p0 : Val) {e e' : En} (h : ∀ r, Qi G e r → Qi G e' r) : ∀ q, Qg6 p0 e q → Qg6 p0 e' q
  | _, ⟨z, zo, hz⟩ => ⟨z, zo, h _ hz⟩
def Q9v (p0 : Val) : Prop := (List.length (Qb p0 Q11).1 ≤ 137438953472) ∧ (∀ x0 ∈ (Qb p0 Q11).1, Qdv x0) ∧ True
def Qol (p0 : Val) (i0 : Nat) (_v0_1 : List Label) (_v0_2 : Bool) : List PV :=
  [.un, .un, .un, .un, .sl (Val.rows (Qb p0 Q11).1), .un, .un, .int .i64 (i0 : Int)] ++ nuns 12 ++ [.int .i64 (i0 : Int), .sl (Val.rows (Qb p0 Q11).1), .int .i64 ((List.length (Qb p0 Q11).1) : Int), .bool false]
def Qje (_p0 : Val) (_i0 : Nat) (_v0_1 : List Label) (_v0_2 : Bool) : List (Nat × List PV) :=
  []
theorem Q188 (p0 : Val) (_H : Q9v p0) (i0 : Nat) (v0_1 : List Label) (v0_2 : Bool) (_ho0_0 : List.length v0_1 ≤ i0) (hc0 : (decide ((i0 : Int) < ((List.length (Qb p0 Q11).1) : Int))) = false) : Qg6 p0 (Q9x p0 i0 v0_1 v0_2) (v0_1, v0_2) := by
 exact ⟨(envF (Qol p0 i0 v0_1 v0_2)), (zoF (Qje p0 i0 v0_1 v0_2)), Q10 (Qtr p0 i0 v0_1 v0_2) (x := ((.exit 0), Qpp p0 v0_1 v0_2 (envF (Qol p0 i0 v0_1 v0_2)) (zoF (Qje p0 i0 v0_1 v0_2)))) [hP 2 (Qz (Val.rows (Qb p0 Q11).1) (List.length (Qb p0 Q11).1) (Val.Q9 (Qb p0 Q11).1)), hB 0 hc0] [] (by kernel_rfl)⟩
theorem Q15p (p0 : Val) (H : Q9v p0) (x0 : Val) (i0 : Nat) (v0_1 : List Label) (v0_2 : Bool) (hx0 : (Qb p0 Q11).1[i0]? = some x0) (hi0 : i0 < List.length (Qb p0 Q11).1) (ho0_0 : List.length v0_1 ≤ i0) (hc0 : (decide ((i0 : Int) < ((List.length (Qb p0 Q11).1) : Int))) = true) (h0 : (v0_2 == true) = true) {r : Rs} (hr : Qi G (Q9x p0 (i0 + 1) (v0_1 ++ [(Label.mk (Qj x0 Qs).1 (Qj x0 Qo).1)]) (((Q1u x0) && (Qj x0 Qs).2) && (Qj x0 Qo).2)) r) : Qi G (Q9x p0 i0 v0_1 v0_2) r := by
 have hB0 := H.1
 exact Qw (Qtr p0 i0 v0_1 v0_2) (y := (Qk1 p0 (i0 + 1) (v0_1 ++ [(Label.mk (Qj x0 Qs).1 (Qj x0 Qo).1)]) (((Q1u x0) && (Qj x0 Qs).2) && (Qj x0 Qo).2), Qc2 p0 (i0 + 1) (v0_1 ++ [(Label.mk (Qj x0 Qs).1 (Qj x0 Qo).1)]) (((Q1u x0) && (Qj x0 Qs).2) && (Qj x0 Qo).2))) [hP 2 (Qz (Val.rows (Qb p0 Q11).1) (List.length (Qb p0 Q11).1) (Val.Q9 (Qb p0 Q11).1)), hB 0 hc0, hP 2 (Q15 5 (Val.rows (Qb p0 Q11).1) i0 _ (Val.Qe hx0) rfl), hP 9 (Q15 5 (Val.rows (Qb p0 Q11).1) i0 _ (Val.Qe hx0) rfl), hV 13 [(1937, Label.rows (v0_1 ++ [(Label.mk (Qj x0 Qs).1 (Qj x0 Qo).1)]))] (Q3g 10 1873 1937 2 32 0 0 true (Label.rows v0_1) (Label.rows (v0_1 ++ [(Label.mk (Qj x0 Qs).1 (Qj x0 Qo).1)])) (Label.cells (Label.mk (Qj x0 Qs).1 (Qj x0 Qo).1)) (List.length v0_1) (List.length (v0_1 ++ [(Label.mk (Qj x0 Qs).1 (Qj x0 Qo).1)])) rfl (Label.Q9 v0_1).symm (Label.Q9 (v0_1 ++ [(Label.mk (Qj x0 Qs).1 (Qj x0 Qo).1)])).symm (Label.Q1n v0_1 (Label.mk (Qj x0 Qs).1 (Qj x0 Qo).1)) (Label.Q16 v0_1) rfl (by omega)), hS 0 true (Label.Qp (v0_1 ++ [(Label.mk (Qj x0 Qs).1 (Qj x0 Qo).1)]) 2 rfl), hB 2 (beqT h0), hP 3 (Q15 5 (Val.rows (Qb p0 Q11).1) i0 _ (Val.Qe hx0) rfl), hP 4 (Q45 (Q1u x0) (.bool (Qj x0 Qs).2)), hP 0 (Q43 (Q1u x0) (Qj x0 Qs).2), hP 1 (Q45 ((Q1u x0) && (Qj x0 Qs).2) (.bool (Qj x0 Qo).2)), hP 0 (Q43 ((Q1u x0) && (Qj x0 Qs).2) (Qj x0 Qo).2), hP 2 (Q25 i0 (by omega))] [aN (Q3f x0 Qs (H.2.1 x0 (Q13 hx0))), aN (Q3f x0 Qo (H.2.1 x0 (Q13 hx0))), aN (Q4g x0)] (by kernel_rfl) hr
theorem Q151 (p0 : Val) (H : Q9v p0) (x0 : Val) (i0 : Nat) (v0_1 : List Label) (v0_2 : Bool) (hx0 : (Qb p0 Q11).1[i0]? = some x0) (hi0 : i0 < List.length (Qb p0 Q11).1) (ho0_0 : List.length v0_1 ≤ i0) (hc0 : (decide ((i0 : Int) < ((List.length (Qb p0 Q11).1) : Int))) = true) (h0 : (v0_2 == true) = false) {r : Rs} (hr : Qi G (Q9x p0 (i0 + 1) (v0_1 ++ [(Label.mk (Qj x0 Qs).1 (Qj x0 Qo).1)]) false) r) : Qi G (Q9x p0 i0 v0_1 v0_2) r := by
 have hB0 := H.1
 exact Qw (Qtr p0 i0 v0_1 v0_2) (y := (Qk1 p0 (i0 + 1) (v0_1 ++ [(Label.mk (Qj x0 Qs).1 (Qj x0 Qo).1)]) false, Qc2 p0 (i0 + 1) (v0_1 ++ [(Label.mk (Qj x0 Qs).1 (Qj x0 Qo).1)]) false)) [hP 2 (Qz (Val.rows (Qb p0 Q11).1) (List.length (Qb p0 Q11).1) (Val.Q9 (Qb p0 Q11).1)), hB 0 hc0, hP 2 (Q15 5 (Val.rows (Qb p0 Q11).1) i0 _ (Val.Qe hx0) rfl), hP 9 (Q15 5 (Val.rows (Qb p0 Q11).1) i0 _ (Val.Qe hx0) rfl), hV 13 [(1937, Label.rows (v0_1 ++ [(Label.mk (Qj x0 Qs).1 (Qj x0 Qo).1)]))] (Q3g 10 1873 1937 2 32 0 0 true (Label.rows v0_1) (Label.rows (v0_1 ++ [(Label.mk (Qj x0 Qs).1 (Qj x0 Qo).1)])) (Label.cells (Label.mk (Qj x0 Qs).1 (Qj x0 Qo).1)) (List.length v0_1) (List.length (v0_1 ++ [(Label.mk (Qj x0 Qs).1 (Qj x0 Qo).1)])) rfl (Label.Q9 v0_1).symm (Label.Q9 (v0_1 ++ [(Label.mk (Qj x0 Qs).1 (Qj x0 Qo).1)])).symm (Label.Q1n v0_1 (Label.mk (Qj x0 Qs).1 (Qj x0 Qo).1)) (Label.Q16 v0_1) rfl (by omega)), hS 0 true (Label.Qp (v0_1 ++ [(Label.mk (Qj x0 Qs).1 (Qj x0 Qo).1)]) 2 rfl), hB 2 (beqT h0), hP 15 (Q25 i0 (by omega))] [aN (Q3f x0 Qs (H.2.1 x0 (Q13 hx0))), aN (Q3f x0 Qo (H.2.1 x0 (Q13 hx0)))] (by kernel_rfl) hr
theorem Qi7 (p0 : Val) (H : Q9v p0) : ∀ (r0 : List Val) (i0 : Nat) (v0_1 : List Label) (v0_2 : Bool), List.drop i0 (Qb p0 Q11).1 = r0 → List.length v0_1 ≤ i0 → Qg6 p0 (Q9x p0 i0 v0_1 v0_2) (Q2x p0 r0 i0 v0_1 v0_2)
 | [], i0, v0_1, v0_2, hd, ho0_0 => by
  have hc0 : (decide ((i0 : Int) < ((List.length (Qb p0 Q11).1) : Int))) = false := by have := Q1v hd; simp; omega
  rw [Q2x]
  exact Q188 p0 H i0 v0_1 v0_2 ho0_0 hc0
 | x0 :: r0, i0, v0_1, v0_2, hd, ho0_0 => by
  obtain ⟨hx0, hi0, hd'⟩ := Q1s hd
  have hc0 : (decide ((i0 : Int) < ((List.length (Qb p0 Q11).1) : Int))) = true := by simp; omega
  rw [Q2x]
  cases h0 : (v0_2 == true) with
  | true =>
   exact Qce p0 (fun r hr => Q15p p0 H x0 i0 v0_1 v0_2 hx0 hi0 ho0_0 hc0 h0 hr) _ (Qi7 p0 H r0 (i0 + 1) (v0_1 ++ [(Label.mk (Qj x0 Qs).1 (Qj x0 Qo).1)]) (((Q1u x0) && (Qj x0 Qs).2) && (Qj x0 Qo).2) hd' (by first | omega | (simp; omega)))
  | false =>
   exact Qce p0 (fun r hr => Q151 p0 H x0 i0 v0_1 v0_2 hx0 hi0 ho0_0 hc0 h0 hr) _ (Qi7 p0 H r0 (i0 + 1) (v0_1 ++ [(Label.mk (Qj x0 Qs).1 (Qj x0 Qo).1)]) false hd' (by first | omega | (simp; omega)))
def Q8s (p0 : Val) : Template × Int := Qxd p0
theorem Qsk (p0 : Val) : ∀ (l : List Val) (i : Nat) (a : List Label) (b : Bool), Q2x p0 l i a b = (a ++ l.map (fun x => (Label.dec x).1), b && l.all fun x => (Label.dec x).2)
  | [], _, a, b => by rw [Q2x]; simp
  | x :: l, i, a, b => by
    rw [Q2x]
    cases b with
    | false => exact (Qsk p0 l (i + 1) (a ++ [(Label.dec x).1]) false).trans (by simp only [List.append_assoc, List.singleton_append, List.map_cons, List.all_cons, Bool.false_and])
    | true => exact (Qsk p0 l (i + 1) (a ++ [(Label.dec x).1]) (Label.dec x).2).trans (by simp only [List.append_assoc, List.singleton_append, List.map_cons, List.all_cons, Bool.true_and])
theorem Q1sg (p0 : Val) : Q8s p0 = (bif (Qay (Q33 p0 Q2p)).2 then
    bif (Q2x p0 (Qb p0 Q11).1 0 [] (Qb p0 Q11).2).2 then
      bif (Q1u p0) then
        ((Template.mk (Q2x p0 (Qb p0 Q11).1 0 [] (Qb p0 Q11).2).1 (Qay (Q33 p0 Q2p)).1), 0)
      else
        ((Template.mk [] (PodSpec.mk eB 0 0 0 [] [] [] [] [] [])), 6)
    else
      ((Template.mk [] (PodSpec.mk eB 0 0 0 [] [] [] [] [] [])), 6)
  else
    bif (Q2x p0 (Qb p0 Q11).1 0 [] (Qb p0 Q11).2).2 then
      ((Template.mk [] (PodSpec.mk eB 0 0 0 [] [] [] [] [] [])), 6)
    else
      ((Template.mk [] (PodSpec.mk eB 0 0 0 [] [] [] [] [] [])), 6)) := by
  have q : Q2x p0 (Qb p0 Q11).1 0 [] (Qb p0 Q11).2 = dE Label.dec p0 Q11 := Qsk p0 _ 0 [] _
  rw [q]
  unfold Q8s Qxd
  have e : (Template.dec p0).2 = (isM p0 && ((dE Label.dec p0 Q11).2 && (PodSpec.dec (prt p0 Q2p)).2)) := by
    unfold Template.dec
    rw [Bool.and_assoc]
  rw [e]
  simp only [Qay, Q33, Q1u]
  cases h1 : (PodSpec.dec (prt p0 Q2p)).2 <;> cases h2 : (dE Label.dec p0 Q11).2 <;> cases h3 : (isM p0) <;> rfl
def Q1pe (p0 : Val) : En := .call 16 [.agg (Val.cells p0)] []
def Q1jg (p0 : Val) : Rs := .ret (.tup [.agg (Template.cells (Q8s p0).1), .int .i64 (Q8s p0).2]) []
def Q1hh (p0 : Val) : Prop := Val.Sm 1000000000 p0
theorem Q3z (p0 : Val) (H : Q1hh p0) : (Qbn p0) ∧ (Q9v p0) ∧ (Qx4 p0) ∧ (Q1c9 (Q33 p0 Q2p)) ∧ True := by
  have hl := Q6h (Q2h H Q11)
  have g : ∀ x ∈ (dL p0 Q11).1, Val.Sm sB x := hl.2
  refine ⟨H, ?_, H, Q2h H _, trivial⟩
  unfold Q9v
  refine ⟨Nat.le_trans hl.1 (Nat.le_of_ble_eq_true rfl), ?_⟩
  repeat' with_reducible apply And.intro
  all_goals first | exact True.intro | exact g
theorem Qzq (p0 : Val) (H : Q1hh p0) : Qi G (Q1pe p0) (Q1jg p0) := by
 unfold Q1jg
 rw [Q1sg]
 have hl0 := Qi7 p0 ((Q3z p0 H).2.1) (Qb p0 Q11).1 0 [] (Qb p0 Q11).2 (by simp) (by simp)
 obtain ⟨z0, zo0, hl0⟩ := hl0
 cases h0 : (Qay (Q33 p0 Q2p)).2 with
 | true =>
  cases h1 : (Q2x p0 (Qb p0 Q11).1 0 [] (Qb p0 Q11).2).2 with
  | true =>
   cases h2 : (Q1u p0) with
   | true =>
    exact Qm (fn := Ir.K2u) rfl VOK.nil [hS 0 true (Label.Qp (Q2x p0 (Qb p0 Q11).1 0 [] (Qb p0 Q11).2).1 2 rfl), hB 19 h0, hB 3 h1, hQ (Label.Q9 (Q2x p0 (Qb p0 Q11).1 0 [] (Qb p0 Q11).2).1).symm] [aN (Qaj p0 Q11 (Q3z p0 H).1), aV [(10, Label.rows (Q2x p0 (Qb p0 Q11).1 0 [] (Qb p0 Q11).2).1)] hl0, aN (Qd7 p0 Q2p (Q3z p0 H).2.2.1), aN (Qtv (Q33 p0 Q2p) (Q3z p0 H).2.2.2.1), aB (Q4g p0) h2] (by kernel_rfl)
   | false =>
    exact Qm (fn := Ir.K2u) rfl VOK.nil [hS 0 true (Label.Qp (Q2x p0 (Qb p0 Q11).1 0 [] (Qb p0 Q11).2).1 2 rfl), hB 19 h0, hB 3 h1] [aN (Qaj p0 Q11 (Q3z p0 H).1), aV [(10, Label.rows (Q2x p0 (Qb p0 Q11).1 0 [] (Qb p0 Q11).2).1)] hl0, aN (Qd7 p0 Q2p (Q3z p0 H).2.2.1), aN (Qtv (Q33 p0 Q2p) (Q3z p0 H).2.2.2.1), aB (Q4g p0) h2] (by kernel_rfl)
  | false =>
   exact Qm (fn := Ir.K2u) rfl VOK.nil [hS 0 true (Label.Qp (Q2x p0 (Qb p0 Q11).1 0 [] (Qb p0 Q11).2).1 2 rfl), hB 19 h0, hB 3 h1] [aN (Qaj p0 Q11 (Q3z p0 H).1), aV [(10, Label.rows (Q2x p0 (Qb p0 Q11).1 0 [] (Qb p0 Q11).2).1)] hl0, aN (Qd7 p0 Q2p (Q3z p0 H).2.2.1), aN (Qtv (Q33 p0 Q2p) (Q3z p0 H).2.2.2.1)] (by kernel_rfl)
 | false =>
  cases h1 : (Q2x p0 (Qb p0 Q11).1 0 [] (Qb p0 Q11).2).2 with
  | true =>
   exact Qm (fn := Ir.K2u) rfl VOK.nil [hS 0 true (Label.Qp (Q2x p0 (Qb p0 Q11).1 0 [] (Qb p0 Q11).2).1 2 rfl), hB 19 h0, hB 3 h1] [aN (Qaj p0 Q11 (Q3z p0 H).1), aV [(10, Label.rows (Q2x p0 (Qb p0 Q11).1 0 [] (Qb p0 Q11).2).1)] hl0, aN (Qd7 p0 Q2p (Q3z p0 H).2.2.1), aN (Qtv (Q33 p0 Q2p) (Q3z p0 H).2.2.2.1)] (by kernel_rfl)
  | false =>
   exact Qm (fn := Ir.K2u) rfl VOK.nil [hS 0 true (Label.Qp (Q2x p0 (Qb p0 Q11).1 0 [] (Qb p0 Q11).2).1 2 rfl), hB 19 h0, hB 3 h1] [aN (Qaj p0 Q11 (Q3z p0 H).1), aV [(10, Label.rows (Q2x p0 (Qb p0 Q11).1 0 [] (Qb p0 Q11).2).1)] hl0, aN (Qd7 p0 Q2p (Q3z p0 H).2.2.1), aN (Qtv (Q33 p0 Q2p) (Q3z p0 H).2.2.2.1)] (by kernel_rfl)
end Go.Proofs.YtiflaadeikaghaaGreat
end

section
/- What the law PodcodecDecodes computes (printed by a program). -/
namespace Go.Proofs.YtiflaadeikaghaaGreat
open Go.Pv
def s_K1 (p0 : Object) : Bool :=
 bif (s_K5 p0.meta_) then
  bif (Q47 p0.spec 20000) then
   bif (Q47 p0.status 20000) then
    bif ((s_Kd p0).2 == (Q71 p0).2) then
     bif ((s_Kc p0).2 == (Q86 p0).2) then
      bif ((s_Ke p0.spec).2 == (Q8s p0.spec).2) then
       bif (Qn9 (s_Kd p0).1 (Q71 p0).1) then
        bif (Qtm (s_Kc p0).1 (Q86 p0).1) then
         bif (Qx5 (s_Ke p0.spec).1 (Q8s p0.spec).1) then
          true
         else
          false
        else
         false
       else
        false
      else
       false
     else
      false
    else
     false
   else
    true
  else
   true
 else
  true
def c_K1 (p0 : Object) : En := .call 3 [.agg (Object.cells p0)] []
def a_K1 (p0 : Object) : Rs := .ret (.bool (s_K1 p0)) []
def H_K1 (p0 : Object) : Prop := (H_K5 p0.meta_) ∧ ((s_K5 p0.meta_) = true → Q1bt p0.spec 20000) ∧ ((s_K5 p0.meta_) = true → (Q47 p0.spec 20000) = true → Q1bt p0.status 20000) ∧ ((s_K5 p0.meta_) = true → (Q47 p0.spec 20000) = true → (Q47 p0.status 20000) = true → H_Kd p0) ∧ ((s_K5 p0.meta_) = true → (Q47 p0.spec 20000) = true → (Q47 p0.status 20000) = true → Q1go p0) ∧ ((s_K5 p0.meta_) = true → (Q47 p0.spec 20000) = true → (Q47 p0.status 20000) = true → H_Kc p0) ∧ ((s_K5 p0.meta_) = true → (Q47 p0.spec 20000) = true → (Q47 p0.status 20000) = true → Q1h2 p0) ∧ ((s_K5 p0.meta_) = true → (Q47 p0.spec 20000) = true → (Q47 p0.status 20000) = true → H_Ke p0.spec) ∧ ((s_K5 p0.meta_) = true → (Q47 p0.spec 20000) = true → (Q47 p0.status 20000) = true → Q1hh p0.spec) ∧ ((s_K5 p0.meta_) = true → (Q47 p0.spec 20000) = true → (Q47 p0.status 20000) = true → ((s_Kd p0).2 == (Q71 p0).2) = true → ((s_Kc p0).2 == (Q86 p0).2) = true → ((s_Ke p0.spec).2 == (Q8s p0.spec).2) = true → Q1aj (s_Kd p0).1 (Q71 p0).1) ∧ ((s_K5 p0.meta_) = true → (Q47 p0.spec 20000) = true → (Q47 p0.status 20000) = true → ((s_Kd p0).2 == (Q71 p0).2) = true → ((s_Kc p0).2 == (Q86 p0).2) = true → ((s_Ke p0.spec).2 == (Q8s p0.spec).2) = true → (Qn9 (s_Kd p0).1 (Q71 p0).1) = true → Q1ar (s_Kc p0).1 (Q86 p0).1) ∧ ((s_K5 p0.meta_) = true → (Q47 p0.spec 20000) = true → (Q47 p0.status 20000) = true → ((s_Kd p0).2 == (Q71 p0).2) = true → ((s_Kc p0).2 == (Q86 p0).2) = true → ((s_Ke p0.spec).2 == (Q8s p0.spec).2) = true → (Qn9 (s_Kd p0).1 (Q71 p0).1) = true → (Qtm (s_Kc p0).1 (Q86 p0).1) = true → Q1bf (s_Ke p0.spec).1 (Q8s p0.spec).1) ∧ True
theorem Q1iv (p0 : Object) (H : H_K1 p0) (h0 : (s_K5 p0.meta_) = true) (h1 : (Q47 p0.spec 20000) = true) (h2 : (Q47 p0.status 20000) = true) (h3 : ((s_Kd p0).2 == (Q71 p0).2) = true) : Qi G (c_K1 p0) (.ret (.bool (bif ((s_Kc p0).2 == (Q86 p0).2) then
   bif ((s_Ke p0.spec).2 == (Q8s p0.spec).2) then
     bif (Qn9 (s_Kd p0).1 (Q71 p0).1) then
       bif (Qtm (s_Kc p0).1 (Q86 p0).1) then
        bif (Qx5 (s_Ke p0.spec).1 (Q8s p0.spec).1) then
         true
        else
         false
       else
        false
     else
       false
   else
     false
 else
   false)) []) := by
 cases h4 : ((s_Kc p0).2 == (Q86 p0).2) with
 | true =>
  cases h5 : ((s_Ke p0.spec).2 == (Q8s p0.spec).2) with
  | true =>
   cases h6 : (Qn9 (s_Kd p0).1 (Q71 p0).1) with
   | true =>
    cases h7 : (Qtm (s_Kc p0).1 (Q86 p0).1) with
    | true =>
     cases h8 : (Qx5 (s_Ke p0.spec).1 (Q8s p0.spec).1) with
     | true =>
      exact Qm (fn := Ir.K1) rfl VOK.nil [hB 70 h3, hB 3 h4, hB 4 h5] [aB (t_K5 p0.meta_ (H.1)) h0, aB (Q8z p0.spec 20000 (H.2.1 h0)) h1, aB (Q8z p0.status 20000 (H.2.2.1 h0 h1)) h2, aN (t_Kd p0 (H.2.2.2.1 h0 h1 h2)), aN (Qzc p0 (H.2.2.2.2.1 h0 h1 h2)), aN (t_Kc p0 (H.2.2.2.2.2.1 h0 h1 h2)), aN (Qzk p0 (H.2.2.2.2.2.2.1 h0 h1 h2)), aN (t_Ke p0.spec (H.2.2.2.2.2.2.2.1 h0 h1 h2)), aN (Qzq p0.spec (H.2.2.2.2.2.2.2.2.1 h0 h1 h2)), aB (Q1dj (s_Kd p0).1 (Q71 p0).1 (H.2.2.2.2.2.2.2.2.2.1 h0 h1 h2 h3 h4 h5)) h6, aB (Q1hc (s_Kc p0).1 (Q86 p0).1 (H.2.2.2.2.2.2.2.2.2.2.1 h0 h1 h2 h3 h4 h5 h6)) h7, aB (Q1l2 (s_Ke p0.spec).1 (Q8s p0.spec).1 (H.2.2.2.2.2.2.2.2.2.2.2.1 h0 h1 h2 h3 h4 h5 h6 h7)) h8, aN t_K7] (by kernel_rfl)
     | false =>
      exact Qm (fn := Ir.K1) rfl VOK.nil [hB 70 h3, hB 3 h4, hB 4 h5] [aB (t_K5 p0.meta_ (H.1)) h0, aB (Q8z p0.spec 20000 (H.2.1 h0)) h1, aB (Q8z p0.status 20000 (H.2.2.1 h0 h1)) h2, aN (t_Kd p0 (H.2.2.2.1 h0 h1 h2)), aN (Qzc p0 (H.2.2.2.2.1 h0 h1 h2)), aN (t_Kc p0 (H.2.2.2.2.2.1 h0 h1 h2)), aN (Qzk p0 (H.2.2.2.2.2.2.1 h0 h1 h2)), aN (t_Ke p0.spec (H.2.2.2.2.2.2.2.1 h0 h1 h2)), aN (Qzq p0.spec (H.2.2.2.2.2.2.2.2.1 h0 h1 h2)), aB (Q1dj (s_Kd p0).1 (Q71 p0).1 (H.2.2.2.2.2.2.2.2.2.1 h0 h1 h2 h3 h4 h5)) h6, aB (Q1hc (s_Kc p0).1 (Q86 p0).1 (H.2.2.2.2.2.2.2.2.2.2.1 h0 h1 h2 h3 h4 h5 h6)) h7, aB (Q1l2 (s_Ke p0.spec).1 (Q8s p0.spec).1 (H.2.2.2.2.2.2.2.2.2.2.2.1 h0 h1 h2 h3 h4 h5 h6 h7)) h8] (by kernel_rfl)
    | false =>
     exact Qm (fn := Ir.K1) rfl VOK.nil [hB 70 h3, hB 3 h4, hB 4 h5] [aB (t_K5 p0.meta_ (H.1)) h0, aB (Q8z p0.spec 20000 (H.2.1 h0)) h1, aB (Q8z p0.status 20000 (H.2.2.1 h0 h1)) h2, aN (t_Kd p0 (H.2.2.2.1 h0 h1 h2)), aN (Qzc p0 (H.2.2.2.2.1 h0 h1 h2)), aN (t_Kc p0 (H.2.2.2.2.2.1 h0 h1 h2)), aN (Qzk p0 (H.2.2.2.2.2.2.1 h0 h1 h2)), aN (t_Ke p0.spec (H.2.2.2.2.2.2.2.1 h0 h1 h2)), aN (Qzq p0.spec (H.2.2.2.2.2.2.2.2.1 h0 h1 h2)), aB (Q1dj (s_Kd p0).1 (Q71 p0).1 (H.2.2.2.2.2.2.2.2.2.1 h0 h1 h2 h3 h4 h5)) h6, aB (Q1hc (s_Kc p0).1 (Q86 p0).1 (H.2.2.2.2.2.2.2.2.2.2.1 h0 h1 h2 h3 h4 h5 h6)) h7] (by kernel_rfl)
   | false =>
    exact Qm (fn := Ir.K1) rfl VOK.nil [hB 70 h3, hB 3 h4, hB 4 h5] [aB (t_K5 p0.meta_ (H.1)) h0, aB (Q8z p0.spec 20000 (H.2.1 h0)) h1, aB (Q8z p0.status 20000 (H.2.2.1 h0 h1)) h2, aN (t_Kd p0 (H.2.2.2.1 h0 h1 h2)), aN (Qzc p0 (H.2.2.2.2.1 h0 h1 h2)), aN (t_Kc p0 (H.2.2.2.2.2.1 h0 h1 h2)), aN (Qzk p0 (H.2.2.2.2.2.2.1 h0 h1 h2)), aN (t_Ke p0.spec (H.2.2.2.2.2.2.2.1 h0 h1 h2)), aN (Qzq p0.spec (H.2.2.2.2.2.2.2.2.1 h0 h1 h2)), aB (Q1dj (s_Kd p0).1 (Q71 p0).1 (H.2.2.2.2.2.2.2.2.2.1 h0 h1 h2 h3 h4 h5)) h6] (by kernel_rfl)
  | false =>
   exact Qm (fn := Ir.K1) rfl VOK.nil [hB 70 h3, hB 3 h4, hB 4 h5] [aB (t_K5 p0.meta_ (H.1)) h0, aB (Q8z p0.spec 20000 (H.2.1 h0)) h1, aB (Q8z p0.status 20000 (H.2.2.1 h0 h1)) h2, aN (t_Kd p0 (H.2.2.2.1 h0 h1 h2)), aN (Qzc p0 (H.2.2.2.2.1 h0 h1 h2)), aN (t_Kc p0 (H.2.2.2.2.2.1 h0 h1 h2)), aN (Qzk p0 (H.2.2.2.2.2.2.1 h0 h1 h2)), aN (t_Ke p0.spec (H.2.2.2.2.2.2.2.1 h0 h1 h2)), aN (Qzq p0.spec (H.2.2.2.2.2.2.2.2.1 h0 h1 h2))] (by kernel_rfl)
 | false =>
  exact Qm (fn := Ir.K1) rfl VOK.nil [hB 70 h3, hB 3 h4] [aB (t_K5 p0.meta_ (H.1)) h0, aB (Q8z p0.spec 20000 (H.2.1 h0)) h1, aB (Q8z p0.status 20000 (H.2.2.1 h0 h1)) h2, aN (t_Kd p0 (H.2.2.2.1 h0 h1 h2)), aN (Qzc p0 (H.2.2.2.2.1 h0 h1 h2)), aN (t_Kc p0 (H.2.2.2.2.2.1 h0 h1 h2)), aN (Qzk p0 (H.2.2.2.2.2.2.1 h0 h1 h2)), aN (t_Ke p0.spec (H.2.2.2.2.2.2.2.1 h0 h1 h2)), aN (Qzq p0.spec (H.2.2.2.2.2.2.2.2.1 h0 h1 h2))] (by kernel_rfl)
theorem Q1k2 (p0 : Object) (H : H_K1 p0) (h0 : (s_K5 p0.meta_) = true) (h1 : (Q47 p0.spec 20000) = true) (h2 : (Q47 p0.status 20000) = true) (h3 : ((s_Kd p0).2 == (Q71 p0).2) = false) : Qi G (c_K1 p0) (.ret (.bool (false)) []) := by
 exact Qm (fn := Ir.K1) rfl VOK.nil [hB 70 h3] [aB (t_K5 p0.meta_ (H.1)) h0, aB (Q8z p0.spec 20000 (H.2.1 h0)) h1, aB (Q8z p0.status 20000 (H.2.2.1 h0 h1)) h2, aN (t_Kd p0 (H.2.2.2.1 h0 h1 h2)), aN (Qzc p0 (H.2.2.2.2.1 h0 h1 h2)), aN (t_Kc p0 (H.2.2.2.2.2.1 h0 h1 h2)), aN (Qzk p0 (H.2.2.2.2.2.2.1 h0 h1 h2)), aN (t_Ke p0.spec (H.2.2.2.2.2.2.2.1 h0 h1 h2)), aN (Qzq p0.spec (H.2.2.2.2.2.2.2.2.1 h0 h1 h2))] (by kernel_rfl)
theorem Q1jb (p0 : Object) (H : H_K1 p0) (h0 : (s_K5 p0.meta_) = true) (h1 : (Q47 p0.spec 20000) = true) (h2 : (Q47 p0.status 20000) = false) : Qi G (c_K1 p0) (.ret (.bool (true)) []) := by
 exact Qm (fn := Ir.K1) rfl VOK.nil [] [aB (t_K5 p0.meta_ (H.1)) h0, aB (Q8z p0.spec 20000 (H.2.1 h0)) h1, aB (Q8z p0.status 20000 (H.2.2.1 h0 h1)) h2, aN t_K7] (by kernel_rfl)
theorem Q1lq (p0 : Object) (H : H_K1 p0) (h0 : (s_K5 p0.meta_) = true) (h1 : (Q47 p0.spec 20000) = false) : Qi G (c_K1 p0) (.ret (.bool (true)) []) := by
 exact Qm (fn := Ir.K1) rfl VOK.nil [] [aB (t_K5 p0.meta_ (H.1)) h0, aB (Q8z p0.spec 20000 (H.2.1 h0)) h1, aN t_K7] (by kernel_rfl)
theorem Q1jz (p0 : Object) (H : H_K1 p0) (h0 : (s_K5 p0.meta_) = false) : Qi G (c_K1 p0) (.ret (.bool (true)) []) := by
 exact Qm (fn := Ir.K1) rfl VOK.nil [] [aB (t_K5 p0.meta_ (H.1)) h0, aN t_K7] (by kernel_rfl)
theorem t_K1 (p0 : Object) (H : H_K1 p0) : Qi G (c_K1 p0) (a_K1 p0) := by
 unfold a_K1 s_K1
 cases h0 : (s_K5 p0.meta_) with
 | true =>
  cases h1 : (Q47 p0.spec 20000) with
  | true =>
   cases h2 : (Q47 p0.status 20000) with
   | true =>
    cases h3 : ((s_Kd p0).2 == (Q71 p0).2) with
    | true =>
     exact Q1iv p0 H h0 h1 h2 h3
    | false =>
     exact Q1k2 p0 H h0 h1 h2 h3
   | false =>
    exact Q1jb p0 H h0 h1 h2
  | false =>
   exact Q1lq p0 H h0 h1
 | false =>
  exact Q1jz p0 H h0
def tysPodcodecDecodes : List Ty := [Qux]
theorem purePodcodecDecodes (hp : ∀ (p0 : Object), Qiw p0 → H_K1 p0 ∧ s_K1 p0 = true) : ∀ qs, Args Γ tysPodcodecDecodes qs → ∃ n, runs G n (.call 3 qs []) = some (.ret (.bool true) []) := by
  intro qs h
  cases qs with
  | nil => cases h
  | cons q0 qs =>
  obtain ⟨h0, h⟩ := h
  cases qs with
  | cons _ _ => cases h
  | nil =>
  obtain ⟨c0, rfl, g0⟩ := h0.agg rfl
  obtain ⟨p0, rfl, k0⟩ := (Qzn g0)
  have e := hp p0 k0
  have t := t_K1 p0 e.1
  unfold a_K1 at t
  rw [e.2] at t
  exact t
end Go.Proofs.YtiflaadeikaghaaGreat
end

section
/- Equal metadata and objects; what is small; decoding what was encoded, in plain words. -/
namespace Go.Proofs.YtiflaadeikaghaaGreat
open Go.Pv
theorem Q19p (p : List Label) : ∀ (l : List Label) (i : Nat), List.drop i p = l → Q6l p p l i = .k0
  | [], _, _ => by rw [Q6l]
  | x :: l, i, hd => by
    obtain ⟨h1, _, h3⟩ := Q1s hd
    rw [Q6l, List.getD_eq_getElem?_getD, h1, Option.getD_some, Q7i, Q7i]
    exact Q19p p l (i + 1) h3
theorem Q145 {α : Type} (l : List α) : ((l.length : Int) == (l.length : Int)) = true := beq_self_eq_true _
theorem Q19j (p : List Label) : Qdp p p = true := by
  unfold Qdp
  rw [Q145, cond_true, Q19p p p 0 rfl]
theorem Q1br (p : List ByteArray) : ∀ (l : List ByteArray) (i : Nat), List.drop i p = l → Q6n p p l i = .k0
  | [], _, _ => by rw [Q6n]
  | x :: l, i, hd => by
    obtain ⟨h1, _, h3⟩ := Q1s hd
    rw [Q6n, List.getD_eq_getElem?_getD, h1, Option.getD_some, Q7i]
    exact Q1br p l (i + 1) h3
theorem Qxs (p : List ByteArray) : Qak p p = true := by
  unfold Qak
  rw [Q145, cond_true, Q1br p p 0 rfl]
theorem Q1al (m : Meta) : ∀ (l : List Owner) (i : Nat), List.drop i m.owners = l → Q6o m m l i = .k0
  | [], _, _ => by rw [Q6o]
  | x :: l, i, hd => by
    obtain ⟨h1, _, h3⟩ := Q1s hd
    rw [Q6o, List.getD_eq_getElem?_getD, h1, Option.getD_some]
    simp only [Q7i, beq_self_eq_true, Bool.and_true, cond_true]
    exact Q1al m l (i + 1) h3
theorem Q19r (m : Meta) : ∀ (l : List Manager) (i : Nat), List.drop i m.managers = l → Q6m m m l i = .k0
  | [], _, _ => by rw [Q6m]
  | x :: l, i, hd => by
    obtain ⟨h1, _, h3⟩ := Q1s hd
    rw [Q6m, List.getD_eq_getElem?_getD, h1, Option.getD_some, Q7i, Qxs, cond_true, cond_true]
    exact Q19r m l (i + 1) h3
theorem Q1af (m : Meta) : Q171 m m = true := by
  unfold Q171
  simp only [Q7i, beq_self_eq_true, cond_true, Q19j, Qxs]
  rw [Q1al m m.owners 0 rfl, Q19r m m.managers 0 rfl]
theorem Q13e (o : Object) : Q18p o o = true := by
  unfold Q18p
  rw [Q1af, Qdx, Qdx]
  rfl
theorem Q1c8 (p : Pod) : Qn9 p p = true := by
  unfold Qn9
  rw [Q7i, Q13e]
  rfl
theorem Q1b4 (p : Node) : Qtm p p = true := by
  unfold Qtm
  rw [Q7i, Q13e]
  rfl
theorem Q1ad (p : Template) : Qx5 p p = true := by
  unfold Qx5
  rw [Qdx]
theorem Q1gj {m : Meta} (k : Qt3 m) : H_Kf m ∧ H_K5 m ∧ Q7e m m := by
  obtain ⟨_, _, _, _, _, _, _, _, _, kl, ko, kf, km⟩ := k
  have hl := kl.1
  have ho := ko.1
  have hf := kf.1
  have hm := km.1
  have hx : ∀ x ∈ m.managers, x.fields.length * 16 ≤ 140737488351232 := fun x hx => (km.2 x hx).2.1
  have lt : ∀ {α : Type} {l : List α} {i : Nat} {x : α}, l[i]? = some x → i < l.length := fun h => (List.getElem?_eq_some_iff.1 h).1
  refine ⟨⟨by omega, by omega, by omega, by omega, ⟨by omega, fun x h => by have := hx x h; omega, trivial⟩, trivial⟩, ⟨⟨by omega, trivial⟩, ⟨by omega, trivial⟩, ⟨by omega, trivial⟩, ⟨by omega, fun i x h => ⟨by have := hx x (List.mem_of_getElem? h); omega, trivial⟩, trivial⟩, trivial⟩,
    ⟨fun _ => ⟨by omega, fun i x h => lt h, trivial⟩, trivial⟩, ⟨fun _ => ⟨by omega, fun i x h => lt h, trivial⟩, trivial⟩, fun _ _ => ⟨by omega, fun i x h => lt h, trivial⟩, fun _ _ => ⟨by omega, fun i x h => lt h, fun i x h => ?_, trivial⟩, trivial⟩
  rw [List.getD_eq_getElem?_getD, h, Option.getD_some]
  have := hx x (List.mem_of_getElem? h)
  exact ⟨fun _ => ⟨by omega, fun i x h => lt h, trivial⟩, trivial⟩
theorem alH {v : Val} (h : Val.Sm sB v) : Q8c v := h.mono (Nat.le_of_ble_eq_true rfl)
theorem objH {o : Object} (h : Q7e o.meta_ o.meta_) (g : Object.sm o) : Q174 o o := ⟨h, alH g.1, alH g.2, trivial⟩
theorem Q129 {p : Pod} (h : Q7e p.meta_ p.meta_) (g : Pod.sm p) : Q1aj p p := by
  have o : Q174 (Pod.obj p) (Pod.obj p) := objH h (Pod.Q1ab g)
  unfold Q1aj
  repeat' with_reducible apply And.intro
  all_goals first | exact True.intro | exact g | exact o | (intros; exact g) | (intros; exact o)
theorem Qus {p : Node} (h : Q7e p.meta_ p.meta_) (g : Node.sm p) : Q1ar p p := by
  have o : Q174 (Node.obj p) (Node.obj p) := objH h (Node.Q1ab g)
  unfold Q1ar
  repeat' with_reducible apply And.intro
  all_goals first | exact True.intro | exact g | exact o | (intros; exact g) | (intros; exact o)
theorem Qwj {p : Template} (g : Template.sm p) : Q1bf p p := by
  have o : Q8c (Template.enc p) := alH (Template.Q34 g)
  unfold Q1bf
  repeat' with_reducible apply And.intro
  all_goals first | exact True.intro | exact g | exact o
end Go.Proofs.YtiflaadeikaghaaGreat
end

section
/- The law PodcodecDecodes in plain words: both decoders answer the same. -/
namespace Go.Proofs.YtiflaadeikaghaaGreat
open Go.Pv
theorem decodes (p0 : Object) (k0 : Qiw p0) : H_K1 p0 ∧ s_K1 p0 = true := by
  have m0 := Q1gj k0.1
  have fS : Q1bt p0.spec 20000 := ⟨k0.2.1.sm, trivial⟩
  have fT : Q1bt p0.status 20000 := ⟨k0.2.2.sm, trivial⟩
  have sm : Q47 p0.spec 20000 = true → Q47 p0.status 20000 = true → Object.sm p0 := fun h1 h2 => ⟨Q1et (Nat.le_trans (Q1aa k0.2.1 h1) (Nat.le_of_ble_eq_true rfl)), Q1et (Nat.le_trans (Q1aa k0.2.2 h2) (Nat.le_of_ble_eq_true rfl))⟩
  have zm : Qt3 (⟨⟨#[]⟩, ⟨#[]⟩, ⟨#[]⟩, 0, 0, 0, 0, false, 0, [], [], [], []⟩ : Meta) := by
    have i : Qdt 0 := ⟨by decide, by decide⟩
    exact ⟨Nat.zero_le _, Nat.zero_le _, Nat.zero_le _, i, i, i, i, trivial, i, ⟨Nat.zero_le _, fun _ h => by cases h⟩, ⟨Nat.zero_le _, fun _ h => by cases h⟩, ⟨Nat.zero_le _, fun _ h => by cases h⟩, ⟨Nat.zero_le _, fun _ h => by cases h⟩⟩
  have hp : Object.sm p0 → Q1aj (podR p0).1 (podR p0).1 := fun g => by
    unfold podR
    cases (!(sEq p0.meta_.kind Q4w) || !(podQ p0)) with
    | true => exact Q129 (p := zPod) (Q1gj zm).2.2 ⟨⟨LSm.nil, LSm.nil, LSm.nil, LSm.nil, LSm.nil, LSm.nil, trivial⟩, ⟨LSm.nil, trivial⟩⟩
    | false => exact Q129 (p := Q1fz p0) m0.2.2 (Q1cf g)
  have hn : Object.sm p0 → Q1ar (Qvg p0).1 (Qvg p0).1 := fun g => by
    unfold Qvg
    cases (!(sEq p0.meta_.kind Qh) || !(Q1bn p0)) with
    | true => exact Qus (p := Q1lf) (Q1gj zm).2.2 ⟨LSm.nil, LSm.nil⟩
    | false => exact Qus (p := Q10n p0) m0.2.2 (Q1av g)
  have ht : Object.sm p0 → Q1bf (Qxd p0.spec).1 (Qxd p0.spec).1 := fun g => by
    unfold Qxd
    cases (!(Template.dec p0.spec).2) with
    | true => exact Qwj (p := Qx9) ⟨LSm.nil, ⟨LSm.nil, LSm.nil, LSm.nil, LSm.nil, LSm.nil, LSm.nil, trivial⟩, trivial⟩
    | false => exact Qwj (Template.Q35 g.1)
  refine ⟨?_, ?_⟩
  · unfold H_K1
    repeat' with_reducible apply And.intro
    all_goals first | exact True.intro | exact m0.2.1 | (intros; exact fS) | (intros; exact fT) | (intro _ h1 h2; exact ⟨m0.1, sm h1 h2⟩) | (intro _ h1 h2; exact sm h1 h2) | (intro _ h1 h2; exact (sm h1 h2).1) | (intro _ h1 h2; intros; exact hp (sm h1 h2)) | (intro _ h1 h2; intros; exact hn (sm h1 h2)) | (intro _ h1 h2; intros; exact ht (sm h1 h2))
  · have e1 : ((s_Kd p0).2 == (Q71 p0).2) = true := beq_self_eq_true (podR p0).2
    have e2 : ((s_Kc p0).2 == (Q86 p0).2) = true := beq_self_eq_true (Qvg p0).2
    have e3 : ((s_Ke p0.spec).2 == (Q8s p0.spec).2) = true := beq_self_eq_true (Qxd p0.spec).2
    have e4 : Qn9 (s_Kd p0).1 (Q71 p0).1 = true := Q1c8 _
    have e5 : Qtm (s_Kc p0).1 (Q86 p0).1 = true := Q1b4 _
    have e6 : Qx5 (s_Ke p0.spec).1 (Q8s p0.spec).1 = true := Q1ad _
    unfold s_K1
    rw [e1, e2, e3, e4, e5, e6]
    cases s_K5 p0.meta_ <;> cases Q47 p0.spec 20000 <;> cases Q47 p0.status 20000 <;> rfl
end Go.Proofs.YtiflaadeikaghaaGreat
end

section
/- The library's comparison of two strings, walked: it answers as the evaluator's cmpL. -/
namespace Go.Proofs.YtiflaadeikaghaaGreat
open Go.Pv
theorem cmpL_eq : ∀ (a b : List UInt8), cmpL a b = Lib.compareBytes a b
  | [], [] => rfl
  | [], _ :: _ => rfl
  | _ :: _, [] => rfl
  | a :: x, b :: y => by
    rw [Lib.compareBytes, ← cmpL_eq x y]
    rfl
set_option maxHeartbeats 1000000 in
set_option maxRecDepth 100000 in
theorem comparing (a b : BA) (w : World) :
    Calls Tryz.prog 152 #[.string a, .string b] w fun e w' => e = .returned (.int .i64 (Lib.compareBytes a.data.toList b.data.toList)) ∧ w' = w := by
  go_enter Tryz.func152, Tryz.ntmps152
  go_wp2
  rw [run_callFunc_extern Tryz.func157 (by kernel_rfl) (by kernel_rfl) (by kernel_rfl) (e := Extern.BytealgCompare.compare) (by kernel_rfl), Lib.run_compareString]
  simp only [Result.andThen]
  rw [Oper.upon_value]
  go_wp2
  go_ret
  exact ⟨rfl, rfl⟩
theorem cmpOK : Q1cq Tryz.prog 152 := by
  refine ⟨⟨_, Tryz.func152, by kernel_rfl, by kernel_rfl⟩, fun x y w => ?_⟩
  have h := comparing x y w
  rw [← cmpL_eq, ← toList_data, ← toList_data] at h
  exact h
end Go.Proofs.YtiflaadeikaghaaGreat
end

