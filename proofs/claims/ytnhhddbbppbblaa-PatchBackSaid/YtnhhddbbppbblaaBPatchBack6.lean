/- Texts of the claim, merged by a program; what the statement does not reach is left out. -/
import Derived.Test.YtnhhddbbppbblaaBPatchBack5

section
/- What building a map computes (printed by a program). -/
namespace Go.Proofs.Ytnhhddbbppbblaa
open Go.Pv
def Q20 (n0 : Nat) (p1 : Int) : Nat → (List Fld) → Int → Int → (List Fld) × Int
 | 0, v0_0, v0_1, _v0_2 => (v0_0, v0_1)
 | k0 + 1, v0_0, v0_1, v0_2 =>
  bif (decide (v0_2 ≤ p1)) then
   Q20 n0 p1 k0 (Q19 n0 v0_0 v0_1 v0_2) v0_2 (v0_2 + 20)
  else
   (v0_0, v0_1)
def Qmp (n0 : Nat) (p1 : Int) (_v0_0 : List Fld) (v0_1 : Int) (v0_2 : Int) : List PV :=
  [.ms 0 6 0 n0, .int .i64 p1, .fn 43 [] [], .un, .un, .un, .int .i64 20, .int .i64 v0_1, .int .i64 v0_2, .un, .un, .un, .un, .un, .un, .un, .un, .un, .un, .un, .un, .un, .un, .un, .un, .un, .un, .un, .un, .un, .un, .un, .un, .un, .un, .un, .un, .un, .un, .un, .un, .un, .un, .un, .un, .un, .un, .un, .un, .un, .un, .un, .un, .un, .un, .un, .un, .un, .un, .un, .un, .un, .un]
def Qes (_n0 : Nat) (_p1 : Int) (v0_0 : List Fld) (_v0_1 : Int) (_v0_2 : Int) : List Ob :=
  [⟨6, 0, false, (Fld.rows v0_0).flatten⟩]
def Qbv (n0 : Nat) (p1 : Int) (v0_0 : List Fld) (v0_1 : Int) (v0_2 : Int) : En := .loop 1 Ir.Qd9 Ir.Q13n (Qmp n0 p1 v0_0 v0_1 v0_2) (Qes n0 p1 v0_0 v0_1 v0_2)
def Qi0 (n0 : Nat) (p1 : Int) (q0 : List Fld) (q1 : Int) (z : Nat → PV) (_zo : Nat → List PV) : St :=
  ⟨[.ms 0 6 0 n0, .int .i64 p1, .fn 43 [] [], z 3, z 4, z 5, .int .i64 20, .int .i64 q1, z 8, z 9, z 10, z 11, z 12, z 13, z 14, z 15, z 16, z 17, z 18, z 19, z 20, z 21, z 22, z 23, z 24, z 25, z 26, z 27, z 28, z 29, z 30, z 31, z 32, z 33, z 34, z 35, z 36, z 37, z 38, z 39, z 40, z 41, z 42, z 43, z 44, z 45, z 46, z 47, z 48, z 49, z 50, z 51, z 52, z 53, z 54, z 55, z 56, z 57, z 58, z 59, z 60, z 61, z 62], [(0, ⟨6, 0, false, (Fld.rows q0).flatten⟩)], 193⟩
theorem Qs8 (n0 : Nat) (p1 : Int) (v0_0 : List Fld) (v0_1 : Int) (v0_2 : Int) : VOK (Go.Pv.look (number 0 (Qes n0 p1 v0_0 v0_1 v0_2))) [(0, Fld.rows v0_0)] := (VOK.cons (show Seen _ _ from Q4n (ob := ⟨6, 0, false, (Fld.rows v0_0).flatten⟩) (Fld.Q5 v0_0 6 rfl)) VOK.nil)
def Qbs (n0 : Nat) (p1 : Int) (e : En) (q : (List Fld) × Int) : Prop := ∃ z zo, Q7 G e (.st (.exit 0) (Qi0 n0 p1 q.1 q.2 z zo))
theorem Qlm (n0 : Nat) (p1 : Int) {e e' : En} (h : ∀ r, Q7 G e r → Q7 G e' r) : ∀ q, Qbs n0 p1 e q → Qbs n0 p1 e' q
  | _, ⟨z, zo, hz⟩ => ⟨z, zo, h _ hz⟩
theorem Qxm (n0 : Nat) (p1 : Int) (v0_0 : List Fld) (v0_1 : Int) (v0_2 : Int) (ho0_0 : 0 ≤ v0_1) (_ho0_1 : v0_1 ≤ n0) (ho0_2 : v0_1 + 20 = v0_2) (ho0_3 : p1 = n0) (ho0_4 : (n0 : Int) ≤ 1152921504606846976) (ho0_5 : List.length v0_0 = n0) (h0 : (decide (v0_2 ≤ p1)) = true) {r : Rs} (hr : Q7 G (Qbv n0 p1 (Q19 n0 v0_0 v0_1 v0_2) v0_2 (v0_2 + 20)) r) : Q7 G (Qbv n0 p1 v0_0 v0_1 v0_2) r := by
 have e0 := of_decide_eq_true h0
 exact Qb (Qs8 n0 p1 v0_0 v0_1 v0_2) (y := (Qmp n0 p1 (Q19 n0 v0_0 v0_1 v0_2) v0_2 (v0_2 + 20), Qes n0 p1 (Q19 n0 v0_0 v0_1 v0_2) v0_2 (v0_2 + 20))) [hB 2 h0, hQ (Fld.Q5 (Q19 n0 v0_0 v0_1 v0_2) 6 rfl), hP 9 (w_ok (v0_2 + 20) (by have f0 := (Qu n0 v0_0 v0_1 v0_2 ho0_5); omega))] [aV [(0, Fld.rows (Q19 n0 v0_0 v0_1 v0_2))] (Qok n0 v0_0 v0_1 v0_2 ho0_5 (by omega))] (by kernel_rfl) hr
def Qk0 (_n0 : Nat) (p1 : Int) (_v0_0 : List Fld) (_v0_1 : Int) (v0_2 : Int) : List PV :=
  [.un, .un, .un, .un, .un, .un, .un, .un, .int .i64 v0_2, .un, .un, .int .i64 v0_2, .int .i64 p1, .bool false]
def Qda (_n0 : Nat) (_p1 : Int) (_v0_0 : List Fld) (_v0_1 : Int) (_v0_2 : Int) : List (Nat × List PV) :=
  []
theorem Qwq (n0 : Nat) (p1 : Int) (v0_0 : List Fld) (v0_1 : Int) (v0_2 : Int) (_ho0_0 : 0 ≤ v0_1) (_ho0_1 : v0_1 ≤ n0) (_ho0_2 : v0_1 + 20 = v0_2) (_ho0_3 : p1 = n0) (_ho0_4 : (n0 : Int) ≤ 1152921504606846976) (_ho0_5 : List.length v0_0 = n0) (h0 : (decide (v0_2 ≤ p1)) = false) : Qbs n0 p1 (Qbv n0 p1 v0_0 v0_1 v0_2) (v0_0, v0_1) := by
 exact ⟨(envF (Qk0 n0 p1 v0_0 v0_1 v0_2)), (zoF (Qda n0 p1 v0_0 v0_1 v0_2)), Qe (Qs8 n0 p1 v0_0 v0_1 v0_2) (x := ((.exit 0), Qi0 n0 p1 v0_0 v0_1 (envF (Qk0 n0 p1 v0_0 v0_1 v0_2)) (zoF (Qda n0 p1 v0_0 v0_1 v0_2)))) [hB 2 h0] [] (by kernel_rfl)⟩
theorem Qnk (n0 : Nat) (p1 : Int) : ∀ (k0 : Nat) (v0_0 : List Fld) (v0_1 : Int) (v0_2 : Int), 0 ≤ v0_1 → v0_1 ≤ n0 → v0_1 + 20 = v0_2 → p1 = n0 → (n0 : Int) ≤ 1152921504606846976 → List.length v0_0 = n0 → Int.toNat (p1 + 20 - v0_2) < k0 → Qbs n0 p1 (Qbv n0 p1 v0_0 v0_1 v0_2) (Q20 n0 p1 k0 v0_0 v0_1 v0_2)
 | 0, v0_0, v0_1, v0_2, _, _, _, _, _, _, hm => absurd hm (Nat.not_lt_zero _)
 | k0 + 1, v0_0, v0_1, v0_2, ho0_0, ho0_1, ho0_2, ho0_3, ho0_4, ho0_5, hm => by
  rw [Q20]
  cases h0 : (decide (v0_2 ≤ p1)) with
  | true =>
   have e0 := of_decide_eq_true h0
   exact Qlm n0 p1 (fun r hr => Qxm n0 p1 v0_0 v0_1 v0_2 ho0_0 ho0_1 ho0_2 ho0_3 ho0_4 ho0_5 h0 hr) _ (Qnk n0 p1 k0 (Q19 n0 v0_0 v0_1 v0_2) v0_2 (v0_2 + 20) (by have f0 := (Qu n0 v0_0 v0_1 v0_2 ho0_5); omega) (by have f0 := (Qu n0 v0_0 v0_1 v0_2 ho0_5); omega) (by have f0 := (Qu n0 v0_0 v0_1 v0_2 ho0_5); omega) (by have f0 := (Qu n0 v0_0 v0_1 v0_2 ho0_5); omega) (by have f0 := (Qu n0 v0_0 v0_1 v0_2 ho0_5); omega) (Qu n0 v0_0 v0_1 v0_2 ho0_5) (by have f0 := (Qu n0 v0_0 v0_1 v0_2 ho0_5); omega))
  | false =>
   exact Qwq n0 p1 v0_0 v0_1 v0_2 ho0_0 ho0_1 ho0_2 ho0_3 ho0_4 ho0_5 h0
theorem Q83 (n0 : Nat) (p1 : Int) : ∀ (k0 : Nat) (v0_0 : List Fld) (v0_1 : Int) (v0_2 : Int), List.length v0_0 = n0 → List.length (Q20 n0 p1 k0 v0_0 v0_1 v0_2).1 = n0
 | 0, v0_0, v0_1, v0_2, ho0_5 => by rw [Q20]; exact ho0_5
 | k0 + 1, v0_0, v0_1, v0_2, ho0_5 => by
  rw [Q20]
  cases h0 : (decide (v0_2 ≤ p1)) with
  | true =>
   exact Q83 n0 p1 k0 (Q19 n0 v0_0 v0_1 v0_2) v0_2 (v0_2 + 20) (Qu n0 v0_0 v0_1 v0_2 ho0_5)
  | false =>
   exact ho0_5
theorem Qn2 (n0 : Nat) (p1 : Int) : ∀ (k0 : Nat) (v0_0 : List Fld) (v0_1 : Int) (v0_2 : Int), 0 ≤ v0_1 → v0_1 ≤ n0 → v0_1 + 20 = v0_2 → p1 = n0 → (n0 : Int) ≤ 1152921504606846976 → List.length v0_0 = n0 → Int.toNat (p1 + 20 - v0_2) < k0 → 0 ≤ (Q20 n0 p1 k0 v0_0 v0_1 v0_2).2 ∧ (Q20 n0 p1 k0 v0_0 v0_1 v0_2).2 ≤ n0
 | 0, v0_0, v0_1, v0_2, _, _, _, _, _, _, hm => absurd hm (Nat.not_lt_zero _)
 | k0 + 1, v0_0, v0_1, v0_2, ho0_0, ho0_1, ho0_2, ho0_3, ho0_4, ho0_5, hm => by
  rw [Q20]
  cases h0 : (decide (v0_2 ≤ p1)) with
  | true =>
   have e0 := of_decide_eq_true h0
   exact Qn2 n0 p1 k0 (Q19 n0 v0_0 v0_1 v0_2) v0_2 (v0_2 + 20) (by have f0 := (Qu n0 v0_0 v0_1 v0_2 ho0_5); omega) (by have f0 := (Qu n0 v0_0 v0_1 v0_2 ho0_5); omega) (by have f0 := (Qu n0 v0_0 v0_1 v0_2 ho0_5); omega) (by have f0 := (Qu n0 v0_0 v0_1 v0_2 ho0_5); omega) (by have f0 := (Qu n0 v0_0 v0_1 v0_2 ho0_5); omega) (Qu n0 v0_0 v0_1 v0_2 ho0_5) (by have f0 := (Qu n0 v0_0 v0_1 v0_2 ho0_5); omega)
  | false =>
   have e0 := of_decide_eq_false h0
   exact (show 0 ≤ v0_1 ∧ v0_1 ≤ n0 from ⟨(by omega), (by omega)⟩)
def Qc (n0 : Nat) (p1 : Int) : Nat → (List Fld) → Int → Int → Int → (List Fld) × Int × Int
 | 0, v2_0, v2_1, _v2_2, v2_3 => (v2_0, v2_3, v2_1)
 | k2 + 1, v2_0, v2_1, v2_2, v2_3 =>
  bif (decide (v2_2 ≤ p1)) then
   Qc n0 p1 k2 (Q6 ((Int.toNat (v2_2 - v2_1)) + 1) n0 v2_0 v2_1 (v2_1 + v2_3) v2_2) v2_2 (v2_2 + (2 * v2_3)) v2_3
  else
   (v2_0, v2_3, v2_1)
def Qo6 (n0 : Nat) (p1 : Int) (_v2_0 : List Fld) (v2_1 : Int) (v2_2 : Int) (v2_3 : Int) : List PV :=
  [.ms 0 6 0 n0, .int .i64 p1, .fn 43 [] [], .un, .un, .un, .int .i64 v2_3, .int .i64 v2_1, .int .i64 v2_2, .un, .un, .un, .un, .un, .un, .un, .un, .un, .un, .un, .un, .un, .un, .un, .un, .un, .un, .un, .un, .un, .un, .un, .un, .un, .un, .un, .un, .un, .un, .un, .un, .un, .un, .un, .un, .un, .un, .un, .un, .un, .un, .un, .un, .un, .un, .un, .un, .un, .un, .un, .un, .un, .un]
def Qdv (_n0 : Nat) (_p1 : Int) (v2_0 : List Fld) (_v2_1 : Int) (_v2_2 : Int) (_v2_3 : Int) : List Ob :=
  [⟨6, 0, false, (Fld.rows v2_0).flatten⟩]
def Q7f (n0 : Nat) (p1 : Int) (v2_0 : List Fld) (v2_1 : Int) (v2_2 : Int) (v2_3 : Int) : En := .loop 1 Ir.Qea Ir.Q13l (Qo6 n0 p1 v2_0 v2_1 v2_2 v2_3) (Qdv n0 p1 v2_0 v2_1 v2_2 v2_3)
def Q7c (n0 : Nat) (p1 : Int) (q0 : List Fld) (q1 : Int) (q2 : Int) (z : Nat → PV) (_zo : Nat → List PV) : St :=
  ⟨[.ms 0 6 0 n0, .int .i64 p1, .fn 43 [] [], z 3, z 4, z 5, .int .i64 q1, .int .i64 q2, z 8, z 9, z 10, z 11, z 12, z 13, z 14, z 15, z 16, z 17, z 18, z 19, z 20, z 21, z 22, z 23, z 24, z 25, z 26, z 27, z 28, z 29, z 30, z 31, z 32, z 33, z 34, z 35, z 36, z 37, z 38, z 39, z 40, z 41, z 42, z 43, z 44, z 45, z 46, z 47, z 48, z 49, z 50, z 51, z 52, z 53, z 54, z 55, z 56, z 57, z 58, z 59, z 60, z 61, z 62], [(0, ⟨6, 0, false, (Fld.rows q0).flatten⟩)], 193⟩
theorem Qts (n0 : Nat) (p1 : Int) (v2_0 : List Fld) (v2_1 : Int) (v2_2 : Int) (v2_3 : Int) : VOK (Go.Pv.look (number 0 (Qdv n0 p1 v2_0 v2_1 v2_2 v2_3))) [(0, Fld.rows v2_0)] := (VOK.cons (show Seen _ _ from Q4n (ob := ⟨6, 0, false, (Fld.rows v2_0).flatten⟩) (Fld.Q5 v2_0 6 rfl)) VOK.nil)
def Qc4 (n0 : Nat) (p1 : Int) (e : En) (q : (List Fld) × Int × Int) : Prop := ∃ z zo, Q7 G e (.st (.exit 4) (Q7c n0 p1 q.1 q.2.1 q.2.2 z zo))
theorem Qle (n0 : Nat) (p1 : Int) {e e' : En} (h : ∀ r, Q7 G e r → Q7 G e' r) : ∀ q, Qc4 n0 p1 e q → Qc4 n0 p1 e' q
  | _, ⟨z, zo, hz⟩ => ⟨z, zo, h _ hz⟩
theorem Qv8 (n0 : Nat) (p1 : Int) (v2_0 : List Fld) (v2_1 : Int) (v2_2 : Int) (v2_3 : Int) (ho2_0 : 0 ≤ v2_1) (ho2_1 : v2_1 ≤ n0) (ho2_2 : v2_1 + 2 * v2_3 = v2_2) (ho2_3 : 20 ≤ v2_3) (ho2_4 : v2_3 < p1) (ho2_5 : p1 = n0) (ho2_6 : (n0 : Int) ≤ 1152921504606846976) (ho2_7 : List.length v2_0 = n0) (h0 : (decide (v2_2 ≤ p1)) = true) {r : Rs} (hr : Q7 G (Q7f n0 p1 (Q6 ((Int.toNat (v2_2 - v2_1)) + 1) n0 v2_0 v2_1 (v2_1 + v2_3) v2_2) v2_2 (v2_2 + (2 * v2_3)) v2_3) r) : Q7 G (Q7f n0 p1 v2_0 v2_1 v2_2 v2_3) r := by
 have e0 := of_decide_eq_true h0
 exact Qb (Qts n0 p1 v2_0 v2_1 v2_2 v2_3) (y := (Qo6 n0 p1 (Q6 ((Int.toNat (v2_2 - v2_1)) + 1) n0 v2_0 v2_1 (v2_1 + v2_3) v2_2) v2_2 (v2_2 + (2 * v2_3)) v2_3, Qdv n0 p1 (Q6 ((Int.toNat (v2_2 - v2_1)) + 1) n0 v2_0 v2_1 (v2_1 + v2_3) v2_2) v2_2 (v2_2 + (2 * v2_3)) v2_3)) [hB 2 h0, hP 4 (w_ok (v2_1 + v2_3) (by omega)), hQ (Fld.Q5 (Q6 ((Int.toNat (v2_2 - v2_1)) + 1) n0 v2_0 v2_1 (v2_1 + v2_3) v2_2) 6 rfl), hP 7 (w_ok (2 * v2_3) (by have f0 := (Qa ((Int.toNat (v2_2 - v2_1)) + 1) n0 v2_0 v2_1 (v2_1 + v2_3) v2_2 ho2_7); omega)), hP 0 (w_ok (v2_2 + (2 * v2_3)) (by have f0 := (Qa ((Int.toNat (v2_2 - v2_1)) + 1) n0 v2_0 v2_1 (v2_1 + v2_3) v2_2 ho2_7); omega))] [aV [(0, Fld.rows (Q6 ((Int.toNat (v2_2 - v2_1)) + 1) n0 v2_0 v2_1 (v2_1 + v2_3) v2_2))] (Qef ((Int.toNat (v2_2 - v2_1)) + 1) n0 v2_0 v2_1 (v2_1 + v2_3) v2_2 ho2_7 (by omega) (by omega))] (by kernel_rfl) hr
def Qiq (_n0 : Nat) (p1 : Int) (_v2_0 : List Fld) (_v2_1 : Int) (v2_2 : Int) (_v2_3 : Int) : List PV :=
  [.un, .un, .un, .un, .un, .un, .un, .un, .int .i64 v2_2, .un, .un, .un, .un, .un, .un, .un, .un, .un, .un, .un, .un, .un, .un, .un, .un, .un, .un, .un, .un, .un, .un, .un, .un, .int .i64 v2_2, .int .i64 p1, .bool false]
def Qct (_n0 : Nat) (_p1 : Int) (_v2_0 : List Fld) (_v2_1 : Int) (_v2_2 : Int) (_v2_3 : Int) : List (Nat × List PV) :=
  []
theorem Qwj (n0 : Nat) (p1 : Int) (v2_0 : List Fld) (v2_1 : Int) (v2_2 : Int) (v2_3 : Int) (_ho2_0 : 0 ≤ v2_1) (_ho2_1 : v2_1 ≤ n0) (_ho2_2 : v2_1 + 2 * v2_3 = v2_2) (_ho2_3 : 20 ≤ v2_3) (_ho2_4 : v2_3 < p1) (_ho2_5 : p1 = n0) (_ho2_6 : (n0 : Int) ≤ 1152921504606846976) (_ho2_7 : List.length v2_0 = n0) (h0 : (decide (v2_2 ≤ p1)) = false) : Qc4 n0 p1 (Q7f n0 p1 v2_0 v2_1 v2_2 v2_3) (v2_0, v2_3, v2_1) := by
 exact ⟨(envF (Qiq n0 p1 v2_0 v2_1 v2_2 v2_3)), (zoF (Qct n0 p1 v2_0 v2_1 v2_2 v2_3)), Qe (Qts n0 p1 v2_0 v2_1 v2_2 v2_3) (x := ((.exit 4), Q7c n0 p1 v2_0 v2_3 v2_1 (envF (Qiq n0 p1 v2_0 v2_1 v2_2 v2_3)) (zoF (Qct n0 p1 v2_0 v2_1 v2_2 v2_3)))) [hB 2 h0] [] (by kernel_rfl)⟩
theorem Qnf (n0 : Nat) (p1 : Int) : ∀ (k2 : Nat) (v2_0 : List Fld) (v2_1 : Int) (v2_2 : Int) (v2_3 : Int), 0 ≤ v2_1 → v2_1 ≤ n0 → v2_1 + 2 * v2_3 = v2_2 → 20 ≤ v2_3 → v2_3 < p1 → p1 = n0 → (n0 : Int) ≤ 1152921504606846976 → List.length v2_0 = n0 → Int.toNat (p1 + 2 * v2_3 - v2_2) < k2 → Qc4 n0 p1 (Q7f n0 p1 v2_0 v2_1 v2_2 v2_3) (Qc n0 p1 k2 v2_0 v2_1 v2_2 v2_3)
 | 0, v2_0, v2_1, v2_2, v2_3, _, _, _, _, _, _, _, _, hm => absurd hm (Nat.not_lt_zero _)
 | k2 + 1, v2_0, v2_1, v2_2, v2_3, ho2_0, ho2_1, ho2_2, ho2_3, ho2_4, ho2_5, ho2_6, ho2_7, hm => by
  rw [Qc]
  cases h0 : (decide (v2_2 ≤ p1)) with
  | true =>
   have e0 := of_decide_eq_true h0
   exact Qle n0 p1 (fun r hr => Qv8 n0 p1 v2_0 v2_1 v2_2 v2_3 ho2_0 ho2_1 ho2_2 ho2_3 ho2_4 ho2_5 ho2_6 ho2_7 h0 hr) _ (Qnf n0 p1 k2 (Q6 ((Int.toNat (v2_2 - v2_1)) + 1) n0 v2_0 v2_1 (v2_1 + v2_3) v2_2) v2_2 (v2_2 + (2 * v2_3)) v2_3 (by have f0 := (Qa ((Int.toNat (v2_2 - v2_1)) + 1) n0 v2_0 v2_1 (v2_1 + v2_3) v2_2 ho2_7); omega) (by have f0 := (Qa ((Int.toNat (v2_2 - v2_1)) + 1) n0 v2_0 v2_1 (v2_1 + v2_3) v2_2 ho2_7); omega) (by have f0 := (Qa ((Int.toNat (v2_2 - v2_1)) + 1) n0 v2_0 v2_1 (v2_1 + v2_3) v2_2 ho2_7); omega) (by have f0 := (Qa ((Int.toNat (v2_2 - v2_1)) + 1) n0 v2_0 v2_1 (v2_1 + v2_3) v2_2 ho2_7); omega) (by have f0 := (Qa ((Int.toNat (v2_2 - v2_1)) + 1) n0 v2_0 v2_1 (v2_1 + v2_3) v2_2 ho2_7); omega) (by have f0 := (Qa ((Int.toNat (v2_2 - v2_1)) + 1) n0 v2_0 v2_1 (v2_1 + v2_3) v2_2 ho2_7); omega) (by have f0 := (Qa ((Int.toNat (v2_2 - v2_1)) + 1) n0 v2_0 v2_1 (v2_1 + v2_3) v2_2 ho2_7); omega) (Qa ((Int.toNat (v2_2 - v2_1)) + 1) n0 v2_0 v2_1 (v2_1 + v2_3) v2_2 ho2_7) (by have f0 := (Qa ((Int.toNat (v2_2 - v2_1)) + 1) n0 v2_0 v2_1 (v2_1 + v2_3) v2_2 ho2_7); omega))
  | false =>
   exact Qwj n0 p1 v2_0 v2_1 v2_2 v2_3 ho2_0 ho2_1 ho2_2 ho2_3 ho2_4 ho2_5 ho2_6 ho2_7 h0
theorem Q17 (n0 : Nat) (p1 : Int) : ∀ (k2 : Nat) (v2_0 : List Fld) (v2_1 : Int) (v2_2 : Int) (v2_3 : Int), List.length v2_0 = n0 → List.length (Qc n0 p1 k2 v2_0 v2_1 v2_2 v2_3).1 = n0
 | 0, v2_0, v2_1, v2_2, v2_3, ho2_7 => by rw [Qc]; exact ho2_7
 | k2 + 1, v2_0, v2_1, v2_2, v2_3, ho2_7 => by
  rw [Qc]
  cases h0 : (decide (v2_2 ≤ p1)) with
  | true =>
   exact Q17 n0 p1 k2 (Q6 ((Int.toNat (v2_2 - v2_1)) + 1) n0 v2_0 v2_1 (v2_1 + v2_3) v2_2) v2_2 (v2_2 + (2 * v2_3)) v2_3 (Qa ((Int.toNat (v2_2 - v2_1)) + 1) n0 v2_0 v2_1 (v2_1 + v2_3) v2_2 ho2_7)
  | false =>
   exact ho2_7
theorem Q2b (n0 : Nat) (p1 : Int) : ∀ (k2 : Nat) (v2_0 : List Fld) (v2_1 : Int) (v2_2 : Int) (v2_3 : Int), 0 ≤ v2_1 → v2_1 ≤ n0 → v2_1 + 2 * v2_3 = v2_2 → 20 ≤ v2_3 → v2_3 < p1 → p1 = n0 → (n0 : Int) ≤ 1152921504606846976 → List.length v2_0 = n0 → Int.toNat (p1 + 2 * v2_3 - v2_2) < k2 → 0 ≤ (Qc n0 p1 k2 v2_0 v2_1 v2_2 v2_3).2.2 ∧ (Qc n0 p1 k2 v2_0 v2_1 v2_2 v2_3).2.2 ≤ n0 ∧ (Qc n0 p1 k2 v2_0 v2_1 v2_2 v2_3).2.1 = v2_3
 | 0, v2_0, v2_1, v2_2, v2_3, _, _, _, _, _, _, _, _, hm => absurd hm (Nat.not_lt_zero _)
 | k2 + 1, v2_0, v2_1, v2_2, v2_3, ho2_0, ho2_1, ho2_2, ho2_3, ho2_4, ho2_5, ho2_6, ho2_7, hm => by
  rw [Qc]
  cases h0 : (decide (v2_2 ≤ p1)) with
  | true =>
   have e0 := of_decide_eq_true h0
   exact Q2b n0 p1 k2 (Q6 ((Int.toNat (v2_2 - v2_1)) + 1) n0 v2_0 v2_1 (v2_1 + v2_3) v2_2) v2_2 (v2_2 + (2 * v2_3)) v2_3 (by have f0 := (Qa ((Int.toNat (v2_2 - v2_1)) + 1) n0 v2_0 v2_1 (v2_1 + v2_3) v2_2 ho2_7); omega) (by have f0 := (Qa ((Int.toNat (v2_2 - v2_1)) + 1) n0 v2_0 v2_1 (v2_1 + v2_3) v2_2 ho2_7); omega) (by have f0 := (Qa ((Int.toNat (v2_2 - v2_1)) + 1) n0 v2_0 v2_1 (v2_1 + v2_3) v2_2 ho2_7); omega) (by have f0 := (Qa ((Int.toNat (v2_2 - v2_1)) + 1) n0 v2_0 v2_1 (v2_1 + v2_3) v2_2 ho2_7); omega) (by have f0 := (Qa ((Int.toNat (v2_2 - v2_1)) + 1) n0 v2_0 v2_1 (v2_1 + v2_3) v2_2 ho2_7); omega) (by have f0 := (Qa ((Int.toNat (v2_2 - v2_1)) + 1) n0 v2_0 v2_1 (v2_1 + v2_3) v2_2 ho2_7); omega) (by have f0 := (Qa ((Int.toNat (v2_2 - v2_1)) + 1) n0 v2_0 v2_1 (v2_1 + v2_3) v2_2 ho2_7); omega) (Qa ((Int.toNat (v2_2 - v2_1)) + 1) n0 v2_0 v2_1 (v2_1 + v2_3) v2_2 ho2_7) (by have f0 := (Qa ((Int.toNat (v2_2 - v2_1)) + 1) n0 v2_0 v2_1 (v2_1 + v2_3) v2_2 ho2_7); omega)
  | false =>
   have e0 := of_decide_eq_false h0
   exact (show 0 ≤ v2_1 ∧ v2_1 ≤ n0 ∧ v2_3 = v2_3 from ⟨(by omega), (by omega), (by omega)⟩)
def Q2r (n0 : Nat) (p1 : Int) : Nat → (List Fld) → Int → List Fld
 | 0, v1_0, _v1_1 => v1_0
 | k1 + 1, v1_0, v1_1 =>
  bif (decide (v1_1 < p1)) then
   bif (decide (((Qc n0 p1 ((Int.toNat (p1 + 2 * v1_1 - (2 * v1_1))) + 1) v1_0 0 (2 * v1_1) v1_1).2.2 + (Qc n0 p1 ((Int.toNat (p1 + 2 * v1_1 - (2 * v1_1))) + 1) v1_0 0 (2 * v1_1) v1_1).2.1) < p1)) then
    Q2r n0 p1 k1 (Q6 ((Int.toNat (p1 - (Qc n0 p1 ((Int.toNat (p1 + 2 * v1_1 - (2 * v1_1))) + 1) v1_0 0 (2 * v1_1) v1_1).2.2)) + 1) n0 (Qc n0 p1 ((Int.toNat (p1 + 2 * v1_1 - (2 * v1_1))) + 1) v1_0 0 (2 * v1_1) v1_1).1 (Qc n0 p1 ((Int.toNat (p1 + 2 * v1_1 - (2 * v1_1))) + 1) v1_0 0 (2 * v1_1) v1_1).2.2 ((Qc n0 p1 ((Int.toNat (p1 + 2 * v1_1 - (2 * v1_1))) + 1) v1_0 0 (2 * v1_1) v1_1).2.2 + (Qc n0 p1 ((Int.toNat (p1 + 2 * v1_1 - (2 * v1_1))) + 1) v1_0 0 (2 * v1_1) v1_1).2.1) p1) ((Qc n0 p1 ((Int.toNat (p1 + 2 * v1_1 - (2 * v1_1))) + 1) v1_0 0 (2 * v1_1) v1_1).2.1 * 2)
   else
    Q2r n0 p1 k1 (Qc n0 p1 ((Int.toNat (p1 + 2 * v1_1 - (2 * v1_1))) + 1) v1_0 0 (2 * v1_1) v1_1).1 ((Qc n0 p1 ((Int.toNat (p1 + 2 * v1_1 - (2 * v1_1))) + 1) v1_0 0 (2 * v1_1) v1_1).2.1 * 2)
  else
   v1_0
def Qel (n0 : Nat) (p1 : Int) (_v1_0 : List Fld) (v1_1 : Int) : List PV :=
  [.ms 0 6 0 n0, .int .i64 p1, .fn 43 [] [], .un, .un, .un, .int .i64 v1_1, .un, .un, .un, .un, .un, .un, .un, .un, .un, .un, .un, .un, .un, .un, .un, .un, .un, .un, .un, .un, .un, .un, .un, .un, .un, .un, .un, .un, .un, .un, .un, .un, .un, .un, .un, .un, .un, .un, .un, .un, .un, .un, .un, .un, .un, .un, .un, .un, .un, .un, .un, .un, .un, .un, .un, .un]
def Q94 (_n0 : Nat) (_p1 : Int) (v1_0 : List Fld) (_v1_1 : Int) : List Ob :=
  [⟨6, 0, false, (Fld.rows v1_0).flatten⟩]
def Q7e (n0 : Nat) (p1 : Int) (v1_0 : List Fld) (v1_1 : Int) : En := .loop 1 Ir.Qce Ir.Q13r (Qel n0 p1 v1_0 v1_1) (Q94 n0 p1 v1_0 v1_1)
def Qh1 (_n0 : Nat) (_p1 : Int) (q0 : List Fld) (z : Nat → PV) (_zo : Nat → List PV) : St :=
  ⟨[z 0, z 1, z 2, z 3, z 4, z 5, z 6, z 7, z 8, z 9, z 10, z 11, z 12, z 13, z 14, z 15, z 16, z 17, z 18, z 19, z 20, z 21, z 22, z 23, z 24, z 25, z 26, z 27, z 28, z 29, z 30, z 31, z 32, z 33, z 34, z 35, z 36, z 37, z 38, z 39, z 40, z 41, z 42, z 43, z 44, z 45, z 46, z 47, z 48, z 49, z 50, z 51, z 52, z 53, z 54, z 55, z 56, z 57, z 58, z 59, z 60, z 61, z 62], [(0, ⟨6, 0, false, (Fld.rows q0).flatten⟩)], 193⟩
theorem Qlx (n0 : Nat) (p1 : Int) (v1_0 : List Fld) (v1_1 : Int) : VOK (Go.Pv.look (number 0 (Q94 n0 p1 v1_0 v1_1))) [(0, Fld.rows v1_0)] := (VOK.cons (show Seen _ _ from Q4n (ob := ⟨6, 0, false, (Fld.rows v1_0).flatten⟩) (Fld.Q5 v1_0 6 rfl)) VOK.nil)
def Qc6 (n0 : Nat) (p1 : Int) (e : En) (q : List Fld) : Prop := ∃ z zo, Q7 G e (.st (.exit 2) (Qh1 n0 p1 q z zo))
theorem Q91 (n0 : Nat) (p1 : Int) {e e' : En} (h : ∀ r, Q7 G e r → Q7 G e' r) : ∀ q, Qc6 n0 p1 e q → Qc6 n0 p1 e' q
  | _, ⟨z, zo, hz⟩ => ⟨z, zo, h _ hz⟩
theorem Qxt (n0 : Nat) (p1 : Int) (v1_0 : List Fld) (v1_1 : Int) (ho1_0 : 20 ≤ v1_1) (ho1_1 : p1 = n0) (ho1_2 : (n0 : Int) ≤ 1152921504606846976) (ho1_3 : List.length v1_0 = n0) (h0 : (decide (v1_1 < p1)) = true) (z1 : Nat → PV) (zo1 : Nat → List PV) (hl1 : Q7 G (Q7f n0 p1 v1_0 0 (2 * v1_1) v1_1) (.st (.exit 4) (Q7c n0 p1 (Qc n0 p1 ((Int.toNat (p1 + 2 * v1_1 - (2 * v1_1))) + 1) v1_0 0 (2 * v1_1) v1_1).1 (Qc n0 p1 ((Int.toNat (p1 + 2 * v1_1 - (2 * v1_1))) + 1) v1_0 0 (2 * v1_1) v1_1).2.1 (Qc n0 p1 ((Int.toNat (p1 + 2 * v1_1 - (2 * v1_1))) + 1) v1_0 0 (2 * v1_1) v1_1).2.2 z1 zo1))) (h1 : (decide (((Qc n0 p1 ((Int.toNat (p1 + 2 * v1_1 - (2 * v1_1))) + 1) v1_0 0 (2 * v1_1) v1_1).2.2 + (Qc n0 p1 ((Int.toNat (p1 + 2 * v1_1 - (2 * v1_1))) + 1) v1_0 0 (2 * v1_1) v1_1).2.1) < p1)) = true) {r : Rs} (hr : Q7 G (Q7e n0 p1 (Q6 ((Int.toNat (p1 - (Qc n0 p1 ((Int.toNat (p1 + 2 * v1_1 - (2 * v1_1))) + 1) v1_0 0 (2 * v1_1) v1_1).2.2)) + 1) n0 (Qc n0 p1 ((Int.toNat (p1 + 2 * v1_1 - (2 * v1_1))) + 1) v1_0 0 (2 * v1_1) v1_1).1 (Qc n0 p1 ((Int.toNat (p1 + 2 * v1_1 - (2 * v1_1))) + 1) v1_0 0 (2 * v1_1) v1_1).2.2 ((Qc n0 p1 ((Int.toNat (p1 + 2 * v1_1 - (2 * v1_1))) + 1) v1_0 0 (2 * v1_1) v1_1).2.2 + (Qc n0 p1 ((Int.toNat (p1 + 2 * v1_1 - (2 * v1_1))) + 1) v1_0 0 (2 * v1_1) v1_1).2.1) p1) ((Qc n0 p1 ((Int.toNat (p1 + 2 * v1_1 - (2 * v1_1))) + 1) v1_0 0 (2 * v1_1) v1_1).2.1 * 2)) r) : Q7 G (Q7e n0 p1 v1_0 v1_1) r := by
 have e0 := of_decide_eq_true h0; have e1 := of_decide_eq_true h1
 exact Qb (Qlx n0 p1 v1_0 v1_1) (y := (Qel n0 p1 (Q6 ((Int.toNat (p1 - (Qc n0 p1 ((Int.toNat (p1 + 2 * v1_1 - (2 * v1_1))) + 1) v1_0 0 (2 * v1_1) v1_1).2.2)) + 1) n0 (Qc n0 p1 ((Int.toNat (p1 + 2 * v1_1 - (2 * v1_1))) + 1) v1_0 0 (2 * v1_1) v1_1).1 (Qc n0 p1 ((Int.toNat (p1 + 2 * v1_1 - (2 * v1_1))) + 1) v1_0 0 (2 * v1_1) v1_1).2.2 ((Qc n0 p1 ((Int.toNat (p1 + 2 * v1_1 - (2 * v1_1))) + 1) v1_0 0 (2 * v1_1) v1_1).2.2 + (Qc n0 p1 ((Int.toNat (p1 + 2 * v1_1 - (2 * v1_1))) + 1) v1_0 0 (2 * v1_1) v1_1).2.1) p1) ((Qc n0 p1 ((Int.toNat (p1 + 2 * v1_1 - (2 * v1_1))) + 1) v1_0 0 (2 * v1_1) v1_1).2.1 * 2), Q94 n0 p1 (Q6 ((Int.toNat (p1 - (Qc n0 p1 ((Int.toNat (p1 + 2 * v1_1 - (2 * v1_1))) + 1) v1_0 0 (2 * v1_1) v1_1).2.2)) + 1) n0 (Qc n0 p1 ((Int.toNat (p1 + 2 * v1_1 - (2 * v1_1))) + 1) v1_0 0 (2 * v1_1) v1_1).1 (Qc n0 p1 ((Int.toNat (p1 + 2 * v1_1 - (2 * v1_1))) + 1) v1_0 0 (2 * v1_1) v1_1).2.2 ((Qc n0 p1 ((Int.toNat (p1 + 2 * v1_1 - (2 * v1_1))) + 1) v1_0 0 (2 * v1_1) v1_1).2.2 + (Qc n0 p1 ((Int.toNat (p1 + 2 * v1_1 - (2 * v1_1))) + 1) v1_0 0 (2 * v1_1) v1_1).2.1) p1) ((Qc n0 p1 ((Int.toNat (p1 + 2 * v1_1 - (2 * v1_1))) + 1) v1_0 0 (2 * v1_1) v1_1).2.1 * 2))) [hB 2 h0, hP 1 (w_ok (2 * v1_1) (by omega)), hS 0 false (Fld.Q5 (Qc n0 p1 ((Int.toNat (p1 + 2 * v1_1 - (2 * v1_1))) + 1) v1_0 0 (2 * v1_1) v1_1).1 6 rfl), hP 4 (w_ok ((Qc n0 p1 ((Int.toNat (p1 + 2 * v1_1 - (2 * v1_1))) + 1) v1_0 0 (2 * v1_1) v1_1).2.2 + (Qc n0 p1 ((Int.toNat (p1 + 2 * v1_1 - (2 * v1_1))) + 1) v1_0 0 (2 * v1_1) v1_1).2.1) (by have f0 := (Q17 n0 p1 ((Int.toNat (p1 + 2 * v1_1 - (2 * v1_1))) + 1) v1_0 0 (2 * v1_1) v1_1 ho1_3); have g0 := Q2b n0 p1 ((Int.toNat (p1 + 2 * v1_1 - (2 * v1_1))) + 1) v1_0 0 (2 * v1_1) v1_1 (by omega) (by omega) (by omega) (by omega) (by omega) (by omega) (by omega) ho1_3 (by omega); omega)), hB 3 h1, hQ (Fld.Q5 (Q6 ((Int.toNat (p1 - (Qc n0 p1 ((Int.toNat (p1 + 2 * v1_1 - (2 * v1_1))) + 1) v1_0 0 (2 * v1_1) v1_1).2.2)) + 1) n0 (Qc n0 p1 ((Int.toNat (p1 + 2 * v1_1 - (2 * v1_1))) + 1) v1_0 0 (2 * v1_1) v1_1).1 (Qc n0 p1 ((Int.toNat (p1 + 2 * v1_1 - (2 * v1_1))) + 1) v1_0 0 (2 * v1_1) v1_1).2.2 ((Qc n0 p1 ((Int.toNat (p1 + 2 * v1_1 - (2 * v1_1))) + 1) v1_0 0 (2 * v1_1) v1_1).2.2 + (Qc n0 p1 ((Int.toNat (p1 + 2 * v1_1 - (2 * v1_1))) + 1) v1_0 0 (2 * v1_1) v1_1).2.1) p1) 6 rfl), hP 7 (w_ok ((Qc n0 p1 ((Int.toNat (p1 + 2 * v1_1 - (2 * v1_1))) + 1) v1_0 0 (2 * v1_1) v1_1).2.1 * 2) (by have f0 := (Qa ((Int.toNat (p1 - (Qc n0 p1 ((Int.toNat (p1 + 2 * v1_1 - (2 * v1_1))) + 1) v1_0 0 (2 * v1_1) v1_1).2.2)) + 1) n0 (Qc n0 p1 ((Int.toNat (p1 + 2 * v1_1 - (2 * v1_1))) + 1) v1_0 0 (2 * v1_1) v1_1).1 (Qc n0 p1 ((Int.toNat (p1 + 2 * v1_1 - (2 * v1_1))) + 1) v1_0 0 (2 * v1_1) v1_1).2.2 ((Qc n0 p1 ((Int.toNat (p1 + 2 * v1_1 - (2 * v1_1))) + 1) v1_0 0 (2 * v1_1) v1_1).2.2 + (Qc n0 p1 ((Int.toNat (p1 + 2 * v1_1 - (2 * v1_1))) + 1) v1_0 0 (2 * v1_1) v1_1).2.1) p1 (Q17 n0 p1 ((Int.toNat (p1 + 2 * v1_1 - (2 * v1_1))) + 1) v1_0 0 (2 * v1_1) v1_1 ho1_3)); have g0 := Q2b n0 p1 ((Int.toNat (p1 + 2 * v1_1 - (2 * v1_1))) + 1) v1_0 0 (2 * v1_1) v1_1 (by omega) (by omega) (by omega) (by omega) (by omega) (by omega) (by omega) ho1_3 (by omega); omega))] [aV [(0, Fld.rows (Qc n0 p1 ((Int.toNat (p1 + 2 * v1_1 - (2 * v1_1))) + 1) v1_0 0 (2 * v1_1) v1_1).1)] hl1, aV [(0, Fld.rows (Q6 ((Int.toNat (p1 - (Qc n0 p1 ((Int.toNat (p1 + 2 * v1_1 - (2 * v1_1))) + 1) v1_0 0 (2 * v1_1) v1_1).2.2)) + 1) n0 (Qc n0 p1 ((Int.toNat (p1 + 2 * v1_1 - (2 * v1_1))) + 1) v1_0 0 (2 * v1_1) v1_1).1 (Qc n0 p1 ((Int.toNat (p1 + 2 * v1_1 - (2 * v1_1))) + 1) v1_0 0 (2 * v1_1) v1_1).2.2 ((Qc n0 p1 ((Int.toNat (p1 + 2 * v1_1 - (2 * v1_1))) + 1) v1_0 0 (2 * v1_1) v1_1).2.2 + (Qc n0 p1 ((Int.toNat (p1 + 2 * v1_1 - (2 * v1_1))) + 1) v1_0 0 (2 * v1_1) v1_1).2.1) p1))] (Qef ((Int.toNat (p1 - (Qc n0 p1 ((Int.toNat (p1 + 2 * v1_1 - (2 * v1_1))) + 1) v1_0 0 (2 * v1_1) v1_1).2.2)) + 1) n0 (Qc n0 p1 ((Int.toNat (p1 + 2 * v1_1 - (2 * v1_1))) + 1) v1_0 0 (2 * v1_1) v1_1).1 (Qc n0 p1 ((Int.toNat (p1 + 2 * v1_1 - (2 * v1_1))) + 1) v1_0 0 (2 * v1_1) v1_1).2.2 ((Qc n0 p1 ((Int.toNat (p1 + 2 * v1_1 - (2 * v1_1))) + 1) v1_0 0 (2 * v1_1) v1_1).2.2 + (Qc n0 p1 ((Int.toNat (p1 + 2 * v1_1 - (2 * v1_1))) + 1) v1_0 0 (2 * v1_1) v1_1).2.1) p1 (Q17 n0 p1 ((Int.toNat (p1 + 2 * v1_1 - (2 * v1_1))) + 1) v1_0 0 (2 * v1_1) v1_1 ho1_3) (by have f0 := (Q17 n0 p1 ((Int.toNat (p1 + 2 * v1_1 - (2 * v1_1))) + 1) v1_0 0 (2 * v1_1) v1_1 ho1_3); have g0 := Q2b n0 p1 ((Int.toNat (p1 + 2 * v1_1 - (2 * v1_1))) + 1) v1_0 0 (2 * v1_1) v1_1 (by omega) (by omega) (by omega) (by omega) (by omega) (by omega) (by omega) ho1_3 (by omega); omega) (by omega))] (by kernel_rfl) hr
theorem Qx8 (n0 : Nat) (p1 : Int) (v1_0 : List Fld) (v1_1 : Int) (ho1_0 : 20 ≤ v1_1) (ho1_1 : p1 = n0) (ho1_2 : (n0 : Int) ≤ 1152921504606846976) (ho1_3 : List.length v1_0 = n0) (h0 : (decide (v1_1 < p1)) = true) (z1 : Nat → PV) (zo1 : Nat → List PV) (hl1 : Q7 G (Q7f n0 p1 v1_0 0 (2 * v1_1) v1_1) (.st (.exit 4) (Q7c n0 p1 (Qc n0 p1 ((Int.toNat (p1 + 2 * v1_1 - (2 * v1_1))) + 1) v1_0 0 (2 * v1_1) v1_1).1 (Qc n0 p1 ((Int.toNat (p1 + 2 * v1_1 - (2 * v1_1))) + 1) v1_0 0 (2 * v1_1) v1_1).2.1 (Qc n0 p1 ((Int.toNat (p1 + 2 * v1_1 - (2 * v1_1))) + 1) v1_0 0 (2 * v1_1) v1_1).2.2 z1 zo1))) (h1 : (decide (((Qc n0 p1 ((Int.toNat (p1 + 2 * v1_1 - (2 * v1_1))) + 1) v1_0 0 (2 * v1_1) v1_1).2.2 + (Qc n0 p1 ((Int.toNat (p1 + 2 * v1_1 - (2 * v1_1))) + 1) v1_0 0 (2 * v1_1) v1_1).2.1) < p1)) = false) {r : Rs} (hr : Q7 G (Q7e n0 p1 (Qc n0 p1 ((Int.toNat (p1 + 2 * v1_1 - (2 * v1_1))) + 1) v1_0 0 (2 * v1_1) v1_1).1 ((Qc n0 p1 ((Int.toNat (p1 + 2 * v1_1 - (2 * v1_1))) + 1) v1_0 0 (2 * v1_1) v1_1).2.1 * 2)) r) : Q7 G (Q7e n0 p1 v1_0 v1_1) r := by
 have e0 := of_decide_eq_true h0; have e1 := of_decide_eq_false h1
 exact Qb (Qlx n0 p1 v1_0 v1_1) (y := (Qel n0 p1 (Qc n0 p1 ((Int.toNat (p1 + 2 * v1_1 - (2 * v1_1))) + 1) v1_0 0 (2 * v1_1) v1_1).1 ((Qc n0 p1 ((Int.toNat (p1 + 2 * v1_1 - (2 * v1_1))) + 1) v1_0 0 (2 * v1_1) v1_1).2.1 * 2), Q94 n0 p1 (Qc n0 p1 ((Int.toNat (p1 + 2 * v1_1 - (2 * v1_1))) + 1) v1_0 0 (2 * v1_1) v1_1).1 ((Qc n0 p1 ((Int.toNat (p1 + 2 * v1_1 - (2 * v1_1))) + 1) v1_0 0 (2 * v1_1) v1_1).2.1 * 2))) [hB 2 h0, hP 1 (w_ok (2 * v1_1) (by omega)), hS 0 false (Fld.Q5 (Qc n0 p1 ((Int.toNat (p1 + 2 * v1_1 - (2 * v1_1))) + 1) v1_0 0 (2 * v1_1) v1_1).1 6 rfl), hP 4 (w_ok ((Qc n0 p1 ((Int.toNat (p1 + 2 * v1_1 - (2 * v1_1))) + 1) v1_0 0 (2 * v1_1) v1_1).2.2 + (Qc n0 p1 ((Int.toNat (p1 + 2 * v1_1 - (2 * v1_1))) + 1) v1_0 0 (2 * v1_1) v1_1).2.1) (by have f0 := (Q17 n0 p1 ((Int.toNat (p1 + 2 * v1_1 - (2 * v1_1))) + 1) v1_0 0 (2 * v1_1) v1_1 ho1_3); have g0 := Q2b n0 p1 ((Int.toNat (p1 + 2 * v1_1 - (2 * v1_1))) + 1) v1_0 0 (2 * v1_1) v1_1 (by omega) (by omega) (by omega) (by omega) (by omega) (by omega) (by omega) ho1_3 (by omega); omega)), hB 3 h1, hP 1 (w_ok ((Qc n0 p1 ((Int.toNat (p1 + 2 * v1_1 - (2 * v1_1))) + 1) v1_0 0 (2 * v1_1) v1_1).2.1 * 2) (by have f0 := (Q17 n0 p1 ((Int.toNat (p1 + 2 * v1_1 - (2 * v1_1))) + 1) v1_0 0 (2 * v1_1) v1_1 ho1_3); have g0 := Q2b n0 p1 ((Int.toNat (p1 + 2 * v1_1 - (2 * v1_1))) + 1) v1_0 0 (2 * v1_1) v1_1 (by omega) (by omega) (by omega) (by omega) (by omega) (by omega) (by omega) ho1_3 (by omega); omega))] [aV [(0, Fld.rows (Qc n0 p1 ((Int.toNat (p1 + 2 * v1_1 - (2 * v1_1))) + 1) v1_0 0 (2 * v1_1) v1_1).1)] hl1] (by kernel_rfl) hr
def Qjs (n0 : Nat) (p1 : Int) (_v1_0 : List Fld) (v1_1 : Int) : List PV :=
  [.ms 0 6 0 n0, .int .i64 p1, .fn 43 [] [], .un, .un, .un, .int .i64 v1_1, .un, .un, .un, .un, .un, .un, .un, .un, .un, .un, .un, .un, .un, .un, .un, .un, .un, .un, .un, .un, .un, .int .i64 v1_1, .int .i64 p1, .bool false]
def Qeo (_n0 : Nat) (_p1 : Int) (_v1_0 : List Fld) (_v1_1 : Int) : List (Nat × List PV) :=
  []
theorem Qwl (n0 : Nat) (p1 : Int) (v1_0 : List Fld) (v1_1 : Int) (_ho1_0 : 20 ≤ v1_1) (_ho1_1 : p1 = n0) (_ho1_2 : (n0 : Int) ≤ 1152921504606846976) (_ho1_3 : List.length v1_0 = n0) (h0 : (decide (v1_1 < p1)) = false) : Qc6 n0 p1 (Q7e n0 p1 v1_0 v1_1) v1_0 := by
 exact ⟨(envF (Qjs n0 p1 v1_0 v1_1)), (zoF (Qeo n0 p1 v1_0 v1_1)), Qe (Qlx n0 p1 v1_0 v1_1) (x := ((.exit 2), Qh1 n0 p1 v1_0 (envF (Qjs n0 p1 v1_0 v1_1)) (zoF (Qeo n0 p1 v1_0 v1_1)))) [hB 2 h0] [] (by kernel_rfl)⟩
theorem Qgd (n0 : Nat) (p1 : Int) : ∀ (k1 : Nat) (v1_0 : List Fld) (v1_1 : Int), 20 ≤ v1_1 → p1 = n0 → (n0 : Int) ≤ 1152921504606846976 → List.length v1_0 = n0 → Int.toNat (p1 - v1_1) < k1 → Qc6 n0 p1 (Q7e n0 p1 v1_0 v1_1) (Q2r n0 p1 k1 v1_0 v1_1)
 | 0, v1_0, v1_1, _, _, _, _, hm => absurd hm (Nat.not_lt_zero _)
 | k1 + 1, v1_0, v1_1, ho1_0, ho1_1, ho1_2, ho1_3, hm => by
  rw [Q2r]
  cases h0 : (decide (v1_1 < p1)) with
  | true =>
   have e0 := of_decide_eq_true h0
   have hl1 := Qnf n0 p1 ((Int.toNat (p1 + 2 * v1_1 - (2 * v1_1))) + 1) v1_0 0 (2 * v1_1) v1_1 (by omega) (by omega) (by omega) (by omega) (by omega) (by omega) (by omega) ho1_3 (by omega)
   obtain ⟨z1, zo1, hl1⟩ := hl1
   cases h1 : (decide (((Qc n0 p1 ((Int.toNat (p1 + 2 * v1_1 - (2 * v1_1))) + 1) v1_0 0 (2 * v1_1) v1_1).2.2 + (Qc n0 p1 ((Int.toNat (p1 + 2 * v1_1 - (2 * v1_1))) + 1) v1_0 0 (2 * v1_1) v1_1).2.1) < p1)) with
   | true =>
    have e1 := of_decide_eq_true h1
    exact Q91 n0 p1 (fun r hr => Qxt n0 p1 v1_0 v1_1 ho1_0 ho1_1 ho1_2 ho1_3 h0 z1 zo1 hl1 h1 hr) _ (Qgd n0 p1 k1 (Q6 ((Int.toNat (p1 - (Qc n0 p1 ((Int.toNat (p1 + 2 * v1_1 - (2 * v1_1))) + 1) v1_0 0 (2 * v1_1) v1_1).2.2)) + 1) n0 (Qc n0 p1 ((Int.toNat (p1 + 2 * v1_1 - (2 * v1_1))) + 1) v1_0 0 (2 * v1_1) v1_1).1 (Qc n0 p1 ((Int.toNat (p1 + 2 * v1_1 - (2 * v1_1))) + 1) v1_0 0 (2 * v1_1) v1_1).2.2 ((Qc n0 p1 ((Int.toNat (p1 + 2 * v1_1 - (2 * v1_1))) + 1) v1_0 0 (2 * v1_1) v1_1).2.2 + (Qc n0 p1 ((Int.toNat (p1 + 2 * v1_1 - (2 * v1_1))) + 1) v1_0 0 (2 * v1_1) v1_1).2.1) p1) ((Qc n0 p1 ((Int.toNat (p1 + 2 * v1_1 - (2 * v1_1))) + 1) v1_0 0 (2 * v1_1) v1_1).2.1 * 2) (by have f0 := (Qa ((Int.toNat (p1 - (Qc n0 p1 ((Int.toNat (p1 + 2 * v1_1 - (2 * v1_1))) + 1) v1_0 0 (2 * v1_1) v1_1).2.2)) + 1) n0 (Qc n0 p1 ((Int.toNat (p1 + 2 * v1_1 - (2 * v1_1))) + 1) v1_0 0 (2 * v1_1) v1_1).1 (Qc n0 p1 ((Int.toNat (p1 + 2 * v1_1 - (2 * v1_1))) + 1) v1_0 0 (2 * v1_1) v1_1).2.2 ((Qc n0 p1 ((Int.toNat (p1 + 2 * v1_1 - (2 * v1_1))) + 1) v1_0 0 (2 * v1_1) v1_1).2.2 + (Qc n0 p1 ((Int.toNat (p1 + 2 * v1_1 - (2 * v1_1))) + 1) v1_0 0 (2 * v1_1) v1_1).2.1) p1 (Q17 n0 p1 ((Int.toNat (p1 + 2 * v1_1 - (2 * v1_1))) + 1) v1_0 0 (2 * v1_1) v1_1 ho1_3)); have g0 := Q2b n0 p1 ((Int.toNat (p1 + 2 * v1_1 - (2 * v1_1))) + 1) v1_0 0 (2 * v1_1) v1_1 (by omega) (by omega) (by omega) (by omega) (by omega) (by omega) (by omega) ho1_3 (by omega); omega) (by have f0 := (Qa ((Int.toNat (p1 - (Qc n0 p1 ((Int.toNat (p1 + 2 * v1_1 - (2 * v1_1))) + 1) v1_0 0 (2 * v1_1) v1_1).2.2)) + 1) n0 (Qc n0 p1 ((Int.toNat (p1 + 2 * v1_1 - (2 * v1_1))) + 1) v1_0 0 (2 * v1_1) v1_1).1 (Qc n0 p1 ((Int.toNat (p1 + 2 * v1_1 - (2 * v1_1))) + 1) v1_0 0 (2 * v1_1) v1_1).2.2 ((Qc n0 p1 ((Int.toNat (p1 + 2 * v1_1 - (2 * v1_1))) + 1) v1_0 0 (2 * v1_1) v1_1).2.2 + (Qc n0 p1 ((Int.toNat (p1 + 2 * v1_1 - (2 * v1_1))) + 1) v1_0 0 (2 * v1_1) v1_1).2.1) p1 (Q17 n0 p1 ((Int.toNat (p1 + 2 * v1_1 - (2 * v1_1))) + 1) v1_0 0 (2 * v1_1) v1_1 ho1_3)); have g0 := Q2b n0 p1 ((Int.toNat (p1 + 2 * v1_1 - (2 * v1_1))) + 1) v1_0 0 (2 * v1_1) v1_1 (by omega) (by omega) (by omega) (by omega) (by omega) (by omega) (by omega) ho1_3 (by omega); omega) (by have f0 := (Qa ((Int.toNat (p1 - (Qc n0 p1 ((Int.toNat (p1 + 2 * v1_1 - (2 * v1_1))) + 1) v1_0 0 (2 * v1_1) v1_1).2.2)) + 1) n0 (Qc n0 p1 ((Int.toNat (p1 + 2 * v1_1 - (2 * v1_1))) + 1) v1_0 0 (2 * v1_1) v1_1).1 (Qc n0 p1 ((Int.toNat (p1 + 2 * v1_1 - (2 * v1_1))) + 1) v1_0 0 (2 * v1_1) v1_1).2.2 ((Qc n0 p1 ((Int.toNat (p1 + 2 * v1_1 - (2 * v1_1))) + 1) v1_0 0 (2 * v1_1) v1_1).2.2 + (Qc n0 p1 ((Int.toNat (p1 + 2 * v1_1 - (2 * v1_1))) + 1) v1_0 0 (2 * v1_1) v1_1).2.1) p1 (Q17 n0 p1 ((Int.toNat (p1 + 2 * v1_1 - (2 * v1_1))) + 1) v1_0 0 (2 * v1_1) v1_1 ho1_3)); have g0 := Q2b n0 p1 ((Int.toNat (p1 + 2 * v1_1 - (2 * v1_1))) + 1) v1_0 0 (2 * v1_1) v1_1 (by omega) (by omega) (by omega) (by omega) (by omega) (by omega) (by omega) ho1_3 (by omega); omega) (Qa ((Int.toNat (p1 - (Qc n0 p1 ((Int.toNat (p1 + 2 * v1_1 - (2 * v1_1))) + 1) v1_0 0 (2 * v1_1) v1_1).2.2)) + 1) n0 (Qc n0 p1 ((Int.toNat (p1 + 2 * v1_1 - (2 * v1_1))) + 1) v1_0 0 (2 * v1_1) v1_1).1 (Qc n0 p1 ((Int.toNat (p1 + 2 * v1_1 - (2 * v1_1))) + 1) v1_0 0 (2 * v1_1) v1_1).2.2 ((Qc n0 p1 ((Int.toNat (p1 + 2 * v1_1 - (2 * v1_1))) + 1) v1_0 0 (2 * v1_1) v1_1).2.2 + (Qc n0 p1 ((Int.toNat (p1 + 2 * v1_1 - (2 * v1_1))) + 1) v1_0 0 (2 * v1_1) v1_1).2.1) p1 (Q17 n0 p1 ((Int.toNat (p1 + 2 * v1_1 - (2 * v1_1))) + 1) v1_0 0 (2 * v1_1) v1_1 ho1_3)) (by have f0 := (Qa ((Int.toNat (p1 - (Qc n0 p1 ((Int.toNat (p1 + 2 * v1_1 - (2 * v1_1))) + 1) v1_0 0 (2 * v1_1) v1_1).2.2)) + 1) n0 (Qc n0 p1 ((Int.toNat (p1 + 2 * v1_1 - (2 * v1_1))) + 1) v1_0 0 (2 * v1_1) v1_1).1 (Qc n0 p1 ((Int.toNat (p1 + 2 * v1_1 - (2 * v1_1))) + 1) v1_0 0 (2 * v1_1) v1_1).2.2 ((Qc n0 p1 ((Int.toNat (p1 + 2 * v1_1 - (2 * v1_1))) + 1) v1_0 0 (2 * v1_1) v1_1).2.2 + (Qc n0 p1 ((Int.toNat (p1 + 2 * v1_1 - (2 * v1_1))) + 1) v1_0 0 (2 * v1_1) v1_1).2.1) p1 (Q17 n0 p1 ((Int.toNat (p1 + 2 * v1_1 - (2 * v1_1))) + 1) v1_0 0 (2 * v1_1) v1_1 ho1_3)); have g0 := Q2b n0 p1 ((Int.toNat (p1 + 2 * v1_1 - (2 * v1_1))) + 1) v1_0 0 (2 * v1_1) v1_1 (by omega) (by omega) (by omega) (by omega) (by omega) (by omega) (by omega) ho1_3 (by omega); omega))
   | false =>
    have e1 := of_decide_eq_false h1
    exact Q91 n0 p1 (fun r hr => Qx8 n0 p1 v1_0 v1_1 ho1_0 ho1_1 ho1_2 ho1_3 h0 z1 zo1 hl1 h1 hr) _ (Qgd n0 p1 k1 (Qc n0 p1 ((Int.toNat (p1 + 2 * v1_1 - (2 * v1_1))) + 1) v1_0 0 (2 * v1_1) v1_1).1 ((Qc n0 p1 ((Int.toNat (p1 + 2 * v1_1 - (2 * v1_1))) + 1) v1_0 0 (2 * v1_1) v1_1).2.1 * 2) (by have f0 := (Q17 n0 p1 ((Int.toNat (p1 + 2 * v1_1 - (2 * v1_1))) + 1) v1_0 0 (2 * v1_1) v1_1 ho1_3); have g0 := Q2b n0 p1 ((Int.toNat (p1 + 2 * v1_1 - (2 * v1_1))) + 1) v1_0 0 (2 * v1_1) v1_1 (by omega) (by omega) (by omega) (by omega) (by omega) (by omega) (by omega) ho1_3 (by omega); omega) (by have f0 := (Q17 n0 p1 ((Int.toNat (p1 + 2 * v1_1 - (2 * v1_1))) + 1) v1_0 0 (2 * v1_1) v1_1 ho1_3); have g0 := Q2b n0 p1 ((Int.toNat (p1 + 2 * v1_1 - (2 * v1_1))) + 1) v1_0 0 (2 * v1_1) v1_1 (by omega) (by omega) (by omega) (by omega) (by omega) (by omega) (by omega) ho1_3 (by omega); omega) (by have f0 := (Q17 n0 p1 ((Int.toNat (p1 + 2 * v1_1 - (2 * v1_1))) + 1) v1_0 0 (2 * v1_1) v1_1 ho1_3); have g0 := Q2b n0 p1 ((Int.toNat (p1 + 2 * v1_1 - (2 * v1_1))) + 1) v1_0 0 (2 * v1_1) v1_1 (by omega) (by omega) (by omega) (by omega) (by omega) (by omega) (by omega) ho1_3 (by omega); omega) (Q17 n0 p1 ((Int.toNat (p1 + 2 * v1_1 - (2 * v1_1))) + 1) v1_0 0 (2 * v1_1) v1_1 ho1_3) (by have f0 := (Q17 n0 p1 ((Int.toNat (p1 + 2 * v1_1 - (2 * v1_1))) + 1) v1_0 0 (2 * v1_1) v1_1 ho1_3); have g0 := Q2b n0 p1 ((Int.toNat (p1 + 2 * v1_1 - (2 * v1_1))) + 1) v1_0 0 (2 * v1_1) v1_1 (by omega) (by omega) (by omega) (by omega) (by omega) (by omega) (by omega) ho1_3 (by omega); omega))
  | false =>
   exact Qwl n0 p1 v1_0 v1_1 ho1_0 ho1_1 ho1_2 ho1_3 h0
theorem Q5r (n0 : Nat) (p1 : Int) : ∀ (k1 : Nat) (v1_0 : List Fld) (v1_1 : Int), List.length v1_0 = n0 → List.length (Q2r n0 p1 k1 v1_0 v1_1) = n0
 | 0, v1_0, v1_1, ho1_3 => by rw [Q2r]; exact ho1_3
 | k1 + 1, v1_0, v1_1, ho1_3 => by
  rw [Q2r]
  cases h0 : (decide (v1_1 < p1)) with
  | true =>
   cases h1 : (decide (((Qc n0 p1 ((Int.toNat (p1 + 2 * v1_1 - (2 * v1_1))) + 1) v1_0 0 (2 * v1_1) v1_1).2.2 + (Qc n0 p1 ((Int.toNat (p1 + 2 * v1_1 - (2 * v1_1))) + 1) v1_0 0 (2 * v1_1) v1_1).2.1) < p1)) with
   | true =>
    exact Q5r n0 p1 k1 (Q6 ((Int.toNat (p1 - (Qc n0 p1 ((Int.toNat (p1 + 2 * v1_1 - (2 * v1_1))) + 1) v1_0 0 (2 * v1_1) v1_1).2.2)) + 1) n0 (Qc n0 p1 ((Int.toNat (p1 + 2 * v1_1 - (2 * v1_1))) + 1) v1_0 0 (2 * v1_1) v1_1).1 (Qc n0 p1 ((Int.toNat (p1 + 2 * v1_1 - (2 * v1_1))) + 1) v1_0 0 (2 * v1_1) v1_1).2.2 ((Qc n0 p1 ((Int.toNat (p1 + 2 * v1_1 - (2 * v1_1))) + 1) v1_0 0 (2 * v1_1) v1_1).2.2 + (Qc n0 p1 ((Int.toNat (p1 + 2 * v1_1 - (2 * v1_1))) + 1) v1_0 0 (2 * v1_1) v1_1).2.1) p1) ((Qc n0 p1 ((Int.toNat (p1 + 2 * v1_1 - (2 * v1_1))) + 1) v1_0 0 (2 * v1_1) v1_1).2.1 * 2) (Qa ((Int.toNat (p1 - (Qc n0 p1 ((Int.toNat (p1 + 2 * v1_1 - (2 * v1_1))) + 1) v1_0 0 (2 * v1_1) v1_1).2.2)) + 1) n0 (Qc n0 p1 ((Int.toNat (p1 + 2 * v1_1 - (2 * v1_1))) + 1) v1_0 0 (2 * v1_1) v1_1).1 (Qc n0 p1 ((Int.toNat (p1 + 2 * v1_1 - (2 * v1_1))) + 1) v1_0 0 (2 * v1_1) v1_1).2.2 ((Qc n0 p1 ((Int.toNat (p1 + 2 * v1_1 - (2 * v1_1))) + 1) v1_0 0 (2 * v1_1) v1_1).2.2 + (Qc n0 p1 ((Int.toNat (p1 + 2 * v1_1 - (2 * v1_1))) + 1) v1_0 0 (2 * v1_1) v1_1).2.1) p1 (Q17 n0 p1 ((Int.toNat (p1 + 2 * v1_1 - (2 * v1_1))) + 1) v1_0 0 (2 * v1_1) v1_1 ho1_3))
   | false =>
    exact Q5r n0 p1 k1 (Qc n0 p1 ((Int.toNat (p1 + 2 * v1_1 - (2 * v1_1))) + 1) v1_0 0 (2 * v1_1) v1_1).1 ((Qc n0 p1 ((Int.toNat (p1 + 2 * v1_1 - (2 * v1_1))) + 1) v1_0 0 (2 * v1_1) v1_1).2.1 * 2) (Q17 n0 p1 ((Int.toNat (p1 + 2 * v1_1 - (2 * v1_1))) + 1) v1_0 0 (2 * v1_1) v1_1 ho1_3)
  | false =>
   exact ho1_3
def Q3e (n0 : Nat) (p0 : List Fld) (p1 : Int) : List Fld :=
 (Q2r n0 p1 ((Int.toNat (p1 - 20)) + 1) (Q19 n0 (Q20 n0 p1 ((Int.toNat (p1 + 20 - 20)) + 1) p0 0 20).1 (Q20 n0 p1 ((Int.toNat (p1 + 20 - 20)) + 1) p0 0 20).2 p1) 20)
def Qy2 (n0 : Nat) (p0 : List Fld) (p1 : Int) : En := .call 53 [.ms 0 6 0 n0, .int .i64 p1, .fn 43 [] []] [⟨6, 0, false, (Fld.rows p0).flatten⟩]
def Qmw (n0 : Nat) (p0 : List Fld) (p1 : Int) : Rs := .ret (.tup []) [⟨6, 0, false, (Fld.rows (Q3e n0 p0 p1)).flatten⟩]
theorem Qpj (n0 : Nat) (p0 : List Fld) (p1 : Int) (hn : List.length p0 = n0) : List.length (Q3e n0 p0 p1) = n0 := by
 unfold Q3e
 have hz0_0 : List.length (Q20 n0 p1 ((Int.toNat (p1 + 20 - 20)) + 1) p0 0 20).1 = n0 := Q83 n0 p1 ((Int.toNat (p1 + 20 - 20)) + 1) p0 0 20 hn
 obtain ⟨R8, eR8⟩ : ∃ R, (Q20 n0 p1 ((Int.toNat (p1 + 20 - 20)) + 1) p0 0 20) = R := ⟨_, rfl⟩
 rw [eR8] at hz0_0 ⊢
 have hz1_0 : List.length (Q2r n0 p1 ((Int.toNat (p1 - 20)) + 1) (Q19 n0 R8.1 R8.2 p1) 20) = n0 := Q5r n0 p1 ((Int.toNat (p1 - 20)) + 1) (Q19 n0 R8.1 R8.2 p1) 20 (Qu n0 R8.1 R8.2 p1 hz0_0)
 obtain ⟨R9, eR9⟩ : ∃ R, (Q2r n0 p1 ((Int.toNat (p1 - 20)) + 1) (Q19 n0 R8.1 R8.2 p1) 20) = R := ⟨_, rfl⟩
 rw [eR9] at hz1_0 ⊢
 exact hz1_0
theorem Q11s (n0 : Nat) (p0 : List Fld) (p1 : Int) (hn : List.length p0 = n0) (hq0 : 0 ≤ p1 ∧ p1 = n0 ∧ (n0 : Int) ≤ 1152921504606846976) : Q7 G (Qy2 n0 p0 p1) (Qmw n0 p0 p1) := by
 unfold Qmw Q3e
 have hl0 := Qnk n0 p1 ((Int.toNat (p1 + 20 - 20)) + 1) p0 0 20 (by omega) (by omega) (by omega) (by omega) (by omega) hn (by omega)
 have hz0_0 : List.length (Q20 n0 p1 ((Int.toNat (p1 + 20 - 20)) + 1) p0 0 20).1 = n0 := Q83 n0 p1 ((Int.toNat (p1 + 20 - 20)) + 1) p0 0 20 hn
 have hy0 : 0 ≤ (Q20 n0 p1 ((Int.toNat (p1 + 20 - 20)) + 1) p0 0 20).2 ∧ (Q20 n0 p1 ((Int.toNat (p1 + 20 - 20)) + 1) p0 0 20).2 ≤ n0 := Qn2 n0 p1 ((Int.toNat (p1 + 20 - 20)) + 1) p0 0 20 (by omega) (by omega) (by omega) (by omega) (by omega) hn (by omega)
 obtain ⟨R8, eR8⟩ : ∃ R, (Q20 n0 p1 ((Int.toNat (p1 + 20 - 20)) + 1) p0 0 20) = R := ⟨_, rfl⟩
 rw [eR8] at hz0_0 hy0 hl0 ⊢
 obtain ⟨z0, zo0, hl0⟩ := hl0
 have hl1 := Qgd n0 p1 ((Int.toNat (p1 - 20)) + 1) (Q19 n0 R8.1 R8.2 p1) 20 (by have f0 := (Qu n0 R8.1 R8.2 p1 hz0_0); have g0 := hy0; omega) (by have f0 := (Qu n0 R8.1 R8.2 p1 hz0_0); have g0 := hy0; omega) (by have f0 := (Qu n0 R8.1 R8.2 p1 hz0_0); have g0 := hy0; omega) (Qu n0 R8.1 R8.2 p1 hz0_0) (by omega)
 have hz1_0 : List.length (Q2r n0 p1 ((Int.toNat (p1 - 20)) + 1) (Q19 n0 R8.1 R8.2 p1) 20) = n0 := Q5r n0 p1 ((Int.toNat (p1 - 20)) + 1) (Q19 n0 R8.1 R8.2 p1) 20 (Qu n0 R8.1 R8.2 p1 hz0_0)
 obtain ⟨R9, eR9⟩ : ∃ R, (Q2r n0 p1 ((Int.toNat (p1 - 20)) + 1) (Q19 n0 R8.1 R8.2 p1) 20) = R := ⟨_, rfl⟩
 rw [eR9] at hz1_0 hl1 ⊢
 obtain ⟨z1, zo1, hl1⟩ := hl1
 exact Q8 (fn := Ir.K1d) rfl (vk1 (Fld.Q5 p0 6 rfl)) [hS 0 false (Fld.Q5 R8.1 6 rfl), hQ (Fld.Q5 (Q19 n0 R8.1 R8.2 p1) 6 rfl), hS 0 false (Fld.Q5 R9 6 rfl)] [aV [(0, Fld.rows R8.1)] hl0, aV [(0, Fld.rows (Q19 n0 R8.1 R8.2 p1))] (Qok n0 R8.1 R8.2 p1 hz0_0 (by have g0 := hy0; omega)), aV [(0, Fld.rows R9)] hl1] (by kernel_rfl)
def Qk (n0 : Nat) (p0 : List Fld) : List Fld :=
 (Q3e n0 p0 (n0 : Int))
def Qzb (n0 : Nat) (p0 : List Fld) : En := .call 42 [.ms 0 6 0 n0, .fn 43 [] []] [⟨6, 0, false, (Fld.rows p0).flatten⟩]
def Qpy (n0 : Nat) (p0 : List Fld) : Rs := .ret (.tup []) [⟨6, 0, false, (Fld.rows (Qk n0 p0)).flatten⟩]
theorem Q1i (n0 : Nat) (p0 : List Fld) (hn : List.length p0 = n0) : List.length (Qk n0 p0) = n0 := by
 unfold Qk
 exact (Qpj n0 p0 (n0 : Int) hn)
theorem Q10a (n0 : Nat) (p0 : List Fld) (hn : List.length p0 = n0) (hq0 : (n0 : Int) ≤ 1152921504606846976) : Q7 G (Qzb n0 p0) (Qpy n0 p0) := by
 unfold Qpy Qk
 exact Q8 (fn := Ir.K1a) rfl (vk1 (Fld.Q5 p0 6 rfl)) [hQ (Fld.Q5 (Q3e n0 p0 (n0 : Int)) 6 rfl)] [aV [(0, Fld.rows (Q3e n0 p0 (n0 : Int)))] (Q11s n0 p0 (n0 : Int) hn (by omega))] (by kernel_rfl)
def Q26 (p0 : List Fld) : List Fld → Nat → (List Fld) → List Fld
 | [], _i0, v0_1 =>
  v0_1
 | x0 :: r0, i0, v0_1 =>
  bif (((i0 + 1 : Nat) : Int) == ((List.length p0) : Int)) then
   Q26 p0 r0 (i0 + 1) (v0_1 ++ [x0])
  else
   bif (sEq (List.getD (Qk (List.length p0) p0) (Int.toNat ((i0 + 1 : Nat) : Int)) zF).name x0.name) then
    Q26 p0 r0 (i0 + 1) v0_1
   else
    Q26 p0 r0 (i0 + 1) (v0_1 ++ [x0])
def Q97 (p0 : List Fld) (i0 : Nat) (_v0_1 : List Fld) : List PV :=
  [.un, .un, .bx 0 0, .ms 1 6 0 (List.length p0), .bx 2 0, .un, .un, .un, .un, .un, .un, .un, .ms 1 6 0 (List.length p0), .int .i64 ((List.length p0) : Int), .int .i64 (i0 : Int), .un, .un, .un, .un, .un, .un, .un, .un, .un, .un, .un, .un, .un, .un, .un, .un, .un, .un, .un, .un, .un, .un, .un, .un, .un, .un, .un, .un, .un]
def Q6l (p0 : List Fld) (_i0 : Nat) (v0_1 : List Fld) : List Ob :=
  [⟨5, 0, true, [.int .i64 0, .int .i64 0, .str (⟨#[]⟩ : ByteArray), .ms 3 5 0 0, .ms 4 6 0 0]⟩, ⟨6, 0, false, (Fld.rows (Qk (List.length p0) p0)).flatten⟩, ⟨5, 0, true, [.int .i64 5, .int .i64 0, .str (⟨#[]⟩ : ByteArray), .ms 5 5 0 0, .ms 6 6 0 (List.length v0_1)]⟩, ⟨5, 0, true, []⟩, ⟨6, 0, true, []⟩, ⟨5, 0, true, []⟩, ⟨6, 0, true, (Fld.rows v0_1).flatten⟩]
def Q4t (p0 : List Fld) (i0 : Nat) (v0_1 : List Fld) : En := .loop 0 Ir.Qfk Ir.Q13y (Q97 p0 i0 v0_1) (Q6l p0 i0 v0_1)
def Qil (p0 : List Fld) (q0 : List Fld) (z : Nat → PV) (_zo : Nat → List PV) : St :=
  ⟨[z 0, z 1, .bx 0 0, z 3, .bx 2 0, z 5, z 6, z 7, z 8, z 9, z 10, z 11, z 12, z 13, z 14, z 15, z 16, z 17, z 18, z 19, z 20, z 21, z 22, z 23, z 24, z 25, z 26, z 27, z 28, z 29, z 30, z 31, z 32, z 33, z 34, z 35, z 36, z 37, z 38, z 39, z 40, z 41, z 42, z 43], [(0, ⟨5, 0, true, [.int .i64 0, .int .i64 0, .str (⟨#[]⟩ : ByteArray), .ms 3 5 0 0, .ms 4 6 0 0]⟩), (1, ⟨6, 0, false, (Fld.rows (Qk (List.length p0) p0)).flatten⟩), (2, ⟨5, 0, true, [.int .i64 5, .int .i64 0, .str (⟨#[]⟩ : ByteArray), .ms 5 5 0 0, .ms 6 6 0 (List.length q0)]⟩), (3, ⟨5, 0, true, []⟩), (4, ⟨6, 0, true, []⟩), (5, ⟨5, 0, true, []⟩), (6, ⟨6, 0, true, (Fld.rows q0).flatten⟩)], 71⟩
theorem Qc5 (p0 : List Fld) (i0 : Nat) (v0_1 : List Fld) : VOK (Go.Pv.look (number 0 (Q6l p0 i0 v0_1))) [(1, Fld.rows (Qk (List.length p0) p0)), (6, Fld.rows v0_1)] := (VOK.cons (show Seen _ _ from Q4n (ob := ⟨6, 0, false, (Fld.rows (Qk (List.length p0) p0)).flatten⟩) (Fld.Q5 (Qk (List.length p0) p0) 6 rfl)) (VOK.cons (show Seen _ _ from Q4n (ob := ⟨6, 0, true, (Fld.rows v0_1).flatten⟩) (Fld.Q5 v0_1 6 rfl)) VOK.nil))
def Qbx (p0 : List Fld) (e : En) (q : List Fld) : Prop := ∃ z zo, Q7 G e (.st (.exit 0) (Qil p0 q z zo))
theorem Q5v (p0 : List Fld) {e e' : En} (h : ∀ r, Q7 G e r → Q7 G e' r) : ∀ q, Qbx p0 e q → Qbx p0 e' q
  | _, ⟨z, zo, hz⟩ => ⟨z, zo, h _ hz⟩
def Q78 (p0 : List Fld) : Prop := (List.length (Qk (List.length p0) p0) ≤ 137438953472) ∧ True
def Qi8 (p0 : List Fld) (i0 : Nat) (_v0_1 : List Fld) : List PV :=
  [.un, .un, .un, .ms 1 6 0 (List.length p0), .un, .un, .un, .un, .un, .un, .un, .un, .ms 1 6 0 (List.length p0), .int .i64 ((List.length p0) : Int), .int .i64 (i0 : Int), .bool false]
def Qc8 (_p0 : List Fld) (_i0 : Nat) (_v0_1 : List Fld) : List (Nat × List PV) :=
  []
theorem Qv1 (p0 : List Fld) (_H : Q78 p0) (i0 : Nat) (v0_1 : List Fld) (_ho0_0 : List.length v0_1 ≤ i0) (hc0 : (decide ((i0 : Int) < ((List.length p0) : Int))) = false) : Qbx p0 (Q4t p0 i0 v0_1) v0_1 := by
 exact ⟨(envF (Qi8 p0 i0 v0_1)), (zoF (Qc8 p0 i0 v0_1)), Qe (Qc5 p0 i0 v0_1) (x := ((.exit 0), Qil p0 v0_1 (envF (Qi8 p0 i0 v0_1)) (zoF (Qc8 p0 i0 v0_1)))) [hB 0 hc0] [] (by kernel_rfl)⟩
theorem Qx7 (p0 : List Fld) (H : Q78 p0) (x0 : Fld) (i0 : Nat) (v0_1 : List Fld) (hx0 : (Qk (List.length p0) p0)[i0]? = some x0) (hi0 : i0 < List.length (Qk (List.length p0) p0)) (ho0_0 : List.length v0_1 ≤ i0) (hc0 : (decide ((i0 : Int) < ((List.length p0) : Int))) = true) (h0 : (((i0 + 1 : Nat) : Int) == ((List.length p0) : Int)) = true) {r : Rs} (hr : Q7 G (Q4t p0 (i0 + 1) (v0_1 ++ [x0])) r) : Q7 G (Q4t p0 i0 v0_1) r := by
 have hB0 := H.1; have e0 := eq_of_beq h0
 exact Qb (Qc5 p0 i0 v0_1) (y := (Q97 p0 (i0 + 1) (v0_1 ++ [x0]), Q6l p0 (i0 + 1) (v0_1 ++ [x0]))) [hB 0 hc0, hP 1 (Q1h 1 6 (List.length p0) (i0 : Int) i0 (by omega) (by have f1 := (Q1i (List.length p0) p0 rfl); omega) (by have f1 := (Q1i (List.length p0) p0 rfl); omega)), hP 0 (Q34 1 6 0 false ((Fld.rows (Qk (List.length p0) p0)).flatten) (Fld.rows (Qk (List.length p0) p0)) 6 true i0 0 (i0 * 6) (Fld.cells x0) (.agg [.str x0.name, .int .i64 x0.v.kind, .int .i64 x0.v.n, .str x0.v.s, .sl (Val.rows x0.v.list), .sl (Fld.rows x0.v.fields)]) rfl rfl (Fld.Qg hx0) (Fld.Qp (Qk (List.length p0) p0)) (by decide) rfl), hP 4 (Qt i0 (by omega)), hB 2 h0, hV 15 [(1735, Fld.rows (v0_1 ++ [x0]))] (Q17r 6 1671 1735 6 96 0 0 true (Fld.rows v0_1) (Fld.rows (v0_1 ++ [x0])) (Fld.cells x0) (List.length v0_1) (List.length (v0_1 ++ [x0])) rfl (Fld.Qd v0_1).symm (Fld.Qd (v0_1 ++ [x0])).symm (Fld.Qbl v0_1 x0) (Fld.Qp v0_1) rfl (by omega)), hS 0 true (Fld.Q5 (v0_1 ++ [x0]) 6 rfl), hP 2 (Qt i0 (by omega))] [] (by kernel_rfl) hr
theorem Qvq (p0 : List Fld) (H : Q78 p0) (x0 : Fld) (i0 : Nat) (v0_1 : List Fld) (hx0 : (Qk (List.length p0) p0)[i0]? = some x0) (hi0 : i0 < List.length (Qk (List.length p0) p0)) (_ho0_0 : List.length v0_1 ≤ i0) (hc0 : (decide ((i0 : Int) < ((List.length p0) : Int))) = true) (h0 : (((i0 + 1 : Nat) : Int) == ((List.length p0) : Int)) = false) (h1 : (sEq (List.getD (Qk (List.length p0) p0) (Int.toNat ((i0 + 1 : Nat) : Int)) zF).name x0.name) = true) {r : Rs} (hr : Q7 G (Q4t p0 (i0 + 1) v0_1) r) : Q7 G (Q4t p0 i0 v0_1) r := by
 have hB0 := H.1; have e0 := beq_eq_false_iff_ne.1 h0
 exact Qb (Qc5 p0 i0 v0_1) (y := (Q97 p0 (i0 + 1) v0_1, Q6l p0 (i0 + 1) v0_1)) [hB 0 hc0, hP 1 (Q1h 1 6 (List.length p0) (i0 : Int) i0 (by omega) (by have f1 := (Q1i (List.length p0) p0 rfl); omega) (by have f1 := (Q1i (List.length p0) p0 rfl); omega)), hP 0 (Q34 1 6 0 false ((Fld.rows (Qk (List.length p0) p0)).flatten) (Fld.rows (Qk (List.length p0) p0)) 6 true i0 0 (i0 * 6) (Fld.cells x0) (.agg [.str x0.name, .int .i64 x0.v.kind, .int .i64 x0.v.n, .str x0.v.s, .sl (Val.rows x0.v.list), .sl (Fld.rows x0.v.fields)]) rfl rfl (Fld.Qg hx0) (Fld.Qp (Qk (List.length p0) p0)) (by decide) rfl), hP 4 (Qt i0 (by omega)), hB 2 h0, hP 3 (Qt i0 (by omega)), hP 0 (Q1h 1 6 (List.length p0) ((i0 + 1 : Nat) : Int) (Int.toNat ((i0 + 1 : Nat) : Int)) rfl (by have f1 := (Q1i (List.length p0) p0 rfl); omega) (by have f1 := (Q1i (List.length p0) p0 rfl); omega)), hP 1 (Q34 1 6 0 false ((Fld.rows (Qk (List.length p0) p0)).flatten) (Fld.rows (Qk (List.length p0) p0)) 1 false (Int.toNat ((i0 + 1 : Nat) : Int)) 0 ((Int.toNat ((i0 + 1 : Nat) : Int)) * 6) (Fld.cells (List.getD (Qk (List.length p0) p0) (Int.toNat ((i0 + 1 : Nat) : Int)) zF)) (.str (List.getD (Qk (List.length p0) p0) (Int.toNat ((i0 + 1 : Nat) : Int)) zF).name) rfl rfl (Fld.Qg (Qs (Qk (List.length p0) p0) (Int.toNat ((i0 + 1 : Nat) : Int)) zF (by have f1 := (Q1i (List.length p0) p0 rfl); omega))) (Fld.Qp (Qk (List.length p0) p0)) (by decide) rfl), hP 2 (dec (!(sEq (List.getD (Qk (List.length p0) p0) (Int.toNat ((i0 + 1 : Nat) : Int)) zF).name x0.name)) false (by rw [h1]; rfl)), hP 1 (Qt i0 (by omega))] [] (by kernel_rfl) hr
theorem Qv4 (p0 : List Fld) (H : Q78 p0) (x0 : Fld) (i0 : Nat) (v0_1 : List Fld) (hx0 : (Qk (List.length p0) p0)[i0]? = some x0) (hi0 : i0 < List.length (Qk (List.length p0) p0)) (ho0_0 : List.length v0_1 ≤ i0) (hc0 : (decide ((i0 : Int) < ((List.length p0) : Int))) = true) (h0 : (((i0 + 1 : Nat) : Int) == ((List.length p0) : Int)) = false) (h1 : (sEq (List.getD (Qk (List.length p0) p0) (Int.toNat ((i0 + 1 : Nat) : Int)) zF).name x0.name) = false) {r : Rs} (hr : Q7 G (Q4t p0 (i0 + 1) (v0_1 ++ [x0])) r) : Q7 G (Q4t p0 i0 v0_1) r := by
 have hB0 := H.1; have e0 := beq_eq_false_iff_ne.1 h0
 exact Qb (Qc5 p0 i0 v0_1) (y := (Q97 p0 (i0 + 1) (v0_1 ++ [x0]), Q6l p0 (i0 + 1) (v0_1 ++ [x0]))) [hB 0 hc0, hP 1 (Q1h 1 6 (List.length p0) (i0 : Int) i0 (by omega) (by have f1 := (Q1i (List.length p0) p0 rfl); omega) (by have f1 := (Q1i (List.length p0) p0 rfl); omega)), hP 0 (Q34 1 6 0 false ((Fld.rows (Qk (List.length p0) p0)).flatten) (Fld.rows (Qk (List.length p0) p0)) 6 true i0 0 (i0 * 6) (Fld.cells x0) (.agg [.str x0.name, .int .i64 x0.v.kind, .int .i64 x0.v.n, .str x0.v.s, .sl (Val.rows x0.v.list), .sl (Fld.rows x0.v.fields)]) rfl rfl (Fld.Qg hx0) (Fld.Qp (Qk (List.length p0) p0)) (by decide) rfl), hP 4 (Qt i0 (by omega)), hB 2 h0, hP 3 (Qt i0 (by omega)), hP 0 (Q1h 1 6 (List.length p0) ((i0 + 1 : Nat) : Int) (Int.toNat ((i0 + 1 : Nat) : Int)) rfl (by have f1 := (Q1i (List.length p0) p0 rfl); omega) (by have f1 := (Q1i (List.length p0) p0 rfl); omega)), hP 1 (Q34 1 6 0 false ((Fld.rows (Qk (List.length p0) p0)).flatten) (Fld.rows (Qk (List.length p0) p0)) 1 false (Int.toNat ((i0 + 1 : Nat) : Int)) 0 ((Int.toNat ((i0 + 1 : Nat) : Int)) * 6) (Fld.cells (List.getD (Qk (List.length p0) p0) (Int.toNat ((i0 + 1 : Nat) : Int)) zF)) (.str (List.getD (Qk (List.length p0) p0) (Int.toNat ((i0 + 1 : Nat) : Int)) zF).name) rfl rfl (Fld.Qg (Qs (Qk (List.length p0) p0) (Int.toNat ((i0 + 1 : Nat) : Int)) zF (by have f1 := (Q1i (List.length p0) p0 rfl); omega))) (Fld.Qp (Qk (List.length p0) p0)) (by decide) rfl), hP 2 (dec (!(sEq (List.getD (Qk (List.length p0) p0) (Int.toNat ((i0 + 1 : Nat) : Int)) zF).name x0.name)) true (by rw [h1]; rfl)), hV 5 [(1735, Fld.rows (v0_1 ++ [x0]))] (Q17r 6 1671 1735 6 96 0 0 true (Fld.rows v0_1) (Fld.rows (v0_1 ++ [x0])) (Fld.cells x0) (List.length v0_1) (List.length (v0_1 ++ [x0])) rfl (Fld.Qd v0_1).symm (Fld.Qd (v0_1 ++ [x0])).symm (Fld.Qbl v0_1 x0) (Fld.Qp v0_1) rfl (by omega)), hS 0 true (Fld.Q5 (v0_1 ++ [x0]) 6 rfl), hP 2 (Qt i0 (by omega))] [] (by kernel_rfl) hr
theorem Q9k (p0 : List Fld) (H : Q78 p0) : ∀ (r0 : List Fld) (i0 : Nat) (v0_1 : List Fld), List.drop i0 (Qk (List.length p0) p0) = r0 → List.length v0_1 ≤ i0 → Qbx p0 (Q4t p0 i0 v0_1) (Q26 p0 r0 i0 v0_1)
 | [], i0, v0_1, hd, ho0_0 => by
  have hc0 : (decide ((i0 : Int) < ((List.length p0) : Int))) = false := by have hL := (Q1i (List.length p0) p0 rfl); have := Q1o hd; simp; omega
  rw [Q26]
  exact Qv1 p0 H i0 v0_1 ho0_0 hc0
 | x0 :: r0, i0, v0_1, hd, ho0_0 => by
  obtain ⟨hx0, hi0, hd'⟩ := Q1b hd
  have hc0 : (decide ((i0 : Int) < ((List.length p0) : Int))) = true := by have hL := (Q1i (List.length p0) p0 rfl); simp; omega
  rw [Q26]
  cases h0 : (((i0 + 1 : Nat) : Int) == ((List.length p0) : Int)) with
  | true =>
   have e0 := eq_of_beq h0
   exact Q5v p0 (fun r hr => Qx7 p0 H x0 i0 v0_1 hx0 hi0 ho0_0 hc0 h0 hr) _ (Q9k p0 H r0 (i0 + 1) (v0_1 ++ [x0]) hd' (by first | omega | (simp; omega)))
  | false =>
   have e0 := beq_eq_false_iff_ne.1 h0
   cases h1 : (sEq (List.getD (Qk (List.length p0) p0) (Int.toNat ((i0 + 1 : Nat) : Int)) zF).name x0.name) with
   | true =>
    exact Q5v p0 (fun r hr => Qvq p0 H x0 i0 v0_1 hx0 hi0 ho0_0 hc0 h0 h1 hr) _ (Q9k p0 H r0 (i0 + 1) v0_1 hd' (by first | omega | (simp; omega)))
   | false =>
    exact Q5v p0 (fun r hr => Qv4 p0 H x0 i0 v0_1 hx0 hi0 ho0_0 hc0 h0 h1 hr) _ (Q9k p0 H r0 (i0 + 1) (v0_1 ++ [x0]) hd' (by first | omega | (simp; omega)))
def Q7r (p0 : List Fld) : Val :=
 (Val.mk 5 0 (⟨#[]⟩ : ByteArray) [] (Q26 p0 (Qk (List.length p0) p0) 0 []))
def Q19q (p0 : List Fld) : En := .call 27 [.sl (Fld.rows p0)] []
def Q160 (p0 : List Fld) : Rs := .ret (.agg (Val.cells (Q7r p0))) []
def Qr9 (p0 : List Fld) : Prop := (List.length p0 * 96 ≤ 140737488355328) ∧ (((List.length p0) : Int) ≤ 1152921504606846976) ∧ (Q78 p0) ∧ (Qg2 (Val.mk 5 0 (⟨#[]⟩ : ByteArray) [] (Q26 p0 (Qk (List.length p0) p0) 0 []))) ∧ True
theorem Qye (p0 : List Fld) (H : Qr9 p0) : Q7 G (Q19q p0) (Q160 p0) := by
 unfold Q160 Q7r
 have hl0 := Q9k p0 (H.2.2.1) (Qk (List.length p0) p0) 0 [] (by simp) (by simp)
 obtain ⟨z0, zo0, hl0⟩ := hl0
 exact Q8 (fn := Ir.K1m) rfl VOK.nil [hQ (Fld.Q5 p0 6 rfl), hQ (Fld.Q5 (Qk (List.length p0) p0) 6 rfl), hS 0 false (Fld.Q5 (Qk (List.length p0) p0) 6 rfl), hS 0 true (Fld.Q5 (Q26 p0 (Qk (List.length p0) p0) 0 []) 6 rfl), hQ (Fld.Qd (Q26 p0 (Qk (List.length p0) p0) 0 [])).symm] [aV [(0, Fld.rows p0)] (Q5i (G := G) (f := 41) (sz := 6) (bytes := 96) rfl (Fld.Qd p0) (Fld.Q5 p0 6 rfl) H.1), aV [(0, Fld.rows (Qk (List.length p0) p0))] (Q10a (List.length p0) p0 rfl (H.2.1)), aV [(1, Fld.rows (Qk (List.length p0) p0)), (6, Fld.rows (Q26 p0 (Qk (List.length p0) p0) 0 []))] hl0, aN (Q139 (Val.mk 5 0 (⟨#[]⟩ : ByteArray) [] (Q26 p0 (Qk (List.length p0) p0) 0 [])) H.2.2.2.1)] (by kernel_rfl)
end Go.Proofs.Ytnhhddbbppbblaa
end

section
/- The library's stable sort as plain functions on lists, and what it answers: the stably sorted list. Program-free. -/
namespace Go.Pv.Srt
section
variable {α : Type} (z : α) (c : α → α → Int)
def gt (d : List α) (i : Int) : α := d.getD i.toNat z
def sw (d : List α) (i j : Int) : List α := (d.set i.toNat (gt z d j)).set j.toNat (gt z d i)
def ins1 (a : Int) : Nat → List α → Int → List α
  | 0, v, _ => v
  | k + 1, v, j => bif decide (a < j) then (bif decide (c (gt z v j) (gt z v (j - 1)) < 0) then ins1 a k (sw z v j (j - 1)) (j - 1) else v) else v
def ins0 (a b : Int) : Nat → Int → List α → List α
  | 0, _, v => v
  | k + 1, i, v => bif decide (i < b) then ins0 a b k (i + 1) (ins1 z c a (i.toNat + 1) v i) else v
def ins (d : List α) (a b : Int) : List α := ins0 z c a b ((b - (a + 1)).toNat + 1) (a + 1) d
def swr1 (p q n : Int) : Nat → List α → Int → List α
  | 0, v, _ => v
  | k + 1, v, i => bif decide (i < n) then swr1 p q n k (sw z v (p + i) (q + i)) (i + 1) else v
def swr (d : List α) (p q n : Int) : List α := swr1 z p q n ((n - 0).toNat + 1) d 0
def rot1 (m : Int) : Nat → Int → Int → List α → List α × Int
  | 0, i, _, v => (v, i)
  | k + 1, i, j, v => bif i == j then (v, i) else bif decide (j < i) then rot1 m k (i - j) j (swr z v (m - i) m j) else rot1 m k i (j - i) (swr z v (m - i) ((m + j) - i) i)
def rot (d : List α) (a m b : Int) : List α :=
  let r := rot1 z m (((m - a) + (b - m)).toNat + 1) (m - a) (b - m) d
  swr z r.1 (m - r.2) m r.2
theorem Q7j {d A C : List α} {x : α} {i : Int} (hd : d = A ++ x :: C) (hi : i = (A.length : Int)) : gt z d i = x := by
  subst hd hi
  simp [gt]
theorem Qt6 {A C : List α} {x y : α} {i : Int} (hi : i = (A.length : Int)) : (A ++ x :: C).set i.toNat y = A ++ y :: C := by
  subst hi
  simp
theorem Q174 {A M C : List α} {x y : α} {i j : Int} (hi : i = (A.length : Int)) (hj : j = (A.length : Int) + 1 + (M.length : Int)) : sw z (A ++ x :: (M ++ y :: C)) i j = A ++ y :: (M ++ x :: C) := by
  have e1 : gt z (A ++ x :: (M ++ y :: C)) i = x := Q7j z rfl hi
  have e2 : gt z (A ++ x :: (M ++ y :: C)) j = y := Q7j z (A := A ++ x :: M) (C := C) (by simp) (by simp; omega)
  unfold sw
  rw [e1, e2, Qt6 hi]
  have e3 : A ++ y :: (M ++ y :: C) = (A ++ y :: M) ++ y :: C := by simp
  rw [e3, Qt6 (A := A ++ y :: M) (by simp; omega)]
  simp
theorem Qzo {A M C : List α} {x y : α} {i j : Int} (hi : i = (A.length : Int)) (hj : j = (A.length : Int) + 1 + (M.length : Int)) : sw z (A ++ x :: (M ++ y :: C)) j i = A ++ y :: (M ++ x :: C) := by
  have e1 : gt z (A ++ x :: (M ++ y :: C)) i = x := Q7j z rfl hi
  have e2 : gt z (A ++ x :: (M ++ y :: C)) j = y := Q7j z (A := A ++ x :: M) (C := C) (by simp) (by simp; omega)
  unfold sw
  rw [e1, e2]
  have e3 : A ++ x :: (M ++ y :: C) = (A ++ x :: M) ++ y :: C := by simp
  rw [e3, Qt6 (A := A ++ x :: M) (by simp; omega)]
  have e4 : (A ++ x :: M) ++ x :: C = A ++ x :: (M ++ x :: C) := by simp
  rw [e4, Qt6 hi]
def insR (x : α) : List α → List α
  | [] => [x]
  | s :: t => bif decide (c x s < 0) then s :: insR x t else x :: s :: t
def Q61 (l : List α) : List α := (l.foldl (fun r x => insR c x r) []).reverse
theorem Qoy (a : Int) (A : List α) (x : α) (ha : a = (A.length : Int)) : ∀ (R C : List α) (k : Nat) (j : Int), j = (A.length : Int) + (R.length : Int) → R.length < k → ins1 z c a k (A ++ (R.reverse ++ x :: C)) j = A ++ ((insR c x R).reverse ++ C)
  | _, _, 0, _, _, h => absurd h (Nat.not_lt_zero _)
  | [], C, k + 1, j, hj, _ => by
    rw [ins1, show decide (a < j) = false by simp at hj ⊢; omega]
    simp [insR]
  | s :: t, C, k + 1, j, hj, hk => by
    simp only [List.length_cons] at hj hk
    have e0 : A ++ ((s :: t).reverse ++ x :: C) = (A ++ t.reverse) ++ s :: ([] ++ x :: C) := by simp
    rw [ins1, show decide (a < j) = true by simp; omega, cond_true, e0]
    have e1 : gt z ((A ++ t.reverse) ++ s :: ([] ++ x :: C)) j = x := Q7j z (A := A ++ t.reverse ++ [s]) (C := C) (by simp) (by simp; omega)
    have e2 : gt z ((A ++ t.reverse) ++ s :: ([] ++ x :: C)) (j - 1) = s := Q7j z (A := A ++ t.reverse) rfl (by simp; omega)
    rw [e1, e2, insR]
    cases decide (c x s < 0) with
    | true =>
      rw [cond_true, cond_true, Qzo z (by simp; omega) (by simp; omega)]
      have e3 : (A ++ t.reverse) ++ x :: ([] ++ s :: C) = A ++ (t.reverse ++ x :: (s :: C)) := by simp
      rw [e3, Qoy a A x ha t (s :: C) k (j - 1) (by omega) (by omega)]
      simp
    | false => simp
theorem Qoc (a b : Int) (A : List α) (ha : a = (A.length : Int)) : ∀ (M R C : List α) (k : Nat) (i : Int), i = (A.length : Int) + (R.length : Int) → b = i + (M.length : Int) → M.length < k →
    ins0 z c a b k i (A ++ (R.reverse ++ (M ++ C))) = A ++ ((M.foldl (fun r x => insR c x r) R).reverse ++ C)
  | _, _, _, 0, _, _, _, h => absurd h (Nat.not_lt_zero _)
  | [], R, C, k + 1, i, hi, hb, _ => by
    rw [ins0, show decide (i < b) = false by simp at hb ⊢; omega]
    simp
  | x :: M, R, C, k + 1, i, hi, hb, hk => by
    simp only [List.length_cons] at hb hk
    rw [ins0, show decide (i < b) = true by simp; omega, cond_true, List.cons_append, Qoy z c a A x ha R (M ++ C) _ i hi (by omega)]
    have hl : (insR c x R).length = R.length + 1 := by
      clear hi hb hk
      induction R with
      | nil => rfl
      | cons s t ih => rw [insR]; cases decide (c x s < 0) <;> simp [ih]
    rw [Qoc a b A ha M (insR c x R) C k (i + 1) (by omega) (by omega) (by omega)]
    rfl
theorem Qs7 {d A M C : List α} {a b : Int} (hd : d = A ++ (M ++ C)) (ha : a = (A.length : Int)) (hb : b = a + (M.length : Int)) : ins z c d a b = A ++ (Q61 c M ++ C) := by
  subst hd
  unfold ins Q61
  cases M with
  | nil =>
    simp only [List.length_nil, Int.ofNat_zero] at hb
    rw [ins0, show decide (a + 1 < b) = false by simp; omega]
    rfl
  | cons x M =>
    simp only [List.length_cons] at hb
    have e : A ++ (x :: M ++ C) = A ++ ([x].reverse ++ (M ++ C)) := by simp
    rw [e, Qoc z c a b A ha M [x] C _ _ (by simp; omega) (by omega) (by omega)]
    rfl
theorem Qom (p q n : Int) (C : List α) : ∀ (X Y A M : List α) (k : Nat) (i : Int), X.length = Y.length → p + i = (A.length : Int) → q + i = (A.length : Int) + (X.length : Int) + (M.length : Int) → n = i + (X.length : Int) → X.length < k →
    swr1 z p q n k (A ++ (X ++ (M ++ (Y ++ C)))) i = A ++ (Y ++ (M ++ (X ++ C)))
  | _, _, _, _, 0, _, _, _, _, _, h => absurd h (Nat.not_lt_zero _)
  | [], [], A, M, k + 1, i, _, _, _, hn, _ => by
    rw [swr1, show decide (i < n) = false by simp at hn ⊢; omega]
    rfl
  | [], _ :: _, _, _, _, _, h, _, _, _, _ => by simp at h
  | _ :: _, [], _, _, _, _, h, _, _, _, _ => by simp at h
  | x :: X, y :: Y, A, M, k + 1, i, h, hp, hq, hn, hk => by
    simp only [List.length_cons] at h hq hn hk
    rw [swr1, show decide (i < n) = true by simp; omega, cond_true]
    have e : A ++ (x :: X ++ (M ++ (y :: Y ++ C))) = A ++ x :: ((X ++ M) ++ y :: (Y ++ C)) := by simp
    rw [e, Q174 z hp (by simp; omega)]
    have e2 : A ++ y :: ((X ++ M) ++ x :: (Y ++ C)) = (A ++ [y]) ++ (X ++ ((M ++ [x]) ++ (Y ++ C))) := by simp
    rw [e2, Qom p q n C X Y (A ++ [y]) (M ++ [x]) k (i + 1) (by omega) (by simp; omega) (by simp; omega) (by omega) (by omega)]
    simp
theorem Qmm {d A X M Y C : List α} {p q n : Int} (hd : d = A ++ (X ++ (M ++ (Y ++ C)))) (h : X.length = Y.length) (hp : p = (A.length : Int)) (hq : q = (A.length : Int) + (X.length : Int) + (M.length : Int)) (hn : n = (X.length : Int)) : swr z d p q n = A ++ (Y ++ (M ++ (X ++ C))) := by
  subst hd
  unfold swr
  exact Qom z p q n C X Y A M _ 0 h (by omega) (by omega) (by omega) (by omega)
theorem Qfr (m : Int) (W : List α) : ∀ (k : Nat) (A U V C : List α) (i j : Int), i = (U.length : Int) → j = (V.length : Int) → 0 < U.length → 0 < V.length → m = (A.length : Int) + (U.length : Int) → U.length + V.length < k → W = A ++ (V ++ (U ++ C)) →
    swr z (rot1 z m k i j (A ++ (U ++ (V ++ C)))).1 (m - (rot1 z m k i j (A ++ (U ++ (V ++ C)))).2) m (rot1 z m k i j (A ++ (U ++ (V ++ C)))).2 = W
  | 0, _, _, _, _, _, _, _, _, _, _, _, h, _ => absurd h (Nat.not_lt_zero _)
  | k + 1, A, U, V, C, i, j, hi, hj, hU, hV, hm, hk, hW => by
    rw [rot1]
    by_cases h1 : i = j
    · rw [show (i == j) = true by simpa using h1]
      simp only [cond_true]
      rw [Qmm z (A := A) (X := U) (M := []) (Y := V) (C := C) (by simp) (by omega) (by omega) (by simp; omega) (by omega), hW]
      rfl
    · rw [show (i == j) = false by simpa using h1]
      simp only [cond_false]
      by_cases h2 : j < i
      · rw [show decide (j < i) = true by simpa using h2]
        simp only [cond_true]
        have hs : U = U.take V.length ++ U.drop V.length := (List.take_append_drop _ _).symm
        have l1 : (U.take V.length).length = V.length := by simp; omega
        have l2 : (U.drop V.length).length = U.length - V.length := by simp
        rw [Qmm z (d := A ++ (U ++ (V ++ C))) (A := A) (X := U.take V.length) (M := U.drop V.length) (Y := V) (C := C) (by rw [← List.append_assoc (U.take _), List.take_append_drop]) (by omega) (by omega) (by rw [l1, l2]; omega) (by omega)]
        have e : A ++ (V ++ (U.drop V.length ++ (U.take V.length ++ C))) = (A ++ V) ++ (U.drop V.length ++ (U.take V.length ++ C)) := by simp
        rw [e]
        exact Qfr m W k (A ++ V) (U.drop V.length) (U.take V.length) C (i - j) j (by omega) (by omega) (by omega) (by omega) (by rw [l2]; simp; omega) (by omega) (by rw [hW, ← List.append_assoc (U.take _), List.take_append_drop]; simp)
      · rw [show decide (j < i) = false by simpa using h2]
        simp only [cond_false]
        have l1 : (V.take (V.length - U.length)).length = V.length - U.length := by simp
        have l2 : (V.drop (V.length - U.length)).length = U.length := by simp; omega
        rw [Qmm z (d := A ++ (U ++ (V ++ C))) (A := A) (X := U) (M := V.take (V.length - U.length)) (Y := V.drop (V.length - U.length)) (C := C) (by rw [← List.append_assoc (V.take _), List.take_append_drop]) (by omega) (by omega) (by rw [l1]; omega) (by omega)]
        exact Qfr m W k A (V.drop (V.length - U.length)) (V.take (V.length - U.length)) (U ++ C) i (j - i) (by omega) (by omega) (by omega) (by omega) (by omega) (by omega) (by rw [hW, ← List.append_assoc (V.take _), List.take_append_drop])
theorem Q12p {d A U V C : List α} {a m b : Int} (hd : d = A ++ (U ++ (V ++ C))) (ha : a = (A.length : Int)) (hm : m = a + (U.length : Int)) (hb : b = m + (V.length : Int)) (hU : 0 < U.length) (hV : 0 < V.length) : rot z d a m b = A ++ (V ++ (U ++ C)) := by
  subst hd
  unfold rot
  exact Qfr z m _ _ A U V C (m - a) (b - m) (by omega) (by omega) hU hV (by omega) (by omega) rfl
end
end Go.Pv.Srt
end

section
/- The library's stable sort: its merging, and that it answers the stably sorted list. Program-free. -/
namespace Go.Pv.Srt
section
variable {α : Type} (z : α) (c : α → α → Int)
structure Tot : Prop where
  asym : ∀ x y, c x y < 0 → ¬ c y x < 0
  tr : ∀ x y w, ¬ c y x < 0 → ¬ c w y < 0 → ¬ c w x < 0
def le (x y : α) : Prop := ¬ c y x < 0
def Up (l : List α) : Prop := l.Pairwise (le c)
def eqv (x y : α) : Bool := decide (¬ c x y < 0) && decide (¬ c y x < 0)
def F (l r : List α) : Prop := l.length = r.length ∧ ∀ x, l.filter (eqv c x) = r.filter (eqv c x)
variable {c}
theorem F.rfl {l : List α} : F c l l := ⟨Eq.refl _, fun _ => Eq.refl _⟩
theorem F.trans {l r s : List α} (h : F c l r) (g : F c r s) : F c l s := ⟨h.1.trans g.1, fun x => (h.2 x).trans (g.2 x)⟩
theorem F.symm {l r : List α} (h : F c l r) : F c r l := ⟨h.1.symm, fun x => (h.2 x).symm⟩
theorem F.app {l r l' r' : List α} (h : F c l r) (g : F c l' r') : F c (l ++ l') (r ++ r') :=
  ⟨by rw [List.length_append, List.length_append, h.1, g.1], fun x => by rw [List.filter_append, List.filter_append, h.2 x, g.2 x]⟩
theorem Tot.refl (T : Tot c) (x : α) : ¬ c x x < 0 := fun h => T.asym x x h h
theorem Qtc (T : Tot c) (x : α) : eqv c x x = true := by simpa [eqv] using T.refl x
theorem F.mem (T : Tot c) {l r : List α} (h : F c l r) {x : α} (hx : x ∈ l) : x ∈ r := by
  have h1 : x ∈ l.filter (eqv c x) := List.mem_filter.2 ⟨hx, Qtc T x⟩
  rw [h.2 x] at h1
  exact (List.mem_filter.1 h1).1
theorem F.swap (T : Tot c) {A B : List α} (h : ∀ a ∈ A, ∀ b ∈ B, c b a < 0) : F c (A ++ B) (B ++ A) := by
  refine ⟨by simp [Nat.add_comm], fun x => ?_⟩
  rw [List.filter_append, List.filter_append]
  by_cases hA : A.filter (eqv c x) = []
  · rw [hA]
    simp
  · have hB : B.filter (eqv c x) = [] := by
      obtain ⟨a, ha⟩ := List.exists_mem_of_ne_nil _ hA
      obtain ⟨ha, hxa⟩ := List.mem_filter.1 ha
      refine List.filter_eq_nil_iff.2 fun b hb hxb => ?_
      simp only [eqv, Bool.and_eq_true, decide_eq_true_eq] at hxa hxb
      exact T.tr a x b hxa.1 hxb.2 (h a ha b hb)
    rw [hB]
    simp
theorem uniq (T : Tot c) : ∀ {l r : List α}, Up c l → Up c r → F c l r → l = r
  | [], [], _, _, _ => rfl
  | [], _ :: _, _, _, h => by simp [F] at h
  | _ :: _, [], _, _, h => by simp [F] at h
  | a :: l, b :: r, hl, hr, h => by
    have hl' := List.pairwise_cons.1 hl
    have hr' := List.pairwise_cons.1 hr
    have h1 : ¬ c b a < 0 := by
      rcases List.mem_cons.1 (h.symm.mem T (x := b) List.mem_cons_self) with e | e
      · subst e
        exact T.refl _
      · exact hl'.1 b e
    have h2 : ¬ c a b < 0 := by
      rcases List.mem_cons.1 (h.mem T (x := a) List.mem_cons_self) with e | e
      · subst e
        exact T.refl _
      · exact hr'.1 a e
    have e1 : eqv c a b = true := by simp only [eqv, Bool.and_eq_true, decide_eq_true_eq]; exact ⟨h2, h1⟩
    have e := h.2 a
    rw [List.filter_cons_of_pos (Qtc T a), List.filter_cons_of_pos e1] at e
    injection e with e _
    subst e
    refine congrArg _ (uniq T hl'.2 hr'.2 ⟨by have := h.1; simpa using this, fun x => ?_⟩)
    have e := h.2 x
    simp only [List.filter_cons] at e
    cases hx : eqv c x a with
    | true => rw [hx] at e; simpa using e
    | false => rw [hx] at e; simpa using e
theorem Qta {x y : α} : ∀ {R : List α}, y ∈ insR c x R → y = x ∨ y ∈ R
  | [], h => by simpa [insR] using h
  | s :: t, h => by
    rw [insR] at h
    cases hd : decide (c x s < 0) with
    | true =>
      rw [hd, cond_true] at h
      rcases List.mem_cons.1 h with e | e
      · exact Or.inr (by simp [e])
      · rcases Qta e with e | e
        · exact Or.inl e
        · exact Or.inr (List.mem_cons_of_mem _ e)
    | false =>
      rw [hd, cond_false] at h
      rcases List.mem_cons.1 h with e | e
      · exact Or.inl e
      · exact Or.inr e
theorem Qze (T : Tot c) (x : α) : ∀ {R : List α}, R.Pairwise (fun a b => le c b a) → (insR c x R).Pairwise (fun a b => le c b a)
  | [], _ => by simp [insR]
  | s :: t, h => by
    have h' := List.pairwise_cons.1 h
    rw [insR]
    by_cases hd : c x s < 0
    · rw [show decide (c x s < 0) = true by simpa using hd, cond_true]
      refine List.pairwise_cons.2 ⟨fun y hy => ?_, Qze T x h'.2⟩
      rcases Qta hy with e | e
      · subst e
        exact T.asym _ _ hd
      · exact h'.1 y e
    · rw [show decide (c x s < 0) = false by simpa using hd, cond_false]
      refine List.pairwise_cons.2 ⟨fun y hy => ?_, h⟩
      rcases List.mem_cons.1 hy with e | e
      · subst e
        exact hd
      · exact T.tr y s x (h'.1 y e) hd
theorem Q13z (T : Tot c) (x : α) : ∀ (R : List α), F c (R.reverse ++ [x]) (insR c x R).reverse
  | [] => F.rfl
  | s :: t => by
    rw [insR]
    by_cases hd : c x s < 0
    · rw [show decide (c x s < 0) = true by simpa using hd, cond_true, List.reverse_cons, List.reverse_cons, List.append_assoc]
      have h1 : F c ([s] ++ [x]) ([x] ++ [s]) := F.swap T (by simpa using hd)
      exact (F.rfl.app h1).trans (by rw [← List.append_assoc]; exact (Q13z T x t).app F.rfl)
    · rw [show decide (c x s < 0) = false by simpa using hd, cond_false, List.reverse_cons (a := x)]
      exact F.rfl
theorem Qr7 (T : Tot c) : ∀ (M R : List α), R.Pairwise (fun a b => le c b a) → (M.foldl (fun r x => insR c x r) R).Pairwise (fun a b => le c b a) ∧ F c (R.reverse ++ M) (M.foldl (fun r x => insR c x r) R).reverse
  | [], R, h => ⟨h, by simpa using F.rfl⟩
  | x :: M, R, h => by
    obtain ⟨h1, h2⟩ := Qr7 T M (insR c x R) (Qze T x h)
    refine ⟨h1, F.trans ?_ h2⟩
    have e : R.reverse ++ x :: M = (R.reverse ++ [x]) ++ M := by simp
    rw [e]
    exact (Q13z T x R).app F.rfl
theorem Q9j (T : Tot c) (l : List α) : Up c (Q61 c l) := by
  unfold Up Q61
  rw [List.pairwise_reverse]
  exact (Qr7 T l [] List.Pairwise.nil).1
theorem Qe2 (T : Tot c) (l : List α) : F c l (Q61 c l) := (Qr7 T l [] List.Pairwise.nil).2
def bs (g : Int → Bool) : Nat → Int → Int → Int
  | 0, i, _ => i
  | k + 1, i, j => bif decide (i < j) then (bif g ((i + j) / 2) then bs g k ((i + j) / 2 + 1) j else bs g k i ((i + j) / 2)) else i
theorem Q9w (g : Int → Bool) : ∀ (k : Nat) (i j : Int), i ≤ j → (j - i).toNat < k → i ≤ bs g k i j ∧ bs g k i j ≤ j ∧ (bs g k i j = i ∨ g (bs g k i j - 1) = true) ∧ (bs g k i j = j ∨ g (bs g k i j) = false)
  | 0, _, _, _, h => absurd h (Nat.not_lt_zero _)
  | k + 1, i, j, h, hk => by
    rw [bs]
    by_cases hij : i < j
    · rw [show decide (i < j) = true by simpa using hij, cond_true]
      cases hg : g ((i + j) / 2) with
      | true =>
        rw [cond_true]
        obtain ⟨h1, h2, h3, h4⟩ := Q9w g k ((i + j) / 2 + 1) j (by omega) (by omega)
        refine ⟨by omega, h2, Or.inr ?_, h4⟩
        rcases h3 with e | e
        · rw [e, show (i + j) / 2 + 1 - 1 = (i + j) / 2 by omega]
          exact hg
        · exact e
      | false =>
        rw [cond_false]
        obtain ⟨h1, h2, h3, h4⟩ := Q9w g k i ((i + j) / 2) (by omega) (by omega)
        refine ⟨h1, by omega, h3, Or.inr ?_⟩
        rcases h4 with e | e
        · rw [e]
          exact hg
        · exact e
    · rw [show decide (i < j) = false by simpa using hij, cond_false]
      exact ⟨Int.le_refl _, h, Or.inl rfl, Or.inl (by omega)⟩
def mv1 : Nat → Int → List α → Int → List α
  | 0, _, v, _ => v
  | k + 1, t, v, i => bif decide (i < t - 1) then mv1 k t (sw z v i (i + 1)) (i + 1) else v
def mv3 : Nat → Int → List α → Int → List α
  | 0, _, v, _ => v
  | k + 1, t, v, i => bif decide (t < i) then mv3 k t (sw z v i (i - 1)) (i - 1) else v
theorem Qt5 (x : α) (C : List α) (t : Int) : ∀ (V A : List α) (k : Nat) (i : Int), i = (A.length : Int) → t - 1 = i + (V.length : Int) → V.length < k → mv1 z k t (A ++ x :: (V ++ C)) i = A ++ (V ++ x :: C)
  | _, _, 0, _, _, _, h => absurd h (Nat.not_lt_zero _)
  | [], A, k + 1, i, hi, ht, _ => by
    rw [mv1, show decide (i < t - 1) = false by simp at ht ⊢; omega]
    rfl
  | y :: V, A, k + 1, i, hi, ht, hk => by
    simp only [List.length_cons] at ht hk
    rw [mv1, show decide (i < t - 1) = true by simp; omega, cond_true]
    have e : A ++ x :: (y :: V ++ C) = A ++ x :: ([] ++ y :: (V ++ C)) := by simp
    rw [e, Q174 z hi (by simp; omega)]
    have e2 : A ++ y :: ([] ++ x :: (V ++ C)) = (A ++ [y]) ++ x :: (V ++ C) := by simp
    rw [e2, Qt5 x C t V (A ++ [y]) k (i + 1) (by simp; omega) (by omega) (by omega)]
    simp
theorem Qss (y : α) (A : List α) (t : Int) (ht : t = (A.length : Int)) : ∀ (R C : List α) (k : Nat) (i : Int), i = (A.length : Int) + (R.length : Int) → R.length < k → mv3 z k t (A ++ (R.reverse ++ y :: C)) i = A ++ y :: (R.reverse ++ C)
  | _, _, 0, _, _, h => absurd h (Nat.not_lt_zero _)
  | [], C, k + 1, i, hi, _ => by
    rw [mv3, show decide (t < i) = false by simp at hi ⊢; omega]
    rfl
  | u :: R, C, k + 1, i, hi, hk => by
    simp only [List.length_cons] at hi hk
    rw [mv3, show decide (t < i) = true by simp; omega, cond_true]
    have e : A ++ ((u :: R).reverse ++ y :: C) = (A ++ R.reverse) ++ u :: ([] ++ y :: C) := by simp
    rw [e, Qzo z (by simp; omega) (by simp; omega)]
    have e2 : (A ++ R.reverse) ++ y :: ([] ++ u :: C) = A ++ (R.reverse ++ y :: (u :: C)) := by simp
    rw [e2, Qss y A t ht R (u :: C) k (i - 1) (by omega) (by omega)]
    simp
end
end Go.Pv.Srt
end

section
/- The library's stable sort: symmetric merging and the sort as a whole answer the stably sorted list. Program-free. -/
namespace Go.Pv.Srt
section
variable {α : Type} (z : α) (c : α → α → Int)
def sym2 (rec : List α → Int → Int → Int → List α) (d : List α) (a m b mid st : Int) : List α :=
  let d1 := bif decide (st < m) && decide (m < mid + m - st) then rot z d st m (mid + m - st) else d
  let d2 := bif decide (a < st) && decide (st < mid) then rec d1 a st mid else d1
  bif decide (mid < mid + m - st) && decide (mid + m - st < b) then rec d2 mid (mid + m - st) b else d2
def sg (d : List α) (p s : Int) : Bool := !decide (c (gt z d (p - s)) (gt z d s) < 0)
def sst (d : List α) (a m b : Int) : Int :=
  bif decide ((a + b) / 2 < m) then bs (sg z c d ((a + b) / 2 + m - 1)) (((a + b) / 2 - ((a + b) / 2 + m - b)).toNat + 1) ((a + b) / 2 + m - b) ((a + b) / 2)
  else bs (sg z c d ((a + b) / 2 + m - 1)) ((m - a).toNat + 1) a m
def st1 (d : List α) (a m b : Int) : Int := bs (fun h => decide (c (gt z d h) (gt z d a) < 0)) ((b - m).toNat + 1) m b
def st3 (d : List α) (a m : Int) : Int := bs (fun h => !decide (c (gt z d m) (gt z d h) < 0)) ((m - a).toNat + 1) a m
def sym : Nat → List α → Int → Int → Int → List α
  | 0, d, _, _, _ => d
  | k + 1, d, a, m, b =>
    bif m - a == 1 then mv1 z ((st1 z c d a m b - a).toNat + 1) (st1 z c d a m b) d a
    else bif b - m == 1 then mv3 z ((m - st3 z c d a m).toNat + 1) (st3 z c d a m) d m
    else sym2 z (sym k) d a m b ((a + b) / 2) (sst z c d a m b)
variable {c}
theorem Qev (T : Tot c) {y l x : α} (h : le c y l) (g : c l x < 0) : c y x < 0 := by
  by_cases e : c y x < 0
  · exact e
  · exact absurd g (T.tr x y l e h)
theorem Qfw (T : Tot c) {l x w : α} (g : c l x < 0) (h : le c x w) : c l w < 0 := by
  by_cases e : c l w < 0
  · exact e
  · exact absurd g (T.tr x w l h e)
theorem Ql7 (T : Tot c) {V : List α} {l : α} (h : Up c (V ++ [l])) : ∀ y ∈ V ++ [l], le c y l := by
  intro y hy
  rcases List.mem_append.1 hy with e | e
  · exact (List.pairwise_append.1 h).2.2 y e l (by simp)
  · rw [List.mem_singleton.1 e]
    exact T.refl l
theorem Ql3 (T : Tot c) {V : List α} {l : α} (h : Up c (l :: V)) : ∀ y ∈ l :: V, le c l y := by
  intro y hy
  rcases List.mem_cons.1 hy with e | e
  · rw [e]
    exact T.refl l
  · exact (List.pairwise_cons.1 h).1 y e
theorem one1 (T : Tot c) {A V C : List α} {x : α} {a m b : Int} (ha : a = (A.length : Int)) (hm : m = a + 1) (hb : b = m + (V.length : Int)) (hV : Up c V) :
    ∃ W, mv1 z ((st1 z c (A ++ x :: (V ++ C)) a m b - a).toNat + 1) (st1 z c (A ++ x :: (V ++ C)) a m b) (A ++ x :: (V ++ C)) a = A ++ (W ++ C) ∧ Up c W ∧ F c ([x] ++ V) W := by
  obtain ⟨h1, h2, h3, h4⟩ := Q9w (fun h => decide (c (gt z (A ++ x :: (V ++ C)) h) (gt z (A ++ x :: (V ++ C)) a) < 0)) ((b - m).toNat + 1) m b (by omega) (by omega)
  change m ≤ st1 z c (A ++ x :: (V ++ C)) a m b at h1
  change st1 z c (A ++ x :: (V ++ C)) a m b ≤ b at h2
  change st1 z c (A ++ x :: (V ++ C)) a m b = m ∨ decide (c (gt z _ (st1 z c (A ++ x :: (V ++ C)) a m b - 1)) _ < 0) = true at h3
  change st1 z c (A ++ x :: (V ++ C)) a m b = b ∨ decide (c (gt z _ (st1 z c (A ++ x :: (V ++ C)) a m b)) _ < 0) = false at h4
  generalize st1 z c (A ++ x :: (V ++ C)) a m b = t at h1 h2 h3 h4
  rw [Q7j z (A := A) (C := V ++ C) (x := x) rfl ha] at h3 h4
  have hV12 : V = V.take (t - m).toNat ++ V.drop (t - m).toNat := (List.take_append_drop _ _).symm
  have l1 : (V.take (t - m).toNat).length = (t - m).toNat := by simp; omega
  generalize V.take (t - m).toNat = V1 at hV12 l1
  generalize V.drop (t - m).toNat = V2 at hV12
  subst hV12
  rw [List.length_append] at hb
  have hu := List.pairwise_append.1 hV
  have k1 : ∀ y ∈ V1, c y x < 0 := by
    rcases List.eq_nil_or_concat V1 with e | ⟨L, l, e⟩
    · subst e
      intro y hy
      cases hy
    · subst e
      simp only [List.concat_eq_append] at *
      rcases h3 with e | e
      · simp at l1
        omega
      · rw [Q7j z (A := A ++ x :: L) (x := l) (C := V2 ++ C) (by simp) (by simp at l1 ⊢; omega)] at e
        exact fun y hy => Qev T (Ql7 T hu.1 y hy) (of_decide_eq_true e)
  have k2 : ∀ y ∈ V2, le c x y := by
    cases V2 with
    | nil =>
      intro y hy
      cases hy
    | cons w V2 =>
      rcases h4 with e | e
      · simp at hb
        omega
      · rw [Q7j z (A := A ++ x :: V1) (x := w) (C := V2 ++ C) (by simp) (by simp; omega)] at e
        exact fun y hy => T.tr x w y (of_decide_eq_false e) (Ql3 T hu.2.1 y hy)
  refine ⟨V1 ++ x :: V2, ?_, ?_, ?_⟩
  · have e := Qt5 z x (V2 ++ C) t V1 A ((t - a).toNat + 1) a ha (by omega) (by omega)
    rw [List.append_assoc, e]
    simp
  · refine List.pairwise_append.2 ⟨hu.1, List.pairwise_cons.2 ⟨k2, hu.2.1⟩, fun y hy w hw => ?_⟩
    rcases List.mem_cons.1 hw with e | e
    · rw [e]
      exact T.asym _ _ (k1 y hy)
    · exact hu.2.2 y hy w e
  · have e : F c ([x] ++ V1) (V1 ++ [x]) := F.swap T (by simpa using k1)
    have e2 := e.app (F.rfl (l := V2))
    simpa using e2
theorem one3 (T : Tot c) {A U C : List α} {y : α} {a m : Int} (ha : a = (A.length : Int)) (hm : m = a + (U.length : Int)) (hU : Up c U) :
    ∃ W, mv3 z ((m - st3 z c (A ++ (U ++ y :: C)) a m).toNat + 1) (st3 z c (A ++ (U ++ y :: C)) a m) (A ++ (U ++ y :: C)) m = A ++ (W ++ C) ∧ Up c W ∧ F c (U ++ [y]) W := by
  obtain ⟨h1, h2, h3, h4⟩ := Q9w (fun h => !decide (c (gt z (A ++ (U ++ y :: C)) m) (gt z (A ++ (U ++ y :: C)) h) < 0)) ((m - a).toNat + 1) a m (by omega) (by omega)
  change a ≤ st3 z c (A ++ (U ++ y :: C)) a m at h1
  change st3 z c (A ++ (U ++ y :: C)) a m ≤ m at h2
  change st3 z c (A ++ (U ++ y :: C)) a m = a ∨ (!decide (c _ (gt z _ (st3 z c (A ++ (U ++ y :: C)) a m - 1)) < 0)) = true at h3
  change st3 z c (A ++ (U ++ y :: C)) a m = m ∨ (!decide (c _ (gt z _ (st3 z c (A ++ (U ++ y :: C)) a m)) < 0)) = false at h4
  generalize st3 z c (A ++ (U ++ y :: C)) a m = t at h1 h2 h3 h4
  rw [Q7j z (A := A ++ U) (C := C) (x := y) (by simp) (by simp; omega)] at h3 h4
  have hU12 : U = U.take (t - a).toNat ++ U.drop (t - a).toNat := (List.take_append_drop _ _).symm
  have l1 : (U.take (t - a).toNat).length = (t - a).toNat := by simp; omega
  generalize U.take (t - a).toNat = U1 at hU12 l1
  generalize U.drop (t - a).toNat = U2 at hU12
  subst hU12
  rw [List.length_append] at hm
  have hu := List.pairwise_append.1 hU
  have k1 : ∀ u ∈ U1, le c u y := by
    rcases List.eq_nil_or_concat U1 with e | ⟨L, l, e⟩
    · subst e
      intro y hy
      cases hy
    · subst e
      simp only [List.concat_eq_append] at *
      rcases h3 with e | e
      · simp at l1
        omega
      · rw [Q7j z (A := A ++ L) (x := l) (C := U2 ++ y :: C) (by simp) (by simp at l1 ⊢; omega)] at e
        exact fun u hu' => T.tr u l y (Ql7 T hu.1 u hu') (by simpa using e)
  have k2 : ∀ u ∈ U2, c y u < 0 := by
    cases U2 with
    | nil =>
      intro y hy
      cases hy
    | cons w U2 =>
      rcases h4 with e | e
      · simp at hm
        omega
      · rw [Q7j z (A := A ++ U1) (x := w) (C := U2 ++ y :: C) (by simp) (by simp; omega)] at e
        exact fun u hu' => Qfw T (by simpa using e) (Ql3 T hu.2.1 u hu')
  refine ⟨U1 ++ y :: U2, ?_, ?_, ?_⟩
  · have e := Qss z y (A ++ U1) t (by simp; omega) U2.reverse C ((m - t).toNat + 1) m (by simp; omega) (by simp; omega)
    rw [List.reverse_reverse] at e
    have e2 : A ++ (U1 ++ U2 ++ y :: C) = (A ++ U1) ++ (U2 ++ y :: C) := by simp
    rw [e2, e]
    simp
  · refine List.pairwise_append.2 ⟨hu.1, List.pairwise_cons.2 ⟨fun u hu' => T.asym _ _ (k2 u hu'), hu.2.1⟩, fun u hu' w hw => ?_⟩
    rcases List.mem_cons.1 hw with e | e
    · rw [e]
      exact k1 u hu'
    · exact hu.2.2 u hu' w e
  · have e : F c (U2 ++ [y]) ([y] ++ U2) := F.swap T (fun u hu' b hb => by rw [List.mem_singleton.1 hb]; exact k2 u hu')
    have e2 := (F.rfl (l := U1)).app e
    simpa using e2
end
end Go.Pv.Srt
end

section
/- The library's stable sort: merging in general, blocks, the whole. Program-free. -/
namespace Go.Pv.Srt
section
variable {α : Type} (z : α) {c : α → α → Int}
theorem two (T : Tot c) (rec : List α → Int → Int → Int → List α) {A U V C d : List α} {a m b mid st : Int} (hd : d = A ++ (U ++ (V ++ C))) (ha : a = (A.length : Int)) (hm : m = a + (U.length : Int)) (hb : b = m + (V.length : Int)) (hU : Up c U) (hV : Up c V)
    (b1 : a ≤ st) (b2 : st ≤ m) (b3 : st ≤ mid) (b4 : mid + m - st ≤ b) (b5 : a < mid) (b6 : mid < b)
    (g1 : st = a ∨ mid + m - st = b ∨ ¬ c (gt z d (mid + m - st)) (gt z d (st - 1)) < 0)
    (g2 : st = m ∨ st = mid ∨ c (gt z d (mid + m - 1 - st)) (gt z d st) < 0)
    (hrec : ∀ (A U V C : List α) (a' m' b' : Int), a' = (A.length : Int) → m' = a' + (U.length : Int) → b' = m' + (V.length : Int) → 0 < U.length → 0 < V.length → Up c U → Up c V → b' - a' < b - a → ∃ W, rec (A ++ (U ++ (V ++ C))) a' m' b' = A ++ (W ++ C) ∧ Up c W ∧ F c (U ++ V) W) :
    ∃ W, sym2 z rec d a m b mid st = A ++ (W ++ C) ∧ Up c W ∧ F c (U ++ V) W := by
  have hU12 : U = U.take (st - a).toNat ++ U.drop (st - a).toNat := (List.take_append_drop _ _).symm
  have l1 : (U.take (st - a).toNat).length = (st - a).toNat := by simp; omega
  generalize U.take (st - a).toNat = U1 at hU12 l1
  generalize U.drop (st - a).toNat = U2 at hU12
  subst hU12
  have hV12 : V = V.take (mid - st).toNat ++ V.drop (mid - st).toNat := (List.take_append_drop _ _).symm
  have l2 : (V.take (mid - st).toNat).length = (mid - st).toNat := by simp; omega
  generalize V.take (mid - st).toNat = V1 at hV12 l2
  generalize V.drop (mid - st).toNat = V2 at hV12
  subst hV12
  rw [List.length_append] at hm hb
  have hu := List.pairwise_append.1 hU
  have hv := List.pairwise_append.1 hV
  have hd' : d = A ++ (U1 ++ (U2 ++ (V1 ++ (V2 ++ C)))) := by rw [hd]; simp
  clear hd
  have c1 : ∀ x ∈ U1, ∀ y ∈ V2, le c x y := by
    rcases List.eq_nil_or_concat U1 with e | ⟨L, l, e⟩
    · subst e
      intro x hx
      cases hx
    · cases V2 with
      | nil =>
        intro x _ y hy
        cases hy
      | cons w V2 =>
        subst e
        simp only [List.concat_eq_append, List.length_append, List.length_cons, List.length_nil] at *
        rcases g1 with e | e | e
        · omega
        · omega
        · rw [Q7j z (d := d) (i := st - 1) (A := A ++ L) (x := l) (C := U2 ++ (V1 ++ (w :: V2 ++ C))) (by rw [hd']; simp) (by simp; omega),
            Q7j z (d := d) (i := mid + m - st) (A := A ++ (L ++ [l]) ++ U2 ++ V1) (x := w) (C := V2 ++ C) (by rw [hd']; simp) (by simp; omega)] at e
          exact fun x hx y hy => T.tr x w y (T.tr x l w (Ql7 T hu.1 x hx) e) (Ql3 T hv.2.1 y hy)
  have c2 : ∀ x ∈ U2, ∀ y ∈ V1, c y x < 0 := by
    rcases List.eq_nil_or_concat V1 with e | ⟨L, l, e⟩
    · subst e
      intro x _ y hy
      cases hy
    · cases U2 with
      | nil =>
        intro x hx
        cases hx
      | cons w U2 =>
        subst e
        simp only [List.concat_eq_append, List.length_append, List.length_cons, List.length_nil] at *
        rcases g2 with e | e | e
        · omega
        · omega
        · rw [Q7j z (d := d) (i := st) (A := A ++ U1) (x := w) (C := U2 ++ ((L ++ [l]) ++ (V2 ++ C))) (by rw [hd']; simp) (by simp; omega),
            Q7j z (d := d) (i := mid + m - 1 - st) (A := A ++ U1 ++ (w :: U2) ++ L) (x := l) (C := V2 ++ C) (by rw [hd']; simp) (by simp; omega)] at e
          exact fun x hx y hy => Qfw T (Qev T (Ql7 T hv.1 y hy) e) (Ql3 T hu.2.1 x hx)
  unfold sym2
  -- the exchange
  have hd1 : (bif decide (st < m) && decide (m < mid + m - st) then rot z d st m (mid + m - st) else d) = A ++ (U1 ++ (V1 ++ (U2 ++ (V2 ++ C)))) := by
    by_cases h : st < m ∧ m < mid + m - st
    · rw [show (decide (st < m) && decide (m < mid + m - st)) = true by simpa using h, cond_true]
      rw [Q12p z (A := A ++ U1) (U := U2) (V := V1) (C := V2 ++ C) (by rw [hd']; simp) (by simp; omega) (by omega) (by omega) (by omega) (by omega)]
      simp
    · rw [show (decide (st < m) && decide (m < mid + m - st)) = false by rw [Bool.eq_false_iff]; simpa using h, cond_false, hd']
      by_cases h2 : U2.length = 0
      · rw [List.length_eq_zero_iff.1 h2]
        simp
      · have h3 : V1.length = 0 := by omega
        rw [List.length_eq_zero_iff.1 h3]
        simp
  simp only [hd1]
  -- the left
  have hl : ∃ W1, (bif decide (a < st) && decide (st < mid) then rec (A ++ (U1 ++ (V1 ++ (U2 ++ (V2 ++ C))))) a st mid else A ++ (U1 ++ (V1 ++ (U2 ++ (V2 ++ C))))) = A ++ (W1 ++ (U2 ++ (V2 ++ C))) ∧ Up c W1 ∧ F c (U1 ++ V1) W1 := by
    by_cases h : a < st ∧ st < mid
    · rw [show (decide (a < st) && decide (st < mid)) = true by simpa using h, cond_true]
      exact hrec A U1 V1 (U2 ++ (V2 ++ C)) a st mid ha (by omega) (by omega) (by omega) (by omega) hu.1 hv.1 (by omega)
    · rw [show (decide (a < st) && decide (st < mid)) = false by rw [Bool.eq_false_iff]; simpa using h, cond_false]
      refine ⟨U1 ++ V1, by simp, ?_, F.rfl⟩
      by_cases h2 : U1.length = 0
      · rw [List.length_eq_zero_iff.1 h2]
        exact hv.1
      · have h3 : V1.length = 0 := by omega
        rw [List.length_eq_zero_iff.1 h3, List.append_nil]
        exact hu.1
  obtain ⟨W1, e1, u1, f1⟩ := hl
  rw [e1]
  have lw : W1.length = (st - a).toNat + (mid - st).toNat := by have := f1.1; rw [List.length_append] at this; omega
  have hr : ∃ W2, (bif decide (mid < mid + m - st) && decide (mid + m - st < b) then rec (A ++ (W1 ++ (U2 ++ (V2 ++ C)))) mid (mid + m - st) b else A ++ (W1 ++ (U2 ++ (V2 ++ C)))) = A ++ (W1 ++ (W2 ++ C)) ∧ Up c W2 ∧ F c (U2 ++ V2) W2 := by
    by_cases h : mid < mid + m - st ∧ mid + m - st < b
    · rw [show (decide (mid < mid + m - st) && decide (mid + m - st < b)) = true by simpa using h, cond_true]
      obtain ⟨W2, e2, u2, f2⟩ := hrec (A ++ W1) U2 V2 C mid (mid + m - st) b (by simp; omega) (by omega) (by omega) (by omega) (by omega) hu.2.1 hv.2.1 (by omega)
      refine ⟨W2, ?_, u2, f2⟩
      rw [List.append_assoc, List.append_assoc] at e2
      exact e2
    · rw [show (decide (mid < mid + m - st) && decide (mid + m - st < b)) = false by rw [Bool.eq_false_iff]; simpa using h, cond_false]
      refine ⟨U2 ++ V2, by simp, ?_, F.rfl⟩
      by_cases h2 : U2.length = 0
      · rw [List.length_eq_zero_iff.1 h2]
        exact hv.2.1
      · have h3 : V2.length = 0 := by omega
        rw [List.length_eq_zero_iff.1 h3, List.append_nil]
        exact hu.2.1
  obtain ⟨W2, e2, u2, f2⟩ := hr
  refine ⟨W1 ++ W2, by rw [e2]; simp, List.pairwise_append.2 ⟨u1, u2, fun x hx y hy => ?_⟩, ?_⟩
  · rcases List.mem_append.1 (f1.symm.mem T hx) with hx | hx <;> rcases List.mem_append.1 (f2.symm.mem T hy) with hy | hy
    · exact hu.2.2 x hx y hy
    · exact c1 x hx y hy
    · exact T.asym _ _ (c2 y hy x hx)
    · exact hv.2.2 x hx y hy
  · have e : F c (U1 ++ (U2 ++ V1) ++ V2) (U1 ++ (V1 ++ U2) ++ V2) := (F.rfl.app (F.swap T c2)).app F.rfl
    have e' := f1.app f2
    refine F.trans (r := U1 ++ (V1 ++ U2) ++ V2) ?_ (F.trans (r := (U1 ++ V1) ++ (U2 ++ V2)) (by simpa using F.rfl) e')
    simpa using e
theorem Qlh (T : Tot c) : ∀ (k : Nat) (A U V C : List α) (a m b : Int), a = (A.length : Int) → m = a + (U.length : Int) → b = m + (V.length : Int) → 0 < U.length → 0 < V.length → Up c U → Up c V → (b - a).toNat < k →
    ∃ W, sym z c k (A ++ (U ++ (V ++ C))) a m b = A ++ (W ++ C) ∧ Up c W ∧ F c (U ++ V) W
  | 0, _, _, _, _, _, _, _, _, _, _, _, _, _, _, h => absurd h (Nat.not_lt_zero _)
  | k + 1, A, U, V, C, a, m, b, ha, hm, hb, lU, lV, hU, hV, hk => by
    rw [sym]
    by_cases h1 : m - a = 1
    · rw [show (m - a == 1) = true by simpa using h1, cond_true]
      obtain ⟨x, rfl⟩ := List.length_eq_one_iff.1 (show U.length = 1 by omega)
      exact one1 z T ha (by omega) hb hV
    · rw [show (m - a == 1) = false by simpa using h1, cond_false]
      by_cases h2 : b - m = 1
      · rw [show (b - m == 1) = true by simpa using h2, cond_true]
        obtain ⟨y, rfl⟩ := List.length_eq_one_iff.1 (show V.length = 1 by omega)
        exact one3 z T ha hm hU
      · rw [show (b - m == 1) = false by simpa using h2, cond_false]
        have hs : a ≤ sst z c (A ++ (U ++ (V ++ C))) a m b ∧ sst z c (A ++ (U ++ (V ++ C))) a m b ≤ m ∧ sst z c (A ++ (U ++ (V ++ C))) a m b ≤ (a + b) / 2 ∧ (a + b) / 2 + m - sst z c (A ++ (U ++ (V ++ C))) a m b ≤ b ∧
            (sst z c (A ++ (U ++ (V ++ C))) a m b = a ∨ (a + b) / 2 + m - sst z c (A ++ (U ++ (V ++ C))) a m b = b ∨ sg z c (A ++ (U ++ (V ++ C))) ((a + b) / 2 + m - 1) (sst z c (A ++ (U ++ (V ++ C))) a m b - 1) = true) ∧
            (sst z c (A ++ (U ++ (V ++ C))) a m b = m ∨ sst z c (A ++ (U ++ (V ++ C))) a m b = (a + b) / 2 ∨ sg z c (A ++ (U ++ (V ++ C))) ((a + b) / 2 + m - 1) (sst z c (A ++ (U ++ (V ++ C))) a m b) = false) := by
          unfold sst
          by_cases h3 : (a + b) / 2 < m
          · rw [show decide ((a + b) / 2 < m) = true by simpa using h3]
            simp only [cond_true]
            obtain ⟨q1, q2, q3, q4⟩ := Q9w (sg z c (A ++ (U ++ (V ++ C))) ((a + b) / 2 + m - 1)) (((a + b) / 2 - ((a + b) / 2 + m - b)).toNat + 1) ((a + b) / 2 + m - b) ((a + b) / 2) (by omega) (by omega)
            refine ⟨by omega, by omega, q2, by omega, ?_, ?_⟩
            · rcases q3 with e | e
              · exact Or.inr (Or.inl (by omega))
              · exact Or.inr (Or.inr e)
            · rcases q4 with e | e
              · exact Or.inr (Or.inl e)
              · exact Or.inr (Or.inr e)
          · rw [show decide ((a + b) / 2 < m) = false by simpa using h3]
            simp only [cond_false]
            obtain ⟨q1, q2, q3, q4⟩ := Q9w (sg z c (A ++ (U ++ (V ++ C))) ((a + b) / 2 + m - 1)) ((m - a).toNat + 1) a m (by omega) (by omega)
            refine ⟨q1, q2, by omega, by omega, ?_, ?_⟩
            · rcases q3 with e | e
              · exact Or.inl e
              · exact Or.inr (Or.inr e)
            · rcases q4 with e | e
              · exact Or.inl e
              · exact Or.inr (Or.inr e)
        generalize sst z c (A ++ (U ++ (V ++ C))) a m b = st at hs
        obtain ⟨s1, s2, s3, s4, s5, s6⟩ := hs
        refine two z T (sym z c k) rfl ha hm hb hU hV s1 s2 s3 s4 (by omega) (by omega) ?_ ?_ (fun A U V C a' m' b' p1 p2 p3 p4 p5 p6 p7 p8 => Qlh T k A U V C a' m' b' p1 p2 p3 p4 p5 p6 p7 (by omega))
        · rcases s5 with e | e | e
          · exact Or.inl e
          · exact Or.inr (Or.inl e)
          · refine Or.inr (Or.inr ?_)
            unfold sg at e
            rw [show (a + b) / 2 + m - 1 - (st - 1) = (a + b) / 2 + m - st by omega] at e
            simpa using e
        · rcases s6 with e | e | e
          · exact Or.inl e
          · exact Or.inr (Or.inl e)
          · refine Or.inr (Or.inr ?_)
            unfold sg at e
            simpa using e
end
end Go.Pv.Srt
end

section
/- The library's stable sort: blocks, and the whole: it answers what insertion answers. Program-free. -/
namespace Go.Pv.Srt
section
variable {α : Type} (z : α) (c : α → α → Int)
def stb0 (n : Int) : Nat → List α → Int → Int → List α × Int
  | 0, v, a, _ => (v, a)
  | k + 1, v, a, b => bif decide (b ≤ n) then stb0 n k (ins z c v a b) b (b + 20) else (v, a)
def stb2 (n : Int) : Nat → List α → Int → Int → Int → List α × Int × Int
  | 0, v, a, _, s => (v, s, a)
  | k + 1, v, a, b, s => bif decide (b ≤ n) then stb2 n k (sym z c ((b - a).toNat + 1) v a (a + s) b) b (b + (2 * s)) s else (v, s, a)
def Qdh (n : Int) (v : List α) (s : Int) : List α × Int × Int := stb2 z c n ((n + 2 * s - (2 * s)).toNat + 1) v 0 (2 * s) s
def stb1 (n : Int) : Nat → List α → Int → List α
  | 0, v, _ => v
  | k + 1, v, s =>
    bif decide (s < n) then
      bif decide ((Qdh z c n v s).2.2 + (Qdh z c n v s).2.1 < n) then
        stb1 n k (sym z c ((n - (Qdh z c n v s).2.2).toNat + 1) (Qdh z c n v s).1 (Qdh z c n v s).2.2 ((Qdh z c n v s).2.2 + (Qdh z c n v s).2.1) n) ((Qdh z c n v s).2.1 * 2)
      else stb1 n k (Qdh z c n v s).1 ((Qdh z c n v s).2.1 * 2)
    else v
def stb (d : List α) (n : Int) : List α :=
  stb1 z c n ((n - 20).toNat + 1) (ins z c (stb0 z c n ((n + 20 - 20).toNat + 1) d 0 20).1 (stb0 z c n ((n + 20 - 20).toNat + 1) d 0 20).2 n) 20
inductive Bl (s : Nat) : List α → Prop
  | last {l : List α} : l.length ≤ s → Up c l → Bl s l
  | cons {l r : List α} : l.length = s → Up c l → Bl s r → Bl s (l ++ r)
inductive Fu (s : Nat) : List α → Prop
  | nil : Fu s []
  | snoc {p l : List α} : Fu s p → l.length = s → Up c l → Fu s (p ++ l)
variable {c}
theorem Fu.bl {s : Nat} {P : List α} (h : Fu c s P) : ∀ {Q : List α}, Bl c s Q → Bl c s (P ++ Q) := by
  induction h with
  | nil => exact fun h => h
  | snoc _ h1 h2 ih =>
    intro Q hQ
    rw [List.append_assoc]
    exact ih (Bl.cons h1 h2 hQ)
theorem Bl.one {s : Nat} {Q : List α} (h : Bl c s Q) (hl : Q.length ≤ s) : Up c Q := by
  cases h with
  | last _ h => exact h
  | cons h1 h2 h3 =>
    rename_i l r
    rw [List.length_append] at hl
    rw [List.length_eq_zero_iff.1 (show r.length = 0 by omega), List.append_nil]
    exact h2
theorem Bl.split {s : Nat} {Q : List α} (h : Bl c s Q) (hl : s < Q.length) : ∃ l r, Q = l ++ r ∧ l.length = s ∧ Up c l ∧ Bl c s r := by
  cases h with
  | last h _ => omega
  | cons h1 h2 h3 => exact ⟨_, _, rfl, h1, h2, h3⟩
theorem Bl.two {s : Nat} {Q : List α} (hs : 0 < s) (h : Bl c s Q) (hl : 2 * s ≤ Q.length) : ∃ l m r, Q = l ++ (m ++ r) ∧ l.length = s ∧ m.length = s ∧ Up c l ∧ Up c m ∧ Bl c s r := by
  obtain ⟨l, r, rfl, h1, h2, h3⟩ := h.split (by omega)
  rw [List.length_append] at hl
  by_cases h4 : s < r.length
  · obtain ⟨m, r, rfl, h5, h6, h7⟩ := h3.split h4
    exact ⟨l, m, r, rfl, h1, h5, h2, h6, h7⟩
  · exact ⟨l, r, [], by simp, h1, by omega, h2, h3.one (by omega), Bl.last (by simp) List.Pairwise.nil⟩
theorem Qpl (T : Tot c) (n : Int) : ∀ (k : Nat) (P Q : List α) (a b : Int), a = (P.length : Int) → b = a + 20 → n = (P.length : Int) + (Q.length : Int) → Fu c 20 P → (n + 20 - b).toNat < k →
    ∃ P' Q', stb0 z c n k (P ++ Q) a b = (P' ++ Q', (P'.length : Int)) ∧ Fu c 20 P' ∧ Q'.length < 20 ∧ F c (P ++ Q) (P' ++ Q')
  | 0, _, _, _, _, _, _, _, _, h => absurd h (Nat.not_lt_zero _)
  | k + 1, P, Q, a, b, ha, hb, hn, hP, hk => by
    rw [stb0]
    by_cases h : b ≤ n
    · rw [show decide (b ≤ n) = true by simpa using h, cond_true]
      have e : P ++ Q = P ++ (Q.take 20 ++ Q.drop 20) := by rw [List.take_append_drop]
      have l1 : (Q.take 20).length = 20 := by simp; omega
      rw [e, Qs7 z c rfl ha (show b = a + ((Q.take 20).length : Int) by omega)]
      have f := Qe2 T (Q.take 20)
      have l2 : (Q61 c (Q.take 20)).length = 20 := by have := f.1; omega
      have l3 : (Q.drop 20).length = Q.length - 20 := by simp
      rw [← List.append_assoc]
      obtain ⟨P', Q', h1, h2, h3, h4⟩ := Qpl T n k (P ++ Q61 c (Q.take 20)) (Q.drop 20) b (b + 20) (by rw [List.length_append]; omega) rfl (by rw [List.length_append]; omega) (Fu.snoc hP l2 (Q9j T _)) (by omega)
      refine ⟨P', Q', h1, h2, h3, F.trans ?_ h4⟩
      rw [List.append_assoc]
      exact F.rfl.app (f.app F.rfl)
    · rw [show decide (b ≤ n) = false by simpa using h, cond_false]
      exact ⟨P, Q, by rw [ha], hP, by omega, F.rfl⟩
theorem Qp7 (T : Tot c) (n : Int) (t : Nat) (s : Int) (hs : s = (t : Int)) (ht : 0 < t) : ∀ (k : Nat) (P Q : List α) (a b : Int), a = (P.length : Int) → b = a + 2 * s → n = (P.length : Int) + (Q.length : Int) → Fu c (2 * t) P → Bl c t Q → (n + 2 * s - b).toNat < k →
    ∃ P' Q', stb2 z c n k (P ++ Q) a b s = (P' ++ Q', s, (P'.length : Int)) ∧ Fu c (2 * t) P' ∧ Bl c t Q' ∧ Q'.length < 2 * t ∧ F c (P ++ Q) (P' ++ Q')
  | 0, _, _, _, _, _, _, _, _, _, h => absurd h (Nat.not_lt_zero _)
  | k + 1, P, Q, a, b, ha, hb, hn, hP, hQ, hk => by
    rw [stb2]
    by_cases h : b ≤ n
    · rw [show decide (b ≤ n) = true by simpa using h, cond_true]
      obtain ⟨l, m, r, rfl, h1, h2, h3, h4, h5⟩ := hQ.two ht (by omega)
      simp only [List.length_append] at hn
      obtain ⟨W, e1, e2, e3⟩ := Qlh z T ((b - a).toNat + 1) P l m r a (a + s) b ha (by omega) (by omega) (by omega) (by omega) h3 h4 (by omega)
      have lW : W.length = 2 * t := by have := e3.1; rw [List.length_append] at this; omega
      rw [e1, ← List.append_assoc]
      obtain ⟨P', Q', g1, g2, g3, g4, g5⟩ := Qp7 T n t s hs ht k (P ++ W) r b (b + 2 * s) (by rw [List.length_append]; omega) rfl (by rw [List.length_append]; omega) (Fu.snoc hP lW e2) h5 (by omega)
      refine ⟨P', Q', g1, g2, g3, g4, F.trans ?_ g5⟩
      rw [List.append_assoc, ← List.append_assoc l]
      exact F.rfl.app (e3.app F.rfl)
    · rw [show decide (b ≤ n) = false by simpa using h, cond_false]
      exact ⟨P, Q, by rw [ha], hP, hQ, by omega, F.rfl⟩
theorem Qf5 (T : Tot c) (n : Int) : ∀ (k : Nat) (v : List α) (t : Nat) (s : Int), s = (t : Int) → 0 < t → n = (v.length : Int) → Bl c t v → (n - s).toNat < k → Up c (stb1 z c n k v s) ∧ F c v (stb1 z c n k v s)
  | 0, _, _, _, _, _, _, _, h => absurd h (Nat.not_lt_zero _)
  | k + 1, v, t, s, hs, ht, hn, hv, hk => by
    rw [stb1]
    by_cases h : s < n
    · rw [show decide (s < n) = true by simpa using h, cond_true]
      obtain ⟨P, Q, g1, g2, g3, g4, g5⟩ := Qp7 z T n t s hs ht ((n + 2 * s - (2 * s)).toNat + 1) [] v 0 (2 * s) rfl (by omega) (by simpa using hn) Fu.nil hv (by omega)
      have e : Qdh z c n v s = (P ++ Q, s, (P.length : Int)) := g1
      rw [e]
      have hl := g5.1
      simp only [List.nil_append, List.length_append] at hl
      simp only
      by_cases h2 : (P.length : Int) + s < n
      · rw [show decide ((P.length : Int) + s < n) = true by simpa using h2, cond_true]
        obtain ⟨l, r, rfl, h3, h4, h5⟩ := g3.split (by omega)
        rw [List.length_append] at g4 hl
        obtain ⟨W, e1, e2, e3⟩ := Qlh z T ((n - (P.length : Int)).toNat + 1) P l r [] (P.length : Int) ((P.length : Int) + s) n rfl (by omega) (by omega) (by omega) (by omega) h4 (h5.one (by omega)) (by omega)
        rw [List.append_nil, List.append_nil] at e1
        rw [e1]
        have lW : W.length ≤ 2 * t := by have := e3.1; rw [List.length_append] at this; omega
        have lW' : (P ++ W).length = v.length := by have := e3.1; rw [List.length_append] at this ⊢; omega
        obtain ⟨q1, q2⟩ := Qf5 T n k (P ++ W) (2 * t) (s * 2) (by omega) (by omega) (by omega) (g2.bl (Bl.last lW e2)) (by omega)
        exact ⟨q1, F.trans (F.trans g5 (F.rfl.app e3)) q2⟩
      · rw [show decide ((P.length : Int) + s < n) = false by simpa using h2, cond_false]
        obtain ⟨q1, q2⟩ := Qf5 T n k (P ++ Q) (2 * t) (s * 2) (by omega) (by omega) (by rw [List.length_append]; omega) (g2.bl (Bl.last (by omega) (g3.one (by omega)))) (by omega)
        exact ⟨q1, F.trans g5 q2⟩
    · rw [show decide (s < n) = false by simpa using h, cond_false]
      exact ⟨hv.one (by omega), F.rfl⟩
theorem Qyi (T : Tot c) (d : List α) (n : Int) (hn : n = (d.length : Int)) : stb z c d n = Q61 c d := by
  unfold stb
  obtain ⟨P, Q, g1, g2, g3, g4⟩ := Qpl z T n ((n + 20 - 20).toNat + 1) [] d 0 20 rfl rfl (by simpa using hn) Fu.nil (by omega)
  rw [List.nil_append] at g1 g4
  rw [g1]
  simp only
  have hl := g4.1
  rw [List.length_append] at hl
  have e := Qs7 z c (d := P ++ Q) (A := P) (M := Q) (C := []) (a := (P.length : Int)) (b := n) (by simp) rfl (by omega)
  rw [e, List.append_nil]
  have f := Qe2 T Q
  obtain ⟨q1, q2⟩ := Qf5 z T n ((n - 20).toNat + 1) (P ++ Q61 c Q) 20 20 rfl (by omega) (by rw [List.length_append, ← f.1]; omega) (g2.bl (Bl.last (by rw [← f.1]; omega) (Q9j T Q))) (by omega)
  exact uniq T q1 (Q9j T d) (F.trans q2.symm (F.trans (F.rfl.app f.symm) (F.trans g4.symm (Qe2 T d))))
end
end Go.Pv.Srt
end

section
/- The printed functions of the library's stable sort are the plain ones (printed by a program). -/
namespace Go.Proofs.Ytnhhddbbppbblaa
open Go.Pv Go.Pv.Srt
abbrev Q1y : Fld := zF
theorem Qk1 (n0 : Nat) (a b i : Int) : ∀ (k : Nat) (v : List Fld) (j : Int), Q2a n0 a b i k v j = ins1 Q1y Q28 a k v j
  | 0, _, _ => rfl
  | k + 1, v, j => by
    rw [Q2a, ins1, Qk1 n0 a b i k]
    rfl
theorem Qjd (n0 : Nat) (a b : Int) : ∀ (k : Nat) (i : Int) (v : List Fld), Q2z n0 a b k i v = ins0 Q1y Q28 a b k i v
  | 0, _, _ => rfl
  | k + 1, i, v => by
    rw [Q2z, ins0, Qjd n0 a b k, Qk1]
theorem Qnq (n0 : Nat) (d : List Fld) (a b : Int) : Q19 n0 d a b = ins Q1y Q28 d a b := Qjd n0 a b _ _ _
theorem Qgy (n0 : Nat) (p q n : Int) : ∀ (k : Nat) (v : List Fld) (i : Int), Q2x n0 p q n k v i = swr1 Q1y p q n k v i
  | 0, _, _ => rfl
  | k + 1, v, i => by
    rw [Q2x, swr1, Qgy n0 p q n k]
    rfl
theorem Qga (n0 : Nat) (d : List Fld) (p q n : Int) : Q15 n0 d p q n = swr Q1y d p q n := Qgy n0 p q n _ _ _
theorem Q9q (n0 : Nat) (m : Int) : ∀ (k : Nat) (i j : Int) (v : List Fld), Q1n n0 m k i j v = rot1 Q1y m k i j v
  | 0, _, _, _ => rfl
  | k + 1, i, j, v => by
    rw [Q1n, rot1, Q9q n0 m k, Q9q n0 m k, Qga, Qga]
theorem Q107 (n0 : Nat) (d : List Fld) (a m b : Int) : Q9 n0 d a m b = rot Q1y d a m b := by
  unfold Q9 rot
  rw [Q9q, Qga]
theorem Qca (n0 : Nat) (d : List Fld) (a m b : Int) : ∀ (k : Nat) (i j : Int), Q2k n0 d a m b k i j = bs (fun h => decide (Q28 (gt Q1y d h) (gt Q1y d a) < 0)) k i j
  | 0, _, _ => rfl
  | k + 1, i, j => by
    rw [Q2k, bs, Qca n0 d a m b k, Qca n0 d a m b k]
    rfl
theorem Qqd (n0 : Nat) : ∀ (k : Nat) (t : Int) (v : List Fld) (i : Int), Q30 n0 k t v i = mv1 Q1y k t v i
  | 0, _, _, _ => rfl
  | k + 1, t, v, i => by
    rw [Q30, mv1, Qqd n0 k]
    rfl
theorem Qg1 (n0 : Nat) (d : List Fld) (a m : Int) : ∀ (k : Nat) (j i : Int), Q2l n0 d a m k j i = bs (fun h => !decide (Q28 (gt Q1y d m) (gt Q1y d h) < 0)) k i j
  | 0, _, _ => rfl
  | k + 1, j, i => by
    rw [Q2l, bs, Qg1 n0 d a m k, Qg1 n0 d a m k]
    cases decide (i < j) with
    | false => rfl
    | true =>
      show (bif decide (Q28 (gt Q1y d m) (gt Q1y d ((i + j) / 2)) < 0) then _ else _) = bif !decide (Q28 (gt Q1y d m) (gt Q1y d ((i + j) / 2)) < 0) then _ else _
      cases decide (Q28 (gt Q1y d m) (gt Q1y d ((i + j) / 2)) < 0) <;> rfl
theorem Qqo (n0 : Nat) : ∀ (k : Nat) (t : Int) (v : List Fld) (i : Int), Q2y n0 k t v i = mv3 Q1y k t v i
  | 0, _, _, _ => rfl
  | k + 1, t, v, i => by
    rw [Q2y, mv3, Qqo n0 k]
    rfl
theorem Qe4 (n0 : Nat) (d : List Fld) (a m b mid n p : Int) : ∀ (k : Nat) (i j : Int), Q0 n0 d a m b k mid n i j p = (mid, n, bs (sg Q1y Q28 d p) k i j)
  | 0, _, _ => rfl
  | k + 1, i, j => by
    rw [Q0, bs, Qe4 n0 d a m b mid n p k, Qe4 n0 d a m b mid n p k]
    cases decide (i < j) with
    | false => rfl
    | true =>
      show (bif decide (Q28 (gt Q1y d (p - (i + j) / 2)) (gt Q1y d ((i + j) / 2)) < 0) then _ else _) = (mid, n, bif !decide (Q28 (gt Q1y d (p - (i + j) / 2)) (gt Q1y d ((i + j) / 2)) < 0) then _ else _)
      cases decide (Q28 (gt Q1y d (p - (i + j) / 2)) (gt Q1y d ((i + j) / 2)) < 0) <;> rfl
theorem Qcw (n0 : Nat) : ∀ (k : Nat) (d : List Fld) (a m b : Int), Q6 k n0 d a m b = sym Q1y Q28 k d a m b
  | 0, _, _, _, _ => rfl
  | k + 1, d, a, m, b => by
    rw [Q6, sym]
    simp only [Qcw n0 k, Qca, Qqd, Qg1, Qqo, Qe4, Q107]
    cases (m - a == 1) with
    | true => rfl
    | false =>
      cases (b - m == 1) with
      | true => rfl
      | false =>
        simp only [cond_false]
        unfold sst
        cases decide ((a + b) / 2 < m) with
        | true =>
          simp only [cond_true]
          generalize bs (sg Q1y Q28 d ((a + b) / 2 + m - 1)) (((a + b) / 2 - ((a + b) / 2 + m - b)).toNat + 1) ((a + b) / 2 + m - b) ((a + b) / 2) = st
          unfold sym2
          generalize (a + b) / 2 = mid
          cases decide (st < m) <;> cases decide (m < mid + m - st) <;> cases decide (a < st) <;> cases decide (st < mid) <;> cases decide (mid < mid + m - st) <;> cases decide (mid + m - st < b) <;> rfl
        | false =>
          simp only [cond_false]
          generalize bs (sg Q1y Q28 d ((a + b) / 2 + m - 1)) ((m - a).toNat + 1) a m = st
          unfold sym2
          generalize (a + b) / 2 = mid
          cases decide (st < m) <;> cases decide (m < mid + m - st) <;> cases decide (a < st) <;> cases decide (st < mid) <;> cases decide (mid < mid + m - st) <;> cases decide (mid + m - st < b) <;> rfl
theorem Qji (n0 : Nat) (n : Int) : ∀ (k : Nat) (v : List Fld) (a b : Int), Q20 n0 n k v a b = stb0 Q1y Q28 n k v a b
  | 0, _, _, _ => rfl
  | k + 1, v, a, b => by
    rw [Q20, stb0, Qji n0 n k, Qnq]
theorem Qkb (n0 : Nat) (n : Int) : ∀ (k : Nat) (v : List Fld) (a b s : Int), Qc n0 n k v a b s = stb2 Q1y Q28 n k v a b s
  | 0, _, _, _, _ => rfl
  | k + 1, v, a, b, s => by
    rw [Qc, stb2, Qkb n0 n k, Qcw]
theorem Qj2 (n0 : Nat) (n : Int) : ∀ (k : Nat) (v : List Fld) (s : Int), Q2r n0 n k v s = stb1 Q1y Q28 n k v s
  | 0, _, _ => rfl
  | k + 1, v, s => by
    rw [Q2r, stb1]
    simp only [Qj2 n0 n k, Qkb, Qcw]
    rfl
theorem Qz9 (n0 : Nat) (d : List Fld) (n : Int) : Q3e n0 d n = stb Q1y Q28 d n := by
  unfold Q3e stb
  simp only [Qj2, Qnq, Qji]
theorem Qxv (T : Tot Q28) (d : List Fld) : Qk d.length d = Q61 Q28 d := by
  unfold Qk
  rw [Qz9, Qyi _ T d _ rfl]
end Go.Proofs.Ytnhhddbbppbblaa
end

section
/- What setting and taking out a field computes (printed by a program). -/
namespace Go.Proofs.Ytnhhddbbppbblaa
open Go.Pv
def Q2f (p0 : Val) (p1 : ByteArray) (p2 : Val) : Val :=
 (Q7r (List.take (Q2j p0 p1).1 (Q2j p0 p1).2 ++ [(Fld.mk p1 p2)]))
def Q19l (p0 : Val) (p1 : ByteArray) (p2 : Val) : En := .call 30 [.agg (Val.cells p0), .str p1, .agg (Val.cells p2)] []
def Q165 (p0 : Val) (p1 : ByteArray) (p2 : Val) : Rs := .ret (.agg (Val.cells (Q2f p0 p1 p2))) []
def Qgp (p0 : Val) (p1 : ByteArray) (p2 : Val) : Prop := (Q12c p0 p1) ∧ ((Q2j p0 p1).1 ≤ List.length (Q2j p0 p1).2) ∧ (((Q2j p0 p1).1 + 1) * 96 ≤ 140737488355328) ∧ (Qr9 (List.take (Q2j p0 p1).1 (Q2j p0 p1).2 ++ [(Fld.mk p1 p2)])) ∧ True
theorem Quv (p0 : Val) (p1 : ByteArray) (p2 : Val) (H : Qgp p0 p1 p2) : Q7 G (Q19l p0 p1 p2) (Q165 p0 p1 p2) := by
 unfold Q165 Q2f
 exact Q8 (fn := Ir.K1p) rfl VOK.nil [hQ (Fld.Q5 (Q2j p0 p1).2 6 rfl), hV 10 [(640, Fld.rows (List.take (Q2j p0 p1).1 (Q2j p0 p1).2 ++ [(Fld.mk p1 p2)]))] (Q16h 320 576 640 6 96 0 true (Fld.rows (Q2j p0 p1).2) (Fld.rows (List.take (Q2j p0 p1).1 (Q2j p0 p1).2 ++ [(Fld.mk p1 p2)])) (Fld.cells (Fld.mk p1 p2)) (Q2j p0 p1).1 (List.length (List.take (Q2j p0 p1).1 (Q2j p0 p1).2 ++ [(Fld.mk p1 p2)])) rfl (by rw [Fld.Qd]; exact (H.2.1)) (Fld.Qd (List.take (Q2j p0 p1).1 (Q2j p0 p1).2 ++ [(Fld.mk p1 p2)])).symm (by rw [Fld.Qbl, Fld.Ql4]) (Fld.Qp (Q2j p0 p1).2) rfl (H.2.2.1)), hS 0 true (Fld.Q5 (List.take (Q2j p0 p1).1 (Q2j p0 p1).2 ++ [(Fld.mk p1 p2)]) 6 rfl), hQ (Fld.Qd (List.take (Q2j p0 p1).1 (Q2j p0 p1).2 ++ [(Fld.mk p1 p2)])).symm] [aV [(0, Fld.rows (Q2j p0 p1).2)] (Q171 p0 p1 H.1), aN (Qye (List.take (Q2j p0 p1).1 (Q2j p0 p1).2 ++ [(Fld.mk p1 p2)]) H.2.2.2.1)] (by kernel_rfl)
def Qdd (p0 : Val) (p1 : ByteArray) : Val :=
 bif (p0.kind == 5) then
  (Q7r (Q2j p0 p1).2)
 else
  p0
def Q192 (p0 : Val) (p1 : ByteArray) : En := .call 28 [.agg (Val.cells p0), .str p1] []
def Q17k (p0 : Val) (p1 : ByteArray) : Rs := .ret (.agg (Val.cells (Qdd p0 p1))) []
def Q12a (p0 : Val) (p1 : ByteArray) : Prop := (Q12c p0 p1) ∧ ((p0.kind == 5) = true → (Q2j p0 p1).1 = List.length (Q2j p0 p1).2) ∧ (Qr9 (Q2j p0 p1).2) ∧ (Qg2 p0) ∧ True
theorem Q18k (p0 : Val) (p1 : ByteArray) (H : Q12a p0 p1) : Q7 G (Q192 p0 p1) (Q17k p0 p1) := by
 unfold Q17k Qdd
 cases h0 : (p0.kind == 5) with
 | true =>
  exact Q8 (fn := Ir.K1q) rfl VOK.nil [hP 4 (dec (!(p0.kind == 5)) false (by rw [h0]; rfl)), hQ (Fld.Q5 (Q2j p0 p1).2 6 rfl), hQ ((H.2.1 h0).trans (Fld.Qd (Q2j p0 p1).2).symm)] [aV [(0, Fld.rows (Q2j p0 p1).2)] (Q171 p0 p1 H.1), aN (Qye (Q2j p0 p1).2 H.2.2.1)] (by kernel_rfl)
 | false =>
  exact Q8 (fn := Ir.K1q) rfl VOK.nil [hP 4 (dec (!(p0.kind == 5)) true (by rw [h0]; rfl))] [aN (Q139 p0 H.2.2.2.1)] (by kernel_rfl)
end Go.Proofs.Ytnhhddbbppbblaa
end

section
/- Comparisons that answer -1, 0 or 1; the order of strings. -/
namespace Go.Pv
def R3 (a : Int) : Prop := a = -1 ∨ a = 0 ∨ a = 1
def T3 (a b e : Int) : Prop := (a = 0 → e = b) ∧ (b = 0 → e = a) ∧ (a = b → e = a)
def lx (a b : Int) : Int := if a = 0 then b else a
def icmp (a b : Int) : Int := if a < b then -1 else if b < a then 1 else 0
theorem Qaw (a b : Int) : lx (-a) (-b) = -lx a b := by
  unfold lx
  split <;> split <;> omega
theorem Q19x {a b e a' b' e' : Int} (_ha : R3 a) (_hb : R3 b) (_he : R3 e) (t : T3 a b e) (t' : T3 a' b' e') : T3 (lx a a') (lx b b') (lx e e') := by
  unfold T3 at *
  unfold lx R3 at *
  split <;> split <;> split <;> omega
theorem Qre (a b : Int) : R3 (icmp a b) := by
  unfold icmp R3
  split
  · omega
  · split <;> omega
theorem Ql1 (a b : Int) : icmp b a = -icmp a b := by
  unfold icmp
  split <;> split <;> first | omega | (split <;> omega) | skip
  all_goals omega
theorem Q14l (a b e : Int) : T3 (icmp a b) (icmp b e) (icmp a e) := by
  unfold T3 icmp
  split <;> split <;> split <;> (try split) <;> (try split) <;> (try split) <;> omega
theorem Qds {a b : Int} : icmp a b = 0 ↔ a = b := by
  unfold icmp
  constructor
  · intro h
    split at h
    · omega
    · split at h <;> omega
  · intro h
    rw [if_neg (by omega), if_neg (by omega)]
theorem Qrm : ∀ a b : List UInt8, R3 (cmpL a b)
  | [], [] => Or.inr (Or.inl rfl)
  | [], _ :: _ => Or.inl rfl
  | _ :: _, [] => Or.inr (Or.inr rfl)
  | x :: a, y :: b => by
    rw [cmpL]
    split
    · exact Or.inl rfl
    · split
      · exact Or.inr (Or.inr rfl)
      · exact Qrm a b
theorem Q57 (x y : UInt8) (a b : List UInt8) : cmpL (x :: a) (y :: b) = lx (icmp (x.toNat : Int) (y.toNat : Int)) (cmpL a b) := by
  rw [cmpL]
  unfold lx icmp
  simp only [UInt8.lt_iff_toNat_lt]
  by_cases h1 : x.toNat < y.toNat
  · rw [if_pos h1, if_pos (show (x.toNat : Int) < (y.toNat : Int) by omega)]
    rfl
  · by_cases h2 : y.toNat < x.toNat
    · rw [if_neg h1, if_pos h2, if_neg (show ¬ (x.toNat : Int) < (y.toNat : Int) by omega), if_pos (show (y.toNat : Int) < (x.toNat : Int) by omega)]
      rfl
    · rw [if_neg h1, if_neg h2, if_neg (show ¬ (x.toNat : Int) < (y.toNat : Int) by omega), if_neg (show ¬ (y.toNat : Int) < (x.toNat : Int) by omega)]
      rfl
theorem Qmn : ∀ a b : List UInt8, cmpL b a = -cmpL a b
  | [], [] => rfl
  | [], _ :: _ => rfl
  | _ :: _, [] => rfl
  | x :: a, y :: b => by rw [Q57, Q57, Qmn a b, Ql1 (x.toNat : Int) (y.toNat : Int), Qaw]
theorem Q10f : ∀ a b d : List UInt8, T3 (cmpL a b) (cmpL b d) (cmpL a d)
  | [], [], [] => by simp [T3, cmpL]
  | [], [], _ :: _ => by simp [T3, cmpL]
  | [], _ :: _, [] => by simp [T3, cmpL]
  | [], _ :: _, _ :: _ => by simp [T3, cmpL]
  | _ :: _, [], [] => by simp [T3, cmpL]
  | _ :: _, [], _ :: _ => by simp [T3, cmpL]
  | x :: a, y :: b, [] => by
    have h := Qrm (x :: a) (y :: b)
    unfold R3 at h
    unfold T3
    rw [show cmpL (y :: b) [] = 1 from rfl, show cmpL (x :: a) [] = 1 from rfl]
    omega
  | x :: a, y :: b, w :: d => by
    rw [Q57, Q57, Q57]
    exact Q19x (Qre _ _) (Qre _ _) (Qre _ _) (Q14l _ _ _) (Q10f a b d)
theorem Qqt : ∀ a b : List UInt8, cmpL a b = 0 → a = b
  | [], [], _ => rfl
  | [], _ :: _, h => by simp [cmpL] at h
  | _ :: _, [], h => by simp [cmpL] at h
  | x :: a, y :: b, h => by
    rw [Q57] at h
    unfold lx at h
    split at h
    · rename_i e
      have := Qds.1 e
      rw [UInt8.toNat_inj.1 (show x.toNat = y.toNat by omega), Qqt a b h]
    · omega
theorem Q10c (a : List UInt8) : cmpL a a = 0 := by
  have := Qmn a a
  omega
theorem Qsm : ∀ a b : List UInt8, Op.bytesLess a b = decide (cmpL a b < 0)
  | [], [] => rfl
  | [], _ :: _ => rfl
  | _ :: _, [] => rfl
  | x :: a, y :: b => by
    have ih := Qsm a b
    rw [Op.bytesLess, cmpL, ih]
    by_cases h : x < y
    · simp [h]
    · by_cases h2 : y < x
      · have h3 : ¬ x = y := fun e => h (e ▸ h2)
        simp [h, h2, h3]
      · have h3 : x = y := by
          rw [UInt8.lt_iff_toNat_lt] at h h2
          exact UInt8.toNat_inj.1 (by omega)
        simp [h3]
theorem Q9s (a b : ByteArray) : R3 (sCmp a b) := Qrm _ _
theorem Q3g (a b : ByteArray) : sCmp b a = -sCmp a b := Qmn _ _
theorem Q10r (a b d : ByteArray) : T3 (sCmp a b) (sCmp b d) (sCmp a d) := Q10f _ _ _
theorem Q6i {a b : ByteArray} : sCmp a b = 0 ↔ a = b := ⟨fun h => toList_inj (Qqt _ _ h), fun h => by rw [h]; exact Q10c _⟩
theorem Qro (a b : ByteArray) : sLt a b = decide (sCmp a b < 0) := Qsm _ _
theorem Q158 (a b : ByteArray) : sEq a b = decide (sCmp a b = 0) := by
  rw [Q15e]
  simp only [Q6i]
theorem Q14x (a b : ByteArray) : (sLt a b || sEq a b) = !sLt b a := by
  rw [Qro, Q158, Qro, Q3g a b]
  have := Q9s a b
  unfold R3 at this
  rcases this with h | h | h <;> rw [h] <;> rfl
end Go.Pv
end

section
/- Values in plain words: the two comparisons agree and answer 0 for equal values alone. -/
namespace Go.Proofs.Ytnhhddbbppbblaa
open Go.Pv
theorem vind {P : Val → Prop} (h : ∀ v : Val, (∀ x ∈ v.list, P x) → (∀ f ∈ v.fields, P f.v) → P v) : ∀ v, P v := by
  have key : ∀ (k : Nat) (v : Val), SizeOf.sizeOf v < k → P v := by
    intro k
    induction k with
    | zero => intro v hv; exact absurd hv (Nat.not_lt_zero _)
    | succ k ih => intro v hv; exact h v (fun x hx => ih x (by have := szM hx; omega)) (fun f hf => ih f.v (by have := szN hf; omega))
  exact fun v => key _ v (Nat.lt_succ_self _)
def orL : List Int → Int
  | [] => 0
  | a :: l => lx a (orL l)
theorem Q189 (p : List Int) : ∀ (l : List Int) (i : Nat), (match Q62 p l i 0 with | .k0 y => y | .k1 y => y) = orL l
  | [], _ => rfl
  | a :: l, i => by
    rw [Q62, orL]
    unfold lx
    by_cases h : a = 0
    · rw [show (a == 0) = true by simpa using h, cond_true, if_pos h]
      exact Q189 p l (i + 1)
    · rw [show (a == 0) = false by simpa using h, cond_false, if_neg h]
theorem or_eq (l : List Int) : s_K1 l = orL l := by
  rw [← Q189 l l 0]
  rfl
theorem lx0 (a : Int) : lx a 0 = a := by
  unfold lx
  split <;> omega
theorem Q111 (a b : Int) : s_K0 a b = icmp a b := by
  unfold s_K0 s_K2 icmp
  simp only [beq_self_eq_true, Bool.not_true, cond_false]
  by_cases h1 : a < b
  · rw [show decide (a < b) = true by simpa using h1, if_pos h1]
    rfl
  · rw [show decide (a < b) = false by simpa using h1, if_neg h1]
    by_cases h2 : b < a
    · rw [show decide (b < a) = true by simpa using h2, if_pos h2]
      rfl
    · rw [show decide (b < a) = false by simpa using h2, if_neg h2]
      rfl
theorem vcmp (a b : Val) : Q2h a b = lx (icmp a.kind b.kind) (lx (icmp a.n b.n) (lx (sCmp a.s b.s) (lx (lcV a.list b.list) (lcF a.fields b.fields)))) := by
  rw [Q2h, or_eq, Q111, Q111]
  show lx _ (lx _ (lx _ (lx _ (lx _ 0)))) = _
  rw [lx0]
  rfl
theorem fcmp (x y : Fld) : s_K1 [Qb7 x.name y.name, Q2h x.v y.v] = lx (sCmp x.name y.name) (Q2h x.v y.v) := by
  rw [or_eq]
  show lx _ (lx _ 0) = _
  rw [lx0]
  rfl
theorem Qln (x y : Val) (l m : List Val) : lcV (x :: l) (y :: m) = lx (Q2h x y) (lcV l m) := by
  rw [lcV]
  unfold lx
  by_cases h : Q2h x y = 0
  · rw [show (Q2h x y == 0) = true by simpa using h, cond_true, if_pos h]
  · rw [show (Q2h x y == 0) = false by simpa using h, cond_false, if_neg h]
theorem Qky (x y : Fld) (l m : List Fld) : lcF (x :: l) (y :: m) = lx (lx (sCmp x.name y.name) (Q2h x.v y.v)) (lcF l m) := by
  rw [lcF, fcmp]
  generalize lx (sCmp x.name y.name) (Q2h x.v y.v) = c
  unfold lx
  by_cases h : c = 0
  · rw [show (c == 0) = true by simpa using h, cond_true, if_pos h]
  · rw [show (c == 0) = false by simpa using h, cond_false, if_neg h]
theorem Q113 (y : Val) (m : List Val) : lcV [] (y :: m) = -1 := by rw [lcV]
theorem Q10i (x : Val) (l : List Val) : lcV (x :: l) [] = 1 := by rw [lcV]
theorem Q181 : lcV [] [] = 0 := by rw [lcV]
theorem Q114 (y : Fld) (m : List Fld) : lcF [] (y :: m) = -1 := by rw [lcF]
theorem Qzk (x : Fld) (l : List Fld) : lcF (x :: l) [] = 1 := by rw [lcF]
theorem Q15s : lcF [] [] = 0 := by rw [lcF]
theorem Q10o : ∀ (l m : List Val), (∀ x ∈ l, ∀ y, Q2h y x = -Q2h x y) → lcV m l = -lcV l m
  | [], [], _ => by rw [Q181]; rfl
  | [], _ :: _, _ => by rw [Q113, Q10i]; rfl
  | _ :: _, [], _ => by rw [Q113, Q10i]
  | x :: l, y :: m, h => by rw [Qln, Qln, h x List.mem_cons_self y, Q10o l m fun z hz => h z (List.mem_cons_of_mem _ hz), Qaw]
theorem Qyd : ∀ (l m : List Fld), (∀ x ∈ l, ∀ y, Q2h y x.v = -Q2h x.v y) → lcF m l = -lcF l m
  | [], [], _ => by rw [Q15s]; rfl
  | [], _ :: _, _ => by rw [Q114, Qzk]; rfl
  | _ :: _, [], _ => by rw [Q114, Qzk]
  | x :: l, y :: m, h => by rw [Qky, Qky, h x List.mem_cons_self y.v, Q3g x.name y.name, Qaw, Qyd l m fun z hz => h z (List.mem_cons_of_mem _ hz), Qaw]
theorem Q14n : ∀ a b : Val, Q2h b a = -Q2h a b := vind fun a h1 h2 b => by
  rw [vcmp, vcmp, Ql1 a.kind b.kind, Ql1 a.n b.n, Q3g a.s b.s, Q10o _ _ h1, Qyd _ _ h2, Qaw, Qaw, Qaw, Qaw]
theorem Q12h (a : Val) : Q2h a a = 0 := by
  have := Q14n a a
  omega
theorem Q11m (a b : Val) : Q5h a b = (Q2h a b == 0) := rfl
theorem Qtf : ∀ (l m : List Val), (∀ x ∈ l, ∀ y, Q2h x y = 0 → x = y) → lcV l m = 0 → l = m
  | [], [], _, _ => rfl
  | [], _ :: _, _, h => by rw [Q113] at h; omega
  | _ :: _, [], _, h => by rw [Q10i] at h; omega
  | x :: l, y :: m, hx, h => by
    rw [Qln] at h
    unfold lx at h
    split at h
    · rename_i e
      rw [hx x List.mem_cons_self y e, Qtf l m (fun z hz => hx z (List.mem_cons_of_mem _ hz)) h]
    · rename_i e
      exact absurd h e
theorem Q10y {x y : Int} (h : lx x y = 0) : x = 0 ∧ y = 0 := by
  unfold lx at h
  split at h <;> simp_all
theorem Qu8 : ∀ (l m : List Fld), (∀ x ∈ l, ∀ y, Q2h x.v y = 0 → x.v = y) → lcF l m = 0 → l = m
  | [], [], _, _ => rfl
  | [], _ :: _, _, h => by rw [Q114] at h; omega
  | _ :: _, [], _, h => by rw [Qzk] at h; omega
  | x :: l, y :: m, hx, h => by
    rw [Qky] at h
    obtain ⟨g, h⟩ := Q10y h
    obtain ⟨e1, e2⟩ := Q10y g
    have e1 := Q6i.1 e1
    have e2 := hx x List.mem_cons_self y.v e2
    rw [show x = y by cases x; cases y; simp only [Fld.name, Fld.v] at e1 e2; rw [e1, e2], Qu8 l m (fun z hz => hx z (List.mem_cons_of_mem _ hz)) h]
theorem Q12m : ∀ a b : Val, Q2h a b = 0 → a = b := vind fun a h1 h2 b h => by
  rw [vcmp] at h
  unfold lx at h
  have z : ∀ {x y : Int}, (if x = 0 then y else x) = 0 → x = 0 ∧ y = 0 := fun {x y} h => by split at h <;> simp_all
  obtain ⟨g1, h⟩ := z h
  obtain ⟨g2, h⟩ := z h
  obtain ⟨g3, h⟩ := z h
  obtain ⟨g4, g5⟩ := z h
  have e1 := Qds.1 g1
  have e2 := Qds.1 g2
  have e3 := Q6i.1 g3
  have e4 := Qtf _ _ h1 g4
  have e5 := Qu8 _ _ h2 g5
  cases a
  cases b
  simp only [Val.kind, Val.n, Val.s, Val.list, Val.fields] at e1 e2 e3 e4 e5
  rw [e1, e2, e3, e4, e5]
theorem Qij (a b : Val) : Q5h a b = true ↔ a = b := by
  rw [Q11m]
  constructor
  · intro h
    exact Q12m a b (eq_of_beq h)
  · rintro rfl
    rw [Q12h]
    rfl
theorem Qt0 (p q : Val) : ∀ (r : List Val) (i : Nat), p.list.drop i = r → p.list.length = q.list.length → (∀ x ∈ r, ∀ y, s_Ky x y = true ↔ x = y) → (Q52 p q r i = .k0 ↔ q.list.drop i = r)
  | [], i, hd, hl, _ => by
    rw [Q52]
    have := List.drop_eq_nil_iff.1 hd
    simp [List.drop_eq_nil_iff.2 (hl ▸ this)]
  | x :: r, i, hd, hl, hx => by
    obtain ⟨h1, h2, h3⟩ := Q1b hd
    have hq : i < q.list.length := by omega
    rw [Q52, List.drop_eq_getElem_cons hq, List.getD_eq_getElem?_getD, List.getElem?_eq_getElem hq, Option.getD_some]
    have ih := Qt0 p q r (i + 1) h3 hl fun y hy => hx y (List.mem_cons_of_mem _ hy)
    have k := hx x List.mem_cons_self q.list[i]
    cases e : s_Ky x q.list[i] with
    | true =>
      rw [cond_true, ih]
      have e' := k.1 e
      constructor
      · intro g; rw [g, ← e']
      · intro g; injection g
    | false =>
      rw [cond_false]
      constructor
      · intro g; cases g
      · intro g
        injection g with g1 g2
        rw [k.2 g1.symm] at e
        cases e
theorem Qsu (p q : Val) : ∀ (r : List Fld) (i : Nat), p.fields.drop i = r → p.fields.length = q.fields.length → (∀ x ∈ r, ∀ y, s_Ky x.v y = true ↔ x.v = y) → (Q4w p q r i = .k0 ↔ q.fields.drop i = r)
  | [], i, hd, hl, _ => by
    rw [Q4w]
    have := List.drop_eq_nil_iff.1 hd
    simp [List.drop_eq_nil_iff.2 (hl ▸ this)]
  | x :: r, i, hd, hl, hx => by
    obtain ⟨h1, h2, h3⟩ := Q1b hd
    have hq : i < q.fields.length := by omega
    rw [Q4w, List.drop_eq_getElem_cons hq, List.getD_eq_getElem?_getD, List.getElem?_eq_getElem hq, Option.getD_some]
    have ih := Qsu p q r (i + 1) h3 hl fun y hy => hx y (List.mem_cons_of_mem _ hy)
    have k := hx x List.mem_cons_self q.fields[i].v
    cases en : sEq x.name q.fields[i].name with
    | false =>
      rw [cond_false]
      constructor
      · intro g; cases g
      · intro g
        injection g with g1 g2
        rw [g1] at en
        exact absurd (Q2v.2 rfl) (by rw [en]; simp)
    | true =>
      rw [cond_true]
      cases e : s_Ky x.v q.fields[i].v with
      | true =>
        rw [cond_true, ih]
        have e' := k.1 e
        have e1 : x = q.fields[i] := by
          have n := Q2v.1 en
          revert e' n
          generalize q.fields[i] = y
          intro a b
          cases x; cases y
          simp only [Fld.name, Fld.v] at a b
          rw [a, b]
        constructor
        · intro g; rw [g, ← e1]
        · intro g; injection g
      | false =>
        rw [cond_false]
        constructor
        · intro g; cases g
        · intro g
          injection g with g1 g2
          rw [k.2 (by rw [g1])] at e
          cases e
theorem Qxz : ∀ a b : Val, s_Ky a b = true ↔ a = b := vind fun a h1 h2 b => by
  have b0 := fun hl => Qt0 a b a.list 0 rfl hl h1
  have b1 := fun hl => Qsu a b a.fields 0 rfl hl h2
  rw [s_Ky]
  constructor
  · intro h
    cases c1 : a.kind == b.kind with
    | false => rw [c1] at h; cases h
    | true =>
      rw [c1, cond_true] at h
      cases c2 : a.n == b.n with
      | false => rw [c2] at h; cases h
      | true =>
        rw [c2, cond_true] at h
        cases c3 : sEq a.s b.s with
        | false => rw [c3] at h; cases h
        | true =>
          rw [c3, cond_true] at h
          cases c4 : ((a.list.length : Int) == (b.list.length : Int)) with
          | false => rw [c4] at h; cases h
          | true =>
            rw [c4, cond_true] at h
            cases c5 : ((a.fields.length : Int) == (b.fields.length : Int)) with
            | false => rw [c5] at h; cases h
            | true =>
              rw [c5, cond_true] at h
              have e4 := eq_of_beq c4
              have e5 := eq_of_beq c5
              cases l0 : Q52 a b a.list 0 with
              | k1 => rw [l0] at h; cases h
              | k0 =>
                rw [l0] at h
                cases l1 : Q4w a b a.fields 0 with
                | k1 => rw [l1] at h; cases h
                | k0 =>
                  have g0 := (b0 (by omega)).1 l0
                  have g1 := (b1 (by omega)).1 l1
                  rw [List.drop_zero] at g0 g1
                  have q1 := eq_of_beq c1
                  have q2 := eq_of_beq c2
                  have q3 := Q2v.1 c3
                  revert q1 q2 q3 g0 g1
                  clear h b0 b1 h1 h2 l0 l1 c1 c2 c3 c4 c5 e4 e5
                  cases a; cases b
                  simp only [Val.kind, Val.n, Val.s, Val.list, Val.fields]
                  intro q1 q2 q3 g0 g1
                  rw [q1, q2, q3, g0, g1]
  · rintro rfl
    rw [(b0 rfl).2 rfl, (b1 rfl).2 rfl, Q2v.2 rfl]
    simp
end Go.Proofs.Ytnhhddbbppbblaa
end

section
/- Lists of fields: strictly sorted lists are known by their members; keeping the last field of each name of a sorted list; putting a field into a sorted list. -/
namespace Go.Pv
open Srt
theorem Q4f (a : ByteArray) : sCmp a a = 0 := Q6i.2 rfl
theorem Qlj {a b d : ByteArray} (h : sCmp a b < 0) (g : sCmp b d < 0) : sCmp a d < 0 := by
  have t := Q10r a b d
  have h1 := Q9s a b
  have h2 := Q9s b d
  unfold R3 at h1 h2
  unfold T3 at t
  omega
theorem Qdn {a b : ByteArray} : sEq a b = false ↔ a ≠ b := by
  cases h : sEq a b with
  | true => simp [Q2v.1 h]
  | false => exact ⟨fun _ e => (by rw [Q2v.2 e] at h; cases h), fun _ => rfl⟩
theorem Q8q (a b : ByteArray) : sCmp a b < 0 ∨ a = b ∨ sCmp b a < 0 := by
  have h1 := Q9s a b
  have h2 := Q3g a b
  have h3 : sCmp a b = 0 → a = b := Q6i.1
  unfold R3 at h1
  by_cases e : sCmp a b = 0
  · exact .inr (.inl (h3 e))
  · omega
theorem Q77 {α : Type} (f : α → ByteArray) : Tot (fun x y : α => sCmp (f x) (f y)) := by
  refine ⟨fun x y h => ?_, fun x y w h g => ?_⟩
  · rw [Q3g]
    omega
  · have t := Q10r (f w) (f y) (f x)
    have h1 := Q9s (f w) (f y)
    have h2 := Q9s (f y) (f x)
    rw [Q3g] at h
    rw [Q3g] at g
    have h3 := Q3g (f w) (f y)
    have h4 := Q3g (f y) (f x)
    have h5 := Q3g (f y) (f w)
    have h6 := Q3g (f x) (f y)
    unfold R3 at h1 h2
    unfold T3 at t
    omega
abbrev nlt (x y : Fld) : Prop := sCmp x.name y.name < 0
def SS (l : List Fld) : Prop := l.Pairwise nlt
theorem SS.cons {x : Fld} {l : List Fld} : SS (x :: l) ↔ (∀ y ∈ l, nlt x y) ∧ SS l := List.pairwise_cons
theorem SS.nil : SS [] := List.Pairwise.nil
theorem Qra (x : Fld) : ¬ nlt x x := by unfold nlt; rw [Q4f]; omega
theorem Qsn : ∀ {l r : List Fld}, SS l → SS r → (∀ f, f ∈ l ↔ f ∈ r) → l = r
  | [], [], _, _, _ => rfl
  | [], y :: r, _, _, h => by have := (h y).2 List.mem_cons_self; cases this
  | x :: l, [], _, _, h => by have := (h x).1 List.mem_cons_self; cases this
  | x :: l, y :: r, hl, hr, h => by
    obtain ⟨hx, hl'⟩ := SS.cons.1 hl
    obtain ⟨hy, hr'⟩ := SS.cons.1 hr
    have e : x = y := by
      rcases List.mem_cons.1 ((h x).1 List.mem_cons_self) with e | e
      · exact e
      · rcases List.mem_cons.1 ((h y).2 List.mem_cons_self) with e' | e'
        · exact e'.symm
        · exact absurd (Qlj (hx y e') (hy x e)) (Qra x)
    subst e
    have k1 : ∀ f, f ∈ l → f ∈ r := fun f hf => by
      rcases List.mem_cons.1 ((h f).1 (List.mem_cons_of_mem _ hf)) with e | e
      · subst e; exact absurd (hx _ hf) (Qra _)
      · exact e
    have k2 : ∀ f, f ∈ r → f ∈ l := fun f hf => by
      rcases List.mem_cons.1 ((h f).2 (List.mem_cons_of_mem _ hf)) with e | e
      · subst e; exact absurd (hy _ hf) (Qra _)
      · exact e
    rw [Qsn hl' hr' fun f => ⟨k1 f, k2 f⟩]
theorem SS.filter {l : List Fld} (h : SS l) (p : Fld → Bool) : SS (l.filter p) := h.sublist List.filter_sublist
theorem SS.inj {l : List Fld} (h : SS l) {x y : Fld} (hx : x ∈ l) (hy : y ∈ l) (e : x.name = y.name) : x = y := by
  induction l with
  | nil => cases hx
  | cons z l ih =>
    obtain ⟨hz, hl⟩ := SS.cons.1 h
    rcases List.mem_cons.1 hx with e1 | hx' <;> rcases List.mem_cons.1 hy with e2 | hy'
    · rw [e1, e2]
    · subst e1; have := hz y hy'; unfold nlt at this; rw [e, Q4f] at this; omega
    · subst e2; have := hz x hx'; unfold nlt at this; rw [e, Q4f] at this; omega
    · exact ih hl hx' hy'
def lastOf (l : List Fld) (f : Fld) : Prop := (l.filter fun y => decide (y.name = f.name)).getLast? = some f
theorem Q9t (f : Fld) : ¬ lastOf [] f := by simp [lastOf]
theorem Qri (l : List Fld) (x f : Fld) : lastOf (l ++ [x]) f ↔ f = x ∨ (lastOf l f ∧ f.name ≠ x.name) := by
  unfold lastOf
  rw [List.filter_append]
  by_cases h : x.name = f.name
  · rw [show ([x].filter fun y => decide (y.name = f.name)) = [x] by simp [h], List.getLast?_append]
    simp [h, eq_comm]
  · rw [show ([x].filter fun y => decide (y.name = f.name)) = [] by simp [h], List.append_nil]
    exact ⟨fun g => .inr ⟨g, fun e => h e.symm⟩, fun g => by
      rcases g with rfl | g
      · exact absurd rfl h
      · exact g.1⟩
theorem Q7n (x f : Fld) (l : List Fld) : lastOf (x :: l) f ↔ lastOf l f ∨ (f = x ∧ ∀ y ∈ l, y.name ≠ x.name) := by
  unfold lastOf
  by_cases h : x.name = f.name
  · rw [List.filter_cons_of_pos (by simpa using h)]
    cases e : l.filter fun y => decide (y.name = f.name) with
    | nil =>
      have := List.filter_eq_nil_iff.1 e
      simp only [List.getLast?_singleton, Option.some.injEq, List.getLast?_nil, reduceCtorEq, false_or]
      exact ⟨fun g => ⟨g.symm, fun y hy => by have := this y hy; rw [h]; simpa using this⟩, fun g => g.1.symm⟩
    | cons a r =>
      rw [List.getLast?_cons_cons]
      refine ⟨.inl, fun g => ?_⟩
      rcases g with g | g
      · exact g
      · have : a ∈ l.filter fun y => decide (y.name = f.name) := by rw [e]; exact List.mem_cons_self
        obtain ⟨h1, h2⟩ := List.mem_filter.1 this
        exact absurd ((of_decide_eq_true h2).trans (by rw [g.1])) (g.2 a h1)
  · rw [List.filter_cons_of_neg (by simpa using h)]
    exact ⟨.inl, fun g => by
      rcases g with g | g
      · exact g
      · exact absurd (by rw [g.1]) h⟩
theorem Qxa {l : List Fld} {f : Fld} (h : lastOf l f) : f ∈ l := (List.mem_filter.1 (List.mem_of_getLast? h)).1
theorem Q11u {l : List Fld} (h : SS l) (f : Fld) : lastOf l f ↔ f ∈ l := by
  induction l with
  | nil => exact ⟨fun g => absurd g (Q9t f), fun g => by cases g⟩
  | cons x l ih =>
    obtain ⟨hx, hl⟩ := SS.cons.1 h
    rw [Q7n, ih hl, List.mem_cons]
    exact ⟨fun g => g.elim .inr fun g => .inl g.1, fun g => g.elim (fun g => .inr ⟨g, fun y hy e => by have := hx y hy; unfold nlt at this; rw [e, Q4f] at this; omega⟩) .inl⟩
def lasts : List Fld → List Fld
  | [] => []
  | [x] => [x]
  | x :: y :: r => bif sEq y.name x.name then lasts (y :: r) else x :: lasts (y :: r)
abbrev cNm (x y : Fld) : Int := sCmp x.name y.name
theorem Qpz : ∀ (l : List Fld), Up cNm l → ∀ f, f ∈ lasts l ↔ lastOf l f
  | [], _, f => ⟨fun g => (by cases g), fun g => absurd g (Q9t f)⟩
  | [x], _, f => by
    rw [Q7n]
    simp [lasts, Q9t]
  | x :: y :: r, h, f => by
    have h' := List.pairwise_cons.1 h
    have ih := Qpz (y :: r) h'.2 f
    rw [lasts, Q7n]
    cases e : sEq y.name x.name with
    | true =>
      rw [cond_true, ih]
      exact ⟨.inl, fun g => g.elim id fun g => absurd (Q2v.1 e) (g.2 y List.mem_cons_self)⟩
    | false =>
      rw [cond_false, List.mem_cons, ih]
      refine ⟨fun g => g.elim (fun g => .inr ⟨g, fun w hw hn => ?_⟩) .inl, fun g => g.elim .inr fun g => .inl g.1⟩
      have e := Qdn.1 e
      rcases List.mem_cons.1 hw with rfl | hw
      · exact e hn
      · have h1 := (List.pairwise_cons.1 h'.2).1 w hw
        have h2 := h'.1 y List.mem_cons_self
        unfold le cNm at h1 h2
        rw [hn] at h1
        rcases Q8q x.name y.name with g | g | g
        · exact h1 g
        · exact e g.symm
        · exact h2 g
theorem Q6c : ∀ (l : List Fld), (lasts l).Sublist l
  | [] => List.Sublist.slnil
  | [x] => List.Sublist.refl _
  | x :: y :: r => by
    rw [lasts]
    cases sEq y.name x.name with
    | true => exact (Q6c (y :: r)).cons x
    | false => exact (Q6c (y :: r)).cons_cons x
theorem Q12v (l : List Fld) (h : Up cNm l) : SS (lasts l) := by
  induction l with
  | nil => exact SS.nil
  | cons x l ih =>
    cases l with
    | nil => exact SS.cons.2 ⟨fun _ g => (by cases g), SS.nil⟩
    | cons y r =>
      have h' := List.pairwise_cons.1 h
      rw [lasts]
      cases e : sEq y.name x.name with
      | true => exact ih h'.2
      | false =>
        rw [cond_false]
        refine SS.cons.2 ⟨fun w hw => ?_, ih h'.2⟩
        have e := Qdn.1 e
        have h2 := h'.1 y List.mem_cons_self
        unfold le cNm at h2
        have hxy : sCmp x.name y.name < 0 := by
          rcases Q8q x.name y.name with g | g | g
          · exact g
          · exact absurd g.symm e
          · exact absurd g h2
        rcases List.mem_cons.1 ((Q6c _).mem hw) with rfl | hw
        · exact hxy
        · have h1 := (List.pairwise_cons.1 h'.2).1 w hw
          unfold le cNm at h1
          unfold nlt
          rcases Q8q y.name w.name with g | g | g
          · exact Qlj hxy g
          · rw [← g]; exact hxy
          · exact absurd g h1
theorem Q16t (x y : Fld) : Srt.eqv cNm x y = decide (y.name = x.name) := by
  unfold Srt.eqv cNm
  have h1 : (y.name = x.name) ↔ (¬ sCmp x.name y.name < 0 ∧ ¬ sCmp y.name x.name < 0) := by
    constructor
    · intro e; rw [e, Q4f]; omega
    · intro ⟨g1, g2⟩
      rcases Q8q x.name y.name with g | g | g
      · exact absurd g g1
      · exact g.symm
      · exact absurd g g2
  rw [← Bool.decide_and]
  exact decide_eq_decide.2 h1.symm
theorem Q13h {l r : List Fld} (h : F cNm l r) (f : Fld) : lastOf l f ↔ lastOf r f := by
  have := h.2 f
  unfold lastOf
  rw [show (fun y : Fld => decide (y.name = f.name)) = Srt.eqv cNm f from funext fun y => (Q16t f y).symm, this]
def mapOf (l : List Fld) : List Fld := lasts (Q61 cNm l)
theorem Q8k (l : List Fld) : SS (mapOf l) := Q12v _ (Q9j (Q77 Fld.name) l)
theorem Q8j (l : List Fld) (f : Fld) : f ∈ mapOf l ↔ lastOf l f := by
  unfold mapOf
  rw [Qpz _ (Q9j (Q77 Fld.name) l)]
  exact (Q13h (Qe2 (Q77 Fld.name) l) f).symm
theorem Q86 {l : List Fld} (h : SS l) : mapOf l = l := Qsn (Q8k l) h fun f => by rw [Q8j, Q11u h]
theorem Q13g {l r : List Fld} (h : SS r) (g : ∀ f, f ∈ r ↔ lastOf l f) : mapOf l = r := Qsn (Q8k l) h fun f => by rw [Q8j, g]
theorem Qqa {α : Type} (c : α → α → Int) (T : Tot c) (l : List α) : (Q61 c l).length = l.length := (Qe2 T l).1.symm
theorem Qy0 (l : List Fld) : (mapOf l).length ≤ l.length := Nat.le_trans (Q6c _).length_le (Nat.le_of_eq (Qqa _ (Q77 Fld.name) l))
theorem Q101 {l : List Fld} {f : Fld} (h : f ∈ mapOf l) : f ∈ l := Qxa ((Q8j l f).1 h)
def insF (x : Fld) : List Fld → List Fld
  | [] => [x]
  | y :: r => if sCmp y.name x.name < 0 then y :: insF x r else if y.name = x.name then x :: r else x :: y :: r
theorem Qbc {x : Fld} : ∀ {l : List Fld}, SS l → ∀ f, f ∈ insF x l ↔ f = x ∨ (f ∈ l ∧ f.name ≠ x.name)
  | [], _, f => by simp [insF]
  | y :: r, h, f => by
    obtain ⟨hy, hr⟩ := SS.cons.1 h
    rw [insF]
    split
    · rename_i c
      rw [List.mem_cons, Qbc hr, List.mem_cons]
      have : y.name ≠ x.name := fun e => by rw [e, Q4f] at c; omega
      exact ⟨fun g => by
        rcases g with g | g | g
        · subst g; exact .inr ⟨.inl rfl, this⟩
        · exact .inl g
        · exact .inr ⟨.inr g.1, g.2⟩, fun g => by
        rcases g with g | ⟨g | g, g'⟩
        · exact .inr (.inl g)
        · exact .inl g
        · exact .inr (.inr ⟨g, g'⟩)⟩
    · rename_i c
      have ge : ∀ w ∈ r, w.name ≠ x.name := fun w hw e => by
        have := hy w hw
        unfold nlt at this
        rw [e] at this
        exact c this
      split
      · rename_i e
        rw [List.mem_cons, List.mem_cons]
        exact ⟨fun g => g.elim .inl fun g => .inr ⟨.inr g, ge f g⟩, fun g => g.elim .inl fun g => g.1.elim (fun g1 => by subst g1; exact absurd e g.2) .inr⟩
      · rename_i e
        rw [List.mem_cons, List.mem_cons]
        exact ⟨fun g => by
          rcases g with g | g | g
          · exact .inl g
          · subst g; exact .inr ⟨.inl rfl, e⟩
          · exact .inr ⟨.inr g, ge f g⟩, fun g => g.elim .inl fun g => .inr g.1⟩
theorem Qlg {x : Fld} : ∀ {l : List Fld}, SS l → SS (insF x l)
  | [], _ => SS.cons.2 ⟨fun _ g => (by cases g), SS.nil⟩
  | y :: r, h => by
    obtain ⟨hy, hr⟩ := SS.cons.1 h
    rw [insF]
    split
    · rename_i c
      exact SS.cons.2 ⟨fun w hw => by
        rcases (Qbc hr w).1 hw with g | g
        · rw [g]; exact c
        · exact hy w g.1, Qlg hr⟩
    · rename_i c
      split
      · rename_i e
        exact SS.cons.2 ⟨fun w hw => by have := hy w hw; unfold nlt at this ⊢; rw [← e]; exact this, hr⟩
      · rename_i e
        have g : sCmp x.name y.name < 0 := by
          rcases Q8q x.name y.name with g | g | g
          · exact g
          · exact absurd g.symm e
          · exact absurd g c
        exact SS.cons.2 ⟨fun w hw => by
          rcases List.mem_cons.1 hw with e | hw
          · subst e; exact g
          · exact Qlj g (hy w hw), h⟩
theorem Quz (l : List Fld) (x : Fld) : mapOf (l ++ [x]) = insF x (mapOf l) :=
  Q13g (Qlg (Q8k l)) fun f => by rw [Qbc (Q8k l), Q8j, Qri]
theorem Qpv : mapOf [] = [] := Q86 SS.nil
end Go.Pv
end

section
/- How many values a value holds; what that bounds. -/
namespace Go.Pv
open Srt
mutual
def tot (v : Val) : Nat := 1 + totV v.list + totF v.fields
termination_by SizeOf.sizeOf v
decreasing_by all_goals first | exact Val.Q23 _ | exact Val.Q18 _
def totV : List Val → Nat
  | [] => 0
  | x :: l => tot x + totV l
termination_by l => SizeOf.sizeOf l
decreasing_by all_goals first | exact Q27 _ _ | exact Q1x _ _
def totF : List Fld → Nat
  | [] => 0
  | x :: l => tot x.v + totF l
termination_by l => SizeOf.sizeOf l
decreasing_by all_goals first | exact Q1p _ _ | exact Q1x _ _
end
theorem Qak (v : Val) : tot v = 1 + totV v.list + totF v.fields := by rw [tot]
theorem Q4c (v : Val) : 1 ≤ tot v := by rw [Qak]; omega
theorem Q3f : totF [] = 0 := by rw [totF]
theorem Q1j (x : Fld) (l : List Fld) : totF (x :: l) = tot x.v + totF l := by rw [totF]
theorem Qgg (x : Val) (l : List Val) : totV (x :: l) = tot x + totV l := by rw [totV]
theorem Qbj : ∀ l r : List Fld, totF (l ++ r) = totF l + totF r
  | [], r => by rw [Q3f, List.nil_append]; omega
  | x :: l, r => by rw [List.cons_append, Q1j, Q1j, Qbj l r]; omega
theorem Qbe : ∀ l : List Fld, l.length ≤ totF l
  | [] => Nat.zero_le _
  | x :: l => by have := Qbe l; have := Q4c x.v; rw [Q1j, List.length_cons]; omega
theorem Qt3 : ∀ l : List Val, l.length ≤ totV l
  | [] => Nat.zero_le _
  | x :: l => by have := Qt3 l; have := Q4c x; rw [Qgg, List.length_cons]; omega
theorem Qso : ∀ {l : List Fld} {x : Fld}, x ∈ l → tot x.v ≤ totF l
  | y :: l, x, h => by
    rw [Q1j]
    rcases List.mem_cons.1 h with e | h
    · rw [e]; omega
    · have := Qso h; omega
theorem Qsy : ∀ {l : List Val} {x : Val}, x ∈ l → tot x ≤ totV l
  | y :: l, x, h => by
    rw [Qgg]
    rcases List.mem_cons.1 h with e | h
    · rw [e]; omega
    · have := Qsy h; omega
theorem Qmu {v : Val} {x : Fld} (h : x ∈ v.fields) : tot x.v < tot v := by have := Qso h; have := Qak v; omega
theorem Q135 {v : Val} {x : Val} (h : x ∈ v.list) : tot x < tot v := by have := Qsy h; have := Qak v; omega
theorem Qdr (v : Val) : totF v.fields < tot v := by rw [Qak]; omega
theorem Q8p : ∀ {l r : List Fld}, l.Sublist r → totF l ≤ totF r
  | _, _, .slnil => Nat.le_refl _
  | _, _, .cons x h => by have := Q8p h; rw [Q1j]; omega
  | _, _, .cons_cons x h => by have := Q8p h; rw [Q1j, Q1j]; omega
theorem Qrw (B : Nat) : ∀ (k : Nat) (v : Val), SizeOf.sizeOf v < k → tot v ≤ B → Val.Sm B v
  | 0, _, h, _ => absurd h (Nat.not_lt_zero _)
  | k + 1, v, h, hb => by
    have h1 := Qbe v.fields
    have h2 := Qt3 v.list
    have h3 := Qak v
    exact .mk v (by omega) (by omega) (fun x hx => Qrw B k x (by have := szM hx; omega) (by have := Q135 hx; omega)) fun x hx => Qrw B k x.v (by have := szN hx; omega) (by have := Qmu hx; omega)
theorem Qat {B : Nat} {v : Val} (h : tot v ≤ B) : Val.Sm B v := Qrw B _ v (Nat.lt_succ_self _) h
theorem Qnb (c : Fld → Fld → Int) (x : Fld) : ∀ l : List Fld, totF (insR c x l) = tot x.v + totF l
  | [] => by rw [insR, Q1j]
  | y :: l => by
    rw [insR]
    cases decide (c x y < 0) with
    | true => rw [cond_true, Q1j, Q1j, Qnb c x l]; omega
    | false => rw [cond_false, Q1j]
theorem Qpu (c : Fld → Fld → Int) : ∀ l r : List Fld, totF (l.foldl (fun r x => insR c x r) r) = totF r + totF l
  | [], r => by rw [List.foldl_nil, Q3f]; omega
  | x :: l, r => by rw [List.foldl_cons, Qpu c l, Qnb, Q1j]; omega
theorem Qsq : ∀ l : List Fld, totF l.reverse = totF l
  | [] => by rw [List.reverse_nil]
  | x :: l => by rw [List.reverse_cons, Qbj, Qsq l, Q1j, Q1j, Q3f]; omega
theorem Qxb (c : Fld → Fld → Int) (l : List Fld) : totF (Q61 c l) = totF l := by
  unfold Q61
  rw [Qsq, Qpu, Q3f]
  omega
theorem Qjb (l : List Fld) : totF (mapOf l) ≤ totF l := by
  have := Q8p (Q6c (Q61 cNm l))
  rw [Qxb] at this
  exact this
theorem Qfv (p : Fld → Bool) (l : List Fld) : totF (l.filter p) ≤ totF l := Q8p List.filter_sublist
theorem Qpq {l : List Fld} {f : Fld} {p : Fld → Bool} (h : f ∈ l) (hp : p f = false) : totF (l.filter p) + tot f.v ≤ totF l := by
  induction l with
  | nil => cases h
  | cons x l ih =>
    rw [Q1j, List.filter_cons]
    rcases List.mem_cons.1 h with e | h
    · subst e
      rw [hp]
      have := Qfv p l
      simp only [Bool.false_eq_true, ↓reduceIte]
      omega
    · have := ih h
      cases p x with
      | true => simp only [↓reduceIte]; rw [Q1j]; omega
      | false => simp only [Bool.false_eq_true, ↓reduceIte]; omega
theorem Q10g (l : List Fld) (i : Nat) (x : Fld) (h : l[i]? = some x) : totF (l.take (i + 1)) = totF (l.take i) + tot x.v := by
  have hi := (List.getElem?_eq_some_iff.1 h).1
  rw [List.take_add_one, h, Option.toList_some, Qbj, Q1j, Q3f]
  rfl
theorem Qpi (l : List Fld) (i : Nat) : totF (l.take i) ≤ totF l := Q8p (List.take_sublist i l)
theorem Qq8 (k n : Int) (s : ByteArray) (l : List Val) (f : List Fld) : tot (.mk k n s l f) = 1 + totV l + totF f := by rw [Qak]; rfl
end Go.Pv
end

section
/- Merging, differences and composition of maps, as plain functions; their laws, by what stands at a name. -/
namespace Go.Pv
open Srt
abbrev mp (l : List Fld) : Val := .mk 5 0 ⟨#[]⟩ [] (mapOf l)
abbrev zV : Val := .mk 0 0 ⟨#[]⟩ [] []
def found (v : Val) (n : ByteArray) : Option Fld := bif v.kind == 5 then v.fields.find? (fun f => sEq f.name n) else none
def gotF : Option Fld → Val × Bool
  | some f => (f.v, true)
  | none => (.mk 0 0 ⟨#[]⟩ [] [], false)
def oth (v : Val) (n : ByteArray) : List Fld := bif v.kind == 5 then v.fields.filter (fun f => !sEq f.name n) else []
def atN (v : Val) (n : ByteArray) : Option Val := (found v n).map Fld.v
theorem Q15c (v : Val) (n : ByteArray) : gotF (found v n) = ((atN v n).getD zV, (atN v n).isSome) := by
  unfold atN
  cases found v n <;> rfl
def wi (v : Val) (n : ByteArray) (x : Val) : Val := mp (oth v n ++ [.mk n x])
def wo (v : Val) (n : ByteArray) : Val := bif v.kind == 5 then mp (oth v n) else v
def isMap (v : Val) : Prop := ∃ F, v = .mk 5 0 ⟨#[]⟩ [] F ∧ SS F
theorem isMap.kind {v : Val} (h : isMap v) : v.kind = 5 := by
  obtain ⟨F, rfl, _⟩ := h
  rfl
theorem Qzc {l : List Fld} (h : SS l) (n : ByteArray) (f : Fld) : l.find? (fun y => sEq y.name n) = some f ↔ f ∈ l ∧ f.name = n := by
  constructor
  · intro g
    exact ⟨List.mem_of_find?_eq_some g, Q2v.1 (List.find?_some (p := fun y : Fld => sEq y.name n) g)⟩
  · intro ⟨g1, g2⟩
    cases e : l.find? fun y => sEq y.name n with
    | none =>
      have := List.find?_eq_none.1 e f g1
      exact absurd (Q2v.2 g2) this
    | some y => rw [h.inj g1 (List.mem_of_find?_eq_some e) (g2.trans (Q2v.1 (List.find?_some (p := fun y : Fld => sEq y.name n) e)).symm)]
theorem Qrn (F : List Fld) (h : SS F) (n : ByteArray) (x : Val) : atN (.mk 5 0 ⟨#[]⟩ [] F) n = some x ↔ Fld.mk n x ∈ F := by
  unfold atN
  rw [show found (.mk 5 0 ⟨#[]⟩ [] F) n = F.find? fun f => sEq f.name n from rfl, Option.map_eq_some_iff]
  constructor
  · intro ⟨f, h1, h2⟩
    obtain ⟨g1, g2⟩ := (Qzc h n f).1 h1
    rw [← g2, ← h2, Fld.eta]
    exact g1
  · intro g
    exact ⟨_, (Qzc h n _).2 ⟨g, rfl⟩, rfl⟩
theorem Qaj {v : Val} (h : isMap v) (n : ByteArray) (x : Val) : atN v n = some x ↔ Fld.mk n x ∈ v.fields := by
  obtain ⟨F, rfl, hS⟩ := h
  exact Qrn F hS n x
theorem Quc {v : Val} (h : v.kind ≠ 5) (n : ByteArray) : atN v n = none := by
  unfold atN found
  rw [show (v.kind == 5) = false by simpa using h]
  rfl
theorem Qzm {v w : Val} (hv : isMap v) (hw : isMap w) (h : ∀ n, atN v n = atN w n) : v = w := by
  obtain ⟨F, rfl, hF⟩ := hv
  obtain ⟨G, rfl, hG⟩ := hw
  rw [Qsn hF hG fun f => by rw [← Fld.eta f, ← Qrn F hF, ← Qrn G hG, h]]
theorem Qzp {F : List Fld} (n : ByteArray) (f : Fld) : f ∈ F.filter (fun y => !sEq y.name n) ↔ f ∈ F ∧ f.name ≠ n := by
  rw [List.mem_filter]
  constructor
  · intro g
    exact ⟨g.1, Qdn.1 (by simpa using g.2)⟩
  · intro g
    exact ⟨g.1, by simpa using Qdn.2 g.2⟩
theorem Q15u {F : List Fld} (h : SS F) (n : ByteArray) (x : Val) : wi (.mk 5 0 ⟨#[]⟩ [] F) n x = .mk 5 0 ⟨#[]⟩ [] (insF (.mk n x) (F.filter fun y => !sEq y.name n)) := by
  unfold wi mp
  rw [Quz, show oth (.mk 5 0 ⟨#[]⟩ [] F) n = F.filter (fun y => !sEq y.name n) from rfl, Q86 (h.filter _)]
theorem Q16n {F : List Fld} (h : SS F) (n : ByteArray) : wo (.mk 5 0 ⟨#[]⟩ [] F) n = .mk 5 0 ⟨#[]⟩ [] (F.filter fun y => !sEq y.name n) := by
  show mp (F.filter fun y => !sEq y.name n) = _
  unfold mp
  rw [Q86 (h.filter _)]
theorem Qkd {v : Val} (h : isMap v) (n : ByteArray) (x : Val) : isMap (wi v n x) := by
  obtain ⟨F, rfl, hF⟩ := h
  exact ⟨_, Q15u hF n x, Qlg (hF.filter _)⟩
theorem Q18c {v : Val} (h : isMap v) (n : ByteArray) : isMap (wo v n) := by
  obtain ⟨F, rfl, hF⟩ := h
  exact ⟨_, Q16n hF n, hF.filter _⟩
theorem Qsz (l : List Fld) : isMap (mp l) := ⟨_, rfl, Q8k l⟩
open Classical in
theorem Qpf {v : Val} (h : isMap v) (n : ByteArray) (x : Val) (m : ByteArray) : atN (wi v n x) m = if m = n then some x else atN v m := by
  obtain ⟨F, rfl, hF⟩ := h
  rw [Q15u hF]
  apply Option.ext
  intro y
  rw [Qrn _ (Qlg (hF.filter _)), Qbc (hF.filter _), Qzp]
  have e : (Fld.mk m y = Fld.mk n x) ↔ m = n ∧ y = x := by
    constructor
    · intro g; injection g with g1 g2; exact ⟨g1, g2⟩
    · rintro ⟨rfl, rfl⟩; rfl
  change Fld.mk m y = Fld.mk n x ∨ (Fld.mk m y ∈ F ∧ m ≠ n) ∧ m ≠ n ↔ _
  rw [e]
  split
  · rename_i c
    constructor
    · intro g
      rcases g with g | g
      · rw [g.2]
      · exact absurd c g.2
    · intro g
      injection g with g
      exact .inl ⟨c, g.symm⟩
  · rename_i c
    rw [Qrn F hF]
    constructor
    · intro g
      rcases g with g | g
      · exact absurd g.1 c
      · exact g.1.1
    · intro g
      exact .inr ⟨⟨g, c⟩, c⟩
open Classical in
theorem Q17i {v : Val} (h : isMap v) (n : ByteArray) (m : ByteArray) : atN (wo v n) m = if m = n then none else atN v m := by
  obtain ⟨F, rfl, hF⟩ := h
  rw [Q16n hF]
  apply Option.ext
  intro y
  rw [Qrn _ (hF.filter _), Qzp]
  change Fld.mk m y ∈ F ∧ m ≠ n ↔ _
  split
  · rename_i c
    exact ⟨fun g => absurd c g.2, fun g => by cases g⟩
  · rename_i c
    rw [Qrn F hF]
    exact ⟨fun g => g.1, fun g => ⟨g, c⟩⟩
theorem Qsc (n : ByteArray) : atN (mp []) n = none := by
  unfold mp
  rw [Qpv]
  rfl
def at_ (l : List Fld) (n : ByteArray) : Option Val := (l.find? fun f => sEq f.name n).map Fld.v
theorem at_nil (n : ByteArray) : at_ [] n = none := rfl
theorem Qrt (x : Fld) (l : List Fld) (n : ByteArray) : at_ (x :: l) n = bif sEq x.name n then some x.v else at_ l n := by
  unfold at_
  rw [List.find?_cons]
  cases sEq x.name n <;> rfl
theorem Qcj {v : Val} (h : v.kind = 5) (n : ByteArray) : at_ v.fields n = atN v n := by
  unfold at_ atN found
  rw [show (v.kind == 5) = true by simpa using h]
  rfl
theorem Q11c {x : Fld} {l : List Fld} (h : ∀ y ∈ l, nlt x y) : at_ l x.name = none := by
  unfold at_
  rw [Option.map_eq_none_iff, List.find?_eq_none]
  intro y hy g
  have := h y hy
  unfold nlt at this
  rw [Q2v.1 g, Q4f] at this
  omega
inductive DV : Val → Prop
  | mk (v : Val) (h5 : v.kind = 5 → isMap v) (h6 : v.kind = 5 → ∀ f ∈ v.fields, DV f.v) : DV v
theorem DV.map {v : Val} (h : DV v) (k : v.kind = 5) : isMap v := by
  cases h with
  | mk _ a b => exact a k
theorem DV.sub {v : Val} (h : DV v) (k : v.kind = 5) {f : Fld} (hf : f ∈ v.fields) : DV f.v := by
  cases h with
  | mk _ a b => exact b k f hf
theorem DV.leaf {v : Val} (h : v.kind ≠ 5) : DV v := .mk v (fun k => absurd k h) fun k => absurd k h
theorem DV.zero : DV zV := DV.leaf (show (0 : Int) ≠ 5 by omega)
theorem DV.at {v : Val} (h : DV v) {n : ByteArray} {x : Val} (g : atN v n = some x) : DV x := by
  by_cases k : v.kind = 5
  · exact h.sub k ((Qaj (h.map k) n x).1 g)
  · rw [Quc k] at g
    cases g
theorem DV.atD {v : Val} (h : DV v) (n : ByteArray) : DV ((atN v n).getD zV) := by
  cases e : atN v n with
  | none => exact DV.zero
  | some x => exact h.at e
theorem DV.of {v : Val} (h : isMap v) (g : ∀ n x, atN v n = some x → DV x) : DV v :=
  .mk v (fun _ => h) fun _ f hf => g f.name f.v ((Qaj h f.name f.v).2 (by rw [Fld.eta]; exact hf))
theorem Qgm {P : Val → Prop} (h : ∀ v : Val, (∀ f ∈ v.fields, P f.v) → P v) : ∀ v, P v := by
  have key : ∀ (k : Nat) (v : Val), SizeOf.sizeOf v < k → P v := by
    intro k
    induction k with
    | zero => intro v hv; exact absurd hv (Nat.not_lt_zero _)
    | succ k ih => intro v hv; exact h v fun f hf => ih f.v (by have := szN hf; omega)
  exact fun v => key _ v (Nat.lt_succ_self _)
mutual
def mg (v p : Val) : Val := bif p.kind == 5 then mgL p.fields (bif v.kind == 5 then v else mp []) else p
termination_by SizeOf.sizeOf p
decreasing_by exact Val.Q18 _
def mgL : List Fld → Val → Val
  | [], o => o
  | x :: l, o => mgL l (bif x.v.kind == 0 then wo o x.name else wi o x.name (mg ((atN o x.name).getD zV) x.v))
termination_by l => SizeOf.sizeOf l
decreasing_by all_goals first | exact Q1p _ _ | exact Q1x _ _
end
theorem Qbf (x : Fld) (l : List Fld) (o : Val) : mgL (x :: l) o = mgL l (bif x.v.kind == 0 then wo o x.name else wi o x.name (mg ((atN o x.name).getD zV) x.v)) := by rw [mgL]
theorem Qkk (o : Val) : mgL [] o = o := by rw [mgL]
def mgAt (a : Option Val) : Option Val → Option Val
  | none => a
  | some y => bif y.kind == 0 then none else some (mg (a.getD zV) y)
theorem step_map {o : Val} (h : isMap o) (x : Fld) : isMap (bif x.v.kind == 0 then wo o x.name else wi o x.name (mg ((atN o x.name).getD zV) x.v)) := by
  cases x.v.kind == 0 with
  | true => exact Q18c h _
  | false => exact Qkd h _ _
theorem Q10d : ∀ (l : List Fld) {o : Val}, isMap o → isMap (mgL l o)
  | [], o, h => by rw [Qkk]; exact h
  | x :: l, o, h => by rw [Qbf]; exact Q10d l (step_map h x)
theorem Q15i {o : Val} (h : isMap o) (x : Fld) (n : ByteArray) : atN (bif x.v.kind == 0 then wo o x.name else wi o x.name (mg ((atN o x.name).getD zV) x.v)) n = bif sEq x.name n then mgAt (atN o n) (some x.v) else atN o n := by
  cases c : sEq x.name n with
  | true =>
    have c := Q2v.1 c
    unfold mgAt
    simp only [cond_true]
    cases x.v.kind == 0 with
    | true => rw [cond_true, cond_true, Q17i h, if_pos c.symm]
    | false => rw [cond_false, cond_false, Qpf h, if_pos c.symm, c]
  | false =>
    have c := Qdn.1 c
    rw [cond_false]
    cases x.v.kind == 0 with
    | true => rw [cond_true, Q17i h, if_neg (Ne.symm c)]
    | false => rw [cond_false, Qpf h, if_neg (Ne.symm c)]
theorem Q14b : ∀ (l : List Fld) {o : Val}, SS l → isMap o → ∀ n, atN (mgL l o) n = mgAt (atN o n) (at_ l n)
  | [], o, _, _, n => by rw [Qkk, at_nil]; rfl
  | x :: l, o, hl, ho, n => by
    obtain ⟨hx, hl'⟩ := SS.cons.1 hl
    rw [Qbf, Q14b l hl' (step_map ho x) n, Q15i ho, Qrt]
    cases c : sEq x.name n with
    | true =>
      rw [cond_true, cond_true, ← Q2v.1 c, Q11c hx]
      rfl
    | false => rfl
theorem Qt4 {v : Val} (h : DV v) : isMap (bif v.kind == 5 then v else mp []) := by
  cases c : v.kind == 5 with
  | true => exact h.map (by simpa using c)
  | false => exact Qsz []
theorem Q15f (v : Val) (n : ByteArray) : atN (bif v.kind == 5 then v else mp []) n = atN v n := by
  cases c : v.kind == 5 with
  | true => rfl
  | false => rw [cond_false, Qsc, Quc (by simpa using c)]
theorem Qm1 {p : Val} (h : p.kind ≠ 5) (v : Val) : mg v p = p := by rw [mg, show (p.kind == 5) = false by simpa using h, cond_false]
theorem Qu6 {v p : Val} (hv : DV v) (k : p.kind = 5) : isMap (mg v p) := by
  rw [mg, show (p.kind == 5) = true by simpa using k, cond_true]
  exact Q10d _ (Qt4 hv)
theorem isMap.ss {v : Val} (h : isMap v) : SS v.fields := by
  obtain ⟨F, rfl, hF⟩ := h
  exact hF
theorem Q15a {v p : Val} (hv : DV v) (hp : DV p) (k : p.kind = 5) (n : ByteArray) : atN (mg v p) n = mgAt (atN v n) (atN p n) := by
  rw [mg, show (p.kind == 5) = true by simpa using k, cond_true, Q14b _ (hp.map k).ss (Qt4 hv), Q15f, Qcj k]
theorem Q15l {v p : Val} (hv : DV v) : (mg v p).kind = p.kind := by
  by_cases k : p.kind = 5
  · rw [(Qu6 hv k).kind, k]
  · rw [Qm1 k]
inductive Cm : Val → Val → Prop
  | mk (p q : Val) (h0 : q.kind = 5 → p.kind = 5) (h1 : q.kind = 5 → ∀ f ∈ q.fields, ∀ y, atN p f.name = some y → Cm y f.v) : Cm p q
theorem Cm.out {p q : Val} (h : Cm p q) : (q.kind = 5 → p.kind = 5) ∧ (q.kind = 5 → ∀ f ∈ q.fields, ∀ y, atN p f.name = some y → Cm y f.v) := by
  cases h with
  | mk _ _ a b => exact ⟨a, b⟩
def df0 (b : Val) : List Fld → Val → Val
  | [], o => o
  | x :: l, o => df0 b l (bif (atN b x.name).isSome then o else wi o x.name zV)
open Classical in
mutual
noncomputable def df (a b : Val) : Val := bif a.kind == 5 then (bif b.kind == 5 then dfL a b.fields (df0 b a.fields (mp [])) else b) else b
termination_by SizeOf.sizeOf b
decreasing_by exact Val.Q18 _
noncomputable def dfL (a : Val) : List Fld → Val → Val
  | [], o => o
  | x :: l, o => dfL a l (match atN a x.name with | none => wi o x.name x.v | some y => if y = x.v then o else wi o x.name (df y x.v))
termination_by l => SizeOf.sizeOf l
decreasing_by all_goals first | exact Q1p _ _ | exact Q1x _ _
end
open Classical in
theorem Qby (a : Val) (x : Fld) (l : List Fld) (o : Val) : dfL a (x :: l) o = dfL a l (match atN a x.name with | none => wi o x.name x.v | some y => if y = x.v then o else wi o x.name (df y x.v)) := by rw [dfL]
theorem Qll (a o : Val) : dfL a [] o = o := by rw [dfL]
open Classical in
/-- what the difference holds at a name -/
noncomputable def dfAt : Option Val → Option Val → Option Val
  | none, none => none
  | some _, none => some zV
  | none, some y => some y
  | some x, some y => if x = y then none else some (df x y)
theorem Ql0 (b : Val) : ∀ (l : List Fld) {o : Val}, isMap o → isMap (df0 b l o)
  | [], o, h => h
  | x :: l, o, h => by
    rw [df0]
    cases (atN b x.name).isSome with
    | true => exact Ql0 b l h
    | false => exact Ql0 b l (Qkd h _ _)
theorem Qn8 (b : Val) (n : ByteArray) : ∀ (l : List Fld) {o : Val}, isMap o → atN (df0 b l o) n = match atN b n with | some _ => atN o n | none => match at_ l n with | some _ => some zV | none => atN o n
  | [], o, h => by rw [df0, at_nil]; cases atN b n <;> rfl
  | x :: l, o, h => by
    rw [df0, Qrt]
    cases c : sEq x.name n with
    | true =>
      have c := Q2v.1 c
      rw [cond_true]
      cases e : atN b n with
      | some y =>
        rw [c, e, Option.isSome_some, cond_true, Qn8 b n l h, e]
      | none =>
        rw [c, e, Option.isSome_none, cond_false, Qn8 b n l (Qkd h _ _), e, Qpf h, if_pos rfl]
        simp only
        cases at_ l n <;> rfl
    | false =>
      have c := Qdn.1 c
      rw [cond_false]
      cases (atN b x.name).isSome with
      | true => rw [cond_true, Qn8 b n l h]
      | false => rw [cond_false, Qn8 b n l (Qkd h _ _), Qpf h, if_neg (Ne.symm c)]
open Classical in
theorem Qpt {o : Val} (h : isMap o) (a : Val) (x : Fld) : isMap (match atN a x.name with | none => wi o x.name x.v | some y => if y = x.v then o else wi o x.name (df y x.v)) := by
  cases atN a x.name with
  | none => exact Qkd h _ _
  | some y =>
    simp only
    split
    · exact h
    · exact Qkd h _ _
theorem Qyj (a : Val) : ∀ (l : List Fld) {o : Val}, isMap o → isMap (dfL a l o)
  | [], o, h => by rw [Qll]; exact h
  | x :: l, o, h => by rw [Qby]; exact Qyj a l (Qpt h a x)
open Classical in
theorem Q148 (a : Val) (n : ByteArray) : ∀ (l : List Fld) {o : Val}, SS l → isMap o → atN (dfL a l o) n = match at_ l n with | none => atN o n | some y => (match atN a n with | none => some y | some x => if x = y then atN o n else some (df x y))
  | [], o, _, _ => by rw [Qll, at_nil]
  | x :: l, o, hl, ho => by
    obtain ⟨hx, hl'⟩ := SS.cons.1 hl
    rw [Qby, Q148 a n l hl' (Qpt ho a x), Qrt]
    cases c : sEq x.name n with
    | true =>
      have c := Q2v.1 c
      subst c
      rw [cond_true, Q11c hx]
      cases atN a x.name with
      | none => simp only; rw [Qpf ho, if_pos rfl]
      | some y =>
        simp only
        split
        · rfl
        · rw [Qpf ho, if_pos rfl]
    | false =>
      have c := Qdn.1 c
      have e : atN (match atN a x.name with | none => wi o x.name x.v | some y => if y = x.v then o else wi o x.name (df y x.v)) n = atN o n := by
        cases atN a x.name with
        | none => simp only; rw [Qpf ho, if_neg (Ne.symm c)]
        | some y =>
          simp only
          split
          · rfl
          · rw [Qpf ho, if_neg (Ne.symm c)]
      rw [cond_false, e]
theorem Qcr {a b : Val} (h : ¬ (a.kind = 5 ∧ b.kind = 5)) : df a b = b := by
  rw [df]
  cases c : a.kind == 5 with
  | false => rfl
  | true =>
    rw [cond_true, show (b.kind == 5) = false by simpa using fun k => h ⟨by simpa using c, k⟩, cond_false]
theorem Q10p {a b : Val} (ka : a.kind = 5) (kb : b.kind = 5) : isMap (df a b) := by
  rw [df, show (a.kind == 5) = true by simpa using ka, cond_true, show (b.kind == 5) = true by simpa using kb, cond_true]
  exact Qyj a _ (Ql0 b _ (Qsz []))
theorem Q17e {a b : Val} (hb : DV b) (ka : a.kind = 5) (kb : b.kind = 5) (n : ByteArray) : atN (df a b) n = dfAt (atN a n) (atN b n) := by
  rw [df, show (a.kind == 5) = true by simpa using ka, cond_true, show (b.kind == 5) = true by simpa using kb, cond_true, Q148 a n _ (hb.map kb).ss (Ql0 b _ (Qsz [])), Qn8 b n _ (Qsz []), Qsc, Qcj kb, Qcj ka]
  unfold dfAt
  cases atN a n <;> cases atN b n <;> rfl
theorem Q15r {a b : Val} : (df a b).kind = b.kind := by
  by_cases h : a.kind = 5 ∧ b.kind = 5
  · rw [(Q10p h.1 h.2).kind, h.2]
  · rw [Qcr h]
theorem Q199 : ∀ b : Val, DV b → ∀ a, DV a → DV (df a b) := Qgm fun b ih hb a ha => by
  by_cases h : a.kind = 5 ∧ b.kind = 5
  · refine DV.of (Q10p h.1 h.2) fun n x g => ?_
    rw [Q17e hb h.1 h.2] at g
    unfold dfAt at g
    cases e : atN a n with
    | none =>
      cases e' : atN b n with
      | none => rw [e, e'] at g; cases g
      | some y => rw [e, e'] at g; injection g with g; rw [← g]; exact hb.at e'
    | some w =>
      cases e' : atN b n with
      | none => rw [e, e'] at g; injection g with g; rw [← g]; exact DV.zero
      | some y =>
        rw [e, e'] at g
        simp only at g
        split at g
        · cases g
        · injection g with g
          rw [← g]
          exact ih _ ((Qaj (hb.map h.2) n y).1 e') (hb.at e') _ (ha.at e)
  · rw [Qcr h]
    exact hb
inductive Cl : Val → Prop
  | mk (v : Val) (h0 : v.kind = 5 → ∀ f ∈ v.fields, f.v.kind ≠ 0) (h1 : v.kind = 5 → ∀ f ∈ v.fields, Cl f.v) : Cl v
theorem Cl.out {v : Val} (h : Cl v) : (v.kind = 5 → ∀ f ∈ v.fields, f.v.kind ≠ 0) ∧ (v.kind = 5 → ∀ f ∈ v.fields, Cl f.v) := by
  cases h with
  | mk _ a b => exact ⟨a, b⟩
theorem Cl.leaf {v : Val} (h : v.kind ≠ 5) : Cl v := .mk v (fun k => absurd k h) fun k => absurd k h
theorem Cl.at {v : Val} (hv : DV v) (h : Cl v) {n : ByteArray} {x : Val} (g : atN v n = some x) : x.kind ≠ 0 ∧ Cl x := by
  by_cases k : v.kind = 5
  · have m := (Qaj (hv.map k) n x).1 g
    exact ⟨h.out.1 k _ m, h.out.2 k _ m⟩
  · rw [Quc k] at g
    cases g
theorem Cl.of {v : Val} (h : isMap v) (g : ∀ n x, atN v n = some x → x.kind ≠ 0 ∧ Cl x) : Cl v :=
  have k := fun f (hf : f ∈ v.fields) => g f.name f.v ((Qaj h f.name f.v).2 (by rw [Fld.eta]; exact hf))
  .mk v (fun _ f hf => (k f hf).1) fun _ f hf => (k f hf).2
theorem Q11f : ∀ y : Val, DV y → Cl y → ∀ v, DV v → v.kind ≠ 5 → mg v y = y := Qgm fun y ih hy hc v hv kv => by
  by_cases k : y.kind = 5
  · refine Qzm (Qu6 hv k) (hy.map k) fun n => ?_
    rw [Q15a hv hy k, Quc kv]
    cases e : atN y n with
    | none => rfl
    | some z =>
      obtain ⟨c0, c1⟩ := Cl.at hy hc e
      unfold mgAt
      simp only
      have q : mg zV z = z := ih _ ((Qaj (hy.map k) n z).1 e) (hy.at e) c1 zV DV.zero (show (0 : Int) ≠ 5 by omega)
      rw [show (z.kind == 0) = false by simpa using c0, cond_false, Option.getD_none, q]
  · rw [Qm1 k]
theorem Q194 : ∀ b : Val, DV b → Cl b → ∀ a, DV a → mg a (df a b) = b := Qgm fun b ih hb hc a ha => by
  by_cases h : a.kind = 5 ∧ b.kind = 5
  · have hd := Q199 b hb a ha
    have kd := (Q10p h.1 h.2).kind
    refine Qzm (Qu6 ha kd) (hb.map h.2) fun n => ?_
    rw [Q15a ha hd kd, Q17e hb h.1 h.2]
    cases e' : atN b n with
    | none =>
      cases e : atN a n with
      | none => rfl
      | some x => rfl
    | some y =>
      obtain ⟨c0, c1⟩ := Cl.at hb hc e'
      have hy := hb.at e'
      cases e : atN a n with
      | none =>
        unfold dfAt mgAt
        simp only
        rw [show (y.kind == 0) = false by simpa using c0, cond_false, Option.getD_none, Q11f y hy c1 zV DV.zero (show (0 : Int) ≠ 5 by omega)]
      | some x =>
        unfold dfAt
        simp only
        split
        · rename_i g
          rw [g]
          rfl
        · unfold mgAt
          simp only
          have q : mg x (df x y) = y := ih _ ((Qaj (hb.map h.2) n y).1 e') hy c1 x (ha.at e)
          rw [show ((df x y).kind == 0) = false by rw [Q15r]; simpa using c0, cond_false, Option.getD_some, q]
  · rw [Qcr h]
    by_cases k : b.kind = 5
    · exact Q11f b hb hc a ha fun ka => h ⟨ka, k⟩
    · exact Qm1 k a
theorem Q12r : ∀ p : Val, DV p → ∀ a, DV a → Cl a → Cl (mg a p) := Qgm fun p ih hp a ha hc => by
  by_cases k : p.kind = 5
  · refine Cl.of (Qu6 ha k) fun n x g => ?_
    rw [Q15a ha hp k] at g
    cases e : atN p n with
    | none => rw [e] at g; exact Cl.at ha hc g
    | some y =>
      rw [e] at g
      unfold mgAt at g
      simp only at g
      cases c : y.kind == 0 with
      | true => rw [c] at g; cases g
      | false =>
        rw [c, cond_false] at g
        injection g with g
        rw [← g]
        refine ⟨by rw [Q15l (ha.atD n)]; simpa using c, ih _ ((Qaj (hp.map k) n y).1 e) (hp.at e) _ (ha.atD n) ?_⟩
        cases e' : atN a n with
        | none => exact Cl.leaf (show (0 : Int) ≠ 5 by omega)
        | some z => exact (Cl.at ha hc e').2
  · rw [Qm1 k]
    exact Cl.leaf k
end Go.Pv
end

section
/- Fields in plain words: a copy is the value, taking out is filtering, a map keeps the last field of each name; the two programs agree. -/
namespace Go.Proofs.Ytnhhddbbppbblaa
open Go.Pv Go.Pv.Srt
theorem Qa3 (p : List Fld) : (Q61 cNm p).length = p.length := Qqa _ (Q77 Fld.name) p
theorem vget (v : Val) (n : ByteArray) : Q11 v n = gotF (found v n) := by
  unfold Q11 found
  cases v.kind == 5 with
  | false => rfl
  | true =>
    simp only [cond_true]
    have : ∀ (l : List Fld) (i : Nat), (match Q4q v n l i with | .k0 => (Val.mk 0 0 ⟨#[]⟩ [] [], false) | .k1 y => (y, true)) = gotF (l.find? fun f => sEq f.name n) := by
      intro l
      induction l with
      | nil => intro i; rfl
      | cons x l ih =>
        intro i
        rw [Q4q, List.find?_cons]
        cases sEq x.name n with
        | true => rfl
        | false => exact ih (i + 1)
    exact this _ _
theorem Qtn (p : List Fld) (o : ByteArray) : ∀ (l : List Fld) (i : Nat), match Q2q p o l i with
    | .k0 => ∀ x ∈ l, Q3s x o = false
    | .k1 q => ∃ A x C, l = A ++ x :: C ∧ (∀ y ∈ A, Q3s y o = false) ∧ Q3s x o = true ∧ q = (i : Int) + (A.length : Int)
  | [], i => fun _ h => by cases h
  | x :: l, i => by
    rw [Q2q]
    have ih := Qtn p o l (i + 1)
    cases h : Q3s x o with
    | true => exact ⟨[], x, l, rfl, fun _ g => (by cases g), h, by simp⟩
    | false =>
      rw [cond_false]
      cases e : Q2q p o l (i + 1) with
      | k0 =>
        rw [e] at ih
        intro y hy
        rcases List.mem_cons.1 hy with g | hy
        · rw [g]; exact h
        · exact ih y hy
      | k1 q =>
        rw [e] at ih
        obtain ⟨A, z, C, h1, h2, h3, h4⟩ := ih
        refine ⟨x :: A, z, C, by rw [h1]; rfl, fun y hy => ?_, h3, by rw [h4]; simp; omega⟩
        rcases List.mem_cons.1 hy with g | hy
        · rw [g]; exact h
        · exact h2 y hy
theorem Q11k (n : Nat) (o : ByteArray) : ∀ (C : List Fld) (k i j : Nat) (v : List Fld), v.length = n → i < j → v.drop j = C → C.length < k →
    (Q16 n o k i j v).2 = ((i + (C.filter fun f => !Q3s f o).length : Nat) : Int) ∧
    List.take (i + (C.filter fun f => !Q3s f o).length) (Q16 n o k i j v).1 = v.take i ++ C.filter fun f => !Q3s f o
  | _, 0, _, _, _, _, _, _, hk => absurd hk (Nat.not_lt_zero _)
  | [], k + 1, i, j, v, hl, hij, hd, _ => by
    have : n ≤ j := by have := List.drop_eq_nil_iff.1 hd; omega
    rw [Q16, show decide ((j : Int) < (n : Int)) = false by simp; omega, cond_false]
    simp
  | x :: C, k + 1, i, j, v, hl, hij, hd, hk => by
    obtain ⟨hx, hj, hd'⟩ := Q1b hd
    have hx' : List.getD v (Int.toNat (j : Int)) zF = x := by rw [Int.toNat_natCast, List.getD_eq_getElem?_getD, hx]; rfl
    rw [Q16, show decide ((j : Int) < (n : Int)) = true by simp; omega, cond_true, hx']
    simp only [List.length_cons] at hk
    cases h : Q3s x o with
    | true =>
      rw [cond_true, List.filter_cons_of_neg (by simp [h])]
      exact Q11k n o C k i (j + 1) v hl (by omega) hd' (by omega)
    | false =>
      rw [cond_false, List.filter_cons_of_pos (by simp [h])]
      have hi : i < v.length := by omega
      have e : (v.set i x).take (i + 1) = v.take i ++ [x] := by
        rw [List.take_add_one, List.getElem?_set_self hi, List.take_set, List.set_eq_of_length_le (by rw [List.length_take]; omega)]
        rfl
      have ih := Q11k n o C k (i + 1) (j + 1) (v.set i x) (by rw [List.length_set]; exact hl) (by omega) (by rw [List.drop_set_of_lt (by omega)]; exact hd') (by omega)
      rw [e, show i + 1 + (C.filter fun f => !Q3s f o).length = i + ((x :: C.filter fun f => !Q3s f o)).length by simp; omega] at ih
      rw [Int.toNat_natCast]
      refine ⟨ih.1, ih.2.trans ?_⟩
      simp
theorem del_eq (l : List Fld) (o : ByteArray) : Qkz l.length l o = ((l.filter fun f => !sEq f.name o).length, l.filter fun f => !sEq f.name o) := by
  have h := Qtn l o l 0
  unfold Qkz Qx
  cases e : Q2q l o l 0 with
  | k0 =>
    rw [e] at h
    have : l.filter (fun f => !sEq f.name o) = l := List.filter_eq_self.2 fun x hx => by have := h x hx; unfold Q3s at this; rw [this]; rfl
    rw [this]
    rfl
  | k1 q =>
    rw [e] at h
    obtain ⟨A, x, C, h1, h2, h3, h4⟩ := h
    have hA : A.filter (fun f => !sEq f.name o) = A := List.filter_eq_self.2 fun x hx => by have := h2 x hx; unfold Q3s at this; rw [this]; rfl
    have hf : l.filter (fun f => !sEq f.name o) = A ++ C.filter fun f => !sEq f.name o := by
      rw [h1, List.filter_append, List.filter_cons_of_neg (by unfold Q3s at h3; simp [h3]), hA]
    have hl : l.length = A.length + (C.length + 1) := by rw [h1]; simp
    simp only
    rw [show (q == (-1 : Int)) = false by simp; omega, cond_false]
    have g := Q11k l.length o C (Int.toNat ((l.length : Int) - (q + 1)) + 1) A.length (A.length + 1) l rfl (by omega) (by rw [h1]; simp) (by omega)
    rw [show (A.length : Int) = q by omega, show ((A.length + 1 : Nat) : Int) = q + 1 by omega] at g
    obtain ⟨g1, g2⟩ := g
    rw [g1, Int.toNat_natCast, g2, hf]
    change (_, _) = _
    rw [show List.take A.length l = A by rw [h1]; simp]
    unfold Q3s
    simp
theorem voth (v : Val) (n : ByteArray) : Q2j v n = ((oth v n).length, oth v n) := by
  unfold Q2j oth
  cases v.kind == 5 with
  | false => rfl
  | true => rw [cond_true, cond_true, del_eq]
theorem map1 : Q28 = cNm := rfl
theorem Qm6 (l : List Fld) : Qk l.length l = Q61 cNm l := by
  have := Qxv (by rw [map1]; exact Q77 Fld.name) l
  rwa [map1] at this
theorem Qzz (p : List Fld) : ∀ (r : List Fld) (i : Nat) (a : List Fld), (Q61 cNm p).drop i = r → Q26 p r i a = a ++ lasts r
  | [], i, a, _ => by rw [Q26, lasts]; simp
  | [x], i, a, hd => by
    have hl := Qa3 p
    have h := congrArg List.length hd
    rw [List.length_drop, List.length_singleton] at h
    rw [Q26, show (((i + 1 : Nat) : Int) == (List.length p : Int)) = true by simp; omega, cond_true, Q26]
    rfl
  | x :: y :: r, i, a, hd => by
    have hl := Qa3 p
    have h := congrArg List.length hd
    rw [List.length_drop, List.length_cons, List.length_cons] at h
    obtain ⟨_, _, hd'⟩ := Q1b hd
    obtain ⟨hy, _, _⟩ := Q1b hd'
    rw [Q26, show (((i + 1 : Nat) : Int) == (List.length p : Int)) = false by simp; omega, cond_false, Qm6, Int.toNat_natCast, List.getD_eq_getElem?_getD, hy, Option.getD_some, lasts]
    cases sEq y.name x.name with
    | true => rw [cond_true, cond_true, Qzz p (y :: r) (i + 1) a hd']
    | false => rw [cond_false, cond_false, Qzz p (y :: r) (i + 1) _ hd']; simp
theorem Qe8 (p : List Fld) : Q26 p (Qk p.length p) 0 [] = mapOf p := by
  rw [Qzz p _ 0 [] (by rw [Qm6]; rfl), Qm6]
  rfl
theorem vmap (p : List Fld) : Q7r p = .mk 5 0 ⟨#[]⟩ [] (mapOf p) := by
  unfold Q7r
  rw [Qe8]
theorem Q18i (v : Val) (n : ByteArray) (x : Val) : Q2f v n x = mp (oth v n ++ [.mk n x]) := by
  unfold Q2f
  rw [voth, vmap, List.take_length]
theorem Q12e (v : Val) (n : ByteArray) : Qdd v n = bif v.kind == 5 then mp (oth v n) else v := by
  unfold Qdd
  rw [voth, vmap]
theorem Q195 {B : Nat} {l : List Fld} (hl : l.length ≤ B) (h : ∀ f ∈ l, Val.Sm B f.v) : Val.Sm B (mp l) :=
  .mk _ (Nat.zero_le _) (Nat.le_trans (Qy0 l) hl) (fun _ g => by cases g) fun f hf => h f (Q101 hf)
theorem Q14k {l : List Fld} (hl : l.length ≤ 1000000000) (h : ∀ f ∈ l, Val.Sm 1000000000 f.v) : Qr9 l := by
  refine ⟨by omega, by omega, ⟨?_, trivial⟩, ?_, trivial⟩
  · rw [Qm6, Qa3]
    omega
  · rw [Qe8]
    exact Q195 hl h
theorem Q127 {v : Val} {n : ByteArray} {f : Fld} (h : f ∈ oth v n) : f ∈ v.fields := by
  unfold oth at h
  cases e : v.kind == 5 with
  | true => rw [e] at h; exact (List.mem_filter.1 h).1
  | false => rw [e] at h; cases h
theorem Qrv (v : Val) (n : ByteArray) : (oth v n).length ≤ v.fields.length := by
  unfold oth
  cases v.kind == 5 with
  | true => exact List.length_filter_le _ _
  | false => exact Nat.zero_le _
theorem Q16y {v : Val} (h : Val.Sm 999999999 v) (n : ByteArray) : Q12c v n := by
  have := h.all.2.1
  exact ⟨by omega, fun _ => by omega, ⟨⟨⟨by omega, trivial⟩, trivial⟩, trivial⟩, trivial⟩
theorem Q115 {v : Val} (h : Val.Sm 999999999 v) (n : ByteArray) {x : Val} (hx : Val.Sm 1000000000 x) : (oth v n ++ [Fld.mk n x]).length ≤ 1000000000 ∧ ∀ f ∈ oth v n ++ [Fld.mk n x], Val.Sm 1000000000 f.v := by
  have h1 := h.all
  have h2 := Qrv v n
  refine ⟨by simp; omega, fun f hf => ?_⟩
  rcases List.mem_append.1 hf with g | g
  · exact (h1.2.2.2 f (Q127 g)).mono (by omega)
  · rw [List.mem_singleton.1 g]
    exact hx
theorem Q144 {v : Val} (h : Val.Sm 999999999 v) (n : ByteArray) : (oth v n).length ≤ 1000000000 ∧ ∀ f ∈ oth v n, Val.Sm 1000000000 f.v := by
  have h1 := h.all
  have h2 := Qrv v n
  exact ⟨by omega, fun f hf => (h1.2.2.2 f (Q127 hf)).mono (by omega)⟩
theorem Q17z {v : Val} (h : Val.Sm 999999999 v) (n : ByteArray) {x : Val} (hx : Val.Sm 1000000000 x) : Qgp v n x := by
  have h2 := Qrv v n
  have h3 := h.all.2.1
  refine ⟨Q16y h n, ?_, ?_, ?_, trivial⟩
  · rw [voth]; exact Nat.le_refl _
  · rw [voth]; simp only; omega
  · rw [voth, List.take_length]; exact Q14k (Q115 h n hx).1 (Q115 h n hx).2
theorem Qzw {v : Val} (h : Val.Sm 999999999 v) (n : ByteArray) : Q12a v n := by
  refine ⟨Q16y h n, fun _ => by rw [voth], ?_, h.mono (by omega), trivial⟩
  rw [voth]; exact Q14k (Q144 h n).1 (Q144 h n).2
theorem Q18o {v : Val} (h : Val.Sm 1000000000 v) (n : ByteArray) : Qus v n := ⟨⟨by have := h.all.2.1; omega, h.all.2.2.2, trivial⟩, trivial⟩
theorem Vget (v : Val) (n : ByteArray) : Q11 v n = ((atN v n).getD zV, (atN v n).isSome) := by rw [vget, Q15c]
theorem Qs0 (v : Val) (n : ByteArray) (x : Val) : Q2f v n x = wi v n x := Q18i v n x
theorem Qtd (v : Val) (n : ByteArray) : Qdd v n = wo v n := Q12e v n
theorem Qrf (v : Val) (n : ByteArray) : totF (oth v n) + tot ((atN v n).getD zV) ≤ tot v := by
  have hz : tot zV = 1 := by rw [Qq8, Q3f, totV]
  have h1 := Qak v
  unfold oth atN found
  cases v.kind == 5 with
  | false => rw [cond_false, cond_false, Q3f, Option.map_none, Option.getD_none, hz]; omega
  | true =>
    rw [cond_true, cond_true]
    cases e : v.fields.find? fun f => sEq f.name n with
    | none =>
      have := Qfv (fun f : Fld => !sEq f.name n) v.fields
      rw [Option.map_none, Option.getD_none, hz]
      omega
    | some f =>
      have h2 := List.mem_of_find?_eq_some e
      have h3 := List.find?_some (p := fun f : Fld => sEq f.name n) e
      have := Qpq (p := fun f : Fld => !sEq f.name n) h2 (by simp [h3])
      rw [Option.map_some, Option.getD_some]
      omega
theorem Q11e (v : Val) (n : ByteArray) (x : Val) : tot (wi v n x) + tot ((atN v n).getD zV) ≤ 1 + tot v + tot x := by
  have h1 := Qrf v n
  have h2 := Qjb (oth v n ++ [Fld.mk n x])
  rw [Qbj, Q1j, Q3f] at h2
  unfold wi mp
  rw [Qq8, totV]
  change totF (mapOf (oth v n ++ [Fld.mk n x])) ≤ totF (oth v n) + (tot x + 0) at h2
  omega
theorem Qd5 (v : Val) (n : ByteArray) (x : Val) : tot (wi v n x) ≤ tot v + tot x := by
  have h1 := Q11e v n x
  have h2 := Q4c ((atN v n).getD zV)
  omega
theorem Q149 (v : Val) (n : ByteArray) : tot (wo v n) ≤ tot v := by
  have h1 := Qrf v n
  have h2 := Qjb (oth v n)
  have h3 := Q4c ((atN v n).getD zV)
  unfold wo
  cases v.kind == 5 with
  | false => exact Nat.le_refl _
  | true => rw [cond_true]; unfold mp; rw [Qq8, totV]; omega
theorem Qj6 (v : Val) (n : ByteArray) : tot ((atN v n).getD zV) ≤ tot v := by
  have := Qrf v n
  omega
theorem Qeh : tot (mp []) = 1 := by unfold mp; rw [Qpv, Qq8, Q3f, totV]
theorem Qtz : tot zV = 1 := by rw [Qq8, Q3f, totV]
theorem Q14q {v x : Val} (h : tot v ≤ 500000000) (n : ByteArray) (hx : tot x ≤ 500000000) : Qgp v n x := Q17z (Qat (by omega)) n (Qat (by omega))
theorem Q130 {v : Val} (h : tot v ≤ 500000000) (n : ByteArray) : Q12a v n := Qzw (Qat (by omega)) n
theorem tGet {v : Val} (h : tot v ≤ 500000000) (n : ByteArray) : Qus v n := Q18o (Qat (by omega)) n
theorem Q15w : Qr9 [] := Q14k (by simp) fun _ h => by cases h
theorem Q19b {v : Val} (h : tot v ≤ 500000000) : Q14p [v] := ⟨.mk _ (by simp [Val.list]) (by simp [Val.fields]) (fun x hx => by
  have : x = v := by simpa [Val.list] using hx
  rw [this]; exact Qat (by omega)) (fun x hx => by cases hx), trivial⟩
theorem Q124 : Q7r [] = mp [] := vmap []
theorem VEq {v : Val} (h : tot v ≤ 500000000) (w : Val) : Q15g v w := ⟨Qat (by omega), trivial⟩
end Go.Proofs.Ytnhhddbbppbblaa
end

section
/- How many values merging, a difference and a composition hold at most. -/
namespace Go.Proofs.Ytnhhddbbppbblaa
open Go.Pv
theorem Qmv (v : Val) (n : ByteArray) : (Q11 v n).1 = (atN v n).getD zV := by rw [Vget]
theorem Q17s (v : Val) (n : ByteArray) : (Q11 v n).2 = (atN v n).isSome := by rw [Vget]
theorem Q10h : ∀ (l : List Fld) (o : Val), (∀ f ∈ l, ∀ w, tot (mg w f.v) + 1 ≤ tot w + 2 * tot f.v) → tot (mgL l o) ≤ tot o + 2 * totF l
  | [], o, _ => by rw [Qkk]; omega
  | x :: l, o, h => by
    rw [Qbf, Q1j]
    have ih := fun o => Q10h l o fun f hf => h f (List.mem_cons_of_mem _ hf)
    have hx := h x List.mem_cons_self ((atN o x.name).getD zV)
    cases x.v.kind == 0 with
    | true =>
      have := ih (wo o x.name)
      have := Q149 o x.name
      rw [cond_true]
      omega
    | false =>
      have := ih (wi o x.name (mg ((atN o x.name).getD zV) x.v))
      have := Q11e o x.name (mg ((atN o x.name).getD zV) x.v)
      rw [cond_false]
      omega
theorem Qsb : ∀ (p v : Val), tot (mg v p) + 1 ≤ tot v + 2 * tot p := Qgm fun p ih v => by
  have h1 := Q4c v
  have h2 := Q4c p
  have h3 := Qdr p
  rw [mg]
  cases p.kind == 5 with
  | false => rw [cond_false]; omega
  | true =>
    rw [cond_true]
    have := Q10h p.fields (bif v.kind == 5 then v else mp []) ih
    have : tot (bif v.kind == 5 then v else mp []) ≤ tot v := by
      cases v.kind == 5 with
      | true => exact Nat.le_refl _
      | false => rw [cond_false, Qeh]; exact h1
    omega
theorem Ql8 (b : Val) : ∀ (l : List Fld) (o : Val), tot (df0 b l o) ≤ tot o + l.length
  | [], o => by rw [df0]; exact Nat.le_refl _
  | x :: l, o => by
    rw [df0, List.length_cons]
    cases (atN b x.name).isSome with
    | true => have := Ql8 b l o; rw [cond_true]; omega
    | false =>
      have := Ql8 b l (wi o x.name zV)
      have := Qd5 o x.name zV
      rw [Qtz] at this
      rw [cond_false]
      omega
theorem Qkc (a t : Nat) (h : 1 ≤ a) : t ≤ a * t := Nat.le_mul_of_pos_left t h
theorem Q119 (a : Val) : ∀ (l : List Fld) (o : Val), (∀ f ∈ l, ∀ w, tot (df w f.v) ≤ tot w * tot f.v) → tot (dfL a l o) ≤ tot o + tot a * totF l
  | [], o, _ => by rw [Qll]; exact Nat.le_add_right _ _
  | x :: l, o, h => by
    have ih := fun o => Q119 a l o fun f hf => h f (List.mem_cons_of_mem _ hf)
    have k1 := Qkc (tot a) (tot x.v) (Q4c a)
    rw [Qby, Q1j, Nat.mul_add]
    cases e : atN a x.name with
    | none =>
      have := ih (wi o x.name x.v)
      have := Qd5 o x.name x.v
      simp only
      omega
    | some y =>
      have k2 := Qj6 a x.name
      rw [e, Option.getD_some] at k2
      have k3 := h x List.mem_cons_self y
      have k4 := Nat.mul_le_mul_right (tot x.v) k2
      simp only
      split
      · have := ih o; omega
      · have := ih (wi o x.name (df y x.v))
        have := Qd5 o x.name (df y x.v)
        omega
theorem Q13s : ∀ (b a : Val), tot (df a b) ≤ tot a * tot b := Qgm fun b ih a => by
  have h0 := Qkc (tot a) (tot b) (Q4c a)
  rw [df]
  cases a.kind == 5 with
  | false => exact h0
  | true =>
    cases b.kind == 5 with
    | false => exact h0
    | true =>
      rw [cond_true, cond_true]
      have h1 := Q119 a b.fields (df0 b a.fields (mp [])) ih
      have h2 := Ql8 b a.fields (mp [])
      have h3 := Qbe a.fields
      have h4 := Qdr a
      have h5 := Qdr b
      have h6 : tot a * (1 + totF b.fields) ≤ tot a * tot b := Nat.mul_le_mul_left _ (by omega)
      rw [Nat.mul_add, Nat.mul_one] at h6
      rw [Qeh] at h2
      omega
theorem take_at {p : Val} {i : Nat} {x : Fld} (h : p.fields[i]? = some x) : totF (List.take (i + 1) p.fields) = totF (List.take i p.fields) + tot x.v ∧ totF (List.take (i + 1) p.fields) < tot p := by
  have h1 := Qpi p.fields (i + 1)
  have h2 := Qdr p
  exact ⟨Q10g p.fields i x h, by omega⟩
theorem Qrb (p : Val) : p.fields.length < tot p := by
  have h1 := Qbe p.fields
  have h2 := Qdr p
  omega
theorem Q151 {p : Val} {x : Fld} (h : x ∈ p.fields) : tot x.v ≤ tot p := by have := Qmu h; omega
end Go.Proofs.Ytnhhddbbppbblaa
end

section
/- What patching computes (printed by a program). -/
namespace Go.Proofs.Ytnhhddbbppbblaa
open Go.Pv
def s_Kh (p0 : Val) : Val :=
 (List.getD (Qx4 [p0]).list (Int.toNat 0) (Val.mk 0 0 (⟨#[]⟩ : ByteArray) [] []))
def c_Kh (p0 : Val) : En := .call 26 [.agg (Val.cells p0)] []
def a_Kh (p0 : Val) : Rs := .ret (.agg (Val.cells (s_Kh p0))) []
def H_Kh (p0 : Val) : Prop := (Q14p [p0]) ∧ ((0 : Int) ≤ 0) ∧ (Int.toNat 0 < List.length (Qx4 [p0]).list) ∧ True
theorem t_Kh (p0 : Val) (H : H_Kh p0) : Q7 G (c_Kh p0) (a_Kh p0) := by
 unfold a_Kh s_Kh
 exact Q8 (fn := Ir.Kh) rfl VOK.nil [hP 6 (Qap 5 (Val.rows (Qx4 [p0]).list) 0 _ (H.2.1) (Val.Qg (Qs (Qx4 [p0]).list (Int.toNat 0) (Val.mk 0 0 (⟨#[]⟩ : ByteArray) [] []) (H.2.2.1))) rfl)] [aN (Ql9 (e' := .call 40 [.sl [(Val.cells p0)]] []) (Q193 [p0] (H.1)) (by simp only [Q17j, Val.Q1s, Val.Q2n]))] (by kernel_rfl)
mutual
def s_Kg (p0 : Val) (p1 : Val) : Val :=
 bif (p1.kind == 5) then
  bif (p0.kind == 5) then
   (Q51 p0 p1 p1.fields 0 (s_Kh p0))
  else
   (Q51 p0 p1 p1.fields 0 (Q7r []))
 else
  (s_Kh p1)
termination_by SizeOf.sizeOf p1
decreasing_by all_goals first | exact Val.Q23 _ | exact Val.Q18 _ | exact Q27 _ _ | exact Q1x _ _ | exact Q1p _ _
def Q51 (p0 : Val) (p1 : Val) : List Fld → Nat → Val → Val
 | [], _i0, v0_1 =>
  v0_1
 | x0 :: r0, i0, v0_1 =>
  bif (x0.v.kind == 0) then
   Q51 p0 p1 r0 (i0 + 1) (Qdd v0_1 x0.name)
  else
   Q51 p0 p1 r0 (i0 + 1) (Q2f v0_1 x0.name (s_Kg (Q11 v0_1 x0.name).1 x0.v))
termination_by l => SizeOf.sizeOf l
decreasing_by all_goals first | exact Val.Q23 _ | exact Val.Q18 _ | exact Q27 _ _ | exact Q1x _ _ | exact Q1p _ _
end
def Qm8 (_p0 : Val) (p1 : Val) (i0 : Nat) (_v0_1 : Val) : List PV :=
  [.un, .un, .un, .un, .bx 0 0, .bx 1 0, .un, .un, .un, .un, .un, .un, .un, .un, .un, .un, .un, .un, .un, .un, .un, .un, .sl (Fld.rows p1.fields), .int .i64 ((List.length p1.fields) : Int), .int .i64 (i0 : Int), .un, .un, .un, .un, .un, .un, .un, .un, .un, .un, .un, .un, .un, .un, .un, .un, .un, .un, .un, .un, .un, .un, .un, .un, .un, .un, .un, .un]
def Qm3 (_p0 : Val) (_p1 : Val) (_i0 : Nat) (v0_1 : Val) : List Ob :=
  [⟨5, 0, true, [.int .i64 0, .int .i64 0, .str (⟨#[]⟩ : ByteArray), .ms 2 5 0 0, .ms 3 6 0 0]⟩, ⟨5, 0, true, [.int .i64 v0_1.kind, .int .i64 v0_1.n, .str v0_1.s, .sl (Val.rows v0_1.list), .sl (Fld.rows v0_1.fields)]⟩, ⟨5, 0, true, []⟩, ⟨6, 0, true, []⟩]
def Qaa (p0 : Val) (p1 : Val) (i0 : Nat) (v0_1 : Val) : En := .loop 0 Ir.Qh2 Ir.Q16p (Qm8 p0 p1 i0 v0_1) (Qm3 p0 p1 i0 v0_1)
def Qpm (_p0 : Val) (_p1 : Val) (q0 : Val) (z : Nat → PV) (_zo : Nat → List PV) : St :=
  ⟨[z 0, z 1, z 2, z 3, .bx 0 0, .bx 1 0, z 6, z 7, z 8, z 9, z 10, z 11, z 12, z 13, z 14, z 15, z 16, z 17, z 18, z 19, z 20, z 21, z 22, z 23, z 24, z 25, z 26, z 27, z 28, z 29, z 30, z 31, z 32, z 33, z 34, z 35, z 36, z 37, z 38, z 39, z 40, z 41, z 42, z 43, z 44, z 45, z 46, z 47, z 48, z 49, z 50, z 51, z 52], [(0, ⟨5, 0, true, [.int .i64 0, .int .i64 0, .str (⟨#[]⟩ : ByteArray), .ms 2 5 0 0, .ms 3 6 0 0]⟩), (1, ⟨5, 0, true, [.int .i64 q0.kind, .int .i64 q0.n, .str q0.s, .sl (Val.rows q0.list), .sl (Fld.rows q0.fields)]⟩), (2, ⟨5, 0, true, []⟩), (3, ⟨6, 0, true, []⟩)], 68⟩
def Qlo (p0 : Val) (p1 : Val) (e : En) (q : Val) : Prop := ∃ z zo, Q7 G e (.st (.exit 0) (Qpm p0 p1 q z zo))
theorem Qaq (p0 : Val) (p1 : Val) {e e' : En} (h : ∀ r, Q7 G e r → Q7 G e' r) : ∀ q, Qlo p0 p1 e q → Qlo p0 p1 e' q
  | _, ⟨z, zo, hz⟩ => ⟨z, zo, h _ hz⟩
def c_Kg (p0 : Val) (p1 : Val) : En := .call 13 [.agg (Val.cells p0), .agg (Val.cells p1)] []
def a_Kg (p0 : Val) (p1 : Val) : Rs := .ret (.agg (Val.cells (s_Kg p0 p1))) []
abbrev H_Kg (p0 : Val) (p1 : Val) : Prop := tot p0 + 2 * tot p1 ≤ 100000000
def Qqi (p1 : Val) : Prop := ∀ (q : Val), SizeOf.sizeOf q < SizeOf.sizeOf p1 → ∀ (p0 : Val), H_Kg p0 q → Q7 G (c_Kg p0 q) (a_Kg p0 q)
def Q85 (p0 : Val) (p1 : Val) : Prop := (List.length p1.fields ≤ 137438953472) ∧ (∀ (i0 : Nat) (v0_1 : Val) (x0 : Fld), p1.fields[i0]? = some x0 → tot v0_1 ≤ tot p0 + 2 * totF (List.take i0 p1.fields) → (x0.v.kind == 0) = true → Q12a v0_1 x0.name) ∧ (∀ (i0 : Nat) (v0_1 : Val) (x0 : Fld), p1.fields[i0]? = some x0 → tot v0_1 ≤ tot p0 + 2 * totF (List.take i0 p1.fields) → (x0.v.kind == 0) = false → Qus v0_1 x0.name) ∧ (∀ (i0 : Nat) (v0_1 : Val) (x0 : Fld), p1.fields[i0]? = some x0 → tot v0_1 ≤ tot p0 + 2 * totF (List.take i0 p1.fields) → H_Kg (Q11 v0_1 x0.name).1 x0.v) ∧ (∀ (i0 : Nat) (v0_1 : Val) (x0 : Fld), p1.fields[i0]? = some x0 → tot v0_1 ≤ tot p0 + 2 * totF (List.take i0 p1.fields) → (x0.v.kind == 0) = false → Qgp v0_1 x0.name (s_Kg (Q11 v0_1 x0.name).1 x0.v)) ∧ (∀ (i0 : Nat) (v0_1 : Val) (x0 : Fld), p1.fields[i0]? = some x0 → tot v0_1 ≤ tot p0 + 2 * totF (List.take i0 p1.fields) → (x0.v.kind == 0) = true → tot (Qdd v0_1 x0.name) ≤ tot p0 + 2 * totF (List.take (i0 + 1) p1.fields)) ∧ (∀ (i0 : Nat) (v0_1 : Val) (x0 : Fld), p1.fields[i0]? = some x0 → tot v0_1 ≤ tot p0 + 2 * totF (List.take i0 p1.fields) → (x0.v.kind == 0) = false → tot (Q2f v0_1 x0.name (s_Kg (Q11 v0_1 x0.name).1 x0.v)) ≤ tot p0 + 2 * totF (List.take (i0 + 1) p1.fields)) ∧ True
theorem Qmk {v : Val} (h : tot v ≤ 500000000) : H_Kh v := by
  refine ⟨Q19b h, ?_, ?_, trivial⟩
  · exact Int.le_refl _
  · exact Nat.zero_lt_one
theorem Q3m : ∀ (p v : Val), s_Kg v p = mg v p := Qgm fun p ih v => by
  have hl : ∀ (l : List Fld), (∀ f ∈ l, ∀ w, s_Kg w f.v = mg w f.v) → ∀ i o, Q51 v p l i o = mgL l o := by
    intro l
    induction l with
    | nil => intro _ i o; rw [Q51, Qkk]
    | cons x l ihl =>
      intro hx i o
      have ih' := ihl fun f hf => hx f (List.mem_cons_of_mem _ hf)
      rw [Q51, Qbf, Qtd, Qmv, Qs0, hx x List.mem_cons_self]
      cases x.v.kind == 0 with
      | true => exact ih' _ _
      | false => exact ih' _ _
  rw [s_Kg, mg, Q124, hl _ ih, hl _ ih]
  all_goals (cases p.kind == 5 <;> first | rfl | (cases v.kind == 5 <;> rfl))
theorem Q66 (p0 : Val) (p1 : Val) (H : H_Kg p0 p1) : ((p1.kind == 5) = true → Qr9 []) ∧ ((p1.kind == 5) = true → (p0.kind == 5) = true → H_Kh p0) ∧ ((p1.kind == 5) = true → (p0.kind == 5) = true → Q85 p0 p1) ∧ ((p1.kind == 5) = true → (p0.kind == 5) = true → tot (s_Kh p0) ≤ tot p0 + 2 * totF (List.take 0 p1.fields)) ∧ ((p1.kind == 5) = true → (p0.kind == 5) = false → Q85 p0 p1) ∧ ((p1.kind == 5) = true → (p0.kind == 5) = false → tot (Q7r []) ≤ tot p0 + 2 * totF (List.take 0 p1.fields)) ∧ ((p1.kind == 5) = false → H_Kh p1) ∧ True := by
  have hb : Q85 p0 p1 := ⟨by have := Qrb p1; omega,
    fun i v x hx hv _ => Q130 (by have := take_at hx; omega) _,
    fun i v x hx hv _ => tGet (by have := take_at hx; omega) _,
    fun i v x hx hv => by
      have := take_at hx
      have := Qj6 v x.name
      unfold H_Kg
      rw [Qmv]
      omega,
    fun i v x hx hv _ => Q14q (by have := take_at hx; omega) _ (by
      have := take_at hx
      have := Qj6 v x.name
      have := Qsb x.v ((atN v x.name).getD zV)
      rw [Q3m, Qmv]
      omega),
    fun i v x hx hv _ => by
      have := take_at hx
      have := Q149 v x.name
      rw [Qtd]
      omega,
    fun i v x hx hv _ => by
      have := take_at hx
      have := Q11e v x.name (mg ((atN v x.name).getD zV) x.v)
      have := Qsb x.v ((atN v x.name).getD zV)
      rw [Q3m, Qmv, Qs0]
      omega, trivial⟩
  have h1 := Q4c p0
  exact ⟨fun _ => Q15w, fun _ _ => Qmk (by omega), fun _ _ => hb, fun _ _ => Nat.le_add_right _ _, fun _ _ => hb, fun _ _ => by rw [Q124, Qeh]; omega, fun _ => Qmk (by omega), trivial⟩
def Qqe (_p0 : Val) (p1 : Val) (i0 : Nat) (_v0_1 : Val) : List PV :=
  [.un, .un, .un, .un, .un, .un, .un, .un, .un, .un, .un, .un, .un, .un, .un, .un, .un, .un, .un, .un, .un, .un, .sl (Fld.rows p1.fields), .int .i64 ((List.length p1.fields) : Int), .int .i64 (i0 : Int), .bool false]
def Qhr (_p0 : Val) (_p1 : Val) (_i0 : Nat) (_v0_1 : Val) : List (Nat × List PV) :=
  []
theorem Qzy (p0 : Val) (p1 : Val) (_H : Q85 p0 p1) (_rec : Qqi p1) (i0 : Nat) (v0_1 : Val) (_ho0_0 : tot v0_1 ≤ tot p0 + 2 * totF (List.take i0 p1.fields)) (hc0 : (decide ((i0 : Int) < ((List.length p1.fields) : Int))) = false) : Qlo p0 p1 (Qaa p0 p1 i0 v0_1) v0_1 := by
 exact ⟨(envF (Qqe p0 p1 i0 v0_1)), (zoF (Qhr p0 p1 i0 v0_1)), Qe VOK.nil (x := ((.exit 0), Qpm p0 p1 v0_1 (envF (Qqe p0 p1 i0 v0_1)) (zoF (Qhr p0 p1 i0 v0_1)))) [hB 0 hc0] [] (by kernel_rfl)⟩
theorem Q103 (p0 : Val) (p1 : Val) (H : Q85 p0 p1) (_rec : Qqi p1) (x0 : Fld) (i0 : Nat) (v0_1 : Val) (hx0 : p1.fields[i0]? = some x0) (hi0 : i0 < List.length p1.fields) (ho0_0 : tot v0_1 ≤ tot p0 + 2 * totF (List.take i0 p1.fields)) (hc0 : (decide ((i0 : Int) < ((List.length p1.fields) : Int))) = true) (h0 : (x0.v.kind == 0) = true) {r : Rs} (hr : Q7 G (Qaa p0 p1 (i0 + 1) (Qdd v0_1 x0.name)) r) : Q7 G (Qaa p0 p1 i0 v0_1) r := by
 have hB0 := H.1; have e0 := eq_of_beq h0
 exact Qb VOK.nil (y := (Qm8 p0 p1 (i0 + 1) (Qdd v0_1 x0.name), Qm3 p0 p1 (i0 + 1) (Qdd v0_1 x0.name))) [hB 0 hc0, hP 0 (Q1k 6 (Fld.rows p1.fields) i0 _ (Fld.Qg hx0) rfl), hB 6 h0, hP 5 (Qt i0 (by omega))] [aN (Q18k v0_1 x0.name ((H.2.1 i0 v0_1 x0 hx0 ho0_0) h0))] (by kernel_rfl) hr
theorem Q10w (p0 : Val) (p1 : Val) (H : Q85 p0 p1) (rec : Qqi p1) (x0 : Fld) (i0 : Nat) (v0_1 : Val) (hx0 : p1.fields[i0]? = some x0) (hi0 : i0 < List.length p1.fields) (ho0_0 : tot v0_1 ≤ tot p0 + 2 * totF (List.take i0 p1.fields)) (hc0 : (decide ((i0 : Int) < ((List.length p1.fields) : Int))) = true) (h0 : (x0.v.kind == 0) = false) {r : Rs} (hr : Q7 G (Qaa p0 p1 (i0 + 1) (Q2f v0_1 x0.name (s_Kg (Q11 v0_1 x0.name).1 x0.v))) r) : Q7 G (Qaa p0 p1 i0 v0_1) r := by
 have hB0 := H.1; have e0 := beq_eq_false_iff_ne.1 h0
 exact Qb VOK.nil (y := (Qm8 p0 p1 (i0 + 1) (Q2f v0_1 x0.name (s_Kg (Q11 v0_1 x0.name).1 x0.v)), Qm3 p0 p1 (i0 + 1) (Q2f v0_1 x0.name (s_Kg (Q11 v0_1 x0.name).1 x0.v)))) [hB 0 hc0, hP 0 (Q1k 6 (Fld.rows p1.fields) i0 _ (Fld.Qg hx0) rfl), hB 6 h0, hP 19 (Qt i0 (by omega))] [aN (Qp5 v0_1 x0.name ((H.2.2.1 i0 v0_1 x0 hx0 ho0_0) h0)), aN (rec x0.v (szF hx0) (Q11 v0_1 x0.name).1 (H.2.2.2.1 i0 v0_1 x0 hx0 ho0_0)), aN (Quv v0_1 x0.name (s_Kg (Q11 v0_1 x0.name).1 x0.v) ((H.2.2.2.2.1 i0 v0_1 x0 hx0 ho0_0) h0))] (by kernel_rfl) hr
theorem Qbb (p0 : Val) (p1 : Val) (H : Q85 p0 p1) (rec : Qqi p1) : ∀ (r0 : List Fld) (i0 : Nat) (v0_1 : Val), List.drop i0 p1.fields = r0 → tot v0_1 ≤ tot p0 + 2 * totF (List.take i0 p1.fields) → Qlo p0 p1 (Qaa p0 p1 i0 v0_1) (Q51 p0 p1 r0 i0 v0_1)
 | [], i0, v0_1, hd, ho0_0 => by
  have hc0 : (decide ((i0 : Int) < ((List.length p1.fields) : Int))) = false := by have := Q1o hd; simp; omega
  rw [Q51]
  exact Qzy p0 p1 H rec i0 v0_1 ho0_0 hc0
 | x0 :: r0, i0, v0_1, hd, ho0_0 => by
  obtain ⟨hx0, hi0, hd'⟩ := Q1b hd
  have hc0 : (decide ((i0 : Int) < ((List.length p1.fields) : Int))) = true := by simp; omega
  rw [Q51]
  cases h0 : (x0.v.kind == 0) with
  | true =>
   exact Qaq p0 p1 (fun r hr => Q103 p0 p1 H rec x0 i0 v0_1 hx0 hi0 ho0_0 hc0 h0 hr) _ (Qbb p0 p1 H rec r0 (i0 + 1) (Qdd v0_1 x0.name) hd' ((H.2.2.2.2.2.1 i0 v0_1 x0 hx0 ho0_0) h0))
  | false =>
   exact Qaq p0 p1 (fun r hr => Q10w p0 p1 H rec x0 i0 v0_1 hx0 hi0 ho0_0 hc0 h0 hr) _ (Qbb p0 p1 H rec r0 (i0 + 1) (Q2f v0_1 x0.name (s_Kg (Q11 v0_1 x0.name).1 x0.v)) hd' ((H.2.2.2.2.2.2.1 i0 v0_1 x0 hx0 ho0_0) h0))
theorem r_Kg (p0 : Val) (p1 : Val) (H : H_Kg p0 p1) (rec : Qqi p1) : Q7 G (c_Kg p0 p1) (a_Kg p0 p1) := by
  unfold a_Kg
  rw [s_Kg]
  cases h0 : (p1.kind == 5) with
  | true =>
   cases h1 : (p0.kind == 5) with
   | true =>
    have hl2 := Qbb p0 p1 ((Q66 p0 p1 H).2.2.1 h0 h1) rec p1.fields 0 (s_Kh p0) (by simp) ((Q66 p0 p1 H).2.2.2.1 h0 h1)
    obtain ⟨z2, zo2, hl2⟩ := hl2
    exact Q8 (fn := Ir.Kg) rfl VOK.nil [hP 5 (dec (!(p1.kind == 5)) false (by rw [h0]; rfl)), hB 5 h1, hP 5 (Qi (Fld.rows p1.fields) (List.length p1.fields) (Fld.Qd p1.fields))] [aN (Qye [] ((Q66 p0 p1 H).1 h0)), aN (t_Kh p0 ((Q66 p0 p1 H).2.1 h0 h1)), aN hl2] (by kernel_rfl)
   | false =>
    have hl2 := Qbb p0 p1 ((Q66 p0 p1 H).2.2.2.2.1 h0 h1) rec p1.fields 0 (Q7r []) (by simp) ((Q66 p0 p1 H).2.2.2.2.2.1 h0 h1)
    obtain ⟨z2, zo2, hl2⟩ := hl2
    exact Q8 (fn := Ir.Kg) rfl VOK.nil [hP 5 (dec (!(p1.kind == 5)) false (by rw [h0]; rfl)), hB 5 h1, hP 2 (Qi (Fld.rows p1.fields) (List.length p1.fields) (Fld.Qd p1.fields))] [aN (Qye [] ((Q66 p0 p1 H).1 h0)), aN hl2] (by kernel_rfl)
  | false =>
   exact Q8 (fn := Ir.Kg) rfl VOK.nil [hP 5 (dec (!(p1.kind == 5)) true (by rw [h0]; rfl))] [aN (t_Kh p1 ((Q66 p0 p1 H).2.2.2.2.2.2.1 h0))] (by kernel_rfl)
theorem i_Kg : ∀ (k : Nat) (p1 : Val), SizeOf.sizeOf p1 < k → ∀ (p0 : Val), H_Kg p0 p1 → Q7 G (c_Kg p0 p1) (a_Kg p0 p1)
  | 0, _, h, _, _ => absurd h (Nat.not_lt_zero _)
  | k + 1, p1, h, p0, H => r_Kg p0 p1 H (fun q hq p0 hH => i_Kg k q (by omega) p0 hH)
theorem t_Kg (p0 : Val) (p1 : Val) (H : H_Kg p0 p1) : Q7 G (c_Kg p0 p1) (a_Kg p0 p1) := i_Kg _ p1 (Nat.lt_succ_self _) p0 H
def Qg7 : Val :=
 (Val.mk 0 0 (⟨#[]⟩ : ByteArray) [] [])
def Q19u : En := .call 33 [] []
def Q170 : Rs := .ret (.agg (Val.cells (Qg7))) []
theorem Q18s : Q7 G (Q19u) (Q170) := by
 unfold Q170 Qg7
 exact Q8 (fn := Ir.K1o) rfl VOK.nil [] [] (by kernel_rfl)
mutual
def s_Kf (p0 : Val) (p1 : Val) : Val :=
 bif (p0.kind == 5) then
  bif (p1.kind == 5) then
   (Q40 p0 p1 p1.fields 0 (Q4g p0 p1 p0.fields 0 (Q7r [])))
  else
   (s_Kh p1)
 else
  (s_Kh p1)
termination_by SizeOf.sizeOf p1
decreasing_by all_goals first | exact Val.Q23 _ | exact Val.Q18 _ | exact Q27 _ _ | exact Q1x _ _ | exact Q1p _ _
def Q4g (p0 : Val) (p1 : Val) : List Fld → Nat → Val → Val
 | [], _i0, v0_1 =>
  v0_1
 | x0 :: r0, i0, v0_1 =>
  bif (Q11 p1 x0.name).2 then
   Q4g p0 p1 r0 (i0 + 1) v0_1
  else
   Q4g p0 p1 r0 (i0 + 1) (Q2f v0_1 x0.name (Qg7))
termination_by l => SizeOf.sizeOf l
decreasing_by all_goals first | exact Val.Q23 _ | exact Val.Q18 _ | exact Q27 _ _ | exact Q1x _ _ | exact Q1p _ _
def Q40 (p0 : Val) (p1 : Val) : List Fld → Nat → Val → Val
 | [], _i1, v1_1 =>
  v1_1
 | x1 :: r1, i1, v1_1 =>
  bif (Q11 p0 x1.name).2 then
   bif (Q5h (Q11 p0 x1.name).1 x1.v) then
    Q40 p0 p1 r1 (i1 + 1) v1_1
   else
    bif ((Q11 p0 x1.name).1.kind == 5) then
     bif (x1.v.kind == 5) then
      Q40 p0 p1 r1 (i1 + 1) (Q2f v1_1 x1.name (s_Kf (Q11 p0 x1.name).1 x1.v))
     else
      Q40 p0 p1 r1 (i1 + 1) (Q2f v1_1 x1.name x1.v)
    else
     Q40 p0 p1 r1 (i1 + 1) (Q2f v1_1 x1.name x1.v)
  else
   Q40 p0 p1 r1 (i1 + 1) (Q2f v1_1 x1.name x1.v)
termination_by l => SizeOf.sizeOf l
decreasing_by all_goals first | exact Val.Q23 _ | exact Val.Q18 _ | exact Q27 _ _ | exact Q1x _ _ | exact Q1p _ _
end
def Qla (p0 : Val) (_p1 : Val) (i0 : Nat) (_v0_1 : Val) : List PV :=
  [.un, .un, .bx 0 0, .bx 1 0, .bx 2 0, .bx 3 0, .un, .un, .un, .un, .un, .un, .un, .un, .un, .un, .un, .un, .un, .un, .un, .un, .un, .un, .un, .un, .sl (Fld.rows p0.fields), .int .i64 ((List.length p0.fields) : Int), .int .i64 (i0 : Int), .un, .un, .un, .un, .un, .un, .un, .un, .un, .un, .un, .un, .un, .un, .un, .un, .un, .un, .un, .un, .un, .un, .un, .un, .un, .un, .un, .un, .un, .un, .un, .un, .un, .un, .un, .un, .un, .un, .un, .un, .un, .un, .un, .un, .un, .un, .un, .un, .un, .un, .un, .un, .un, .un, .un, .un, .un, .un, .un, .un, .un, .un, .un, .un, .un, .un, .un, .un, .un]
def Qly (p0 : Val) (p1 : Val) (_i0 : Nat) (v0_1 : Val) : List Ob :=
  [⟨5, 0, true, [.int .i64 p0.kind, .int .i64 p0.n, .str p0.s, .sl (Val.rows p0.list), .sl (Fld.rows p0.fields)]⟩, ⟨5, 0, true, [.int .i64 p1.kind, .int .i64 p1.n, .str p1.s, .sl (Val.rows p1.list), .sl (Fld.rows p1.fields)]⟩, ⟨5, 0, true, [.int .i64 0, .int .i64 0, .str (⟨#[]⟩ : ByteArray), .ms 4 5 0 0, .ms 5 6 0 0]⟩, ⟨5, 0, true, [.int .i64 v0_1.kind, .int .i64 v0_1.n, .str v0_1.s, .sl (Val.rows v0_1.list), .sl (Fld.rows v0_1.fields)]⟩, ⟨5, 0, true, []⟩, ⟨6, 0, true, []⟩]
def Qa0 (p0 : Val) (p1 : Val) (i0 : Nat) (v0_1 : Val) : En := .loop 0 Ir.Qhy Ir.Q177 (Qla p0 p1 i0 v0_1) (Qly p0 p1 i0 v0_1)
def Qq9 (p0 : Val) (p1 : Val) (q0 : Val) (z : Nat → PV) (_zo : Nat → List PV) : St :=
  ⟨[z 0, z 1, .bx 0 0, .bx 1 0, .bx 2 0, .bx 3 0, z 6, z 7, z 8, z 9, z 10, z 11, z 12, z 13, z 14, z 15, z 16, z 17, z 18, z 19, z 20, z 21, z 22, z 23, z 24, z 25, z 26, z 27, z 28, z 29, z 30, z 31, z 32, z 33, z 34, z 35, z 36, z 37, z 38, z 39, z 40, z 41, z 42, z 43, z 44, z 45, z 46, z 47, z 48, z 49, z 50, z 51, z 52, z 53, z 54, z 55, z 56, z 57, z 58, z 59, z 60, z 61, z 62, z 63, z 64, z 65, z 66, z 67, z 68, z 69, z 70, z 71, z 72, z 73, z 74, z 75, z 76, z 77, z 78, z 79, z 80, z 81, z 82, z 83, z 84, z 85, z 86, z 87, z 88, z 89, z 90, z 91, z 92, z 93, z 94, z 95, z 96, z 97], [(0, ⟨5, 0, true, [.int .i64 p0.kind, .int .i64 p0.n, .str p0.s, .sl (Val.rows p0.list), .sl (Fld.rows p0.fields)]⟩), (1, ⟨5, 0, true, [.int .i64 p1.kind, .int .i64 p1.n, .str p1.s, .sl (Val.rows p1.list), .sl (Fld.rows p1.fields)]⟩), (2, ⟨5, 0, true, [.int .i64 0, .int .i64 0, .str (⟨#[]⟩ : ByteArray), .ms 4 5 0 0, .ms 5 6 0 0]⟩), (3, ⟨5, 0, true, [.int .i64 q0.kind, .int .i64 q0.n, .str q0.s, .sl (Val.rows q0.list), .sl (Fld.rows q0.fields)]⟩), (4, ⟨5, 0, true, []⟩), (5, ⟨6, 0, true, []⟩)], 70⟩
def Qks (p0 : Val) (p1 : Val) (e : En) (q : Val) : Prop := ∃ z zo, Q7 G e (.st (.exit 0) (Qq9 p0 p1 q z zo))
theorem Qan (p0 : Val) (p1 : Val) {e e' : En} (h : ∀ r, Q7 G e r → Q7 G e' r) : ∀ q, Qks p0 p1 e q → Qks p0 p1 e' q
  | _, ⟨z, zo, hz⟩ => ⟨z, zo, h _ hz⟩
def Q7d (_p0 : Val) (p1 : Val) (i1 : Nat) (_v1_1 : Val) : List PV :=
  [.un, .un, .bx 0 0, .un, .bx 1 0, .bx 2 0, .un, .un, .un, .un, .un, .un, .un, .un, .un, .un, .un, .un, .un, .un, .un, .un, .un, .un, .un, .un, .un, .un, .un, .un, .un, .un, .un, .un, .un, .un, .un, .un, .un, .un, .un, .un, .un, .un, .un, .un, .un, .un, .sl (Fld.rows p1.fields), .int .i64 ((List.length p1.fields) : Int), .int .i64 (i1 : Int), .un, .un, .un, .un, .un, .un, .un, .un, .un, .un, .un, .un, .un, .un, .un, .un, .un, .un, .un, .un, .un, .un, .un, .un, .un, .un, .un, .un, .un, .un, .un, .un, .un, .un, .un, .un, .un, .un, .un, .un, .un, .un, .un, .un, .un, .un, .un]
def Q74 (p0 : Val) (_p1 : Val) (_i1 : Nat) (v1_1 : Val) : List Ob :=
  [⟨5, 0, true, [.int .i64 p0.kind, .int .i64 p0.n, .str p0.s, .sl (Val.rows p0.list), .sl (Fld.rows p0.fields)]⟩, ⟨5, 0, true, [.int .i64 0, .int .i64 0, .str (⟨#[]⟩ : ByteArray), .ms 3 5 0 0, .ms 4 6 0 0]⟩, ⟨5, 0, true, [.int .i64 v1_1.kind, .int .i64 v1_1.n, .str v1_1.s, .sl (Val.rows v1_1.list), .sl (Fld.rows v1_1.fields)]⟩, ⟨5, 0, true, []⟩, ⟨6, 0, true, []⟩]
def Q42 (p0 : Val) (p1 : Val) (i1 : Nat) (v1_1 : Val) : En := .loop 0 Ir.Qi2 Ir.Q16b (Q7d p0 p1 i1 v1_1) (Q74 p0 p1 i1 v1_1)
def Qmy (p0 : Val) (_p1 : Val) (q0 : Val) (z : Nat → PV) (_zo : Nat → List PV) : St :=
  ⟨[z 0, z 1, z 2, z 3, .bx 1 0, .bx 2 0, z 6, z 7, z 8, z 9, z 10, z 11, z 12, z 13, z 14, z 15, z 16, z 17, z 18, z 19, z 20, z 21, z 22, z 23, z 24, z 25, z 26, z 27, z 28, z 29, z 30, z 31, z 32, z 33, z 34, z 35, z 36, z 37, z 38, z 39, z 40, z 41, z 42, z 43, z 44, z 45, z 46, z 47, z 48, z 49, z 50, z 51, z 52, z 53, z 54, z 55, z 56, z 57, z 58, z 59, z 60, z 61, z 62, z 63, z 64, z 65, z 66, z 67, z 68, z 69, z 70, z 71, z 72, z 73, z 74, z 75, z 76, z 77, z 78, z 79, z 80, z 81, z 82, z 83, z 84, z 85, z 86, z 87, z 88, z 89, z 90, z 91, z 92, z 93, z 94, z 95, z 96, z 97], [(0, ⟨5, 0, true, [.int .i64 p0.kind, .int .i64 p0.n, .str p0.s, .sl (Val.rows p0.list), .sl (Fld.rows p0.fields)]⟩), (1, ⟨5, 0, true, [.int .i64 0, .int .i64 0, .str (⟨#[]⟩ : ByteArray), .ms 3 5 0 0, .ms 4 6 0 0]⟩), (2, ⟨5, 0, true, [.int .i64 q0.kind, .int .i64 q0.n, .str q0.s, .sl (Val.rows q0.list), .sl (Fld.rows q0.fields)]⟩), (3, ⟨5, 0, true, []⟩), (4, ⟨6, 0, true, []⟩)], 69⟩
def Ql6 (p0 : Val) (p1 : Val) (e : En) (q : Val) : Prop := ∃ z zo, Q7 G e (.st (.exit 2) (Qmy p0 p1 q z zo))
theorem Q3z (p0 : Val) (p1 : Val) {e e' : En} (h : ∀ r, Q7 G e r → Q7 G e' r) : ∀ q, Ql6 p0 p1 e q → Ql6 p0 p1 e' q
  | _, ⟨z, zo, hz⟩ => ⟨z, zo, h _ hz⟩
def c_Kf (p0 : Val) (p1 : Val) : En := .call 15 [.agg (Val.cells p0), .agg (Val.cells p1)] []
def a_Kf (p0 : Val) (p1 : Val) : Rs := .ret (.agg (Val.cells (s_Kf p0 p1))) []
abbrev H_Kf (p0 : Val) (p1 : Val) : Prop := tot p0 * tot p1 ≤ 100000000
def Q60 (p1 : Val) : Prop := ∀ (q : Val), SizeOf.sizeOf q < SizeOf.sizeOf p1 → ∀ (p0 : Val), H_Kf p0 q → Q7 G (c_Kf p0 q) (a_Kf p0 q)
def Qac (p0 : Val) (p1 : Val) : Prop := (List.length p0.fields ≤ 137438953472) ∧ (∀ x0 ∈ p0.fields, Qus p1 x0.name) ∧ (∀ (i0 : Nat) (v0_1 : Val) (x0 : Fld), p0.fields[i0]? = some x0 → tot v0_1 ≤ 1 + i0 → (Q11 p1 x0.name).2 = false → Qgp v0_1 x0.name (Qg7)) ∧ (∀ (i0 : Nat) (v0_1 : Val) (x0 : Fld), p0.fields[i0]? = some x0 → tot v0_1 ≤ 1 + i0 → (Q11 p1 x0.name).2 = true → tot v0_1 ≤ 1 + (i0 + 1)) ∧ (∀ (i0 : Nat) (v0_1 : Val) (x0 : Fld), p0.fields[i0]? = some x0 → tot v0_1 ≤ 1 + i0 → (Q11 p1 x0.name).2 = false → tot (Q2f v0_1 x0.name (Qg7)) ≤ 1 + (i0 + 1)) ∧ True
def Q5q (p0 : Val) (p1 : Val) : Prop := (List.length p1.fields ≤ 137438953472) ∧ (∀ x1 ∈ p1.fields, Qus p0 x1.name) ∧ (∀ x1 ∈ p1.fields, (Q11 p0 x1.name).2 = true → Q15g (Q11 p0 x1.name).1 x1.v) ∧ (∀ x1 ∈ p1.fields, H_Kf (Q11 p0 x1.name).1 x1.v) ∧ (∀ (i1 : Nat) (v1_1 : Val) (x1 : Fld), p1.fields[i1]? = some x1 → tot v1_1 ≤ tot p0 + tot p0 * totF (List.take i1 p1.fields) → (Q11 p0 x1.name).2 = true → (Q5h (Q11 p0 x1.name).1 x1.v) = false → ((Q11 p0 x1.name).1.kind == 5) = true → (x1.v.kind == 5) = true → Qgp v1_1 x1.name (s_Kf (Q11 p0 x1.name).1 x1.v)) ∧ (∀ (i1 : Nat) (v1_1 : Val) (x1 : Fld), p1.fields[i1]? = some x1 → tot v1_1 ≤ tot p0 + tot p0 * totF (List.take i1 p1.fields) → (Q11 p0 x1.name).2 = true → (Q5h (Q11 p0 x1.name).1 x1.v) = false → ((Q11 p0 x1.name).1.kind == 5) = true → (x1.v.kind == 5) = false → Qgp v1_1 x1.name x1.v) ∧ (∀ (i1 : Nat) (v1_1 : Val) (x1 : Fld), p1.fields[i1]? = some x1 → tot v1_1 ≤ tot p0 + tot p0 * totF (List.take i1 p1.fields) → (Q11 p0 x1.name).2 = true → (Q5h (Q11 p0 x1.name).1 x1.v) = false → ((Q11 p0 x1.name).1.kind == 5) = false → Qgp v1_1 x1.name x1.v) ∧ (∀ (i1 : Nat) (v1_1 : Val) (x1 : Fld), p1.fields[i1]? = some x1 → tot v1_1 ≤ tot p0 + tot p0 * totF (List.take i1 p1.fields) → (Q11 p0 x1.name).2 = false → Qgp v1_1 x1.name x1.v) ∧ (∀ (i1 : Nat) (v1_1 : Val) (x1 : Fld), p1.fields[i1]? = some x1 → tot v1_1 ≤ tot p0 + tot p0 * totF (List.take i1 p1.fields) → (Q11 p0 x1.name).2 = true → (Q5h (Q11 p0 x1.name).1 x1.v) = true → tot v1_1 ≤ tot p0 + tot p0 * totF (List.take (i1 + 1) p1.fields)) ∧ (∀ (i1 : Nat) (v1_1 : Val) (x1 : Fld), p1.fields[i1]? = some x1 → tot v1_1 ≤ tot p0 + tot p0 * totF (List.take i1 p1.fields) → (Q11 p0 x1.name).2 = true → (Q5h (Q11 p0 x1.name).1 x1.v) = false → ((Q11 p0 x1.name).1.kind == 5) = true → (x1.v.kind == 5) = true → tot (Q2f v1_1 x1.name (s_Kf (Q11 p0 x1.name).1 x1.v)) ≤ tot p0 + tot p0 * totF (List.take (i1 + 1) p1.fields)) ∧ (∀ (i1 : Nat) (v1_1 : Val) (x1 : Fld), p1.fields[i1]? = some x1 → tot v1_1 ≤ tot p0 + tot p0 * totF (List.take i1 p1.fields) → (Q11 p0 x1.name).2 = true → (Q5h (Q11 p0 x1.name).1 x1.v) = false → ((Q11 p0 x1.name).1.kind == 5) = true → (x1.v.kind == 5) = false → tot (Q2f v1_1 x1.name x1.v) ≤ tot p0 + tot p0 * totF (List.take (i1 + 1) p1.fields)) ∧ (∀ (i1 : Nat) (v1_1 : Val) (x1 : Fld), p1.fields[i1]? = some x1 → tot v1_1 ≤ tot p0 + tot p0 * totF (List.take i1 p1.fields) → (Q11 p0 x1.name).2 = true → (Q5h (Q11 p0 x1.name).1 x1.v) = false → ((Q11 p0 x1.name).1.kind == 5) = false → tot (Q2f v1_1 x1.name x1.v) ≤ tot p0 + tot p0 * totF (List.take (i1 + 1) p1.fields)) ∧ (∀ (i1 : Nat) (v1_1 : Val) (x1 : Fld), p1.fields[i1]? = some x1 → tot v1_1 ≤ tot p0 + tot p0 * totF (List.take i1 p1.fields) → (Q11 p0 x1.name).2 = false → tot (Q2f v1_1 x1.name x1.v) ≤ tot p0 + tot p0 * totF (List.take (i1 + 1) p1.fields)) ∧ True
theorem Q5l (a b : Val) : ∀ (l : List Fld) (i : Nat) (o : Val), Q4g a b l i o = df0 b l o
  | [], i, o => by rw [Q4g, df0]
  | x :: l, i, o => by
    rw [Q4g, df0, Q17s, Qs0]
    cases (atN b x.name).isSome with
    | true => exact Q5l a b l (i + 1) o
    | false => exact Q5l a b l (i + 1) _
theorem Qah : ∀ (b a : Val), s_Kf a b = df a b := Qgm fun b ih a => by
  have hl : ∀ (l : List Fld), (∀ f ∈ l, ∀ w, s_Kf w f.v = df w f.v) → ∀ i o, Q40 a b l i o = dfL a l o := by
    intro l
    induction l with
    | nil => intro _ i o; rw [Q40, Qll]
    | cons x l ihl =>
      intro hx i o
      have ih' := ihl fun f hf => hx f (List.mem_cons_of_mem _ hf)
      rw [Q40, Qby, Q17s, Qmv, Qs0, Qs0, hx x List.mem_cons_self]
      cases e : atN a x.name with
      | none => exact ih' _ _
      | some y =>
        simp only [Option.isSome_some, cond_true, Option.getD_some]
        by_cases c : y = x.v
        · rw [if_pos c, (Qij _ _).2 c, cond_true, ih']
        · rw [if_neg c, show Q5h y x.v = false by cases h : Q5h y x.v with | false => rfl | true => exact absurd ((Qij _ _).1 h) c, cond_false, ih', ih']
          cases ky : y.kind == 5 with
          | false => rw [cond_false, Qcr (fun q => by rw [q.1] at ky; cases ky)]
          | true =>
            rw [cond_true]
            cases kx : x.v.kind == 5 with
            | false => rw [cond_false, Qcr (fun q => by rw [q.2] at kx; cases kx)]
            | true => rw [cond_true]
  rw [s_Kf, df, hl _ ih, Q5l, Q124]
  all_goals (cases a.kind == 5 <;> first | rfl | (cases b.kind == 5 <;> rfl))
theorem Q7t (p0 : Val) (p1 : Val) (H : H_Kf p0 p1) : ((p0.kind == 5) = true → (p1.kind == 5) = true → Qr9 []) ∧ ((p0.kind == 5) = true → (p1.kind == 5) = true → Qac p0 p1) ∧ ((p0.kind == 5) = true → (p1.kind == 5) = true → tot (Q7r []) ≤ 1 + 0) ∧ ((p0.kind == 5) = true → (p1.kind == 5) = true → Q5q p0 p1) ∧ ((p0.kind == 5) = true → (p1.kind == 5) = true → tot (Q4g p0 p1 p0.fields 0 (Q7r [])) ≤ tot p0 + tot p0 * totF (List.take 0 p1.fields)) ∧ ((p0.kind == 5) = true → (p1.kind == 5) = false → H_Kh p1) ∧ ((p0.kind == 5) = false → H_Kh p1) ∧ True := by
  have hA := Q4c p0
  have hB := Q4c p1
  have hA' := Nat.le_mul_of_pos_right (tot p0) hB
  have hB' := Nat.le_mul_of_pos_left (tot p1) hA
  have l0 := Qrb p0
  have l1 := Qrb p1
  have st : ∀ (i : Nat) (x : Fld), p1.fields[i]? = some x → tot p0 * totF (List.take (i + 1) p1.fields) = tot p0 * totF (List.take i p1.fields) + tot p0 * tot x.v ∧ tot p0 + tot p0 * totF (List.take (i + 1) p1.fields) ≤ tot p0 * tot p1 ∧ tot x.v ≤ tot p0 * tot x.v := fun i x hx => by
    obtain ⟨h1, h2⟩ := take_at hx
    have h3 : tot p0 * (1 + totF (List.take (i + 1) p1.fields)) ≤ tot p0 * tot p1 := Nat.mul_le_mul_left _ (by omega)
    rw [Nat.mul_add, Nat.mul_one] at h3
    exact ⟨by rw [h1, Nat.mul_add], h3, Nat.le_mul_of_pos_left _ hA⟩
  have sd : ∀ x : Fld, tot (s_Kf (Q11 p0 x.name).1 x.v) ≤ tot p0 * tot x.v := fun x => by
    rw [Qah, Qmv]
    exact Nat.le_trans (Q13s _ _) (Nat.mul_le_mul_right _ (Qj6 p0 x.name))
  have hw : ∀ (i : Nat) (v : Val) (x : Fld) (y : Val), p1.fields[i]? = some x → tot v ≤ tot p0 + tot p0 * totF (List.take i p1.fields) → tot y ≤ tot p0 * tot x.v → Qgp v x.name y ∧ tot (Q2f v x.name y) ≤ tot p0 + tot p0 * totF (List.take (i + 1) p1.fields) := fun i v x y hx hv hy => by
    obtain ⟨h1, h2, h3⟩ := st i x hx
    have := Qd5 v x.name y
    exact ⟨Q14q (by omega) _ (by omega), by rw [Qs0]; omega⟩
  have b0 : Qac p0 p1 := ⟨by omega, fun x _ => tGet (by omega) _,
    fun i v x hx hv _ => Q14q (by have := (List.getElem?_eq_some_iff.1 hx).1; omega) _ (by first | (rw [show tot (Qg7) = 1 from Qtz]; omega) | (rw [Qtz]; omega)),
    fun i v x hx hv _ => by omega,
    fun i v x hx hv _ => by
      rw [Qs0]
      have := Qd5 v x.name zV
      rw [Qtz] at this
      first | omega | (change tot (wi v x.name zV) ≤ _; omega), trivial⟩
  have b1 : Q5q p0 p1 := ⟨by omega, fun x _ => tGet (by omega) _, fun x _ _ => by rw [Qmv]; exact VEq (by have := Qj6 p0 x.name; omega) _,
    fun x hx => by rw [Qmv]; exact Nat.le_trans (Nat.mul_le_mul (Qj6 p0 x.name) (Q151 hx)) H,
    fun i v x hx hv _ _ _ _ => (hw i v x _ hx hv (sd x)).1, fun i v x hx hv _ _ _ _ => (hw i v x _ hx hv (st i x hx).2.2).1, fun i v x hx hv _ _ _ => (hw i v x _ hx hv (st i x hx).2.2).1, fun i v x hx hv _ => (hw i v x _ hx hv (st i x hx).2.2).1,
    fun i v x hx hv _ _ => by have := st i x hx; omega,
    fun i v x hx hv _ _ _ _ => (hw i v x _ hx hv (sd x)).2, fun i v x hx hv _ _ _ _ => (hw i v x _ hx hv (st i x hx).2.2).2, fun i v x hx hv _ _ _ => (hw i v x _ hx hv (st i x hx).2.2).2, fun i v x hx hv _ => (hw i v x _ hx hv (st i x hx).2.2).2, trivial⟩
  exact ⟨fun _ _ => Q15w, fun _ _ => b0, fun _ _ => by rw [Q124, Qeh]; omega, fun _ _ => b1, fun _ _ => by
    rw [Q5l, Q124]
    have := Ql8 p1 p0.fields (mp [])
    rw [Qeh] at this
    omega, fun _ _ => Qmk (by omega), fun _ => Qmk (by omega), trivial⟩
def Qp0 (p0 : Val) (_p1 : Val) (i0 : Nat) (_v0_1 : Val) : List PV :=
  [.un, .un, .un, .un, .un, .un, .un, .un, .un, .un, .un, .un, .un, .un, .un, .un, .un, .un, .un, .un, .un, .un, .un, .un, .un, .un, .sl (Fld.rows p0.fields), .int .i64 ((List.length p0.fields) : Int), .int .i64 (i0 : Int), .bool false]
def Qhf (_p0 : Val) (_p1 : Val) (_i0 : Nat) (_v0_1 : Val) : List (Nat × List PV) :=
  []
theorem Qzh (p0 : Val) (p1 : Val) (_H : Qac p0 p1) (_rec : Q60 p1) (i0 : Nat) (v0_1 : Val) (_ho0_0 : tot v0_1 ≤ 1 + i0) (hc0 : (decide ((i0 : Int) < ((List.length p0.fields) : Int))) = false) : Qks p0 p1 (Qa0 p0 p1 i0 v0_1) v0_1 := by
 exact ⟨(envF (Qp0 p0 p1 i0 v0_1)), (zoF (Qhf p0 p1 i0 v0_1)), Qe VOK.nil (x := ((.exit 0), Qq9 p0 p1 v0_1 (envF (Qp0 p0 p1 i0 v0_1)) (zoF (Qhf p0 p1 i0 v0_1)))) [hB 0 hc0] [] (by kernel_rfl)⟩
theorem Q120 (p0 : Val) (p1 : Val) (H : Qac p0 p1) (_rec : Q60 p1) (x0 : Fld) (i0 : Nat) (v0_1 : Val) (hx0 : p0.fields[i0]? = some x0) (hi0 : i0 < List.length p0.fields) (_ho0_0 : tot v0_1 ≤ 1 + i0) (hc0 : (decide ((i0 : Int) < ((List.length p0.fields) : Int))) = true) (h0 : (Q11 p1 x0.name).2 = true) {r : Rs} (hr : Q7 G (Qa0 p0 p1 (i0 + 1) v0_1) r) : Q7 G (Qa0 p0 p1 i0 v0_1) r := by
 have hB0 := H.1
 exact Qb VOK.nil (y := (Qla p0 p1 (i0 + 1) v0_1, Qly p0 p1 (i0 + 1) v0_1)) [hB 0 hc0, hP 0 (Q1k 6 (Fld.rows p0.fields) i0 _ (Fld.Qg hx0) rfl), hB 9 h0, hP 5 (Qt i0 (by omega))] [aN (Qp5 p1 x0.name ((H.2.1 x0 (Qw hx0))))] (by kernel_rfl) hr
theorem Q109 (p0 : Val) (p1 : Val) (H : Qac p0 p1) (_rec : Q60 p1) (x0 : Fld) (i0 : Nat) (v0_1 : Val) (hx0 : p0.fields[i0]? = some x0) (hi0 : i0 < List.length p0.fields) (ho0_0 : tot v0_1 ≤ 1 + i0) (hc0 : (decide ((i0 : Int) < ((List.length p0.fields) : Int))) = true) (h0 : (Q11 p1 x0.name).2 = false) {r : Rs} (hr : Q7 G (Qa0 p0 p1 (i0 + 1) (Q2f v0_1 x0.name (Qg7))) r) : Q7 G (Qa0 p0 p1 i0 v0_1) r := by
 have hB0 := H.1
 exact Qb VOK.nil (y := (Qla p0 p1 (i0 + 1) (Q2f v0_1 x0.name (Qg7)), Qly p0 p1 (i0 + 1) (Q2f v0_1 x0.name (Qg7)))) [hB 0 hc0, hP 0 (Q1k 6 (Fld.rows p0.fields) i0 _ (Fld.Qg hx0) rfl), hB 9 h0, hP 11 (Qt i0 (by omega))] [aN (Qp5 p1 x0.name ((H.2.1 x0 (Qw hx0)))), aN (Q18s), aN (Quv v0_1 x0.name (Qg7) ((H.2.2.1 i0 v0_1 x0 hx0 ho0_0) h0))] (by kernel_rfl) hr
theorem Qkr (p0 : Val) (p1 : Val) (H : Qac p0 p1) (rec : Q60 p1) : ∀ (r0 : List Fld) (i0 : Nat) (v0_1 : Val), List.drop i0 p0.fields = r0 → tot v0_1 ≤ 1 + i0 → Qks p0 p1 (Qa0 p0 p1 i0 v0_1) (Q4g p0 p1 r0 i0 v0_1)
 | [], i0, v0_1, hd, ho0_0 => by
  have hc0 : (decide ((i0 : Int) < ((List.length p0.fields) : Int))) = false := by have := Q1o hd; simp; omega
  rw [Q4g]
  exact Qzh p0 p1 H rec i0 v0_1 ho0_0 hc0
 | x0 :: r0, i0, v0_1, hd, ho0_0 => by
  obtain ⟨hx0, hi0, hd'⟩ := Q1b hd
  have hc0 : (decide ((i0 : Int) < ((List.length p0.fields) : Int))) = true := by simp; omega
  rw [Q4g]
  cases h0 : (Q11 p1 x0.name).2 with
  | true =>
   exact Qan p0 p1 (fun r hr => Q120 p0 p1 H rec x0 i0 v0_1 hx0 hi0 ho0_0 hc0 h0 hr) _ (Qkr p0 p1 H rec r0 (i0 + 1) v0_1 hd' ((H.2.2.2.1 i0 v0_1 x0 hx0 ho0_0) h0))
  | false =>
   exact Qan p0 p1 (fun r hr => Q109 p0 p1 H rec x0 i0 v0_1 hx0 hi0 ho0_0 hc0 h0 hr) _ (Qkr p0 p1 H rec r0 (i0 + 1) (Q2f v0_1 x0.name (Qg7)) hd' ((H.2.2.2.2.1 i0 v0_1 x0 hx0 ho0_0) h0))
def Qng (_p0 : Val) (p1 : Val) (i1 : Nat) (_v1_1 : Val) : List PV :=
  [.un, .un, .bx 0 0, .un, .un, .un, .un, .un, .un, .un, .un, .un, .un, .un, .un, .un, .un, .un, .un, .un, .un, .un, .un, .un, .un, .un, .un, .un, .un, .un, .un, .un, .un, .un, .un, .un, .un, .un, .un, .un, .un, .un, .un, .un, .un, .un, .un, .un, .sl (Fld.rows p1.fields), .int .i64 ((List.length p1.fields) : Int), .int .i64 (i1 : Int), .bool false]
def Qgz (_p0 : Val) (_p1 : Val) (_i1 : Nat) (_v1_1 : Val) : List (Nat × List PV) :=
  []
theorem Qyq (p0 : Val) (p1 : Val) (_H : Q5q p0 p1) (_rec : Q60 p1) (i1 : Nat) (v1_1 : Val) (_ho1_0 : tot v1_1 ≤ tot p0 + tot p0 * totF (List.take i1 p1.fields)) (hc1 : (decide ((i1 : Int) < ((List.length p1.fields) : Int))) = false) : Ql6 p0 p1 (Q42 p0 p1 i1 v1_1) v1_1 := by
 exact ⟨(envF (Qng p0 p1 i1 v1_1)), (zoF (Qgz p0 p1 i1 v1_1)), Qe VOK.nil (x := ((.exit 2), Qmy p0 p1 v1_1 (envF (Qng p0 p1 i1 v1_1)) (zoF (Qgz p0 p1 i1 v1_1)))) [hB 0 hc1] [] (by kernel_rfl)⟩
theorem Qzt (p0 : Val) (p1 : Val) (H : Q5q p0 p1) (_rec : Q60 p1) (x1 : Fld) (i1 : Nat) (v1_1 : Val) (hx1 : p1.fields[i1]? = some x1) (hi1 : i1 < List.length p1.fields) (_ho1_0 : tot v1_1 ≤ tot p0 + tot p0 * totF (List.take i1 p1.fields)) (hc1 : (decide ((i1 : Int) < ((List.length p1.fields) : Int))) = true) (h0 : (Q11 p0 x1.name).2 = true) (h1 : (Q5h (Q11 p0 x1.name).1 x1.v) = true) {r : Rs} (hr : Q7 G (Q42 p0 p1 (i1 + 1) v1_1) r) : Q7 G (Q42 p0 p1 i1 v1_1) r := by
 have hB0 := H.1
 exact Qb VOK.nil (y := (Q7d p0 p1 (i1 + 1) v1_1, Q74 p0 p1 (i1 + 1) v1_1)) [hB 0 hc1, hP 0 (Q1k 6 (Fld.rows p1.fields) i1 _ (Fld.Qg hx1) rfl), hB 9 h0, hP 11 (Qt i1 (by omega))] [aN (Qp5 p0 x1.name ((H.2.1 x1 (Qw hx1)))), aB (Q12g (Q11 p0 x1.name).1 x1.v ((H.2.2.1 x1 (Qw hx1)) h0)) h1] (by kernel_rfl) hr
theorem Qzi (p0 : Val) (p1 : Val) (H : Q5q p0 p1) (rec : Q60 p1) (x1 : Fld) (i1 : Nat) (v1_1 : Val) (hx1 : p1.fields[i1]? = some x1) (hi1 : i1 < List.length p1.fields) (ho1_0 : tot v1_1 ≤ tot p0 + tot p0 * totF (List.take i1 p1.fields)) (hc1 : (decide ((i1 : Int) < ((List.length p1.fields) : Int))) = true) (h0 : (Q11 p0 x1.name).2 = true) (h1 : (Q5h (Q11 p0 x1.name).1 x1.v) = false) (h2 : ((Q11 p0 x1.name).1.kind == 5) = true) (h3 : (x1.v.kind == 5) = true) {r : Rs} (hr : Q7 G (Q42 p0 p1 (i1 + 1) (Q2f v1_1 x1.name (s_Kf (Q11 p0 x1.name).1 x1.v))) r) : Q7 G (Q42 p0 p1 i1 v1_1) r := by
 have hB0 := H.1; have e2 := eq_of_beq h2; have e3 := eq_of_beq h3
 exact Qb VOK.nil (y := (Q7d p0 p1 (i1 + 1) (Q2f v1_1 x1.name (s_Kf (Q11 p0 x1.name).1 x1.v)), Q74 p0 p1 (i1 + 1) (Q2f v1_1 x1.name (s_Kf (Q11 p0 x1.name).1 x1.v)))) [hB 0 hc1, hP 0 (Q1k 6 (Fld.rows p1.fields) i1 _ (Fld.Qg hx1) rfl), hB 9 h0, hB 15 h2, hB 5 h3, hP 11 (Qt i1 (by omega))] [aN (Qp5 p0 x1.name ((H.2.1 x1 (Qw hx1)))), aB (Q12g (Q11 p0 x1.name).1 x1.v ((H.2.2.1 x1 (Qw hx1)) h0)) h1, aN (rec x1.v (szF hx1) (Q11 p0 x1.name).1 (H.2.2.2.1 x1 (Qw hx1))), aN (Quv v1_1 x1.name (s_Kf (Q11 p0 x1.name).1 x1.v) ((H.2.2.2.2.1 i1 v1_1 x1 hx1 ho1_0) h0 h1 h2 h3))] (by kernel_rfl) hr
theorem Q125 (p0 : Val) (p1 : Val) (H : Q5q p0 p1) (_rec : Q60 p1) (x1 : Fld) (i1 : Nat) (v1_1 : Val) (hx1 : p1.fields[i1]? = some x1) (hi1 : i1 < List.length p1.fields) (ho1_0 : tot v1_1 ≤ tot p0 + tot p0 * totF (List.take i1 p1.fields)) (hc1 : (decide ((i1 : Int) < ((List.length p1.fields) : Int))) = true) (h0 : (Q11 p0 x1.name).2 = true) (h1 : (Q5h (Q11 p0 x1.name).1 x1.v) = false) (h2 : ((Q11 p0 x1.name).1.kind == 5) = true) (h3 : (x1.v.kind == 5) = false) {r : Rs} (hr : Q7 G (Q42 p0 p1 (i1 + 1) (Q2f v1_1 x1.name x1.v)) r) : Q7 G (Q42 p0 p1 i1 v1_1) r := by
 have hB0 := H.1; have e2 := eq_of_beq h2; have e3 := beq_eq_false_iff_ne.1 h3
 exact Qb VOK.nil (y := (Q7d p0 p1 (i1 + 1) (Q2f v1_1 x1.name x1.v), Q74 p0 p1 (i1 + 1) (Q2f v1_1 x1.name x1.v))) [hB 0 hc1, hP 0 (Q1k 6 (Fld.rows p1.fields) i1 _ (Fld.Qg hx1) rfl), hB 9 h0, hB 15 h2, hB 5 h3, hP 9 (Qt i1 (by omega))] [aN (Qp5 p0 x1.name ((H.2.1 x1 (Qw hx1)))), aB (Q12g (Q11 p0 x1.name).1 x1.v ((H.2.2.1 x1 (Qw hx1)) h0)) h1, aN (Quv v1_1 x1.name x1.v ((H.2.2.2.2.2.1 i1 v1_1 x1 hx1 ho1_0) h0 h1 h2 h3))] (by kernel_rfl) hr
theorem Q11z (p0 : Val) (p1 : Val) (H : Q5q p0 p1) (_rec : Q60 p1) (x1 : Fld) (i1 : Nat) (v1_1 : Val) (hx1 : p1.fields[i1]? = some x1) (hi1 : i1 < List.length p1.fields) (ho1_0 : tot v1_1 ≤ tot p0 + tot p0 * totF (List.take i1 p1.fields)) (hc1 : (decide ((i1 : Int) < ((List.length p1.fields) : Int))) = true) (h0 : (Q11 p0 x1.name).2 = true) (h1 : (Q5h (Q11 p0 x1.name).1 x1.v) = false) (h2 : ((Q11 p0 x1.name).1.kind == 5) = false) {r : Rs} (hr : Q7 G (Q42 p0 p1 (i1 + 1) (Q2f v1_1 x1.name x1.v)) r) : Q7 G (Q42 p0 p1 i1 v1_1) r := by
 have hB0 := H.1; have e2 := beq_eq_false_iff_ne.1 h2
 exact Qb VOK.nil (y := (Q7d p0 p1 (i1 + 1) (Q2f v1_1 x1.name x1.v), Q74 p0 p1 (i1 + 1) (Q2f v1_1 x1.name x1.v))) [hB 0 hc1, hP 0 (Q1k 6 (Fld.rows p1.fields) i1 _ (Fld.Qg hx1) rfl), hB 9 h0, hB 15 h2, hP 15 (Qt i1 (by omega))] [aN (Qp5 p0 x1.name ((H.2.1 x1 (Qw hx1)))), aB (Q12g (Q11 p0 x1.name).1 x1.v ((H.2.2.1 x1 (Qw hx1)) h0)) h1, aN (Quv v1_1 x1.name x1.v ((H.2.2.2.2.2.2.1 i1 v1_1 x1 hx1 ho1_0) h0 h1 h2))] (by kernel_rfl) hr
theorem Q11h (p0 : Val) (p1 : Val) (H : Q5q p0 p1) (_rec : Q60 p1) (x1 : Fld) (i1 : Nat) (v1_1 : Val) (hx1 : p1.fields[i1]? = some x1) (hi1 : i1 < List.length p1.fields) (ho1_0 : tot v1_1 ≤ tot p0 + tot p0 * totF (List.take i1 p1.fields)) (hc1 : (decide ((i1 : Int) < ((List.length p1.fields) : Int))) = true) (h0 : (Q11 p0 x1.name).2 = false) {r : Rs} (hr : Q7 G (Q42 p0 p1 (i1 + 1) (Q2f v1_1 x1.name x1.v)) r) : Q7 G (Q42 p0 p1 i1 v1_1) r := by
 have hB0 := H.1
 exact Qb VOK.nil (y := (Q7d p0 p1 (i1 + 1) (Q2f v1_1 x1.name x1.v), Q74 p0 p1 (i1 + 1) (Q2f v1_1 x1.name x1.v))) [hB 0 hc1, hP 0 (Q1k 6 (Fld.rows p1.fields) i1 _ (Fld.Qg hx1) rfl), hB 9 h0, hP 31 (Qt i1 (by omega))] [aN (Qp5 p0 x1.name ((H.2.1 x1 (Qw hx1)))), aN (Quv v1_1 x1.name x1.v ((H.2.2.2.2.2.2.2.1 i1 v1_1 x1 hx1 ho1_0) h0))] (by kernel_rfl) hr
theorem Q7g (p0 : Val) (p1 : Val) (H : Q5q p0 p1) (rec : Q60 p1) : ∀ (r1 : List Fld) (i1 : Nat) (v1_1 : Val), List.drop i1 p1.fields = r1 → tot v1_1 ≤ tot p0 + tot p0 * totF (List.take i1 p1.fields) → Ql6 p0 p1 (Q42 p0 p1 i1 v1_1) (Q40 p0 p1 r1 i1 v1_1)
 | [], i1, v1_1, hd, ho1_0 => by
  have hc1 : (decide ((i1 : Int) < ((List.length p1.fields) : Int))) = false := by have := Q1o hd; simp; omega
  rw [Q40]
  exact Qyq p0 p1 H rec i1 v1_1 ho1_0 hc1
 | x1 :: r1, i1, v1_1, hd, ho1_0 => by
  obtain ⟨hx1, hi1, hd'⟩ := Q1b hd
  have hc1 : (decide ((i1 : Int) < ((List.length p1.fields) : Int))) = true := by simp; omega
  rw [Q40]
  cases h0 : (Q11 p0 x1.name).2 with
  | true =>
   cases h1 : (Q5h (Q11 p0 x1.name).1 x1.v) with
   | true =>
    exact Q3z p0 p1 (fun r hr => Qzt p0 p1 H rec x1 i1 v1_1 hx1 hi1 ho1_0 hc1 h0 h1 hr) _ (Q7g p0 p1 H rec r1 (i1 + 1) v1_1 hd' ((H.2.2.2.2.2.2.2.2.1 i1 v1_1 x1 hx1 ho1_0) h0 h1))
   | false =>
    cases h2 : ((Q11 p0 x1.name).1.kind == 5) with
    | true =>
     cases h3 : (x1.v.kind == 5) with
     | true =>
      exact Q3z p0 p1 (fun r hr => Qzi p0 p1 H rec x1 i1 v1_1 hx1 hi1 ho1_0 hc1 h0 h1 h2 h3 hr) _ (Q7g p0 p1 H rec r1 (i1 + 1) (Q2f v1_1 x1.name (s_Kf (Q11 p0 x1.name).1 x1.v)) hd' ((H.2.2.2.2.2.2.2.2.2.1 i1 v1_1 x1 hx1 ho1_0) h0 h1 h2 h3))
     | false =>
      exact Q3z p0 p1 (fun r hr => Q125 p0 p1 H rec x1 i1 v1_1 hx1 hi1 ho1_0 hc1 h0 h1 h2 h3 hr) _ (Q7g p0 p1 H rec r1 (i1 + 1) (Q2f v1_1 x1.name x1.v) hd' ((H.2.2.2.2.2.2.2.2.2.2.1 i1 v1_1 x1 hx1 ho1_0) h0 h1 h2 h3))
    | false =>
     exact Q3z p0 p1 (fun r hr => Q11z p0 p1 H rec x1 i1 v1_1 hx1 hi1 ho1_0 hc1 h0 h1 h2 hr) _ (Q7g p0 p1 H rec r1 (i1 + 1) (Q2f v1_1 x1.name x1.v) hd' ((H.2.2.2.2.2.2.2.2.2.2.2.1 i1 v1_1 x1 hx1 ho1_0) h0 h1 h2))
  | false =>
   exact Q3z p0 p1 (fun r hr => Q11h p0 p1 H rec x1 i1 v1_1 hx1 hi1 ho1_0 hc1 h0 hr) _ (Q7g p0 p1 H rec r1 (i1 + 1) (Q2f v1_1 x1.name x1.v) hd' ((H.2.2.2.2.2.2.2.2.2.2.2.2.1 i1 v1_1 x1 hx1 ho1_0) h0))
theorem r_Kf (p0 : Val) (p1 : Val) (H : H_Kf p0 p1) (rec : Q60 p1) : Q7 G (c_Kf p0 p1) (a_Kf p0 p1) := by
  unfold a_Kf
  rw [s_Kf]
  cases h0 : (p0.kind == 5) with
  | true =>
   cases h1 : (p1.kind == 5) with
   | true =>
    have hl2 := Qkr p0 p1 ((Q7t p0 p1 H).2.1 h0 h1) rec p0.fields 0 (Q7r []) (by simp) ((Q7t p0 p1 H).2.2.1 h0 h1)
    obtain ⟨z2, zo2, hl2⟩ := hl2
    have hl3 := Q7g p0 p1 ((Q7t p0 p1 H).2.2.2.1 h0 h1) rec p1.fields 0 (Q4g p0 p1 p0.fields 0 (Q7r [])) (by simp) ((Q7t p0 p1 H).2.2.2.2.1 h0 h1)
    obtain ⟨z3, zo3, hl3⟩ := hl3
    exact Q8 (fn := Ir.Kf) rfl VOK.nil [hP 5 (dec (!(p0.kind == 5)) false (by rw [h0]; rfl)), hP 3 (dec (!(p1.kind == 5)) false (by rw [h1]; rfl)), hP 6 (Qi (Fld.rows p0.fields) (List.length p0.fields) (Fld.Qd p0.fields)), hP 3 (Qi (Fld.rows p1.fields) (List.length p1.fields) (Fld.Qd p1.fields))] [aN (Qye [] ((Q7t p0 p1 H).1 h0 h1)), aN hl2, aN hl3] (by kernel_rfl)
   | false =>
    exact Q8 (fn := Ir.Kf) rfl VOK.nil [hP 5 (dec (!(p0.kind == 5)) false (by rw [h0]; rfl)), hP 3 (dec (!(p1.kind == 5)) true (by rw [h1]; rfl))] [aN (t_Kh p1 ((Q7t p0 p1 H).2.2.2.2.2.1 h0 h1))] (by kernel_rfl)
  | false =>
   exact Q8 (fn := Ir.Kf) rfl VOK.nil [hP 5 (dec (!(p0.kind == 5)) true (by rw [h0]; rfl))] [aN (t_Kh p1 ((Q7t p0 p1 H).2.2.2.2.2.2.1 h0))] (by kernel_rfl)
theorem i_Kf : ∀ (k : Nat) (p1 : Val), SizeOf.sizeOf p1 < k → ∀ (p0 : Val), H_Kf p0 p1 → Q7 G (c_Kf p0 p1) (a_Kf p0 p1)
  | 0, _, h, _, _ => absurd h (Nat.not_lt_zero _)
  | k + 1, p1, h, p0, H => r_Kf p0 p1 H (fun q hq p0 hH => i_Kf k q (by omega) p0 hH)
theorem t_Kf (p0 : Val) (p1 : Val) (H : H_Kf p0 p1) : Q7 G (c_Kf p0 p1) (a_Kf p0 p1) := i_Kf _ p1 (Nat.lt_succ_self _) p0 H
inductive Qsg where
  | k0
  | k1
mutual
def Q29 (p0 : Val) : Bool :=
 bif (p0.kind == 5) then
  (match (Q3v p0 p0.fields 0) with
  | .k0 => true
  | .k1 => false)
 else
  true
termination_by SizeOf.sizeOf p0
decreasing_by all_goals first | exact Val.Q23 _ | exact Val.Q18 _ | exact Q27 _ _ | exact Q1x _ _ | exact Q1p _ _
def Q3v (p0 : Val) : List Fld → Nat → Qsg
 | [], _i0 =>
  (.k0)
 | x0 :: r0, i0 =>
  bif (x0.v.kind == 0) then
   (.k1)
  else
   bif (Q29 x0.v) then
    Q3v p0 r0 (i0 + 1)
   else
    (.k1)
termination_by l => SizeOf.sizeOf l
decreasing_by all_goals first | exact Val.Q23 _ | exact Val.Q18 _ | exact Q27 _ _ | exact Q1x _ _ | exact Q1p _ _
end
def Qnm (_p0 : Val) (i0 : Nat) : List PV :=
  [.un, .bx 0 0, .un, .int .i64 (i0 : Int), .un, .un, .un, .un, .un, .un, .un, .un, .un, .un, .un, .un, .un, .un, .un, .un, .un, .un, .un, .un, .un, .un, .un, .un, .un, .un, .un, .un]
def Qp3 (p0 : Val) (_i0 : Nat) : List Ob :=
  [⟨5, 0, true, [.int .i64 p0.kind, .int .i64 p0.n, .str p0.s, .sl (Val.rows p0.list), .sl (Fld.rows p0.fields)]⟩]
def Q7b (p0 : Val) (i0 : Nat) : En := .loop 0 Ir.Qf4 Ir.Q13u (Qnm p0 i0) (Qp3 p0 i0)
def Qjk (p0 : Val) (z : Nat → PV) (_zo : Nat → List PV) : St :=
  ⟨[z 0, z 1, z 2, z 3, z 4, z 5, z 6, z 7, z 8, z 9, z 10, z 11, z 12, z 13, z 14, z 15, z 16, z 17, z 18, z 19, z 20, z 21, z 22, z 23, z 24, z 25, z 26, z 27, z 28, z 29, z 30, z 31], [(0, ⟨5, 0, true, [.int .i64 p0.kind, .int .i64 p0.n, .str p0.s, .sl (Val.rows p0.list), .sl (Fld.rows p0.fields)]⟩)], 321⟩
def Qa8 (_p0 : Val) (z : Nat → PV) (zo : Nat → List PV) : St :=
  ⟨[z 0, z 1, .bool false, z 3, z 4, z 5, z 6, z 7, z 8, z 9, z 10, z 11, z 12, z 13, z 14, z 15, z 16, z 17, z 18, z 19, z 20, z 21, z 22, z 23, z 24, z 25, z 26, z 27, z 28, z 29, z 30, z 31], [(0, ⟨5, 0, true, zo 0⟩)], 1537⟩
def Q6s (p0 : Val) (e : En) : Qsg → Prop
  | .k0 => ∃ z zo, Q7 G e (.st (.exit 0) (Qjk p0 z zo))
  | .k1 => ∃ z zo, Q7 G e (.st .ret (Qa8 p0 z zo))
theorem Qlq (p0 : Val) {e e' : En} (h : ∀ r, Q7 G e r → Q7 G e' r) : ∀ q, Q6s p0 e q → Q6s p0 e' q
  | .k0, ⟨z, zo, hz⟩ => ⟨z, zo, h _ hz⟩
  | .k1, ⟨z, zo, hz⟩ => ⟨z, zo, h _ hz⟩
def Q134 (p0 : Val) : En := .call 20 [.agg (Val.cells p0)] []
def Q105 (p0 : Val) : Rs := .ret (.bool (Q29 p0)) []
abbrev Q9u (p0 : Val) : Prop := Val.Sm 1000000000 p0
def Qa7 (p0 : Val) : Prop := ∀ (q : Val), SizeOf.sizeOf q < SizeOf.sizeOf p0 → Q9u q → Q7 G (Q134 q) (Q105 q)
def Q70 (p0 : Val) : Prop := (List.length p0.fields ≤ 4611686018427387904) ∧ (∀ x0 ∈ p0.fields, Q9u x0.v) ∧ True
theorem Q12k (p0 : Val) (H : Q9u p0) : (Q70 p0) ∧ True := by
  obtain ⟨h1, h2, h3, h4⟩ := H.all
  exact ⟨⟨by omega, h4, trivial⟩, trivial⟩
def Qjz (p0 : Val) (i0 : Nat) : List PV :=
  [.un, .bx 0 0, .un, .int .i64 (i0 : Int), .un, .un, .un, .int .i64 (i0 : Int), .bx 0 4, .sl (Fld.rows p0.fields), .int .i64 ((List.length p0.fields) : Int), .bool false]
def Qec (_p0 : Val) (_i0 : Nat) : List (Nat × List PV) :=
  []
theorem Qvy (p0 : Val) (_H : Q70 p0) (_rec : Qa7 p0) (i0 : Nat) (hc0 : (decide ((i0 : Int) < ((List.length p0.fields) : Int))) = false) : Q6s p0 (Q7b p0 i0) (.k0) := by
 exact ⟨(envF (Qjz p0 i0)), (zoF (Qec p0 i0)), Qe VOK.nil (x := ((.exit 0), Qjk p0 (envF (Qjz p0 i0)) (zoF (Qec p0 i0)))) [hP 3 (Qi (Fld.rows p0.fields) (List.length p0.fields) (Fld.Qd p0.fields)), hB 0 hc0] [] (by kernel_rfl)⟩
def Qir (p0 : Val) (i0 : Nat) (x0 : Fld) : List PV :=
  [.un, .bx 0 0, .un, .int .i64 (i0 : Int), .un, .un, .un, .int .i64 (i0 : Int), .bx 0 4, .sl (Fld.rows p0.fields), .int .i64 ((List.length p0.fields) : Int), .bool true, .un, .un, .bx 0 4, .sl (Fld.rows p0.fields), .int .i64 (i0 : Int), .rf [.str x0.name, .int .i64 x0.v.kind, .int .i64 x0.v.n, .str x0.v.s, .sl (Val.rows x0.v.list), .sl (Fld.rows x0.v.fields)], .rf [.int .i64 x0.v.kind, .int .i64 x0.v.n, .str x0.v.s, .sl (Val.rows x0.v.list), .sl (Fld.rows x0.v.fields)], .rf [.int .i64 x0.v.kind, .int .i64 x0.v.n, .str x0.v.s, .sl (Val.rows x0.v.list), .sl (Fld.rows x0.v.fields)], .int .i64 x0.v.kind, .bool true, .bool true, .tup [], .tup [], .tup [], .tup [], .tup [], .tup [], .tup [], .tup [], .bool true]
def Qe7 (p0 : Val) (_i0 : Nat) (_x0 : Fld) : List (Nat × List PV) :=
  [(0, [.int .i64 p0.kind, .int .i64 p0.n, .str p0.s, .sl (Val.rows p0.list), .sl (Fld.rows p0.fields)])]
theorem Qxu (p0 : Val) (_H : Q70 p0) (_rec : Qa7 p0) (x0 : Fld) (i0 : Nat) (hx0 : p0.fields[i0]? = some x0) (_hi0 : i0 < List.length p0.fields) (hc0 : (decide ((i0 : Int) < ((List.length p0.fields) : Int))) = true) (h0 : (x0.v.kind == 0) = true) : Q6s p0 (Q7b p0 i0) (.k1) := by
 exact ⟨(envF (Qir p0 i0 x0)), (zoF (Qe7 p0 i0 x0)), Qe VOK.nil (x := (.ret, Qa8 p0 (envF (Qir p0 i0 x0)) (zoF (Qe7 p0 i0 x0)))) [hP 3 (Qi (Fld.rows p0.fields) (List.length p0.fields) (Fld.Qd p0.fields)), hB 0 hc0, hP 3 (Q1k 6 (Fld.rows p0.fields) i0 _ (Fld.Qg hx0) rfl), hB 3 h0] [] (by kernel_rfl)⟩
theorem Qvp (p0 : Val) (H : Q70 p0) (rec : Qa7 p0) (x0 : Fld) (i0 : Nat) (hx0 : p0.fields[i0]? = some x0) (hi0 : i0 < List.length p0.fields) (hc0 : (decide ((i0 : Int) < ((List.length p0.fields) : Int))) = true) (h0 : (x0.v.kind == 0) = false) (h1 : (Q29 x0.v) = true) {r : Rs} (hr : Q7 G (Q7b p0 (i0 + 1)) r) : Q7 G (Q7b p0 i0) r := by
 have hB0 := H.1; have e0 := beq_eq_false_iff_ne.1 h0
 exact Qb VOK.nil (y := (Qnm p0 (i0 + 1), Qp3 p0 (i0 + 1))) [hP 3 (Qi (Fld.rows p0.fields) (List.length p0.fields) (Fld.Qd p0.fields)), hB 0 hc0, hP 3 (Q1k 6 (Fld.rows p0.fields) i0 _ (Fld.Qg hx0) rfl), hB 3 h0, hP 4 (Q1k 6 (Fld.rows p0.fields) i0 _ (Fld.Qg hx0) rfl), hP 6 (Qt i0 (by omega))] [aB (rec x0.v (szF hx0) (H.2.1 x0 (Qw hx0))) h1] (by kernel_rfl) hr
def Qh8 (p0 : Val) (i0 : Nat) (x0 : Fld) : List PV :=
  [.un, .bx 0 0, .un, .int .i64 (i0 : Int), .un, .un, .un, .int .i64 (i0 : Int), .bx 0 4, .sl (Fld.rows p0.fields), .int .i64 ((List.length p0.fields) : Int), .bool true, .un, .un, .bx 0 4, .sl (Fld.rows p0.fields), .int .i64 (i0 : Int), .rf [.str x0.name, .int .i64 x0.v.kind, .int .i64 x0.v.n, .str x0.v.s, .sl (Val.rows x0.v.list), .sl (Fld.rows x0.v.fields)], .rf [.int .i64 x0.v.kind, .int .i64 x0.v.n, .str x0.v.s, .sl (Val.rows x0.v.list), .sl (Fld.rows x0.v.fields)], .rf [.int .i64 x0.v.kind, .int .i64 x0.v.n, .str x0.v.s, .sl (Val.rows x0.v.list), .sl (Fld.rows x0.v.fields)], .int .i64 x0.v.kind, .bool false, .bool false, .bx 0 4, .sl (Fld.rows p0.fields), .int .i64 (i0 : Int), .rf [.str x0.name, .int .i64 x0.v.kind, .int .i64 x0.v.n, .str x0.v.s, .sl (Val.rows x0.v.list), .sl (Fld.rows x0.v.fields)], .rf [.int .i64 x0.v.kind, .int .i64 x0.v.n, .str x0.v.s, .sl (Val.rows x0.v.list), .sl (Fld.rows x0.v.fields)], .agg [.int .i64 x0.v.kind, .int .i64 x0.v.n, .str x0.v.s, .sl (Val.rows x0.v.list), .sl (Fld.rows x0.v.fields)], .bool false, .bool true, .bool true]
def Qfl (p0 : Val) (_i0 : Nat) (_x0 : Fld) : List (Nat × List PV) :=
  [(0, [.int .i64 p0.kind, .int .i64 p0.n, .str p0.s, .sl (Val.rows p0.list), .sl (Fld.rows p0.fields)])]
theorem Qwe (p0 : Val) (H : Q70 p0) (rec : Qa7 p0) (x0 : Fld) (i0 : Nat) (hx0 : p0.fields[i0]? = some x0) (_hi0 : i0 < List.length p0.fields) (hc0 : (decide ((i0 : Int) < ((List.length p0.fields) : Int))) = true) (h0 : (x0.v.kind == 0) = false) (h1 : (Q29 x0.v) = false) : Q6s p0 (Q7b p0 i0) (.k1) := by
 exact ⟨(envF (Qh8 p0 i0 x0)), (zoF (Qfl p0 i0 x0)), Qe VOK.nil (x := (.ret, Qa8 p0 (envF (Qh8 p0 i0 x0)) (zoF (Qfl p0 i0 x0)))) [hP 3 (Qi (Fld.rows p0.fields) (List.length p0.fields) (Fld.Qd p0.fields)), hB 0 hc0, hP 3 (Q1k 6 (Fld.rows p0.fields) i0 _ (Fld.Qg hx0) rfl), hB 3 h0, hP 4 (Q1k 6 (Fld.rows p0.fields) i0 _ (Fld.Qg hx0) rfl)] [aB (rec x0.v (szF hx0) (H.2.1 x0 (Qw hx0))) h1] (by kernel_rfl)⟩
theorem Qn0 (p0 : Val) (H : Q70 p0) (rec : Qa7 p0) : ∀ (r0 : List Fld) (i0 : Nat), List.drop i0 p0.fields = r0 → Q6s p0 (Q7b p0 i0) (Q3v p0 r0 i0)
 | [], i0, hd => by
  have hc0 : (decide ((i0 : Int) < ((List.length p0.fields) : Int))) = false := by have := Q1o hd; simp; omega
  rw [Q3v]
  exact Qvy p0 H rec i0 hc0
 | x0 :: r0, i0, hd => by
  obtain ⟨hx0, hi0, hd'⟩ := Q1b hd
  have hc0 : (decide ((i0 : Int) < ((List.length p0.fields) : Int))) = true := by simp; omega
  rw [Q3v]
  cases h0 : (x0.v.kind == 0) with
  | true =>
   exact Qxu p0 H rec x0 i0 hx0 hi0 hc0 h0
  | false =>
   cases h1 : (Q29 x0.v) with
   | true =>
    exact Qlq p0 (fun r hr => Qvp p0 H rec x0 i0 hx0 hi0 hc0 h0 h1 hr) _ (Qn0 p0 H rec r0 (i0 + 1) hd')
   | false =>
    exact Qwe p0 H rec x0 i0 hx0 hi0 hc0 h0 h1
theorem Q1a5 (p0 : Val) (H : Q9u p0) (rec : Qa7 p0) : Q7 G (Q134 p0) (Q105 p0) := by
  unfold Q105
  rw [Q29]
  cases h0 : (p0.kind == 5) with
  | true =>
   have hl1 := Qn0 p0 ((Q12k p0 H).1) rec p0.fields 0 (by simp)
   cases hr1 : (Q3v p0 p0.fields 0) with
   | k0 =>
     rw [hr1] at hl1
     obtain ⟨z1, zo1, hl1⟩ := hl1
     exact Q8 (fn := Ir.K11) rfl VOK.nil [hP 4 (dec (!(p0.kind == 5)) false (by rw [h0]; rfl))] [aN hl1] (by kernel_rfl)
   | k1 =>
     rw [hr1] at hl1
     obtain ⟨z1, zo1, hl1⟩ := hl1
     exact Q8 (fn := Ir.K11) rfl VOK.nil [hP 4 (dec (!(p0.kind == 5)) false (by rw [h0]; rfl))] [aN hl1] (by kernel_rfl)
  | false =>
   exact Q8 (fn := Ir.K11) rfl VOK.nil [hP 4 (dec (!(p0.kind == 5)) true (by rw [h0]; rfl))] [] (by kernel_rfl)
theorem Q17m : ∀ (k : Nat) (p0 : Val), SizeOf.sizeOf p0 < k → Q9u p0 → Q7 G (Q134 p0) (Q105 p0)
  | 0, _, h, _ => absurd h (Nat.not_lt_zero _)
  | k + 1, p0, h, H => Q1a5 p0 H (fun q hq hH => Q17m k q (by omega) hH)
theorem Q65 (p0 : Val) (H : Q9u p0) : Q7 G (Q134 p0) (Q105 p0) := Q17m _ p0 (Nat.lt_succ_self _) H
end Go.Proofs.Ytnhhddbbppbblaa
end

section
/- What the laws on patches ask of their values (printed by a program). -/
namespace Go.Proofs.Ytnhhddbbppbblaa
open Go.Pv
inductive Q118 where
  | k0
  | k1
def Q5w (p0 : List Val) : List Val → Nat → Q118
 | [], _i0 =>
  (.k0)
 | x0 :: r0, i0 =>
  bif (s_Kz x0 3000) then
   bif (s_Ko x0) then
    Q5w p0 r0 (i0 + 1)
   else
    (.k1)
  else
   (.k1)
def Qty (p0 : List Val) (i0 : Nat) : List PV :=
  [.un, .un, .un, .un, .un, .sl (Val.rows p0), .int .i64 ((List.length p0) : Int), .int .i64 (i0 : Int), .un, .un, .un, .un, .un, .un, .un, .un, .un, .un, .un, .un]
def Qs4 (_p0 : List Val) (_i0 : Nat) : List Ob :=
  []
def Q9n (p0 : List Val) (i0 : Nat) : En := .loop 0 Ir.Qio Ir.Q18e (Qty p0 i0) (Qs4 p0 i0)
def Qqc (_p0 : List Val) (z : Nat → PV) (_zo : Nat → List PV) : St :=
  ⟨[z 0, z 1, z 2, z 3, z 4, z 5, z 6, z 7, z 8, z 9, z 10, z 11, z 12, z 13, z 14, z 15, z 16, z 17, z 18, z 19], [], 64⟩
def Qe6 (_p0 : List Val) (z : Nat → PV) (zo : Nat → List PV) : St :=
  ⟨[z 0, z 1, .bool false, z 3, z 4, z 5, z 6, z 7, z 8, z 9, z 10, z 11, z 12, z 13, z 14, z 15, z 16, z 17, z 18, z 19], [(192, ⟨5, 0, true, zo 192⟩)], 896⟩
def Q9x (p0 : List Val) (e : En) : Q118 → Prop
  | .k0 => ∃ z zo, Q7 G e (.st (.exit 0) (Qqc p0 z zo))
  | .k1 => ∃ z zo, Q7 G e (.st .ret (Qe6 p0 z zo))
theorem Qog (p0 : List Val) {e e' : En} (h : ∀ r, Q7 G e r → Q7 G e' r) : ∀ q, Q9x p0 e q → Q9x p0 e' q
  | .k0, ⟨z, zo, hz⟩ => ⟨z, zo, h _ hz⟩
  | .k1, ⟨z, zo, hz⟩ => ⟨z, zo, h _ hz⟩
def Qa9 (p0 : List Val) : Prop := (List.length p0 ≤ 4611686018427387904) ∧ (∀ x0 ∈ p0, H_Kz x0 3000) ∧ (∀ x0 ∈ p0, H_Ko x0) ∧ True
def Qq5 (p0 : List Val) (i0 : Nat) : List PV :=
  [.un, .un, .un, .un, .un, .sl (Val.rows p0), .int .i64 ((List.length p0) : Int), .int .i64 (i0 : Int), .bool false]
def Qix (_p0 : List Val) (_i0 : Nat) : List (Nat × List PV) :=
  []
theorem Q104 (p0 : List Val) (_H : Qa9 p0) (i0 : Nat) (hc0 : (decide ((i0 : Int) < ((List.length p0) : Int))) = false) : Q9x p0 (Q9n p0 i0) (.k0) := by
 exact ⟨(envF (Qq5 p0 i0)), (zoF (Qix p0 i0)), Qe VOK.nil (x := ((.exit 0), Qqc p0 (envF (Qq5 p0 i0)) (zoF (Qix p0 i0)))) [hB 0 hc0] [] (by kernel_rfl)⟩
theorem Q10n (p0 : List Val) (H : Qa9 p0) (x0 : Val) (i0 : Nat) (hx0 : p0[i0]? = some x0) (hi0 : i0 < List.length p0) (hc0 : (decide ((i0 : Int) < ((List.length p0) : Int))) = true) (h0 : (s_Kz x0 3000) = true) (h1 : (s_Ko x0) = true) {r : Rs} (hr : Q7 G (Q9n p0 (i0 + 1)) r) : Q7 G (Q9n p0 i0) r := by
 have hB0 := H.1
 exact Qb VOK.nil (y := (Qty p0 (i0 + 1), Qs4 p0 (i0 + 1))) [hB 0 hc0, hP 0 (Q1k 5 (Val.rows p0) i0 _ (Val.Qg hx0) rfl), hP 11 (Qt i0 (by omega))] [aB (t_Kz x0 3000 (H.2.1 x0 (Qw hx0))) h0, aB (t_Ko x0 (H.2.2.1 x0 (Qw hx0))) h1] (by kernel_rfl) hr
def Qnx (p0 : List Val) (i0 : Nat) (x0 : Val) : List PV :=
  [.un, .un, .un, .un, .bx 192 0, .sl (Val.rows p0), .int .i64 ((List.length p0) : Int), .int .i64 (i0 : Int), .bool true, .rf [.int .i64 x0.kind, .int .i64 x0.n, .str x0.s, .sl (Val.rows x0.list), .sl (Fld.rows x0.fields)], .agg [.int .i64 x0.kind, .int .i64 x0.n, .str x0.s, .sl (Val.rows x0.list), .sl (Fld.rows x0.fields)], .agg [.int .i64 x0.kind, .int .i64 x0.n, .str x0.s, .sl (Val.rows x0.list), .sl (Fld.rows x0.fields)], .bool true, .bool false, .bool false, .agg [.int .i64 x0.kind, .int .i64 x0.n, .str x0.s, .sl (Val.rows x0.list), .sl (Fld.rows x0.fields)], .bool false, .bool true, .bool true]
def Qiw (_p0 : List Val) (_i0 : Nat) (x0 : Val) : List (Nat × List PV) :=
  [(192, [.int .i64 x0.kind, .int .i64 x0.n, .str x0.s, .sl (Val.rows x0.list), .sl (Fld.rows x0.fields)])]
theorem Qzl (p0 : List Val) (H : Qa9 p0) (x0 : Val) (i0 : Nat) (hx0 : p0[i0]? = some x0) (_hi0 : i0 < List.length p0) (hc0 : (decide ((i0 : Int) < ((List.length p0) : Int))) = true) (h0 : (s_Kz x0 3000) = true) (h1 : (s_Ko x0) = false) : Q9x p0 (Q9n p0 i0) (.k1) := by
 exact ⟨(envF (Qnx p0 i0 x0)), (zoF (Qiw p0 i0 x0)), Qe VOK.nil (x := (.ret, Qe6 p0 (envF (Qnx p0 i0 x0)) (zoF (Qiw p0 i0 x0)))) [hB 0 hc0, hP 0 (Q1k 5 (Val.rows p0) i0 _ (Val.Qg hx0) rfl)] [aB (t_Kz x0 3000 (H.2.1 x0 (Qw hx0))) h0, aB (t_Ko x0 (H.2.2.1 x0 (Qw hx0))) h1] (by kernel_rfl)⟩
def Qqr (p0 : List Val) (i0 : Nat) (x0 : Val) : List PV :=
  [.un, .un, .un, .un, .bx 192 0, .sl (Val.rows p0), .int .i64 ((List.length p0) : Int), .int .i64 (i0 : Int), .bool true, .rf [.int .i64 x0.kind, .int .i64 x0.n, .str x0.s, .sl (Val.rows x0.list), .sl (Fld.rows x0.fields)], .agg [.int .i64 x0.kind, .int .i64 x0.n, .str x0.s, .sl (Val.rows x0.list), .sl (Fld.rows x0.fields)], .agg [.int .i64 x0.kind, .int .i64 x0.n, .str x0.s, .sl (Val.rows x0.list), .sl (Fld.rows x0.fields)], .bool false, .bool true, .bool true, .tup [], .tup [], .tup [], .bool true]
def Qig (_p0 : List Val) (_i0 : Nat) (x0 : Val) : List (Nat × List PV) :=
  [(192, [.int .i64 x0.kind, .int .i64 x0.n, .str x0.s, .sl (Val.rows x0.list), .sl (Fld.rows x0.fields)])]
theorem Qzn (p0 : List Val) (H : Qa9 p0) (x0 : Val) (i0 : Nat) (hx0 : p0[i0]? = some x0) (_hi0 : i0 < List.length p0) (hc0 : (decide ((i0 : Int) < ((List.length p0) : Int))) = true) (h0 : (s_Kz x0 3000) = false) : Q9x p0 (Q9n p0 i0) (.k1) := by
 exact ⟨(envF (Qqr p0 i0 x0)), (zoF (Qig p0 i0 x0)), Qe VOK.nil (x := (.ret, Qe6 p0 (envF (Qqr p0 i0 x0)) (zoF (Qig p0 i0 x0)))) [hB 0 hc0, hP 0 (Q1k 5 (Val.rows p0) i0 _ (Val.Qg hx0) rfl)] [aB (t_Kz x0 3000 (H.2.1 x0 (Qw hx0))) h0] (by kernel_rfl)⟩
theorem Qsr (p0 : List Val) (H : Qa9 p0) : ∀ (r0 : List Val) (i0 : Nat), List.drop i0 p0 = r0 → Q9x p0 (Q9n p0 i0) (Q5w p0 r0 i0)
 | [], i0, hd => by
  have hc0 : (decide ((i0 : Int) < ((List.length p0) : Int))) = false := by have := Q1o hd; simp; omega
  rw [Q5w]
  exact Q104 p0 H i0 hc0
 | x0 :: r0, i0, hd => by
  obtain ⟨hx0, hi0, hd'⟩ := Q1b hd
  have hc0 : (decide ((i0 : Int) < ((List.length p0) : Int))) = true := by simp; omega
  rw [Q5w]
  cases h0 : (s_Kz x0 3000) with
  | true =>
   cases h1 : (s_Ko x0) with
   | true =>
    exact Qog p0 (fun r hr => Q10n p0 H x0 i0 hx0 hi0 hc0 h0 h1 hr) _ (Qsr p0 H r0 (i0 + 1) hd')
   | false =>
    exact Qzl p0 H x0 i0 hx0 hi0 hc0 h0 h1
  | false =>
   exact Qzn p0 H x0 i0 hx0 hi0 hc0 h0
def s_Kd (p0 : List Val) : Bool :=
 (match (Q5w p0 p0 0) with
 | .k0 => true
 | .k1 => false)
def c_Kd (p0 : List Val) : En := .call 10 [.sl (Val.rows p0)] []
def a_Kd (p0 : List Val) : Rs := .ret (.bool (s_Kd p0)) []
def H_Kd (p0 : List Val) : Prop := (Qa9 p0) ∧ True
theorem t_Kd (p0 : List Val) (H : H_Kd p0) : Q7 G (c_Kd p0) (a_Kd p0) := by
 unfold a_Kd s_Kd
 have hl0 := Qsr p0 (H.1) p0 0 (by simp)
 cases hr0 : (Q5w p0 p0 0) with
 | k0 =>
  rw [hr0] at hl0
  obtain ⟨z0, zo0, hl0⟩ := hl0
  exact Q8 (fn := Ir.Kd) rfl VOK.nil [hP 2 (Qi (Val.rows p0) (List.length p0) (Val.Qd p0))] [aN hl0] (by kernel_rfl)
 | k1 =>
  rw [hr0] at hl0
  obtain ⟨z0, zo0, hl0⟩ := hl0
  exact Q8 (fn := Ir.Kd) rfl VOK.nil [hP 2 (Qi (Val.rows p0) (List.length p0) (Val.Qd p0))] [aN hl0] (by kernel_rfl)
theorem t_Ka : Q7 G (.call 11 [] []) (.ret (.bool true) []) := ⟨300, by kernel_rfl⟩
end Go.Proofs.Ytnhhddbbppbblaa
end

section
/- The laws on patches in plain words: few parts, deep validity, clean and compatible values; what the laws ask. -/
namespace Go.Proofs.Ytnhhddbbppbblaa
open Go.Pv
theorem Qop (p : Val) (l : List Val) (i : Nat) {a : Int} (h : ¬ 0 ≤ a) : Q2s p l i a = a := by
  cases l with
  | nil => rw [Q2s]
  | cons x l => rw [Q2s, show decide (0 ≤ a) = false by simpa using h, cond_false]
theorem Qex (p : Val) (l : List Fld) (i : Nat) {a : Int} (h : ¬ 0 ≤ a) : Q38 p l i a = a := by
  cases l with
  | nil => rw [Q38]
  | cons x l => rw [Q38, show decide (0 ≤ a) = false by simpa using h, cond_false]
theorem Q10t (p : Val) : ∀ (l : List Val) (i : Nat) (a : Int), a ≤ 3000 → (∀ x ∈ l, ∀ n, -1152921504606846976 ≤ n → n ≤ 3000 → 0 ≤ Q4i x n → Q4i x n + tot x ≤ n) → 0 ≤ Q2s p l i a → Q2s p l i a + totV l ≤ a
  | [], i, a, _, _, _ => by rw [Q2s, totV]; omega
  | x :: l, i, a, ha, hx, h => by
    by_cases c : 0 ≤ a
    · rw [Q2s, show decide (0 ≤ a) = true by simpa using c, cond_true] at h ⊢
      have k : 0 ≤ Q4i x a := by
        apply Decidable.byContradiction
        intro hn
        rw [Qop p l _ hn] at h
        exact hn h
      have h1 := hx x List.mem_cons_self a (by omega) ha k
      have h2 := Q10t p l (i + 1) _ (by omega) (fun y hy => hx y (List.mem_cons_of_mem _ hy)) h
      rw [Qgg]
      omega
    · rw [Qop p _ i c] at h
      exact absurd h c
theorem Qy4 (p : Val) : ∀ (l : List Fld) (i : Nat) (a : Int), a ≤ 3000 → (∀ x ∈ l, okS x.name) → (∀ x ∈ l, ∀ n, -1152921504606846976 ≤ n → n ≤ 3000 → 0 ≤ Q4i x.v n → Q4i x.v n + tot x.v ≤ n) → 0 ≤ Q38 p l i a → Q38 p l i a + totF l ≤ a
  | [], i, a, _, _, _, _ => by rw [Q38, Q3f]; omega
  | x :: l, i, a, ha, hs, hx, h => by
    by_cases c : 0 ≤ a
    · have hn := hs x List.mem_cons_self
      unfold okS at hn
      rw [Q38, show decide (0 ≤ a) = true by simpa using c, cond_true, Qal (by omega)] at h ⊢
      have k : 0 ≤ Q4i x.v (a - (x.name.size : Int)) := by
        apply Decidable.byContradiction
        intro hn
        rw [Qex p l _ hn] at h
        exact hn h
      have h1 := hx x List.mem_cons_self (a - (x.name.size : Int)) (by omega) (by omega) k
      have h2 := Qy4 p l (i + 1) _ (by omega) (fun y hy => hs y (List.mem_cons_of_mem _ hy)) (fun y hy => hx y (List.mem_cons_of_mem _ hy)) h
      rw [Q1j]
      omega
    · rw [Qex p _ i c] at h
      exact absurd h c
theorem Q12i {v : Val} (hv : Q2p v) : ∀ n, -1152921504606846976 ≤ n → n ≤ 3000 → 0 ≤ Q4i v n → Q4i v n + tot v ≤ n := by
  induction hv with
  | mk v _ _ h3 _ _ sl sn sf i1 i2 =>
    intro n hn hn' h
    unfold okS at h3
    have e1 : w64 (n - 1) = n - 1 := Qal (by omega)
    rw [Q4i, e1, Qal (by omega)] at h ⊢
    have k : 0 ≤ Q2s v v.list 0 (n - 1 - (v.s.size : Int)) := by
      apply Decidable.byContradiction
      intro hn
      rw [Qex v _ _ hn] at h
      exact hn h
    have h1 := Q10t v v.list 0 (n - 1 - (v.s.size : Int)) (by omega) i1 k
    have h2 := Qy4 v v.fields 0 _ (by omega) sn i2 h
    have h3 := Qak v
    omega
theorem Q14u {v : Val} (hv : Q2p v) (h : s_Kz v 3000 = true) : tot v ≤ 3000 := by
  have h : decide (0 ≤ Q4i v 3000) = true := h
  have h0 := of_decide_eq_true h
  have := Q12i hv 3000 (by omega) (by omega) h0
  omega
theorem Qck (p : Val) (k : Int) (hp : p.fields.length ≤ 64) : ∀ (r : List Fld) (i : Nat), p.fields.drop i = r → Q2t p k r i = .k0 → (SS r ∧ (0 < i → ∀ y ∈ r, sCmp (p.fields.getD (i - 1) (.mk ⟨#[]⟩ (.mk 0 0 ⟨#[]⟩ [] []))).name y.name < 0)) ∧ ∀ y ∈ r, s_Kx y.v (w64 (k - 1)) = true
  | [], i, _, _ => ⟨⟨SS.nil, fun _ _ g => by cases g⟩, fun _ g => by cases g⟩
  | x :: r, i, hd, h => by
    obtain ⟨hx, hi, hd'⟩ := Q1b hd
    rw [Q2t] at h
    have hw : 0 < i → Int.toNat (w64 ((i : Int) - 1)) = i - 1 := fun h => by rw [Qal (by omega)]; omega
    have pr : Q2t p k r (i + 1) = .k0 ∧ (0 < i → sCmp (p.fields.getD (i - 1) (.mk ⟨#[]⟩ (.mk 0 0 ⟨#[]⟩ [] []))).name x.name < 0) ∧ s_Kx x.v (w64 (k - 1)) = true := by
      cases a : s_Kp x.name with
      | false => rw [a] at h; cases h
      | true =>
        rw [a, cond_true] at h
        by_cases c : 0 < i
        · rw [show decide (0 < (i : Int)) = true by simp; omega, cond_true, hw c, Q14x] at h
          cases b : sLt (p.fields.getD (i - 1) (.mk ⟨#[]⟩ (.mk 0 0 ⟨#[]⟩ [] []))).name x.name with
          | false => rw [b] at h; cases h
          | true =>
            rw [b, Bool.not_true, cond_false] at h
            cases d : s_Kx x.v (w64 (k - 1)) with
            | false => rw [d] at h; cases h
            | true =>
              rw [d] at h
              refine ⟨h, fun _ => ?_, rfl⟩
              rw [Qro] at b
              exact of_decide_eq_true b
        · rw [show decide (0 < (i : Int)) = false by simp; omega, cond_false] at h
          cases d : s_Kx x.v (w64 (k - 1)) with
          | false => rw [d] at h; cases h
          | true => rw [d] at h; exact ⟨h, fun g => absurd g c, rfl⟩
    obtain ⟨⟨s, t⟩, u⟩ := Qck p k hp r (i + 1) hd' pr.1
    have e : p.fields.getD (i + 1 - 1) (.mk ⟨#[]⟩ (.mk 0 0 ⟨#[]⟩ [] [])) = x := by rw [Nat.add_sub_cancel, List.getD_eq_getElem?_getD, hx]; rfl
    rw [e] at t
    refine ⟨⟨SS.cons.2 ⟨t (by omega), s⟩, fun c y hy => ?_⟩, fun y hy => ?_⟩
    · rcases List.mem_cons.1 hy with g | g
      · rw [g]; exact pr.2.1 c
      · exact Qlj (pr.2.1 c) (t (by omega) y g)
    · rcases List.mem_cons.1 hy with g | g
      · rw [g]; exact pr.2.2
      · exact u y g
theorem Q132 : ∀ v : Val, ∀ k, s_Kx v k = true → DV v := Qgm fun v ih k h => by
  by_cases hk' : v.kind = 5
  · have h4 : (v.kind == 4) = false := by rw [hk']; rfl
    have h5 : (v.kind == 5) = true := by rw [hk']; rfl
    rw [s_Kx] at h
    cases k0 : k == 0 with
    | true => rw [k0] at h; cases h
    | false =>
      rw [k0, cond_false] at h
      cases sc : s_Kw v with
      | false => rw [sc] at h; cases h
      | true =>
        rw [sc, cond_true] at h
        cases l6 : decide (64 < (v.list.length : Int)) with
        | true => rw [l6] at h; cases h
        | false =>
          rw [l6, cond_false] at h
          cases f6 : decide (64 < (v.fields.length : Int)) with
          | true => rw [f6] at h; cases h
          | false =>
            rw [f6, cond_false, h4, cond_false] at h
            cases ll : decide (0 < (v.list.length : Int)) with
            | true => rw [ll] at h; cases h
            | false =>
              rw [ll, cond_false, h5, cond_true] at h
              have hf : v.fields.length ≤ 64 := by have := of_decide_eq_false f6; omega
              have hl : v.list = [] := List.length_eq_zero_iff.1 (by have := of_decide_eq_false ll; omega)
              cases b0 : Q3l v k v.list 0 with
              | k1 => rw [b0] at h; cases h
              | k0 =>
                rw [b0] at h
                cases b1 : Q2t v k v.fields 0 with
                | k1 => rw [b1] at h; cases h
                | k0 =>
                  obtain ⟨⟨s, _⟩, u⟩ := Qck v k hf v.fields 0 rfl b1
                  unfold s_Kw at sc
                  rw [hk'] at sc
                  simp only [show ((5 : Int) == 1) = false from rfl, show ((5 : Int) == 2) = false from rfl, show ((5 : Int) == 3) = false from rfl, show ((5 : Int) == 0) = false from rfl, show ((5 : Int) == 4) = false from rfl, show ((5 : Int) == 5) = true from rfl, cond_false, cond_true] at sc
                  cases n0 : v.n == 0 with
                  | false => rw [n0] at sc; cases sc
                  | true =>
                    rw [n0, cond_true] at sc
                    have e := Val.eta v
                    rw [hk', show v.n = 0 by simpa using n0, Q2v.1 sc, hl] at e
                    exact .mk v (fun _ => ⟨v.fields, e.symm, s⟩) fun _ f hf' => ih f hf' _ (u f hf')
  · exact DV.leaf hk'
theorem Q12y {v : Val} (h : s_Ko v = true) : DV v := by
  unfold s_Ko at h
  cases e : s_Kx v 12 with
  | true => exact Q132 v 12 e
  | false => rw [e] at h; cases h
theorem Qn9 (p : List Val) : ∀ (l : List Val) (i : Nat), Q5w p l i = .k0 → ∀ x ∈ l, s_Kz x 3000 = true ∧ s_Ko x = true
  | [], _, _ => fun _ g => by cases g
  | x :: l, i, h => by
    rw [Q5w] at h
    cases a : s_Kz x 3000 with
    | false => rw [a] at h; cases h
    | true =>
      cases b : s_Ko x with
      | false => rw [a, b] at h; cases h
      | true =>
        rw [a, b] at h
        intro y hy
        rcases List.mem_cons.1 hy with g | g
        · rw [g]; exact ⟨a, b⟩
        · exact Qn9 p l (i + 1) h y g
theorem Qmb {l : List Val} (hl : ∀ x ∈ l, Q2p x) (h : s_Kd l = true) : ∀ x ∈ l, tot x ≤ 3000 ∧ DV x := fun x hx => by
  unfold s_Kd at h
  cases e : Q5w l l 0 with
  | k1 => rw [e] at h; cases h
  | k0 =>
    obtain ⟨a, b⟩ := Qn9 l l 0 e x hx
    exact ⟨Q14u (hl x hx) a, Q12y b⟩
theorem Q15y {l : List Val} (hl : ∀ x ∈ l, Q2p x) (hn : l.length ≤ 100) : H_Kd l :=
  ⟨⟨by omega, fun x hx => ⟨(hl x hx).sm, trivial⟩, fun x hx => ⟨hl x hx, (hl x hx).sm, trivial⟩, trivial⟩, trivial⟩
theorem Qg3 : ∀ v : Val, Q29 v = true ↔ Cl v := Qgm fun v ih => by
  have hl : ∀ (l : List Fld), (∀ f ∈ l, Q29 f.v = true ↔ Cl f.v) → ∀ i, Q3v v l i = .k0 ↔ ∀ f ∈ l, f.v.kind ≠ 0 ∧ Cl f.v := by
    intro l
    induction l with
    | nil => intro _ i; rw [Q3v]; simp
    | cons x l ihl =>
      intro hx i
      have ih' := ihl (fun f hf => hx f (List.mem_cons_of_mem _ hf)) (i + 1)
      have h1 := hx x List.mem_cons_self
      rw [Q3v, List.forall_mem_cons]
      cases c : x.v.kind == 0 with
      | true =>
        rw [cond_true]
        exact ⟨fun g => (by cases g), fun g => absurd (by simpa using c) g.1.1⟩
      | false =>
        rw [cond_false]
        cases d : Q29 x.v with
        | true =>
          rw [cond_true, ih']
          exact ⟨fun g => ⟨⟨by simpa using c, h1.1 d⟩, g⟩, fun g => g.2⟩
        | false =>
          rw [cond_false]
          exact ⟨fun g => (by cases g), fun g => by rw [h1.2 g.1.2] at d; cases d⟩
  rw [Q29]
  cases k : v.kind == 5 with
  | false =>
    exact ⟨fun _ => Cl.leaf (by simpa using k), fun _ => rfl⟩
  | true =>
    have k' : v.kind = 5 := by simpa using k
    rw [cond_true]
    have := hl v.fields ih 0
    cases e : Q3v v v.fields 0 with
    | k0 =>
      have g := this.1 e
      exact ⟨fun _ => .mk v (fun _ f hf => (g f hf).1) fun _ f hf => (g f hf).2, fun _ => rfl⟩
    | k1 =>
      refine ⟨fun g => (by cases g), fun g => ?_⟩
      have := this.2 fun f hf => ⟨g.out.1 k' f hf, g.out.2 k' f hf⟩
      rw [e] at this
      cases this
theorem Qw3 (v : Val) : s_Ky v v = true := (Qxz v v).2 rfl
theorem alH {v : Val} (h : tot v ≤ 500000000) : H_Ky v := Qat (by omega)
theorem Q13w {a b A B : Nat} (h : a ≤ A) (g : b ≤ B) : a * b ≤ A * B := Nat.mul_le_mul h g
theorem two {a b : Val} {P : Val → Prop} (ha : P a) (hb : P b) : ∀ x ∈ [a, b], P x := by
  intro x hx
  simp only [List.mem_cons, List.not_mem_nil, or_false] at hx
  rcases hx with e | e <;> rw [e] <;> assumption
theorem three {a b c : Val} {P : Val → Prop} (ha : P a) (hb : P b) (hc : P c) : ∀ x ∈ [a, b, c], P x := by
  intro x hx
  simp only [List.mem_cons, List.not_mem_nil, or_false] at hx
  rcases hx with e | e | e <;> rw [e] <;> assumption
section
variable {a b c : Val}
theorem in3a : a ∈ [a, b, c] := List.mem_cons_self
theorem in3b : b ∈ [a, b, c] := List.mem_cons_of_mem _ List.mem_cons_self
theorem in3c : c ∈ [a, b, c] := List.mem_cons_of_mem _ (List.mem_cons_of_mem _ List.mem_cons_self)
end
end Go.Proofs.Ytnhhddbbppbblaa
end

