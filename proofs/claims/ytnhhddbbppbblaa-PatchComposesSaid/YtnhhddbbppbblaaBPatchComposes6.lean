/- Texts of the claim, merged by a program; what the statement does not reach is left out. -/
import Derived.Test.YtnhhddbbppbblaaBPatchComposes5
import Derived.Lib.Strings
import Derived.Lib.Slices
import Derived.Lib.Walk
import Derived.Lib.Bytealg

section
/- What building a map computes (printed by a program). -/
namespace Go.Proofs.Ytnhhddbbppbblaa
open Go.Pv
def Q20 (n0 : Nat) (p1 : Int) : Nat → (List Fld) → Int → Int → (List Fld) × Int
 | 0, v0_0, v0_1, _v0_2 => (v0_0, v0_1)
 | k0 + 1, v0_0, v0_1, v0_2 =>
  bif (decide (v0_2 ≤ p1)) then
   Q20 n0 p1 k0 (Q1c n0 v0_0 v0_1 v0_2) v0_2 (v0_2 + 20)
  else
   (v0_0, v0_1)
def Qme (n0 : Nat) (p1 : Int) (_v0_0 : List Fld) (v0_1 : Int) (v0_2 : Int) : List PV :=
  [.ms 0 6 0 n0, .int .i64 p1, .fn 43 [] [], .un, .un, .un, .int .i64 20, .int .i64 v0_1, .int .i64 v0_2, .un, .un, .un, .un, .un, .un, .un, .un, .un, .un, .un, .un, .un, .un, .un, .un, .un, .un, .un, .un, .un, .un, .un, .un, .un, .un, .un, .un, .un, .un, .un, .un, .un, .un, .un, .un, .un, .un, .un, .un, .un, .un, .un, .un, .un, .un, .un, .un, .un, .un, .un, .un, .un, .un]
def Qco (_n0 : Nat) (_p1 : Int) (v0_0 : List Fld) (_v0_1 : Int) (_v0_2 : Int) : List Ob :=
  [⟨6, 0, false, (Fld.rows v0_0).flatten⟩]
def Qbe (n0 : Nat) (p1 : Int) (v0_0 : List Fld) (v0_1 : Int) (v0_2 : Int) : En := .loop 1 Ir.Qef Ir.Q13u (Qme n0 p1 v0_0 v0_1 v0_2) (Qco n0 p1 v0_0 v0_1 v0_2)
def Qgp (n0 : Nat) (p1 : Int) (q0 : List Fld) (q1 : Int) (z : Nat → PV) (_zo : Nat → List PV) : St :=
  ⟨[.ms 0 6 0 n0, .int .i64 p1, .fn 43 [] [], z 3, z 4, z 5, .int .i64 20, .int .i64 q1, z 8, z 9, z 10, z 11, z 12, z 13, z 14, z 15, z 16, z 17, z 18, z 19, z 20, z 21, z 22, z 23, z 24, z 25, z 26, z 27, z 28, z 29, z 30, z 31, z 32, z 33, z 34, z 35, z 36, z 37, z 38, z 39, z 40, z 41, z 42, z 43, z 44, z 45, z 46, z 47, z 48, z 49, z 50, z 51, z 52, z 53, z 54, z 55, z 56, z 57, z 58, z 59, z 60, z 61, z 62], [(0, ⟨6, 0, false, (Fld.rows q0).flatten⟩)], 193⟩
theorem Qtp (n0 : Nat) (p1 : Int) (v0_0 : List Fld) (v0_1 : Int) (v0_2 : Int) : VOK (Go.Pv.look (number 0 (Qco n0 p1 v0_0 v0_1 v0_2))) [(0, Fld.rows v0_0)] := (VOK.cons (show Seen _ _ from Q3r (ob := ⟨6, 0, false, (Fld.rows v0_0).flatten⟩) (Fld.Q5 v0_0 6 rfl)) VOK.nil)
def Qbq (n0 : Nat) (p1 : Int) (e : En) (q : (List Fld) × Int) : Prop := ∃ z zo, Q7 G e (.st (.exit 0) (Qgp n0 p1 q.1 q.2 z zo))
theorem Qlk (n0 : Nat) (p1 : Int) {e e' : En} (h : ∀ r, Q7 G e r → Q7 G e' r) : ∀ q, Qbq n0 p1 e q → Qbq n0 p1 e' q
  | _, ⟨z, zo, hz⟩ => ⟨z, zo, h _ hz⟩
theorem Quz (n0 : Nat) (p1 : Int) (v0_0 : List Fld) (v0_1 : Int) (v0_2 : Int) (ho0_0 : 0 ≤ v0_1) (_ho0_1 : v0_1 ≤ n0) (ho0_2 : v0_1 + 20 = v0_2) (ho0_3 : p1 = n0) (ho0_4 : (n0 : Int) ≤ 1152921504606846976) (ho0_5 : List.length v0_0 = n0) (h0 : (decide (v0_2 ≤ p1)) = true) {r : Rs} (hr : Q7 G (Qbe n0 p1 (Q1c n0 v0_0 v0_1 v0_2) v0_2 (v0_2 + 20)) r) : Q7 G (Qbe n0 p1 v0_0 v0_1 v0_2) r := by
 have e0 := of_decide_eq_true h0
 exact Q8 (Qtp n0 p1 v0_0 v0_1 v0_2) (y := (Qme n0 p1 (Q1c n0 v0_0 v0_1 v0_2) v0_2 (v0_2 + 20), Qco n0 p1 (Q1c n0 v0_0 v0_1 v0_2) v0_2 (v0_2 + 20))) [hB 2 h0, hQ (Fld.Q5 (Q1c n0 v0_0 v0_1 v0_2) 6 rfl), hP 9 (w_ok (v0_2 + 20) (by have f0 := (Qt n0 v0_0 v0_1 v0_2 ho0_5); omega))] [aV [(0, Fld.rows (Q1c n0 v0_0 v0_1 v0_2))] (Qqh n0 v0_0 v0_1 v0_2 ho0_5 (by omega))] (by kernel_rfl) hr
def Qgo (_n0 : Nat) (p1 : Int) (_v0_0 : List Fld) (_v0_1 : Int) (v0_2 : Int) : List PV :=
  [.un, .un, .un, .un, .un, .un, .un, .un, .int .i64 v0_2, .un, .un, .int .i64 v0_2, .int .i64 p1, .bool false]
def Qdf (_n0 : Nat) (_p1 : Int) (_v0_0 : List Fld) (_v0_1 : Int) (_v0_2 : Int) : List (Nat × List PV) :=
  []
theorem Qv7 (n0 : Nat) (p1 : Int) (v0_0 : List Fld) (v0_1 : Int) (v0_2 : Int) (_ho0_0 : 0 ≤ v0_1) (_ho0_1 : v0_1 ≤ n0) (_ho0_2 : v0_1 + 20 = v0_2) (_ho0_3 : p1 = n0) (_ho0_4 : (n0 : Int) ≤ 1152921504606846976) (_ho0_5 : List.length v0_0 = n0) (h0 : (decide (v0_2 ≤ p1)) = false) : Qbq n0 p1 (Qbe n0 p1 v0_0 v0_1 v0_2) (v0_0, v0_1) := by
 exact ⟨(envF (Qgo n0 p1 v0_0 v0_1 v0_2)), (zoF (Qdf n0 p1 v0_0 v0_1 v0_2)), Qe (Qtp n0 p1 v0_0 v0_1 v0_2) (x := ((.exit 0), Qgp n0 p1 v0_0 v0_1 (envF (Qgo n0 p1 v0_0 v0_1 v0_2)) (zoF (Qdf n0 p1 v0_0 v0_1 v0_2)))) [hB 2 h0] [] (by kernel_rfl)⟩
theorem Qp6 (n0 : Nat) (p1 : Int) : ∀ (k0 : Nat) (v0_0 : List Fld) (v0_1 : Int) (v0_2 : Int), 0 ≤ v0_1 → v0_1 ≤ n0 → v0_1 + 20 = v0_2 → p1 = n0 → (n0 : Int) ≤ 1152921504606846976 → List.length v0_0 = n0 → Int.toNat (p1 + 20 - v0_2) < k0 → Qbq n0 p1 (Qbe n0 p1 v0_0 v0_1 v0_2) (Q20 n0 p1 k0 v0_0 v0_1 v0_2)
 | 0, v0_0, v0_1, v0_2, _, _, _, _, _, _, hm => absurd hm (Nat.not_lt_zero _)
 | k0 + 1, v0_0, v0_1, v0_2, ho0_0, ho0_1, ho0_2, ho0_3, ho0_4, ho0_5, hm => by
  rw [Q20]
  cases h0 : (decide (v0_2 ≤ p1)) with
  | true =>
   have e0 := of_decide_eq_true h0
   exact Qlk n0 p1 (fun r hr => Quz n0 p1 v0_0 v0_1 v0_2 ho0_0 ho0_1 ho0_2 ho0_3 ho0_4 ho0_5 h0 hr) _ (Qp6 n0 p1 k0 (Q1c n0 v0_0 v0_1 v0_2) v0_2 (v0_2 + 20) (by have f0 := (Qt n0 v0_0 v0_1 v0_2 ho0_5); omega) (by have f0 := (Qt n0 v0_0 v0_1 v0_2 ho0_5); omega) (by have f0 := (Qt n0 v0_0 v0_1 v0_2 ho0_5); omega) (by have f0 := (Qt n0 v0_0 v0_1 v0_2 ho0_5); omega) (by have f0 := (Qt n0 v0_0 v0_1 v0_2 ho0_5); omega) (Qt n0 v0_0 v0_1 v0_2 ho0_5) (by have f0 := (Qt n0 v0_0 v0_1 v0_2 ho0_5); omega))
  | false =>
   exact Qv7 n0 p1 v0_0 v0_1 v0_2 ho0_0 ho0_1 ho0_2 ho0_3 ho0_4 ho0_5 h0
theorem Q7j (n0 : Nat) (p1 : Int) : ∀ (k0 : Nat) (v0_0 : List Fld) (v0_1 : Int) (v0_2 : Int), List.length v0_0 = n0 → List.length (Q20 n0 p1 k0 v0_0 v0_1 v0_2).1 = n0
 | 0, v0_0, v0_1, v0_2, ho0_5 => by rw [Q20]; exact ho0_5
 | k0 + 1, v0_0, v0_1, v0_2, ho0_5 => by
  rw [Q20]
  cases h0 : (decide (v0_2 ≤ p1)) with
  | true =>
   exact Q7j n0 p1 k0 (Q1c n0 v0_0 v0_1 v0_2) v0_2 (v0_2 + 20) (Qt n0 v0_0 v0_1 v0_2 ho0_5)
  | false =>
   exact ho0_5
theorem Qmm (n0 : Nat) (p1 : Int) : ∀ (k0 : Nat) (v0_0 : List Fld) (v0_1 : Int) (v0_2 : Int), 0 ≤ v0_1 → v0_1 ≤ n0 → v0_1 + 20 = v0_2 → p1 = n0 → (n0 : Int) ≤ 1152921504606846976 → List.length v0_0 = n0 → Int.toNat (p1 + 20 - v0_2) < k0 → 0 ≤ (Q20 n0 p1 k0 v0_0 v0_1 v0_2).2 ∧ (Q20 n0 p1 k0 v0_0 v0_1 v0_2).2 ≤ n0
 | 0, v0_0, v0_1, v0_2, _, _, _, _, _, _, hm => absurd hm (Nat.not_lt_zero _)
 | k0 + 1, v0_0, v0_1, v0_2, ho0_0, ho0_1, ho0_2, ho0_3, ho0_4, ho0_5, hm => by
  rw [Q20]
  cases h0 : (decide (v0_2 ≤ p1)) with
  | true =>
   have e0 := of_decide_eq_true h0
   exact Qmm n0 p1 k0 (Q1c n0 v0_0 v0_1 v0_2) v0_2 (v0_2 + 20) (by have f0 := (Qt n0 v0_0 v0_1 v0_2 ho0_5); omega) (by have f0 := (Qt n0 v0_0 v0_1 v0_2 ho0_5); omega) (by have f0 := (Qt n0 v0_0 v0_1 v0_2 ho0_5); omega) (by have f0 := (Qt n0 v0_0 v0_1 v0_2 ho0_5); omega) (by have f0 := (Qt n0 v0_0 v0_1 v0_2 ho0_5); omega) (Qt n0 v0_0 v0_1 v0_2 ho0_5) (by have f0 := (Qt n0 v0_0 v0_1 v0_2 ho0_5); omega)
  | false =>
   have e0 := of_decide_eq_false h0
   exact (show 0 ≤ v0_1 ∧ v0_1 ≤ n0 from ⟨(by omega), (by omega)⟩)
def Qd (n0 : Nat) (p1 : Int) : Nat → (List Fld) → Int → Int → Int → (List Fld) × Int × Int
 | 0, v2_0, v2_1, _v2_2, v2_3 => (v2_0, v2_3, v2_1)
 | k2 + 1, v2_0, v2_1, v2_2, v2_3 =>
  bif (decide (v2_2 ≤ p1)) then
   Qd n0 p1 k2 (Q6 ((Int.toNat (v2_2 - v2_1)) + 1) n0 v2_0 v2_1 (v2_1 + v2_3) v2_2) v2_2 (v2_2 + (2 * v2_3)) v2_3
  else
   (v2_0, v2_3, v2_1)
def Qoj (n0 : Nat) (p1 : Int) (_v2_0 : List Fld) (v2_1 : Int) (v2_2 : Int) (v2_3 : Int) : List PV :=
  [.ms 0 6 0 n0, .int .i64 p1, .fn 43 [] [], .un, .un, .un, .int .i64 v2_3, .int .i64 v2_1, .int .i64 v2_2, .un, .un, .un, .un, .un, .un, .un, .un, .un, .un, .un, .un, .un, .un, .un, .un, .un, .un, .un, .un, .un, .un, .un, .un, .un, .un, .un, .un, .un, .un, .un, .un, .un, .un, .un, .un, .un, .un, .un, .un, .un, .un, .un, .un, .un, .un, .un, .un, .un, .un, .un, .un, .un, .un]
def Qes (_n0 : Nat) (_p1 : Int) (v2_0 : List Fld) (_v2_1 : Int) (_v2_2 : Int) (_v2_3 : Int) : List Ob :=
  [⟨6, 0, false, (Fld.rows v2_0).flatten⟩]
def Q6n (n0 : Nat) (p1 : Int) (v2_0 : List Fld) (v2_1 : Int) (v2_2 : Int) (v2_3 : Int) : En := .loop 1 Ir.Qfy Ir.Q13a (Qoj n0 p1 v2_0 v2_1 v2_2 v2_3) (Qes n0 p1 v2_0 v2_1 v2_2 v2_3)
def Q6z (n0 : Nat) (p1 : Int) (q0 : List Fld) (q1 : Int) (q2 : Int) (z : Nat → PV) (_zo : Nat → List PV) : St :=
  ⟨[.ms 0 6 0 n0, .int .i64 p1, .fn 43 [] [], z 3, z 4, z 5, .int .i64 q1, .int .i64 q2, z 8, z 9, z 10, z 11, z 12, z 13, z 14, z 15, z 16, z 17, z 18, z 19, z 20, z 21, z 22, z 23, z 24, z 25, z 26, z 27, z 28, z 29, z 30, z 31, z 32, z 33, z 34, z 35, z 36, z 37, z 38, z 39, z 40, z 41, z 42, z 43, z 44, z 45, z 46, z 47, z 48, z 49, z 50, z 51, z 52, z 53, z 54, z 55, z 56, z 57, z 58, z 59, z 60, z 61, z 62], [(0, ⟨6, 0, false, (Fld.rows q0).flatten⟩)], 193⟩
theorem Qto (n0 : Nat) (p1 : Int) (v2_0 : List Fld) (v2_1 : Int) (v2_2 : Int) (v2_3 : Int) : VOK (Go.Pv.look (number 0 (Qes n0 p1 v2_0 v2_1 v2_2 v2_3))) [(0, Fld.rows v2_0)] := (VOK.cons (show Seen _ _ from Q3r (ob := ⟨6, 0, false, (Fld.rows v2_0).flatten⟩) (Fld.Q5 v2_0 6 rfl)) VOK.nil)
def Qba (n0 : Nat) (p1 : Int) (e : En) (q : (List Fld) × Int × Int) : Prop := ∃ z zo, Q7 G e (.st (.exit 4) (Q6z n0 p1 q.1 q.2.1 q.2.2 z zo))
theorem Ql0 (n0 : Nat) (p1 : Int) {e e' : En} (h : ∀ r, Q7 G e r → Q7 G e' r) : ∀ q, Qba n0 p1 e q → Qba n0 p1 e' q
  | _, ⟨z, zo, hz⟩ => ⟨z, zo, h _ hz⟩
theorem Qv1 (n0 : Nat) (p1 : Int) (v2_0 : List Fld) (v2_1 : Int) (v2_2 : Int) (v2_3 : Int) (ho2_0 : 0 ≤ v2_1) (ho2_1 : v2_1 ≤ n0) (ho2_2 : v2_1 + 2 * v2_3 = v2_2) (ho2_3 : 20 ≤ v2_3) (ho2_4 : v2_3 < p1) (ho2_5 : p1 = n0) (ho2_6 : (n0 : Int) ≤ 1152921504606846976) (ho2_7 : List.length v2_0 = n0) (h0 : (decide (v2_2 ≤ p1)) = true) {r : Rs} (hr : Q7 G (Q6n n0 p1 (Q6 ((Int.toNat (v2_2 - v2_1)) + 1) n0 v2_0 v2_1 (v2_1 + v2_3) v2_2) v2_2 (v2_2 + (2 * v2_3)) v2_3) r) : Q7 G (Q6n n0 p1 v2_0 v2_1 v2_2 v2_3) r := by
 have e0 := of_decide_eq_true h0
 exact Q8 (Qto n0 p1 v2_0 v2_1 v2_2 v2_3) (y := (Qoj n0 p1 (Q6 ((Int.toNat (v2_2 - v2_1)) + 1) n0 v2_0 v2_1 (v2_1 + v2_3) v2_2) v2_2 (v2_2 + (2 * v2_3)) v2_3, Qes n0 p1 (Q6 ((Int.toNat (v2_2 - v2_1)) + 1) n0 v2_0 v2_1 (v2_1 + v2_3) v2_2) v2_2 (v2_2 + (2 * v2_3)) v2_3)) [hB 2 h0, hP 4 (w_ok (v2_1 + v2_3) (by omega)), hQ (Fld.Q5 (Q6 ((Int.toNat (v2_2 - v2_1)) + 1) n0 v2_0 v2_1 (v2_1 + v2_3) v2_2) 6 rfl), hP 7 (w_ok (2 * v2_3) (by have f0 := (Qb ((Int.toNat (v2_2 - v2_1)) + 1) n0 v2_0 v2_1 (v2_1 + v2_3) v2_2 ho2_7); omega)), hP 0 (w_ok (v2_2 + (2 * v2_3)) (by have f0 := (Qb ((Int.toNat (v2_2 - v2_1)) + 1) n0 v2_0 v2_1 (v2_1 + v2_3) v2_2 ho2_7); omega))] [aV [(0, Fld.rows (Q6 ((Int.toNat (v2_2 - v2_1)) + 1) n0 v2_0 v2_1 (v2_1 + v2_3) v2_2))] (Qbx ((Int.toNat (v2_2 - v2_1)) + 1) n0 v2_0 v2_1 (v2_1 + v2_3) v2_2 ho2_7 (by omega) (by omega))] (by kernel_rfl) hr
def Qh7 (_n0 : Nat) (p1 : Int) (_v2_0 : List Fld) (_v2_1 : Int) (v2_2 : Int) (_v2_3 : Int) : List PV :=
  [.un, .un, .un, .un, .un, .un, .un, .un, .int .i64 v2_2, .un, .un, .un, .un, .un, .un, .un, .un, .un, .un, .un, .un, .un, .un, .un, .un, .un, .un, .un, .un, .un, .un, .un, .un, .int .i64 v2_2, .int .i64 p1, .bool false]
def Qfq (_n0 : Nat) (_p1 : Int) (_v2_0 : List Fld) (_v2_1 : Int) (_v2_2 : Int) (_v2_3 : Int) : List (Nat × List PV) :=
  []
theorem Qwk (n0 : Nat) (p1 : Int) (v2_0 : List Fld) (v2_1 : Int) (v2_2 : Int) (v2_3 : Int) (_ho2_0 : 0 ≤ v2_1) (_ho2_1 : v2_1 ≤ n0) (_ho2_2 : v2_1 + 2 * v2_3 = v2_2) (_ho2_3 : 20 ≤ v2_3) (_ho2_4 : v2_3 < p1) (_ho2_5 : p1 = n0) (_ho2_6 : (n0 : Int) ≤ 1152921504606846976) (_ho2_7 : List.length v2_0 = n0) (h0 : (decide (v2_2 ≤ p1)) = false) : Qba n0 p1 (Q6n n0 p1 v2_0 v2_1 v2_2 v2_3) (v2_0, v2_3, v2_1) := by
 exact ⟨(envF (Qh7 n0 p1 v2_0 v2_1 v2_2 v2_3)), (zoF (Qfq n0 p1 v2_0 v2_1 v2_2 v2_3)), Qe (Qto n0 p1 v2_0 v2_1 v2_2 v2_3) (x := ((.exit 4), Q6z n0 p1 v2_0 v2_3 v2_1 (envF (Qh7 n0 p1 v2_0 v2_1 v2_2 v2_3)) (zoF (Qfq n0 p1 v2_0 v2_1 v2_2 v2_3)))) [hB 2 h0] [] (by kernel_rfl)⟩
theorem Qoa (n0 : Nat) (p1 : Int) : ∀ (k2 : Nat) (v2_0 : List Fld) (v2_1 : Int) (v2_2 : Int) (v2_3 : Int), 0 ≤ v2_1 → v2_1 ≤ n0 → v2_1 + 2 * v2_3 = v2_2 → 20 ≤ v2_3 → v2_3 < p1 → p1 = n0 → (n0 : Int) ≤ 1152921504606846976 → List.length v2_0 = n0 → Int.toNat (p1 + 2 * v2_3 - v2_2) < k2 → Qba n0 p1 (Q6n n0 p1 v2_0 v2_1 v2_2 v2_3) (Qd n0 p1 k2 v2_0 v2_1 v2_2 v2_3)
 | 0, v2_0, v2_1, v2_2, v2_3, _, _, _, _, _, _, _, _, hm => absurd hm (Nat.not_lt_zero _)
 | k2 + 1, v2_0, v2_1, v2_2, v2_3, ho2_0, ho2_1, ho2_2, ho2_3, ho2_4, ho2_5, ho2_6, ho2_7, hm => by
  rw [Qd]
  cases h0 : (decide (v2_2 ≤ p1)) with
  | true =>
   have e0 := of_decide_eq_true h0
   exact Ql0 n0 p1 (fun r hr => Qv1 n0 p1 v2_0 v2_1 v2_2 v2_3 ho2_0 ho2_1 ho2_2 ho2_3 ho2_4 ho2_5 ho2_6 ho2_7 h0 hr) _ (Qoa n0 p1 k2 (Q6 ((Int.toNat (v2_2 - v2_1)) + 1) n0 v2_0 v2_1 (v2_1 + v2_3) v2_2) v2_2 (v2_2 + (2 * v2_3)) v2_3 (by have f0 := (Qb ((Int.toNat (v2_2 - v2_1)) + 1) n0 v2_0 v2_1 (v2_1 + v2_3) v2_2 ho2_7); omega) (by have f0 := (Qb ((Int.toNat (v2_2 - v2_1)) + 1) n0 v2_0 v2_1 (v2_1 + v2_3) v2_2 ho2_7); omega) (by have f0 := (Qb ((Int.toNat (v2_2 - v2_1)) + 1) n0 v2_0 v2_1 (v2_1 + v2_3) v2_2 ho2_7); omega) (by have f0 := (Qb ((Int.toNat (v2_2 - v2_1)) + 1) n0 v2_0 v2_1 (v2_1 + v2_3) v2_2 ho2_7); omega) (by have f0 := (Qb ((Int.toNat (v2_2 - v2_1)) + 1) n0 v2_0 v2_1 (v2_1 + v2_3) v2_2 ho2_7); omega) (by have f0 := (Qb ((Int.toNat (v2_2 - v2_1)) + 1) n0 v2_0 v2_1 (v2_1 + v2_3) v2_2 ho2_7); omega) (by have f0 := (Qb ((Int.toNat (v2_2 - v2_1)) + 1) n0 v2_0 v2_1 (v2_1 + v2_3) v2_2 ho2_7); omega) (Qb ((Int.toNat (v2_2 - v2_1)) + 1) n0 v2_0 v2_1 (v2_1 + v2_3) v2_2 ho2_7) (by have f0 := (Qb ((Int.toNat (v2_2 - v2_1)) + 1) n0 v2_0 v2_1 (v2_1 + v2_3) v2_2 ho2_7); omega))
  | false =>
   exact Qwk n0 p1 v2_0 v2_1 v2_2 v2_3 ho2_0 ho2_1 ho2_2 ho2_3 ho2_4 ho2_5 ho2_6 ho2_7 h0
theorem Q1b (n0 : Nat) (p1 : Int) : ∀ (k2 : Nat) (v2_0 : List Fld) (v2_1 : Int) (v2_2 : Int) (v2_3 : Int), List.length v2_0 = n0 → List.length (Qd n0 p1 k2 v2_0 v2_1 v2_2 v2_3).1 = n0
 | 0, v2_0, v2_1, v2_2, v2_3, ho2_7 => by rw [Qd]; exact ho2_7
 | k2 + 1, v2_0, v2_1, v2_2, v2_3, ho2_7 => by
  rw [Qd]
  cases h0 : (decide (v2_2 ≤ p1)) with
  | true =>
   exact Q1b n0 p1 k2 (Q6 ((Int.toNat (v2_2 - v2_1)) + 1) n0 v2_0 v2_1 (v2_1 + v2_3) v2_2) v2_2 (v2_2 + (2 * v2_3)) v2_3 (Qb ((Int.toNat (v2_2 - v2_1)) + 1) n0 v2_0 v2_1 (v2_1 + v2_3) v2_2 ho2_7)
  | false =>
   exact ho2_7
theorem Q2a (n0 : Nat) (p1 : Int) : ∀ (k2 : Nat) (v2_0 : List Fld) (v2_1 : Int) (v2_2 : Int) (v2_3 : Int), 0 ≤ v2_1 → v2_1 ≤ n0 → v2_1 + 2 * v2_3 = v2_2 → 20 ≤ v2_3 → v2_3 < p1 → p1 = n0 → (n0 : Int) ≤ 1152921504606846976 → List.length v2_0 = n0 → Int.toNat (p1 + 2 * v2_3 - v2_2) < k2 → 0 ≤ (Qd n0 p1 k2 v2_0 v2_1 v2_2 v2_3).2.2 ∧ (Qd n0 p1 k2 v2_0 v2_1 v2_2 v2_3).2.2 ≤ n0 ∧ (Qd n0 p1 k2 v2_0 v2_1 v2_2 v2_3).2.1 = v2_3
 | 0, v2_0, v2_1, v2_2, v2_3, _, _, _, _, _, _, _, _, hm => absurd hm (Nat.not_lt_zero _)
 | k2 + 1, v2_0, v2_1, v2_2, v2_3, ho2_0, ho2_1, ho2_2, ho2_3, ho2_4, ho2_5, ho2_6, ho2_7, hm => by
  rw [Qd]
  cases h0 : (decide (v2_2 ≤ p1)) with
  | true =>
   have e0 := of_decide_eq_true h0
   exact Q2a n0 p1 k2 (Q6 ((Int.toNat (v2_2 - v2_1)) + 1) n0 v2_0 v2_1 (v2_1 + v2_3) v2_2) v2_2 (v2_2 + (2 * v2_3)) v2_3 (by have f0 := (Qb ((Int.toNat (v2_2 - v2_1)) + 1) n0 v2_0 v2_1 (v2_1 + v2_3) v2_2 ho2_7); omega) (by have f0 := (Qb ((Int.toNat (v2_2 - v2_1)) + 1) n0 v2_0 v2_1 (v2_1 + v2_3) v2_2 ho2_7); omega) (by have f0 := (Qb ((Int.toNat (v2_2 - v2_1)) + 1) n0 v2_0 v2_1 (v2_1 + v2_3) v2_2 ho2_7); omega) (by have f0 := (Qb ((Int.toNat (v2_2 - v2_1)) + 1) n0 v2_0 v2_1 (v2_1 + v2_3) v2_2 ho2_7); omega) (by have f0 := (Qb ((Int.toNat (v2_2 - v2_1)) + 1) n0 v2_0 v2_1 (v2_1 + v2_3) v2_2 ho2_7); omega) (by have f0 := (Qb ((Int.toNat (v2_2 - v2_1)) + 1) n0 v2_0 v2_1 (v2_1 + v2_3) v2_2 ho2_7); omega) (by have f0 := (Qb ((Int.toNat (v2_2 - v2_1)) + 1) n0 v2_0 v2_1 (v2_1 + v2_3) v2_2 ho2_7); omega) (Qb ((Int.toNat (v2_2 - v2_1)) + 1) n0 v2_0 v2_1 (v2_1 + v2_3) v2_2 ho2_7) (by have f0 := (Qb ((Int.toNat (v2_2 - v2_1)) + 1) n0 v2_0 v2_1 (v2_1 + v2_3) v2_2 ho2_7); omega)
  | false =>
   have e0 := of_decide_eq_false h0
   exact (show 0 ≤ v2_1 ∧ v2_1 ≤ n0 ∧ v2_3 = v2_3 from ⟨(by omega), (by omega), (by omega)⟩)
def Q2p (n0 : Nat) (p1 : Int) : Nat → (List Fld) → Int → List Fld
 | 0, v1_0, _v1_1 => v1_0
 | k1 + 1, v1_0, v1_1 =>
  bif (decide (v1_1 < p1)) then
   bif (decide (((Qd n0 p1 ((Int.toNat (p1 + 2 * v1_1 - (2 * v1_1))) + 1) v1_0 0 (2 * v1_1) v1_1).2.2 + (Qd n0 p1 ((Int.toNat (p1 + 2 * v1_1 - (2 * v1_1))) + 1) v1_0 0 (2 * v1_1) v1_1).2.1) < p1)) then
    Q2p n0 p1 k1 (Q6 ((Int.toNat (p1 - (Qd n0 p1 ((Int.toNat (p1 + 2 * v1_1 - (2 * v1_1))) + 1) v1_0 0 (2 * v1_1) v1_1).2.2)) + 1) n0 (Qd n0 p1 ((Int.toNat (p1 + 2 * v1_1 - (2 * v1_1))) + 1) v1_0 0 (2 * v1_1) v1_1).1 (Qd n0 p1 ((Int.toNat (p1 + 2 * v1_1 - (2 * v1_1))) + 1) v1_0 0 (2 * v1_1) v1_1).2.2 ((Qd n0 p1 ((Int.toNat (p1 + 2 * v1_1 - (2 * v1_1))) + 1) v1_0 0 (2 * v1_1) v1_1).2.2 + (Qd n0 p1 ((Int.toNat (p1 + 2 * v1_1 - (2 * v1_1))) + 1) v1_0 0 (2 * v1_1) v1_1).2.1) p1) ((Qd n0 p1 ((Int.toNat (p1 + 2 * v1_1 - (2 * v1_1))) + 1) v1_0 0 (2 * v1_1) v1_1).2.1 * 2)
   else
    Q2p n0 p1 k1 (Qd n0 p1 ((Int.toNat (p1 + 2 * v1_1 - (2 * v1_1))) + 1) v1_0 0 (2 * v1_1) v1_1).1 ((Qd n0 p1 ((Int.toNat (p1 + 2 * v1_1 - (2 * v1_1))) + 1) v1_0 0 (2 * v1_1) v1_1).2.1 * 2)
  else
   v1_0
def Qg4 (n0 : Nat) (p1 : Int) (_v1_0 : List Fld) (v1_1 : Int) : List PV :=
  [.ms 0 6 0 n0, .int .i64 p1, .fn 43 [] [], .un, .un, .un, .int .i64 v1_1, .un, .un, .un, .un, .un, .un, .un, .un, .un, .un, .un, .un, .un, .un, .un, .un, .un, .un, .un, .un, .un, .un, .un, .un, .un, .un, .un, .un, .un, .un, .un, .un, .un, .un, .un, .un, .un, .un, .un, .un, .un, .un, .un, .un, .un, .un, .un, .un, .un, .un, .un, .un, .un, .un, .un, .un]
def Q91 (_n0 : Nat) (_p1 : Int) (v1_0 : List Fld) (_v1_1 : Int) : List Ob :=
  [⟨6, 0, false, (Fld.rows v1_0).flatten⟩]
def Q75 (n0 : Nat) (p1 : Int) (v1_0 : List Fld) (v1_1 : Int) : En := .loop 1 Ir.Qf0 Ir.Q139 (Qg4 n0 p1 v1_0 v1_1) (Q91 n0 p1 v1_0 v1_1)
def Qjk (_n0 : Nat) (_p1 : Int) (q0 : List Fld) (z : Nat → PV) (_zo : Nat → List PV) : St :=
  ⟨[z 0, z 1, z 2, z 3, z 4, z 5, z 6, z 7, z 8, z 9, z 10, z 11, z 12, z 13, z 14, z 15, z 16, z 17, z 18, z 19, z 20, z 21, z 22, z 23, z 24, z 25, z 26, z 27, z 28, z 29, z 30, z 31, z 32, z 33, z 34, z 35, z 36, z 37, z 38, z 39, z 40, z 41, z 42, z 43, z 44, z 45, z 46, z 47, z 48, z 49, z 50, z 51, z 52, z 53, z 54, z 55, z 56, z 57, z 58, z 59, z 60, z 61, z 62], [(0, ⟨6, 0, false, (Fld.rows q0).flatten⟩)], 193⟩
theorem Qk2 (n0 : Nat) (p1 : Int) (v1_0 : List Fld) (v1_1 : Int) : VOK (Go.Pv.look (number 0 (Q91 n0 p1 v1_0 v1_1))) [(0, Fld.rows v1_0)] := (VOK.cons (show Seen _ _ from Q3r (ob := ⟨6, 0, false, (Fld.rows v1_0).flatten⟩) (Fld.Q5 v1_0 6 rfl)) VOK.nil)
def Qbf (n0 : Nat) (p1 : Int) (e : En) (q : List Fld) : Prop := ∃ z zo, Q7 G e (.st (.exit 2) (Qjk n0 p1 q z zo))
theorem Q9c (n0 : Nat) (p1 : Int) {e e' : En} (h : ∀ r, Q7 G e r → Q7 G e' r) : ∀ q, Qbf n0 p1 e q → Qbf n0 p1 e' q
  | _, ⟨z, zo, hz⟩ => ⟨z, zo, h _ hz⟩
theorem Qui (n0 : Nat) (p1 : Int) (v1_0 : List Fld) (v1_1 : Int) (ho1_0 : 20 ≤ v1_1) (ho1_1 : p1 = n0) (ho1_2 : (n0 : Int) ≤ 1152921504606846976) (ho1_3 : List.length v1_0 = n0) (h0 : (decide (v1_1 < p1)) = true) (z1 : Nat → PV) (zo1 : Nat → List PV) (hl1 : Q7 G (Q6n n0 p1 v1_0 0 (2 * v1_1) v1_1) (.st (.exit 4) (Q6z n0 p1 (Qd n0 p1 ((Int.toNat (p1 + 2 * v1_1 - (2 * v1_1))) + 1) v1_0 0 (2 * v1_1) v1_1).1 (Qd n0 p1 ((Int.toNat (p1 + 2 * v1_1 - (2 * v1_1))) + 1) v1_0 0 (2 * v1_1) v1_1).2.1 (Qd n0 p1 ((Int.toNat (p1 + 2 * v1_1 - (2 * v1_1))) + 1) v1_0 0 (2 * v1_1) v1_1).2.2 z1 zo1))) (h1 : (decide (((Qd n0 p1 ((Int.toNat (p1 + 2 * v1_1 - (2 * v1_1))) + 1) v1_0 0 (2 * v1_1) v1_1).2.2 + (Qd n0 p1 ((Int.toNat (p1 + 2 * v1_1 - (2 * v1_1))) + 1) v1_0 0 (2 * v1_1) v1_1).2.1) < p1)) = true) {r : Rs} (hr : Q7 G (Q75 n0 p1 (Q6 ((Int.toNat (p1 - (Qd n0 p1 ((Int.toNat (p1 + 2 * v1_1 - (2 * v1_1))) + 1) v1_0 0 (2 * v1_1) v1_1).2.2)) + 1) n0 (Qd n0 p1 ((Int.toNat (p1 + 2 * v1_1 - (2 * v1_1))) + 1) v1_0 0 (2 * v1_1) v1_1).1 (Qd n0 p1 ((Int.toNat (p1 + 2 * v1_1 - (2 * v1_1))) + 1) v1_0 0 (2 * v1_1) v1_1).2.2 ((Qd n0 p1 ((Int.toNat (p1 + 2 * v1_1 - (2 * v1_1))) + 1) v1_0 0 (2 * v1_1) v1_1).2.2 + (Qd n0 p1 ((Int.toNat (p1 + 2 * v1_1 - (2 * v1_1))) + 1) v1_0 0 (2 * v1_1) v1_1).2.1) p1) ((Qd n0 p1 ((Int.toNat (p1 + 2 * v1_1 - (2 * v1_1))) + 1) v1_0 0 (2 * v1_1) v1_1).2.1 * 2)) r) : Q7 G (Q75 n0 p1 v1_0 v1_1) r := by
 have e0 := of_decide_eq_true h0; have e1 := of_decide_eq_true h1
 exact Q8 (Qk2 n0 p1 v1_0 v1_1) (y := (Qg4 n0 p1 (Q6 ((Int.toNat (p1 - (Qd n0 p1 ((Int.toNat (p1 + 2 * v1_1 - (2 * v1_1))) + 1) v1_0 0 (2 * v1_1) v1_1).2.2)) + 1) n0 (Qd n0 p1 ((Int.toNat (p1 + 2 * v1_1 - (2 * v1_1))) + 1) v1_0 0 (2 * v1_1) v1_1).1 (Qd n0 p1 ((Int.toNat (p1 + 2 * v1_1 - (2 * v1_1))) + 1) v1_0 0 (2 * v1_1) v1_1).2.2 ((Qd n0 p1 ((Int.toNat (p1 + 2 * v1_1 - (2 * v1_1))) + 1) v1_0 0 (2 * v1_1) v1_1).2.2 + (Qd n0 p1 ((Int.toNat (p1 + 2 * v1_1 - (2 * v1_1))) + 1) v1_0 0 (2 * v1_1) v1_1).2.1) p1) ((Qd n0 p1 ((Int.toNat (p1 + 2 * v1_1 - (2 * v1_1))) + 1) v1_0 0 (2 * v1_1) v1_1).2.1 * 2), Q91 n0 p1 (Q6 ((Int.toNat (p1 - (Qd n0 p1 ((Int.toNat (p1 + 2 * v1_1 - (2 * v1_1))) + 1) v1_0 0 (2 * v1_1) v1_1).2.2)) + 1) n0 (Qd n0 p1 ((Int.toNat (p1 + 2 * v1_1 - (2 * v1_1))) + 1) v1_0 0 (2 * v1_1) v1_1).1 (Qd n0 p1 ((Int.toNat (p1 + 2 * v1_1 - (2 * v1_1))) + 1) v1_0 0 (2 * v1_1) v1_1).2.2 ((Qd n0 p1 ((Int.toNat (p1 + 2 * v1_1 - (2 * v1_1))) + 1) v1_0 0 (2 * v1_1) v1_1).2.2 + (Qd n0 p1 ((Int.toNat (p1 + 2 * v1_1 - (2 * v1_1))) + 1) v1_0 0 (2 * v1_1) v1_1).2.1) p1) ((Qd n0 p1 ((Int.toNat (p1 + 2 * v1_1 - (2 * v1_1))) + 1) v1_0 0 (2 * v1_1) v1_1).2.1 * 2))) [hB 2 h0, hP 1 (w_ok (2 * v1_1) (by omega)), hS 0 false (Fld.Q5 (Qd n0 p1 ((Int.toNat (p1 + 2 * v1_1 - (2 * v1_1))) + 1) v1_0 0 (2 * v1_1) v1_1).1 6 rfl), hP 4 (w_ok ((Qd n0 p1 ((Int.toNat (p1 + 2 * v1_1 - (2 * v1_1))) + 1) v1_0 0 (2 * v1_1) v1_1).2.2 + (Qd n0 p1 ((Int.toNat (p1 + 2 * v1_1 - (2 * v1_1))) + 1) v1_0 0 (2 * v1_1) v1_1).2.1) (by have f0 := (Q1b n0 p1 ((Int.toNat (p1 + 2 * v1_1 - (2 * v1_1))) + 1) v1_0 0 (2 * v1_1) v1_1 ho1_3); have g0 := Q2a n0 p1 ((Int.toNat (p1 + 2 * v1_1 - (2 * v1_1))) + 1) v1_0 0 (2 * v1_1) v1_1 (by omega) (by omega) (by omega) (by omega) (by omega) (by omega) (by omega) ho1_3 (by omega); omega)), hB 3 h1, hQ (Fld.Q5 (Q6 ((Int.toNat (p1 - (Qd n0 p1 ((Int.toNat (p1 + 2 * v1_1 - (2 * v1_1))) + 1) v1_0 0 (2 * v1_1) v1_1).2.2)) + 1) n0 (Qd n0 p1 ((Int.toNat (p1 + 2 * v1_1 - (2 * v1_1))) + 1) v1_0 0 (2 * v1_1) v1_1).1 (Qd n0 p1 ((Int.toNat (p1 + 2 * v1_1 - (2 * v1_1))) + 1) v1_0 0 (2 * v1_1) v1_1).2.2 ((Qd n0 p1 ((Int.toNat (p1 + 2 * v1_1 - (2 * v1_1))) + 1) v1_0 0 (2 * v1_1) v1_1).2.2 + (Qd n0 p1 ((Int.toNat (p1 + 2 * v1_1 - (2 * v1_1))) + 1) v1_0 0 (2 * v1_1) v1_1).2.1) p1) 6 rfl), hP 7 (w_ok ((Qd n0 p1 ((Int.toNat (p1 + 2 * v1_1 - (2 * v1_1))) + 1) v1_0 0 (2 * v1_1) v1_1).2.1 * 2) (by have f0 := (Qb ((Int.toNat (p1 - (Qd n0 p1 ((Int.toNat (p1 + 2 * v1_1 - (2 * v1_1))) + 1) v1_0 0 (2 * v1_1) v1_1).2.2)) + 1) n0 (Qd n0 p1 ((Int.toNat (p1 + 2 * v1_1 - (2 * v1_1))) + 1) v1_0 0 (2 * v1_1) v1_1).1 (Qd n0 p1 ((Int.toNat (p1 + 2 * v1_1 - (2 * v1_1))) + 1) v1_0 0 (2 * v1_1) v1_1).2.2 ((Qd n0 p1 ((Int.toNat (p1 + 2 * v1_1 - (2 * v1_1))) + 1) v1_0 0 (2 * v1_1) v1_1).2.2 + (Qd n0 p1 ((Int.toNat (p1 + 2 * v1_1 - (2 * v1_1))) + 1) v1_0 0 (2 * v1_1) v1_1).2.1) p1 (Q1b n0 p1 ((Int.toNat (p1 + 2 * v1_1 - (2 * v1_1))) + 1) v1_0 0 (2 * v1_1) v1_1 ho1_3)); have g0 := Q2a n0 p1 ((Int.toNat (p1 + 2 * v1_1 - (2 * v1_1))) + 1) v1_0 0 (2 * v1_1) v1_1 (by omega) (by omega) (by omega) (by omega) (by omega) (by omega) (by omega) ho1_3 (by omega); omega))] [aV [(0, Fld.rows (Qd n0 p1 ((Int.toNat (p1 + 2 * v1_1 - (2 * v1_1))) + 1) v1_0 0 (2 * v1_1) v1_1).1)] hl1, aV [(0, Fld.rows (Q6 ((Int.toNat (p1 - (Qd n0 p1 ((Int.toNat (p1 + 2 * v1_1 - (2 * v1_1))) + 1) v1_0 0 (2 * v1_1) v1_1).2.2)) + 1) n0 (Qd n0 p1 ((Int.toNat (p1 + 2 * v1_1 - (2 * v1_1))) + 1) v1_0 0 (2 * v1_1) v1_1).1 (Qd n0 p1 ((Int.toNat (p1 + 2 * v1_1 - (2 * v1_1))) + 1) v1_0 0 (2 * v1_1) v1_1).2.2 ((Qd n0 p1 ((Int.toNat (p1 + 2 * v1_1 - (2 * v1_1))) + 1) v1_0 0 (2 * v1_1) v1_1).2.2 + (Qd n0 p1 ((Int.toNat (p1 + 2 * v1_1 - (2 * v1_1))) + 1) v1_0 0 (2 * v1_1) v1_1).2.1) p1))] (Qbx ((Int.toNat (p1 - (Qd n0 p1 ((Int.toNat (p1 + 2 * v1_1 - (2 * v1_1))) + 1) v1_0 0 (2 * v1_1) v1_1).2.2)) + 1) n0 (Qd n0 p1 ((Int.toNat (p1 + 2 * v1_1 - (2 * v1_1))) + 1) v1_0 0 (2 * v1_1) v1_1).1 (Qd n0 p1 ((Int.toNat (p1 + 2 * v1_1 - (2 * v1_1))) + 1) v1_0 0 (2 * v1_1) v1_1).2.2 ((Qd n0 p1 ((Int.toNat (p1 + 2 * v1_1 - (2 * v1_1))) + 1) v1_0 0 (2 * v1_1) v1_1).2.2 + (Qd n0 p1 ((Int.toNat (p1 + 2 * v1_1 - (2 * v1_1))) + 1) v1_0 0 (2 * v1_1) v1_1).2.1) p1 (Q1b n0 p1 ((Int.toNat (p1 + 2 * v1_1 - (2 * v1_1))) + 1) v1_0 0 (2 * v1_1) v1_1 ho1_3) (by have f0 := (Q1b n0 p1 ((Int.toNat (p1 + 2 * v1_1 - (2 * v1_1))) + 1) v1_0 0 (2 * v1_1) v1_1 ho1_3); have g0 := Q2a n0 p1 ((Int.toNat (p1 + 2 * v1_1 - (2 * v1_1))) + 1) v1_0 0 (2 * v1_1) v1_1 (by omega) (by omega) (by omega) (by omega) (by omega) (by omega) (by omega) ho1_3 (by omega); omega) (by omega))] (by kernel_rfl) hr
theorem Qug (n0 : Nat) (p1 : Int) (v1_0 : List Fld) (v1_1 : Int) (ho1_0 : 20 ≤ v1_1) (ho1_1 : p1 = n0) (ho1_2 : (n0 : Int) ≤ 1152921504606846976) (ho1_3 : List.length v1_0 = n0) (h0 : (decide (v1_1 < p1)) = true) (z1 : Nat → PV) (zo1 : Nat → List PV) (hl1 : Q7 G (Q6n n0 p1 v1_0 0 (2 * v1_1) v1_1) (.st (.exit 4) (Q6z n0 p1 (Qd n0 p1 ((Int.toNat (p1 + 2 * v1_1 - (2 * v1_1))) + 1) v1_0 0 (2 * v1_1) v1_1).1 (Qd n0 p1 ((Int.toNat (p1 + 2 * v1_1 - (2 * v1_1))) + 1) v1_0 0 (2 * v1_1) v1_1).2.1 (Qd n0 p1 ((Int.toNat (p1 + 2 * v1_1 - (2 * v1_1))) + 1) v1_0 0 (2 * v1_1) v1_1).2.2 z1 zo1))) (h1 : (decide (((Qd n0 p1 ((Int.toNat (p1 + 2 * v1_1 - (2 * v1_1))) + 1) v1_0 0 (2 * v1_1) v1_1).2.2 + (Qd n0 p1 ((Int.toNat (p1 + 2 * v1_1 - (2 * v1_1))) + 1) v1_0 0 (2 * v1_1) v1_1).2.1) < p1)) = false) {r : Rs} (hr : Q7 G (Q75 n0 p1 (Qd n0 p1 ((Int.toNat (p1 + 2 * v1_1 - (2 * v1_1))) + 1) v1_0 0 (2 * v1_1) v1_1).1 ((Qd n0 p1 ((Int.toNat (p1 + 2 * v1_1 - (2 * v1_1))) + 1) v1_0 0 (2 * v1_1) v1_1).2.1 * 2)) r) : Q7 G (Q75 n0 p1 v1_0 v1_1) r := by
 have e0 := of_decide_eq_true h0; have e1 := of_decide_eq_false h1
 exact Q8 (Qk2 n0 p1 v1_0 v1_1) (y := (Qg4 n0 p1 (Qd n0 p1 ((Int.toNat (p1 + 2 * v1_1 - (2 * v1_1))) + 1) v1_0 0 (2 * v1_1) v1_1).1 ((Qd n0 p1 ((Int.toNat (p1 + 2 * v1_1 - (2 * v1_1))) + 1) v1_0 0 (2 * v1_1) v1_1).2.1 * 2), Q91 n0 p1 (Qd n0 p1 ((Int.toNat (p1 + 2 * v1_1 - (2 * v1_1))) + 1) v1_0 0 (2 * v1_1) v1_1).1 ((Qd n0 p1 ((Int.toNat (p1 + 2 * v1_1 - (2 * v1_1))) + 1) v1_0 0 (2 * v1_1) v1_1).2.1 * 2))) [hB 2 h0, hP 1 (w_ok (2 * v1_1) (by omega)), hS 0 false (Fld.Q5 (Qd n0 p1 ((Int.toNat (p1 + 2 * v1_1 - (2 * v1_1))) + 1) v1_0 0 (2 * v1_1) v1_1).1 6 rfl), hP 4 (w_ok ((Qd n0 p1 ((Int.toNat (p1 + 2 * v1_1 - (2 * v1_1))) + 1) v1_0 0 (2 * v1_1) v1_1).2.2 + (Qd n0 p1 ((Int.toNat (p1 + 2 * v1_1 - (2 * v1_1))) + 1) v1_0 0 (2 * v1_1) v1_1).2.1) (by have f0 := (Q1b n0 p1 ((Int.toNat (p1 + 2 * v1_1 - (2 * v1_1))) + 1) v1_0 0 (2 * v1_1) v1_1 ho1_3); have g0 := Q2a n0 p1 ((Int.toNat (p1 + 2 * v1_1 - (2 * v1_1))) + 1) v1_0 0 (2 * v1_1) v1_1 (by omega) (by omega) (by omega) (by omega) (by omega) (by omega) (by omega) ho1_3 (by omega); omega)), hB 3 h1, hP 1 (w_ok ((Qd n0 p1 ((Int.toNat (p1 + 2 * v1_1 - (2 * v1_1))) + 1) v1_0 0 (2 * v1_1) v1_1).2.1 * 2) (by have f0 := (Q1b n0 p1 ((Int.toNat (p1 + 2 * v1_1 - (2 * v1_1))) + 1) v1_0 0 (2 * v1_1) v1_1 ho1_3); have g0 := Q2a n0 p1 ((Int.toNat (p1 + 2 * v1_1 - (2 * v1_1))) + 1) v1_0 0 (2 * v1_1) v1_1 (by omega) (by omega) (by omega) (by omega) (by omega) (by omega) (by omega) ho1_3 (by omega); omega))] [aV [(0, Fld.rows (Qd n0 p1 ((Int.toNat (p1 + 2 * v1_1 - (2 * v1_1))) + 1) v1_0 0 (2 * v1_1) v1_1).1)] hl1] (by kernel_rfl) hr
def Qio (n0 : Nat) (p1 : Int) (_v1_0 : List Fld) (v1_1 : Int) : List PV :=
  [.ms 0 6 0 n0, .int .i64 p1, .fn 43 [] [], .un, .un, .un, .int .i64 v1_1, .un, .un, .un, .un, .un, .un, .un, .un, .un, .un, .un, .un, .un, .un, .un, .un, .un, .un, .un, .un, .un, .int .i64 v1_1, .int .i64 p1, .bool false]
def Qc0 (_n0 : Nat) (_p1 : Int) (_v1_0 : List Fld) (_v1_1 : Int) : List (Nat × List PV) :=
  []
theorem Qwc (n0 : Nat) (p1 : Int) (v1_0 : List Fld) (v1_1 : Int) (_ho1_0 : 20 ≤ v1_1) (_ho1_1 : p1 = n0) (_ho1_2 : (n0 : Int) ≤ 1152921504606846976) (_ho1_3 : List.length v1_0 = n0) (h0 : (decide (v1_1 < p1)) = false) : Qbf n0 p1 (Q75 n0 p1 v1_0 v1_1) v1_0 := by
 exact ⟨(envF (Qio n0 p1 v1_0 v1_1)), (zoF (Qc0 n0 p1 v1_0 v1_1)), Qe (Qk2 n0 p1 v1_0 v1_1) (x := ((.exit 2), Qjk n0 p1 v1_0 (envF (Qio n0 p1 v1_0 v1_1)) (zoF (Qc0 n0 p1 v1_0 v1_1)))) [hB 2 h0] [] (by kernel_rfl)⟩
theorem Qff (n0 : Nat) (p1 : Int) : ∀ (k1 : Nat) (v1_0 : List Fld) (v1_1 : Int), 20 ≤ v1_1 → p1 = n0 → (n0 : Int) ≤ 1152921504606846976 → List.length v1_0 = n0 → Int.toNat (p1 - v1_1) < k1 → Qbf n0 p1 (Q75 n0 p1 v1_0 v1_1) (Q2p n0 p1 k1 v1_0 v1_1)
 | 0, v1_0, v1_1, _, _, _, _, hm => absurd hm (Nat.not_lt_zero _)
 | k1 + 1, v1_0, v1_1, ho1_0, ho1_1, ho1_2, ho1_3, hm => by
  rw [Q2p]
  cases h0 : (decide (v1_1 < p1)) with
  | true =>
   have e0 := of_decide_eq_true h0
   have hl1 := Qoa n0 p1 ((Int.toNat (p1 + 2 * v1_1 - (2 * v1_1))) + 1) v1_0 0 (2 * v1_1) v1_1 (by omega) (by omega) (by omega) (by omega) (by omega) (by omega) (by omega) ho1_3 (by omega)
   obtain ⟨z1, zo1, hl1⟩ := hl1
   cases h1 : (decide (((Qd n0 p1 ((Int.toNat (p1 + 2 * v1_1 - (2 * v1_1))) + 1) v1_0 0 (2 * v1_1) v1_1).2.2 + (Qd n0 p1 ((Int.toNat (p1 + 2 * v1_1 - (2 * v1_1))) + 1) v1_0 0 (2 * v1_1) v1_1).2.1) < p1)) with
   | true =>
    have e1 := of_decide_eq_true h1
    exact Q9c n0 p1 (fun r hr => Qui n0 p1 v1_0 v1_1 ho1_0 ho1_1 ho1_2 ho1_3 h0 z1 zo1 hl1 h1 hr) _ (Qff n0 p1 k1 (Q6 ((Int.toNat (p1 - (Qd n0 p1 ((Int.toNat (p1 + 2 * v1_1 - (2 * v1_1))) + 1) v1_0 0 (2 * v1_1) v1_1).2.2)) + 1) n0 (Qd n0 p1 ((Int.toNat (p1 + 2 * v1_1 - (2 * v1_1))) + 1) v1_0 0 (2 * v1_1) v1_1).1 (Qd n0 p1 ((Int.toNat (p1 + 2 * v1_1 - (2 * v1_1))) + 1) v1_0 0 (2 * v1_1) v1_1).2.2 ((Qd n0 p1 ((Int.toNat (p1 + 2 * v1_1 - (2 * v1_1))) + 1) v1_0 0 (2 * v1_1) v1_1).2.2 + (Qd n0 p1 ((Int.toNat (p1 + 2 * v1_1 - (2 * v1_1))) + 1) v1_0 0 (2 * v1_1) v1_1).2.1) p1) ((Qd n0 p1 ((Int.toNat (p1 + 2 * v1_1 - (2 * v1_1))) + 1) v1_0 0 (2 * v1_1) v1_1).2.1 * 2) (by have f0 := (Qb ((Int.toNat (p1 - (Qd n0 p1 ((Int.toNat (p1 + 2 * v1_1 - (2 * v1_1))) + 1) v1_0 0 (2 * v1_1) v1_1).2.2)) + 1) n0 (Qd n0 p1 ((Int.toNat (p1 + 2 * v1_1 - (2 * v1_1))) + 1) v1_0 0 (2 * v1_1) v1_1).1 (Qd n0 p1 ((Int.toNat (p1 + 2 * v1_1 - (2 * v1_1))) + 1) v1_0 0 (2 * v1_1) v1_1).2.2 ((Qd n0 p1 ((Int.toNat (p1 + 2 * v1_1 - (2 * v1_1))) + 1) v1_0 0 (2 * v1_1) v1_1).2.2 + (Qd n0 p1 ((Int.toNat (p1 + 2 * v1_1 - (2 * v1_1))) + 1) v1_0 0 (2 * v1_1) v1_1).2.1) p1 (Q1b n0 p1 ((Int.toNat (p1 + 2 * v1_1 - (2 * v1_1))) + 1) v1_0 0 (2 * v1_1) v1_1 ho1_3)); have g0 := Q2a n0 p1 ((Int.toNat (p1 + 2 * v1_1 - (2 * v1_1))) + 1) v1_0 0 (2 * v1_1) v1_1 (by omega) (by omega) (by omega) (by omega) (by omega) (by omega) (by omega) ho1_3 (by omega); omega) (by have f0 := (Qb ((Int.toNat (p1 - (Qd n0 p1 ((Int.toNat (p1 + 2 * v1_1 - (2 * v1_1))) + 1) v1_0 0 (2 * v1_1) v1_1).2.2)) + 1) n0 (Qd n0 p1 ((Int.toNat (p1 + 2 * v1_1 - (2 * v1_1))) + 1) v1_0 0 (2 * v1_1) v1_1).1 (Qd n0 p1 ((Int.toNat (p1 + 2 * v1_1 - (2 * v1_1))) + 1) v1_0 0 (2 * v1_1) v1_1).2.2 ((Qd n0 p1 ((Int.toNat (p1 + 2 * v1_1 - (2 * v1_1))) + 1) v1_0 0 (2 * v1_1) v1_1).2.2 + (Qd n0 p1 ((Int.toNat (p1 + 2 * v1_1 - (2 * v1_1))) + 1) v1_0 0 (2 * v1_1) v1_1).2.1) p1 (Q1b n0 p1 ((Int.toNat (p1 + 2 * v1_1 - (2 * v1_1))) + 1) v1_0 0 (2 * v1_1) v1_1 ho1_3)); have g0 := Q2a n0 p1 ((Int.toNat (p1 + 2 * v1_1 - (2 * v1_1))) + 1) v1_0 0 (2 * v1_1) v1_1 (by omega) (by omega) (by omega) (by omega) (by omega) (by omega) (by omega) ho1_3 (by omega); omega) (by have f0 := (Qb ((Int.toNat (p1 - (Qd n0 p1 ((Int.toNat (p1 + 2 * v1_1 - (2 * v1_1))) + 1) v1_0 0 (2 * v1_1) v1_1).2.2)) + 1) n0 (Qd n0 p1 ((Int.toNat (p1 + 2 * v1_1 - (2 * v1_1))) + 1) v1_0 0 (2 * v1_1) v1_1).1 (Qd n0 p1 ((Int.toNat (p1 + 2 * v1_1 - (2 * v1_1))) + 1) v1_0 0 (2 * v1_1) v1_1).2.2 ((Qd n0 p1 ((Int.toNat (p1 + 2 * v1_1 - (2 * v1_1))) + 1) v1_0 0 (2 * v1_1) v1_1).2.2 + (Qd n0 p1 ((Int.toNat (p1 + 2 * v1_1 - (2 * v1_1))) + 1) v1_0 0 (2 * v1_1) v1_1).2.1) p1 (Q1b n0 p1 ((Int.toNat (p1 + 2 * v1_1 - (2 * v1_1))) + 1) v1_0 0 (2 * v1_1) v1_1 ho1_3)); have g0 := Q2a n0 p1 ((Int.toNat (p1 + 2 * v1_1 - (2 * v1_1))) + 1) v1_0 0 (2 * v1_1) v1_1 (by omega) (by omega) (by omega) (by omega) (by omega) (by omega) (by omega) ho1_3 (by omega); omega) (Qb ((Int.toNat (p1 - (Qd n0 p1 ((Int.toNat (p1 + 2 * v1_1 - (2 * v1_1))) + 1) v1_0 0 (2 * v1_1) v1_1).2.2)) + 1) n0 (Qd n0 p1 ((Int.toNat (p1 + 2 * v1_1 - (2 * v1_1))) + 1) v1_0 0 (2 * v1_1) v1_1).1 (Qd n0 p1 ((Int.toNat (p1 + 2 * v1_1 - (2 * v1_1))) + 1) v1_0 0 (2 * v1_1) v1_1).2.2 ((Qd n0 p1 ((Int.toNat (p1 + 2 * v1_1 - (2 * v1_1))) + 1) v1_0 0 (2 * v1_1) v1_1).2.2 + (Qd n0 p1 ((Int.toNat (p1 + 2 * v1_1 - (2 * v1_1))) + 1) v1_0 0 (2 * v1_1) v1_1).2.1) p1 (Q1b n0 p1 ((Int.toNat (p1 + 2 * v1_1 - (2 * v1_1))) + 1) v1_0 0 (2 * v1_1) v1_1 ho1_3)) (by have f0 := (Qb ((Int.toNat (p1 - (Qd n0 p1 ((Int.toNat (p1 + 2 * v1_1 - (2 * v1_1))) + 1) v1_0 0 (2 * v1_1) v1_1).2.2)) + 1) n0 (Qd n0 p1 ((Int.toNat (p1 + 2 * v1_1 - (2 * v1_1))) + 1) v1_0 0 (2 * v1_1) v1_1).1 (Qd n0 p1 ((Int.toNat (p1 + 2 * v1_1 - (2 * v1_1))) + 1) v1_0 0 (2 * v1_1) v1_1).2.2 ((Qd n0 p1 ((Int.toNat (p1 + 2 * v1_1 - (2 * v1_1))) + 1) v1_0 0 (2 * v1_1) v1_1).2.2 + (Qd n0 p1 ((Int.toNat (p1 + 2 * v1_1 - (2 * v1_1))) + 1) v1_0 0 (2 * v1_1) v1_1).2.1) p1 (Q1b n0 p1 ((Int.toNat (p1 + 2 * v1_1 - (2 * v1_1))) + 1) v1_0 0 (2 * v1_1) v1_1 ho1_3)); have g0 := Q2a n0 p1 ((Int.toNat (p1 + 2 * v1_1 - (2 * v1_1))) + 1) v1_0 0 (2 * v1_1) v1_1 (by omega) (by omega) (by omega) (by omega) (by omega) (by omega) (by omega) ho1_3 (by omega); omega))
   | false =>
    have e1 := of_decide_eq_false h1
    exact Q9c n0 p1 (fun r hr => Qug n0 p1 v1_0 v1_1 ho1_0 ho1_1 ho1_2 ho1_3 h0 z1 zo1 hl1 h1 hr) _ (Qff n0 p1 k1 (Qd n0 p1 ((Int.toNat (p1 + 2 * v1_1 - (2 * v1_1))) + 1) v1_0 0 (2 * v1_1) v1_1).1 ((Qd n0 p1 ((Int.toNat (p1 + 2 * v1_1 - (2 * v1_1))) + 1) v1_0 0 (2 * v1_1) v1_1).2.1 * 2) (by have f0 := (Q1b n0 p1 ((Int.toNat (p1 + 2 * v1_1 - (2 * v1_1))) + 1) v1_0 0 (2 * v1_1) v1_1 ho1_3); have g0 := Q2a n0 p1 ((Int.toNat (p1 + 2 * v1_1 - (2 * v1_1))) + 1) v1_0 0 (2 * v1_1) v1_1 (by omega) (by omega) (by omega) (by omega) (by omega) (by omega) (by omega) ho1_3 (by omega); omega) (by have f0 := (Q1b n0 p1 ((Int.toNat (p1 + 2 * v1_1 - (2 * v1_1))) + 1) v1_0 0 (2 * v1_1) v1_1 ho1_3); have g0 := Q2a n0 p1 ((Int.toNat (p1 + 2 * v1_1 - (2 * v1_1))) + 1) v1_0 0 (2 * v1_1) v1_1 (by omega) (by omega) (by omega) (by omega) (by omega) (by omega) (by omega) ho1_3 (by omega); omega) (by have f0 := (Q1b n0 p1 ((Int.toNat (p1 + 2 * v1_1 - (2 * v1_1))) + 1) v1_0 0 (2 * v1_1) v1_1 ho1_3); have g0 := Q2a n0 p1 ((Int.toNat (p1 + 2 * v1_1 - (2 * v1_1))) + 1) v1_0 0 (2 * v1_1) v1_1 (by omega) (by omega) (by omega) (by omega) (by omega) (by omega) (by omega) ho1_3 (by omega); omega) (Q1b n0 p1 ((Int.toNat (p1 + 2 * v1_1 - (2 * v1_1))) + 1) v1_0 0 (2 * v1_1) v1_1 ho1_3) (by have f0 := (Q1b n0 p1 ((Int.toNat (p1 + 2 * v1_1 - (2 * v1_1))) + 1) v1_0 0 (2 * v1_1) v1_1 ho1_3); have g0 := Q2a n0 p1 ((Int.toNat (p1 + 2 * v1_1 - (2 * v1_1))) + 1) v1_0 0 (2 * v1_1) v1_1 (by omega) (by omega) (by omega) (by omega) (by omega) (by omega) (by omega) ho1_3 (by omega); omega))
  | false =>
   exact Qwc n0 p1 v1_0 v1_1 ho1_0 ho1_1 ho1_2 ho1_3 h0
theorem Q5p (n0 : Nat) (p1 : Int) : ∀ (k1 : Nat) (v1_0 : List Fld) (v1_1 : Int), List.length v1_0 = n0 → List.length (Q2p n0 p1 k1 v1_0 v1_1) = n0
 | 0, v1_0, v1_1, ho1_3 => by rw [Q2p]; exact ho1_3
 | k1 + 1, v1_0, v1_1, ho1_3 => by
  rw [Q2p]
  cases h0 : (decide (v1_1 < p1)) with
  | true =>
   cases h1 : (decide (((Qd n0 p1 ((Int.toNat (p1 + 2 * v1_1 - (2 * v1_1))) + 1) v1_0 0 (2 * v1_1) v1_1).2.2 + (Qd n0 p1 ((Int.toNat (p1 + 2 * v1_1 - (2 * v1_1))) + 1) v1_0 0 (2 * v1_1) v1_1).2.1) < p1)) with
   | true =>
    exact Q5p n0 p1 k1 (Q6 ((Int.toNat (p1 - (Qd n0 p1 ((Int.toNat (p1 + 2 * v1_1 - (2 * v1_1))) + 1) v1_0 0 (2 * v1_1) v1_1).2.2)) + 1) n0 (Qd n0 p1 ((Int.toNat (p1 + 2 * v1_1 - (2 * v1_1))) + 1) v1_0 0 (2 * v1_1) v1_1).1 (Qd n0 p1 ((Int.toNat (p1 + 2 * v1_1 - (2 * v1_1))) + 1) v1_0 0 (2 * v1_1) v1_1).2.2 ((Qd n0 p1 ((Int.toNat (p1 + 2 * v1_1 - (2 * v1_1))) + 1) v1_0 0 (2 * v1_1) v1_1).2.2 + (Qd n0 p1 ((Int.toNat (p1 + 2 * v1_1 - (2 * v1_1))) + 1) v1_0 0 (2 * v1_1) v1_1).2.1) p1) ((Qd n0 p1 ((Int.toNat (p1 + 2 * v1_1 - (2 * v1_1))) + 1) v1_0 0 (2 * v1_1) v1_1).2.1 * 2) (Qb ((Int.toNat (p1 - (Qd n0 p1 ((Int.toNat (p1 + 2 * v1_1 - (2 * v1_1))) + 1) v1_0 0 (2 * v1_1) v1_1).2.2)) + 1) n0 (Qd n0 p1 ((Int.toNat (p1 + 2 * v1_1 - (2 * v1_1))) + 1) v1_0 0 (2 * v1_1) v1_1).1 (Qd n0 p1 ((Int.toNat (p1 + 2 * v1_1 - (2 * v1_1))) + 1) v1_0 0 (2 * v1_1) v1_1).2.2 ((Qd n0 p1 ((Int.toNat (p1 + 2 * v1_1 - (2 * v1_1))) + 1) v1_0 0 (2 * v1_1) v1_1).2.2 + (Qd n0 p1 ((Int.toNat (p1 + 2 * v1_1 - (2 * v1_1))) + 1) v1_0 0 (2 * v1_1) v1_1).2.1) p1 (Q1b n0 p1 ((Int.toNat (p1 + 2 * v1_1 - (2 * v1_1))) + 1) v1_0 0 (2 * v1_1) v1_1 ho1_3))
   | false =>
    exact Q5p n0 p1 k1 (Qd n0 p1 ((Int.toNat (p1 + 2 * v1_1 - (2 * v1_1))) + 1) v1_0 0 (2 * v1_1) v1_1).1 ((Qd n0 p1 ((Int.toNat (p1 + 2 * v1_1 - (2 * v1_1))) + 1) v1_0 0 (2 * v1_1) v1_1).2.1 * 2) (Q1b n0 p1 ((Int.toNat (p1 + 2 * v1_1 - (2 * v1_1))) + 1) v1_0 0 (2 * v1_1) v1_1 ho1_3)
  | false =>
   exact ho1_3
def Q3c (n0 : Nat) (p0 : List Fld) (p1 : Int) : List Fld :=
 (Q2p n0 p1 ((Int.toNat (p1 - 20)) + 1) (Q1c n0 (Q20 n0 p1 ((Int.toNat (p1 + 20 - 20)) + 1) p0 0 20).1 (Q20 n0 p1 ((Int.toNat (p1 + 20 - 20)) + 1) p0 0 20).2 p1) 20)
def Q10q (n0 : Nat) (p0 : List Fld) (p1 : Int) : En := .call 53 [.ms 0 6 0 n0, .int .i64 p1, .fn 43 [] []] [⟨6, 0, false, (Fld.rows p0).flatten⟩]
def Qq9 (n0 : Nat) (p0 : List Fld) (p1 : Int) : Rs := .ret (.tup []) [⟨6, 0, false, (Fld.rows (Q3c n0 p0 p1)).flatten⟩]
theorem Qq5 (n0 : Nat) (p0 : List Fld) (p1 : Int) (hn : List.length p0 = n0) : List.length (Q3c n0 p0 p1) = n0 := by
 unfold Q3c
 have hz0_0 : List.length (Q20 n0 p1 ((Int.toNat (p1 + 20 - 20)) + 1) p0 0 20).1 = n0 := Q7j n0 p1 ((Int.toNat (p1 + 20 - 20)) + 1) p0 0 20 hn
 obtain ⟨R8, eR8⟩ : ∃ R, (Q20 n0 p1 ((Int.toNat (p1 + 20 - 20)) + 1) p0 0 20) = R := ⟨_, rfl⟩
 rw [eR8] at hz0_0 ⊢
 have hz1_0 : List.length (Q2p n0 p1 ((Int.toNat (p1 - 20)) + 1) (Q1c n0 R8.1 R8.2 p1) 20) = n0 := Q5p n0 p1 ((Int.toNat (p1 - 20)) + 1) (Q1c n0 R8.1 R8.2 p1) 20 (Qt n0 R8.1 R8.2 p1 hz0_0)
 obtain ⟨R9, eR9⟩ : ∃ R, (Q2p n0 p1 ((Int.toNat (p1 - 20)) + 1) (Q1c n0 R8.1 R8.2 p1) 20) = R := ⟨_, rfl⟩
 rw [eR9] at hz1_0 ⊢
 exact hz1_0
theorem Qyv (n0 : Nat) (p0 : List Fld) (p1 : Int) (hn : List.length p0 = n0) (hq0 : 0 ≤ p1 ∧ p1 = n0 ∧ (n0 : Int) ≤ 1152921504606846976) : Q7 G (Q10q n0 p0 p1) (Qq9 n0 p0 p1) := by
 unfold Qq9 Q3c
 have hl0 := Qp6 n0 p1 ((Int.toNat (p1 + 20 - 20)) + 1) p0 0 20 (by omega) (by omega) (by omega) (by omega) (by omega) hn (by omega)
 have hz0_0 : List.length (Q20 n0 p1 ((Int.toNat (p1 + 20 - 20)) + 1) p0 0 20).1 = n0 := Q7j n0 p1 ((Int.toNat (p1 + 20 - 20)) + 1) p0 0 20 hn
 have hy0 : 0 ≤ (Q20 n0 p1 ((Int.toNat (p1 + 20 - 20)) + 1) p0 0 20).2 ∧ (Q20 n0 p1 ((Int.toNat (p1 + 20 - 20)) + 1) p0 0 20).2 ≤ n0 := Qmm n0 p1 ((Int.toNat (p1 + 20 - 20)) + 1) p0 0 20 (by omega) (by omega) (by omega) (by omega) (by omega) hn (by omega)
 obtain ⟨R8, eR8⟩ : ∃ R, (Q20 n0 p1 ((Int.toNat (p1 + 20 - 20)) + 1) p0 0 20) = R := ⟨_, rfl⟩
 rw [eR8] at hz0_0 hy0 hl0 ⊢
 obtain ⟨z0, zo0, hl0⟩ := hl0
 have hl1 := Qff n0 p1 ((Int.toNat (p1 - 20)) + 1) (Q1c n0 R8.1 R8.2 p1) 20 (by have f0 := (Qt n0 R8.1 R8.2 p1 hz0_0); have g0 := hy0; omega) (by have f0 := (Qt n0 R8.1 R8.2 p1 hz0_0); have g0 := hy0; omega) (by have f0 := (Qt n0 R8.1 R8.2 p1 hz0_0); have g0 := hy0; omega) (Qt n0 R8.1 R8.2 p1 hz0_0) (by omega)
 have hz1_0 : List.length (Q2p n0 p1 ((Int.toNat (p1 - 20)) + 1) (Q1c n0 R8.1 R8.2 p1) 20) = n0 := Q5p n0 p1 ((Int.toNat (p1 - 20)) + 1) (Q1c n0 R8.1 R8.2 p1) 20 (Qt n0 R8.1 R8.2 p1 hz0_0)
 obtain ⟨R9, eR9⟩ : ∃ R, (Q2p n0 p1 ((Int.toNat (p1 - 20)) + 1) (Q1c n0 R8.1 R8.2 p1) 20) = R := ⟨_, rfl⟩
 rw [eR9] at hz1_0 hl1 ⊢
 obtain ⟨z1, zo1, hl1⟩ := hl1
 exact Q9 (fn := Ir.K1d) rfl (vk1 (Fld.Q5 p0 6 rfl)) [hS 0 false (Fld.Q5 R8.1 6 rfl), hQ (Fld.Q5 (Q1c n0 R8.1 R8.2 p1) 6 rfl), hS 0 false (Fld.Q5 R9 6 rfl)] [aV [(0, Fld.rows R8.1)] hl0, aV [(0, Fld.rows (Q1c n0 R8.1 R8.2 p1))] (Qqh n0 R8.1 R8.2 p1 hz0_0 (by have g0 := hy0; omega)), aV [(0, Fld.rows R9)] hl1] (by kernel_rfl)
def Qk (n0 : Nat) (p0 : List Fld) : List Fld :=
 (Q3c n0 p0 (n0 : Int))
def Qyc (n0 : Nat) (p0 : List Fld) : En := .call 42 [.ms 0 6 0 n0, .fn 43 [] []] [⟨6, 0, false, (Fld.rows p0).flatten⟩]
def Qq0 (n0 : Nat) (p0 : List Fld) : Rs := .ret (.tup []) [⟨6, 0, false, (Fld.rows (Qk n0 p0)).flatten⟩]
theorem Q1j (n0 : Nat) (p0 : List Fld) (hn : List.length p0 = n0) : List.length (Qk n0 p0) = n0 := by
 unfold Qk
 exact (Qq5 n0 p0 (n0 : Int) hn)
theorem Q11q (n0 : Nat) (p0 : List Fld) (hn : List.length p0 = n0) (hq0 : (n0 : Int) ≤ 1152921504606846976) : Q7 G (Qyc n0 p0) (Qq0 n0 p0) := by
 unfold Qq0 Qk
 exact Q9 (fn := Ir.K1a) rfl (vk1 (Fld.Q5 p0 6 rfl)) [hQ (Fld.Q5 (Q3c n0 p0 (n0 : Int)) 6 rfl)] [aV [(0, Fld.rows (Q3c n0 p0 (n0 : Int)))] (Qyv n0 p0 (n0 : Int) hn (by omega))] (by kernel_rfl)
def Q25 (p0 : List Fld) : List Fld → Nat → (List Fld) → List Fld
 | [], _i0, v0_1 =>
  v0_1
 | x0 :: r0, i0, v0_1 =>
  bif (((i0 + 1 : Nat) : Int) == ((List.length p0) : Int)) then
   Q25 p0 r0 (i0 + 1) (v0_1 ++ [x0])
  else
   bif (sEq (List.getD (Qk (List.length p0) p0) (Int.toNat ((i0 + 1 : Nat) : Int)) zF).name x0.name) then
    Q25 p0 r0 (i0 + 1) v0_1
   else
    Q25 p0 r0 (i0 + 1) (v0_1 ++ [x0])
def Q95 (p0 : List Fld) (i0 : Nat) (_v0_1 : List Fld) : List PV :=
  [.un, .un, .bx 0 0, .ms 1 6 0 (List.length p0), .bx 2 0, .un, .un, .un, .un, .un, .un, .un, .ms 1 6 0 (List.length p0), .int .i64 ((List.length p0) : Int), .int .i64 (i0 : Int), .un, .un, .un, .un, .un, .un, .un, .un, .un, .un, .un, .un, .un, .un, .un, .un, .un, .un, .un, .un, .un, .un, .un, .un, .un, .un, .un, .un, .un]
def Q63 (p0 : List Fld) (_i0 : Nat) (v0_1 : List Fld) : List Ob :=
  [⟨5, 0, true, [.int .i64 0, .int .i64 0, .str (⟨#[]⟩ : ByteArray), .ms 3 5 0 0, .ms 4 6 0 0]⟩, ⟨6, 0, false, (Fld.rows (Qk (List.length p0) p0)).flatten⟩, ⟨5, 0, true, [.int .i64 5, .int .i64 0, .str (⟨#[]⟩ : ByteArray), .ms 5 5 0 0, .ms 6 6 0 (List.length v0_1)]⟩, ⟨5, 0, true, []⟩, ⟨6, 0, true, []⟩, ⟨5, 0, true, []⟩, ⟨6, 0, true, (Fld.rows v0_1).flatten⟩]
def Q4p (p0 : List Fld) (i0 : Nat) (v0_1 : List Fld) : En := .loop 0 Ir.Qcn Ir.Q13c (Q95 p0 i0 v0_1) (Q63 p0 i0 v0_1)
def Qjt (p0 : List Fld) (q0 : List Fld) (z : Nat → PV) (_zo : Nat → List PV) : St :=
  ⟨[z 0, z 1, .bx 0 0, z 3, .bx 2 0, z 5, z 6, z 7, z 8, z 9, z 10, z 11, z 12, z 13, z 14, z 15, z 16, z 17, z 18, z 19, z 20, z 21, z 22, z 23, z 24, z 25, z 26, z 27, z 28, z 29, z 30, z 31, z 32, z 33, z 34, z 35, z 36, z 37, z 38, z 39, z 40, z 41, z 42, z 43], [(0, ⟨5, 0, true, [.int .i64 0, .int .i64 0, .str (⟨#[]⟩ : ByteArray), .ms 3 5 0 0, .ms 4 6 0 0]⟩), (1, ⟨6, 0, false, (Fld.rows (Qk (List.length p0) p0)).flatten⟩), (2, ⟨5, 0, true, [.int .i64 5, .int .i64 0, .str (⟨#[]⟩ : ByteArray), .ms 5 5 0 0, .ms 6 6 0 (List.length q0)]⟩), (3, ⟨5, 0, true, []⟩), (4, ⟨6, 0, true, []⟩), (5, ⟨5, 0, true, []⟩), (6, ⟨6, 0, true, (Fld.rows q0).flatten⟩)], 71⟩
theorem Qb9 (p0 : List Fld) (i0 : Nat) (v0_1 : List Fld) : VOK (Go.Pv.look (number 0 (Q63 p0 i0 v0_1))) [(1, Fld.rows (Qk (List.length p0) p0)), (6, Fld.rows v0_1)] := (VOK.cons (show Seen _ _ from Q3r (ob := ⟨6, 0, false, (Fld.rows (Qk (List.length p0) p0)).flatten⟩) (Fld.Q5 (Qk (List.length p0) p0) 6 rfl)) (VOK.cons (show Seen _ _ from Q3r (ob := ⟨6, 0, true, (Fld.rows v0_1).flatten⟩) (Fld.Q5 v0_1 6 rfl)) VOK.nil))
def Qay (p0 : List Fld) (e : En) (q : List Fld) : Prop := ∃ z zo, Q7 G e (.st (.exit 0) (Qjt p0 q z zo))
theorem Q5q (p0 : List Fld) {e e' : En} (h : ∀ r, Q7 G e r → Q7 G e' r) : ∀ q, Qay p0 e q → Qay p0 e' q
  | _, ⟨z, zo, hz⟩ => ⟨z, zo, h _ hz⟩
def Q73 (p0 : List Fld) : Prop := (List.length (Qk (List.length p0) p0) ≤ 137438953472) ∧ True
def Qgg (p0 : List Fld) (i0 : Nat) (_v0_1 : List Fld) : List PV :=
  [.un, .un, .un, .ms 1 6 0 (List.length p0), .un, .un, .un, .un, .un, .un, .un, .un, .ms 1 6 0 (List.length p0), .int .i64 ((List.length p0) : Int), .int .i64 (i0 : Int), .bool false]
def Qfn (_p0 : List Fld) (_i0 : Nat) (_v0_1 : List Fld) : List (Nat × List PV) :=
  []
theorem Qvx (p0 : List Fld) (_H : Q73 p0) (i0 : Nat) (v0_1 : List Fld) (_ho0_0 : List.length v0_1 ≤ i0) (hc0 : (decide ((i0 : Int) < ((List.length p0) : Int))) = false) : Qay p0 (Q4p p0 i0 v0_1) v0_1 := by
 exact ⟨(envF (Qgg p0 i0 v0_1)), (zoF (Qfn p0 i0 v0_1)), Qe (Qb9 p0 i0 v0_1) (x := ((.exit 0), Qjt p0 v0_1 (envF (Qgg p0 i0 v0_1)) (zoF (Qfn p0 i0 v0_1)))) [hB 0 hc0] [] (by kernel_rfl)⟩
theorem Qut (p0 : List Fld) (H : Q73 p0) (x0 : Fld) (i0 : Nat) (v0_1 : List Fld) (hx0 : (Qk (List.length p0) p0)[i0]? = some x0) (hi0 : i0 < List.length (Qk (List.length p0) p0)) (ho0_0 : List.length v0_1 ≤ i0) (hc0 : (decide ((i0 : Int) < ((List.length p0) : Int))) = true) (h0 : (((i0 + 1 : Nat) : Int) == ((List.length p0) : Int)) = true) {r : Rs} (hr : Q7 G (Q4p p0 (i0 + 1) (v0_1 ++ [x0])) r) : Q7 G (Q4p p0 i0 v0_1) r := by
 have hB0 := H.1; have e0 := eq_of_beq h0
 exact Q8 (Qb9 p0 i0 v0_1) (y := (Q95 p0 (i0 + 1) (v0_1 ++ [x0]), Q63 p0 (i0 + 1) (v0_1 ++ [x0]))) [hB 0 hc0, hP 1 (Q1l 1 6 (List.length p0) (i0 : Int) i0 (by omega) (by have f1 := (Q1j (List.length p0) p0 rfl); omega) (by have f1 := (Q1j (List.length p0) p0 rfl); omega)), hP 0 (Q30 1 6 0 false ((Fld.rows (Qk (List.length p0) p0)).flatten) (Fld.rows (Qk (List.length p0) p0)) 6 true i0 0 (i0 * 6) (Fld.cells x0) (.agg [.str x0.name, .int .i64 x0.v.kind, .int .i64 x0.v.n, .str x0.v.s, .sl (Val.rows x0.v.list), .sl (Fld.rows x0.v.fields)]) rfl rfl (Fld.Qf hx0) (Fld.Ql (Qk (List.length p0) p0)) (by decide) rfl), hP 4 (Qs i0 (by omega)), hB 2 h0, hV 15 [(1735, Fld.rows (v0_1 ++ [x0]))] (Qc9 6 1671 1735 6 96 0 0 true (Fld.rows v0_1) (Fld.rows (v0_1 ++ [x0])) (Fld.cells x0) (List.length v0_1) (List.length (v0_1 ++ [x0])) rfl (Fld.Qc v0_1).symm (Fld.Qc (v0_1 ++ [x0])).symm (Fld.Q2n v0_1 x0) (Fld.Ql v0_1) rfl (by omega)), hS 0 true (Fld.Q5 (v0_1 ++ [x0]) 6 rfl), hP 2 (Qs i0 (by omega))] [] (by kernel_rfl) hr
theorem Qva (p0 : List Fld) (H : Q73 p0) (x0 : Fld) (i0 : Nat) (v0_1 : List Fld) (hx0 : (Qk (List.length p0) p0)[i0]? = some x0) (hi0 : i0 < List.length (Qk (List.length p0) p0)) (_ho0_0 : List.length v0_1 ≤ i0) (hc0 : (decide ((i0 : Int) < ((List.length p0) : Int))) = true) (h0 : (((i0 + 1 : Nat) : Int) == ((List.length p0) : Int)) = false) (h1 : (sEq (List.getD (Qk (List.length p0) p0) (Int.toNat ((i0 + 1 : Nat) : Int)) zF).name x0.name) = true) {r : Rs} (hr : Q7 G (Q4p p0 (i0 + 1) v0_1) r) : Q7 G (Q4p p0 i0 v0_1) r := by
 have hB0 := H.1; have e0 := beq_eq_false_iff_ne.1 h0
 exact Q8 (Qb9 p0 i0 v0_1) (y := (Q95 p0 (i0 + 1) v0_1, Q63 p0 (i0 + 1) v0_1)) [hB 0 hc0, hP 1 (Q1l 1 6 (List.length p0) (i0 : Int) i0 (by omega) (by have f1 := (Q1j (List.length p0) p0 rfl); omega) (by have f1 := (Q1j (List.length p0) p0 rfl); omega)), hP 0 (Q30 1 6 0 false ((Fld.rows (Qk (List.length p0) p0)).flatten) (Fld.rows (Qk (List.length p0) p0)) 6 true i0 0 (i0 * 6) (Fld.cells x0) (.agg [.str x0.name, .int .i64 x0.v.kind, .int .i64 x0.v.n, .str x0.v.s, .sl (Val.rows x0.v.list), .sl (Fld.rows x0.v.fields)]) rfl rfl (Fld.Qf hx0) (Fld.Ql (Qk (List.length p0) p0)) (by decide) rfl), hP 4 (Qs i0 (by omega)), hB 2 h0, hP 3 (Qs i0 (by omega)), hP 0 (Q1l 1 6 (List.length p0) ((i0 + 1 : Nat) : Int) (Int.toNat ((i0 + 1 : Nat) : Int)) rfl (by have f1 := (Q1j (List.length p0) p0 rfl); omega) (by have f1 := (Q1j (List.length p0) p0 rfl); omega)), hP 1 (Q30 1 6 0 false ((Fld.rows (Qk (List.length p0) p0)).flatten) (Fld.rows (Qk (List.length p0) p0)) 1 false (Int.toNat ((i0 + 1 : Nat) : Int)) 0 ((Int.toNat ((i0 + 1 : Nat) : Int)) * 6) (Fld.cells (List.getD (Qk (List.length p0) p0) (Int.toNat ((i0 + 1 : Nat) : Int)) zF)) (.str (List.getD (Qk (List.length p0) p0) (Int.toNat ((i0 + 1 : Nat) : Int)) zF).name) rfl rfl (Fld.Qf (Qv (Qk (List.length p0) p0) (Int.toNat ((i0 + 1 : Nat) : Int)) zF (by have f1 := (Q1j (List.length p0) p0 rfl); omega))) (Fld.Ql (Qk (List.length p0) p0)) (by decide) rfl), hP 2 (dec (!(sEq (List.getD (Qk (List.length p0) p0) (Int.toNat ((i0 + 1 : Nat) : Int)) zF).name x0.name)) false (by rw [h1]; rfl)), hP 1 (Qs i0 (by omega))] [] (by kernel_rfl) hr
theorem Qud (p0 : List Fld) (H : Q73 p0) (x0 : Fld) (i0 : Nat) (v0_1 : List Fld) (hx0 : (Qk (List.length p0) p0)[i0]? = some x0) (hi0 : i0 < List.length (Qk (List.length p0) p0)) (ho0_0 : List.length v0_1 ≤ i0) (hc0 : (decide ((i0 : Int) < ((List.length p0) : Int))) = true) (h0 : (((i0 + 1 : Nat) : Int) == ((List.length p0) : Int)) = false) (h1 : (sEq (List.getD (Qk (List.length p0) p0) (Int.toNat ((i0 + 1 : Nat) : Int)) zF).name x0.name) = false) {r : Rs} (hr : Q7 G (Q4p p0 (i0 + 1) (v0_1 ++ [x0])) r) : Q7 G (Q4p p0 i0 v0_1) r := by
 have hB0 := H.1; have e0 := beq_eq_false_iff_ne.1 h0
 exact Q8 (Qb9 p0 i0 v0_1) (y := (Q95 p0 (i0 + 1) (v0_1 ++ [x0]), Q63 p0 (i0 + 1) (v0_1 ++ [x0]))) [hB 0 hc0, hP 1 (Q1l 1 6 (List.length p0) (i0 : Int) i0 (by omega) (by have f1 := (Q1j (List.length p0) p0 rfl); omega) (by have f1 := (Q1j (List.length p0) p0 rfl); omega)), hP 0 (Q30 1 6 0 false ((Fld.rows (Qk (List.length p0) p0)).flatten) (Fld.rows (Qk (List.length p0) p0)) 6 true i0 0 (i0 * 6) (Fld.cells x0) (.agg [.str x0.name, .int .i64 x0.v.kind, .int .i64 x0.v.n, .str x0.v.s, .sl (Val.rows x0.v.list), .sl (Fld.rows x0.v.fields)]) rfl rfl (Fld.Qf hx0) (Fld.Ql (Qk (List.length p0) p0)) (by decide) rfl), hP 4 (Qs i0 (by omega)), hB 2 h0, hP 3 (Qs i0 (by omega)), hP 0 (Q1l 1 6 (List.length p0) ((i0 + 1 : Nat) : Int) (Int.toNat ((i0 + 1 : Nat) : Int)) rfl (by have f1 := (Q1j (List.length p0) p0 rfl); omega) (by have f1 := (Q1j (List.length p0) p0 rfl); omega)), hP 1 (Q30 1 6 0 false ((Fld.rows (Qk (List.length p0) p0)).flatten) (Fld.rows (Qk (List.length p0) p0)) 1 false (Int.toNat ((i0 + 1 : Nat) : Int)) 0 ((Int.toNat ((i0 + 1 : Nat) : Int)) * 6) (Fld.cells (List.getD (Qk (List.length p0) p0) (Int.toNat ((i0 + 1 : Nat) : Int)) zF)) (.str (List.getD (Qk (List.length p0) p0) (Int.toNat ((i0 + 1 : Nat) : Int)) zF).name) rfl rfl (Fld.Qf (Qv (Qk (List.length p0) p0) (Int.toNat ((i0 + 1 : Nat) : Int)) zF (by have f1 := (Q1j (List.length p0) p0 rfl); omega))) (Fld.Ql (Qk (List.length p0) p0)) (by decide) rfl), hP 2 (dec (!(sEq (List.getD (Qk (List.length p0) p0) (Int.toNat ((i0 + 1 : Nat) : Int)) zF).name x0.name)) true (by rw [h1]; rfl)), hV 5 [(1735, Fld.rows (v0_1 ++ [x0]))] (Qc9 6 1671 1735 6 96 0 0 true (Fld.rows v0_1) (Fld.rows (v0_1 ++ [x0])) (Fld.cells x0) (List.length v0_1) (List.length (v0_1 ++ [x0])) rfl (Fld.Qc v0_1).symm (Fld.Qc (v0_1 ++ [x0])).symm (Fld.Q2n v0_1 x0) (Fld.Ql v0_1) rfl (by omega)), hS 0 true (Fld.Q5 (v0_1 ++ [x0]) 6 rfl), hP 2 (Qs i0 (by omega))] [] (by kernel_rfl) hr
theorem Q96 (p0 : List Fld) (H : Q73 p0) : ∀ (r0 : List Fld) (i0 : Nat) (v0_1 : List Fld), List.drop i0 (Qk (List.length p0) p0) = r0 → List.length v0_1 ≤ i0 → Qay p0 (Q4p p0 i0 v0_1) (Q25 p0 r0 i0 v0_1)
 | [], i0, v0_1, hd, ho0_0 => by
  have hc0 : (decide ((i0 : Int) < ((List.length p0) : Int))) = false := by have hL := (Q1j (List.length p0) p0 rfl); have := Q1i hd; simp; omega
  rw [Q25]
  exact Qvx p0 H i0 v0_1 ho0_0 hc0
 | x0 :: r0, i0, v0_1, hd, ho0_0 => by
  obtain ⟨hx0, hi0, hd'⟩ := Q17 hd
  have hc0 : (decide ((i0 : Int) < ((List.length p0) : Int))) = true := by have hL := (Q1j (List.length p0) p0 rfl); simp; omega
  rw [Q25]
  cases h0 : (((i0 + 1 : Nat) : Int) == ((List.length p0) : Int)) with
  | true =>
   have e0 := eq_of_beq h0
   exact Q5q p0 (fun r hr => Qut p0 H x0 i0 v0_1 hx0 hi0 ho0_0 hc0 h0 hr) _ (Q96 p0 H r0 (i0 + 1) (v0_1 ++ [x0]) hd' (by first | omega | (simp; omega)))
  | false =>
   have e0 := beq_eq_false_iff_ne.1 h0
   cases h1 : (sEq (List.getD (Qk (List.length p0) p0) (Int.toNat ((i0 + 1 : Nat) : Int)) zF).name x0.name) with
   | true =>
    exact Q5q p0 (fun r hr => Qva p0 H x0 i0 v0_1 hx0 hi0 ho0_0 hc0 h0 h1 hr) _ (Q96 p0 H r0 (i0 + 1) v0_1 hd' (by first | omega | (simp; omega)))
   | false =>
    exact Q5q p0 (fun r hr => Qud p0 H x0 i0 v0_1 hx0 hi0 ho0_0 hc0 h0 h1 hr) _ (Q96 p0 H r0 (i0 + 1) (v0_1 ++ [x0]) hd' (by first | omega | (simp; omega)))
def Qgc (p0 : List Fld) : Val :=
 (Val.mk 5 0 (⟨#[]⟩ : ByteArray) [] (Q25 p0 (Qk (List.length p0) p0) 0 []))
def Q19d (p0 : List Fld) : En := .call 27 [.sl (Fld.rows p0)] []
def Q158 (p0 : List Fld) : Rs := .ret (.agg (Val.cells (Qgc p0))) []
def Qu4 (p0 : List Fld) : Prop := (List.length p0 * 96 ≤ 140737488355328) ∧ (((List.length p0) : Int) ≤ 1152921504606846976) ∧ (Q73 p0) ∧ (Qdr (Val.mk 5 0 (⟨#[]⟩ : ByteArray) [] (Q25 p0 (Qk (List.length p0) p0) 0 []))) ∧ True
theorem Q12b (p0 : List Fld) (H : Qu4 p0) : Q7 G (Q19d p0) (Q158 p0) := by
 unfold Q158 Qgc
 have hl0 := Q96 p0 (H.2.2.1) (Qk (List.length p0) p0) 0 [] (by simp) (by simp)
 obtain ⟨z0, zo0, hl0⟩ := hl0
 exact Q9 (fn := Ir.K1m) rfl VOK.nil [hQ (Fld.Q5 p0 6 rfl), hQ (Fld.Q5 (Qk (List.length p0) p0) 6 rfl), hS 0 false (Fld.Q5 (Qk (List.length p0) p0) 6 rfl), hS 0 true (Fld.Q5 (Q25 p0 (Qk (List.length p0) p0) 0 []) 6 rfl), hQ (Fld.Qc (Q25 p0 (Qk (List.length p0) p0) 0 [])).symm] [aV [(0, Fld.rows p0)] (Q5u (G := G) (f := 41) (sz := 6) (bytes := 96) rfl (Fld.Qc p0) (Fld.Q5 p0 6 rfl) H.1), aV [(0, Fld.rows (Qk (List.length p0) p0))] (Q11q (List.length p0) p0 rfl (H.2.1)), aV [(1, Fld.rows (Qk (List.length p0) p0)), (6, Fld.rows (Q25 p0 (Qk (List.length p0) p0) 0 []))] hl0, aN (Q12c (Val.mk 5 0 (⟨#[]⟩ : ByteArray) [] (Q25 p0 (Qk (List.length p0) p0) 0 [])) H.2.2.2.1)] (by kernel_rfl)
end Go.Proofs.Ytnhhddbbppbblaa
end

section
/- The library's stable sort as plain functions on lists, and what it answers: the stably sorted list. Program-free. -/
namespace Go.Pv.Srt
section
variable {α : Type} (z : α) (c : α → α → Int)
def gt (d : List α) (i : Int) : α := d.getD i.toNat z
def sw (d : List α) (i j : Int) : List α := (d.set i.toNat (gt z d j)).set j.toNat (gt z d i)
def ins1 (a : Int) : Nat → List α → Int → List α
  | 0, v, _ => v
  | k + 1, v, j => bif decide (a < j) then (bif decide (c (gt z v j) (gt z v (j - 1)) < 0) then ins1 a k (sw z v j (j - 1)) (j - 1) else v) else v
def ins0 (a b : Int) : Nat → Int → List α → List α
  | 0, _, v => v
  | k + 1, i, v => bif decide (i < b) then ins0 a b k (i + 1) (ins1 z c a (i.toNat + 1) v i) else v
def ins (d : List α) (a b : Int) : List α := ins0 z c a b ((b - (a + 1)).toNat + 1) (a + 1) d
def swr1 (p q n : Int) : Nat → List α → Int → List α
  | 0, v, _ => v
  | k + 1, v, i => bif decide (i < n) then swr1 p q n k (sw z v (p + i) (q + i)) (i + 1) else v
def swr (d : List α) (p q n : Int) : List α := swr1 z p q n ((n - 0).toNat + 1) d 0
def rot1 (m : Int) : Nat → Int → Int → List α → List α × Int
  | 0, i, _, v => (v, i)
  | k + 1, i, j, v => bif i == j then (v, i) else bif decide (j < i) then rot1 m k (i - j) j (swr z v (m - i) m j) else rot1 m k i (j - i) (swr z v (m - i) ((m + j) - i) i)
def rot (d : List α) (a m b : Int) : List α :=
  let r := rot1 z m (((m - a) + (b - m)).toNat + 1) (m - a) (b - m) d
  swr z r.1 (m - r.2) m r.2
theorem Q77 {d A C : List α} {x : α} {i : Int} (hd : d = A ++ x :: C) (hi : i = (A.length : Int)) : gt z d i = x := by
  subst hd hi
  simp [gt]
theorem Qsw {A C : List α} {x y : α} {i : Int} (hi : i = (A.length : Int)) : (A ++ x :: C).set i.toNat y = A ++ y :: C := by
  subst hi
  simp
theorem Q16o {A M C : List α} {x y : α} {i j : Int} (hi : i = (A.length : Int)) (hj : j = (A.length : Int) + 1 + (M.length : Int)) : sw z (A ++ x :: (M ++ y :: C)) i j = A ++ y :: (M ++ x :: C) := by
  have e1 : gt z (A ++ x :: (M ++ y :: C)) i = x := Q77 z rfl hi
  have e2 : gt z (A ++ x :: (M ++ y :: C)) j = y := Q77 z (A := A ++ x :: M) (C := C) (by simp) (by simp; omega)
  unfold sw
  rw [e1, e2, Qsw hi]
  have e3 : A ++ y :: (M ++ y :: C) = (A ++ y :: M) ++ y :: C := by simp
  rw [e3, Qsw (A := A ++ y :: M) (by simp; omega)]
  simp
theorem Qyk {A M C : List α} {x y : α} {i j : Int} (hi : i = (A.length : Int)) (hj : j = (A.length : Int) + 1 + (M.length : Int)) : sw z (A ++ x :: (M ++ y :: C)) j i = A ++ y :: (M ++ x :: C) := by
  have e1 : gt z (A ++ x :: (M ++ y :: C)) i = x := Q77 z rfl hi
  have e2 : gt z (A ++ x :: (M ++ y :: C)) j = y := Q77 z (A := A ++ x :: M) (C := C) (by simp) (by simp; omega)
  unfold sw
  rw [e1, e2]
  have e3 : A ++ x :: (M ++ y :: C) = (A ++ x :: M) ++ y :: C := by simp
  rw [e3, Qsw (A := A ++ x :: M) (by simp; omega)]
  have e4 : (A ++ x :: M) ++ x :: C = A ++ x :: (M ++ x :: C) := by simp
  rw [e4, Qsw hi]
def insR (x : α) : List α → List α
  | [] => [x]
  | s :: t => bif decide (c x s < 0) then s :: insR x t else x :: s :: t
def Q5z (l : List α) : List α := (l.foldl (fun r x => insR c x r) []).reverse
theorem Qmu (a : Int) (A : List α) (x : α) (ha : a = (A.length : Int)) : ∀ (R C : List α) (k : Nat) (j : Int), j = (A.length : Int) + (R.length : Int) → R.length < k → ins1 z c a k (A ++ (R.reverse ++ x :: C)) j = A ++ ((insR c x R).reverse ++ C)
  | _, _, 0, _, _, h => absurd h (Nat.not_lt_zero _)
  | [], C, k + 1, j, hj, _ => by
    rw [ins1, show decide (a < j) = false by simp at hj ⊢; omega]
    simp [insR]
  | s :: t, C, k + 1, j, hj, hk => by
    simp only [List.length_cons] at hj hk
    have e0 : A ++ ((s :: t).reverse ++ x :: C) = (A ++ t.reverse) ++ s :: ([] ++ x :: C) := by simp
    rw [ins1, show decide (a < j) = true by simp; omega, cond_true, e0]
    have e1 : gt z ((A ++ t.reverse) ++ s :: ([] ++ x :: C)) j = x := Q77 z (A := A ++ t.reverse ++ [s]) (C := C) (by simp) (by simp; omega)
    have e2 : gt z ((A ++ t.reverse) ++ s :: ([] ++ x :: C)) (j - 1) = s := Q77 z (A := A ++ t.reverse) rfl (by simp; omega)
    rw [e1, e2, insR]
    cases decide (c x s < 0) with
    | true =>
      rw [cond_true, cond_true, Qyk z (by simp; omega) (by simp; omega)]
      have e3 : (A ++ t.reverse) ++ x :: ([] ++ s :: C) = A ++ (t.reverse ++ x :: (s :: C)) := by simp
      rw [e3, Qmu a A x ha t (s :: C) k (j - 1) (by omega) (by omega)]
      simp
    | false => simp
theorem Qmn (a b : Int) (A : List α) (ha : a = (A.length : Int)) : ∀ (M R C : List α) (k : Nat) (i : Int), i = (A.length : Int) + (R.length : Int) → b = i + (M.length : Int) → M.length < k →
    ins0 z c a b k i (A ++ (R.reverse ++ (M ++ C))) = A ++ ((M.foldl (fun r x => insR c x r) R).reverse ++ C)
  | _, _, _, 0, _, _, _, h => absurd h (Nat.not_lt_zero _)
  | [], R, C, k + 1, i, hi, hb, _ => by
    rw [ins0, show decide (i < b) = false by simp at hb ⊢; omega]
    simp
  | x :: M, R, C, k + 1, i, hi, hb, hk => by
    simp only [List.length_cons] at hb hk
    rw [ins0, show decide (i < b) = true by simp; omega, cond_true, List.cons_append, Qmu z c a A x ha R (M ++ C) _ i hi (by omega)]
    have hl : (insR c x R).length = R.length + 1 := by
      clear hi hb hk
      induction R with
      | nil => rfl
      | cons s t ih => rw [insR]; cases decide (c x s < 0) <;> simp [ih]
    rw [Qmn a b A ha M (insR c x R) C k (i + 1) (by omega) (by omega) (by omega)]
    rfl
theorem Qsq {d A M C : List α} {a b : Int} (hd : d = A ++ (M ++ C)) (ha : a = (A.length : Int)) (hb : b = a + (M.length : Int)) : ins z c d a b = A ++ (Q5z c M ++ C) := by
  subst hd
  unfold ins Q5z
  cases M with
  | nil =>
    simp only [List.length_nil, Int.ofNat_zero] at hb
    rw [ins0, show decide (a + 1 < b) = false by simp; omega]
    rfl
  | cons x M =>
    simp only [List.length_cons] at hb
    have e : A ++ (x :: M ++ C) = A ++ ([x].reverse ++ (M ++ C)) := by simp
    rw [e, Qmn z c a b A ha M [x] C _ _ (by simp; omega) (by omega) (by omega)]
    rfl
theorem Qmz (p q n : Int) (C : List α) : ∀ (X Y A M : List α) (k : Nat) (i : Int), X.length = Y.length → p + i = (A.length : Int) → q + i = (A.length : Int) + (X.length : Int) + (M.length : Int) → n = i + (X.length : Int) → X.length < k →
    swr1 z p q n k (A ++ (X ++ (M ++ (Y ++ C)))) i = A ++ (Y ++ (M ++ (X ++ C)))
  | _, _, _, _, 0, _, _, _, _, _, h => absurd h (Nat.not_lt_zero _)
  | [], [], A, M, k + 1, i, _, _, _, hn, _ => by
    rw [swr1, show decide (i < n) = false by simp at hn ⊢; omega]
    rfl
  | [], _ :: _, _, _, _, _, h, _, _, _, _ => by simp at h
  | _ :: _, [], _, _, _, _, h, _, _, _, _ => by simp at h
  | x :: X, y :: Y, A, M, k + 1, i, h, hp, hq, hn, hk => by
    simp only [List.length_cons] at h hq hn hk
    rw [swr1, show decide (i < n) = true by simp; omega, cond_true]
    have e : A ++ (x :: X ++ (M ++ (y :: Y ++ C))) = A ++ x :: ((X ++ M) ++ y :: (Y ++ C)) := by simp
    rw [e, Q16o z hp (by simp; omega)]
    have e2 : A ++ y :: ((X ++ M) ++ x :: (Y ++ C)) = (A ++ [y]) ++ (X ++ ((M ++ [x]) ++ (Y ++ C))) := by simp
    rw [e2, Qmz p q n C X Y (A ++ [y]) (M ++ [x]) k (i + 1) (by omega) (by simp; omega) (by simp; omega) (by omega) (by omega)]
    simp
theorem Qm7 {d A X M Y C : List α} {p q n : Int} (hd : d = A ++ (X ++ (M ++ (Y ++ C)))) (h : X.length = Y.length) (hp : p = (A.length : Int)) (hq : q = (A.length : Int) + (X.length : Int) + (M.length : Int)) (hn : n = (X.length : Int)) : swr z d p q n = A ++ (Y ++ (M ++ (X ++ C))) := by
  subst hd
  unfold swr
  exact Qmz z p q n C X Y A M _ 0 h (by omega) (by omega) (by omega) (by omega)
theorem Qeo (m : Int) (W : List α) : ∀ (k : Nat) (A U V C : List α) (i j : Int), i = (U.length : Int) → j = (V.length : Int) → 0 < U.length → 0 < V.length → m = (A.length : Int) + (U.length : Int) → U.length + V.length < k → W = A ++ (V ++ (U ++ C)) →
    swr z (rot1 z m k i j (A ++ (U ++ (V ++ C)))).1 (m - (rot1 z m k i j (A ++ (U ++ (V ++ C)))).2) m (rot1 z m k i j (A ++ (U ++ (V ++ C)))).2 = W
  | 0, _, _, _, _, _, _, _, _, _, _, _, h, _ => absurd h (Nat.not_lt_zero _)
  | k + 1, A, U, V, C, i, j, hi, hj, hU, hV, hm, hk, hW => by
    rw [rot1]
    by_cases h1 : i = j
    · rw [show (i == j) = true by simpa using h1]
      simp only [cond_true]
      rw [Qm7 z (A := A) (X := U) (M := []) (Y := V) (C := C) (by simp) (by omega) (by omega) (by simp; omega) (by omega), hW]
      rfl
    · rw [show (i == j) = false by simpa using h1]
      simp only [cond_false]
      by_cases h2 : j < i
      · rw [show decide (j < i) = true by simpa using h2]
        simp only [cond_true]
        have hs : U = U.take V.length ++ U.drop V.length := (List.take_append_drop _ _).symm
        have l1 : (U.take V.length).length = V.length := by simp; omega
        have l2 : (U.drop V.length).length = U.length - V.length := by simp
        rw [Qm7 z (d := A ++ (U ++ (V ++ C))) (A := A) (X := U.take V.length) (M := U.drop V.length) (Y := V) (C := C) (by rw [← List.append_assoc (U.take _), List.take_append_drop]) (by omega) (by omega) (by rw [l1, l2]; omega) (by omega)]
        have e : A ++ (V ++ (U.drop V.length ++ (U.take V.length ++ C))) = (A ++ V) ++ (U.drop V.length ++ (U.take V.length ++ C)) := by simp
        rw [e]
        exact Qeo m W k (A ++ V) (U.drop V.length) (U.take V.length) C (i - j) j (by omega) (by omega) (by omega) (by omega) (by rw [l2]; simp; omega) (by omega) (by rw [hW, ← List.append_assoc (U.take _), List.take_append_drop]; simp)
      · rw [show decide (j < i) = false by simpa using h2]
        simp only [cond_false]
        have l1 : (V.take (V.length - U.length)).length = V.length - U.length := by simp
        have l2 : (V.drop (V.length - U.length)).length = U.length := by simp; omega
        rw [Qm7 z (d := A ++ (U ++ (V ++ C))) (A := A) (X := U) (M := V.take (V.length - U.length)) (Y := V.drop (V.length - U.length)) (C := C) (by rw [← List.append_assoc (V.take _), List.take_append_drop]) (by omega) (by omega) (by rw [l1]; omega) (by omega)]
        exact Qeo m W k A (V.drop (V.length - U.length)) (V.take (V.length - U.length)) (U ++ C) i (j - i) (by omega) (by omega) (by omega) (by omega) (by omega) (by omega) (by rw [hW, ← List.append_assoc (V.take _), List.take_append_drop])
theorem Q12s {d A U V C : List α} {a m b : Int} (hd : d = A ++ (U ++ (V ++ C))) (ha : a = (A.length : Int)) (hm : m = a + (U.length : Int)) (hb : b = m + (V.length : Int)) (hU : 0 < U.length) (hV : 0 < V.length) : rot z d a m b = A ++ (V ++ (U ++ C)) := by
  subst hd
  unfold rot
  exact Qeo z m _ _ A U V C (m - a) (b - m) (by omega) (by omega) hU hV (by omega) (by omega) rfl
end
end Go.Pv.Srt
end

section
/- The library's stable sort: its merging, and that it answers the stably sorted list. Program-free. -/
namespace Go.Pv.Srt
section
variable {α : Type} (z : α) (c : α → α → Int)
structure Tot : Prop where
  asym : ∀ x y, c x y < 0 → ¬ c y x < 0
  tr : ∀ x y w, ¬ c y x < 0 → ¬ c w y < 0 → ¬ c w x < 0
def le (x y : α) : Prop := ¬ c y x < 0
def Up (l : List α) : Prop := l.Pairwise (le c)
def eqv (x y : α) : Bool := decide (¬ c x y < 0) && decide (¬ c y x < 0)
def F (l r : List α) : Prop := l.length = r.length ∧ ∀ x, l.filter (eqv c x) = r.filter (eqv c x)
variable {c}
theorem F.rfl {l : List α} : F c l l := ⟨Eq.refl _, fun _ => Eq.refl _⟩
theorem F.trans {l r s : List α} (h : F c l r) (g : F c r s) : F c l s := ⟨h.1.trans g.1, fun x => (h.2 x).trans (g.2 x)⟩
theorem F.symm {l r : List α} (h : F c l r) : F c r l := ⟨h.1.symm, fun x => (h.2 x).symm⟩
theorem F.app {l r l' r' : List α} (h : F c l r) (g : F c l' r') : F c (l ++ l') (r ++ r') :=
  ⟨by rw [List.length_append, List.length_append, h.1, g.1], fun x => by rw [List.filter_append, List.filter_append, h.2 x, g.2 x]⟩
theorem Tot.refl (T : Tot c) (x : α) : ¬ c x x < 0 := fun h => T.asym x x h h
theorem Qrt (T : Tot c) (x : α) : eqv c x x = true := by simpa [eqv] using T.refl x
theorem F.mem (T : Tot c) {l r : List α} (h : F c l r) {x : α} (hx : x ∈ l) : x ∈ r := by
  have h1 : x ∈ l.filter (eqv c x) := List.mem_filter.2 ⟨hx, Qrt T x⟩
  rw [h.2 x] at h1
  exact (List.mem_filter.1 h1).1
theorem F.swap (T : Tot c) {A B : List α} (h : ∀ a ∈ A, ∀ b ∈ B, c b a < 0) : F c (A ++ B) (B ++ A) := by
  refine ⟨by simp [Nat.add_comm], fun x => ?_⟩
  rw [List.filter_append, List.filter_append]
  by_cases hA : A.filter (eqv c x) = []
  · rw [hA]
    simp
  · have hB : B.filter (eqv c x) = [] := by
      obtain ⟨a, ha⟩ := List.exists_mem_of_ne_nil _ hA
      obtain ⟨ha, hxa⟩ := List.mem_filter.1 ha
      refine List.filter_eq_nil_iff.2 fun b hb hxb => ?_
      simp only [eqv, Bool.and_eq_true, decide_eq_true_eq] at hxa hxb
      exact T.tr a x b hxa.1 hxb.2 (h a ha b hb)
    rw [hB]
    simp
theorem uniq (T : Tot c) : ∀ {l r : List α}, Up c l → Up c r → F c l r → l = r
  | [], [], _, _, _ => rfl
  | [], _ :: _, _, _, h => by simp [F] at h
  | _ :: _, [], _, _, h => by simp [F] at h
  | a :: l, b :: r, hl, hr, h => by
    have hl' := List.pairwise_cons.1 hl
    have hr' := List.pairwise_cons.1 hr
    have h1 : ¬ c b a < 0 := by
      rcases List.mem_cons.1 (h.symm.mem T (x := b) List.mem_cons_self) with e | e
      · subst e
        exact T.refl _
      · exact hl'.1 b e
    have h2 : ¬ c a b < 0 := by
      rcases List.mem_cons.1 (h.mem T (x := a) List.mem_cons_self) with e | e
      · subst e
        exact T.refl _
      · exact hr'.1 a e
    have e1 : eqv c a b = true := by simp only [eqv, Bool.and_eq_true, decide_eq_true_eq]; exact ⟨h2, h1⟩
    have e := h.2 a
    rw [List.filter_cons_of_pos (Qrt T a), List.filter_cons_of_pos e1] at e
    injection e with e _
    subst e
    refine congrArg _ (uniq T hl'.2 hr'.2 ⟨by have := h.1; simpa using this, fun x => ?_⟩)
    have e := h.2 x
    simp only [List.filter_cons] at e
    cases hx : eqv c x a with
    | true => rw [hx] at e; simpa using e
    | false => rw [hx] at e; simpa using e
theorem Qrs {x y : α} : ∀ {R : List α}, y ∈ insR c x R → y = x ∨ y ∈ R
  | [], h => by simpa [insR] using h
  | s :: t, h => by
    rw [insR] at h
    cases hd : decide (c x s < 0) with
    | true =>
      rw [hd, cond_true] at h
      rcases List.mem_cons.1 h with e | e
      · exact Or.inr (by simp [e])
      · rcases Qrs e with e | e
        · exact Or.inl e
        · exact Or.inr (List.mem_cons_of_mem _ e)
    | false =>
      rw [hd, cond_false] at h
      rcases List.mem_cons.1 h with e | e
      · exact Or.inl e
      · exact Or.inr e
theorem Qy2 (T : Tot c) (x : α) : ∀ {R : List α}, R.Pairwise (fun a b => le c b a) → (insR c x R).Pairwise (fun a b => le c b a)
  | [], _ => by simp [insR]
  | s :: t, h => by
    have h' := List.pairwise_cons.1 h
    rw [insR]
    by_cases hd : c x s < 0
    · rw [show decide (c x s < 0) = true by simpa using hd, cond_true]
      refine List.pairwise_cons.2 ⟨fun y hy => ?_, Qy2 T x h'.2⟩
      rcases Qrs hy with e | e
      · subst e
        exact T.asym _ _ hd
      · exact h'.1 y e
    · rw [show decide (c x s < 0) = false by simpa using hd, cond_false]
      refine List.pairwise_cons.2 ⟨fun y hy => ?_, h⟩
      rcases List.mem_cons.1 hy with e | e
      · subst e
        exact hd
      · exact T.tr y s x (h'.1 y e) hd
theorem Q13p (T : Tot c) (x : α) : ∀ (R : List α), F c (R.reverse ++ [x]) (insR c x R).reverse
  | [] => F.rfl
  | s :: t => by
    rw [insR]
    by_cases hd : c x s < 0
    · rw [show decide (c x s < 0) = true by simpa using hd, cond_true, List.reverse_cons, List.reverse_cons, List.append_assoc]
      have h1 : F c ([s] ++ [x]) ([x] ++ [s]) := F.swap T (by simpa using hd)
      exact (F.rfl.app h1).trans (by rw [← List.append_assoc]; exact (Q13p T x t).app F.rfl)
    · rw [show decide (c x s < 0) = false by simpa using hd, cond_false, List.reverse_cons (a := x)]
      exact F.rfl
theorem Qqs (T : Tot c) : ∀ (M R : List α), R.Pairwise (fun a b => le c b a) → (M.foldl (fun r x => insR c x r) R).Pairwise (fun a b => le c b a) ∧ F c (R.reverse ++ M) (M.foldl (fun r x => insR c x r) R).reverse
  | [], R, h => ⟨h, by simpa using F.rfl⟩
  | x :: M, R, h => by
    obtain ⟨h1, h2⟩ := Qqs T M (insR c x R) (Qy2 T x h)
    refine ⟨h1, F.trans ?_ h2⟩
    have e : R.reverse ++ x :: M = (R.reverse ++ [x]) ++ M := by simp
    rw [e]
    exact (Q13p T x R).app F.rfl
theorem Q97 (T : Tot c) (l : List α) : Up c (Q5z c l) := by
  unfold Up Q5z
  rw [List.pairwise_reverse]
  exact (Qqs T l [] List.Pairwise.nil).1
theorem Qei (T : Tot c) (l : List α) : F c l (Q5z c l) := (Qqs T l [] List.Pairwise.nil).2
def bs (g : Int → Bool) : Nat → Int → Int → Int
  | 0, i, _ => i
  | k + 1, i, j => bif decide (i < j) then (bif g ((i + j) / 2) then bs g k ((i + j) / 2 + 1) j else bs g k i ((i + j) / 2)) else i
theorem Q9t (g : Int → Bool) : ∀ (k : Nat) (i j : Int), i ≤ j → (j - i).toNat < k → i ≤ bs g k i j ∧ bs g k i j ≤ j ∧ (bs g k i j = i ∨ g (bs g k i j - 1) = true) ∧ (bs g k i j = j ∨ g (bs g k i j) = false)
  | 0, _, _, _, h => absurd h (Nat.not_lt_zero _)
  | k + 1, i, j, h, hk => by
    rw [bs]
    by_cases hij : i < j
    · rw [show decide (i < j) = true by simpa using hij, cond_true]
      cases hg : g ((i + j) / 2) with
      | true =>
        rw [cond_true]
        obtain ⟨h1, h2, h3, h4⟩ := Q9t g k ((i + j) / 2 + 1) j (by omega) (by omega)
        refine ⟨by omega, h2, Or.inr ?_, h4⟩
        rcases h3 with e | e
        · rw [e, show (i + j) / 2 + 1 - 1 = (i + j) / 2 by omega]
          exact hg
        · exact e
      | false =>
        rw [cond_false]
        obtain ⟨h1, h2, h3, h4⟩ := Q9t g k i ((i + j) / 2) (by omega) (by omega)
        refine ⟨h1, by omega, h3, Or.inr ?_⟩
        rcases h4 with e | e
        · rw [e]
          exact hg
        · exact e
    · rw [show decide (i < j) = false by simpa using hij, cond_false]
      exact ⟨Int.le_refl _, h, Or.inl rfl, Or.inl (by omega)⟩
def mv1 : Nat → Int → List α → Int → List α
  | 0, _, v, _ => v
  | k + 1, t, v, i => bif decide (i < t - 1) then mv1 k t (sw z v i (i + 1)) (i + 1) else v
def mv3 : Nat → Int → List α → Int → List α
  | 0, _, v, _ => v
  | k + 1, t, v, i => bif decide (t < i) then mv3 k t (sw z v i (i - 1)) (i - 1) else v
theorem Qsc (x : α) (C : List α) (t : Int) : ∀ (V A : List α) (k : Nat) (i : Int), i = (A.length : Int) → t - 1 = i + (V.length : Int) → V.length < k → mv1 z k t (A ++ x :: (V ++ C)) i = A ++ (V ++ x :: C)
  | _, _, 0, _, _, _, h => absurd h (Nat.not_lt_zero _)
  | [], A, k + 1, i, hi, ht, _ => by
    rw [mv1, show decide (i < t - 1) = false by simp at ht ⊢; omega]
    rfl
  | y :: V, A, k + 1, i, hi, ht, hk => by
    simp only [List.length_cons] at ht hk
    rw [mv1, show decide (i < t - 1) = true by simp; omega, cond_true]
    have e : A ++ x :: (y :: V ++ C) = A ++ x :: ([] ++ y :: (V ++ C)) := by simp
    rw [e, Q16o z hi (by simp; omega)]
    have e2 : A ++ y :: ([] ++ x :: (V ++ C)) = (A ++ [y]) ++ x :: (V ++ C) := by simp
    rw [e2, Qsc x C t V (A ++ [y]) k (i + 1) (by simp; omega) (by omega) (by omega)]
    simp
theorem Qry (y : α) (A : List α) (t : Int) (ht : t = (A.length : Int)) : ∀ (R C : List α) (k : Nat) (i : Int), i = (A.length : Int) + (R.length : Int) → R.length < k → mv3 z k t (A ++ (R.reverse ++ y :: C)) i = A ++ y :: (R.reverse ++ C)
  | _, _, 0, _, _, h => absurd h (Nat.not_lt_zero _)
  | [], C, k + 1, i, hi, _ => by
    rw [mv3, show decide (t < i) = false by simp at hi ⊢; omega]
    rfl
  | u :: R, C, k + 1, i, hi, hk => by
    simp only [List.length_cons] at hi hk
    rw [mv3, show decide (t < i) = true by simp; omega, cond_true]
    have e : A ++ ((u :: R).reverse ++ y :: C) = (A ++ R.reverse) ++ u :: ([] ++ y :: C) := by simp
    rw [e, Qyk z (by simp; omega) (by simp; omega)]
    have e2 : (A ++ R.reverse) ++ y :: ([] ++ u :: C) = A ++ (R.reverse ++ y :: (u :: C)) := by simp
    rw [e2, Qry y A t ht R (u :: C) k (i - 1) (by omega) (by omega)]
    simp
end
end Go.Pv.Srt
end

section
/- The library's stable sort: symmetric merging and the sort as a whole answer the stably sorted list. Program-free. -/
namespace Go.Pv.Srt
section
variable {α : Type} (z : α) (c : α → α → Int)
def sym2 (rec : List α → Int → Int → Int → List α) (d : List α) (a m b mid st : Int) : List α :=
  let d1 := bif decide (st < m) && decide (m < mid + m - st) then rot z d st m (mid + m - st) else d
  let d2 := bif decide (a < st) && decide (st < mid) then rec d1 a st mid else d1
  bif decide (mid < mid + m - st) && decide (mid + m - st < b) then rec d2 mid (mid + m - st) b else d2
def sg (d : List α) (p s : Int) : Bool := !decide (c (gt z d (p - s)) (gt z d s) < 0)
def sst (d : List α) (a m b : Int) : Int :=
  bif decide ((a + b) / 2 < m) then bs (sg z c d ((a + b) / 2 + m - 1)) (((a + b) / 2 - ((a + b) / 2 + m - b)).toNat + 1) ((a + b) / 2 + m - b) ((a + b) / 2)
  else bs (sg z c d ((a + b) / 2 + m - 1)) ((m - a).toNat + 1) a m
def st1 (d : List α) (a m b : Int) : Int := bs (fun h => decide (c (gt z d h) (gt z d a) < 0)) ((b - m).toNat + 1) m b
def st3 (d : List α) (a m : Int) : Int := bs (fun h => !decide (c (gt z d m) (gt z d h) < 0)) ((m - a).toNat + 1) a m
def sym : Nat → List α → Int → Int → Int → List α
  | 0, d, _, _, _ => d
  | k + 1, d, a, m, b =>
    bif m - a == 1 then mv1 z ((st1 z c d a m b - a).toNat + 1) (st1 z c d a m b) d a
    else bif b - m == 1 then mv3 z ((m - st3 z c d a m).toNat + 1) (st3 z c d a m) d m
    else sym2 z (sym k) d a m b ((a + b) / 2) (sst z c d a m b)
variable {c}
theorem Qc3 (T : Tot c) {y l x : α} (h : le c y l) (g : c l x < 0) : c y x < 0 := by
  by_cases e : c y x < 0
  · exact e
  · exact absurd g (T.tr x y l e h)
theorem Qdt (T : Tot c) {l x w : α} (g : c l x < 0) (h : le c x w) : c l w < 0 := by
  by_cases e : c l w < 0
  · exact e
  · exact absurd g (T.tr x w l h e)
theorem Qke (T : Tot c) {V : List α} {l : α} (h : Up c (V ++ [l])) : ∀ y ∈ V ++ [l], le c y l := by
  intro y hy
  rcases List.mem_append.1 hy with e | e
  · exact (List.pairwise_append.1 h).2.2 y e l (by simp)
  · rw [List.mem_singleton.1 e]
    exact T.refl l
theorem Qm2 (T : Tot c) {V : List α} {l : α} (h : Up c (l :: V)) : ∀ y ∈ l :: V, le c l y := by
  intro y hy
  rcases List.mem_cons.1 hy with e | e
  · rw [e]
    exact T.refl l
  · exact (List.pairwise_cons.1 h).1 y e
theorem one1 (T : Tot c) {A V C : List α} {x : α} {a m b : Int} (ha : a = (A.length : Int)) (hm : m = a + 1) (hb : b = m + (V.length : Int)) (hV : Up c V) :
    ∃ W, mv1 z ((st1 z c (A ++ x :: (V ++ C)) a m b - a).toNat + 1) (st1 z c (A ++ x :: (V ++ C)) a m b) (A ++ x :: (V ++ C)) a = A ++ (W ++ C) ∧ Up c W ∧ F c ([x] ++ V) W := by
  obtain ⟨h1, h2, h3, h4⟩ := Q9t (fun h => decide (c (gt z (A ++ x :: (V ++ C)) h) (gt z (A ++ x :: (V ++ C)) a) < 0)) ((b - m).toNat + 1) m b (by omega) (by omega)
  change m ≤ st1 z c (A ++ x :: (V ++ C)) a m b at h1
  change st1 z c (A ++ x :: (V ++ C)) a m b ≤ b at h2
  change st1 z c (A ++ x :: (V ++ C)) a m b = m ∨ decide (c (gt z _ (st1 z c (A ++ x :: (V ++ C)) a m b - 1)) _ < 0) = true at h3
  change st1 z c (A ++ x :: (V ++ C)) a m b = b ∨ decide (c (gt z _ (st1 z c (A ++ x :: (V ++ C)) a m b)) _ < 0) = false at h4
  generalize st1 z c (A ++ x :: (V ++ C)) a m b = t at h1 h2 h3 h4
  rw [Q77 z (A := A) (C := V ++ C) (x := x) rfl ha] at h3 h4
  have hV12 : V = V.take (t - m).toNat ++ V.drop (t - m).toNat := (List.take_append_drop _ _).symm
  have l1 : (V.take (t - m).toNat).length = (t - m).toNat := by simp; omega
  generalize V.take (t - m).toNat = V1 at hV12 l1
  generalize V.drop (t - m).toNat = V2 at hV12
  subst hV12
  rw [List.length_append] at hb
  have hu := List.pairwise_append.1 hV
  have k1 : ∀ y ∈ V1, c y x < 0 := by
    rcases List.eq_nil_or_concat V1 with e | ⟨L, l, e⟩
    · subst e
      intro y hy
      cases hy
    · subst e
      simp only [List.concat_eq_append] at *
      rcases h3 with e | e
      · simp at l1
        omega
      · rw [Q77 z (A := A ++ x :: L) (x := l) (C := V2 ++ C) (by simp) (by simp at l1 ⊢; omega)] at e
        exact fun y hy => Qc3 T (Qke T hu.1 y hy) (of_decide_eq_true e)
  have k2 : ∀ y ∈ V2, le c x y := by
    cases V2 with
    | nil =>
      intro y hy
      cases hy
    | cons w V2 =>
      rcases h4 with e | e
      · simp at hb
        omega
      · rw [Q77 z (A := A ++ x :: V1) (x := w) (C := V2 ++ C) (by simp) (by simp; omega)] at e
        exact fun y hy => T.tr x w y (of_decide_eq_false e) (Qm2 T hu.2.1 y hy)
  refine ⟨V1 ++ x :: V2, ?_, ?_, ?_⟩
  · have e := Qsc z x (V2 ++ C) t V1 A ((t - a).toNat + 1) a ha (by omega) (by omega)
    rw [List.append_assoc, e]
    simp
  · refine List.pairwise_append.2 ⟨hu.1, List.pairwise_cons.2 ⟨k2, hu.2.1⟩, fun y hy w hw => ?_⟩
    rcases List.mem_cons.1 hw with e | e
    · rw [e]
      exact T.asym _ _ (k1 y hy)
    · exact hu.2.2 y hy w e
  · have e : F c ([x] ++ V1) (V1 ++ [x]) := F.swap T (by simpa using k1)
    have e2 := e.app (F.rfl (l := V2))
    simpa using e2
theorem one3 (T : Tot c) {A U C : List α} {y : α} {a m : Int} (ha : a = (A.length : Int)) (hm : m = a + (U.length : Int)) (hU : Up c U) :
    ∃ W, mv3 z ((m - st3 z c (A ++ (U ++ y :: C)) a m).toNat + 1) (st3 z c (A ++ (U ++ y :: C)) a m) (A ++ (U ++ y :: C)) m = A ++ (W ++ C) ∧ Up c W ∧ F c (U ++ [y]) W := by
  obtain ⟨h1, h2, h3, h4⟩ := Q9t (fun h => !decide (c (gt z (A ++ (U ++ y :: C)) m) (gt z (A ++ (U ++ y :: C)) h) < 0)) ((m - a).toNat + 1) a m (by omega) (by omega)
  change a ≤ st3 z c (A ++ (U ++ y :: C)) a m at h1
  change st3 z c (A ++ (U ++ y :: C)) a m ≤ m at h2
  change st3 z c (A ++ (U ++ y :: C)) a m = a ∨ (!decide (c _ (gt z _ (st3 z c (A ++ (U ++ y :: C)) a m - 1)) < 0)) = true at h3
  change st3 z c (A ++ (U ++ y :: C)) a m = m ∨ (!decide (c _ (gt z _ (st3 z c (A ++ (U ++ y :: C)) a m)) < 0)) = false at h4
  generalize st3 z c (A ++ (U ++ y :: C)) a m = t at h1 h2 h3 h4
  rw [Q77 z (A := A ++ U) (C := C) (x := y) (by simp) (by simp; omega)] at h3 h4
  have hU12 : U = U.take (t - a).toNat ++ U.drop (t - a).toNat := (List.take_append_drop _ _).symm
  have l1 : (U.take (t - a).toNat).length = (t - a).toNat := by simp; omega
  generalize U.take (t - a).toNat = U1 at hU12 l1
  generalize U.drop (t - a).toNat = U2 at hU12
  subst hU12
  rw [List.length_append] at hm
  have hu := List.pairwise_append.1 hU
  have k1 : ∀ u ∈ U1, le c u y := by
    rcases List.eq_nil_or_concat U1 with e | ⟨L, l, e⟩
    · subst e
      intro y hy
      cases hy
    · subst e
      simp only [List.concat_eq_append] at *
      rcases h3 with e | e
      · simp at l1
        omega
      · rw [Q77 z (A := A ++ L) (x := l) (C := U2 ++ y :: C) (by simp) (by simp at l1 ⊢; omega)] at e
        exact fun u hu' => T.tr u l y (Qke T hu.1 u hu') (by simpa using e)
  have k2 : ∀ u ∈ U2, c y u < 0 := by
    cases U2 with
    | nil =>
      intro y hy
      cases hy
    | cons w U2 =>
      rcases h4 with e | e
      · simp at hm
        omega
      · rw [Q77 z (A := A ++ U1) (x := w) (C := U2 ++ y :: C) (by simp) (by simp; omega)] at e
        exact fun u hu' => Qdt T (by simpa using e) (Qm2 T hu.2.1 u hu')
  refine ⟨U1 ++ y :: U2, ?_, ?_, ?_⟩
  · have e := Qry z y (A ++ U1) t (by simp; omega) U2.reverse C ((m - t).toNat + 1) m (by simp; omega) (by simp; omega)
    rw [List.reverse_reverse] at e
    have e2 : A ++ (U1 ++ U2 ++ y :: C) = (A ++ U1) ++ (U2 ++ y :: C) := by simp
    rw [e2, e]
    simp
  · refine List.pairwise_append.2 ⟨hu.1, List.pairwise_cons.2 ⟨fun u hu' => T.asym _ _ (k2 u hu'), hu.2.1⟩, fun u hu' w hw => ?_⟩
    rcases List.mem_cons.1 hw with e | e
    · rw [e]
      exact k1 u hu'
    · exact hu.2.2 u hu' w e
  · have e : F c (U2 ++ [y]) ([y] ++ U2) := F.swap T (fun u hu' b hb => by rw [List.mem_singleton.1 hb]; exact k2 u hu')
    have e2 := (F.rfl (l := U1)).app e
    simpa using e2
end
end Go.Pv.Srt
end

section
/- The library's stable sort: merging in general, blocks, the whole. Program-free. -/
namespace Go.Pv.Srt
section
variable {α : Type} (z : α) {c : α → α → Int}
theorem two (T : Tot c) (rec : List α → Int → Int → Int → List α) {A U V C d : List α} {a m b mid st : Int} (hd : d = A ++ (U ++ (V ++ C))) (ha : a = (A.length : Int)) (hm : m = a + (U.length : Int)) (hb : b = m + (V.length : Int)) (hU : Up c U) (hV : Up c V)
    (b1 : a ≤ st) (b2 : st ≤ m) (b3 : st ≤ mid) (b4 : mid + m - st ≤ b) (b5 : a < mid) (b6 : mid < b)
    (g1 : st = a ∨ mid + m - st = b ∨ ¬ c (gt z d (mid + m - st)) (gt z d (st - 1)) < 0)
    (g2 : st = m ∨ st = mid ∨ c (gt z d (mid + m - 1 - st)) (gt z d st) < 0)
    (hrec : ∀ (A U V C : List α) (a' m' b' : Int), a' = (A.length : Int) → m' = a' + (U.length : Int) → b' = m' + (V.length : Int) → 0 < U.length → 0 < V.length → Up c U → Up c V → b' - a' < b - a → ∃ W, rec (A ++ (U ++ (V ++ C))) a' m' b' = A ++ (W ++ C) ∧ Up c W ∧ F c (U ++ V) W) :
    ∃ W, sym2 z rec d a m b mid st = A ++ (W ++ C) ∧ Up c W ∧ F c (U ++ V) W := by
  have hU12 : U = U.take (st - a).toNat ++ U.drop (st - a).toNat := (List.take_append_drop _ _).symm
  have l1 : (U.take (st - a).toNat).length = (st - a).toNat := by simp; omega
  generalize U.take (st - a).toNat = U1 at hU12 l1
  generalize U.drop (st - a).toNat = U2 at hU12
  subst hU12
  have hV12 : V = V.take (mid - st).toNat ++ V.drop (mid - st).toNat := (List.take_append_drop _ _).symm
  have l2 : (V.take (mid - st).toNat).length = (mid - st).toNat := by simp; omega
  generalize V.take (mid - st).toNat = V1 at hV12 l2
  generalize V.drop (mid - st).toNat = V2 at hV12
  subst hV12
  rw [List.length_append] at hm hb
  have hu := List.pairwise_append.1 hU
  have hv := List.pairwise_append.1 hV
  have hd' : d = A ++ (U1 ++ (U2 ++ (V1 ++ (V2 ++ C)))) := by rw [hd]; simp
  clear hd
  have c1 : ∀ x ∈ U1, ∀ y ∈ V2, le c x y := by
    rcases List.eq_nil_or_concat U1 with e | ⟨L, l, e⟩
    · subst e
      intro x hx
      cases hx
    · cases V2 with
      | nil =>
        intro x _ y hy
        cases hy
      | cons w V2 =>
        subst e
        simp only [List.concat_eq_append, List.length_append, List.length_cons, List.length_nil] at *
        rcases g1 with e | e | e
        · omega
        · omega
        · rw [Q77 z (d := d) (i := st - 1) (A := A ++ L) (x := l) (C := U2 ++ (V1 ++ (w :: V2 ++ C))) (by rw [hd']; simp) (by simp; omega),
            Q77 z (d := d) (i := mid + m - st) (A := A ++ (L ++ [l]) ++ U2 ++ V1) (x := w) (C := V2 ++ C) (by rw [hd']; simp) (by simp; omega)] at e
          exact fun x hx y hy => T.tr x w y (T.tr x l w (Qke T hu.1 x hx) e) (Qm2 T hv.2.1 y hy)
  have c2 : ∀ x ∈ U2, ∀ y ∈ V1, c y x < 0 := by
    rcases List.eq_nil_or_concat V1 with e | ⟨L, l, e⟩
    · subst e
      intro x _ y hy
      cases hy
    · cases U2 with
      | nil =>
        intro x hx
        cases hx
      | cons w U2 =>
        subst e
        simp only [List.concat_eq_append, List.length_append, List.length_cons, List.length_nil] at *
        rcases g2 with e | e | e
        · omega
        · omega
        · rw [Q77 z (d := d) (i := st) (A := A ++ U1) (x := w) (C := U2 ++ ((L ++ [l]) ++ (V2 ++ C))) (by rw [hd']; simp) (by simp; omega),
            Q77 z (d := d) (i := mid + m - 1 - st) (A := A ++ U1 ++ (w :: U2) ++ L) (x := l) (C := V2 ++ C) (by rw [hd']; simp) (by simp; omega)] at e
          exact fun x hx y hy => Qdt T (Qc3 T (Qke T hv.1 y hy) e) (Qm2 T hu.2.1 x hx)
  unfold sym2
  -- the exchange
  have hd1 : (bif decide (st < m) && decide (m < mid + m - st) then rot z d st m (mid + m - st) else d) = A ++ (U1 ++ (V1 ++ (U2 ++ (V2 ++ C)))) := by
    by_cases h : st < m ∧ m < mid + m - st
    · rw [show (decide (st < m) && decide (m < mid + m - st)) = true by simpa using h, cond_true]
      rw [Q12s z (A := A ++ U1) (U := U2) (V := V1) (C := V2 ++ C) (by rw [hd']; simp) (by simp; omega) (by omega) (by omega) (by omega) (by omega)]
      simp
    · rw [show (decide (st < m) && decide (m < mid + m - st)) = false by rw [Bool.eq_false_iff]; simpa using h, cond_false, hd']
      by_cases h2 : U2.length = 0
      · rw [List.length_eq_zero_iff.1 h2]
        simp
      · have h3 : V1.length = 0 := by omega
        rw [List.length_eq_zero_iff.1 h3]
        simp
  simp only [hd1]
  -- the left
  have hl : ∃ W1, (bif decide (a < st) && decide (st < mid) then rec (A ++ (U1 ++ (V1 ++ (U2 ++ (V2 ++ C))))) a st mid else A ++ (U1 ++ (V1 ++ (U2 ++ (V2 ++ C))))) = A ++ (W1 ++ (U2 ++ (V2 ++ C))) ∧ Up c W1 ∧ F c (U1 ++ V1) W1 := by
    by_cases h : a < st ∧ st < mid
    · rw [show (decide (a < st) && decide (st < mid)) = true by simpa using h, cond_true]
      exact hrec A U1 V1 (U2 ++ (V2 ++ C)) a st mid ha (by omega) (by omega) (by omega) (by omega) hu.1 hv.1 (by omega)
    · rw [show (decide (a < st) && decide (st < mid)) = false by rw [Bool.eq_false_iff]; simpa using h, cond_false]
      refine ⟨U1 ++ V1, by simp, ?_, F.rfl⟩
      by_cases h2 : U1.length = 0
      · rw [List.length_eq_zero_iff.1 h2]
        exact hv.1
      · have h3 : V1.length = 0 := by omega
        rw [List.length_eq_zero_iff.1 h3, List.append_nil]
        exact hu.1
  obtain ⟨W1, e1, u1, f1⟩ := hl
  rw [e1]
  have lw : W1.length = (st - a).toNat + (mid - st).toNat := by have := f1.1; rw [List.length_append] at this; omega
  have hr : ∃ W2, (bif decide (mid < mid + m - st) && decide (mid + m - st < b) then rec (A ++ (W1 ++ (U2 ++ (V2 ++ C)))) mid (mid + m - st) b else A ++ (W1 ++ (U2 ++ (V2 ++ C)))) = A ++ (W1 ++ (W2 ++ C)) ∧ Up c W2 ∧ F c (U2 ++ V2) W2 := by
    by_cases h : mid < mid + m - st ∧ mid + m - st < b
    · rw [show (decide (mid < mid + m - st) && decide (mid + m - st < b)) = true by simpa using h, cond_true]
      obtain ⟨W2, e2, u2, f2⟩ := hrec (A ++ W1) U2 V2 C mid (mid + m - st) b (by simp; omega) (by omega) (by omega) (by omega) (by omega) hu.2.1 hv.2.1 (by omega)
      refine ⟨W2, ?_, u2, f2⟩
      rw [List.append_assoc, List.append_assoc] at e2
      exact e2
    · rw [show (decide (mid < mid + m - st) && decide (mid + m - st < b)) = false by rw [Bool.eq_false_iff]; simpa using h, cond_false]
      refine ⟨U2 ++ V2, by simp, ?_, F.rfl⟩
      by_cases h2 : U2.length = 0
      · rw [List.length_eq_zero_iff.1 h2]
        exact hv.2.1
      · have h3 : V2.length = 0 := by omega
        rw [List.length_eq_zero_iff.1 h3, List.append_nil]
        exact hu.2.1
  obtain ⟨W2, e2, u2, f2⟩ := hr
  refine ⟨W1 ++ W2, by rw [e2]; simp, List.pairwise_append.2 ⟨u1, u2, fun x hx y hy => ?_⟩, ?_⟩
  · rcases List.mem_append.1 (f1.symm.mem T hx) with hx | hx <;> rcases List.mem_append.1 (f2.symm.mem T hy) with hy | hy
    · exact hu.2.2 x hx y hy
    · exact c1 x hx y hy
    · exact T.asym _ _ (c2 y hy x hx)
    · exact hv.2.2 x hx y hy
  · have e : F c (U1 ++ (U2 ++ V1) ++ V2) (U1 ++ (V1 ++ U2) ++ V2) := (F.rfl.app (F.swap T c2)).app F.rfl
    have e' := f1.app f2
    refine F.trans (r := U1 ++ (V1 ++ U2) ++ V2) ?_ (F.trans (r := (U1 ++ V1) ++ (U2 ++ V2)) (by simpa using F.rfl) e')
    simpa using e
theorem Qki (T : Tot c) : ∀ (k : Nat) (A U V C : List α) (a m b : Int), a = (A.length : Int) → m = a + (U.length : Int) → b = m + (V.length : Int) → 0 < U.length → 0 < V.length → Up c U → Up c V → (b - a).toNat < k →
    ∃ W, sym z c k (A ++ (U ++ (V ++ C))) a m b = A ++ (W ++ C) ∧ Up c W ∧ F c (U ++ V) W
  | 0, _, _, _, _, _, _, _, _, _, _, _, _, _, _, h => absurd h (Nat.not_lt_zero _)
  | k + 1, A, U, V, C, a, m, b, ha, hm, hb, lU, lV, hU, hV, hk => by
    rw [sym]
    by_cases h1 : m - a = 1
    · rw [show (m - a == 1) = true by simpa using h1, cond_true]
      obtain ⟨x, rfl⟩ := List.length_eq_one_iff.1 (show U.length = 1 by omega)
      exact one1 z T ha (by omega) hb hV
    · rw [show (m - a == 1) = false by simpa using h1, cond_false]
      by_cases h2 : b - m = 1
      · rw [show (b - m == 1) = true by simpa using h2, cond_true]
        obtain ⟨y, rfl⟩ := List.length_eq_one_iff.1 (show V.length = 1 by omega)
        exact one3 z T ha hm hU
      · rw [show (b - m == 1) = false by simpa using h2, cond_false]
        have hs : a ≤ sst z c (A ++ (U ++ (V ++ C))) a m b ∧ sst z c (A ++ (U ++ (V ++ C))) a m b ≤ m ∧ sst z c (A ++ (U ++ (V ++ C))) a m b ≤ (a + b) / 2 ∧ (a + b) / 2 + m - sst z c (A ++ (U ++ (V ++ C))) a m b ≤ b ∧
            (sst z c (A ++ (U ++ (V ++ C))) a m b = a ∨ (a + b) / 2 + m - sst z c (A ++ (U ++ (V ++ C))) a m b = b ∨ sg z c (A ++ (U ++ (V ++ C))) ((a + b) / 2 + m - 1) (sst z c (A ++ (U ++ (V ++ C))) a m b - 1) = true) ∧
            (sst z c (A ++ (U ++ (V ++ C))) a m b = m ∨ sst z c (A ++ (U ++ (V ++ C))) a m b = (a + b) / 2 ∨ sg z c (A ++ (U ++ (V ++ C))) ((a + b) / 2 + m - 1) (sst z c (A ++ (U ++ (V ++ C))) a m b) = false) := by
          unfold sst
          by_cases h3 : (a + b) / 2 < m
          · rw [show decide ((a + b) / 2 < m) = true by simpa using h3]
            simp only [cond_true]
            obtain ⟨q1, q2, q3, q4⟩ := Q9t (sg z c (A ++ (U ++ (V ++ C))) ((a + b) / 2 + m - 1)) (((a + b) / 2 - ((a + b) / 2 + m - b)).toNat + 1) ((a + b) / 2 + m - b) ((a + b) / 2) (by omega) (by omega)
            refine ⟨by omega, by omega, q2, by omega, ?_, ?_⟩
            · rcases q3 with e | e
              · exact Or.inr (Or.inl (by omega))
              · exact Or.inr (Or.inr e)
            · rcases q4 with e | e
              · exact Or.inr (Or.inl e)
              · exact Or.inr (Or.inr e)
          · rw [show decide ((a + b) / 2 < m) = false by simpa using h3]
            simp only [cond_false]
            obtain ⟨q1, q2, q3, q4⟩ := Q9t (sg z c (A ++ (U ++ (V ++ C))) ((a + b) / 2 + m - 1)) ((m - a).toNat + 1) a m (by omega) (by omega)
            refine ⟨q1, q2, by omega, by omega, ?_, ?_⟩
            · rcases q3 with e | e
              · exact Or.inl e
              · exact Or.inr (Or.inr e)
            · rcases q4 with e | e
              · exact Or.inl e
              · exact Or.inr (Or.inr e)
        generalize sst z c (A ++ (U ++ (V ++ C))) a m b = st at hs
        obtain ⟨s1, s2, s3, s4, s5, s6⟩ := hs
        refine two z T (sym z c k) rfl ha hm hb hU hV s1 s2 s3 s4 (by omega) (by omega) ?_ ?_ (fun A U V C a' m' b' p1 p2 p3 p4 p5 p6 p7 p8 => Qki T k A U V C a' m' b' p1 p2 p3 p4 p5 p6 p7 (by omega))
        · rcases s5 with e | e | e
          · exact Or.inl e
          · exact Or.inr (Or.inl e)
          · refine Or.inr (Or.inr ?_)
            unfold sg at e
            rw [show (a + b) / 2 + m - 1 - (st - 1) = (a + b) / 2 + m - st by omega] at e
            simpa using e
        · rcases s6 with e | e | e
          · exact Or.inl e
          · exact Or.inr (Or.inl e)
          · refine Or.inr (Or.inr ?_)
            unfold sg at e
            simpa using e
end
end Go.Pv.Srt
end

section
/- The library's stable sort: blocks, and the whole: it answers what insertion answers. Program-free. -/
namespace Go.Pv.Srt
section
variable {α : Type} (z : α) (c : α → α → Int)
def stb0 (n : Int) : Nat → List α → Int → Int → List α × Int
  | 0, v, a, _ => (v, a)
  | k + 1, v, a, b => bif decide (b ≤ n) then stb0 n k (ins z c v a b) b (b + 20) else (v, a)
def stb2 (n : Int) : Nat → List α → Int → Int → Int → List α × Int × Int
  | 0, v, a, _, s => (v, s, a)
  | k + 1, v, a, b, s => bif decide (b ≤ n) then stb2 n k (sym z c ((b - a).toNat + 1) v a (a + s) b) b (b + (2 * s)) s else (v, s, a)
def Qe7 (n : Int) (v : List α) (s : Int) : List α × Int × Int := stb2 z c n ((n + 2 * s - (2 * s)).toNat + 1) v 0 (2 * s) s
def stb1 (n : Int) : Nat → List α → Int → List α
  | 0, v, _ => v
  | k + 1, v, s =>
    bif decide (s < n) then
      bif decide ((Qe7 z c n v s).2.2 + (Qe7 z c n v s).2.1 < n) then
        stb1 n k (sym z c ((n - (Qe7 z c n v s).2.2).toNat + 1) (Qe7 z c n v s).1 (Qe7 z c n v s).2.2 ((Qe7 z c n v s).2.2 + (Qe7 z c n v s).2.1) n) ((Qe7 z c n v s).2.1 * 2)
      else stb1 n k (Qe7 z c n v s).1 ((Qe7 z c n v s).2.1 * 2)
    else v
def stb (d : List α) (n : Int) : List α :=
  stb1 z c n ((n - 20).toNat + 1) (ins z c (stb0 z c n ((n + 20 - 20).toNat + 1) d 0 20).1 (stb0 z c n ((n + 20 - 20).toNat + 1) d 0 20).2 n) 20
inductive Bl (s : Nat) : List α → Prop
  | last {l : List α} : l.length ≤ s → Up c l → Bl s l
  | cons {l r : List α} : l.length = s → Up c l → Bl s r → Bl s (l ++ r)
inductive Fu (s : Nat) : List α → Prop
  | nil : Fu s []
  | snoc {p l : List α} : Fu s p → l.length = s → Up c l → Fu s (p ++ l)
variable {c}
theorem Fu.bl {s : Nat} {P : List α} (h : Fu c s P) : ∀ {Q : List α}, Bl c s Q → Bl c s (P ++ Q) := by
  induction h with
  | nil => exact fun h => h
  | snoc _ h1 h2 ih =>
    intro Q hQ
    rw [List.append_assoc]
    exact ih (Bl.cons h1 h2 hQ)
theorem Bl.one {s : Nat} {Q : List α} (h : Bl c s Q) (hl : Q.length ≤ s) : Up c Q := by
  cases h with
  | last _ h => exact h
  | cons h1 h2 h3 =>
    rename_i l r
    rw [List.length_append] at hl
    rw [List.length_eq_zero_iff.1 (show r.length = 0 by omega), List.append_nil]
    exact h2
theorem Bl.split {s : Nat} {Q : List α} (h : Bl c s Q) (hl : s < Q.length) : ∃ l r, Q = l ++ r ∧ l.length = s ∧ Up c l ∧ Bl c s r := by
  cases h with
  | last h _ => omega
  | cons h1 h2 h3 => exact ⟨_, _, rfl, h1, h2, h3⟩
theorem Bl.two {s : Nat} {Q : List α} (hs : 0 < s) (h : Bl c s Q) (hl : 2 * s ≤ Q.length) : ∃ l m r, Q = l ++ (m ++ r) ∧ l.length = s ∧ m.length = s ∧ Up c l ∧ Up c m ∧ Bl c s r := by
  obtain ⟨l, r, rfl, h1, h2, h3⟩ := h.split (by omega)
  rw [List.length_append] at hl
  by_cases h4 : s < r.length
  · obtain ⟨m, r, rfl, h5, h6, h7⟩ := h3.split h4
    exact ⟨l, m, r, rfl, h1, h5, h2, h6, h7⟩
  · exact ⟨l, r, [], by simp, h1, by omega, h2, h3.one (by omega), Bl.last (by simp) List.Pairwise.nil⟩
theorem Qoh (T : Tot c) (n : Int) : ∀ (k : Nat) (P Q : List α) (a b : Int), a = (P.length : Int) → b = a + 20 → n = (P.length : Int) + (Q.length : Int) → Fu c 20 P → (n + 20 - b).toNat < k →
    ∃ P' Q', stb0 z c n k (P ++ Q) a b = (P' ++ Q', (P'.length : Int)) ∧ Fu c 20 P' ∧ Q'.length < 20 ∧ F c (P ++ Q) (P' ++ Q')
  | 0, _, _, _, _, _, _, _, _, h => absurd h (Nat.not_lt_zero _)
  | k + 1, P, Q, a, b, ha, hb, hn, hP, hk => by
    rw [stb0]
    by_cases h : b ≤ n
    · rw [show decide (b ≤ n) = true by simpa using h, cond_true]
      have e : P ++ Q = P ++ (Q.take 20 ++ Q.drop 20) := by rw [List.take_append_drop]
      have l1 : (Q.take 20).length = 20 := by simp; omega
      rw [e, Qsq z c rfl ha (show b = a + ((Q.take 20).length : Int) by omega)]
      have f := Qei T (Q.take 20)
      have l2 : (Q5z c (Q.take 20)).length = 20 := by have := f.1; omega
      have l3 : (Q.drop 20).length = Q.length - 20 := by simp
      rw [← List.append_assoc]
      obtain ⟨P', Q', h1, h2, h3, h4⟩ := Qoh T n k (P ++ Q5z c (Q.take 20)) (Q.drop 20) b (b + 20) (by rw [List.length_append]; omega) rfl (by rw [List.length_append]; omega) (Fu.snoc hP l2 (Q97 T _)) (by omega)
      refine ⟨P', Q', h1, h2, h3, F.trans ?_ h4⟩
      rw [List.append_assoc]
      exact F.rfl.app (f.app F.rfl)
    · rw [show decide (b ≤ n) = false by simpa using h, cond_false]
      exact ⟨P, Q, by rw [ha], hP, by omega, F.rfl⟩
theorem Qp9 (T : Tot c) (n : Int) (t : Nat) (s : Int) (hs : s = (t : Int)) (ht : 0 < t) : ∀ (k : Nat) (P Q : List α) (a b : Int), a = (P.length : Int) → b = a + 2 * s → n = (P.length : Int) + (Q.length : Int) → Fu c (2 * t) P → Bl c t Q → (n + 2 * s - b).toNat < k →
    ∃ P' Q', stb2 z c n k (P ++ Q) a b s = (P' ++ Q', s, (P'.length : Int)) ∧ Fu c (2 * t) P' ∧ Bl c t Q' ∧ Q'.length < 2 * t ∧ F c (P ++ Q) (P' ++ Q')
  | 0, _, _, _, _, _, _, _, _, _, h => absurd h (Nat.not_lt_zero _)
  | k + 1, P, Q, a, b, ha, hb, hn, hP, hQ, hk => by
    rw [stb2]
    by_cases h : b ≤ n
    · rw [show decide (b ≤ n) = true by simpa using h, cond_true]
      obtain ⟨l, m, r, rfl, h1, h2, h3, h4, h5⟩ := hQ.two ht (by omega)
      simp only [List.length_append] at hn
      obtain ⟨W, e1, e2, e3⟩ := Qki z T ((b - a).toNat + 1) P l m r a (a + s) b ha (by omega) (by omega) (by omega) (by omega) h3 h4 (by omega)
      have lW : W.length = 2 * t := by have := e3.1; rw [List.length_append] at this; omega
      rw [e1, ← List.append_assoc]
      obtain ⟨P', Q', g1, g2, g3, g4, g5⟩ := Qp9 T n t s hs ht k (P ++ W) r b (b + 2 * s) (by rw [List.length_append]; omega) rfl (by rw [List.length_append]; omega) (Fu.snoc hP lW e2) h5 (by omega)
      refine ⟨P', Q', g1, g2, g3, g4, F.trans ?_ g5⟩
      rw [List.append_assoc, ← List.append_assoc l]
      exact F.rfl.app (e3.app F.rfl)
    · rw [show decide (b ≤ n) = false by simpa using h, cond_false]
      exact ⟨P, Q, by rw [ha], hP, hQ, by omega, F.rfl⟩
theorem Qe6 (T : Tot c) (n : Int) : ∀ (k : Nat) (v : List α) (t : Nat) (s : Int), s = (t : Int) → 0 < t → n = (v.length : Int) → Bl c t v → (n - s).toNat < k → Up c (stb1 z c n k v s) ∧ F c v (stb1 z c n k v s)
  | 0, _, _, _, _, _, _, _, h => absurd h (Nat.not_lt_zero _)
  | k + 1, v, t, s, hs, ht, hn, hv, hk => by
    rw [stb1]
    by_cases h : s < n
    · rw [show decide (s < n) = true by simpa using h, cond_true]
      obtain ⟨P, Q, g1, g2, g3, g4, g5⟩ := Qp9 z T n t s hs ht ((n + 2 * s - (2 * s)).toNat + 1) [] v 0 (2 * s) rfl (by omega) (by simpa using hn) Fu.nil hv (by omega)
      have e : Qe7 z c n v s = (P ++ Q, s, (P.length : Int)) := g1
      rw [e]
      have hl := g5.1
      simp only [List.nil_append, List.length_append] at hl
      simp only
      by_cases h2 : (P.length : Int) + s < n
      · rw [show decide ((P.length : Int) + s < n) = true by simpa using h2, cond_true]
        obtain ⟨l, r, rfl, h3, h4, h5⟩ := g3.split (by omega)
        rw [List.length_append] at g4 hl
        obtain ⟨W, e1, e2, e3⟩ := Qki z T ((n - (P.length : Int)).toNat + 1) P l r [] (P.length : Int) ((P.length : Int) + s) n rfl (by omega) (by omega) (by omega) (by omega) h4 (h5.one (by omega)) (by omega)
        rw [List.append_nil, List.append_nil] at e1
        rw [e1]
        have lW : W.length ≤ 2 * t := by have := e3.1; rw [List.length_append] at this; omega
        have lW' : (P ++ W).length = v.length := by have := e3.1; rw [List.length_append] at this ⊢; omega
        obtain ⟨q1, q2⟩ := Qe6 T n k (P ++ W) (2 * t) (s * 2) (by omega) (by omega) (by omega) (g2.bl (Bl.last lW e2)) (by omega)
        exact ⟨q1, F.trans (F.trans g5 (F.rfl.app e3)) q2⟩
      · rw [show decide ((P.length : Int) + s < n) = false by simpa using h2, cond_false]
        obtain ⟨q1, q2⟩ := Qe6 T n k (P ++ Q) (2 * t) (s * 2) (by omega) (by omega) (by rw [List.length_append]; omega) (g2.bl (Bl.last (by omega) (g3.one (by omega)))) (by omega)
        exact ⟨q1, F.trans g5 q2⟩
    · rw [show decide (s < n) = false by simpa using h, cond_false]
      exact ⟨hv.one (by omega), F.rfl⟩
theorem Q117 (T : Tot c) (d : List α) (n : Int) (hn : n = (d.length : Int)) : stb z c d n = Q5z c d := by
  unfold stb
  obtain ⟨P, Q, g1, g2, g3, g4⟩ := Qoh z T n ((n + 20 - 20).toNat + 1) [] d 0 20 rfl rfl (by simpa using hn) Fu.nil (by omega)
  rw [List.nil_append] at g1 g4
  rw [g1]
  simp only
  have hl := g4.1
  rw [List.length_append] at hl
  have e := Qsq z c (d := P ++ Q) (A := P) (M := Q) (C := []) (a := (P.length : Int)) (b := n) (by simp) rfl (by omega)
  rw [e, List.append_nil]
  have f := Qei T Q
  obtain ⟨q1, q2⟩ := Qe6 z T n ((n - 20).toNat + 1) (P ++ Q5z c Q) 20 20 rfl (by omega) (by rw [List.length_append, ← f.1]; omega) (g2.bl (Bl.last (by rw [← f.1]; omega) (Q97 T Q))) (by omega)
  exact uniq T q1 (Q97 T d) (F.trans q2.symm (F.trans (F.rfl.app f.symm) (F.trans g4.symm (Qei T d))))
end
end Go.Pv.Srt
end

section
/- The printed functions of the library's stable sort are the plain ones (printed by a program). -/
namespace Go.Proofs.Ytnhhddbbppbblaa
open Go.Pv Go.Pv.Srt
abbrev Q1z : Fld := zF
theorem Qjl (n0 : Nat) (a b i : Int) : ∀ (k : Nat) (v : List Fld) (j : Int), Q29 n0 a b i k v j = ins1 Q1z Q27 a k v j
  | 0, _, _ => rfl
  | k + 1, v, j => by
    rw [Q29, ins1, Qjl n0 a b i k]
    rfl
theorem Qhq (n0 : Nat) (a b : Int) : ∀ (k : Nat) (i : Int) (v : List Fld), Q2u n0 a b k i v = ins0 Q1z Q27 a b k i v
  | 0, _, _ => rfl
  | k + 1, i, v => by
    rw [Q2u, ins0, Qhq n0 a b k, Qjl]
theorem Qps (n0 : Nat) (d : List Fld) (a b : Int) : Q1c n0 d a b = ins Q1z Q27 d a b := Qhq n0 a b _ _ _
theorem Qja (n0 : Nat) (p q n : Int) : ∀ (k : Nat) (v : List Fld) (i : Int), Q2v n0 p q n k v i = swr1 Q1z p q n k v i
  | 0, _, _ => rfl
  | k + 1, v, i => by
    rw [Q2v, swr1, Qja n0 p q n k]
    rfl
theorem Qf6 (n0 : Nat) (d : List Fld) (p q n : Int) : Q18 n0 d p q n = swr Q1z d p q n := Qja n0 p q n _ _ _
theorem Q9o (n0 : Nat) (m : Int) : ∀ (k : Nat) (i j : Int) (v : List Fld), Q1q n0 m k i j v = rot1 Q1z m k i j v
  | 0, _, _, _ => rfl
  | k + 1, i, j, v => by
    rw [Q1q, rot1, Q9o n0 m k, Q9o n0 m k, Qf6, Qf6]
theorem Qz6 (n0 : Nat) (d : List Fld) (a m b : Int) : Qa n0 d a m b = rot Q1z d a m b := by
  unfold Qa rot
  rw [Q9o, Qf6]
theorem Qe1 (n0 : Nat) (d : List Fld) (a m b : Int) : ∀ (k : Nat) (i j : Int), Q2i n0 d a m b k i j = bs (fun h => decide (Q27 (gt Q1z d h) (gt Q1z d a) < 0)) k i j
  | 0, _, _ => rfl
  | k + 1, i, j => by
    rw [Q2i, bs, Qe1 n0 d a m b k, Qe1 n0 d a m b k]
    rfl
theorem Qph (n0 : Nat) : ∀ (k : Nat) (t : Int) (v : List Fld) (i : Int), Q2t n0 k t v i = mv1 Q1z k t v i
  | 0, _, _, _ => rfl
  | k + 1, t, v, i => by
    rw [Q2t, mv1, Qph n0 k]
    rfl
theorem Qfp (n0 : Nat) (d : List Fld) (a m : Int) : ∀ (k : Nat) (j i : Int), Q2j n0 d a m k j i = bs (fun h => !decide (Q27 (gt Q1z d m) (gt Q1z d h) < 0)) k i j
  | 0, _, _ => rfl
  | k + 1, j, i => by
    rw [Q2j, bs, Qfp n0 d a m k, Qfp n0 d a m k]
    cases decide (i < j) with
    | false => rfl
    | true =>
      show (bif decide (Q27 (gt Q1z d m) (gt Q1z d ((i + j) / 2)) < 0) then _ else _) = bif !decide (Q27 (gt Q1z d m) (gt Q1z d ((i + j) / 2)) < 0) then _ else _
      cases decide (Q27 (gt Q1z d m) (gt Q1z d ((i + j) / 2)) < 0) <;> rfl
theorem Qmy (n0 : Nat) : ∀ (k : Nat) (t : Int) (v : List Fld) (i : Int), Q2w n0 k t v i = mv3 Q1z k t v i
  | 0, _, _, _ => rfl
  | k + 1, t, v, i => by
    rw [Q2w, mv3, Qmy n0 k]
    rfl
theorem Qc7 (n0 : Nat) (d : List Fld) (a m b mid n p : Int) : ∀ (k : Nat) (i j : Int), Q0 n0 d a m b k mid n i j p = (mid, n, bs (sg Q1z Q27 d p) k i j)
  | 0, _, _ => rfl
  | k + 1, i, j => by
    rw [Q0, bs, Qc7 n0 d a m b mid n p k, Qc7 n0 d a m b mid n p k]
    cases decide (i < j) with
    | false => rfl
    | true =>
      show (bif decide (Q27 (gt Q1z d (p - (i + j) / 2)) (gt Q1z d ((i + j) / 2)) < 0) then _ else _) = (mid, n, bif !decide (Q27 (gt Q1z d (p - (i + j) / 2)) (gt Q1z d ((i + j) / 2)) < 0) then _ else _)
      cases decide (Q27 (gt Q1z d (p - (i + j) / 2)) (gt Q1z d ((i + j) / 2)) < 0) <;> rfl
theorem Qd5 (n0 : Nat) : ∀ (k : Nat) (d : List Fld) (a m b : Int), Q6 k n0 d a m b = sym Q1z Q27 k d a m b
  | 0, _, _, _, _ => rfl
  | k + 1, d, a, m, b => by
    rw [Q6, sym]
    simp only [Qd5 n0 k, Qe1, Qph, Qfp, Qmy, Qc7, Qz6]
    cases (m - a == 1) with
    | true => rfl
    | false =>
      cases (b - m == 1) with
      | true => rfl
      | false =>
        simp only [cond_false]
        unfold sst
        cases decide ((a + b) / 2 < m) with
        | true =>
          simp only [cond_true]
          generalize bs (sg Q1z Q27 d ((a + b) / 2 + m - 1)) (((a + b) / 2 - ((a + b) / 2 + m - b)).toNat + 1) ((a + b) / 2 + m - b) ((a + b) / 2) = st
          unfold sym2
          generalize (a + b) / 2 = mid
          cases decide (st < m) <;> cases decide (m < mid + m - st) <;> cases decide (a < st) <;> cases decide (st < mid) <;> cases decide (mid < mid + m - st) <;> cases decide (mid + m - st < b) <;> rfl
        | false =>
          simp only [cond_false]
          generalize bs (sg Q1z Q27 d ((a + b) / 2 + m - 1)) ((m - a).toNat + 1) a m = st
          unfold sym2
          generalize (a + b) / 2 = mid
          cases decide (st < m) <;> cases decide (m < mid + m - st) <;> cases decide (a < st) <;> cases decide (st < mid) <;> cases decide (mid < mid + m - st) <;> cases decide (mid + m - st < b) <;> rfl
theorem Qh5 (n0 : Nat) (n : Int) : ∀ (k : Nat) (v : List Fld) (a b : Int), Q20 n0 n k v a b = stb0 Q1z Q27 n k v a b
  | 0, _, _, _ => rfl
  | k + 1, v, a, b => by
    rw [Q20, stb0, Qh5 n0 n k, Qps]
theorem Qih (n0 : Nat) (n : Int) : ∀ (k : Nat) (v : List Fld) (a b s : Int), Qd n0 n k v a b s = stb2 Q1z Q27 n k v a b s
  | 0, _, _, _, _ => rfl
  | k + 1, v, a, b, s => by
    rw [Qd, stb2, Qih n0 n k, Qd5]
theorem Qh4 (n0 : Nat) (n : Int) : ∀ (k : Nat) (v : List Fld) (s : Int), Q2p n0 n k v s = stb1 Q1z Q27 n k v s
  | 0, _, _ => rfl
  | k + 1, v, s => by
    rw [Q2p, stb1]
    simp only [Qh4 n0 n k, Qih, Qd5]
    rfl
theorem Qxr (n0 : Nat) (d : List Fld) (n : Int) : Q3c n0 d n = stb Q1z Q27 d n := by
  unfold Q3c stb
  simp only [Qh4, Qps, Qh5]
theorem Qux (T : Tot Q27) (d : List Fld) : Qk d.length d = Q5z Q27 d := by
  unfold Qk
  rw [Qxr, Q117 _ T d _ rfl]
end Go.Proofs.Ytnhhddbbppbblaa
end

section
/- What setting and taking out a field computes (printed by a program). -/
namespace Go.Proofs.Ytnhhddbbppbblaa
open Go.Pv
def Q43 (p0 : Val) (p1 : ByteArray) (p2 : Val) : Val :=
 (Qgc (List.take (Q2f p0 p1).1 (Q2f p0 p1).2 ++ [(Fld.mk p1 p2)]))
def Q17r (p0 : Val) (p1 : ByteArray) (p2 : Val) : En := .call 30 [.agg (Val.cells p0), .str p1, .agg (Val.cells p2)] []
def Q15f (p0 : Val) (p1 : ByteArray) (p2 : Val) : Rs := .ret (.agg (Val.cells (Q43 p0 p1 p2))) []
def Qr9 (p0 : Val) (p1 : ByteArray) (p2 : Val) : Prop := (Q12p p0 p1) ∧ ((Q2f p0 p1).1 ≤ List.length (Q2f p0 p1).2) ∧ (((Q2f p0 p1).1 + 1) * 96 ≤ 140737488355328) ∧ (Qu4 (List.take (Q2f p0 p1).1 (Q2f p0 p1).2 ++ [(Fld.mk p1 p2)])) ∧ True
theorem Q14q (p0 : Val) (p1 : ByteArray) (p2 : Val) (H : Qr9 p0 p1 p2) : Q7 G (Q17r p0 p1 p2) (Q15f p0 p1 p2) := by
 unfold Q15f Q43
 exact Q9 (fn := Ir.K1p) rfl VOK.nil [hQ (Fld.Q5 (Q2f p0 p1).2 6 rfl), hV 10 [(640, Fld.rows (List.take (Q2f p0 p1).1 (Q2f p0 p1).2 ++ [(Fld.mk p1 p2)]))] (Q13h 320 576 640 6 96 0 true (Fld.rows (Q2f p0 p1).2) (Fld.rows (List.take (Q2f p0 p1).1 (Q2f p0 p1).2 ++ [(Fld.mk p1 p2)])) (Fld.cells (Fld.mk p1 p2)) (Q2f p0 p1).1 (List.length (List.take (Q2f p0 p1).1 (Q2f p0 p1).2 ++ [(Fld.mk p1 p2)])) rfl (by rw [Fld.Qc]; exact (H.2.1)) (Fld.Qc (List.take (Q2f p0 p1).1 (Q2f p0 p1).2 ++ [(Fld.mk p1 p2)])).symm (by rw [Fld.Q2n, Fld.Qbt]) (Fld.Ql (Q2f p0 p1).2) rfl (H.2.2.1)), hS 0 true (Fld.Q5 (List.take (Q2f p0 p1).1 (Q2f p0 p1).2 ++ [(Fld.mk p1 p2)]) 6 rfl), hQ (Fld.Qc (List.take (Q2f p0 p1).1 (Q2f p0 p1).2 ++ [(Fld.mk p1 p2)])).symm] [aV [(0, Fld.rows (Q2f p0 p1).2)] (Q15r p0 p1 H.1), aN (Q12b (List.take (Q2f p0 p1).1 (Q2f p0 p1).2 ++ [(Fld.mk p1 p2)]) H.2.2.2.1)] (by kernel_rfl)
def Qcy (p0 : Val) (p1 : ByteArray) : Val :=
 bif (p0.kind == 5) then
  (Qgc (Q2f p0 p1).2)
 else
  p0
def Q188 (p0 : Val) (p1 : ByteArray) : En := .call 28 [.agg (Val.cells p0), .str p1] []
def Q16c (p0 : Val) (p1 : ByteArray) : Rs := .ret (.agg (Val.cells (Qcy p0 p1))) []
def Q131 (p0 : Val) (p1 : ByteArray) : Prop := (Q12p p0 p1) ∧ ((p0.kind == 5) = true → (Q2f p0 p1).1 = List.length (Q2f p0 p1).2) ∧ (Qu4 (Q2f p0 p1).2) ∧ (Qdr p0) ∧ True
theorem Q17s (p0 : Val) (p1 : ByteArray) (H : Q131 p0 p1) : Q7 G (Q188 p0 p1) (Q16c p0 p1) := by
 unfold Q16c Qcy
 cases h0 : (p0.kind == 5) with
 | true =>
  exact Q9 (fn := Ir.K1q) rfl VOK.nil [hP 4 (dec (!(p0.kind == 5)) false (by rw [h0]; rfl)), hQ (Fld.Q5 (Q2f p0 p1).2 6 rfl), hQ ((H.2.1 h0).trans (Fld.Qc (Q2f p0 p1).2).symm)] [aV [(0, Fld.rows (Q2f p0 p1).2)] (Q15r p0 p1 H.1), aN (Q12b (Q2f p0 p1).2 H.2.2.1)] (by kernel_rfl)
 | false =>
  exact Q9 (fn := Ir.K1q) rfl VOK.nil [hP 4 (dec (!(p0.kind == 5)) true (by rw [h0]; rfl))] [aN (Q12c p0 H.2.2.2.1)] (by kernel_rfl)
def s_Kr (p0 : Val) (p1 : ByteArray) (p2 : Val) : Val :=
 (s_Km (List.take (s_Ku p0 p1).1 (s_Ku p0 p1).2 ++ [(Fld.mk p1 p2)]))
def c_Kr (p0 : Val) (p1 : ByteArray) (p2 : Val) : En := .call 32 [.agg (Val.cells p0), .str p1, .agg (Val.cells p2)] []
def a_Kr (p0 : Val) (p1 : ByteArray) (p2 : Val) : Rs := .ret (.agg (Val.cells (s_Kr p0 p1 p2))) []
def H_Kr (p0 : Val) (p1 : ByteArray) (p2 : Val) : Prop := (H_Ku p0 p1) ∧ ((s_Ku p0 p1).1 ≤ List.length (s_Ku p0 p1).2) ∧ (((s_Ku p0 p1).1 + 1) * 96 ≤ 140737488355328) ∧ (H_Km (List.take (s_Ku p0 p1).1 (s_Ku p0 p1).2 ++ [(Fld.mk p1 p2)])) ∧ True
theorem t_Kr (p0 : Val) (p1 : ByteArray) (p2 : Val) (H : H_Kr p0 p1 p2) : Q7 G (c_Kr p0 p1 p2) (a_Kr p0 p1 p2) := by
 unfold a_Kr s_Kr
 exact Q9 (fn := Ir.Kr) rfl VOK.nil [hQ (Fld.Q5 (s_Ku p0 p1).2 6 rfl), hV 12 [(768, Fld.rows (List.take (s_Ku p0 p1).1 (s_Ku p0 p1).2 ++ [(Fld.mk p1 p2)]))] (Q13h 320 704 768 6 96 0 true (Fld.rows (s_Ku p0 p1).2) (Fld.rows (List.take (s_Ku p0 p1).1 (s_Ku p0 p1).2 ++ [(Fld.mk p1 p2)])) (Fld.cells (Fld.mk p1 p2)) (s_Ku p0 p1).1 (List.length (List.take (s_Ku p0 p1).1 (s_Ku p0 p1).2 ++ [(Fld.mk p1 p2)])) rfl (by rw [Fld.Qc]; exact (H.2.1)) (Fld.Qc (List.take (s_Ku p0 p1).1 (s_Ku p0 p1).2 ++ [(Fld.mk p1 p2)])).symm (by rw [Fld.Q2n, Fld.Qbt]) (Fld.Ql (s_Ku p0 p1).2) rfl (H.2.2.1)), hS 0 true (Fld.Q5 (List.take (s_Ku p0 p1).1 (s_Ku p0 p1).2 ++ [(Fld.mk p1 p2)]) 6 rfl), hQ (Fld.Qc (List.take (s_Ku p0 p1).1 (s_Ku p0 p1).2 ++ [(Fld.mk p1 p2)])).symm] [aV [(0, Fld.rows (s_Ku p0 p1).2)] (t_Ku p0 p1 H.1), aN (t_Km (List.take (s_Ku p0 p1).1 (s_Ku p0 p1).2 ++ [(Fld.mk p1 p2)]) H.2.2.2.1)] (by kernel_rfl)
def s_Ks (p0 : Val) (p1 : ByteArray) : Val :=
 bif (p0.kind == 5) then
  (s_Km (s_Ku p0 p1).2)
 else
  (s_Kj p0)
def c_Ks (p0 : Val) (p1 : ByteArray) : En := .call 31 [.agg (Val.cells p0), .str p1] []
def a_Ks (p0 : Val) (p1 : ByteArray) : Rs := .ret (.agg (Val.cells (s_Ks p0 p1))) []
def H_Ks (p0 : Val) (p1 : ByteArray) : Prop := (H_Ku p0 p1) ∧ ((p0.kind == 5) = true → (s_Ku p0 p1).1 = List.length (s_Ku p0 p1).2) ∧ (H_Km (s_Ku p0 p1).2) ∧ (H_Kj p0) ∧ True
theorem t_Ks (p0 : Val) (p1 : ByteArray) (H : H_Ks p0 p1) : Q7 G (c_Ks p0 p1) (a_Ks p0 p1) := by
 unfold a_Ks s_Ks
 cases h0 : (p0.kind == 5) with
 | true =>
  exact Q9 (fn := Ir.Ks) rfl VOK.nil [hP 4 (dec (!(p0.kind == 5)) false (by rw [h0]; rfl)), hQ (Fld.Q5 (s_Ku p0 p1).2 6 rfl), hQ ((H.2.1 h0).trans (Fld.Qc (s_Ku p0 p1).2).symm)] [aV [(0, Fld.rows (s_Ku p0 p1).2)] (t_Ku p0 p1 H.1), aN (t_Km (s_Ku p0 p1).2 H.2.2.1)] (by kernel_rfl)
 | false =>
  exact Q9 (fn := Ir.Ks) rfl VOK.nil [hP 4 (dec (!(p0.kind == 5)) true (by rw [h0]; rfl))] [aN (t_Kj p0 H.2.2.2.1)] (by kernel_rfl)
end Go.Proofs.Ytnhhddbbppbblaa
end

section
/- Comparisons that answer -1, 0 or 1; the order of strings. -/
namespace Go.Pv
def R3 (a : Int) : Prop := a = -1 ∨ a = 0 ∨ a = 1
def T3 (a b e : Int) : Prop := (a = 0 → e = b) ∧ (b = 0 → e = a) ∧ (a = b → e = a)
def lx (a b : Int) : Int := if a = 0 then b else a
def icmp (a b : Int) : Int := if a < b then -1 else if b < a then 1 else 0
theorem Q17j (a b : Int) : lx (-a) (-b) = -lx a b := by
  unfold lx
  split <;> split <;> omega
theorem Q17u {a b e a' b' e' : Int} (_ha : R3 a) (_hb : R3 b) (_he : R3 e) (t : T3 a b e) (t' : T3 a' b' e') : T3 (lx a a') (lx b b') (lx e e') := by
  unfold T3 at *
  unfold lx R3 at *
  split <;> split <;> split <;> omega
theorem Qro (a b : Int) : R3 (icmp a b) := by
  unfold icmp R3
  split
  · omega
  · split <;> omega
theorem Q125 (a b : Int) : icmp b a = -icmp a b := by
  unfold icmp
  split <;> split <;> first | omega | (split <;> omega) | skip
  all_goals omega
theorem Q14n (a b e : Int) : T3 (icmp a b) (icmp b e) (icmp a e) := by
  unfold T3 icmp
  split <;> split <;> split <;> (try split) <;> (try split) <;> (try split) <;> omega
theorem Qzh {a b : Int} : icmp a b = 0 ↔ a = b := by
  unfold icmp
  constructor
  · intro h
    split at h
    · omega
    · split at h <;> omega
  · intro h
    rw [if_neg (by omega), if_neg (by omega)]
theorem Qrd : ∀ a b : List UInt8, R3 (cmpL a b)
  | [], [] => Or.inr (Or.inl rfl)
  | [], _ :: _ => Or.inl rfl
  | _ :: _, [] => Or.inr (Or.inr rfl)
  | x :: a, y :: b => by
    rw [cmpL]
    split
    · exact Or.inl rfl
    · split
      · exact Or.inr (Or.inr rfl)
      · exact Qrd a b
theorem Q53 (x y : UInt8) (a b : List UInt8) : cmpL (x :: a) (y :: b) = lx (icmp (x.toNat : Int) (y.toNat : Int)) (cmpL a b) := by
  rw [cmpL]
  unfold lx icmp
  simp only [UInt8.lt_iff_toNat_lt]
  by_cases h1 : x.toNat < y.toNat
  · rw [if_pos h1, if_pos (show (x.toNat : Int) < (y.toNat : Int) by omega)]
    rfl
  · by_cases h2 : y.toNat < x.toNat
    · rw [if_neg h1, if_pos h2, if_neg (show ¬ (x.toNat : Int) < (y.toNat : Int) by omega), if_pos (show (y.toNat : Int) < (x.toNat : Int) by omega)]
      rfl
    · rw [if_neg h1, if_neg h2, if_neg (show ¬ (x.toNat : Int) < (y.toNat : Int) by omega), if_neg (show ¬ (y.toNat : Int) < (x.toNat : Int) by omega)]
      rfl
theorem Qkq : ∀ a b : List UInt8, cmpL b a = -cmpL a b
  | [], [] => rfl
  | [], _ :: _ => rfl
  | _ :: _, [] => rfl
  | x :: a, y :: b => by rw [Q53, Q53, Qkq a b, Q125 (x.toNat : Int) (y.toNat : Int), Q17j]
theorem Q11d : ∀ a b d : List UInt8, T3 (cmpL a b) (cmpL b d) (cmpL a d)
  | [], [], [] => by simp [T3, cmpL]
  | [], [], _ :: _ => by simp [T3, cmpL]
  | [], _ :: _, [] => by simp [T3, cmpL]
  | [], _ :: _, _ :: _ => by simp [T3, cmpL]
  | _ :: _, [], [] => by simp [T3, cmpL]
  | _ :: _, [], _ :: _ => by simp [T3, cmpL]
  | x :: a, y :: b, [] => by
    have h := Qrd (x :: a) (y :: b)
    unfold R3 at h
    unfold T3
    rw [show cmpL (y :: b) [] = 1 from rfl, show cmpL (x :: a) [] = 1 from rfl]
    omega
  | x :: a, y :: b, w :: d => by
    rw [Q53, Q53, Q53]
    exact Q17u (Qro _ _) (Qro _ _) (Qro _ _) (Q14n _ _ _) (Q11d a b d)
theorem Qnt : ∀ a b : List UInt8, cmpL a b = 0 → a = b
  | [], [], _ => rfl
  | [], _ :: _, h => by simp [cmpL] at h
  | _ :: _, [], h => by simp [cmpL] at h
  | x :: a, y :: b, h => by
    rw [Q53] at h
    unfold lx at h
    split at h
    · rename_i e
      have := Qzh.1 e
      rw [UInt8.toNat_inj.1 (show x.toNat = y.toNat by omega), Qnt a b h]
    · omega
theorem Q10r (a : List UInt8) : cmpL a a = 0 := by
  have := Qkq a a
  omega
theorem Qt3 : ∀ a b : List UInt8, Op.bytesLess a b = decide (cmpL a b < 0)
  | [], [] => rfl
  | [], _ :: _ => rfl
  | _ :: _, [] => rfl
  | x :: a, y :: b => by
    have ih := Qt3 a b
    rw [Op.bytesLess, cmpL, ih]
    by_cases h : x < y
    · simp [h]
    · by_cases h2 : y < x
      · have h3 : ¬ x = y := fun e => h (e ▸ h2)
        simp [h, h2, h3]
      · have h3 : x = y := by
          rw [UInt8.lt_iff_toNat_lt] at h h2
          exact UInt8.toNat_inj.1 (by omega)
        simp [h3]
theorem Q9n (a b : ByteArray) : R3 (sCmp a b) := Qrd _ _
theorem Q3y (a b : ByteArray) : sCmp b a = -sCmp a b := Qkq _ _
theorem Q107 (a b d : ByteArray) : T3 (sCmp a b) (sCmp b d) (sCmp a d) := Q11d _ _ _
theorem Qfh {a b : ByteArray} : sCmp a b = 0 ↔ a = b := ⟨fun h => toList_inj (Qnt _ _ h), fun h => by rw [h]; exact Q10r _⟩
theorem Qjy (a b : ByteArray) : sLt a b = decide (sCmp a b < 0) := Qt3 _ _
theorem Q145 (a b : ByteArray) : sEq a b = decide (sCmp a b = 0) := by
  rw [Q14r]
  simp only [Qfh]
theorem Q109 (a b : ByteArray) : (sLt a b || sEq a b) = !sLt b a := by
  rw [Qjy, Q145, Qjy, Q3y a b]
  have := Q9n a b
  unfold R3 at this
  rcases this with h | h | h <;> rw [h] <;> rfl
end Go.Pv
end

section
/- Values in plain words: the two comparisons agree and answer 0 for equal values alone. -/
namespace Go.Proofs.Ytnhhddbbppbblaa
open Go.Pv
theorem vind {P : Val → Prop} (h : ∀ v : Val, (∀ x ∈ v.list, P x) → (∀ f ∈ v.fields, P f.v) → P v) : ∀ v, P v := by
  have key : ∀ (k : Nat) (v : Val), SizeOf.sizeOf v < k → P v := by
    intro k
    induction k with
    | zero => intro v hv; exact absurd hv (Nat.not_lt_zero _)
    | succ k ih => intro v hv; exact h v (fun x hx => ih x (by have := szM hx; omega)) (fun f hf => ih f.v (by have := szN hf; omega))
  exact fun v => key _ v (Nat.lt_succ_self _)
theorem Qsh (p q : Val) : ∀ (r : List Val) (i : Nat), p.list.drop i = r → p.list.length = q.list.length → (∀ x ∈ r, ∀ y, s_Ky x y = true ↔ x = y) → (Q4r p q r i = .k0 ↔ q.list.drop i = r)
  | [], i, hd, hl, _ => by
    rw [Q4r]
    have := List.drop_eq_nil_iff.1 hd
    simp [List.drop_eq_nil_iff.2 (hl ▸ this)]
  | x :: r, i, hd, hl, hx => by
    obtain ⟨h1, h2, h3⟩ := Q17 hd
    have hq : i < q.list.length := by omega
    rw [Q4r, List.drop_eq_getElem_cons hq, List.getD_eq_getElem?_getD, List.getElem?_eq_getElem hq, Option.getD_some]
    have ih := Qsh p q r (i + 1) h3 hl fun y hy => hx y (List.mem_cons_of_mem _ hy)
    have k := hx x List.mem_cons_self q.list[i]
    cases e : s_Ky x q.list[i] with
    | true =>
      rw [cond_true, ih]
      have e' := k.1 e
      constructor
      · intro g; rw [g, ← e']
      · intro g; injection g
    | false =>
      rw [cond_false]
      constructor
      · intro g; cases g
      · intro g
        injection g with g1 g2
        rw [k.2 g1.symm] at e
        cases e
theorem Qtl (p q : Val) : ∀ (r : List Fld) (i : Nat), p.fields.drop i = r → p.fields.length = q.fields.length → (∀ x ∈ r, ∀ y, s_Ky x.v y = true ↔ x.v = y) → (Q4w p q r i = .k0 ↔ q.fields.drop i = r)
  | [], i, hd, hl, _ => by
    rw [Q4w]
    have := List.drop_eq_nil_iff.1 hd
    simp [List.drop_eq_nil_iff.2 (hl ▸ this)]
  | x :: r, i, hd, hl, hx => by
    obtain ⟨h1, h2, h3⟩ := Q17 hd
    have hq : i < q.fields.length := by omega
    rw [Q4w, List.drop_eq_getElem_cons hq, List.getD_eq_getElem?_getD, List.getElem?_eq_getElem hq, Option.getD_some]
    have ih := Qtl p q r (i + 1) h3 hl fun y hy => hx y (List.mem_cons_of_mem _ hy)
    have k := hx x List.mem_cons_self q.fields[i].v
    cases en : sEq x.name q.fields[i].name with
    | false =>
      rw [cond_false]
      constructor
      · intro g; cases g
      · intro g
        injection g with g1 g2
        rw [g1] at en
        exact absurd (Q3k.2 rfl) (by rw [en]; simp)
    | true =>
      rw [cond_true]
      cases e : s_Ky x.v q.fields[i].v with
      | true =>
        rw [cond_true, ih]
        have e' := k.1 e
        have e1 : x = q.fields[i] := by
          have n := Q3k.1 en
          revert e' n
          generalize q.fields[i] = y
          intro a b
          cases x; cases y
          simp only [Fld.name, Fld.v] at a b
          rw [a, b]
        constructor
        · intro g; rw [g, ← e1]
        · intro g; injection g
      | false =>
        rw [cond_false]
        constructor
        · intro g; cases g
        · intro g
          injection g with g1 g2
          rw [k.2 (by rw [g1])] at e
          cases e
theorem Qz5 : ∀ a b : Val, s_Ky a b = true ↔ a = b := vind fun a h1 h2 b => by
  have b0 := fun hl => Qsh a b a.list 0 rfl hl h1
  have b1 := fun hl => Qtl a b a.fields 0 rfl hl h2
  rw [s_Ky]
  constructor
  · intro h
    cases c1 : a.kind == b.kind with
    | false => rw [c1] at h; cases h
    | true =>
      rw [c1, cond_true] at h
      cases c2 : a.n == b.n with
      | false => rw [c2] at h; cases h
      | true =>
        rw [c2, cond_true] at h
        cases c3 : sEq a.s b.s with
        | false => rw [c3] at h; cases h
        | true =>
          rw [c3, cond_true] at h
          cases c4 : ((a.list.length : Int) == (b.list.length : Int)) with
          | false => rw [c4] at h; cases h
          | true =>
            rw [c4, cond_true] at h
            cases c5 : ((a.fields.length : Int) == (b.fields.length : Int)) with
            | false => rw [c5] at h; cases h
            | true =>
              rw [c5, cond_true] at h
              have e4 := eq_of_beq c4
              have e5 := eq_of_beq c5
              cases l0 : Q4r a b a.list 0 with
              | k1 => rw [l0] at h; cases h
              | k0 =>
                rw [l0] at h
                cases l1 : Q4w a b a.fields 0 with
                | k1 => rw [l1] at h; cases h
                | k0 =>
                  have g0 := (b0 (by omega)).1 l0
                  have g1 := (b1 (by omega)).1 l1
                  rw [List.drop_zero] at g0 g1
                  have q1 := eq_of_beq c1
                  have q2 := eq_of_beq c2
                  have q3 := Q3k.1 c3
                  revert q1 q2 q3 g0 g1
                  clear h b0 b1 h1 h2 l0 l1 c1 c2 c3 c4 c5 e4 e5
                  cases a; cases b
                  simp only [Val.kind, Val.n, Val.s, Val.list, Val.fields]
                  intro q1 q2 q3 g0 g1
                  rw [q1, q2, q3, g0, g1]
  · rintro rfl
    rw [(b0 rfl).2 rfl, (b1 rfl).2 rfl, Q3k.2 rfl]
    simp
end Go.Proofs.Ytnhhddbbppbblaa
end

section
/- Lists of fields: strictly sorted lists are known by their members; keeping the last field of each name of a sorted list; putting a field into a sorted list. -/
namespace Go.Pv
open Srt
theorem Q4h (a : ByteArray) : sCmp a a = 0 := Qfh.2 rfl
theorem Ql9 {a b d : ByteArray} (h : sCmp a b < 0) (g : sCmp b d < 0) : sCmp a d < 0 := by
  have t := Q107 a b d
  have h1 := Q9n a b
  have h2 := Q9n b d
  unfold R3 at h1 h2
  unfold T3 at t
  omega
theorem Qq7 {a b : ByteArray} : sEq a b = false ↔ a ≠ b := by
  cases h : sEq a b with
  | true => simp [Q3k.1 h]
  | false => exact ⟨fun _ e => (by rw [Q3k.2 e] at h; cases h), fun _ => rfl⟩
theorem Q89 (a b : ByteArray) : sCmp a b < 0 ∨ a = b ∨ sCmp b a < 0 := by
  have h1 := Q9n a b
  have h2 := Q3y a b
  have h3 : sCmp a b = 0 → a = b := Qfh.1
  unfold R3 at h1
  by_cases e : sCmp a b = 0
  · exact .inr (.inl (h3 e))
  · omega
theorem Q6q {α : Type} (f : α → ByteArray) : Tot (fun x y : α => sCmp (f x) (f y)) := by
  refine ⟨fun x y h => ?_, fun x y w h g => ?_⟩
  · rw [Q3y]
    omega
  · have t := Q107 (f w) (f y) (f x)
    have h1 := Q9n (f w) (f y)
    have h2 := Q9n (f y) (f x)
    rw [Q3y] at h
    rw [Q3y] at g
    have h3 := Q3y (f w) (f y)
    have h4 := Q3y (f y) (f x)
    have h5 := Q3y (f y) (f w)
    have h6 := Q3y (f x) (f y)
    unfold R3 at h1 h2
    unfold T3 at t
    omega
abbrev nlt (x y : Fld) : Prop := sCmp x.name y.name < 0
def SS (l : List Fld) : Prop := l.Pairwise nlt
theorem SS.cons {x : Fld} {l : List Fld} : SS (x :: l) ↔ (∀ y ∈ l, nlt x y) ∧ SS l := List.pairwise_cons
theorem SS.nil : SS [] := List.Pairwise.nil
theorem Qrl (x : Fld) : ¬ nlt x x := by unfold nlt; rw [Q4h]; omega
theorem Qxm : ∀ {l r : List Fld}, SS l → SS r → (∀ f, f ∈ l ↔ f ∈ r) → l = r
  | [], [], _, _, _ => rfl
  | [], y :: r, _, _, h => by have := (h y).2 List.mem_cons_self; cases this
  | x :: l, [], _, _, h => by have := (h x).1 List.mem_cons_self; cases this
  | x :: l, y :: r, hl, hr, h => by
    obtain ⟨hx, hl'⟩ := SS.cons.1 hl
    obtain ⟨hy, hr'⟩ := SS.cons.1 hr
    have e : x = y := by
      rcases List.mem_cons.1 ((h x).1 List.mem_cons_self) with e | e
      · exact e
      · rcases List.mem_cons.1 ((h y).2 List.mem_cons_self) with e' | e'
        · exact e'.symm
        · exact absurd (Ql9 (hx y e') (hy x e)) (Qrl x)
    subst e
    have k1 : ∀ f, f ∈ l → f ∈ r := fun f hf => by
      rcases List.mem_cons.1 ((h f).1 (List.mem_cons_of_mem _ hf)) with e | e
      · subst e; exact absurd (hx _ hf) (Qrl _)
      · exact e
    have k2 : ∀ f, f ∈ r → f ∈ l := fun f hf => by
      rcases List.mem_cons.1 ((h f).2 (List.mem_cons_of_mem _ hf)) with e | e
      · subst e; exact absurd (hy _ hf) (Qrl _)
      · exact e
    rw [Qxm hl' hr' fun f => ⟨k1 f, k2 f⟩]
theorem SS.filter {l : List Fld} (h : SS l) (p : Fld → Bool) : SS (l.filter p) := h.sublist List.filter_sublist
theorem SS.inj {l : List Fld} (h : SS l) {x y : Fld} (hx : x ∈ l) (hy : y ∈ l) (e : x.name = y.name) : x = y := by
  induction l with
  | nil => cases hx
  | cons z l ih =>
    obtain ⟨hz, hl⟩ := SS.cons.1 h
    rcases List.mem_cons.1 hx with e1 | hx' <;> rcases List.mem_cons.1 hy with e2 | hy'
    · rw [e1, e2]
    · subst e1; have := hz y hy'; unfold nlt at this; rw [e, Q4h] at this; omega
    · subst e2; have := hz x hx'; unfold nlt at this; rw [e, Q4h] at this; omega
    · exact ih hl hx' hy'
def lastOf (l : List Fld) (f : Fld) : Prop := (l.filter fun y => decide (y.name = f.name)).getLast? = some f
theorem Qa5 (f : Fld) : ¬ lastOf [] f := by simp [lastOf]
theorem Qqk (l : List Fld) (x f : Fld) : lastOf (l ++ [x]) f ↔ f = x ∨ (lastOf l f ∧ f.name ≠ x.name) := by
  unfold lastOf
  rw [List.filter_append]
  by_cases h : x.name = f.name
  · rw [show ([x].filter fun y => decide (y.name = f.name)) = [x] by simp [h], List.getLast?_append]
    simp [h, eq_comm]
  · rw [show ([x].filter fun y => decide (y.name = f.name)) = [] by simp [h], List.append_nil]
    exact ⟨fun g => .inr ⟨g, fun e => h e.symm⟩, fun g => by
      rcases g with rfl | g
      · exact absurd rfl h
      · exact g.1⟩
theorem Q7n (x f : Fld) (l : List Fld) : lastOf (x :: l) f ↔ lastOf l f ∨ (f = x ∧ ∀ y ∈ l, y.name ≠ x.name) := by
  unfold lastOf
  by_cases h : x.name = f.name
  · rw [List.filter_cons_of_pos (by simpa using h)]
    cases e : l.filter fun y => decide (y.name = f.name) with
    | nil =>
      have := List.filter_eq_nil_iff.1 e
      simp only [List.getLast?_singleton, Option.some.injEq, List.getLast?_nil, reduceCtorEq, false_or]
      exact ⟨fun g => ⟨g.symm, fun y hy => by have := this y hy; rw [h]; simpa using this⟩, fun g => g.1.symm⟩
    | cons a r =>
      rw [List.getLast?_cons_cons]
      refine ⟨.inl, fun g => ?_⟩
      rcases g with g | g
      · exact g
      · have : a ∈ l.filter fun y => decide (y.name = f.name) := by rw [e]; exact List.mem_cons_self
        obtain ⟨h1, h2⟩ := List.mem_filter.1 this
        exact absurd ((of_decide_eq_true h2).trans (by rw [g.1])) (g.2 a h1)
  · rw [List.filter_cons_of_neg (by simpa using h)]
    exact ⟨.inl, fun g => by
      rcases g with g | g
      · exact g
      · exact absurd (by rw [g.1]) h⟩
theorem Qw1 {l : List Fld} {f : Fld} (h : lastOf l f) : f ∈ l := (List.mem_filter.1 (List.mem_of_getLast? h)).1
theorem Q11e {l : List Fld} (h : SS l) (f : Fld) : lastOf l f ↔ f ∈ l := by
  induction l with
  | nil => exact ⟨fun g => absurd g (Qa5 f), fun g => by cases g⟩
  | cons x l ih =>
    obtain ⟨hx, hl⟩ := SS.cons.1 h
    rw [Q7n, ih hl, List.mem_cons]
    exact ⟨fun g => g.elim .inr fun g => .inl g.1, fun g => g.elim (fun g => .inr ⟨g, fun y hy e => by have := hx y hy; unfold nlt at this; rw [e, Q4h] at this; omega⟩) .inl⟩
def lasts : List Fld → List Fld
  | [] => []
  | [x] => [x]
  | x :: y :: r => bif sEq y.name x.name then lasts (y :: r) else x :: lasts (y :: r)
abbrev cNm (x y : Fld) : Int := sCmp x.name y.name
theorem Qog : ∀ (l : List Fld), Up cNm l → ∀ f, f ∈ lasts l ↔ lastOf l f
  | [], _, f => ⟨fun g => (by cases g), fun g => absurd g (Qa5 f)⟩
  | [x], _, f => by
    rw [Q7n]
    simp [lasts, Qa5]
  | x :: y :: r, h, f => by
    have h' := List.pairwise_cons.1 h
    have ih := Qog (y :: r) h'.2 f
    rw [lasts, Q7n]
    cases e : sEq y.name x.name with
    | true =>
      rw [cond_true, ih]
      exact ⟨.inl, fun g => g.elim id fun g => absurd (Q3k.1 e) (g.2 y List.mem_cons_self)⟩
    | false =>
      rw [cond_false, List.mem_cons, ih]
      refine ⟨fun g => g.elim (fun g => .inr ⟨g, fun w hw hn => ?_⟩) .inl, fun g => g.elim .inr fun g => .inl g.1⟩
      have e := Qq7.1 e
      rcases List.mem_cons.1 hw with rfl | hw
      · exact e hn
      · have h1 := (List.pairwise_cons.1 h'.2).1 w hw
        have h2 := h'.1 y List.mem_cons_self
        unfold le cNm at h1 h2
        rw [hn] at h1
        rcases Q89 x.name y.name with g | g | g
        · exact h1 g
        · exact e g.symm
        · exact h2 g
theorem Q68 : ∀ (l : List Fld), (lasts l).Sublist l
  | [] => List.Sublist.slnil
  | [x] => List.Sublist.refl _
  | x :: y :: r => by
    rw [lasts]
    cases sEq y.name x.name with
    | true => exact (Q68 (y :: r)).cons x
    | false => exact (Q68 (y :: r)).cons_cons x
theorem Q135 (l : List Fld) (h : Up cNm l) : SS (lasts l) := by
  induction l with
  | nil => exact SS.nil
  | cons x l ih =>
    cases l with
    | nil => exact SS.cons.2 ⟨fun _ g => (by cases g), SS.nil⟩
    | cons y r =>
      have h' := List.pairwise_cons.1 h
      rw [lasts]
      cases e : sEq y.name x.name with
      | true => exact ih h'.2
      | false =>
        rw [cond_false]
        refine SS.cons.2 ⟨fun w hw => ?_, ih h'.2⟩
        have e := Qq7.1 e
        have h2 := h'.1 y List.mem_cons_self
        unfold le cNm at h2
        have hxy : sCmp x.name y.name < 0 := by
          rcases Q89 x.name y.name with g | g | g
          · exact g
          · exact absurd g.symm e
          · exact absurd g h2
        rcases List.mem_cons.1 ((Q68 _).mem hw) with rfl | hw
        · exact hxy
        · have h1 := (List.pairwise_cons.1 h'.2).1 w hw
          unfold le cNm at h1
          unfold nlt
          rcases Q89 y.name w.name with g | g | g
          · exact Ql9 hxy g
          · rw [← g]; exact hxy
          · exact absurd g h1
theorem Q16x (x y : Fld) : Srt.eqv cNm x y = decide (y.name = x.name) := by
  unfold Srt.eqv cNm
  have h1 : (y.name = x.name) ↔ (¬ sCmp x.name y.name < 0 ∧ ¬ sCmp y.name x.name < 0) := by
    constructor
    · intro e; rw [e, Q4h]; omega
    · intro ⟨g1, g2⟩
      rcases Q89 x.name y.name with g | g | g
      · exact absurd g g1
      · exact g.symm
      · exact absurd g g2
  rw [← Bool.decide_and]
  exact decide_eq_decide.2 h1.symm
theorem Q121 {l r : List Fld} (h : F cNm l r) (f : Fld) : lastOf l f ↔ lastOf r f := by
  have := h.2 f
  unfold lastOf
  rw [show (fun y : Fld => decide (y.name = f.name)) = Srt.eqv cNm f from funext fun y => (Q16x f y).symm, this]
def mapOf (l : List Fld) : List Fld := lasts (Q5z cNm l)
theorem Qb5 (l : List Fld) : SS (mapOf l) := Q135 _ (Q97 (Q6q Fld.name) l)
theorem Q99 (l : List Fld) (f : Fld) : f ∈ mapOf l ↔ lastOf l f := by
  unfold mapOf
  rw [Qog _ (Q97 (Q6q Fld.name) l)]
  exact (Q121 (Qei (Q6q Fld.name) l) f).symm
theorem Qrc {l : List Fld} (h : SS l) : mapOf l = l := Qxm (Qb5 l) h fun f => by rw [Q99, Q11e h]
theorem Q12j {l r : List Fld} (h : SS r) (g : ∀ f, f ∈ r ↔ lastOf l f) : mapOf l = r := Qxm (Qb5 l) h fun f => by rw [Q99, g]
theorem Qpx {α : Type} (c : α → α → Int) (T : Tot c) (l : List α) : (Q5z c l).length = l.length := (Qei T l).1.symm
theorem Q115 (l : List Fld) : (mapOf l).length ≤ l.length := Nat.le_trans (Q68 _).length_le (Nat.le_of_eq (Qpx _ (Q6q Fld.name) l))
theorem Qyl {l : List Fld} {f : Fld} (h : f ∈ mapOf l) : f ∈ l := Qw1 ((Q99 l f).1 h)
def insF (x : Fld) : List Fld → List Fld
  | [] => [x]
  | y :: r => if sCmp y.name x.name < 0 then y :: insF x r else if y.name = x.name then x :: r else x :: y :: r
theorem Qlx {x : Fld} : ∀ {l : List Fld}, SS l → ∀ f, f ∈ insF x l ↔ f = x ∨ (f ∈ l ∧ f.name ≠ x.name)
  | [], _, f => by simp [insF]
  | y :: r, h, f => by
    obtain ⟨hy, hr⟩ := SS.cons.1 h
    rw [insF]
    split
    · rename_i c
      rw [List.mem_cons, Qlx hr, List.mem_cons]
      have : y.name ≠ x.name := fun e => by rw [e, Q4h] at c; omega
      exact ⟨fun g => by
        rcases g with g | g | g
        · subst g; exact .inr ⟨.inl rfl, this⟩
        · exact .inl g
        · exact .inr ⟨.inr g.1, g.2⟩, fun g => by
        rcases g with g | ⟨g | g, g'⟩
        · exact .inr (.inl g)
        · exact .inl g
        · exact .inr (.inr ⟨g, g'⟩)⟩
    · rename_i c
      have ge : ∀ w ∈ r, w.name ≠ x.name := fun w hw e => by
        have := hy w hw
        unfold nlt at this
        rw [e] at this
        exact c this
      split
      · rename_i e
        rw [List.mem_cons, List.mem_cons]
        exact ⟨fun g => g.elim .inl fun g => .inr ⟨.inr g, ge f g⟩, fun g => g.elim .inl fun g => g.1.elim (fun g1 => by subst g1; exact absurd e g.2) .inr⟩
      · rename_i e
        rw [List.mem_cons, List.mem_cons]
        exact ⟨fun g => by
          rcases g with g | g | g
          · exact .inl g
          · subst g; exact .inr ⟨.inl rfl, e⟩
          · exact .inr ⟨.inr g, ge f g⟩, fun g => g.elim .inl fun g => .inr g.1⟩
theorem Qrq {x : Fld} : ∀ {l : List Fld}, SS l → SS (insF x l)
  | [], _ => SS.cons.2 ⟨fun _ g => (by cases g), SS.nil⟩
  | y :: r, h => by
    obtain ⟨hy, hr⟩ := SS.cons.1 h
    rw [insF]
    split
    · rename_i c
      exact SS.cons.2 ⟨fun w hw => by
        rcases (Qlx hr w).1 hw with g | g
        · rw [g]; exact c
        · exact hy w g.1, Qrq hr⟩
    · rename_i c
      split
      · rename_i e
        exact SS.cons.2 ⟨fun w hw => by have := hy w hw; unfold nlt at this ⊢; rw [← e]; exact this, hr⟩
      · rename_i e
        have g : sCmp x.name y.name < 0 := by
          rcases Q89 x.name y.name with g | g | g
          · exact g
          · exact absurd g.symm e
          · exact absurd g c
        exact SS.cons.2 ⟨fun w hw => by
          rcases List.mem_cons.1 hw with e | hw
          · subst e; exact g
          · exact Ql9 g (hy w hw), h⟩
theorem Qwd (l : List Fld) (x : Fld) : mapOf (l ++ [x]) = insF x (mapOf l) :=
  Q12j (Qrq (Qb5 l)) fun f => by rw [Qlx (Qb5 l), Q99, Qqk]
theorem Qfd : mapOf [] = [] := Qrc SS.nil
theorem Qda : ∀ (l p : List Fld), l.foldl (fun a x => insF x a) (mapOf p) = mapOf (p ++ l)
  | [], p => by simp
  | x :: l, p => by
    rw [List.foldl_cons, ← Qwd, Qda l]
    simp
end Go.Pv
end

section
/- How many values a value holds; what that bounds. -/
namespace Go.Pv
open Srt
mutual
def tot (v : Val) : Nat := 1 + totV v.list + totF v.fields
termination_by SizeOf.sizeOf v
decreasing_by all_goals first | exact Val.Q1v _ | exact Val.Q10 _
def totV : List Val → Nat
  | [] => 0
  | x :: l => tot x + totV l
termination_by l => SizeOf.sizeOf l
decreasing_by all_goals first | exact Q1y _ _ | exact Q1s _ _
def totF : List Fld → Nat
  | [] => 0
  | x :: l => tot x.v + totF l
termination_by l => SizeOf.sizeOf l
decreasing_by all_goals first | exact Q1k _ _ | exact Q1s _ _
end
theorem Qaf (v : Val) : tot v = 1 + totV v.list + totF v.fields := by rw [tot]
theorem Q3g (v : Val) : 1 ≤ tot v := by rw [Qaf]; omega
theorem Q3f : totF [] = 0 := by rw [totF]
theorem Q1m (x : Fld) (l : List Fld) : totF (x :: l) = tot x.v + totF l := by rw [totF]
theorem Qdu (x : Val) (l : List Val) : totV (x :: l) = tot x + totV l := by rw [totV]
theorem Qbk : ∀ l r : List Fld, totF (l ++ r) = totF l + totF r
  | [], r => by rw [Q3f, List.nil_append]; omega
  | x :: l, r => by rw [List.cons_append, Q1m, Q1m, Qbk l r]; omega
theorem Qlq : ∀ l : List Fld, l.length ≤ totF l
  | [] => Nat.zero_le _
  | x :: l => by have := Qlq l; have := Q3g x.v; rw [Q1m, List.length_cons]; omega
theorem Qss : ∀ l : List Val, l.length ≤ totV l
  | [] => Nat.zero_le _
  | x :: l => by have := Qss l; have := Q3g x; rw [Qdu, List.length_cons]; omega
theorem Qtu : ∀ {l : List Fld} {x : Fld}, x ∈ l → tot x.v ≤ totF l
  | y :: l, x, h => by
    rw [Q1m]
    rcases List.mem_cons.1 h with e | h
    · rw [e]; omega
    · have := Qtu h; omega
theorem Qrw : ∀ {l : List Val} {x : Val}, x ∈ l → tot x ≤ totV l
  | y :: l, x, h => by
    rw [Qdu]
    rcases List.mem_cons.1 h with e | h
    · rw [e]; omega
    · have := Qrw h; omega
theorem Qp4 {v : Val} {x : Fld} (h : x ∈ v.fields) : tot x.v < tot v := by have := Qtu h; have := Qaf v; omega
theorem Q136 {v : Val} {x : Val} (h : x ∈ v.list) : tot x < tot v := by have := Qrw h; have := Qaf v; omega
theorem Qku (v : Val) : totF v.fields < tot v := by rw [Qaf]; omega
theorem Q8u : ∀ {l r : List Fld}, l.Sublist r → totF l ≤ totF r
  | _, _, .slnil => Nat.le_refl _
  | _, _, .cons x h => by have := Q8u h; rw [Q1m]; omega
  | _, _, .cons_cons x h => by have := Q8u h; rw [Q1m, Q1m]; omega
theorem Qr6 (B : Nat) : ∀ (k : Nat) (v : Val), SizeOf.sizeOf v < k → tot v ≤ B → Val.Sm B v
  | 0, _, h, _ => absurd h (Nat.not_lt_zero _)
  | k + 1, v, h, hb => by
    have h1 := Qlq v.fields
    have h2 := Qss v.list
    have h3 := Qaf v
    exact .mk v (by omega) (by omega) (fun x hx => Qr6 B k x (by have := szM hx; omega) (by have := Q136 hx; omega)) fun x hx => Qr6 B k x.v (by have := szN hx; omega) (by have := Qp4 hx; omega)
theorem Q78 {B : Nat} {v : Val} (h : tot v ≤ B) : Val.Sm B v := Qr6 B _ v (Nat.lt_succ_self _) h
theorem Qpb (c : Fld → Fld → Int) (x : Fld) : ∀ l : List Fld, totF (insR c x l) = tot x.v + totF l
  | [] => by rw [insR, Q1m]
  | y :: l => by
    rw [insR]
    cases decide (c x y < 0) with
    | true => rw [cond_true, Q1m, Q1m, Qpb c x l]; omega
    | false => rw [cond_false, Q1m]
theorem Qmi (c : Fld → Fld → Int) : ∀ l r : List Fld, totF (l.foldl (fun r x => insR c x r) r) = totF r + totF l
  | [], r => by rw [List.foldl_nil, Q3f]; omega
  | x :: l, r => by rw [List.foldl_cons, Qmi c l, Qpb, Q1m]; omega
theorem Qs7 : ∀ l : List Fld, totF l.reverse = totF l
  | [] => by rw [List.reverse_nil]
  | x :: l => by rw [List.reverse_cons, Qbk, Qs7 l, Q1m, Q1m, Q3f]; omega
theorem Qwe (c : Fld → Fld → Int) (l : List Fld) : totF (Q5z c l) = totF l := by
  unfold Q5z
  rw [Qs7, Qmi, Q3f]
  omega
theorem Qid (l : List Fld) : totF (mapOf l) ≤ totF l := by
  have := Q8u (Q68 (Q5z cNm l))
  rw [Qwe] at this
  exact this
theorem Qdl (p : Fld → Bool) (l : List Fld) : totF (l.filter p) ≤ totF l := Q8u List.filter_sublist
theorem Qnr {l : List Fld} {f : Fld} {p : Fld → Bool} (h : f ∈ l) (hp : p f = false) : totF (l.filter p) + tot f.v ≤ totF l := by
  induction l with
  | nil => cases h
  | cons x l ih =>
    rw [Q1m, List.filter_cons]
    rcases List.mem_cons.1 h with e | h
    · subst e
      rw [hp]
      have := Qdl p l
      simp only [Bool.false_eq_true, ↓reduceIte]
      omega
    · have := ih h
      cases p x with
      | true => simp only [↓reduceIte]; rw [Q1m]; omega
      | false => simp only [Bool.false_eq_true, ↓reduceIte]; omega
theorem Q102 (l : List Fld) (i : Nat) (x : Fld) (h : l[i]? = some x) : totF (l.take (i + 1)) = totF (l.take i) + tot x.v := by
  have hi := (List.getElem?_eq_some_iff.1 h).1
  rw [List.take_add_one, h, Option.toList_some, Qbk, Q1m, Q3f]
  rfl
theorem Qqa (l : List Fld) (i : Nat) : totF (l.take i) ≤ totF l := Q8u (List.take_sublist i l)
theorem Qp0 (k n : Int) (s : ByteArray) (l : List Val) (f : List Fld) : tot (.mk k n s l f) = 1 + totV l + totF f := by rw [Qaf]; rfl
end Go.Pv
end

section
/- Merging, differences and composition of maps, as plain functions; their laws, by what stands at a name. -/
namespace Go.Pv
open Srt
abbrev mp (l : List Fld) : Val := .mk 5 0 ⟨#[]⟩ [] (mapOf l)
abbrev zV : Val := .mk 0 0 ⟨#[]⟩ [] []
def found (v : Val) (n : ByteArray) : Option Fld := bif v.kind == 5 then v.fields.find? (fun f => sEq f.name n) else none
def gotF : Option Fld → Val × Bool
  | some f => (f.v, true)
  | none => (.mk 0 0 ⟨#[]⟩ [] [], false)
def oth (v : Val) (n : ByteArray) : List Fld := bif v.kind == 5 then v.fields.filter (fun f => !sEq f.name n) else []
def atN (v : Val) (n : ByteArray) : Option Val := (found v n).map Fld.v
theorem Qyq (v : Val) (n : ByteArray) : gotF (found v n) = ((atN v n).getD zV, (atN v n).isSome) := by
  unfold atN
  cases found v n <;> rfl
def wi (v : Val) (n : ByteArray) (x : Val) : Val := mp (oth v n ++ [.mk n x])
def wo (v : Val) (n : ByteArray) : Val := bif v.kind == 5 then mp (oth v n) else v
def isMap (v : Val) : Prop := ∃ F, v = .mk 5 0 ⟨#[]⟩ [] F ∧ SS F
theorem isMap.kind {v : Val} (h : isMap v) : v.kind = 5 := by
  obtain ⟨F, rfl, _⟩ := h
  rfl
theorem Q101 {l : List Fld} (h : SS l) (n : ByteArray) (f : Fld) : l.find? (fun y => sEq y.name n) = some f ↔ f ∈ l ∧ f.name = n := by
  constructor
  · intro g
    exact ⟨List.mem_of_find?_eq_some g, Q3k.1 (List.find?_some (p := fun y : Fld => sEq y.name n) g)⟩
  · intro ⟨g1, g2⟩
    cases e : l.find? fun y => sEq y.name n with
    | none =>
      have := List.find?_eq_none.1 e f g1
      exact absurd (Q3k.2 g2) this
    | some y => rw [h.inj g1 (List.mem_of_find?_eq_some e) (g2.trans (Q3k.1 (List.find?_some (p := fun y : Fld => sEq y.name n) e)).symm)]
theorem Q18d (F : List Fld) (h : SS F) (n : ByteArray) (x : Val) : atN (.mk 5 0 ⟨#[]⟩ [] F) n = some x ↔ Fld.mk n x ∈ F := by
  unfold atN
  rw [show found (.mk 5 0 ⟨#[]⟩ [] F) n = F.find? fun f => sEq f.name n from rfl, Option.map_eq_some_iff]
  constructor
  · intro ⟨f, h1, h2⟩
    obtain ⟨g1, g2⟩ := (Q101 h n f).1 h1
    rw [← g2, ← h2, Fld.eta]
    exact g1
  · intro g
    exact ⟨_, (Q101 h n _).2 ⟨g, rfl⟩, rfl⟩
theorem Q13f {v : Val} (h : isMap v) (n : ByteArray) (x : Val) : atN v n = some x ↔ Fld.mk n x ∈ v.fields := by
  obtain ⟨F, rfl, hS⟩ := h
  exact Q18d F hS n x
theorem Q13d {v : Val} (h : v.kind ≠ 5) (n : ByteArray) : atN v n = none := by
  unfold atN found
  rw [show (v.kind == 5) = false by simpa using h]
  rfl
def at_ (l : List Fld) (n : ByteArray) : Option Val := (l.find? fun f => sEq f.name n).map Fld.v
inductive DV : Val → Prop
  | mk (v : Val) (h5 : v.kind = 5 → isMap v) (h6 : v.kind = 5 → ∀ f ∈ v.fields, DV f.v) : DV v
theorem DV.map {v : Val} (h : DV v) (k : v.kind = 5) : isMap v := by
  cases h with
  | mk _ a b => exact a k
theorem DV.sub {v : Val} (h : DV v) (k : v.kind = 5) {f : Fld} (hf : f ∈ v.fields) : DV f.v := by
  cases h with
  | mk _ a b => exact b k f hf
theorem DV.leaf {v : Val} (h : v.kind ≠ 5) : DV v := .mk v (fun k => absurd k h) fun k => absurd k h
theorem DV.zero : DV zV := DV.leaf (show (0 : Int) ≠ 5 by omega)
theorem DV.at {v : Val} (h : DV v) {n : ByteArray} {x : Val} (g : atN v n = some x) : DV x := by
  by_cases k : v.kind = 5
  · exact h.sub k ((Q13f (h.map k) n x).1 g)
  · rw [Q13d k] at g
    cases g
theorem Qrf {P : Val → Prop} (h : ∀ v : Val, (∀ f ∈ v.fields, P f.v) → P v) : ∀ v, P v := by
  have key : ∀ (k : Nat) (v : Val), SizeOf.sizeOf v < k → P v := by
    intro k
    induction k with
    | zero => intro v hv; exact absurd hv (Nat.not_lt_zero _)
    | succ k ih => intro v hv; exact h v fun f hf => ih f.v (by have := szN hf; omega)
  exact fun v => key _ v (Nat.lt_succ_self _)
mutual
def mg (v p : Val) : Val := bif p.kind == 5 then mgL p.fields (bif v.kind == 5 then v else mp []) else p
termination_by SizeOf.sizeOf p
decreasing_by exact Val.Q10 _
def mgL : List Fld → Val → Val
  | [], o => o
  | x :: l, o => mgL l (bif x.v.kind == 0 then wo o x.name else wi o x.name (mg ((atN o x.name).getD zV) x.v))
termination_by l => SizeOf.sizeOf l
decreasing_by all_goals first | exact Q1k _ _ | exact Q1s _ _
end
theorem Qld (x : Fld) (l : List Fld) (o : Val) : mgL (x :: l) o = mgL l (bif x.v.kind == 0 then wo o x.name else wi o x.name (mg ((atN o x.name).getD zV) x.v)) := by rw [mgL]
theorem Qqr (o : Val) : mgL [] o = o := by rw [mgL]
mutual
def cp (p q : Val) : Val := bif q.kind == 5 then (bif p.kind == 5 then cpL p q.fields p else mg zV q) else q
termination_by SizeOf.sizeOf q
decreasing_by exact Val.Q10 _
def cpL (p : Val) : List Fld → Val → Val
  | [], o => o
  | x :: l, o => cpL p l (wi o x.name (match atN p x.name with | none => x.v | some y => cp y x.v))
termination_by l => SizeOf.sizeOf l
decreasing_by all_goals first | exact Q1k _ _ | exact Q1s _ _
end
theorem Qqt (p o : Val) : cpL p [] o = o := by rw [cpL]
theorem Qm5 (p : Val) (x : Fld) (l : List Fld) (o : Val) : cpL p (x :: l) o = cpL p l (wi o x.name (match atN p x.name with | none => x.v | some y => cp y x.v)) := by rw [cpL]
inductive Cm : Val → Val → Prop
  | mk (p q : Val) (h0 : q.kind = 5 → p.kind = 5) (h1 : q.kind = 5 → ∀ f ∈ q.fields, ∀ y, atN p f.name = some y → Cm y f.v) : Cm p q
theorem Cm.out {p q : Val} (h : Cm p q) : (q.kind = 5 → p.kind = 5) ∧ (q.kind = 5 → ∀ f ∈ q.fields, ∀ y, atN p f.name = some y → Cm y f.v) := by
  cases h with
  | mk _ _ a b => exact ⟨a, b⟩
inductive Cl : Val → Prop
  | mk (v : Val) (h0 : v.kind = 5 → ∀ f ∈ v.fields, f.v.kind ≠ 0) (h1 : v.kind = 5 → ∀ f ∈ v.fields, Cl f.v) : Cl v
theorem Cl.out {v : Val} (h : Cl v) : (v.kind = 5 → ∀ f ∈ v.fields, f.v.kind ≠ 0) ∧ (v.kind = 5 → ∀ f ∈ v.fields, Cl f.v) := by
  cases h with
  | mk _ a b => exact ⟨a, b⟩
theorem Cl.leaf {v : Val} (h : v.kind ≠ 5) : Cl v := .mk v (fun k => absurd k h) fun k => absurd k h
theorem Cl.at {v : Val} (hv : DV v) (h : Cl v) {n : ByteArray} {x : Val} (g : atN v n = some x) : x.kind ≠ 0 ∧ Cl x := by
  by_cases k : v.kind = 5
  · have m := (Q13f (hv.map k) n x).1 g
    exact ⟨h.out.1 k _ m, h.out.2 k _ m⟩
  · rw [Q13d k] at g
    cases g
end Go.Pv
end

section
/- Fields in plain words: a copy is the value, taking out is filtering, a map keeps the last field of each name; the two programs agree. -/
namespace Go.Proofs.Ytnhhddbbppbblaa
open Go.Pv Go.Pv.Srt
theorem Qa3 (p : List Fld) : (Q5z cNm p).length = p.length := Qpx _ (Q6q Fld.name) p
theorem Qri : ∀ v : Val, s_Kj v = v := vind fun v h1 h2 => by
  have e1 : ∀ (l : List Val), (∀ x ∈ l, s_Kj x = x) → ∀ (i : Nat) (a : List Val), Q2d v l i a = a ++ l := by
    intro l
    induction l with
    | nil => intro _ i a; rw [Q2d]; simp
    | cons x l ih => intro hx i a; rw [Q2d, ih (fun y hy => hx y (List.mem_cons_of_mem _ hy)), hx x List.mem_cons_self]; simp
  have e2 : ∀ (l : List Fld), (∀ x ∈ l, s_Kj x.v = x.v) → ∀ (i : Nat) (a : List Fld), Q4g v l i a = a ++ l := by
    intro l
    induction l with
    | nil => intro _ i a; rw [Q4g]; simp
    | cons x l ih => intro hx i a; rw [Q4g, ih (fun y hy => hx y (List.mem_cons_of_mem _ hy)), hx x List.mem_cons_self, Fld.eta]; simp
  rw [s_Kj, e1 _ h1, e2 _ h2, List.nil_append, List.nil_append, Val.eta]
theorem vget (v : Val) (n : ByteArray) : Q2k v n = gotF (found v n) := by
  unfold Q2k found
  cases v.kind == 5 with
  | false => rfl
  | true =>
    simp only [cond_true]
    have : ∀ (l : List Fld) (i : Nat), (match Q4l v n l i with | .k0 => (Val.mk 0 0 ⟨#[]⟩ [] [], false) | .k1 y => (y, true)) = gotF (l.find? fun f => sEq f.name n) := by
      intro l
      induction l with
      | nil => intro i; rfl
      | cons x l ih =>
        intro i
        rw [Q4l, List.find?_cons]
        cases sEq x.name n with
        | true => rfl
        | false => exact ih (i + 1)
    exact this _ _
theorem rget (v : Val) (n : ByteArray) : s_Kl v n = gotF (found v n) := by
  unfold s_Kl found
  cases v.kind == 5 with
  | false => rfl
  | true =>
    simp only [cond_true]
    have : ∀ (l : List Fld) (i : Nat), (match Q6c v n l i with | .k0 => (Val.mk 0 0 ⟨#[]⟩ [] [], false) | .k1 y => (y, true)) = gotF (l.find? fun f => sEq f.name n) := by
      intro l
      induction l with
      | nil => intro i; rfl
      | cons x l ih =>
        intro i
        rw [Q6c, List.find?_cons]
        cases sEq x.name n with
        | true => simp only [cond_true, Qri]; rfl
        | false => exact ih (i + 1)
    exact this _ _
theorem roth (v : Val) (n : ByteArray) : s_Ku v n = ((oth v n).length, oth v n) := by
  have : ∀ (l : List Fld) (i : Nat) (a : List Fld), Q3q v n l i a = a ++ bif v.kind == 5 then l.filter (fun f => !sEq f.name n) else [] := by
    intro l
    induction l with
    | nil => intro i a; rw [Q3q]; cases v.kind == 5 <;> simp
    | cons x l ih =>
      intro i a
      rw [Q3q]
      cases h : v.kind == 5 with
      | false => simp
      | true =>
        rw [cond_true, cond_true, List.filter_cons]
        cases sEq x.name n with
        | true => rw [cond_true, ih, h]; rfl
        | false => rw [cond_false, ih, h]; simp
  have e : Q3q v n v.fields 0 [] = oth v n := by rw [this]; rfl
  unfold s_Ku
  rw [e]
theorem Qrx (p : List Fld) (o : ByteArray) : ∀ (l : List Fld) (i : Nat), match Q2o p o l i with
    | .k0 => ∀ x ∈ l, Q3p x o = false
    | .k1 q => ∃ A x C, l = A ++ x :: C ∧ (∀ y ∈ A, Q3p y o = false) ∧ Q3p x o = true ∧ q = (i : Int) + (A.length : Int)
  | [], i => fun _ h => by cases h
  | x :: l, i => by
    rw [Q2o]
    have ih := Qrx p o l (i + 1)
    cases h : Q3p x o with
    | true => exact ⟨[], x, l, rfl, fun _ g => (by cases g), h, by simp⟩
    | false =>
      rw [cond_false]
      cases e : Q2o p o l (i + 1) with
      | k0 =>
        rw [e] at ih
        intro y hy
        rcases List.mem_cons.1 hy with g | hy
        · rw [g]; exact h
        · exact ih y hy
      | k1 q =>
        rw [e] at ih
        obtain ⟨A, z, C, h1, h2, h3, h4⟩ := ih
        refine ⟨x :: A, z, C, by rw [h1]; rfl, fun y hy => ?_, h3, by rw [h4]; simp; omega⟩
        rcases List.mem_cons.1 hy with g | hy
        · rw [g]; exact h
        · exact h2 y hy
theorem Qxt (n : Nat) (o : ByteArray) : ∀ (C : List Fld) (k i j : Nat) (v : List Fld), v.length = n → i < j → v.drop j = C → C.length < k →
    (Q19 n o k i j v).2 = ((i + (C.filter fun f => !Q3p f o).length : Nat) : Int) ∧
    List.take (i + (C.filter fun f => !Q3p f o).length) (Q19 n o k i j v).1 = v.take i ++ C.filter fun f => !Q3p f o
  | _, 0, _, _, _, _, _, _, hk => absurd hk (Nat.not_lt_zero _)
  | [], k + 1, i, j, v, hl, hij, hd, _ => by
    have : n ≤ j := by have := List.drop_eq_nil_iff.1 hd; omega
    rw [Q19, show decide ((j : Int) < (n : Int)) = false by simp; omega, cond_false]
    simp
  | x :: C, k + 1, i, j, v, hl, hij, hd, hk => by
    obtain ⟨hx, hj, hd'⟩ := Q17 hd
    have hx' : List.getD v (Int.toNat (j : Int)) zF = x := by rw [Int.toNat_natCast, List.getD_eq_getElem?_getD, hx]; rfl
    rw [Q19, show decide ((j : Int) < (n : Int)) = true by simp; omega, cond_true, hx']
    simp only [List.length_cons] at hk
    cases h : Q3p x o with
    | true =>
      rw [cond_true, List.filter_cons_of_neg (by simp [h])]
      exact Qxt n o C k i (j + 1) v hl (by omega) hd' (by omega)
    | false =>
      rw [cond_false, List.filter_cons_of_pos (by simp [h])]
      have hi : i < v.length := by omega
      have e : (v.set i x).take (i + 1) = v.take i ++ [x] := by
        rw [List.take_add_one, List.getElem?_set_self hi, List.take_set, List.set_eq_of_length_le (by rw [List.length_take]; omega)]
        rfl
      have ih := Qxt n o C k (i + 1) (j + 1) (v.set i x) (by rw [List.length_set]; exact hl) (by omega) (by rw [List.drop_set_of_lt (by omega)]; exact hd') (by omega)
      rw [e, show i + 1 + (C.filter fun f => !Q3p f o).length = i + ((x :: C.filter fun f => !Q3p f o)).length by simp; omega] at ih
      rw [Int.toNat_natCast]
      refine ⟨ih.1, ih.2.trans ?_⟩
      simp
theorem del_eq (l : List Fld) (o : ByteArray) : Qkb l.length l o = ((l.filter fun f => !sEq f.name o).length, l.filter fun f => !sEq f.name o) := by
  have h := Qrx l o l 0
  unfold Qkb Qw
  cases e : Q2o l o l 0 with
  | k0 =>
    rw [e] at h
    have : l.filter (fun f => !sEq f.name o) = l := List.filter_eq_self.2 fun x hx => by have := h x hx; unfold Q3p at this; rw [this]; rfl
    rw [this]
    rfl
  | k1 q =>
    rw [e] at h
    obtain ⟨A, x, C, h1, h2, h3, h4⟩ := h
    have hA : A.filter (fun f => !sEq f.name o) = A := List.filter_eq_self.2 fun x hx => by have := h2 x hx; unfold Q3p at this; rw [this]; rfl
    have hf : l.filter (fun f => !sEq f.name o) = A ++ C.filter fun f => !sEq f.name o := by
      rw [h1, List.filter_append, List.filter_cons_of_neg (by unfold Q3p at h3; simp [h3]), hA]
    have hl : l.length = A.length + (C.length + 1) := by rw [h1]; simp
    simp only
    rw [show (q == (-1 : Int)) = false by simp; omega, cond_false]
    have g := Qxt l.length o C (Int.toNat ((l.length : Int) - (q + 1)) + 1) A.length (A.length + 1) l rfl (by omega) (by rw [h1]; simp) (by omega)
    rw [show (A.length : Int) = q by omega, show ((A.length + 1 : Nat) : Int) = q + 1 by omega] at g
    obtain ⟨g1, g2⟩ := g
    rw [g1, Int.toNat_natCast, g2, hf]
    change (_, _) = _
    rw [show List.take A.length l = A by rw [h1]; simp]
    unfold Q3p
    simp
theorem voth (v : Val) (n : ByteArray) : Q2f v n = ((oth v n).length, oth v n) := by
  unfold Q2f oth
  cases v.kind == 5 with
  | false => rfl
  | true => rw [cond_true, cond_true, del_eq]
theorem map1 : Q27 = cNm := rfl
theorem Qlm (l : List Fld) : Qk l.length l = Q5z cNm l := by
  have := Qux (by rw [map1]; exact Q6q Fld.name) l
  rwa [map1] at this
theorem Q11f (p : List Fld) : ∀ (r : List Fld) (i : Nat) (a : List Fld), (Q5z cNm p).drop i = r → Q25 p r i a = a ++ lasts r
  | [], i, a, _ => by rw [Q25, lasts]; simp
  | [x], i, a, hd => by
    have hl := Qa3 p
    have h := congrArg List.length hd
    rw [List.length_drop, List.length_singleton] at h
    rw [Q25, show (((i + 1 : Nat) : Int) == (List.length p : Int)) = true by simp; omega, cond_true, Q25]
    rfl
  | x :: y :: r, i, a, hd => by
    have hl := Qa3 p
    have h := congrArg List.length hd
    rw [List.length_drop, List.length_cons, List.length_cons] at h
    obtain ⟨_, _, hd'⟩ := Q17 hd
    obtain ⟨hy, _, _⟩ := Q17 hd'
    rw [Q25, show (((i + 1 : Nat) : Int) == (List.length p : Int)) = false by simp; omega, cond_false, Qlm, Int.toNat_natCast, List.getD_eq_getElem?_getD, hy, Option.getD_some, lasts]
    cases sEq y.name x.name with
    | true => rw [cond_true, cond_true, Q11f p (y :: r) (i + 1) a hd']
    | false => rw [cond_false, cond_false, Q11f p (y :: r) (i + 1) _ hd']; simp
theorem Qd6 (p : List Fld) : Q25 p (Qk p.length p) 0 [] = mapOf p := by
  rw [Q11f p _ 0 [] (by rw [Qlm]; rfl), Qlm]
  rfl
theorem vmap (p : List Fld) : Qgc p = .mk 5 0 ⟨#[]⟩ [] (mapOf p) := by
  unfold Qgc
  rw [Qd6]
theorem Q8j (p : List Fld) (f : Fld) : ∀ (l : List Fld) (i : Nat) (a : List Fld), Qz p f l i a true = (a ++ l.filter (fun y => !sEq y.name f.name), true)
  | [], i, a => by rw [Qz]; simp
  | x :: l, i, a => by
    rw [Qz, show (true == true) = true from rfl, cond_true, List.filter_cons]
    cases sEq x.name f.name with
    | true => rw [cond_true, Q8j]; rfl
    | false => rw [cond_false, Q8j]; simp
theorem Q13r (p : List Fld) (f : Fld) : ∀ (l : List Fld) (i : Nat) (a : List Fld), SS l → (bif (Qz p f l i a false).2 then (Qz p f l i a false).1 else (Qz p f l i a false).1 ++ [f]) = a ++ insF f l
  | [], i, a, _ => by rw [Qz]; rfl
  | x :: l, i, a, h => by
    obtain ⟨hx, hl⟩ := SS.cons.1 h
    have gt : ¬ sCmp x.name f.name < 0 → l.filter (fun y => !sEq y.name f.name) = l := fun c => List.filter_eq_self.2 fun y hy => by
      have g := hx y hy
      unfold nlt at g
      have : sEq y.name f.name = false := Qq7.2 fun e => c (by rw [← e]; exact g)
      rw [this]
      rfl
    rw [Qz, show (false == true) = false from rfl, cond_false, Q109, Qjy, insF]
    by_cases c : sCmp x.name f.name < 0
    · have ne : sEq x.name f.name = false := Qq7.2 fun e => by rw [e, Q4h] at c; omega
      rw [show (!decide (sCmp x.name f.name < 0)) = false by simp [c], cond_false, ne, cond_false, Q13r p f l _ _ hl, if_pos c]
      simp
    · rw [show (!decide (sCmp x.name f.name < 0)) = true by simp [c], cond_true, if_neg c]
      cases e : sEq x.name f.name with
      | true => rw [cond_true, Q8j, if_pos (Q3k.1 e), gt c]; simp
      | false => rw [cond_false, Q8j, if_neg (Qq7.1 e), gt c]; simp
theorem put_eq {l : List Fld} (h : SS l) (f : Fld) : s_Kv l f = insF f l := by
  have := Q13r l f l 0 [] h
  exact this
theorem Qz2 (p : List Fld) : ∀ (l : List Fld) (i : Nat) (v : Val), SS v.fields → Q6k p l i v = .mk v.kind v.n v.s v.list (l.foldl (fun a x => insF x a) v.fields)
  | [], i, v, _ => by rw [Q6k]; exact (Val.eta v).symm
  | x :: l, i, v, h => by
    rw [Q6k, put_eq h, Qri, Fld.eta, Qz2 p l (i + 1) (.mk v.kind v.n v.s v.list (insF x v.fields)) (Qrq h)]
    rfl
theorem rmap (p : List Fld) : s_Km p = .mk 5 0 ⟨#[]⟩ [] (mapOf p) := by
  unfold s_Km
  rw [Qz2 p p 0 (.mk 5 0 ⟨#[]⟩ [] []) SS.nil]
  have := Qda p []
  rw [Qfd, List.nil_append] at this
  exact congrArg (Val.mk 5 0 ⟨#[]⟩ []) this
theorem Q181 (v : Val) (n : ByteArray) (x : Val) : Q43 v n x = mp (oth v n ++ [.mk n x]) := by
  unfold Q43
  rw [voth, vmap, List.take_length]
theorem Q17t (v : Val) (n : ByteArray) (x : Val) : s_Kr v n x = mp (oth v n ++ [.mk n x]) := by
  unfold s_Kr
  rw [roth, rmap, List.take_length]
theorem Q12e (v : Val) (n : ByteArray) : Qcy v n = bif v.kind == 5 then mp (oth v n) else v := by
  unfold Qcy
  rw [voth, vmap]
theorem Q12y (v : Val) (n : ByteArray) : s_Ks v n = bif v.kind == 5 then mp (oth v n) else v := by
  unfold s_Ks
  rw [roth, rmap, Qri]
theorem Q17z {B : Nat} {l : List Fld} (hl : l.length ≤ B) (h : ∀ f ∈ l, Val.Sm B f.v) : Val.Sm B (mp l) :=
  .mk _ (Nat.zero_le _) (Nat.le_trans (Q115 l) hl) (fun _ g => by cases g) fun f hf => h f (Qyl hf)
theorem Q14x {l : List Fld} (hl : l.length ≤ 1000000000) (h : ∀ f ∈ l, Val.Sm 1000000000 f.v) : Qu4 l := by
  refine ⟨by omega, by omega, ⟨?_, trivial⟩, ?_, trivial⟩
  · rw [Qlm, Qa3]
    omega
  · rw [Qd6]
    exact Q17z hl h
theorem Qa7 (p : List Fld) (f : Fld) : ∀ (l : List Fld) (i : Nat) (a : List Fld) (d : Bool), (Qz p f l i a d).1.length + (bif (Qz p f l i a d).2 then 0 else 1) ≤ a.length + l.length + (bif d then 0 else 1)
  | [], i, a, d => by rw [Qz]; simp
  | x :: l, i, a, true => by
    rw [Q8j]
    have := List.length_filter_le (fun y : Fld => !sEq y.name f.name) (x :: l)
    simp only [List.length_append, cond_true]
    omega
  | x :: l, i, a, false => by
    have h1 := Qa7 p f l (i + 1) (a ++ [f]) true
    have h2 := Qa7 p f l (i + 1) ((a ++ [f]) ++ [x]) true
    have h3 := Qa7 p f l (i + 1) a false
    have h4 := Qa7 p f l (i + 1) (a ++ [x]) false
    rw [Qz, show (false == true) = false from rfl, cond_false]
    simp only [List.length_append, List.length_cons, List.length_nil, cond_true, cond_false] at h1 h2 h3 h4 ⊢
    cases sLt f.name x.name || sEq f.name x.name <;> cases sEq x.name f.name <;> simp only [cond_true, cond_false] <;> omega
theorem Q174 {l : List Fld} (hl : l.length ≤ 1000000000) (h : ∀ f ∈ l, Val.Sm 1000000000 f.v) : H_Km l := by
  refine ⟨⟨by omega, fun x hx => h x hx, fun i v x hx hv => ?_, fun i v x hx hv => ?_, trivial⟩, by simp [Val.fields], trivial⟩
  · have hi := (List.getElem?_eq_some_iff.1 hx).1
    refine ⟨⟨by omega, trivial⟩, fun _ => ?_, trivial⟩
    have := Qa7 v.fields (.mk x.name (s_Kj x.v)) v.fields 0 [] false
    simp only [List.length_nil, cond_false] at this
    omega
  · have := Qa7 v.fields (.mk x.name (s_Kj x.v)) v.fields 0 [] false
    change (s_Kv v.fields (.mk x.name (s_Kj x.v))).length ≤ i + 1
    unfold s_Kv
    cases e : (Qz v.fields (.mk x.name (s_Kj x.v)) v.fields 0 [] false).2 <;> rw [e] at this <;> simp only [List.length_nil, cond_false, cond_true, List.length_append, List.length_cons] at this ⊢ <;> omega
theorem Qy5 {v : Val} {n : ByteArray} {f : Fld} (h : f ∈ oth v n) : f ∈ v.fields := by
  unfold oth at h
  cases e : v.kind == 5 with
  | true => rw [e] at h; exact (List.mem_filter.1 h).1
  | false => rw [e] at h; cases h
theorem Qmd (v : Val) (n : ByteArray) : (oth v n).length ≤ v.fields.length := by
  unfold oth
  cases v.kind == 5 with
  | true => exact List.length_filter_le _ _
  | false => exact Nat.zero_le _
theorem Q161 {v : Val} (h : Val.Sm 999999999 v) (n : ByteArray) : Q12p v n := by
  have := h.all.2.1
  exact ⟨by omega, fun _ => by omega, ⟨⟨⟨by omega, trivial⟩, trivial⟩, trivial⟩, trivial⟩
theorem Q16d {v : Val} (h : Val.Sm 999999999 v) (n : ByteArray) : H_Ku v n := by
  have := h.all.2.1
  exact ⟨⟨by omega, trivial⟩, trivial⟩
theorem Qmb {v : Val} (h : Val.Sm 999999999 v) (n : ByteArray) {x : Val} (hx : Val.Sm 1000000000 x) : (oth v n ++ [Fld.mk n x]).length ≤ 1000000000 ∧ ∀ f ∈ oth v n ++ [Fld.mk n x], Val.Sm 1000000000 f.v := by
  have h1 := h.all
  have h2 := Qmd v n
  refine ⟨by simp; omega, fun f hf => ?_⟩
  rcases List.mem_append.1 hf with g | g
  · exact (h1.2.2.2 f (Qy5 g)).mono (by omega)
  · rw [List.mem_singleton.1 g]
    exact hx
theorem Qsg {v : Val} (h : Val.Sm 999999999 v) (n : ByteArray) : (oth v n).length ≤ 1000000000 ∧ ∀ f ∈ oth v n, Val.Sm 1000000000 f.v := by
  have h1 := h.all
  have h2 := Qmd v n
  exact ⟨by omega, fun f hf => (h1.2.2.2 f (Qy5 hf)).mono (by omega)⟩
theorem Q15w {v : Val} (h : Val.Sm 999999999 v) (n : ByteArray) {x : Val} (hx : Val.Sm 1000000000 x) : Qr9 v n x := by
  have h2 := Qmd v n
  have h3 := h.all.2.1
  refine ⟨Q161 h n, ?_, ?_, ?_, trivial⟩
  · rw [voth]; exact Nat.le_refl _
  · rw [voth]; simp only; omega
  · rw [voth, List.take_length]; exact Q14x (Qmb h n hx).1 (Qmb h n hx).2
theorem Q15y {v : Val} (h : Val.Sm 999999999 v) (n : ByteArray) {x : Val} (hx : Val.Sm 1000000000 x) : H_Kr v n x := by
  have h2 := Qmd v n
  have h3 := h.all.2.1
  refine ⟨Q16d h n, ?_, ?_, ?_, trivial⟩
  · rw [roth]; exact Nat.le_refl _
  · rw [roth]; simp only; omega
  · rw [roth, List.take_length]; exact Q174 (Qmb h n hx).1 (Qmb h n hx).2
theorem Qz9 {v : Val} (h : Val.Sm 999999999 v) (n : ByteArray) : Q131 v n := by
  refine ⟨Q161 h n, fun _ => by rw [voth], ?_, h.mono (by omega), trivial⟩
  rw [voth]; exact Q14x (Qsg h n).1 (Qsg h n).2
theorem Qxq {v : Val} (h : Val.Sm 999999999 v) (n : ByteArray) : H_Ks v n := by
  refine ⟨Q16d h n, fun _ => by rw [roth], ?_, h.mono (by omega), trivial⟩
  rw [roth]; exact Q174 (Qsg h n).1 (Qsg h n).2
theorem Q18s {v : Val} (h : Val.Sm 1000000000 v) (n : ByteArray) : Q11h v n := ⟨⟨by have := h.all.2.1; omega, h.all.2.2.2, trivial⟩, trivial⟩
theorem Q197 {v : Val} (h : Val.Sm 1000000000 v) (n : ByteArray) : H_Kl v n := ⟨⟨by have := h.all.2.1; omega, h.all.2.2.2, trivial⟩, trivial⟩
theorem Vget (v : Val) (n : ByteArray) : Q2k v n = ((atN v n).getD zV, (atN v n).isSome) := by rw [vget, Qyq]
theorem Rget (v : Val) (n : ByteArray) : s_Kl v n = ((atN v n).getD zV, (atN v n).isSome) := by rw [rget, Qyq]
theorem Qyu (v : Val) (n : ByteArray) (x : Val) : Q43 v n x = wi v n x := Q181 v n x
theorem Qxo (v : Val) (n : ByteArray) (x : Val) : s_Kr v n x = wi v n x := Q17t v n x
theorem Qt7 (v : Val) (n : ByteArray) : Qcy v n = wo v n := Q12e v n
theorem Qtg (v : Val) (n : ByteArray) : s_Ks v n = wo v n := Q12y v n
theorem Qr2 (v : Val) (n : ByteArray) : totF (oth v n) + tot ((atN v n).getD zV) ≤ tot v := by
  have hz : tot zV = 1 := by rw [Qp0, Q3f, totV]
  have h1 := Qaf v
  unfold oth atN found
  cases v.kind == 5 with
  | false => rw [cond_false, cond_false, Q3f, Option.map_none, Option.getD_none, hz]; omega
  | true =>
    rw [cond_true, cond_true]
    cases e : v.fields.find? fun f => sEq f.name n with
    | none =>
      have := Qdl (fun f : Fld => !sEq f.name n) v.fields
      rw [Option.map_none, Option.getD_none, hz]
      omega
    | some f =>
      have h2 := List.mem_of_find?_eq_some e
      have h3 := List.find?_some (p := fun f : Fld => sEq f.name n) e
      have := Qnr (p := fun f : Fld => !sEq f.name n) h2 (by simp [h3])
      rw [Option.map_some, Option.getD_some]
      omega
theorem Qsd (v : Val) (n : ByteArray) (x : Val) : tot (wi v n x) + tot ((atN v n).getD zV) ≤ 1 + tot v + tot x := by
  have h1 := Qr2 v n
  have h2 := Qid (oth v n ++ [Fld.mk n x])
  rw [Qbk, Q1m, Q3f] at h2
  unfold wi mp
  rw [Qp0, totV]
  change totF (mapOf (oth v n ++ [Fld.mk n x])) ≤ totF (oth v n) + (tot x + 0) at h2
  omega
theorem Qm9 (v : Val) (n : ByteArray) (x : Val) : tot (wi v n x) ≤ tot v + tot x := by
  have h1 := Qsd v n x
  have h2 := Q3g ((atN v n).getD zV)
  omega
theorem Qy8 (v : Val) (n : ByteArray) : tot (wo v n) ≤ tot v := by
  have h1 := Qr2 v n
  have h2 := Qid (oth v n)
  have h3 := Q3g ((atN v n).getD zV)
  unfold wo
  cases v.kind == 5 with
  | false => exact Nat.le_refl _
  | true => rw [cond_true]; unfold mp; rw [Qp0, totV]; omega
theorem Q98 (v : Val) (n : ByteArray) : tot ((atN v n).getD zV) ≤ tot v := by
  have := Qr2 v n
  omega
theorem Qqq : tot (mp []) = 1 := by unfold mp; rw [Qfd, Qp0, Q3f, totV]
theorem Q11l : tot zV = 1 := by rw [Qp0, Q3f, totV]
theorem Q17k {v x : Val} (h : tot v ≤ 500000000) (n : ByteArray) (hx : tot x ≤ 500000000) : Qr9 v n x := Q15w (Q78 (by omega)) n (Q78 (by omega))
theorem Q13x {v x : Val} (h : tot v ≤ 500000000) (n : ByteArray) (hx : tot x ≤ 500000000) : H_Kr v n x := Q15y (Q78 (by omega)) n (Q78 (by omega))
theorem Q12u {v : Val} (h : tot v ≤ 500000000) (n : ByteArray) : Q131 v n := Qz9 (Q78 (by omega)) n
theorem Qxn {v : Val} (h : tot v ≤ 500000000) (n : ByteArray) : H_Ks v n := Qxq (Q78 (by omega)) n
theorem tGet {v : Val} (h : tot v ≤ 500000000) (n : ByteArray) : Q11h v n := Q18s (Q78 (by omega)) n
theorem Q17i {v : Val} (h : tot v ≤ 500000000) (n : ByteArray) : H_Kl v n := Q197 (Q78 (by omega)) n
theorem Q19b : Qu4 [] := Q14x (by simp) fun _ h => by cases h
theorem Q18w {v : Val} (h : tot v ≤ 500000000) : Q14h [v] := ⟨.mk _ (by simp [Val.list]) (by simp [Val.fields]) (fun x hx => by
  have : x = v := by simpa [Val.list] using hx
  rw [this]; exact Q78 (by omega)) (fun x hx => by cases hx), trivial⟩
theorem Q15l : Qgc [] = mp [] := vmap []
end Go.Proofs.Ytnhhddbbppbblaa
end

section
/- How many values merging, a difference and a composition hold at most. -/
namespace Go.Proofs.Ytnhhddbbppbblaa
open Go.Pv
theorem mp0 : mp [] = .mk 5 0 ⟨#[]⟩ [] [] := by unfold mp; rw [Qfd]
theorem Qqn (v : Val) (n : ByteArray) : (Q2k v n).1 = (atN v n).getD zV := by rw [Vget]
theorem Q18q (v : Val) (n : ByteArray) : (Q2k v n).2 = (atN v n).isSome := by rw [Vget]
theorem Qrh (v : Val) (n : ByteArray) : (s_Kl v n).1 = (atN v n).getD zV := by rw [Rget]
theorem Q190 (v : Val) (n : ByteArray) : (s_Kl v n).2 = (atN v n).isSome := by rw [Rget]
theorem Qy0 : ∀ (l : List Fld) (o : Val), (∀ f ∈ l, ∀ w, tot (mg w f.v) + 1 ≤ tot w + 2 * tot f.v) → tot (mgL l o) ≤ tot o + 2 * totF l
  | [], o, _ => by rw [Qqr]; omega
  | x :: l, o, h => by
    rw [Qld, Q1m]
    have ih := fun o => Qy0 l o fun f hf => h f (List.mem_cons_of_mem _ hf)
    have hx := h x List.mem_cons_self ((atN o x.name).getD zV)
    cases x.v.kind == 0 with
    | true =>
      have := ih (wo o x.name)
      have := Qy8 o x.name
      rw [cond_true]
      omega
    | false =>
      have := ih (wi o x.name (mg ((atN o x.name).getD zV) x.v))
      have := Qsd o x.name (mg ((atN o x.name).getD zV) x.v)
      rw [cond_false]
      omega
theorem Qo7 : ∀ (p v : Val), tot (mg v p) + 1 ≤ tot v + 2 * tot p := Qrf fun p ih v => by
  have h1 := Q3g v
  have h2 := Q3g p
  have h3 := Qku p
  rw [mg]
  cases p.kind == 5 with
  | false => rw [cond_false]; omega
  | true =>
    rw [cond_true]
    have := Qy0 p.fields (bif v.kind == 5 then v else mp []) ih
    have : tot (bif v.kind == 5 then v else mp []) ≤ tot v := by
      cases v.kind == 5 with
      | true => exact Nat.le_refl _
      | false => rw [cond_false, Qqq]; exact h1
    omega
theorem Qha (a t : Nat) (h : 1 ≤ a) : t ≤ a * t := Nat.le_mul_of_pos_left t h
theorem Qy1 (p : Val) : ∀ (l : List Fld) (o : Val), (∀ f ∈ l, ∀ w, tot (cp w f.v) ≤ 2 * (tot w * tot f.v)) → tot (cpL p l o) ≤ tot o + 2 * (tot p * totF l)
  | [], o, _ => by rw [Qqt]; omega
  | x :: l, o, h => by
    have ih := fun o => Qy1 p l o fun f hf => h f (List.mem_cons_of_mem _ hf)
    have k1 := Qha (tot p) (tot x.v) (Q3g p)
    rw [Qm5, Q1m, Nat.mul_add]
    cases e : atN p x.name with
    | none =>
      have := ih (wi o x.name x.v)
      have := Qm9 o x.name x.v
      simp only
      omega
    | some y =>
      have k2 := Q98 p x.name
      rw [e, Option.getD_some] at k2
      have k3 := h x List.mem_cons_self y
      have k4 := Nat.mul_le_mul_right (tot x.v) k2
      have := ih (wi o x.name (cp y x.v))
      have := Qm9 o x.name (cp y x.v)
      simp only
      omega
theorem Q11o : ∀ (q p : Val), tot (cp p q) ≤ 2 * (tot p * tot q) := Qrf fun q ih p => by
  have h0 := Qha (tot p) (tot q) (Q3g p)
  rw [cp]
  cases q.kind == 5 with
  | false => rw [cond_false]; omega
  | true =>
    cases p.kind == 5 with
    | false =>
      have := Qo7 q zV
      rw [Q11l] at this
      rw [cond_true, cond_false]
      omega
    | true =>
      rw [cond_true, cond_true]
      have h1 := Qy1 p q.fields p ih
      have h5 := Qku q
      have h6 : tot p * (1 + totF q.fields) ≤ tot p * tot q := Nat.mul_le_mul_left _ (by omega)
      rw [Nat.mul_add, Nat.mul_one] at h6
      omega
theorem take_at {p : Val} {i : Nat} {x : Fld} (h : p.fields[i]? = some x) : totF (List.take (i + 1) p.fields) = totF (List.take i p.fields) + tot x.v ∧ totF (List.take (i + 1) p.fields) < tot p := by
  have h1 := Qqa p.fields (i + 1)
  have h2 := Qku p
  exact ⟨Q102 p.fields i x h, by omega⟩
theorem Qkh (p : Val) : p.fields.length < tot p := by
  have h1 := Qlq p.fields
  have h2 := Qku p
  omega
theorem Q116 {p : Val} {x : Fld} (h : x ∈ p.fields) : tot x.v ≤ tot p := by have := Qp4 h; omega
end Go.Proofs.Ytnhhddbbppbblaa
end

section
/- What patching computes (printed by a program). -/
namespace Go.Proofs.Ytnhhddbbppbblaa
open Go.Pv
def s_Kh (p0 : Val) : Val :=
 (List.getD (Qvq [p0]).list (Int.toNat 0) (Val.mk 0 0 (⟨#[]⟩ : ByteArray) [] []))
def c_Kh (p0 : Val) : En := .call 26 [.agg (Val.cells p0)] []
def a_Kh (p0 : Val) : Rs := .ret (.agg (Val.cells (s_Kh p0))) []
def H_Kh (p0 : Val) : Prop := (Q14h [p0]) ∧ ((0 : Int) ≤ 0) ∧ (Int.toNat 0 < List.length (Qvq [p0]).list) ∧ True
theorem t_Kh (p0 : Val) (H : H_Kh p0) : Q7 G (c_Kh p0) (a_Kh p0) := by
 unfold a_Kh s_Kh
 exact Q9 (fn := Ir.Kh) rfl VOK.nil [hP 6 (Qsr 5 (Val.rows (Qvq [p0]).list) 0 _ (H.2.1) (Val.Qf (Qv (Qvq [p0]).list (Int.toNat 0) (Val.mk 0 0 (⟨#[]⟩ : ByteArray) [] []) (H.2.2.1))) rfl)] [aN (Q12k (e' := .call 40 [.sl [(Val.cells p0)]] []) (Q183 [p0] (H.1)) (by simp only [Q15o, Val.Q3b, Val.Q5s]))] (by kernel_rfl)
mutual
def s_Kg (p0 : Val) (p1 : Val) : Val :=
 bif (p1.kind == 5) then
  bif (p0.kind == 5) then
   (Q4u p0 p1 p1.fields 0 (s_Kh p0))
  else
   (Q4u p0 p1 p1.fields 0 (Qgc []))
 else
  (s_Kh p1)
termination_by SizeOf.sizeOf p1
decreasing_by all_goals first | exact Val.Q1v _ | exact Val.Q10 _ | exact Q1y _ _ | exact Q1s _ _ | exact Q1k _ _
def Q4u (p0 : Val) (p1 : Val) : List Fld → Nat → Val → Val
 | [], _i0, v0_1 =>
  v0_1
 | x0 :: r0, i0, v0_1 =>
  bif (x0.v.kind == 0) then
   Q4u p0 p1 r0 (i0 + 1) (Qcy v0_1 x0.name)
  else
   Q4u p0 p1 r0 (i0 + 1) (Q43 v0_1 x0.name (s_Kg (Q2k v0_1 x0.name).1 x0.v))
termination_by l => SizeOf.sizeOf l
decreasing_by all_goals first | exact Val.Q1v _ | exact Val.Q10 _ | exact Q1y _ _ | exact Q1s _ _ | exact Q1k _ _
end
def Qlh (_p0 : Val) (p1 : Val) (i0 : Nat) (_v0_1 : Val) : List PV :=
  [.un, .un, .un, .un, .bx 0 0, .bx 1 0, .un, .un, .un, .un, .un, .un, .un, .un, .un, .un, .un, .un, .un, .un, .un, .un, .sl (Fld.rows p1.fields), .int .i64 ((List.length p1.fields) : Int), .int .i64 (i0 : Int), .un, .un, .un, .un, .un, .un, .un, .un, .un, .un, .un, .un, .un, .un, .un, .un, .un, .un, .un, .un, .un, .un, .un, .un, .un, .un, .un, .un]
def Qjx (_p0 : Val) (_p1 : Val) (_i0 : Nat) (v0_1 : Val) : List Ob :=
  [⟨5, 0, true, [.int .i64 0, .int .i64 0, .str (⟨#[]⟩ : ByteArray), .ms 2 5 0 0, .ms 3 6 0 0]⟩, ⟨5, 0, true, [.int .i64 v0_1.kind, .int .i64 v0_1.n, .str v0_1.s, .sl (Val.rows v0_1.list), .sl (Fld.rows v0_1.fields)]⟩, ⟨5, 0, true, []⟩, ⟨6, 0, true, []⟩]
def Q9l (p0 : Val) (p1 : Val) (i0 : Nat) (v0_1 : Val) : En := .loop 0 Ir.Qj3 Ir.Q15u (Qlh p0 p1 i0 v0_1) (Qjx p0 p1 i0 v0_1)
def Qpq (_p0 : Val) (_p1 : Val) (q0 : Val) (z : Nat → PV) (_zo : Nat → List PV) : St :=
  ⟨[z 0, z 1, z 2, z 3, .bx 0 0, .bx 1 0, z 6, z 7, z 8, z 9, z 10, z 11, z 12, z 13, z 14, z 15, z 16, z 17, z 18, z 19, z 20, z 21, z 22, z 23, z 24, z 25, z 26, z 27, z 28, z 29, z 30, z 31, z 32, z 33, z 34, z 35, z 36, z 37, z 38, z 39, z 40, z 41, z 42, z 43, z 44, z 45, z 46, z 47, z 48, z 49, z 50, z 51, z 52], [(0, ⟨5, 0, true, [.int .i64 0, .int .i64 0, .str (⟨#[]⟩ : ByteArray), .ms 2 5 0 0, .ms 3 6 0 0]⟩), (1, ⟨5, 0, true, [.int .i64 q0.kind, .int .i64 q0.n, .str q0.s, .sl (Val.rows q0.list), .sl (Fld.rows q0.fields)]⟩), (2, ⟨5, 0, true, []⟩), (3, ⟨6, 0, true, []⟩)], 68⟩
def Qlz (p0 : Val) (p1 : Val) (e : En) (q : Val) : Prop := ∃ z zo, Q7 G e (.st (.exit 0) (Qpq p0 p1 q z zo))
theorem Qal (p0 : Val) (p1 : Val) {e e' : En} (h : ∀ r, Q7 G e r → Q7 G e' r) : ∀ q, Qlz p0 p1 e q → Qlz p0 p1 e' q
  | _, ⟨z, zo, hz⟩ => ⟨z, zo, h _ hz⟩
def c_Kg (p0 : Val) (p1 : Val) : En := .call 13 [.agg (Val.cells p0), .agg (Val.cells p1)] []
def a_Kg (p0 : Val) (p1 : Val) : Rs := .ret (.agg (Val.cells (s_Kg p0 p1))) []
abbrev H_Kg (p0 : Val) (p1 : Val) : Prop := tot p0 + 2 * tot p1 ≤ 100000000
def Qnu (p1 : Val) : Prop := ∀ (q : Val), SizeOf.sizeOf q < SizeOf.sizeOf p1 → ∀ (p0 : Val), H_Kg p0 q → Q7 G (c_Kg p0 q) (a_Kg p0 q)
def Q7w (p0 : Val) (p1 : Val) : Prop := (List.length p1.fields ≤ 137438953472) ∧ (∀ (i0 : Nat) (v0_1 : Val) (x0 : Fld), p1.fields[i0]? = some x0 → tot v0_1 ≤ tot p0 + 2 * totF (List.take i0 p1.fields) → (x0.v.kind == 0) = true → Q131 v0_1 x0.name) ∧ (∀ (i0 : Nat) (v0_1 : Val) (x0 : Fld), p1.fields[i0]? = some x0 → tot v0_1 ≤ tot p0 + 2 * totF (List.take i0 p1.fields) → (x0.v.kind == 0) = false → Q11h v0_1 x0.name) ∧ (∀ (i0 : Nat) (v0_1 : Val) (x0 : Fld), p1.fields[i0]? = some x0 → tot v0_1 ≤ tot p0 + 2 * totF (List.take i0 p1.fields) → H_Kg (Q2k v0_1 x0.name).1 x0.v) ∧ (∀ (i0 : Nat) (v0_1 : Val) (x0 : Fld), p1.fields[i0]? = some x0 → tot v0_1 ≤ tot p0 + 2 * totF (List.take i0 p1.fields) → (x0.v.kind == 0) = false → Qr9 v0_1 x0.name (s_Kg (Q2k v0_1 x0.name).1 x0.v)) ∧ (∀ (i0 : Nat) (v0_1 : Val) (x0 : Fld), p1.fields[i0]? = some x0 → tot v0_1 ≤ tot p0 + 2 * totF (List.take i0 p1.fields) → (x0.v.kind == 0) = true → tot (Qcy v0_1 x0.name) ≤ tot p0 + 2 * totF (List.take (i0 + 1) p1.fields)) ∧ (∀ (i0 : Nat) (v0_1 : Val) (x0 : Fld), p1.fields[i0]? = some x0 → tot v0_1 ≤ tot p0 + 2 * totF (List.take i0 p1.fields) → (x0.v.kind == 0) = false → tot (Q43 v0_1 x0.name (s_Kg (Q2k v0_1 x0.name).1 x0.v)) ≤ tot p0 + 2 * totF (List.take (i0 + 1) p1.fields)) ∧ True
theorem Qka {v : Val} (h : tot v ≤ 500000000) : H_Kh v := by
  refine ⟨Q18w h, ?_, ?_, trivial⟩
  · exact Int.le_refl _
  · exact Nat.zero_lt_one
theorem Q7e : ∀ (p v : Val), s_Kg v p = mg v p := Qrf fun p ih v => by
  have hl : ∀ (l : List Fld), (∀ f ∈ l, ∀ w, s_Kg w f.v = mg w f.v) → ∀ i o, Q4u v p l i o = mgL l o := by
    intro l
    induction l with
    | nil => intro _ i o; rw [Q4u, Qqr]
    | cons x l ihl =>
      intro hx i o
      have ih' := ihl fun f hf => hx f (List.mem_cons_of_mem _ hf)
      rw [Q4u, Qld, Qt7, Qqn, Qyu, hx x List.mem_cons_self]
      cases x.v.kind == 0 with
      | true => exact ih' _ _
      | false => exact ih' _ _
  rw [s_Kg, mg, Q15l, hl _ ih, hl _ ih]
  all_goals (cases p.kind == 5 <;> first | rfl | (cases v.kind == 5 <;> rfl))
theorem Q6a (p0 : Val) (p1 : Val) (H : H_Kg p0 p1) : ((p1.kind == 5) = true → Qu4 []) ∧ ((p1.kind == 5) = true → (p0.kind == 5) = true → H_Kh p0) ∧ ((p1.kind == 5) = true → (p0.kind == 5) = true → Q7w p0 p1) ∧ ((p1.kind == 5) = true → (p0.kind == 5) = true → tot (s_Kh p0) ≤ tot p0 + 2 * totF (List.take 0 p1.fields)) ∧ ((p1.kind == 5) = true → (p0.kind == 5) = false → Q7w p0 p1) ∧ ((p1.kind == 5) = true → (p0.kind == 5) = false → tot (Qgc []) ≤ tot p0 + 2 * totF (List.take 0 p1.fields)) ∧ ((p1.kind == 5) = false → H_Kh p1) ∧ True := by
  have hb : Q7w p0 p1 := ⟨by have := Qkh p1; omega,
    fun i v x hx hv _ => Q12u (by have := take_at hx; omega) _,
    fun i v x hx hv _ => tGet (by have := take_at hx; omega) _,
    fun i v x hx hv => by
      have := take_at hx
      have := Q98 v x.name
      unfold H_Kg
      rw [Qqn]
      omega,
    fun i v x hx hv _ => Q17k (by have := take_at hx; omega) _ (by
      have := take_at hx
      have := Q98 v x.name
      have := Qo7 x.v ((atN v x.name).getD zV)
      rw [Q7e, Qqn]
      omega),
    fun i v x hx hv _ => by
      have := take_at hx
      have := Qy8 v x.name
      rw [Qt7]
      omega,
    fun i v x hx hv _ => by
      have := take_at hx
      have := Qsd v x.name (mg ((atN v x.name).getD zV) x.v)
      have := Qo7 x.v ((atN v x.name).getD zV)
      rw [Q7e, Qqn, Qyu]
      omega, trivial⟩
  have h1 := Q3g p0
  exact ⟨fun _ => Q19b, fun _ _ => Qka (by omega), fun _ _ => hb, fun _ _ => Nat.le_add_right _ _, fun _ _ => hb, fun _ _ => by rw [Q15l, Qqq]; omega, fun _ => Qka (by omega), trivial⟩
def Qnk (_p0 : Val) (p1 : Val) (i0 : Nat) (_v0_1 : Val) : List PV :=
  [.un, .un, .un, .un, .un, .un, .un, .un, .un, .un, .un, .un, .un, .un, .un, .un, .un, .un, .un, .un, .un, .un, .sl (Fld.rows p1.fields), .int .i64 ((List.length p1.fields) : Int), .int .i64 (i0 : Int), .bool false]
def Qgh (_p0 : Val) (_p1 : Val) (_i0 : Nat) (_v0_1 : Val) : List (Nat × List PV) :=
  []
theorem Qz8 (p0 : Val) (p1 : Val) (_H : Q7w p0 p1) (_rec : Qnu p1) (i0 : Nat) (v0_1 : Val) (_ho0_0 : tot v0_1 ≤ tot p0 + 2 * totF (List.take i0 p1.fields)) (hc0 : (decide ((i0 : Int) < ((List.length p1.fields) : Int))) = false) : Qlz p0 p1 (Q9l p0 p1 i0 v0_1) v0_1 := by
 exact ⟨(envF (Qnk p0 p1 i0 v0_1)), (zoF (Qgh p0 p1 i0 v0_1)), Qe VOK.nil (x := ((.exit 0), Qpq p0 p1 v0_1 (envF (Qnk p0 p1 i0 v0_1)) (zoF (Qgh p0 p1 i0 v0_1)))) [hB 0 hc0] [] (by kernel_rfl)⟩
theorem Q103 (p0 : Val) (p1 : Val) (H : Q7w p0 p1) (_rec : Qnu p1) (x0 : Fld) (i0 : Nat) (v0_1 : Val) (hx0 : p1.fields[i0]? = some x0) (hi0 : i0 < List.length p1.fields) (ho0_0 : tot v0_1 ≤ tot p0 + 2 * totF (List.take i0 p1.fields)) (hc0 : (decide ((i0 : Int) < ((List.length p1.fields) : Int))) = true) (h0 : (x0.v.kind == 0) = true) {r : Rs} (hr : Q7 G (Q9l p0 p1 (i0 + 1) (Qcy v0_1 x0.name)) r) : Q7 G (Q9l p0 p1 i0 v0_1) r := by
 have hB0 := H.1; have e0 := eq_of_beq h0
 exact Q8 VOK.nil (y := (Qlh p0 p1 (i0 + 1) (Qcy v0_1 x0.name), Qjx p0 p1 (i0 + 1) (Qcy v0_1 x0.name))) [hB 0 hc0, hP 0 (Q1d 6 (Fld.rows p1.fields) i0 _ (Fld.Qf hx0) rfl), hB 6 h0, hP 5 (Qs i0 (by omega))] [aN (Q17s v0_1 x0.name ((H.2.1 i0 v0_1 x0 hx0 ho0_0) h0))] (by kernel_rfl) hr
theorem Q10k (p0 : Val) (p1 : Val) (H : Q7w p0 p1) (rec : Qnu p1) (x0 : Fld) (i0 : Nat) (v0_1 : Val) (hx0 : p1.fields[i0]? = some x0) (hi0 : i0 < List.length p1.fields) (ho0_0 : tot v0_1 ≤ tot p0 + 2 * totF (List.take i0 p1.fields)) (hc0 : (decide ((i0 : Int) < ((List.length p1.fields) : Int))) = true) (h0 : (x0.v.kind == 0) = false) {r : Rs} (hr : Q7 G (Q9l p0 p1 (i0 + 1) (Q43 v0_1 x0.name (s_Kg (Q2k v0_1 x0.name).1 x0.v))) r) : Q7 G (Q9l p0 p1 i0 v0_1) r := by
 have hB0 := H.1; have e0 := beq_eq_false_iff_ne.1 h0
 exact Q8 VOK.nil (y := (Qlh p0 p1 (i0 + 1) (Q43 v0_1 x0.name (s_Kg (Q2k v0_1 x0.name).1 x0.v)), Qjx p0 p1 (i0 + 1) (Q43 v0_1 x0.name (s_Kg (Q2k v0_1 x0.name).1 x0.v)))) [hB 0 hc0, hP 0 (Q1d 6 (Fld.rows p1.fields) i0 _ (Fld.Qf hx0) rfl), hB 6 h0, hP 19 (Qs i0 (by omega))] [aN (Q146 v0_1 x0.name ((H.2.2.1 i0 v0_1 x0 hx0 ho0_0) h0)), aN (rec x0.v (szF hx0) (Q2k v0_1 x0.name).1 (H.2.2.2.1 i0 v0_1 x0 hx0 ho0_0)), aN (Q14q v0_1 x0.name (s_Kg (Q2k v0_1 x0.name).1 x0.v) ((H.2.2.2.2.1 i0 v0_1 x0 hx0 ho0_0) h0))] (by kernel_rfl) hr
theorem Qbh (p0 : Val) (p1 : Val) (H : Q7w p0 p1) (rec : Qnu p1) : ∀ (r0 : List Fld) (i0 : Nat) (v0_1 : Val), List.drop i0 p1.fields = r0 → tot v0_1 ≤ tot p0 + 2 * totF (List.take i0 p1.fields) → Qlz p0 p1 (Q9l p0 p1 i0 v0_1) (Q4u p0 p1 r0 i0 v0_1)
 | [], i0, v0_1, hd, ho0_0 => by
  have hc0 : (decide ((i0 : Int) < ((List.length p1.fields) : Int))) = false := by have := Q1i hd; simp; omega
  rw [Q4u]
  exact Qz8 p0 p1 H rec i0 v0_1 ho0_0 hc0
 | x0 :: r0, i0, v0_1, hd, ho0_0 => by
  obtain ⟨hx0, hi0, hd'⟩ := Q17 hd
  have hc0 : (decide ((i0 : Int) < ((List.length p1.fields) : Int))) = true := by simp; omega
  rw [Q4u]
  cases h0 : (x0.v.kind == 0) with
  | true =>
   exact Qal p0 p1 (fun r hr => Q103 p0 p1 H rec x0 i0 v0_1 hx0 hi0 ho0_0 hc0 h0 hr) _ (Qbh p0 p1 H rec r0 (i0 + 1) (Qcy v0_1 x0.name) hd' ((H.2.2.2.2.2.1 i0 v0_1 x0 hx0 ho0_0) h0))
  | false =>
   exact Qal p0 p1 (fun r hr => Q10k p0 p1 H rec x0 i0 v0_1 hx0 hi0 ho0_0 hc0 h0 hr) _ (Qbh p0 p1 H rec r0 (i0 + 1) (Q43 v0_1 x0.name (s_Kg (Q2k v0_1 x0.name).1 x0.v)) hd' ((H.2.2.2.2.2.2.1 i0 v0_1 x0 hx0 ho0_0) h0))
theorem r_Kg (p0 : Val) (p1 : Val) (H : H_Kg p0 p1) (rec : Qnu p1) : Q7 G (c_Kg p0 p1) (a_Kg p0 p1) := by
  unfold a_Kg
  rw [s_Kg]
  cases h0 : (p1.kind == 5) with
  | true =>
   cases h1 : (p0.kind == 5) with
   | true =>
    have hl2 := Qbh p0 p1 ((Q6a p0 p1 H).2.2.1 h0 h1) rec p1.fields 0 (s_Kh p0) (by simp) ((Q6a p0 p1 H).2.2.2.1 h0 h1)
    obtain ⟨z2, zo2, hl2⟩ := hl2
    exact Q9 (fn := Ir.Kg) rfl VOK.nil [hP 5 (dec (!(p1.kind == 5)) false (by rw [h0]; rfl)), hB 5 h1, hP 5 (Qj (Fld.rows p1.fields) (List.length p1.fields) (Fld.Qc p1.fields))] [aN (Q12b [] ((Q6a p0 p1 H).1 h0)), aN (t_Kh p0 ((Q6a p0 p1 H).2.1 h0 h1)), aN hl2] (by kernel_rfl)
   | false =>
    have hl2 := Qbh p0 p1 ((Q6a p0 p1 H).2.2.2.2.1 h0 h1) rec p1.fields 0 (Qgc []) (by simp) ((Q6a p0 p1 H).2.2.2.2.2.1 h0 h1)
    obtain ⟨z2, zo2, hl2⟩ := hl2
    exact Q9 (fn := Ir.Kg) rfl VOK.nil [hP 5 (dec (!(p1.kind == 5)) false (by rw [h0]; rfl)), hB 5 h1, hP 2 (Qj (Fld.rows p1.fields) (List.length p1.fields) (Fld.Qc p1.fields))] [aN (Q12b [] ((Q6a p0 p1 H).1 h0)), aN hl2] (by kernel_rfl)
  | false =>
   exact Q9 (fn := Ir.Kg) rfl VOK.nil [hP 5 (dec (!(p1.kind == 5)) true (by rw [h0]; rfl))] [aN (t_Kh p1 ((Q6a p0 p1 H).2.2.2.2.2.2.1 h0))] (by kernel_rfl)
theorem i_Kg : ∀ (k : Nat) (p1 : Val), SizeOf.sizeOf p1 < k → ∀ (p0 : Val), H_Kg p0 p1 → Q7 G (c_Kg p0 p1) (a_Kg p0 p1)
  | 0, _, h, _, _ => absurd h (Nat.not_lt_zero _)
  | k + 1, p1, h, p0, H => r_Kg p0 p1 H (fun q hq p0 hH => i_Kg k q (by omega) p0 hH)
theorem t_Kg (p0 : Val) (p1 : Val) (H : H_Kg p0 p1) : Q7 G (c_Kg p0 p1) (a_Kg p0 p1) := i_Kg _ p1 (Nat.lt_succ_self _) p0 H
mutual
def Q8s (p0 : Val) (p1 : Val) : Val :=
 bif (p1.kind == 5) then
  bif (p0.kind == 5) then
   (Q3u p0 p1 p1.fields 0 p0)
  else
   (Q3u p0 p1 p1.fields 0 (Val.mk 5 0 (⟨#[]⟩ : ByteArray) [] []))
 else
  p1
termination_by SizeOf.sizeOf p1
decreasing_by all_goals first | exact Val.Q1v _ | exact Val.Q10 _ | exact Q1y _ _ | exact Q1s _ _ | exact Q1k _ _
def Q3u (p0 : Val) (p1 : Val) : List Fld → Nat → Val → Val
 | [], _i0, v0_1 =>
  v0_1
 | x0 :: r0, i0, v0_1 =>
  bif (x0.v.kind == 0) then
   Q3u p0 p1 r0 (i0 + 1) (s_Ks v0_1 x0.name)
  else
   Q3u p0 p1 r0 (i0 + 1) (s_Kr v0_1 x0.name (Q8s (s_Kl v0_1 x0.name).1 x0.v))
termination_by l => SizeOf.sizeOf l
decreasing_by all_goals first | exact Val.Q1v _ | exact Val.Q10 _ | exact Q1y _ _ | exact Q1s _ _ | exact Q1k _ _
end
def Qfz (_p0 : Val) (_p1 : Val) (i0 : Nat) (_v0_1 : Val) : List PV :=
  [.un, .un, .un, .bx 0 0, .bx 1 0, .bx 2 0, .int .i64 (i0 : Int), .un, .un, .un, .un, .un, .un, .un, .un, .un, .un, .un, .un, .un, .un, .un, .un, .un, .un, .un, .un, .un, .un, .un, .un, .un, .un, .un, .un, .un, .un, .un, .un, .un, .un, .un, .un, .un, .un, .un, .un, .un, .un, .un, .un, .un, .un, .un, .un]
def Qdj (_p0 : Val) (p1 : Val) (_i0 : Nat) (v0_1 : Val) : List Ob :=
  [⟨5, 0, true, [.int .i64 p1.kind, .int .i64 p1.n, .str p1.s, .sl (Val.rows p1.list), .sl (Fld.rows p1.fields)]⟩, ⟨5, 0, true, [.int .i64 0, .int .i64 0, .str (⟨#[]⟩ : ByteArray), .sl [], .sl []]⟩, ⟨5, 0, true, [.int .i64 v0_1.kind, .int .i64 v0_1.n, .str v0_1.s, .sl (Val.rows v0_1.list), .sl (Fld.rows v0_1.fields)]⟩]
def Q6t (p0 : Val) (p1 : Val) (i0 : Nat) (v0_1 : Val) : En := .loop 0 Ir.Qea Ir.Q140 (Qfz p0 p1 i0 v0_1) (Qdj p0 p1 i0 v0_1)
def Qit (_p0 : Val) (p1 : Val) (q0 : Val) (z : Nat → PV) (_zo : Nat → List PV) : St :=
  ⟨[z 0, z 1, z 2, z 3, .bx 1 0, .bx 2 0, z 6, z 7, z 8, z 9, z 10, z 11, z 12, z 13, z 14, z 15, z 16, z 17, z 18, z 19, z 20, z 21, z 22, z 23, z 24, z 25, z 26, z 27, z 28, z 29, z 30, z 31, z 32, z 33, z 34, z 35, z 36, z 37, z 38, z 39, z 40, z 41, z 42, z 43, z 44, z 45, z 46, z 47, z 48, z 49, z 50, z 51, z 52, z 53, z 54], [(0, ⟨5, 0, true, [.int .i64 p1.kind, .int .i64 p1.n, .str p1.s, .sl (Val.rows p1.list), .sl (Fld.rows p1.fields)]⟩), (1, ⟨5, 0, true, [.int .i64 0, .int .i64 0, .str (⟨#[]⟩ : ByteArray), .sl [], .sl []]⟩), (2, ⟨5, 0, true, [.int .i64 q0.kind, .int .i64 q0.n, .str q0.s, .sl (Val.rows q0.list), .sl (Fld.rows q0.fields)]⟩)], 323⟩
def Qbb (p0 : Val) (p1 : Val) (e : En) (q : Val) : Prop := ∃ z zo, Q7 G e (.st (.exit 0) (Qit p0 p1 q z zo))
theorem Q8r (p0 : Val) (p1 : Val) {e e' : En} (h : ∀ r, Q7 G e r → Q7 G e' r) : ∀ q, Qbb p0 p1 e q → Qbb p0 p1 e' q
  | _, ⟨z, zo, hz⟩ => ⟨z, zo, h _ hz⟩
def Q12o (p0 : Val) (p1 : Val) : En := .call 14 [.agg (Val.cells p0), .agg (Val.cells p1)] []
def Qyi (p0 : Val) (p1 : Val) : Rs := .ret (.agg (Val.cells (Q8s p0 p1))) []
abbrev Qma (p0 : Val) (p1 : Val) : Prop := tot p0 + 2 * tot p1 ≤ 100000000
def Qch (p1 : Val) : Prop := ∀ (q : Val), SizeOf.sizeOf q < SizeOf.sizeOf p1 → ∀ (p0 : Val), Qma p0 q → Q7 G (Q12o p0 q) (Qyi p0 q)
def Q5f (p0 : Val) (p1 : Val) : Prop := (List.length p1.fields ≤ 137438953472) ∧ (∀ (i0 : Nat) (v0_1 : Val) (x0 : Fld), p1.fields[i0]? = some x0 → tot v0_1 ≤ tot p0 + 2 * totF (List.take i0 p1.fields) → (x0.v.kind == 0) = true → H_Ks v0_1 x0.name) ∧ (∀ (i0 : Nat) (v0_1 : Val) (x0 : Fld), p1.fields[i0]? = some x0 → tot v0_1 ≤ tot p0 + 2 * totF (List.take i0 p1.fields) → (x0.v.kind == 0) = false → H_Kl v0_1 x0.name) ∧ (∀ (i0 : Nat) (v0_1 : Val) (x0 : Fld), p1.fields[i0]? = some x0 → tot v0_1 ≤ tot p0 + 2 * totF (List.take i0 p1.fields) → Qma (s_Kl v0_1 x0.name).1 x0.v) ∧ (∀ (i0 : Nat) (v0_1 : Val) (x0 : Fld), p1.fields[i0]? = some x0 → tot v0_1 ≤ tot p0 + 2 * totF (List.take i0 p1.fields) → (x0.v.kind == 0) = false → H_Kr v0_1 x0.name (Q8s (s_Kl v0_1 x0.name).1 x0.v)) ∧ (∀ (i0 : Nat) (v0_1 : Val) (x0 : Fld), p1.fields[i0]? = some x0 → tot v0_1 ≤ tot p0 + 2 * totF (List.take i0 p1.fields) → (x0.v.kind == 0) = true → tot (s_Ks v0_1 x0.name) ≤ tot p0 + 2 * totF (List.take (i0 + 1) p1.fields)) ∧ (∀ (i0 : Nat) (v0_1 : Val) (x0 : Fld), p1.fields[i0]? = some x0 → tot v0_1 ≤ tot p0 + 2 * totF (List.take i0 p1.fields) → (x0.v.kind == 0) = false → tot (s_Kr v0_1 x0.name (Q8s (s_Kl v0_1 x0.name).1 x0.v)) ≤ tot p0 + 2 * totF (List.take (i0 + 1) p1.fields)) ∧ True
theorem Q7b : ∀ (p v : Val), Q8s v p = mg v p := Qrf fun p ih v => by
  have hl : ∀ (l : List Fld), (∀ f ∈ l, ∀ w, Q8s w f.v = mg w f.v) → ∀ i o, Q3u v p l i o = mgL l o := by
    intro l
    induction l with
    | nil => intro _ i o; rw [Q3u, Qqr]
    | cons x l ihl =>
      intro hx i o
      have ih' := ihl fun f hf => hx f (List.mem_cons_of_mem _ hf)
      rw [Q3u, Qld, Qtg, Qrh, Qxo, hx x List.mem_cons_self]
      cases x.v.kind == 0 with
      | true => exact ih' _ _
      | false => exact ih' _ _
  rw [Q8s, mg, mp0, hl _ ih, hl _ ih]
  all_goals (cases p.kind == 5 <;> first | rfl | (cases v.kind == 5 <;> rfl))
theorem Qbg (p0 : Val) (p1 : Val) (H : Qma p0 p1) : ((p1.kind == 5) = true → (p0.kind == 5) = true → Q5f p0 p1) ∧ ((p1.kind == 5) = true → (p0.kind == 5) = true → tot p0 ≤ tot p0 + 2 * totF (List.take 0 p1.fields)) ∧ ((p1.kind == 5) = true → (p0.kind == 5) = false → Q5f p0 p1) ∧ ((p1.kind == 5) = true → (p0.kind == 5) = false → tot (Val.mk 5 0 (⟨#[]⟩ : ByteArray) [] []) ≤ tot p0 + 2 * totF (List.take 0 p1.fields)) ∧ True := by
  have hb : Q5f p0 p1 := ⟨by have := Qkh p1; omega,
    fun i v x hx hv _ => Qxn (by have := take_at hx; omega) _,
    fun i v x hx hv _ => Q17i (by have := take_at hx; omega) _,
    fun i v x hx hv => by
      have := take_at hx
      have := Q98 v x.name
      unfold Qma
      rw [Qrh]
      omega,
    fun i v x hx hv _ => Q13x (by have := take_at hx; omega) _ (by
      have := take_at hx
      have := Q98 v x.name
      have := Qo7 x.v ((atN v x.name).getD zV)
      rw [Q7b, Qrh]
      omega),
    fun i v x hx hv _ => by
      have := take_at hx
      have := Qy8 v x.name
      rw [Qtg]
      omega,
    fun i v x hx hv _ => by
      have := take_at hx
      have := Qsd v x.name (mg ((atN v x.name).getD zV) x.v)
      have := Qo7 x.v ((atN v x.name).getD zV)
      rw [Q7b, Qrh, Qxo]
      omega, trivial⟩
  have h1 := Q3g p0
  exact ⟨fun _ _ => hb, fun _ _ => Nat.le_add_right _ _, fun _ _ => hb, fun _ _ => by have := Qqq; rw [mp0] at this; rw [this]; omega, trivial⟩
def Qh1 (_p0 : Val) (p1 : Val) (i0 : Nat) (_v0_1 : Val) : List PV :=
  [.un, .un, .un, .bx 0 0, .un, .un, .int .i64 (i0 : Int), .un, .un, .un, .un, .un, .un, .un, .un, .un, .un, .un, .un, .int .i64 (i0 : Int), .bx 0 4, .sl (Fld.rows p1.fields), .int .i64 ((List.length p1.fields) : Int), .bool false]
def Qdv (_p0 : Val) (_p1 : Val) (_i0 : Nat) (_v0_1 : Val) : List (Nat × List PV) :=
  []
theorem Qvk (p0 : Val) (p1 : Val) (_H : Q5f p0 p1) (_rec : Qch p1) (i0 : Nat) (v0_1 : Val) (_ho0_0 : tot v0_1 ≤ tot p0 + 2 * totF (List.take i0 p1.fields)) (hc0 : (decide ((i0 : Int) < ((List.length p1.fields) : Int))) = false) : Qbb p0 p1 (Q6t p0 p1 i0 v0_1) v0_1 := by
 exact ⟨(envF (Qh1 p0 p1 i0 v0_1)), (zoF (Qdv p0 p1 i0 v0_1)), Qe VOK.nil (x := ((.exit 0), Qit p0 p1 v0_1 (envF (Qh1 p0 p1 i0 v0_1)) (zoF (Qdv p0 p1 i0 v0_1)))) [hP 3 (Qj (Fld.rows p1.fields) (List.length p1.fields) (Fld.Qc p1.fields)), hB 0 hc0] [] (by kernel_rfl)⟩
theorem Qvh (p0 : Val) (p1 : Val) (H : Q5f p0 p1) (_rec : Qch p1) (x0 : Fld) (i0 : Nat) (v0_1 : Val) (hx0 : p1.fields[i0]? = some x0) (hi0 : i0 < List.length p1.fields) (ho0_0 : tot v0_1 ≤ tot p0 + 2 * totF (List.take i0 p1.fields)) (hc0 : (decide ((i0 : Int) < ((List.length p1.fields) : Int))) = true) (h0 : (x0.v.kind == 0) = true) {r : Rs} (hr : Q7 G (Q6t p0 p1 (i0 + 1) (s_Ks v0_1 x0.name)) r) : Q7 G (Q6t p0 p1 i0 v0_1) r := by
 have hB0 := H.1; have e0 := eq_of_beq h0
 exact Q8 VOK.nil (y := (Qfz p0 p1 (i0 + 1) (s_Ks v0_1 x0.name), Qdj p0 p1 (i0 + 1) (s_Ks v0_1 x0.name))) [hP 3 (Qj (Fld.rows p1.fields) (List.length p1.fields) (Fld.Qc p1.fields)), hB 0 hc0, hP 3 (Q1d 6 (Fld.rows p1.fields) i0 _ (Fld.Qf hx0) rfl), hB 6 h0, hP 6 (Qs i0 (by omega))] [aN (t_Ks v0_1 x0.name ((H.2.1 i0 v0_1 x0 hx0 ho0_0) h0))] (by kernel_rfl) hr
theorem Qvy (p0 : Val) (p1 : Val) (H : Q5f p0 p1) (rec : Qch p1) (x0 : Fld) (i0 : Nat) (v0_1 : Val) (hx0 : p1.fields[i0]? = some x0) (hi0 : i0 < List.length p1.fields) (ho0_0 : tot v0_1 ≤ tot p0 + 2 * totF (List.take i0 p1.fields)) (hc0 : (decide ((i0 : Int) < ((List.length p1.fields) : Int))) = true) (h0 : (x0.v.kind == 0) = false) {r : Rs} (hr : Q7 G (Q6t p0 p1 (i0 + 1) (s_Kr v0_1 x0.name (Q8s (s_Kl v0_1 x0.name).1 x0.v))) r) : Q7 G (Q6t p0 p1 i0 v0_1) r := by
 have hB0 := H.1; have e0 := beq_eq_false_iff_ne.1 h0
 exact Q8 VOK.nil (y := (Qfz p0 p1 (i0 + 1) (s_Kr v0_1 x0.name (Q8s (s_Kl v0_1 x0.name).1 x0.v)), Qdj p0 p1 (i0 + 1) (s_Kr v0_1 x0.name (Q8s (s_Kl v0_1 x0.name).1 x0.v)))) [hP 3 (Qj (Fld.rows p1.fields) (List.length p1.fields) (Fld.Qc p1.fields)), hB 0 hc0, hP 3 (Q1d 6 (Fld.rows p1.fields) i0 _ (Fld.Qf hx0) rfl), hB 6 h0, hP 20 (Qs i0 (by omega))] [aN (t_Kl v0_1 x0.name ((H.2.2.1 i0 v0_1 x0 hx0 ho0_0) h0)), aN (rec x0.v (szF hx0) (s_Kl v0_1 x0.name).1 (H.2.2.2.1 i0 v0_1 x0 hx0 ho0_0)), aN (t_Kr v0_1 x0.name (Q8s (s_Kl v0_1 x0.name).1 x0.v) ((H.2.2.2.2.1 i0 v0_1 x0 hx0 ho0_0) h0))] (by kernel_rfl) hr
theorem Q83 (p0 : Val) (p1 : Val) (H : Q5f p0 p1) (rec : Qch p1) : ∀ (r0 : List Fld) (i0 : Nat) (v0_1 : Val), List.drop i0 p1.fields = r0 → tot v0_1 ≤ tot p0 + 2 * totF (List.take i0 p1.fields) → Qbb p0 p1 (Q6t p0 p1 i0 v0_1) (Q3u p0 p1 r0 i0 v0_1)
 | [], i0, v0_1, hd, ho0_0 => by
  have hc0 : (decide ((i0 : Int) < ((List.length p1.fields) : Int))) = false := by have := Q1i hd; simp; omega
  rw [Q3u]
  exact Qvk p0 p1 H rec i0 v0_1 ho0_0 hc0
 | x0 :: r0, i0, v0_1, hd, ho0_0 => by
  obtain ⟨hx0, hi0, hd'⟩ := Q17 hd
  have hc0 : (decide ((i0 : Int) < ((List.length p1.fields) : Int))) = true := by simp; omega
  rw [Q3u]
  cases h0 : (x0.v.kind == 0) with
  | true =>
   exact Q8r p0 p1 (fun r hr => Qvh p0 p1 H rec x0 i0 v0_1 hx0 hi0 ho0_0 hc0 h0 hr) _ (Q83 p0 p1 H rec r0 (i0 + 1) (s_Ks v0_1 x0.name) hd' ((H.2.2.2.2.2.1 i0 v0_1 x0 hx0 ho0_0) h0))
  | false =>
   exact Q8r p0 p1 (fun r hr => Qvy p0 p1 H rec x0 i0 v0_1 hx0 hi0 ho0_0 hc0 h0 hr) _ (Q83 p0 p1 H rec r0 (i0 + 1) (s_Kr v0_1 x0.name (Q8s (s_Kl v0_1 x0.name).1 x0.v)) hd' ((H.2.2.2.2.2.2.1 i0 v0_1 x0 hx0 ho0_0) h0))
theorem Q189 (p0 : Val) (p1 : Val) (H : Qma p0 p1) (rec : Qch p1) : Q7 G (Q12o p0 p1) (Qyi p0 p1) := by
  unfold Qyi
  rw [Q8s]
  cases h0 : (p1.kind == 5) with
  | true =>
   cases h1 : (p0.kind == 5) with
   | true =>
    have hl2 := Q83 p0 p1 ((Qbg p0 p1 H).1 h0 h1) rec p1.fields 0 p0 (by simp) ((Qbg p0 p1 H).2.1 h0 h1)
    obtain ⟨z2, zo2, hl2⟩ := hl2
    exact Q9 (fn := Ir.K15) rfl VOK.nil [hP 5 (dec (!(p1.kind == 5)) false (by rw [h0]; rfl)), hB 5 h1] [aN hl2] (by kernel_rfl)
   | false =>
    have hl2 := Q83 p0 p1 ((Qbg p0 p1 H).2.2.1 h0 h1) rec p1.fields 0 (Val.mk 5 0 (⟨#[]⟩ : ByteArray) [] []) (by simp) ((Qbg p0 p1 H).2.2.2.1 h0 h1)
    obtain ⟨z2, zo2, hl2⟩ := hl2
    exact Q9 (fn := Ir.K15) rfl VOK.nil [hP 5 (dec (!(p1.kind == 5)) false (by rw [h0]; rfl)), hB 5 h1] [aN hl2] (by kernel_rfl)
  | false =>
   exact Q9 (fn := Ir.K15) rfl VOK.nil [hP 5 (dec (!(p1.kind == 5)) true (by rw [h0]; rfl))] [] (by kernel_rfl)
theorem Q16z : ∀ (k : Nat) (p1 : Val), SizeOf.sizeOf p1 < k → ∀ (p0 : Val), Qma p0 p1 → Q7 G (Q12o p0 p1) (Qyi p0 p1)
  | 0, _, h, _, _ => absurd h (Nat.not_lt_zero _)
  | k + 1, p1, h, p0, H => Q189 p0 p1 H (fun q hq p0 hH => Q16z k q (by omega) p0 hH)
theorem Q199 (p0 : Val) (p1 : Val) (H : Qma p0 p1) : Q7 G (Q12o p0 p1) (Qyi p0 p1) := Q16z _ p1 (Nat.lt_succ_self _) p0 H
def Qxb : Val :=
 (Val.mk 0 0 (⟨#[]⟩ : ByteArray) [] [])
def Q18m : En := .call 33 [] []
def Q155 : Rs := .ret (.agg (Val.cells (Qxb))) []
theorem Q19j : Q7 G (Q18m) (Q155) := by
 unfold Q155 Qxb
 exact Q9 (fn := Ir.K1o) rfl VOK.nil [] [] (by kernel_rfl)
mutual
def s_Ke (p0 : Val) (p1 : Val) : Val :=
 bif (p1.kind == 5) then
  bif (p0.kind == 5) then
   (Q5k p0 p1 p1.fields 0 (s_Kh p0))
  else
   (s_Kg (Qxb) p1)
 else
  (s_Kh p1)
termination_by SizeOf.sizeOf p1
decreasing_by all_goals first | exact Val.Q1v _ | exact Val.Q10 _ | exact Q1y _ _ | exact Q1s _ _ | exact Q1k _ _
def Q5k (p0 : Val) (p1 : Val) : List Fld → Nat → Val → Val
 | [], _i0, v0_1 =>
  v0_1
 | x0 :: r0, i0, v0_1 =>
  bif (Q2k p0 x0.name).2 then
   Q5k p0 p1 r0 (i0 + 1) (Q43 v0_1 x0.name (s_Ke (Q2k p0 x0.name).1 x0.v))
  else
   Q5k p0 p1 r0 (i0 + 1) (Q43 v0_1 x0.name x0.v)
termination_by l => SizeOf.sizeOf l
decreasing_by all_goals first | exact Val.Q1v _ | exact Val.Q10 _ | exact Q1y _ _ | exact Q1s _ _ | exact Q1k _ _
end
def Qkd (_p0 : Val) (p1 : Val) (i0 : Nat) (_v0_1 : Val) : List PV :=
  [.un, .un, .bx 0 0, .un, .bx 1 0, .bx 2 0, .un, .un, .un, .un, .un, .un, .un, .un, .un, .un, .un, .un, .un, .un, .un, .un, .un, .un, .un, .un, .un, .sl (Fld.rows p1.fields), .int .i64 ((List.length p1.fields) : Int), .int .i64 (i0 : Int), .un, .un, .un, .un, .un, .un, .un, .un, .un, .un, .un, .un, .un, .un, .un, .un, .un, .un, .un, .un, .un, .un, .un]
def Qkv (p0 : Val) (_p1 : Val) (_i0 : Nat) (v0_1 : Val) : List Ob :=
  [⟨5, 0, true, [.int .i64 p0.kind, .int .i64 p0.n, .str p0.s, .sl (Val.rows p0.list), .sl (Fld.rows p0.fields)]⟩, ⟨5, 0, true, [.int .i64 0, .int .i64 0, .str (⟨#[]⟩ : ByteArray), .ms 3 5 0 0, .ms 4 6 0 0]⟩, ⟨5, 0, true, [.int .i64 v0_1.kind, .int .i64 v0_1.n, .str v0_1.s, .sl (Val.rows v0_1.list), .sl (Fld.rows v0_1.fields)]⟩, ⟨5, 0, true, []⟩, ⟨6, 0, true, []⟩]
def Qa4 (p0 : Val) (p1 : Val) (i0 : Nat) (v0_1 : Val) : En := .loop 0 Ir.Qhv Ir.Q179 (Qkd p0 p1 i0 v0_1) (Qkv p0 p1 i0 v0_1)
def Qno (p0 : Val) (_p1 : Val) (q0 : Val) (z : Nat → PV) (_zo : Nat → List PV) : St :=
  ⟨[z 0, z 1, z 2, z 3, .bx 1 0, .bx 2 0, z 6, z 7, z 8, z 9, z 10, z 11, z 12, z 13, z 14, z 15, z 16, z 17, z 18, z 19, z 20, z 21, z 22, z 23, z 24, z 25, z 26, z 27, z 28, z 29, z 30, z 31, z 32, z 33, z 34, z 35, z 36, z 37, z 38, z 39, z 40, z 41, z 42, z 43, z 44, z 45, z 46, z 47, z 48, z 49, z 50, z 51, z 52], [(0, ⟨5, 0, true, [.int .i64 p0.kind, .int .i64 p0.n, .str p0.s, .sl (Val.rows p0.list), .sl (Fld.rows p0.fields)]⟩), (1, ⟨5, 0, true, [.int .i64 0, .int .i64 0, .str (⟨#[]⟩ : ByteArray), .ms 3 5 0 0, .ms 4 6 0 0]⟩), (2, ⟨5, 0, true, [.int .i64 q0.kind, .int .i64 q0.n, .str q0.s, .sl (Val.rows q0.list), .sl (Fld.rows q0.fields)]⟩), (3, ⟨5, 0, true, []⟩), (4, ⟨6, 0, true, []⟩)], 69⟩
def Qky (p0 : Val) (p1 : Val) (e : En) (q : Val) : Prop := ∃ z zo, Q7 G e (.st (.exit 1) (Qno p0 p1 q z zo))
theorem Qar (p0 : Val) (p1 : Val) {e e' : En} (h : ∀ r, Q7 G e r → Q7 G e' r) : ∀ q, Qky p0 p1 e q → Qky p0 p1 e' q
  | _, ⟨z, zo, hz⟩ => ⟨z, zo, h _ hz⟩
def c_Ke (p0 : Val) (p1 : Val) : En := .call 17 [.agg (Val.cells p0), .agg (Val.cells p1)] []
def a_Ke (p0 : Val) (p1 : Val) : Rs := .ret (.agg (Val.cells (s_Ke p0 p1))) []
abbrev H_Ke (p0 : Val) (p1 : Val) : Prop := 2 * (tot p0 * tot p1) + 1 ≤ 100000000
def Qo2 (p1 : Val) : Prop := ∀ (q : Val), SizeOf.sizeOf q < SizeOf.sizeOf p1 → ∀ (p0 : Val), H_Ke p0 q → Q7 G (c_Ke p0 q) (a_Ke p0 q)
def Q9y (p0 : Val) (p1 : Val) : Prop := (List.length p1.fields ≤ 137438953472) ∧ (∀ x0 ∈ p1.fields, Q11h p0 x0.name) ∧ (∀ x0 ∈ p1.fields, H_Ke (Q2k p0 x0.name).1 x0.v) ∧ (∀ (i0 : Nat) (v0_1 : Val) (x0 : Fld), p1.fields[i0]? = some x0 → tot v0_1 ≤ tot p0 + 2 * (tot p0 * totF (List.take i0 p1.fields)) → (Q2k p0 x0.name).2 = true → Qr9 v0_1 x0.name (s_Ke (Q2k p0 x0.name).1 x0.v)) ∧ (∀ (i0 : Nat) (v0_1 : Val) (x0 : Fld), p1.fields[i0]? = some x0 → tot v0_1 ≤ tot p0 + 2 * (tot p0 * totF (List.take i0 p1.fields)) → (Q2k p0 x0.name).2 = false → Qr9 v0_1 x0.name x0.v) ∧ (∀ (i0 : Nat) (v0_1 : Val) (x0 : Fld), p1.fields[i0]? = some x0 → tot v0_1 ≤ tot p0 + 2 * (tot p0 * totF (List.take i0 p1.fields)) → (Q2k p0 x0.name).2 = true → tot (Q43 v0_1 x0.name (s_Ke (Q2k p0 x0.name).1 x0.v)) ≤ tot p0 + 2 * (tot p0 * totF (List.take (i0 + 1) p1.fields))) ∧ (∀ (i0 : Nat) (v0_1 : Val) (x0 : Fld), p1.fields[i0]? = some x0 → tot v0_1 ≤ tot p0 + 2 * (tot p0 * totF (List.take i0 p1.fields)) → (Q2k p0 x0.name).2 = false → tot (Q43 v0_1 x0.name x0.v) ≤ tot p0 + 2 * (tot p0 * totF (List.take (i0 + 1) p1.fields))) ∧ True
theorem Q5l : ∀ (q p : Val), s_Ke p q = cp p q := Qrf fun q ih p => by
  have hl : ∀ (l : List Fld), (∀ f ∈ l, ∀ w, s_Ke w f.v = cp w f.v) → ∀ i o, Q5k p q l i o = cpL p l o := by
    intro l
    induction l with
    | nil => intro _ i o; rw [Q5k, Qqt]
    | cons x l ihl =>
      intro hx i o
      have ih' := ihl fun f hf => hx f (List.mem_cons_of_mem _ hf)
      rw [Q5k, Qm5, Q18q, Qqn, Qyu, Qyu, hx x List.mem_cons_self]
      cases e : atN p x.name with
      | none => exact ih' _ _
      | some y => exact ih' _ _
  rw [s_Ke, cp, hl _ ih, Q7e]
  all_goals (cases q.kind == 5 <;> first | rfl | (cases p.kind == 5 <;> rfl))
theorem Qcz (p0 : Val) (p1 : Val) (H : H_Ke p0 p1) : ((p1.kind == 5) = true → (p0.kind == 5) = true → H_Kh p0) ∧ ((p1.kind == 5) = true → (p0.kind == 5) = true → Q9y p0 p1) ∧ ((p1.kind == 5) = true → (p0.kind == 5) = true → tot (s_Kh p0) ≤ tot p0 + 2 * (tot p0 * totF (List.take 0 p1.fields))) ∧ ((p1.kind == 5) = true → (p0.kind == 5) = false → H_Kg (Qxb) p1) ∧ ((p1.kind == 5) = false → H_Kh p1) ∧ True := by
  have hA := Q3g p0
  have hB := Q3g p1
  have hA' := Nat.le_mul_of_pos_right (tot p0) hB
  have hB' := Nat.le_mul_of_pos_left (tot p1) hA
  have l1 := Qkh p1
  have st : ∀ (i : Nat) (x : Fld), p1.fields[i]? = some x → tot p0 * totF (List.take (i + 1) p1.fields) = tot p0 * totF (List.take i p1.fields) + tot p0 * tot x.v ∧ tot p0 + tot p0 * totF (List.take (i + 1) p1.fields) ≤ tot p0 * tot p1 ∧ tot x.v ≤ tot p0 * tot x.v := fun i x hx => by
    obtain ⟨h1, h2⟩ := take_at hx
    have h3 : tot p0 * (1 + totF (List.take (i + 1) p1.fields)) ≤ tot p0 * tot p1 := Nat.mul_le_mul_left _ (by omega)
    rw [Nat.mul_add, Nat.mul_one] at h3
    exact ⟨by rw [h1, Nat.mul_add], h3, Nat.le_mul_of_pos_left _ hA⟩
  have sd : ∀ x : Fld, tot (s_Ke (Q2k p0 x.name).1 x.v) ≤ 2 * (tot p0 * tot x.v) := fun x => by
    rw [Q5l, Qqn]
    have := Nat.mul_le_mul_right (tot x.v) (Q98 p0 x.name)
    have := Q11o x.v ((atN p0 x.name).getD zV)
    omega
  have hw : ∀ (i : Nat) (v : Val) (x : Fld) (y : Val), p1.fields[i]? = some x → tot v ≤ tot p0 + 2 * (tot p0 * totF (List.take i p1.fields)) → tot y ≤ 2 * (tot p0 * tot x.v) → Qr9 v x.name y ∧ tot (Q43 v x.name y) ≤ tot p0 + 2 * (tot p0 * totF (List.take (i + 1) p1.fields)) := fun i v x y hx hv hy => by
    obtain ⟨h1, h2, h3⟩ := st i x hx
    have := Qm9 v x.name y
    exact ⟨Q17k (by omega) _ (by omega), by rw [Qyu]; omega⟩
  have b0 : Q9y p0 p1 := ⟨by omega, fun x _ => tGet (by omega) _,
    fun x hx => by rw [Qqn]; have := Nat.mul_le_mul (Q98 p0 x.name) (Q116 hx); unfold H_Ke; omega,
    fun i v x hx hv _ => (hw i v x _ hx hv (sd x)).1, fun i v x hx hv _ => (hw i v x _ hx hv (by have := (st i x hx).2.2; omega)).1,
    fun i v x hx hv _ => (hw i v x _ hx hv (sd x)).2, fun i v x hx hv _ => (hw i v x _ hx hv (by have := (st i x hx).2.2; omega)).2, trivial⟩
  exact ⟨fun _ _ => Qka (by omega), fun _ _ => b0, fun _ _ => Nat.le_add_right _ _, fun _ _ => by
    unfold H_Kg
    rw [show tot (Qxb) = 1 from Q11l]
    omega, fun _ => Qka (by omega), trivial⟩
def Qpw (_p0 : Val) (p1 : Val) (i0 : Nat) (_v0_1 : Val) : List PV :=
  [.un, .un, .bx 0 0, .un, .un, .un, .un, .un, .un, .un, .un, .un, .un, .un, .un, .un, .un, .un, .un, .un, .un, .un, .un, .un, .un, .un, .un, .sl (Fld.rows p1.fields), .int .i64 ((List.length p1.fields) : Int), .int .i64 (i0 : Int), .bool false]
def Qig (_p0 : Val) (_p1 : Val) (_i0 : Nat) (_v0_1 : Val) : List (Nat × List PV) :=
  []
theorem Qy3 (p0 : Val) (p1 : Val) (_H : Q9y p0 p1) (_rec : Qo2 p1) (i0 : Nat) (v0_1 : Val) (_ho0_0 : tot v0_1 ≤ tot p0 + 2 * (tot p0 * totF (List.take i0 p1.fields))) (hc0 : (decide ((i0 : Int) < ((List.length p1.fields) : Int))) = false) : Qky p0 p1 (Qa4 p0 p1 i0 v0_1) v0_1 := by
 exact ⟨(envF (Qpw p0 p1 i0 v0_1)), (zoF (Qig p0 p1 i0 v0_1)), Qe VOK.nil (x := ((.exit 1), Qno p0 p1 v0_1 (envF (Qpw p0 p1 i0 v0_1)) (zoF (Qig p0 p1 i0 v0_1)))) [hB 0 hc0] [] (by kernel_rfl)⟩
theorem Qxu (p0 : Val) (p1 : Val) (H : Q9y p0 p1) (rec : Qo2 p1) (x0 : Fld) (i0 : Nat) (v0_1 : Val) (hx0 : p1.fields[i0]? = some x0) (hi0 : i0 < List.length p1.fields) (ho0_0 : tot v0_1 ≤ tot p0 + 2 * (tot p0 * totF (List.take i0 p1.fields))) (hc0 : (decide ((i0 : Int) < ((List.length p1.fields) : Int))) = true) (h0 : (Q2k p0 x0.name).2 = true) {r : Rs} (hr : Q7 G (Qa4 p0 p1 (i0 + 1) (Q43 v0_1 x0.name (s_Ke (Q2k p0 x0.name).1 x0.v))) r) : Q7 G (Qa4 p0 p1 i0 v0_1) r := by
 have hB0 := H.1
 exact Q8 VOK.nil (y := (Qkd p0 p1 (i0 + 1) (Q43 v0_1 x0.name (s_Ke (Q2k p0 x0.name).1 x0.v)), Qkv p0 p1 (i0 + 1) (Q43 v0_1 x0.name (s_Ke (Q2k p0 x0.name).1 x0.v)))) [hB 0 hc0, hP 0 (Q1d 6 (Fld.rows p1.fields) i0 _ (Fld.Qf hx0) rfl), hB 13 h0, hP 14 (Qs i0 (by omega))] [aN (Q146 p0 x0.name ((H.2.1 x0 (Q12 hx0)))), aN (rec x0.v (szF hx0) (Q2k p0 x0.name).1 (H.2.2.1 x0 (Q12 hx0))), aN (Q14q v0_1 x0.name (s_Ke (Q2k p0 x0.name).1 x0.v) ((H.2.2.2.1 i0 v0_1 x0 hx0 ho0_0) h0))] (by kernel_rfl) hr
theorem Q119 (p0 : Val) (p1 : Val) (H : Q9y p0 p1) (_rec : Qo2 p1) (x0 : Fld) (i0 : Nat) (v0_1 : Val) (hx0 : p1.fields[i0]? = some x0) (hi0 : i0 < List.length p1.fields) (ho0_0 : tot v0_1 ≤ tot p0 + 2 * (tot p0 * totF (List.take i0 p1.fields))) (hc0 : (decide ((i0 : Int) < ((List.length p1.fields) : Int))) = true) (h0 : (Q2k p0 x0.name).2 = false) {r : Rs} (hr : Q7 G (Qa4 p0 p1 (i0 + 1) (Q43 v0_1 x0.name x0.v)) r) : Q7 G (Qa4 p0 p1 i0 v0_1) r := by
 have hB0 := H.1
 exact Q8 VOK.nil (y := (Qkd p0 p1 (i0 + 1) (Q43 v0_1 x0.name x0.v), Qkv p0 p1 (i0 + 1) (Q43 v0_1 x0.name x0.v))) [hB 0 hc0, hP 0 (Q1d 6 (Fld.rows p1.fields) i0 _ (Fld.Qf hx0) rfl), hB 13 h0, hP 10 (Qs i0 (by omega))] [aN (Q146 p0 x0.name ((H.2.1 x0 (Q12 hx0)))), aN (Q14q v0_1 x0.name x0.v ((H.2.2.2.2.1 i0 v0_1 x0 hx0 ho0_0) h0))] (by kernel_rfl) hr
theorem Ql7 (p0 : Val) (p1 : Val) (H : Q9y p0 p1) (rec : Qo2 p1) : ∀ (r0 : List Fld) (i0 : Nat) (v0_1 : Val), List.drop i0 p1.fields = r0 → tot v0_1 ≤ tot p0 + 2 * (tot p0 * totF (List.take i0 p1.fields)) → Qky p0 p1 (Qa4 p0 p1 i0 v0_1) (Q5k p0 p1 r0 i0 v0_1)
 | [], i0, v0_1, hd, ho0_0 => by
  have hc0 : (decide ((i0 : Int) < ((List.length p1.fields) : Int))) = false := by have := Q1i hd; simp; omega
  rw [Q5k]
  exact Qy3 p0 p1 H rec i0 v0_1 ho0_0 hc0
 | x0 :: r0, i0, v0_1, hd, ho0_0 => by
  obtain ⟨hx0, hi0, hd'⟩ := Q17 hd
  have hc0 : (decide ((i0 : Int) < ((List.length p1.fields) : Int))) = true := by simp; omega
  rw [Q5k]
  cases h0 : (Q2k p0 x0.name).2 with
  | true =>
   exact Qar p0 p1 (fun r hr => Qxu p0 p1 H rec x0 i0 v0_1 hx0 hi0 ho0_0 hc0 h0 hr) _ (Ql7 p0 p1 H rec r0 (i0 + 1) (Q43 v0_1 x0.name (s_Ke (Q2k p0 x0.name).1 x0.v)) hd' ((H.2.2.2.2.2.1 i0 v0_1 x0 hx0 ho0_0) h0))
  | false =>
   exact Qar p0 p1 (fun r hr => Q119 p0 p1 H rec x0 i0 v0_1 hx0 hi0 ho0_0 hc0 h0 hr) _ (Ql7 p0 p1 H rec r0 (i0 + 1) (Q43 v0_1 x0.name x0.v) hd' ((H.2.2.2.2.2.2.1 i0 v0_1 x0 hx0 ho0_0) h0))
theorem r_Ke (p0 : Val) (p1 : Val) (H : H_Ke p0 p1) (rec : Qo2 p1) : Q7 G (c_Ke p0 p1) (a_Ke p0 p1) := by
  unfold a_Ke
  rw [s_Ke]
  cases h0 : (p1.kind == 5) with
  | true =>
   cases h1 : (p0.kind == 5) with
   | true =>
    have hl2 := Ql7 p0 p1 ((Qcz p0 p1 H).2.1 h0 h1) rec p1.fields 0 (s_Kh p0) (by simp) ((Qcz p0 p1 H).2.2.1 h0 h1)
    obtain ⟨z2, zo2, hl2⟩ := hl2
    exact Q9 (fn := Ir.Ke) rfl VOK.nil [hP 5 (dec (!(p1.kind == 5)) false (by rw [h0]; rfl)), hP 3 (dec (!(p0.kind == 5)) false (by rw [h1]; rfl)), hP 7 (Qj (Fld.rows p1.fields) (List.length p1.fields) (Fld.Qc p1.fields))] [aN (t_Kh p0 ((Qcz p0 p1 H).1 h0 h1)), aN hl2] (by kernel_rfl)
   | false =>
    exact Q9 (fn := Ir.Ke) rfl VOK.nil [hP 5 (dec (!(p1.kind == 5)) false (by rw [h0]; rfl)), hP 3 (dec (!(p0.kind == 5)) true (by rw [h1]; rfl))] [aN (Q19j), aN (t_Kg (Qxb) p1 ((Qcz p0 p1 H).2.2.2.1 h0 h1))] (by kernel_rfl)
  | false =>
   exact Q9 (fn := Ir.Ke) rfl VOK.nil [hP 5 (dec (!(p1.kind == 5)) true (by rw [h0]; rfl))] [aN (t_Kh p1 ((Qcz p0 p1 H).2.2.2.2.1 h0))] (by kernel_rfl)
theorem i_Ke : ∀ (k : Nat) (p1 : Val), SizeOf.sizeOf p1 < k → ∀ (p0 : Val), H_Ke p0 p1 → Q7 G (c_Ke p0 p1) (a_Ke p0 p1)
  | 0, _, h, _, _ => absurd h (Nat.not_lt_zero _)
  | k + 1, p1, h, p0, H => r_Ke p0 p1 H (fun q hq p0 hH => i_Ke k q (by omega) p0 hH)
theorem t_Ke (p0 : Val) (p1 : Val) (H : H_Ke p0 p1) : Q7 G (c_Ke p0 p1) (a_Ke p0 p1) := i_Ke _ p1 (Nat.lt_succ_self _) p0 H
mutual
def Q5y (p0 : Val) (p1 : Val) : Val :=
 bif (p1.kind == 5) then
  bif (p0.kind == 5) then
   (Q41 p0 p1 p1.fields 0 p0)
  else
   (Q8s (Val.mk 0 0 (⟨#[]⟩ : ByteArray) [] []) p1)
 else
  p1
termination_by SizeOf.sizeOf p1
decreasing_by all_goals first | exact Val.Q1v _ | exact Val.Q10 _ | exact Q1y _ _ | exact Q1s _ _ | exact Q1k _ _
def Q41 (p0 : Val) (p1 : Val) : List Fld → Nat → Val → Val
 | [], _i0, v0_1 =>
  v0_1
 | x0 :: r0, i0, v0_1 =>
  bif (s_Kl p0 x0.name).2 then
   Q41 p0 p1 r0 (i0 + 1) (s_Kr v0_1 x0.name (Q5y (s_Kl p0 x0.name).1 x0.v))
  else
   Q41 p0 p1 r0 (i0 + 1) (s_Kr v0_1 x0.name x0.v)
termination_by l => SizeOf.sizeOf l
decreasing_by all_goals first | exact Val.Q1v _ | exact Val.Q10 _ | exact Q1y _ _ | exact Q1s _ _ | exact Q1k _ _
end
def Qed (_p0 : Val) (_p1 : Val) (i0 : Nat) (_v0_1 : Val) : List PV :=
  [.un, .un, .bx 0 0, .bx 1 0, .bx 2 0, .bx 3 0, .int .i64 (i0 : Int), .un, .un, .un, .un, .un, .un, .un, .un, .un, .un, .un, .un, .un, .un, .un, .un, .un, .un, .un, .un, .un, .un, .un, .un, .un, .un, .un, .un, .un, .un, .un, .un, .un, .un, .un, .un, .un, .un, .un, .un, .un, .un, .un, .un, .un, .un, .un, .un, .un]
def Qfi (p0 : Val) (p1 : Val) (_i0 : Nat) (v0_1 : Val) : List Ob :=
  [⟨5, 0, true, [.int .i64 p0.kind, .int .i64 p0.n, .str p0.s, .sl (Val.rows p0.list), .sl (Fld.rows p0.fields)]⟩, ⟨5, 0, true, [.int .i64 p1.kind, .int .i64 p1.n, .str p1.s, .sl (Val.rows p1.list), .sl (Fld.rows p1.fields)]⟩, ⟨5, 0, true, [.int .i64 0, .int .i64 0, .str (⟨#[]⟩ : ByteArray), .ms 4 5 0 0, .ms 5 6 0 0]⟩, ⟨5, 0, true, [.int .i64 v0_1.kind, .int .i64 v0_1.n, .str v0_1.s, .sl (Val.rows v0_1.list), .sl (Fld.rows v0_1.fields)]⟩, ⟨5, 0, true, []⟩, ⟨6, 0, true, []⟩]
def Q6o (p0 : Val) (p1 : Val) (i0 : Nat) (v0_1 : Val) : En := .loop 0 Ir.Qde Ir.Q138 (Qed p0 p1 i0 v0_1) (Qfi p0 p1 i0 v0_1)
def Qis (p0 : Val) (p1 : Val) (q0 : Val) (z : Nat → PV) (_zo : Nat → List PV) : St :=
  ⟨[z 0, z 1, z 2, z 3, .bx 2 0, .bx 3 0, z 6, z 7, z 8, z 9, z 10, z 11, z 12, z 13, z 14, z 15, z 16, z 17, z 18, z 19, z 20, z 21, z 22, z 23, z 24, z 25, z 26, z 27, z 28, z 29, z 30, z 31, z 32, z 33, z 34, z 35, z 36, z 37, z 38, z 39, z 40, z 41, z 42, z 43, z 44, z 45, z 46, z 47, z 48, z 49, z 50, z 51, z 52, z 53, z 54, z 55], [(0, ⟨5, 0, true, [.int .i64 p0.kind, .int .i64 p0.n, .str p0.s, .sl (Val.rows p0.list), .sl (Fld.rows p0.fields)]⟩), (1, ⟨5, 0, true, [.int .i64 p1.kind, .int .i64 p1.n, .str p1.s, .sl (Val.rows p1.list), .sl (Fld.rows p1.fields)]⟩), (2, ⟨5, 0, true, [.int .i64 0, .int .i64 0, .str (⟨#[]⟩ : ByteArray), .ms 4 5 0 0, .ms 5 6 0 0]⟩), (3, ⟨5, 0, true, [.int .i64 q0.kind, .int .i64 q0.n, .str q0.s, .sl (Val.rows q0.list), .sl (Fld.rows q0.fields)]⟩), (4, ⟨5, 0, true, []⟩), (5, ⟨6, 0, true, []⟩)], 326⟩
def Qbn (p0 : Val) (p1 : Val) (e : En) (q : Val) : Prop := ∃ z zo, Q7 G e (.st (.exit 0) (Qis p0 p1 q z zo))
theorem Q8z (p0 : Val) (p1 : Val) {e e' : En} (h : ∀ r, Q7 G e r → Q7 G e' r) : ∀ q, Qbn p0 p1 e q → Qbn p0 p1 e' q
  | _, ⟨z, zo, hz⟩ => ⟨z, zo, h _ hz⟩
def Q130 (p0 : Val) (p1 : Val) : En := .call 18 [.agg (Val.cells p0), .agg (Val.cells p1)] []
def Qyf (p0 : Val) (p1 : Val) : Rs := .ret (.agg (Val.cells (Q5y p0 p1))) []
abbrev Qk0 (p0 : Val) (p1 : Val) : Prop := 2 * (tot p0 * tot p1) + 1 ≤ 100000000
def Qe8 (p1 : Val) : Prop := ∀ (q : Val), SizeOf.sizeOf q < SizeOf.sizeOf p1 → ∀ (p0 : Val), Qk0 p0 q → Q7 G (Q130 p0 q) (Qyf p0 q)
def Q6m (p0 : Val) (p1 : Val) : Prop := (List.length p1.fields ≤ 137438953472) ∧ (∀ x0 ∈ p1.fields, H_Kl p0 x0.name) ∧ (∀ x0 ∈ p1.fields, Qk0 (s_Kl p0 x0.name).1 x0.v) ∧ (∀ (i0 : Nat) (v0_1 : Val) (x0 : Fld), p1.fields[i0]? = some x0 → tot v0_1 ≤ tot p0 + 2 * (tot p0 * totF (List.take i0 p1.fields)) → (s_Kl p0 x0.name).2 = true → H_Kr v0_1 x0.name (Q5y (s_Kl p0 x0.name).1 x0.v)) ∧ (∀ (i0 : Nat) (v0_1 : Val) (x0 : Fld), p1.fields[i0]? = some x0 → tot v0_1 ≤ tot p0 + 2 * (tot p0 * totF (List.take i0 p1.fields)) → (s_Kl p0 x0.name).2 = false → H_Kr v0_1 x0.name x0.v) ∧ (∀ (i0 : Nat) (v0_1 : Val) (x0 : Fld), p1.fields[i0]? = some x0 → tot v0_1 ≤ tot p0 + 2 * (tot p0 * totF (List.take i0 p1.fields)) → (s_Kl p0 x0.name).2 = true → tot (s_Kr v0_1 x0.name (Q5y (s_Kl p0 x0.name).1 x0.v)) ≤ tot p0 + 2 * (tot p0 * totF (List.take (i0 + 1) p1.fields))) ∧ (∀ (i0 : Nat) (v0_1 : Val) (x0 : Fld), p1.fields[i0]? = some x0 → tot v0_1 ≤ tot p0 + 2 * (tot p0 * totF (List.take i0 p1.fields)) → (s_Kl p0 x0.name).2 = false → tot (s_Kr v0_1 x0.name x0.v) ≤ tot p0 + 2 * (tot p0 * totF (List.take (i0 + 1) p1.fields))) ∧ True
theorem Q8x : ∀ (q p : Val), Q5y p q = cp p q := Qrf fun q ih p => by
  have hl : ∀ (l : List Fld), (∀ f ∈ l, ∀ w, Q5y w f.v = cp w f.v) → ∀ i o, Q41 p q l i o = cpL p l o := by
    intro l
    induction l with
    | nil => intro _ i o; rw [Q41, Qqt]
    | cons x l ihl =>
      intro hx i o
      have ih' := ihl fun f hf => hx f (List.mem_cons_of_mem _ hf)
      rw [Q41, Qm5, Q190, Qrh, Qxo, Qxo, hx x List.mem_cons_self]
      cases e : atN p x.name with
      | none => exact ih' _ _
      | some y => exact ih' _ _
  rw [Q5y, cp, hl _ ih, Q7b]
  all_goals (cases q.kind == 5 <;> first | rfl | (cases p.kind == 5 <;> rfl))
theorem Qlg (p0 : Val) (p1 : Val) (H : Qk0 p0 p1) : ((p1.kind == 5) = true → (p0.kind == 5) = true → Q6m p0 p1) ∧ ((p1.kind == 5) = true → (p0.kind == 5) = true → tot p0 ≤ tot p0 + 2 * (tot p0 * totF (List.take 0 p1.fields))) ∧ ((p1.kind == 5) = true → (p0.kind == 5) = false → Qma (Val.mk 0 0 (⟨#[]⟩ : ByteArray) [] []) p1) ∧ True := by
  have hA := Q3g p0
  have hB := Q3g p1
  have hA' := Nat.le_mul_of_pos_right (tot p0) hB
  have hB' := Nat.le_mul_of_pos_left (tot p1) hA
  have l1 := Qkh p1
  have st : ∀ (i : Nat) (x : Fld), p1.fields[i]? = some x → tot p0 * totF (List.take (i + 1) p1.fields) = tot p0 * totF (List.take i p1.fields) + tot p0 * tot x.v ∧ tot p0 + tot p0 * totF (List.take (i + 1) p1.fields) ≤ tot p0 * tot p1 ∧ tot x.v ≤ tot p0 * tot x.v := fun i x hx => by
    obtain ⟨h1, h2⟩ := take_at hx
    have h3 : tot p0 * (1 + totF (List.take (i + 1) p1.fields)) ≤ tot p0 * tot p1 := Nat.mul_le_mul_left _ (by omega)
    rw [Nat.mul_add, Nat.mul_one] at h3
    exact ⟨by rw [h1, Nat.mul_add], h3, Nat.le_mul_of_pos_left _ hA⟩
  have sd : ∀ x : Fld, tot (Q5y (s_Kl p0 x.name).1 x.v) ≤ 2 * (tot p0 * tot x.v) := fun x => by
    rw [Q8x, Qrh]
    have := Nat.mul_le_mul_right (tot x.v) (Q98 p0 x.name)
    have := Q11o x.v ((atN p0 x.name).getD zV)
    omega
  have hw : ∀ (i : Nat) (v : Val) (x : Fld) (y : Val), p1.fields[i]? = some x → tot v ≤ tot p0 + 2 * (tot p0 * totF (List.take i p1.fields)) → tot y ≤ 2 * (tot p0 * tot x.v) → H_Kr v x.name y ∧ tot (s_Kr v x.name y) ≤ tot p0 + 2 * (tot p0 * totF (List.take (i + 1) p1.fields)) := fun i v x y hx hv hy => by
    obtain ⟨h1, h2, h3⟩ := st i x hx
    have := Qm9 v x.name y
    exact ⟨Q13x (by omega) _ (by omega), by rw [Qxo]; omega⟩
  have b0 : Q6m p0 p1 := ⟨by omega, fun x _ => Q17i (by omega) _,
    fun x hx => by rw [Qrh]; have := Nat.mul_le_mul (Q98 p0 x.name) (Q116 hx); unfold Qk0; omega,
    fun i v x hx hv _ => (hw i v x _ hx hv (sd x)).1, fun i v x hx hv _ => (hw i v x _ hx hv (by have := (st i x hx).2.2; omega)).1,
    fun i v x hx hv _ => (hw i v x _ hx hv (sd x)).2, fun i v x hx hv _ => (hw i v x _ hx hv (by have := (st i x hx).2.2; omega)).2, trivial⟩
  exact ⟨fun _ _ => b0, fun _ _ => Nat.le_add_right _ _, fun _ _ => by
    unfold Qma
    rw [Q11l]
    omega, trivial⟩
def Qht (_p0 : Val) (p1 : Val) (i0 : Nat) (_v0_1 : Val) : List PV :=
  [.un, .un, .bx 0 0, .bx 1 0, .un, .un, .int .i64 (i0 : Int), .un, .un, .un, .un, .un, .un, .un, .un, .un, .un, .un, .un, .un, .un, .int .i64 (i0 : Int), .bx 1 4, .sl (Fld.rows p1.fields), .int .i64 ((List.length p1.fields) : Int), .bool false]
def Qf7 (_p0 : Val) (_p1 : Val) (_i0 : Nat) (_v0_1 : Val) : List (Nat × List PV) :=
  []
theorem Qvz (p0 : Val) (p1 : Val) (_H : Q6m p0 p1) (_rec : Qe8 p1) (i0 : Nat) (v0_1 : Val) (_ho0_0 : tot v0_1 ≤ tot p0 + 2 * (tot p0 * totF (List.take i0 p1.fields))) (hc0 : (decide ((i0 : Int) < ((List.length p1.fields) : Int))) = false) : Qbn p0 p1 (Q6o p0 p1 i0 v0_1) v0_1 := by
 exact ⟨(envF (Qht p0 p1 i0 v0_1)), (zoF (Qf7 p0 p1 i0 v0_1)), Qe VOK.nil (x := ((.exit 0), Qis p0 p1 v0_1 (envF (Qht p0 p1 i0 v0_1)) (zoF (Qf7 p0 p1 i0 v0_1)))) [hP 3 (Qj (Fld.rows p1.fields) (List.length p1.fields) (Fld.Qc p1.fields)), hB 0 hc0] [] (by kernel_rfl)⟩
theorem Qwo (p0 : Val) (p1 : Val) (H : Q6m p0 p1) (rec : Qe8 p1) (x0 : Fld) (i0 : Nat) (v0_1 : Val) (hx0 : p1.fields[i0]? = some x0) (hi0 : i0 < List.length p1.fields) (ho0_0 : tot v0_1 ≤ tot p0 + 2 * (tot p0 * totF (List.take i0 p1.fields))) (hc0 : (decide ((i0 : Int) < ((List.length p1.fields) : Int))) = true) (h0 : (s_Kl p0 x0.name).2 = true) {r : Rs} (hr : Q7 G (Q6o p0 p1 (i0 + 1) (s_Kr v0_1 x0.name (Q5y (s_Kl p0 x0.name).1 x0.v))) r) : Q7 G (Q6o p0 p1 i0 v0_1) r := by
 have hB0 := H.1
 exact Q8 VOK.nil (y := (Qed p0 p1 (i0 + 1) (s_Kr v0_1 x0.name (Q5y (s_Kl p0 x0.name).1 x0.v)), Qfi p0 p1 (i0 + 1) (s_Kr v0_1 x0.name (Q5y (s_Kl p0 x0.name).1 x0.v)))) [hP 3 (Qj (Fld.rows p1.fields) (List.length p1.fields) (Fld.Qc p1.fields)), hB 0 hc0, hP 3 (Q1d 6 (Fld.rows p1.fields) i0 _ (Fld.Qf hx0) rfl), hB 9 h0, hP 14 (Qs i0 (by omega))] [aN (t_Kl p0 x0.name ((H.2.1 x0 (Q12 hx0)))), aN (rec x0.v (szF hx0) (s_Kl p0 x0.name).1 (H.2.2.1 x0 (Q12 hx0))), aN (t_Kr v0_1 x0.name (Q5y (s_Kl p0 x0.name).1 x0.v) ((H.2.2.2.1 i0 v0_1 x0 hx0 ho0_0) h0))] (by kernel_rfl) hr
theorem Qx3 (p0 : Val) (p1 : Val) (H : Q6m p0 p1) (_rec : Qe8 p1) (x0 : Fld) (i0 : Nat) (v0_1 : Val) (hx0 : p1.fields[i0]? = some x0) (hi0 : i0 < List.length p1.fields) (ho0_0 : tot v0_1 ≤ tot p0 + 2 * (tot p0 * totF (List.take i0 p1.fields))) (hc0 : (decide ((i0 : Int) < ((List.length p1.fields) : Int))) = true) (h0 : (s_Kl p0 x0.name).2 = false) {r : Rs} (hr : Q7 G (Q6o p0 p1 (i0 + 1) (s_Kr v0_1 x0.name x0.v)) r) : Q7 G (Q6o p0 p1 i0 v0_1) r := by
 have hB0 := H.1
 exact Q8 VOK.nil (y := (Qed p0 p1 (i0 + 1) (s_Kr v0_1 x0.name x0.v), Qfi p0 p1 (i0 + 1) (s_Kr v0_1 x0.name x0.v))) [hP 3 (Qj (Fld.rows p1.fields) (List.length p1.fields) (Fld.Qc p1.fields)), hB 0 hc0, hP 3 (Q1d 6 (Fld.rows p1.fields) i0 _ (Fld.Qf hx0) rfl), hB 9 h0, hP 12 (Qs i0 (by omega))] [aN (t_Kl p0 x0.name ((H.2.1 x0 (Q12 hx0)))), aN (t_Kr v0_1 x0.name x0.v ((H.2.2.2.2.1 i0 v0_1 x0 hx0 ho0_0) h0))] (by kernel_rfl) hr
theorem Qd9 (p0 : Val) (p1 : Val) (H : Q6m p0 p1) (rec : Qe8 p1) : ∀ (r0 : List Fld) (i0 : Nat) (v0_1 : Val), List.drop i0 p1.fields = r0 → tot v0_1 ≤ tot p0 + 2 * (tot p0 * totF (List.take i0 p1.fields)) → Qbn p0 p1 (Q6o p0 p1 i0 v0_1) (Q41 p0 p1 r0 i0 v0_1)
 | [], i0, v0_1, hd, ho0_0 => by
  have hc0 : (decide ((i0 : Int) < ((List.length p1.fields) : Int))) = false := by have := Q1i hd; simp; omega
  rw [Q41]
  exact Qvz p0 p1 H rec i0 v0_1 ho0_0 hc0
 | x0 :: r0, i0, v0_1, hd, ho0_0 => by
  obtain ⟨hx0, hi0, hd'⟩ := Q17 hd
  have hc0 : (decide ((i0 : Int) < ((List.length p1.fields) : Int))) = true := by simp; omega
  rw [Q41]
  cases h0 : (s_Kl p0 x0.name).2 with
  | true =>
   exact Q8z p0 p1 (fun r hr => Qwo p0 p1 H rec x0 i0 v0_1 hx0 hi0 ho0_0 hc0 h0 hr) _ (Qd9 p0 p1 H rec r0 (i0 + 1) (s_Kr v0_1 x0.name (Q5y (s_Kl p0 x0.name).1 x0.v)) hd' ((H.2.2.2.2.2.1 i0 v0_1 x0 hx0 ho0_0) h0))
  | false =>
   exact Q8z p0 p1 (fun r hr => Qx3 p0 p1 H rec x0 i0 v0_1 hx0 hi0 ho0_0 hc0 h0 hr) _ (Qd9 p0 p1 H rec r0 (i0 + 1) (s_Kr v0_1 x0.name x0.v) hd' ((H.2.2.2.2.2.2.1 i0 v0_1 x0 hx0 ho0_0) h0))
theorem Q195 (p0 : Val) (p1 : Val) (H : Qk0 p0 p1) (rec : Qe8 p1) : Q7 G (Q130 p0 p1) (Qyf p0 p1) := by
  unfold Qyf
  rw [Q5y]
  cases h0 : (p1.kind == 5) with
  | true =>
   cases h1 : (p0.kind == 5) with
   | true =>
    have hl2 := Qd9 p0 p1 ((Qlg p0 p1 H).1 h0 h1) rec p1.fields 0 p0 (by simp) ((Qlg p0 p1 H).2.1 h0 h1)
    obtain ⟨z2, zo2, hl2⟩ := hl2
    exact Q9 (fn := Ir.K13) rfl VOK.nil [hP 5 (dec (!(p1.kind == 5)) false (by rw [h0]; rfl)), hP 2 (dec (!(p0.kind == 5)) false (by rw [h1]; rfl))] [aN hl2] (by kernel_rfl)
   | false =>
    exact Q9 (fn := Ir.K13) rfl VOK.nil [hP 5 (dec (!(p1.kind == 5)) false (by rw [h0]; rfl)), hP 2 (dec (!(p0.kind == 5)) true (by rw [h1]; rfl))] [aN (Q199 (Val.mk 0 0 (⟨#[]⟩ : ByteArray) [] []) p1 ((Qlg p0 p1 H).2.2.1 h0 h1))] (by kernel_rfl)
  | false =>
   exact Q9 (fn := Ir.K13) rfl VOK.nil [hP 5 (dec (!(p1.kind == 5)) true (by rw [h0]; rfl))] [] (by kernel_rfl)
theorem Q165 : ∀ (k : Nat) (p1 : Val), SizeOf.sizeOf p1 < k → ∀ (p0 : Val), Qk0 p0 p1 → Q7 G (Q130 p0 p1) (Qyf p0 p1)
  | 0, _, h, _, _ => absurd h (Nat.not_lt_zero _)
  | k + 1, p1, h, p0, H => Q195 p0 p1 H (fun q hq p0 hH => Q165 k q (by omega) p0 hH)
theorem Q168 (p0 : Val) (p1 : Val) (H : Qk0 p0 p1) : Q7 G (Q130 p0 p1) (Qyf p0 p1) := Q165 _ p1 (Nat.lt_succ_self _) p0 H
end Go.Proofs.Ytnhhddbbppbblaa
end

section
/- What the laws on patches ask of their values (printed by a program). -/
namespace Go.Proofs.Ytnhhddbbppbblaa
open Go.Pv
inductive Qzo where
  | k0
  | k1
def Q5c (p0 : List Val) : List Val → Nat → Qzo
 | [], _i0 =>
  (.k0)
 | x0 :: r0, i0 =>
  bif (s_Kz x0 3000) then
   bif (s_Ko x0) then
    Q5c p0 r0 (i0 + 1)
   else
    (.k1)
  else
   (.k1)
def Qsz (p0 : List Val) (i0 : Nat) : List PV :=
  [.un, .un, .un, .un, .un, .sl (Val.rows p0), .int .i64 ((List.length p0) : Int), .int .i64 (i0 : Int), .un, .un, .un, .un, .un, .un, .un, .un, .un, .un, .un, .un]
def Qtk (_p0 : List Val) (_i0 : Nat) : List Ob :=
  []
def Q9i (p0 : List Val) (i0 : Nat) : En := .loop 0 Ir.Qjr Ir.Q15p (Qsz p0 i0) (Qtk p0 i0)
def Qnm (_p0 : List Val) (z : Nat → PV) (_zo : Nat → List PV) : St :=
  ⟨[z 0, z 1, z 2, z 3, z 4, z 5, z 6, z 7, z 8, z 9, z 10, z 11, z 12, z 13, z 14, z 15, z 16, z 17, z 18, z 19], [], 64⟩
def Qcu (_p0 : List Val) (z : Nat → PV) (zo : Nat → List PV) : St :=
  ⟨[z 0, z 1, .bool false, z 3, z 4, z 5, z 6, z 7, z 8, z 9, z 10, z 11, z 12, z 13, z 14, z 15, z 16, z 17, z 18, z 19], [(192, ⟨5, 0, true, zo 192⟩)], 896⟩
def Qa1 (p0 : List Val) (e : En) : Qzo → Prop
  | .k0 => ∃ z zo, Q7 G e (.st (.exit 0) (Qnm p0 z zo))
  | .k1 => ∃ z zo, Q7 G e (.st .ret (Qcu p0 z zo))
theorem Qpt (p0 : List Val) {e e' : En} (h : ∀ r, Q7 G e r → Q7 G e' r) : ∀ q, Qa1 p0 e q → Qa1 p0 e' q
  | .k0, ⟨z, zo, hz⟩ => ⟨z, zo, h _ hz⟩
  | .k1, ⟨z, zo, hz⟩ => ⟨z, zo, h _ hz⟩
def Q9v (p0 : List Val) : Prop := (List.length p0 ≤ 4611686018427387904) ∧ (∀ x0 ∈ p0, H_Kz x0 3000) ∧ (∀ x0 ∈ p0, H_Ko x0) ∧ True
def Qny (p0 : List Val) (i0 : Nat) : List PV :=
  [.un, .un, .un, .un, .un, .sl (Val.rows p0), .int .i64 ((List.length p0) : Int), .int .i64 (i0 : Int), .bool false]
def Qhk (_p0 : List Val) (_i0 : Nat) : List (Nat × List PV) :=
  []
theorem Q11v (p0 : List Val) (_H : Q9v p0) (i0 : Nat) (hc0 : (decide ((i0 : Int) < ((List.length p0) : Int))) = false) : Qa1 p0 (Q9i p0 i0) (.k0) := by
 exact ⟨(envF (Qny p0 i0)), (zoF (Qhk p0 i0)), Qe VOK.nil (x := ((.exit 0), Qnm p0 (envF (Qny p0 i0)) (zoF (Qhk p0 i0)))) [hB 0 hc0] [] (by kernel_rfl)⟩
theorem Qxj (p0 : List Val) (H : Q9v p0) (x0 : Val) (i0 : Nat) (hx0 : p0[i0]? = some x0) (hi0 : i0 < List.length p0) (hc0 : (decide ((i0 : Int) < ((List.length p0) : Int))) = true) (h0 : (s_Kz x0 3000) = true) (h1 : (s_Ko x0) = true) {r : Rs} (hr : Q7 G (Q9i p0 (i0 + 1)) r) : Q7 G (Q9i p0 i0) r := by
 have hB0 := H.1
 exact Q8 VOK.nil (y := (Qsz p0 (i0 + 1), Qtk p0 (i0 + 1))) [hB 0 hc0, hP 0 (Q1d 5 (Val.rows p0) i0 _ (Val.Qf hx0) rfl), hP 11 (Qs i0 (by omega))] [aB (t_Kz x0 3000 (H.2.1 x0 (Q12 hx0))) h0, aB (t_Ko x0 (H.2.2.1 x0 (Q12 hx0))) h1] (by kernel_rfl) hr
def Qnd (p0 : List Val) (i0 : Nat) (x0 : Val) : List PV :=
  [.un, .un, .un, .un, .bx 192 0, .sl (Val.rows p0), .int .i64 ((List.length p0) : Int), .int .i64 (i0 : Int), .bool true, .rf [.int .i64 x0.kind, .int .i64 x0.n, .str x0.s, .sl (Val.rows x0.list), .sl (Fld.rows x0.fields)], .agg [.int .i64 x0.kind, .int .i64 x0.n, .str x0.s, .sl (Val.rows x0.list), .sl (Fld.rows x0.fields)], .agg [.int .i64 x0.kind, .int .i64 x0.n, .str x0.s, .sl (Val.rows x0.list), .sl (Fld.rows x0.fields)], .bool true, .bool false, .bool false, .agg [.int .i64 x0.kind, .int .i64 x0.n, .str x0.s, .sl (Val.rows x0.list), .sl (Fld.rows x0.fields)], .bool false, .bool true, .bool true]
def Qh3 (_p0 : List Val) (_i0 : Nat) (x0 : Val) : List (Nat × List PV) :=
  [(192, [.int .i64 x0.kind, .int .i64 x0.n, .str x0.s, .sl (Val.rows x0.list), .sl (Fld.rows x0.fields)])]
theorem Q10h (p0 : List Val) (H : Q9v p0) (x0 : Val) (i0 : Nat) (hx0 : p0[i0]? = some x0) (_hi0 : i0 < List.length p0) (hc0 : (decide ((i0 : Int) < ((List.length p0) : Int))) = true) (h0 : (s_Kz x0 3000) = true) (h1 : (s_Ko x0) = false) : Qa1 p0 (Q9i p0 i0) (.k1) := by
 exact ⟨(envF (Qnd p0 i0 x0)), (zoF (Qh3 p0 i0 x0)), Qe VOK.nil (x := (.ret, Qcu p0 (envF (Qnd p0 i0 x0)) (zoF (Qh3 p0 i0 x0)))) [hB 0 hc0, hP 0 (Q1d 5 (Val.rows p0) i0 _ (Val.Qf hx0) rfl)] [aB (t_Kz x0 3000 (H.2.1 x0 (Q12 hx0))) h0, aB (t_Ko x0 (H.2.2.1 x0 (Q12 hx0))) h1] (by kernel_rfl)⟩
def Qnj (p0 : List Val) (i0 : Nat) (x0 : Val) : List PV :=
  [.un, .un, .un, .un, .bx 192 0, .sl (Val.rows p0), .int .i64 ((List.length p0) : Int), .int .i64 (i0 : Int), .bool true, .rf [.int .i64 x0.kind, .int .i64 x0.n, .str x0.s, .sl (Val.rows x0.list), .sl (Fld.rows x0.fields)], .agg [.int .i64 x0.kind, .int .i64 x0.n, .str x0.s, .sl (Val.rows x0.list), .sl (Fld.rows x0.fields)], .agg [.int .i64 x0.kind, .int .i64 x0.n, .str x0.s, .sl (Val.rows x0.list), .sl (Fld.rows x0.fields)], .bool false, .bool true, .bool true, .tup [], .tup [], .tup [], .bool true]
def Qjd (_p0 : List Val) (_i0 : Nat) (x0 : Val) : List (Nat × List PV) :=
  [(192, [.int .i64 x0.kind, .int .i64 x0.n, .str x0.s, .sl (Val.rows x0.list), .sl (Fld.rows x0.fields)])]
theorem Q11m (p0 : List Val) (H : Q9v p0) (x0 : Val) (i0 : Nat) (hx0 : p0[i0]? = some x0) (_hi0 : i0 < List.length p0) (hc0 : (decide ((i0 : Int) < ((List.length p0) : Int))) = true) (h0 : (s_Kz x0 3000) = false) : Qa1 p0 (Q9i p0 i0) (.k1) := by
 exact ⟨(envF (Qnj p0 i0 x0)), (zoF (Qjd p0 i0 x0)), Qe VOK.nil (x := (.ret, Qcu p0 (envF (Qnj p0 i0 x0)) (zoF (Qjd p0 i0 x0)))) [hB 0 hc0, hP 0 (Q1d 5 (Val.rows p0) i0 _ (Val.Qf hx0) rfl)] [aB (t_Kz x0 3000 (H.2.1 x0 (Q12 hx0))) h0] (by kernel_rfl)⟩
theorem Qsj (p0 : List Val) (H : Q9v p0) : ∀ (r0 : List Val) (i0 : Nat), List.drop i0 p0 = r0 → Qa1 p0 (Q9i p0 i0) (Q5c p0 r0 i0)
 | [], i0, hd => by
  have hc0 : (decide ((i0 : Int) < ((List.length p0) : Int))) = false := by have := Q1i hd; simp; omega
  rw [Q5c]
  exact Q11v p0 H i0 hc0
 | x0 :: r0, i0, hd => by
  obtain ⟨hx0, hi0, hd'⟩ := Q17 hd
  have hc0 : (decide ((i0 : Int) < ((List.length p0) : Int))) = true := by simp; omega
  rw [Q5c]
  cases h0 : (s_Kz x0 3000) with
  | true =>
   cases h1 : (s_Ko x0) with
   | true =>
    exact Qpt p0 (fun r hr => Qxj p0 H x0 i0 hx0 hi0 hc0 h0 h1 hr) _ (Qsj p0 H r0 (i0 + 1) hd')
   | false =>
    exact Q10h p0 H x0 i0 hx0 hi0 hc0 h0 h1
  | false =>
   exact Q11m p0 H x0 i0 hx0 hi0 hc0 h0
def s_Kd (p0 : List Val) : Bool :=
 (match (Q5c p0 p0 0) with
 | .k0 => true
 | .k1 => false)
def c_Kd (p0 : List Val) : En := .call 10 [.sl (Val.rows p0)] []
def a_Kd (p0 : List Val) : Rs := .ret (.bool (s_Kd p0)) []
def H_Kd (p0 : List Val) : Prop := (Q9v p0) ∧ True
theorem t_Kd (p0 : List Val) (H : H_Kd p0) : Q7 G (c_Kd p0) (a_Kd p0) := by
 unfold a_Kd s_Kd
 have hl0 := Qsj p0 (H.1) p0 0 (by simp)
 cases hr0 : (Q5c p0 p0 0) with
 | k0 =>
  rw [hr0] at hl0
  obtain ⟨z0, zo0, hl0⟩ := hl0
  exact Q9 (fn := Ir.Kd) rfl VOK.nil [hP 2 (Qj (Val.rows p0) (List.length p0) (Val.Qc p0))] [aN hl0] (by kernel_rfl)
 | k1 =>
  rw [hr0] at hl0
  obtain ⟨z0, zo0, hl0⟩ := hl0
  exact Q9 (fn := Ir.Kd) rfl VOK.nil [hP 2 (Qj (Val.rows p0) (List.length p0) (Val.Qc p0))] [aN hl0] (by kernel_rfl)
theorem t_Ka : Q7 G (.call 11 [] []) (.ret (.bool true) []) := ⟨300, by kernel_rfl⟩
end Go.Proofs.Ytnhhddbbppbblaa
end

section
/- The laws on patches in plain words: few parts, deep validity, clean and compatible values; what the laws ask. -/
namespace Go.Proofs.Ytnhhddbbppbblaa
open Go.Pv
theorem Qmw (p : Val) (l : List Val) (i : Nat) {a : Int} (h : ¬ 0 ≤ a) : Q2m p l i a = a := by
  cases l with
  | nil => rw [Q2m]
  | cons x l => rw [Q2m, show decide (0 ≤ a) = false by simpa using h, cond_false]
theorem Qd3 (p : Val) (l : List Fld) (i : Nat) {a : Int} (h : ¬ 0 ≤ a) : Q35 p l i a = a := by
  cases l with
  | nil => rw [Q35]
  | cons x l => rw [Q35, show decide (0 ≤ a) = false by simpa using h, cond_false]
theorem Qyn (p : Val) : ∀ (l : List Val) (i : Nat) (a : Int), a ≤ 3000 → (∀ x ∈ l, ∀ n, -1152921504606846976 ≤ n → n ≤ 3000 → 0 ≤ Q4d x n → Q4d x n + tot x ≤ n) → 0 ≤ Q2m p l i a → Q2m p l i a + totV l ≤ a
  | [], i, a, _, _, _ => by rw [Q2m, totV]; omega
  | x :: l, i, a, ha, hx, h => by
    by_cases c : 0 ≤ a
    · rw [Q2m, show decide (0 ≤ a) = true by simpa using c, cond_true] at h ⊢
      have k : 0 ≤ Q4d x a := by
        apply Decidable.byContradiction
        intro hn
        rw [Qmw p l _ hn] at h
        exact hn h
      have h1 := hx x List.mem_cons_self a (by omega) ha k
      have h2 := Qyn p l (i + 1) _ (by omega) (fun y hy => hx y (List.mem_cons_of_mem _ hy)) h
      rw [Qdu]
      omega
    · rw [Qmw p _ i c] at h
      exact absurd h c
theorem Qzs (p : Val) : ∀ (l : List Fld) (i : Nat) (a : Int), a ≤ 3000 → (∀ x ∈ l, okS x.name) → (∀ x ∈ l, ∀ n, -1152921504606846976 ≤ n → n ≤ 3000 → 0 ≤ Q4d x.v n → Q4d x.v n + tot x.v ≤ n) → 0 ≤ Q35 p l i a → Q35 p l i a + totF l ≤ a
  | [], i, a, _, _, _, _ => by rw [Q35, Q3f]; omega
  | x :: l, i, a, ha, hs, hx, h => by
    by_cases c : 0 ≤ a
    · have hn := hs x List.mem_cons_self
      unfold okS at hn
      rw [Q35, show decide (0 ≤ a) = true by simpa using c, cond_true, Qam (by omega)] at h ⊢
      have k : 0 ≤ Q4d x.v (a - (x.name.size : Int)) := by
        apply Decidable.byContradiction
        intro hn
        rw [Qd3 p l _ hn] at h
        exact hn h
      have h1 := hx x List.mem_cons_self (a - (x.name.size : Int)) (by omega) (by omega) k
      have h2 := Qzs p l (i + 1) _ (by omega) (fun y hy => hs y (List.mem_cons_of_mem _ hy)) (fun y hy => hx y (List.mem_cons_of_mem _ hy)) h
      rw [Q1m]
      omega
    · rw [Qd3 p _ i c] at h
      exact absurd h c
theorem Q12d {v : Val} (hv : Q2y v) : ∀ n, -1152921504606846976 ≤ n → n ≤ 3000 → 0 ≤ Q4d v n → Q4d v n + tot v ≤ n := by
  induction hv with
  | mk v _ _ h3 _ _ sl sn sf i1 i2 =>
    intro n hn hn' h
    unfold okS at h3
    have e1 : w64 (n - 1) = n - 1 := Qam (by omega)
    rw [Q4d, e1, Qam (by omega)] at h ⊢
    have k : 0 ≤ Q2m v v.list 0 (n - 1 - (v.s.size : Int)) := by
      apply Decidable.byContradiction
      intro hn
      rw [Qd3 v _ _ hn] at h
      exact hn h
    have h1 := Qyn v v.list 0 (n - 1 - (v.s.size : Int)) (by omega) i1 k
    have h2 := Qzs v v.fields 0 _ (by omega) sn i2 h
    have h3 := Qaf v
    omega
theorem Q14l {v : Val} (hv : Q2y v) (h : s_Kz v 3000 = true) : tot v ≤ 3000 := by
  have h : decide (0 ≤ Q4d v 3000) = true := h
  have h0 := of_decide_eq_true h
  have := Q12d hv 3000 (by omega) (by omega) h0
  omega
theorem Qc1 (p : Val) (k : Int) (hp : p.fields.length ≤ 64) : ∀ (r : List Fld) (i : Nat), p.fields.drop i = r → Q2s p k r i = .k0 → (SS r ∧ (0 < i → ∀ y ∈ r, sCmp (p.fields.getD (i - 1) (.mk ⟨#[]⟩ (.mk 0 0 ⟨#[]⟩ [] []))).name y.name < 0)) ∧ ∀ y ∈ r, s_Kx y.v (w64 (k - 1)) = true
  | [], i, _, _ => ⟨⟨SS.nil, fun _ _ g => by cases g⟩, fun _ g => by cases g⟩
  | x :: r, i, hd, h => by
    obtain ⟨hx, hi, hd'⟩ := Q17 hd
    rw [Q2s] at h
    have hw : 0 < i → Int.toNat (w64 ((i : Int) - 1)) = i - 1 := fun h => by rw [Qam (by omega)]; omega
    have pr : Q2s p k r (i + 1) = .k0 ∧ (0 < i → sCmp (p.fields.getD (i - 1) (.mk ⟨#[]⟩ (.mk 0 0 ⟨#[]⟩ [] []))).name x.name < 0) ∧ s_Kx x.v (w64 (k - 1)) = true := by
      cases a : s_Kp x.name with
      | false => rw [a] at h; cases h
      | true =>
        rw [a, cond_true] at h
        by_cases c : 0 < i
        · rw [show decide (0 < (i : Int)) = true by simp; omega, cond_true, hw c, Q109] at h
          cases b : sLt (p.fields.getD (i - 1) (.mk ⟨#[]⟩ (.mk 0 0 ⟨#[]⟩ [] []))).name x.name with
          | false => rw [b] at h; cases h
          | true =>
            rw [b, Bool.not_true, cond_false] at h
            cases d : s_Kx x.v (w64 (k - 1)) with
            | false => rw [d] at h; cases h
            | true =>
              rw [d] at h
              refine ⟨h, fun _ => ?_, rfl⟩
              rw [Qjy] at b
              exact of_decide_eq_true b
        · rw [show decide (0 < (i : Int)) = false by simp; omega, cond_false] at h
          cases d : s_Kx x.v (w64 (k - 1)) with
          | false => rw [d] at h; cases h
          | true => rw [d] at h; exact ⟨h, fun g => absurd g c, rfl⟩
    obtain ⟨⟨s, t⟩, u⟩ := Qc1 p k hp r (i + 1) hd' pr.1
    have e : p.fields.getD (i + 1 - 1) (.mk ⟨#[]⟩ (.mk 0 0 ⟨#[]⟩ [] [])) = x := by rw [Nat.add_sub_cancel, List.getD_eq_getElem?_getD, hx]; rfl
    rw [e] at t
    refine ⟨⟨SS.cons.2 ⟨t (by omega), s⟩, fun c y hy => ?_⟩, fun y hy => ?_⟩
    · rcases List.mem_cons.1 hy with g | g
      · rw [g]; exact pr.2.1 c
      · exact Ql9 (pr.2.1 c) (t (by omega) y g)
    · rcases List.mem_cons.1 hy with g | g
      · rw [g]; exact pr.2.2
      · exact u y g
theorem Q12q : ∀ v : Val, ∀ k, s_Kx v k = true → DV v := Qrf fun v ih k h => by
  by_cases hk' : v.kind = 5
  · have h4 : (v.kind == 4) = false := by rw [hk']; rfl
    have h5 : (v.kind == 5) = true := by rw [hk']; rfl
    rw [s_Kx] at h
    cases k0 : k == 0 with
    | true => rw [k0] at h; cases h
    | false =>
      rw [k0, cond_false] at h
      cases sc : s_Kw v with
      | false => rw [sc] at h; cases h
      | true =>
        rw [sc, cond_true] at h
        cases l6 : decide (64 < (v.list.length : Int)) with
        | true => rw [l6] at h; cases h
        | false =>
          rw [l6, cond_false] at h
          cases f6 : decide (64 < (v.fields.length : Int)) with
          | true => rw [f6] at h; cases h
          | false =>
            rw [f6, cond_false, h4, cond_false] at h
            cases ll : decide (0 < (v.list.length : Int)) with
            | true => rw [ll] at h; cases h
            | false =>
              rw [ll, cond_false, h5, cond_true] at h
              have hf : v.fields.length ≤ 64 := by have := of_decide_eq_false f6; omega
              have hl : v.list = [] := List.length_eq_zero_iff.1 (by have := of_decide_eq_false ll; omega)
              cases b0 : Q3n v k v.list 0 with
              | k1 => rw [b0] at h; cases h
              | k0 =>
                rw [b0] at h
                cases b1 : Q2s v k v.fields 0 with
                | k1 => rw [b1] at h; cases h
                | k0 =>
                  obtain ⟨⟨s, _⟩, u⟩ := Qc1 v k hf v.fields 0 rfl b1
                  unfold s_Kw at sc
                  rw [hk'] at sc
                  simp only [show ((5 : Int) == 1) = false from rfl, show ((5 : Int) == 2) = false from rfl, show ((5 : Int) == 3) = false from rfl, show ((5 : Int) == 0) = false from rfl, show ((5 : Int) == 4) = false from rfl, show ((5 : Int) == 5) = true from rfl, cond_false, cond_true] at sc
                  cases n0 : v.n == 0 with
                  | false => rw [n0] at sc; cases sc
                  | true =>
                    rw [n0, cond_true] at sc
                    have e := Val.eta v
                    rw [hk', show v.n = 0 by simpa using n0, Q3k.1 sc, hl] at e
                    exact .mk v (fun _ => ⟨v.fields, e.symm, s⟩) fun _ f hf' => ih f hf' _ (u f hf')
  · exact DV.leaf hk'
theorem Q12i {v : Val} (h : s_Ko v = true) : DV v := by
  unfold s_Ko at h
  cases e : s_Kx v 12 with
  | true => exact Q12q v 12 e
  | false => rw [e] at h; cases h
theorem Qnv (p : List Val) : ∀ (l : List Val) (i : Nat), Q5c p l i = .k0 → ∀ x ∈ l, s_Kz x 3000 = true ∧ s_Ko x = true
  | [], _, _ => fun _ g => by cases g
  | x :: l, i, h => by
    rw [Q5c] at h
    cases a : s_Kz x 3000 with
    | false => rw [a] at h; cases h
    | true =>
      cases b : s_Ko x with
      | false => rw [a, b] at h; cases h
      | true =>
        rw [a, b] at h
        intro y hy
        rcases List.mem_cons.1 hy with g | g
        · rw [g]; exact ⟨a, b⟩
        · exact Qnv p l (i + 1) h y g
theorem Qt5 {l : List Val} (hl : ∀ x ∈ l, Q2y x) (h : s_Kd l = true) : ∀ x ∈ l, tot x ≤ 3000 ∧ DV x := fun x hx => by
  unfold s_Kd at h
  cases e : Q5c l l 0 with
  | k1 => rw [e] at h; cases h
  | k0 =>
    obtain ⟨a, b⟩ := Qnv l l 0 e x hx
    exact ⟨Q14l (hl x hx) a, Q12i b⟩
theorem Q173 {l : List Val} (hl : ∀ x ∈ l, Q2y x) (hn : l.length ≤ 100) : H_Kd l :=
  ⟨⟨by omega, fun x hx => ⟨(hl x hx).sm, trivial⟩, fun x hx => ⟨hl x hx, (hl x hx).sm, trivial⟩, trivial⟩, trivial⟩
theorem Qul (v : Val) : s_Ky v v = true := (Qz5 v v).2 rfl
theorem alH {v : Val} (h : tot v ≤ 500000000) : H_Ky v := Q78 (by omega)
theorem Q171 {a b A B : Nat} (h : a ≤ A) (g : b ≤ B) : a * b ≤ A * B := Nat.mul_le_mul h g
theorem two {a b : Val} {P : Val → Prop} (ha : P a) (hb : P b) : ∀ x ∈ [a, b], P x := by
  intro x hx
  simp only [List.mem_cons, List.not_mem_nil, or_false] at hx
  rcases hx with e | e <;> rw [e] <;> assumption
section
variable {a b c : Val}
theorem in2a : a ∈ [a, b] := List.mem_cons_self
theorem in2b : b ∈ [a, b] := List.mem_cons_of_mem _ List.mem_cons_self
end
end Go.Proofs.Ytnhhddbbppbblaa
end

section
/- What the law PatchComposes computes (printed by a program). -/
namespace Go.Proofs.Ytnhhddbbppbblaa
open Go.Pv
def s_K6 (p0 : Val) (p1 : Val) : Bool :=
 bif (s_Kd ([p0, p1])) then
  bif (s_Ky (s_Ke p0 p1) (Q5y p0 p1)) then
   true
  else
   false
 else
  true
def c_K6 (p0 : Val) (p1 : Val) : En := .call 5 [.agg (Val.cells p0), .agg (Val.cells p1)] []
def a_K6 (p0 : Val) (p1 : Val) : Rs := .ret (.bool (s_K6 p0 p1)) []
def H_K6 (p0 : Val) (p1 : Val) : Prop := (H_Kd ([p0, p1])) ∧ ((s_Kd ([p0, p1])) = true → H_Ke p0 p1) ∧ ((s_Kd ([p0, p1])) = true → Qk0 p0 p1) ∧ ((s_Kd ([p0, p1])) = true → H_Ky (s_Ke p0 p1)) ∧ True
theorem t_K6 (p0 : Val) (p1 : Val) (H : H_K6 p0 p1) : Q7 G (c_K6 p0 p1) (a_K6 p0 p1) := by
 unfold a_K6 s_K6
 cases h0 : (s_Kd ([p0, p1])) with
 | true =>
  cases h1 : (s_Ky (s_Ke p0 p1) (Q5y p0 p1)) with
  | true =>
   exact Q9 (fn := Ir.K6) rfl VOK.nil [] [aB (Q12k (e' := .call 10 [.sl [(Val.cells p0), (Val.cells p1)]] []) (t_Kd ([p0, p1]) (H.1)) (by simp only [c_Kd, Val.Q3b, Val.Q5s])) h0, aN (t_Ke p0 p1 (H.2.1 h0)), aN (Q168 p0 p1 (H.2.2.1 h0)), aB (t_Ky (s_Ke p0 p1) (Q5y p0 p1) (H.2.2.2.1 h0)) h1, aN t_Ka] (by kernel_rfl)
  | false =>
   exact Q9 (fn := Ir.K6) rfl VOK.nil [] [aB (Q12k (e' := .call 10 [.sl [(Val.cells p0), (Val.cells p1)]] []) (t_Kd ([p0, p1]) (H.1)) (by simp only [c_Kd, Val.Q3b, Val.Q5s])) h0, aN (t_Ke p0 p1 (H.2.1 h0)), aN (Q168 p0 p1 (H.2.2.1 h0)), aB (t_Ky (s_Ke p0 p1) (Q5y p0 p1) (H.2.2.2.1 h0)) h1] (by kernel_rfl)
 | false =>
  exact Q9 (fn := Ir.K6) rfl VOK.nil [] [aB (Q12k (e' := .call 10 [.sl [(Val.cells p0), (Val.cells p1)]] []) (t_Kd ([p0, p1]) (H.1)) (by simp only [c_Kd, Val.Q3b, Val.Q5s])) h0, aN t_Ka] (by kernel_rfl)
def tysPatchComposes : List Ty := [.nm 25, .nm 25]
theorem purePatchComposes (hp : ∀ (p0 : Val) (p1 : Val), Q2y p0 → Q2y p1 → H_K6 p0 p1 ∧ s_K6 p0 p1 = true) : ∀ qs, Args Γ tysPatchComposes qs → ∃ n, runs G n (.call 5 qs []) = some (.ret (.bool true) []) := by
  intro qs h
  cases qs with
  | nil => cases h
  | cons q0 qs =>
  obtain ⟨h0, h⟩ := h
  cases qs with
  | nil => cases h
  | cons q1 qs =>
  obtain ⟨h1, h⟩ := h
  cases qs with
  | cons _ _ => cases h
  | nil =>
  obtain ⟨c0, rfl, g0⟩ := h0.agg rfl
  obtain ⟨p0, rfl, k0⟩ := (Qsa (Q13y 25) g0)
  obtain ⟨c1, rfl, g1⟩ := h1.agg rfl
  obtain ⟨p1, rfl, k1⟩ := (Qsa (Q13y 25) g1)
  have e := hp p0 p1 k0 k1
  have t := t_K6 p0 p1 e.1
  unfold a_K6 at t
  rw [e.2] at t
  exact t
end Go.Proofs.Ytnhhddbbppbblaa
end

section
/- PatchComposes in plain words. -/
namespace Go.Proofs.Ytnhhddbbppbblaa
open Go.Pv
theorem composes_holds (v p : Val) (hv : Q2y v) (hp : Q2y p) : H_K6 v p ∧ s_K6 v p = true := by
  have S : s_Kd [v, p] = true → tot v * tot p ≤ 3000 * 3000 := fun h => Q171 (Qt5 (two hv hp) h v in2a).1 (Qt5 (two hv hp) h p in2b).1
  refine ⟨⟨Q173 (two hv hp) (by simp), fun h => ?_, fun h => ?_, fun h => ?_, trivial⟩, ?_⟩
  · have := S h; unfold H_Ke; omega
  · have := S h; unfold Qk0; omega
  · have := S h
    have := Q11o p v
    rw [Q5l]
    exact alH (by omega)
  · unfold s_K6
    rw [Q5l, Q8x, Qul]
    cases s_Kd [v, p] <;> rfl
end Go.Proofs.Ytnhhddbbppbblaa
end

section
/- The library's comparison of two strings, walked: it answers as the evaluator's cmpL. -/
namespace Go.Proofs.Ytnhhddbbppbblaa
open Go.Pv
theorem cmpL_eq : ∀ (a b : List UInt8), cmpL a b = Lib.compareBytes a b
  | [], [] => rfl
  | [], _ :: _ => rfl
  | _ :: _, [] => rfl
  | a :: x, b :: y => by
    rw [Lib.compareBytes, ← cmpL_eq x y]
    rfl
set_option maxHeartbeats 1000000 in
set_option maxRecDepth 100000 in
theorem comparing (a b : ByteArray) (w : World) :
    Calls Try.prog 54 #[.string a, .string b] w fun e w' => e = .returned (.int .i64 (Lib.compareBytes a.data.toList b.data.toList)) ∧ w' = w := by
  go_enter Try.func54, Try.ntmps54
  go_wp2
  rw [run_callFunc_extern Try.func68 (by kernel_rfl) (by kernel_rfl) (by kernel_rfl) (e := Extern.BytealgCompare.compare) (by kernel_rfl), Lib.run_compareString]
  simp only [Result.andThen]
  rw [Oper.upon_value]
  go_wp2
  go_ret
  exact ⟨rfl, rfl⟩
theorem cmpOK : Q129 Try.prog 54 := by
  refine ⟨⟨_, Try.func54, by kernel_rfl, by kernel_rfl⟩, fun x y w => ?_⟩
  have h := comparing x y w
  rw [← cmpL_eq, ← toList_data, ← toList_data] at h
  exact h
end Go.Proofs.Ytnhhddbbppbblaa
end

