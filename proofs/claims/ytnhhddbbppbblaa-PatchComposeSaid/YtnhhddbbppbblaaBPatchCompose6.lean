/- Texts of the claim, merged by a program; what the statement does not reach is left out. -/
import Derived.Test.YtnhhddbbppbblaaBPatchCompose5
import Derived.Lib.Strings
import Derived.Lib.Slices
import Derived.Lib.Walk
import Derived.Lib.Bytealg

section
/- What building a map computes (printed by a program). -/
namespace Go.Proofs.Ytnhhddbbppbblaa
open Go.Pv
def Q1y (n0 : Nat) (p1 : Int) : Nat → (List Fld) → Int → Int → (List Fld) × Int
 | 0, v0_0, v0_1, _v0_2 => (v0_0, v0_1)
 | k0 + 1, v0_0, v0_1, v0_2 =>
  bif (decide (v0_2 ≤ p1)) then
   Q1y n0 p1 k0 (Q18 n0 v0_0 v0_1 v0_2) v0_2 (v0_2 + 20)
  else
   (v0_0, v0_1)
def Qoz (n0 : Nat) (p1 : Int) (_v0_0 : List Fld) (v0_1 : Int) (v0_2 : Int) : List PV :=
  [.ms 0 6 0 n0, .int .i64 p1, .fn 43 [] [], .un, .un, .un, .int .i64 20, .int .i64 v0_1, .int .i64 v0_2, .un, .un, .un, .un, .un, .un, .un, .un, .un, .un, .un, .un, .un, .un, .un, .un, .un, .un, .un, .un, .un, .un, .un, .un, .un, .un, .un, .un, .un, .un, .un, .un, .un, .un, .un, .un, .un, .un, .un, .un, .un, .un, .un, .un, .un, .un, .un, .un, .un, .un, .un, .un, .un, .un]
def Qbb (_n0 : Nat) (_p1 : Int) (v0_0 : List Fld) (_v0_1 : Int) (_v0_2 : Int) : List Ob :=
  [⟨6, 0, false, (Fld.rows v0_0).flatten⟩]
def Qb8 (n0 : Nat) (p1 : Int) (v0_0 : List Fld) (v0_1 : Int) (v0_2 : Int) : En := .loop 1 Ir.Qd1 Ir.Q11z (Qoz n0 p1 v0_0 v0_1 v0_2) (Qbb n0 p1 v0_0 v0_1 v0_2)
def Qgb (n0 : Nat) (p1 : Int) (q0 : List Fld) (q1 : Int) (z : Nat → PV) (_zo : Nat → List PV) : St :=
  ⟨[.ms 0 6 0 n0, .int .i64 p1, .fn 43 [] [], z 3, z 4, z 5, .int .i64 20, .int .i64 q1, z 8, z 9, z 10, z 11, z 12, z 13, z 14, z 15, z 16, z 17, z 18, z 19, z 20, z 21, z 22, z 23, z 24, z 25, z 26, z 27, z 28, z 29, z 30, z 31, z 32, z 33, z 34, z 35, z 36, z 37, z 38, z 39, z 40, z 41, z 42, z 43, z 44, z 45, z 46, z 47, z 48, z 49, z 50, z 51, z 52, z 53, z 54, z 55, z 56, z 57, z 58, z 59, z 60, z 61, z 62], [(0, ⟨6, 0, false, (Fld.rows q0).flatten⟩)], 193⟩
theorem Qsc (n0 : Nat) (p1 : Int) (v0_0 : List Fld) (v0_1 : Int) (v0_2 : Int) : VOK (Go.Pv.look (number 0 (Qbb n0 p1 v0_0 v0_1 v0_2))) [(0, Fld.rows v0_0)] := (VOK.cons (show Seen _ _ from Q3r (ob := ⟨6, 0, false, (Fld.rows v0_0).flatten⟩) (Fld.Q5 v0_0 6 rfl)) VOK.nil)
def Qb0 (n0 : Nat) (p1 : Int) (e : En) (q : (List Fld) × Int) : Prop := ∃ z zo, Q7 G e (.st (.exit 0) (Qgb n0 p1 q.1 q.2 z zo))
theorem Qj3 (n0 : Nat) (p1 : Int) {e e' : En} (h : ∀ r, Q7 G e r → Q7 G e' r) : ∀ q, Qb0 n0 p1 e q → Qb0 n0 p1 e' q
  | _, ⟨z, zo, hz⟩ => ⟨z, zo, h _ hz⟩
theorem Qu3 (n0 : Nat) (p1 : Int) (v0_0 : List Fld) (v0_1 : Int) (v0_2 : Int) (ho0_0 : 0 ≤ v0_1) (_ho0_1 : v0_1 ≤ n0) (ho0_2 : v0_1 + 20 = v0_2) (ho0_3 : p1 = n0) (ho0_4 : (n0 : Int) ≤ 1152921504606846976) (ho0_5 : List.length v0_0 = n0) (h0 : (decide (v0_2 ≤ p1)) = true) {r : Rs} (hr : Q7 G (Qb8 n0 p1 (Q18 n0 v0_0 v0_1 v0_2) v0_2 (v0_2 + 20)) r) : Q7 G (Qb8 n0 p1 v0_0 v0_1 v0_2) r := by
 have e0 := of_decide_eq_true h0
 exact Qb (Qsc n0 p1 v0_0 v0_1 v0_2) (y := (Qoz n0 p1 (Q18 n0 v0_0 v0_1 v0_2) v0_2 (v0_2 + 20), Qbb n0 p1 (Q18 n0 v0_0 v0_1 v0_2) v0_2 (v0_2 + 20))) [hB 2 h0, hQ (Fld.Q5 (Q18 n0 v0_0 v0_1 v0_2) 6 rfl), hP 9 (w_ok (v0_2 + 20) (by have f0 := (Qs n0 v0_0 v0_1 v0_2 ho0_5); omega))] [aV [(0, Fld.rows (Q18 n0 v0_0 v0_1 v0_2))] (Qne n0 v0_0 v0_1 v0_2 ho0_5 (by omega))] (by kernel_rfl) hr
def Qhb (_n0 : Nat) (p1 : Int) (_v0_0 : List Fld) (_v0_1 : Int) (v0_2 : Int) : List PV :=
  [.un, .un, .un, .un, .un, .un, .un, .un, .int .i64 v0_2, .un, .un, .int .i64 v0_2, .int .i64 p1, .bool false]
def Qc6 (_n0 : Nat) (_p1 : Int) (_v0_0 : List Fld) (_v0_1 : Int) (_v0_2 : Int) : List (Nat × List PV) :=
  []
theorem Quz (n0 : Nat) (p1 : Int) (v0_0 : List Fld) (v0_1 : Int) (v0_2 : Int) (_ho0_0 : 0 ≤ v0_1) (_ho0_1 : v0_1 ≤ n0) (_ho0_2 : v0_1 + 20 = v0_2) (_ho0_3 : p1 = n0) (_ho0_4 : (n0 : Int) ≤ 1152921504606846976) (_ho0_5 : List.length v0_0 = n0) (h0 : (decide (v0_2 ≤ p1)) = false) : Qb0 n0 p1 (Qb8 n0 p1 v0_0 v0_1 v0_2) (v0_0, v0_1) := by
 exact ⟨(envF (Qhb n0 p1 v0_0 v0_1 v0_2)), (zoF (Qc6 n0 p1 v0_0 v0_1 v0_2)), Qe (Qsc n0 p1 v0_0 v0_1 v0_2) (x := ((.exit 0), Qgb n0 p1 v0_0 v0_1 (envF (Qhb n0 p1 v0_0 v0_1 v0_2)) (zoF (Qc6 n0 p1 v0_0 v0_1 v0_2)))) [hB 2 h0] [] (by kernel_rfl)⟩
theorem Qo7 (n0 : Nat) (p1 : Int) : ∀ (k0 : Nat) (v0_0 : List Fld) (v0_1 : Int) (v0_2 : Int), 0 ≤ v0_1 → v0_1 ≤ n0 → v0_1 + 20 = v0_2 → p1 = n0 → (n0 : Int) ≤ 1152921504606846976 → List.length v0_0 = n0 → Int.toNat (p1 + 20 - v0_2) < k0 → Qb0 n0 p1 (Qb8 n0 p1 v0_0 v0_1 v0_2) (Q1y n0 p1 k0 v0_0 v0_1 v0_2)
 | 0, v0_0, v0_1, v0_2, _, _, _, _, _, _, hm => absurd hm (Nat.not_lt_zero _)
 | k0 + 1, v0_0, v0_1, v0_2, ho0_0, ho0_1, ho0_2, ho0_3, ho0_4, ho0_5, hm => by
  rw [Q1y]
  cases h0 : (decide (v0_2 ≤ p1)) with
  | true =>
   have e0 := of_decide_eq_true h0
   exact Qj3 n0 p1 (fun r hr => Qu3 n0 p1 v0_0 v0_1 v0_2 ho0_0 ho0_1 ho0_2 ho0_3 ho0_4 ho0_5 h0 hr) _ (Qo7 n0 p1 k0 (Q18 n0 v0_0 v0_1 v0_2) v0_2 (v0_2 + 20) (by have f0 := (Qs n0 v0_0 v0_1 v0_2 ho0_5); omega) (by have f0 := (Qs n0 v0_0 v0_1 v0_2 ho0_5); omega) (by have f0 := (Qs n0 v0_0 v0_1 v0_2 ho0_5); omega) (by have f0 := (Qs n0 v0_0 v0_1 v0_2 ho0_5); omega) (by have f0 := (Qs n0 v0_0 v0_1 v0_2 ho0_5); omega) (Qs n0 v0_0 v0_1 v0_2 ho0_5) (by have f0 := (Qs n0 v0_0 v0_1 v0_2 ho0_5); omega))
  | false =>
   exact Quz n0 p1 v0_0 v0_1 v0_2 ho0_0 ho0_1 ho0_2 ho0_3 ho0_4 ho0_5 h0
theorem Q6z (n0 : Nat) (p1 : Int) : ∀ (k0 : Nat) (v0_0 : List Fld) (v0_1 : Int) (v0_2 : Int), List.length v0_0 = n0 → List.length (Q1y n0 p1 k0 v0_0 v0_1 v0_2).1 = n0
 | 0, v0_0, v0_1, v0_2, ho0_5 => by rw [Q1y]; exact ho0_5
 | k0 + 1, v0_0, v0_1, v0_2, ho0_5 => by
  rw [Q1y]
  cases h0 : (decide (v0_2 ≤ p1)) with
  | true =>
   exact Q6z n0 p1 k0 (Q18 n0 v0_0 v0_1 v0_2) v0_2 (v0_2 + 20) (Qs n0 v0_0 v0_1 v0_2 ho0_5)
  | false =>
   exact ho0_5
theorem Qmx (n0 : Nat) (p1 : Int) : ∀ (k0 : Nat) (v0_0 : List Fld) (v0_1 : Int) (v0_2 : Int), 0 ≤ v0_1 → v0_1 ≤ n0 → v0_1 + 20 = v0_2 → p1 = n0 → (n0 : Int) ≤ 1152921504606846976 → List.length v0_0 = n0 → Int.toNat (p1 + 20 - v0_2) < k0 → 0 ≤ (Q1y n0 p1 k0 v0_0 v0_1 v0_2).2 ∧ (Q1y n0 p1 k0 v0_0 v0_1 v0_2).2 ≤ n0
 | 0, v0_0, v0_1, v0_2, _, _, _, _, _, _, hm => absurd hm (Nat.not_lt_zero _)
 | k0 + 1, v0_0, v0_1, v0_2, ho0_0, ho0_1, ho0_2, ho0_3, ho0_4, ho0_5, hm => by
  rw [Q1y]
  cases h0 : (decide (v0_2 ≤ p1)) with
  | true =>
   have e0 := of_decide_eq_true h0
   exact Qmx n0 p1 k0 (Q18 n0 v0_0 v0_1 v0_2) v0_2 (v0_2 + 20) (by have f0 := (Qs n0 v0_0 v0_1 v0_2 ho0_5); omega) (by have f0 := (Qs n0 v0_0 v0_1 v0_2 ho0_5); omega) (by have f0 := (Qs n0 v0_0 v0_1 v0_2 ho0_5); omega) (by have f0 := (Qs n0 v0_0 v0_1 v0_2 ho0_5); omega) (by have f0 := (Qs n0 v0_0 v0_1 v0_2 ho0_5); omega) (Qs n0 v0_0 v0_1 v0_2 ho0_5) (by have f0 := (Qs n0 v0_0 v0_1 v0_2 ho0_5); omega)
  | false =>
   have e0 := of_decide_eq_false h0
   exact (show 0 ≤ v0_1 ∧ v0_1 ≤ n0 from ⟨(by omega), (by omega)⟩)
def Qc (n0 : Nat) (p1 : Int) : Nat → (List Fld) → Int → Int → Int → (List Fld) × Int × Int
 | 0, v2_0, v2_1, _v2_2, v2_3 => (v2_0, v2_3, v2_1)
 | k2 + 1, v2_0, v2_1, v2_2, v2_3 =>
  bif (decide (v2_2 ≤ p1)) then
   Qc n0 p1 k2 (Q6 ((Int.toNat (v2_2 - v2_1)) + 1) n0 v2_0 v2_1 (v2_1 + v2_3) v2_2) v2_2 (v2_2 + (2 * v2_3)) v2_3
  else
   (v2_0, v2_3, v2_1)
def Qot (n0 : Nat) (p1 : Int) (_v2_0 : List Fld) (v2_1 : Int) (v2_2 : Int) (v2_3 : Int) : List PV :=
  [.ms 0 6 0 n0, .int .i64 p1, .fn 43 [] [], .un, .un, .un, .int .i64 v2_3, .int .i64 v2_1, .int .i64 v2_2, .un, .un, .un, .un, .un, .un, .un, .un, .un, .un, .un, .un, .un, .un, .un, .un, .un, .un, .un, .un, .un, .un, .un, .un, .un, .un, .un, .un, .un, .un, .un, .un, .un, .un, .un, .un, .un, .un, .un, .un, .un, .un, .un, .un, .un, .un, .un, .un, .un, .un, .un, .un, .un, .un]
def Qdm (_n0 : Nat) (_p1 : Int) (v2_0 : List Fld) (_v2_1 : Int) (_v2_2 : Int) (_v2_3 : Int) : List Ob :=
  [⟨6, 0, false, (Fld.rows v2_0).flatten⟩]
def Q6d (n0 : Nat) (p1 : Int) (v2_0 : List Fld) (v2_1 : Int) (v2_2 : Int) (v2_3 : Int) : En := .loop 1 Ir.Qd0 Ir.Q11a (Qot n0 p1 v2_0 v2_1 v2_2 v2_3) (Qdm n0 p1 v2_0 v2_1 v2_2 v2_3)
def Q6r (n0 : Nat) (p1 : Int) (q0 : List Fld) (q1 : Int) (q2 : Int) (z : Nat → PV) (_zo : Nat → List PV) : St :=
  ⟨[.ms 0 6 0 n0, .int .i64 p1, .fn 43 [] [], z 3, z 4, z 5, .int .i64 q1, .int .i64 q2, z 8, z 9, z 10, z 11, z 12, z 13, z 14, z 15, z 16, z 17, z 18, z 19, z 20, z 21, z 22, z 23, z 24, z 25, z 26, z 27, z 28, z 29, z 30, z 31, z 32, z 33, z 34, z 35, z 36, z 37, z 38, z 39, z 40, z 41, z 42, z 43, z 44, z 45, z 46, z 47, z 48, z 49, z 50, z 51, z 52, z 53, z 54, z 55, z 56, z 57, z 58, z 59, z 60, z 61, z 62], [(0, ⟨6, 0, false, (Fld.rows q0).flatten⟩)], 193⟩
theorem Qqx (n0 : Nat) (p1 : Int) (v2_0 : List Fld) (v2_1 : Int) (v2_2 : Int) (v2_3 : Int) : VOK (Go.Pv.look (number 0 (Qdm n0 p1 v2_0 v2_1 v2_2 v2_3))) [(0, Fld.rows v2_0)] := (VOK.cons (show Seen _ _ from Q3r (ob := ⟨6, 0, false, (Fld.rows v2_0).flatten⟩) (Fld.Q5 v2_0 6 rfl)) VOK.nil)
def Qb3 (n0 : Nat) (p1 : Int) (e : En) (q : (List Fld) × Int × Int) : Prop := ∃ z zo, Q7 G e (.st (.exit 4) (Q6r n0 p1 q.1 q.2.1 q.2.2 z zo))
theorem Qjd (n0 : Nat) (p1 : Int) {e e' : En} (h : ∀ r, Q7 G e r → Q7 G e' r) : ∀ q, Qb3 n0 p1 e q → Qb3 n0 p1 e' q
  | _, ⟨z, zo, hz⟩ => ⟨z, zo, h _ hz⟩
theorem Qu2 (n0 : Nat) (p1 : Int) (v2_0 : List Fld) (v2_1 : Int) (v2_2 : Int) (v2_3 : Int) (ho2_0 : 0 ≤ v2_1) (ho2_1 : v2_1 ≤ n0) (ho2_2 : v2_1 + 2 * v2_3 = v2_2) (ho2_3 : 20 ≤ v2_3) (ho2_4 : v2_3 < p1) (ho2_5 : p1 = n0) (ho2_6 : (n0 : Int) ≤ 1152921504606846976) (ho2_7 : List.length v2_0 = n0) (h0 : (decide (v2_2 ≤ p1)) = true) {r : Rs} (hr : Q7 G (Q6d n0 p1 (Q6 ((Int.toNat (v2_2 - v2_1)) + 1) n0 v2_0 v2_1 (v2_1 + v2_3) v2_2) v2_2 (v2_2 + (2 * v2_3)) v2_3) r) : Q7 G (Q6d n0 p1 v2_0 v2_1 v2_2 v2_3) r := by
 have e0 := of_decide_eq_true h0
 exact Qb (Qqx n0 p1 v2_0 v2_1 v2_2 v2_3) (y := (Qot n0 p1 (Q6 ((Int.toNat (v2_2 - v2_1)) + 1) n0 v2_0 v2_1 (v2_1 + v2_3) v2_2) v2_2 (v2_2 + (2 * v2_3)) v2_3, Qdm n0 p1 (Q6 ((Int.toNat (v2_2 - v2_1)) + 1) n0 v2_0 v2_1 (v2_1 + v2_3) v2_2) v2_2 (v2_2 + (2 * v2_3)) v2_3)) [hB 2 h0, hP 4 (w_ok (v2_1 + v2_3) (by omega)), hQ (Fld.Q5 (Q6 ((Int.toNat (v2_2 - v2_1)) + 1) n0 v2_0 v2_1 (v2_1 + v2_3) v2_2) 6 rfl), hP 7 (w_ok (2 * v2_3) (by have f0 := (Qa ((Int.toNat (v2_2 - v2_1)) + 1) n0 v2_0 v2_1 (v2_1 + v2_3) v2_2 ho2_7); omega)), hP 0 (w_ok (v2_2 + (2 * v2_3)) (by have f0 := (Qa ((Int.toNat (v2_2 - v2_1)) + 1) n0 v2_0 v2_1 (v2_1 + v2_3) v2_2 ho2_7); omega))] [aV [(0, Fld.rows (Q6 ((Int.toNat (v2_2 - v2_1)) + 1) n0 v2_0 v2_1 (v2_1 + v2_3) v2_2))] (Qco ((Int.toNat (v2_2 - v2_1)) + 1) n0 v2_0 v2_1 (v2_1 + v2_3) v2_2 ho2_7 (by omega) (by omega))] (by kernel_rfl) hr
def Qi9 (_n0 : Nat) (p1 : Int) (_v2_0 : List Fld) (_v2_1 : Int) (v2_2 : Int) (_v2_3 : Int) : List PV :=
  [.un, .un, .un, .un, .un, .un, .un, .un, .int .i64 v2_2, .un, .un, .un, .un, .un, .un, .un, .un, .un, .un, .un, .un, .un, .un, .un, .un, .un, .un, .un, .un, .un, .un, .un, .un, .int .i64 v2_2, .int .i64 p1, .bool false]
def Qf3 (_n0 : Nat) (_p1 : Int) (_v2_0 : List Fld) (_v2_1 : Int) (_v2_2 : Int) (_v2_3 : Int) : List (Nat × List PV) :=
  []
theorem Qv4 (n0 : Nat) (p1 : Int) (v2_0 : List Fld) (v2_1 : Int) (v2_2 : Int) (v2_3 : Int) (_ho2_0 : 0 ≤ v2_1) (_ho2_1 : v2_1 ≤ n0) (_ho2_2 : v2_1 + 2 * v2_3 = v2_2) (_ho2_3 : 20 ≤ v2_3) (_ho2_4 : v2_3 < p1) (_ho2_5 : p1 = n0) (_ho2_6 : (n0 : Int) ≤ 1152921504606846976) (_ho2_7 : List.length v2_0 = n0) (h0 : (decide (v2_2 ≤ p1)) = false) : Qb3 n0 p1 (Q6d n0 p1 v2_0 v2_1 v2_2 v2_3) (v2_0, v2_3, v2_1) := by
 exact ⟨(envF (Qi9 n0 p1 v2_0 v2_1 v2_2 v2_3)), (zoF (Qf3 n0 p1 v2_0 v2_1 v2_2 v2_3)), Qe (Qqx n0 p1 v2_0 v2_1 v2_2 v2_3) (x := ((.exit 4), Q6r n0 p1 v2_0 v2_3 v2_1 (envF (Qi9 n0 p1 v2_0 v2_1 v2_2 v2_3)) (zoF (Qf3 n0 p1 v2_0 v2_1 v2_2 v2_3)))) [hB 2 h0] [] (by kernel_rfl)⟩
theorem Qlm (n0 : Nat) (p1 : Int) : ∀ (k2 : Nat) (v2_0 : List Fld) (v2_1 : Int) (v2_2 : Int) (v2_3 : Int), 0 ≤ v2_1 → v2_1 ≤ n0 → v2_1 + 2 * v2_3 = v2_2 → 20 ≤ v2_3 → v2_3 < p1 → p1 = n0 → (n0 : Int) ≤ 1152921504606846976 → List.length v2_0 = n0 → Int.toNat (p1 + 2 * v2_3 - v2_2) < k2 → Qb3 n0 p1 (Q6d n0 p1 v2_0 v2_1 v2_2 v2_3) (Qc n0 p1 k2 v2_0 v2_1 v2_2 v2_3)
 | 0, v2_0, v2_1, v2_2, v2_3, _, _, _, _, _, _, _, _, hm => absurd hm (Nat.not_lt_zero _)
 | k2 + 1, v2_0, v2_1, v2_2, v2_3, ho2_0, ho2_1, ho2_2, ho2_3, ho2_4, ho2_5, ho2_6, ho2_7, hm => by
  rw [Qc]
  cases h0 : (decide (v2_2 ≤ p1)) with
  | true =>
   have e0 := of_decide_eq_true h0
   exact Qjd n0 p1 (fun r hr => Qu2 n0 p1 v2_0 v2_1 v2_2 v2_3 ho2_0 ho2_1 ho2_2 ho2_3 ho2_4 ho2_5 ho2_6 ho2_7 h0 hr) _ (Qlm n0 p1 k2 (Q6 ((Int.toNat (v2_2 - v2_1)) + 1) n0 v2_0 v2_1 (v2_1 + v2_3) v2_2) v2_2 (v2_2 + (2 * v2_3)) v2_3 (by have f0 := (Qa ((Int.toNat (v2_2 - v2_1)) + 1) n0 v2_0 v2_1 (v2_1 + v2_3) v2_2 ho2_7); omega) (by have f0 := (Qa ((Int.toNat (v2_2 - v2_1)) + 1) n0 v2_0 v2_1 (v2_1 + v2_3) v2_2 ho2_7); omega) (by have f0 := (Qa ((Int.toNat (v2_2 - v2_1)) + 1) n0 v2_0 v2_1 (v2_1 + v2_3) v2_2 ho2_7); omega) (by have f0 := (Qa ((Int.toNat (v2_2 - v2_1)) + 1) n0 v2_0 v2_1 (v2_1 + v2_3) v2_2 ho2_7); omega) (by have f0 := (Qa ((Int.toNat (v2_2 - v2_1)) + 1) n0 v2_0 v2_1 (v2_1 + v2_3) v2_2 ho2_7); omega) (by have f0 := (Qa ((Int.toNat (v2_2 - v2_1)) + 1) n0 v2_0 v2_1 (v2_1 + v2_3) v2_2 ho2_7); omega) (by have f0 := (Qa ((Int.toNat (v2_2 - v2_1)) + 1) n0 v2_0 v2_1 (v2_1 + v2_3) v2_2 ho2_7); omega) (Qa ((Int.toNat (v2_2 - v2_1)) + 1) n0 v2_0 v2_1 (v2_1 + v2_3) v2_2 ho2_7) (by have f0 := (Qa ((Int.toNat (v2_2 - v2_1)) + 1) n0 v2_0 v2_1 (v2_1 + v2_3) v2_2 ho2_7); omega))
  | false =>
   exact Qv4 n0 p1 v2_0 v2_1 v2_2 v2_3 ho2_0 ho2_1 ho2_2 ho2_3 ho2_4 ho2_5 ho2_6 ho2_7 h0
theorem Q16 (n0 : Nat) (p1 : Int) : ∀ (k2 : Nat) (v2_0 : List Fld) (v2_1 : Int) (v2_2 : Int) (v2_3 : Int), List.length v2_0 = n0 → List.length (Qc n0 p1 k2 v2_0 v2_1 v2_2 v2_3).1 = n0
 | 0, v2_0, v2_1, v2_2, v2_3, ho2_7 => by rw [Qc]; exact ho2_7
 | k2 + 1, v2_0, v2_1, v2_2, v2_3, ho2_7 => by
  rw [Qc]
  cases h0 : (decide (v2_2 ≤ p1)) with
  | true =>
   exact Q16 n0 p1 k2 (Q6 ((Int.toNat (v2_2 - v2_1)) + 1) n0 v2_0 v2_1 (v2_1 + v2_3) v2_2) v2_2 (v2_2 + (2 * v2_3)) v2_3 (Qa ((Int.toNat (v2_2 - v2_1)) + 1) n0 v2_0 v2_1 (v2_1 + v2_3) v2_2 ho2_7)
  | false =>
   exact ho2_7
theorem Q29 (n0 : Nat) (p1 : Int) : ∀ (k2 : Nat) (v2_0 : List Fld) (v2_1 : Int) (v2_2 : Int) (v2_3 : Int), 0 ≤ v2_1 → v2_1 ≤ n0 → v2_1 + 2 * v2_3 = v2_2 → 20 ≤ v2_3 → v2_3 < p1 → p1 = n0 → (n0 : Int) ≤ 1152921504606846976 → List.length v2_0 = n0 → Int.toNat (p1 + 2 * v2_3 - v2_2) < k2 → 0 ≤ (Qc n0 p1 k2 v2_0 v2_1 v2_2 v2_3).2.2 ∧ (Qc n0 p1 k2 v2_0 v2_1 v2_2 v2_3).2.2 ≤ n0 ∧ (Qc n0 p1 k2 v2_0 v2_1 v2_2 v2_3).2.1 = v2_3
 | 0, v2_0, v2_1, v2_2, v2_3, _, _, _, _, _, _, _, _, hm => absurd hm (Nat.not_lt_zero _)
 | k2 + 1, v2_0, v2_1, v2_2, v2_3, ho2_0, ho2_1, ho2_2, ho2_3, ho2_4, ho2_5, ho2_6, ho2_7, hm => by
  rw [Qc]
  cases h0 : (decide (v2_2 ≤ p1)) with
  | true =>
   have e0 := of_decide_eq_true h0
   exact Q29 n0 p1 k2 (Q6 ((Int.toNat (v2_2 - v2_1)) + 1) n0 v2_0 v2_1 (v2_1 + v2_3) v2_2) v2_2 (v2_2 + (2 * v2_3)) v2_3 (by have f0 := (Qa ((Int.toNat (v2_2 - v2_1)) + 1) n0 v2_0 v2_1 (v2_1 + v2_3) v2_2 ho2_7); omega) (by have f0 := (Qa ((Int.toNat (v2_2 - v2_1)) + 1) n0 v2_0 v2_1 (v2_1 + v2_3) v2_2 ho2_7); omega) (by have f0 := (Qa ((Int.toNat (v2_2 - v2_1)) + 1) n0 v2_0 v2_1 (v2_1 + v2_3) v2_2 ho2_7); omega) (by have f0 := (Qa ((Int.toNat (v2_2 - v2_1)) + 1) n0 v2_0 v2_1 (v2_1 + v2_3) v2_2 ho2_7); omega) (by have f0 := (Qa ((Int.toNat (v2_2 - v2_1)) + 1) n0 v2_0 v2_1 (v2_1 + v2_3) v2_2 ho2_7); omega) (by have f0 := (Qa ((Int.toNat (v2_2 - v2_1)) + 1) n0 v2_0 v2_1 (v2_1 + v2_3) v2_2 ho2_7); omega) (by have f0 := (Qa ((Int.toNat (v2_2 - v2_1)) + 1) n0 v2_0 v2_1 (v2_1 + v2_3) v2_2 ho2_7); omega) (Qa ((Int.toNat (v2_2 - v2_1)) + 1) n0 v2_0 v2_1 (v2_1 + v2_3) v2_2 ho2_7) (by have f0 := (Qa ((Int.toNat (v2_2 - v2_1)) + 1) n0 v2_0 v2_1 (v2_1 + v2_3) v2_2 ho2_7); omega)
  | false =>
   have e0 := of_decide_eq_false h0
   exact (show 0 ≤ v2_1 ∧ v2_1 ≤ n0 ∧ v2_3 = v2_3 from ⟨(by omega), (by omega), (by omega)⟩)
def Q2p (n0 : Nat) (p1 : Int) : Nat → (List Fld) → Int → List Fld
 | 0, v1_0, _v1_1 => v1_0
 | k1 + 1, v1_0, v1_1 =>
  bif (decide (v1_1 < p1)) then
   bif (decide (((Qc n0 p1 ((Int.toNat (p1 + 2 * v1_1 - (2 * v1_1))) + 1) v1_0 0 (2 * v1_1) v1_1).2.2 + (Qc n0 p1 ((Int.toNat (p1 + 2 * v1_1 - (2 * v1_1))) + 1) v1_0 0 (2 * v1_1) v1_1).2.1) < p1)) then
    Q2p n0 p1 k1 (Q6 ((Int.toNat (p1 - (Qc n0 p1 ((Int.toNat (p1 + 2 * v1_1 - (2 * v1_1))) + 1) v1_0 0 (2 * v1_1) v1_1).2.2)) + 1) n0 (Qc n0 p1 ((Int.toNat (p1 + 2 * v1_1 - (2 * v1_1))) + 1) v1_0 0 (2 * v1_1) v1_1).1 (Qc n0 p1 ((Int.toNat (p1 + 2 * v1_1 - (2 * v1_1))) + 1) v1_0 0 (2 * v1_1) v1_1).2.2 ((Qc n0 p1 ((Int.toNat (p1 + 2 * v1_1 - (2 * v1_1))) + 1) v1_0 0 (2 * v1_1) v1_1).2.2 + (Qc n0 p1 ((Int.toNat (p1 + 2 * v1_1 - (2 * v1_1))) + 1) v1_0 0 (2 * v1_1) v1_1).2.1) p1) ((Qc n0 p1 ((Int.toNat (p1 + 2 * v1_1 - (2 * v1_1))) + 1) v1_0 0 (2 * v1_1) v1_1).2.1 * 2)
   else
    Q2p n0 p1 k1 (Qc n0 p1 ((Int.toNat (p1 + 2 * v1_1 - (2 * v1_1))) + 1) v1_0 0 (2 * v1_1) v1_1).1 ((Qc n0 p1 ((Int.toNat (p1 + 2 * v1_1 - (2 * v1_1))) + 1) v1_0 0 (2 * v1_1) v1_1).2.1 * 2)
  else
   v1_0
def Qdj (n0 : Nat) (p1 : Int) (_v1_0 : List Fld) (v1_1 : Int) : List PV :=
  [.ms 0 6 0 n0, .int .i64 p1, .fn 43 [] [], .un, .un, .un, .int .i64 v1_1, .un, .un, .un, .un, .un, .un, .un, .un, .un, .un, .un, .un, .un, .un, .un, .un, .un, .un, .un, .un, .un, .un, .un, .un, .un, .un, .un, .un, .un, .un, .un, .un, .un, .un, .un, .un, .un, .un, .un, .un, .un, .un, .un, .un, .un, .un, .un, .un, .un, .un, .un, .un, .un, .un, .un, .un]
def Q7x (_n0 : Nat) (_p1 : Int) (v1_0 : List Fld) (_v1_1 : Int) : List Ob :=
  [⟨6, 0, false, (Fld.rows v1_0).flatten⟩]
def Q6n (n0 : Nat) (p1 : Int) (v1_0 : List Fld) (v1_1 : Int) : En := .loop 1 Ir.Qd2 Ir.Q11k (Qdj n0 p1 v1_0 v1_1) (Q7x n0 p1 v1_0 v1_1)
def Qfv (_n0 : Nat) (_p1 : Int) (q0 : List Fld) (z : Nat → PV) (_zo : Nat → List PV) : St :=
  ⟨[z 0, z 1, z 2, z 3, z 4, z 5, z 6, z 7, z 8, z 9, z 10, z 11, z 12, z 13, z 14, z 15, z 16, z 17, z 18, z 19, z 20, z 21, z 22, z 23, z 24, z 25, z 26, z 27, z 28, z 29, z 30, z 31, z 32, z 33, z 34, z 35, z 36, z 37, z 38, z 39, z 40, z 41, z 42, z 43, z 44, z 45, z 46, z 47, z 48, z 49, z 50, z 51, z 52, z 53, z 54, z 55, z 56, z 57, z 58, z 59, z 60, z 61, z 62], [(0, ⟨6, 0, false, (Fld.rows q0).flatten⟩)], 193⟩
theorem Qkm (n0 : Nat) (p1 : Int) (v1_0 : List Fld) (v1_1 : Int) : VOK (Go.Pv.look (number 0 (Q7x n0 p1 v1_0 v1_1))) [(0, Fld.rows v1_0)] := (VOK.cons (show Seen _ _ from Q3r (ob := ⟨6, 0, false, (Fld.rows v1_0).flatten⟩) (Fld.Q5 v1_0 6 rfl)) VOK.nil)
def Qap (n0 : Nat) (p1 : Int) (e : En) (q : List Fld) : Prop := ∃ z zo, Q7 G e (.st (.exit 2) (Qfv n0 p1 q z zo))
theorem Q8u (n0 : Nat) (p1 : Int) {e e' : En} (h : ∀ r, Q7 G e r → Q7 G e' r) : ∀ q, Qap n0 p1 e q → Qap n0 p1 e' q
  | _, ⟨z, zo, hz⟩ => ⟨z, zo, h _ hz⟩
theorem Qty (n0 : Nat) (p1 : Int) (v1_0 : List Fld) (v1_1 : Int) (ho1_0 : 20 ≤ v1_1) (ho1_1 : p1 = n0) (ho1_2 : (n0 : Int) ≤ 1152921504606846976) (ho1_3 : List.length v1_0 = n0) (h0 : (decide (v1_1 < p1)) = true) (z1 : Nat → PV) (zo1 : Nat → List PV) (hl1 : Q7 G (Q6d n0 p1 v1_0 0 (2 * v1_1) v1_1) (.st (.exit 4) (Q6r n0 p1 (Qc n0 p1 ((Int.toNat (p1 + 2 * v1_1 - (2 * v1_1))) + 1) v1_0 0 (2 * v1_1) v1_1).1 (Qc n0 p1 ((Int.toNat (p1 + 2 * v1_1 - (2 * v1_1))) + 1) v1_0 0 (2 * v1_1) v1_1).2.1 (Qc n0 p1 ((Int.toNat (p1 + 2 * v1_1 - (2 * v1_1))) + 1) v1_0 0 (2 * v1_1) v1_1).2.2 z1 zo1))) (h1 : (decide (((Qc n0 p1 ((Int.toNat (p1 + 2 * v1_1 - (2 * v1_1))) + 1) v1_0 0 (2 * v1_1) v1_1).2.2 + (Qc n0 p1 ((Int.toNat (p1 + 2 * v1_1 - (2 * v1_1))) + 1) v1_0 0 (2 * v1_1) v1_1).2.1) < p1)) = true) {r : Rs} (hr : Q7 G (Q6n n0 p1 (Q6 ((Int.toNat (p1 - (Qc n0 p1 ((Int.toNat (p1 + 2 * v1_1 - (2 * v1_1))) + 1) v1_0 0 (2 * v1_1) v1_1).2.2)) + 1) n0 (Qc n0 p1 ((Int.toNat (p1 + 2 * v1_1 - (2 * v1_1))) + 1) v1_0 0 (2 * v1_1) v1_1).1 (Qc n0 p1 ((Int.toNat (p1 + 2 * v1_1 - (2 * v1_1))) + 1) v1_0 0 (2 * v1_1) v1_1).2.2 ((Qc n0 p1 ((Int.toNat (p1 + 2 * v1_1 - (2 * v1_1))) + 1) v1_0 0 (2 * v1_1) v1_1).2.2 + (Qc n0 p1 ((Int.toNat (p1 + 2 * v1_1 - (2 * v1_1))) + 1) v1_0 0 (2 * v1_1) v1_1).2.1) p1) ((Qc n0 p1 ((Int.toNat (p1 + 2 * v1_1 - (2 * v1_1))) + 1) v1_0 0 (2 * v1_1) v1_1).2.1 * 2)) r) : Q7 G (Q6n n0 p1 v1_0 v1_1) r := by
 have e0 := of_decide_eq_true h0; have e1 := of_decide_eq_true h1
 exact Qb (Qkm n0 p1 v1_0 v1_1) (y := (Qdj n0 p1 (Q6 ((Int.toNat (p1 - (Qc n0 p1 ((Int.toNat (p1 + 2 * v1_1 - (2 * v1_1))) + 1) v1_0 0 (2 * v1_1) v1_1).2.2)) + 1) n0 (Qc n0 p1 ((Int.toNat (p1 + 2 * v1_1 - (2 * v1_1))) + 1) v1_0 0 (2 * v1_1) v1_1).1 (Qc n0 p1 ((Int.toNat (p1 + 2 * v1_1 - (2 * v1_1))) + 1) v1_0 0 (2 * v1_1) v1_1).2.2 ((Qc n0 p1 ((Int.toNat (p1 + 2 * v1_1 - (2 * v1_1))) + 1) v1_0 0 (2 * v1_1) v1_1).2.2 + (Qc n0 p1 ((Int.toNat (p1 + 2 * v1_1 - (2 * v1_1))) + 1) v1_0 0 (2 * v1_1) v1_1).2.1) p1) ((Qc n0 p1 ((Int.toNat (p1 + 2 * v1_1 - (2 * v1_1))) + 1) v1_0 0 (2 * v1_1) v1_1).2.1 * 2), Q7x n0 p1 (Q6 ((Int.toNat (p1 - (Qc n0 p1 ((Int.toNat (p1 + 2 * v1_1 - (2 * v1_1))) + 1) v1_0 0 (2 * v1_1) v1_1).2.2)) + 1) n0 (Qc n0 p1 ((Int.toNat (p1 + 2 * v1_1 - (2 * v1_1))) + 1) v1_0 0 (2 * v1_1) v1_1).1 (Qc n0 p1 ((Int.toNat (p1 + 2 * v1_1 - (2 * v1_1))) + 1) v1_0 0 (2 * v1_1) v1_1).2.2 ((Qc n0 p1 ((Int.toNat (p1 + 2 * v1_1 - (2 * v1_1))) + 1) v1_0 0 (2 * v1_1) v1_1).2.2 + (Qc n0 p1 ((Int.toNat (p1 + 2 * v1_1 - (2 * v1_1))) + 1) v1_0 0 (2 * v1_1) v1_1).2.1) p1) ((Qc n0 p1 ((Int.toNat (p1 + 2 * v1_1 - (2 * v1_1))) + 1) v1_0 0 (2 * v1_1) v1_1).2.1 * 2))) [hB 2 h0, hP 1 (w_ok (2 * v1_1) (by omega)), hS 0 false (Fld.Q5 (Qc n0 p1 ((Int.toNat (p1 + 2 * v1_1 - (2 * v1_1))) + 1) v1_0 0 (2 * v1_1) v1_1).1 6 rfl), hP 4 (w_ok ((Qc n0 p1 ((Int.toNat (p1 + 2 * v1_1 - (2 * v1_1))) + 1) v1_0 0 (2 * v1_1) v1_1).2.2 + (Qc n0 p1 ((Int.toNat (p1 + 2 * v1_1 - (2 * v1_1))) + 1) v1_0 0 (2 * v1_1) v1_1).2.1) (by have f0 := (Q16 n0 p1 ((Int.toNat (p1 + 2 * v1_1 - (2 * v1_1))) + 1) v1_0 0 (2 * v1_1) v1_1 ho1_3); have g0 := Q29 n0 p1 ((Int.toNat (p1 + 2 * v1_1 - (2 * v1_1))) + 1) v1_0 0 (2 * v1_1) v1_1 (by omega) (by omega) (by omega) (by omega) (by omega) (by omega) (by omega) ho1_3 (by omega); omega)), hB 3 h1, hQ (Fld.Q5 (Q6 ((Int.toNat (p1 - (Qc n0 p1 ((Int.toNat (p1 + 2 * v1_1 - (2 * v1_1))) + 1) v1_0 0 (2 * v1_1) v1_1).2.2)) + 1) n0 (Qc n0 p1 ((Int.toNat (p1 + 2 * v1_1 - (2 * v1_1))) + 1) v1_0 0 (2 * v1_1) v1_1).1 (Qc n0 p1 ((Int.toNat (p1 + 2 * v1_1 - (2 * v1_1))) + 1) v1_0 0 (2 * v1_1) v1_1).2.2 ((Qc n0 p1 ((Int.toNat (p1 + 2 * v1_1 - (2 * v1_1))) + 1) v1_0 0 (2 * v1_1) v1_1).2.2 + (Qc n0 p1 ((Int.toNat (p1 + 2 * v1_1 - (2 * v1_1))) + 1) v1_0 0 (2 * v1_1) v1_1).2.1) p1) 6 rfl), hP 7 (w_ok ((Qc n0 p1 ((Int.toNat (p1 + 2 * v1_1 - (2 * v1_1))) + 1) v1_0 0 (2 * v1_1) v1_1).2.1 * 2) (by have f0 := (Qa ((Int.toNat (p1 - (Qc n0 p1 ((Int.toNat (p1 + 2 * v1_1 - (2 * v1_1))) + 1) v1_0 0 (2 * v1_1) v1_1).2.2)) + 1) n0 (Qc n0 p1 ((Int.toNat (p1 + 2 * v1_1 - (2 * v1_1))) + 1) v1_0 0 (2 * v1_1) v1_1).1 (Qc n0 p1 ((Int.toNat (p1 + 2 * v1_1 - (2 * v1_1))) + 1) v1_0 0 (2 * v1_1) v1_1).2.2 ((Qc n0 p1 ((Int.toNat (p1 + 2 * v1_1 - (2 * v1_1))) + 1) v1_0 0 (2 * v1_1) v1_1).2.2 + (Qc n0 p1 ((Int.toNat (p1 + 2 * v1_1 - (2 * v1_1))) + 1) v1_0 0 (2 * v1_1) v1_1).2.1) p1 (Q16 n0 p1 ((Int.toNat (p1 + 2 * v1_1 - (2 * v1_1))) + 1) v1_0 0 (2 * v1_1) v1_1 ho1_3)); have g0 := Q29 n0 p1 ((Int.toNat (p1 + 2 * v1_1 - (2 * v1_1))) + 1) v1_0 0 (2 * v1_1) v1_1 (by omega) (by omega) (by omega) (by omega) (by omega) (by omega) (by omega) ho1_3 (by omega); omega))] [aV [(0, Fld.rows (Qc n0 p1 ((Int.toNat (p1 + 2 * v1_1 - (2 * v1_1))) + 1) v1_0 0 (2 * v1_1) v1_1).1)] hl1, aV [(0, Fld.rows (Q6 ((Int.toNat (p1 - (Qc n0 p1 ((Int.toNat (p1 + 2 * v1_1 - (2 * v1_1))) + 1) v1_0 0 (2 * v1_1) v1_1).2.2)) + 1) n0 (Qc n0 p1 ((Int.toNat (p1 + 2 * v1_1 - (2 * v1_1))) + 1) v1_0 0 (2 * v1_1) v1_1).1 (Qc n0 p1 ((Int.toNat (p1 + 2 * v1_1 - (2 * v1_1))) + 1) v1_0 0 (2 * v1_1) v1_1).2.2 ((Qc n0 p1 ((Int.toNat (p1 + 2 * v1_1 - (2 * v1_1))) + 1) v1_0 0 (2 * v1_1) v1_1).2.2 + (Qc n0 p1 ((Int.toNat (p1 + 2 * v1_1 - (2 * v1_1))) + 1) v1_0 0 (2 * v1_1) v1_1).2.1) p1))] (Qco ((Int.toNat (p1 - (Qc n0 p1 ((Int.toNat (p1 + 2 * v1_1 - (2 * v1_1))) + 1) v1_0 0 (2 * v1_1) v1_1).2.2)) + 1) n0 (Qc n0 p1 ((Int.toNat (p1 + 2 * v1_1 - (2 * v1_1))) + 1) v1_0 0 (2 * v1_1) v1_1).1 (Qc n0 p1 ((Int.toNat (p1 + 2 * v1_1 - (2 * v1_1))) + 1) v1_0 0 (2 * v1_1) v1_1).2.2 ((Qc n0 p1 ((Int.toNat (p1 + 2 * v1_1 - (2 * v1_1))) + 1) v1_0 0 (2 * v1_1) v1_1).2.2 + (Qc n0 p1 ((Int.toNat (p1 + 2 * v1_1 - (2 * v1_1))) + 1) v1_0 0 (2 * v1_1) v1_1).2.1) p1 (Q16 n0 p1 ((Int.toNat (p1 + 2 * v1_1 - (2 * v1_1))) + 1) v1_0 0 (2 * v1_1) v1_1 ho1_3) (by have f0 := (Q16 n0 p1 ((Int.toNat (p1 + 2 * v1_1 - (2 * v1_1))) + 1) v1_0 0 (2 * v1_1) v1_1 ho1_3); have g0 := Q29 n0 p1 ((Int.toNat (p1 + 2 * v1_1 - (2 * v1_1))) + 1) v1_0 0 (2 * v1_1) v1_1 (by omega) (by omega) (by omega) (by omega) (by omega) (by omega) (by omega) ho1_3 (by omega); omega) (by omega))] (by kernel_rfl) hr
theorem Qun (n0 : Nat) (p1 : Int) (v1_0 : List Fld) (v1_1 : Int) (ho1_0 : 20 ≤ v1_1) (ho1_1 : p1 = n0) (ho1_2 : (n0 : Int) ≤ 1152921504606846976) (ho1_3 : List.length v1_0 = n0) (h0 : (decide (v1_1 < p1)) = true) (z1 : Nat → PV) (zo1 : Nat → List PV) (hl1 : Q7 G (Q6d n0 p1 v1_0 0 (2 * v1_1) v1_1) (.st (.exit 4) (Q6r n0 p1 (Qc n0 p1 ((Int.toNat (p1 + 2 * v1_1 - (2 * v1_1))) + 1) v1_0 0 (2 * v1_1) v1_1).1 (Qc n0 p1 ((Int.toNat (p1 + 2 * v1_1 - (2 * v1_1))) + 1) v1_0 0 (2 * v1_1) v1_1).2.1 (Qc n0 p1 ((Int.toNat (p1 + 2 * v1_1 - (2 * v1_1))) + 1) v1_0 0 (2 * v1_1) v1_1).2.2 z1 zo1))) (h1 : (decide (((Qc n0 p1 ((Int.toNat (p1 + 2 * v1_1 - (2 * v1_1))) + 1) v1_0 0 (2 * v1_1) v1_1).2.2 + (Qc n0 p1 ((Int.toNat (p1 + 2 * v1_1 - (2 * v1_1))) + 1) v1_0 0 (2 * v1_1) v1_1).2.1) < p1)) = false) {r : Rs} (hr : Q7 G (Q6n n0 p1 (Qc n0 p1 ((Int.toNat (p1 + 2 * v1_1 - (2 * v1_1))) + 1) v1_0 0 (2 * v1_1) v1_1).1 ((Qc n0 p1 ((Int.toNat (p1 + 2 * v1_1 - (2 * v1_1))) + 1) v1_0 0 (2 * v1_1) v1_1).2.1 * 2)) r) : Q7 G (Q6n n0 p1 v1_0 v1_1) r := by
 have e0 := of_decide_eq_true h0; have e1 := of_decide_eq_false h1
 exact Qb (Qkm n0 p1 v1_0 v1_1) (y := (Qdj n0 p1 (Qc n0 p1 ((Int.toNat (p1 + 2 * v1_1 - (2 * v1_1))) + 1) v1_0 0 (2 * v1_1) v1_1).1 ((Qc n0 p1 ((Int.toNat (p1 + 2 * v1_1 - (2 * v1_1))) + 1) v1_0 0 (2 * v1_1) v1_1).2.1 * 2), Q7x n0 p1 (Qc n0 p1 ((Int.toNat (p1 + 2 * v1_1 - (2 * v1_1))) + 1) v1_0 0 (2 * v1_1) v1_1).1 ((Qc n0 p1 ((Int.toNat (p1 + 2 * v1_1 - (2 * v1_1))) + 1) v1_0 0 (2 * v1_1) v1_1).2.1 * 2))) [hB 2 h0, hP 1 (w_ok (2 * v1_1) (by omega)), hS 0 false (Fld.Q5 (Qc n0 p1 ((Int.toNat (p1 + 2 * v1_1 - (2 * v1_1))) + 1) v1_0 0 (2 * v1_1) v1_1).1 6 rfl), hP 4 (w_ok ((Qc n0 p1 ((Int.toNat (p1 + 2 * v1_1 - (2 * v1_1))) + 1) v1_0 0 (2 * v1_1) v1_1).2.2 + (Qc n0 p1 ((Int.toNat (p1 + 2 * v1_1 - (2 * v1_1))) + 1) v1_0 0 (2 * v1_1) v1_1).2.1) (by have f0 := (Q16 n0 p1 ((Int.toNat (p1 + 2 * v1_1 - (2 * v1_1))) + 1) v1_0 0 (2 * v1_1) v1_1 ho1_3); have g0 := Q29 n0 p1 ((Int.toNat (p1 + 2 * v1_1 - (2 * v1_1))) + 1) v1_0 0 (2 * v1_1) v1_1 (by omega) (by omega) (by omega) (by omega) (by omega) (by omega) (by omega) ho1_3 (by omega); omega)), hB 3 h1, hP 1 (w_ok ((Qc n0 p1 ((Int.toNat (p1 + 2 * v1_1 - (2 * v1_1))) + 1) v1_0 0 (2 * v1_1) v1_1).2.1 * 2) (by have f0 := (Q16 n0 p1 ((Int.toNat (p1 + 2 * v1_1 - (2 * v1_1))) + 1) v1_0 0 (2 * v1_1) v1_1 ho1_3); have g0 := Q29 n0 p1 ((Int.toNat (p1 + 2 * v1_1 - (2 * v1_1))) + 1) v1_0 0 (2 * v1_1) v1_1 (by omega) (by omega) (by omega) (by omega) (by omega) (by omega) (by omega) ho1_3 (by omega); omega))] [aV [(0, Fld.rows (Qc n0 p1 ((Int.toNat (p1 + 2 * v1_1 - (2 * v1_1))) + 1) v1_0 0 (2 * v1_1) v1_1).1)] hl1] (by kernel_rfl) hr
def Qfw (n0 : Nat) (p1 : Int) (_v1_0 : List Fld) (v1_1 : Int) : List PV :=
  [.ms 0 6 0 n0, .int .i64 p1, .fn 43 [] [], .un, .un, .un, .int .i64 v1_1, .un, .un, .un, .un, .un, .un, .un, .un, .un, .un, .un, .un, .un, .un, .un, .un, .un, .un, .un, .un, .un, .int .i64 v1_1, .int .i64 p1, .bool false]
def Qbg (_n0 : Nat) (_p1 : Int) (_v1_0 : List Fld) (_v1_1 : Int) : List (Nat × List PV) :=
  []
theorem Qts (n0 : Nat) (p1 : Int) (v1_0 : List Fld) (v1_1 : Int) (_ho1_0 : 20 ≤ v1_1) (_ho1_1 : p1 = n0) (_ho1_2 : (n0 : Int) ≤ 1152921504606846976) (_ho1_3 : List.length v1_0 = n0) (h0 : (decide (v1_1 < p1)) = false) : Qap n0 p1 (Q6n n0 p1 v1_0 v1_1) v1_0 := by
 exact ⟨(envF (Qfw n0 p1 v1_0 v1_1)), (zoF (Qbg n0 p1 v1_0 v1_1)), Qe (Qkm n0 p1 v1_0 v1_1) (x := ((.exit 2), Qfv n0 p1 v1_0 (envF (Qfw n0 p1 v1_0 v1_1)) (zoF (Qbg n0 p1 v1_0 v1_1)))) [hB 2 h0] [] (by kernel_rfl)⟩
theorem Qeo (n0 : Nat) (p1 : Int) : ∀ (k1 : Nat) (v1_0 : List Fld) (v1_1 : Int), 20 ≤ v1_1 → p1 = n0 → (n0 : Int) ≤ 1152921504606846976 → List.length v1_0 = n0 → Int.toNat (p1 - v1_1) < k1 → Qap n0 p1 (Q6n n0 p1 v1_0 v1_1) (Q2p n0 p1 k1 v1_0 v1_1)
 | 0, v1_0, v1_1, _, _, _, _, hm => absurd hm (Nat.not_lt_zero _)
 | k1 + 1, v1_0, v1_1, ho1_0, ho1_1, ho1_2, ho1_3, hm => by
  rw [Q2p]
  cases h0 : (decide (v1_1 < p1)) with
  | true =>
   have e0 := of_decide_eq_true h0
   have hl1 := Qlm n0 p1 ((Int.toNat (p1 + 2 * v1_1 - (2 * v1_1))) + 1) v1_0 0 (2 * v1_1) v1_1 (by omega) (by omega) (by omega) (by omega) (by omega) (by omega) (by omega) ho1_3 (by omega)
   obtain ⟨z1, zo1, hl1⟩ := hl1
   cases h1 : (decide (((Qc n0 p1 ((Int.toNat (p1 + 2 * v1_1 - (2 * v1_1))) + 1) v1_0 0 (2 * v1_1) v1_1).2.2 + (Qc n0 p1 ((Int.toNat (p1 + 2 * v1_1 - (2 * v1_1))) + 1) v1_0 0 (2 * v1_1) v1_1).2.1) < p1)) with
   | true =>
    have e1 := of_decide_eq_true h1
    exact Q8u n0 p1 (fun r hr => Qty n0 p1 v1_0 v1_1 ho1_0 ho1_1 ho1_2 ho1_3 h0 z1 zo1 hl1 h1 hr) _ (Qeo n0 p1 k1 (Q6 ((Int.toNat (p1 - (Qc n0 p1 ((Int.toNat (p1 + 2 * v1_1 - (2 * v1_1))) + 1) v1_0 0 (2 * v1_1) v1_1).2.2)) + 1) n0 (Qc n0 p1 ((Int.toNat (p1 + 2 * v1_1 - (2 * v1_1))) + 1) v1_0 0 (2 * v1_1) v1_1).1 (Qc n0 p1 ((Int.toNat (p1 + 2 * v1_1 - (2 * v1_1))) + 1) v1_0 0 (2 * v1_1) v1_1).2.2 ((Qc n0 p1 ((Int.toNat (p1 + 2 * v1_1 - (2 * v1_1))) + 1) v1_0 0 (2 * v1_1) v1_1).2.2 + (Qc n0 p1 ((Int.toNat (p1 + 2 * v1_1 - (2 * v1_1))) + 1) v1_0 0 (2 * v1_1) v1_1).2.1) p1) ((Qc n0 p1 ((Int.toNat (p1 + 2 * v1_1 - (2 * v1_1))) + 1) v1_0 0 (2 * v1_1) v1_1).2.1 * 2) (by have f0 := (Qa ((Int.toNat (p1 - (Qc n0 p1 ((Int.toNat (p1 + 2 * v1_1 - (2 * v1_1))) + 1) v1_0 0 (2 * v1_1) v1_1).2.2)) + 1) n0 (Qc n0 p1 ((Int.toNat (p1 + 2 * v1_1 - (2 * v1_1))) + 1) v1_0 0 (2 * v1_1) v1_1).1 (Qc n0 p1 ((Int.toNat (p1 + 2 * v1_1 - (2 * v1_1))) + 1) v1_0 0 (2 * v1_1) v1_1).2.2 ((Qc n0 p1 ((Int.toNat (p1 + 2 * v1_1 - (2 * v1_1))) + 1) v1_0 0 (2 * v1_1) v1_1).2.2 + (Qc n0 p1 ((Int.toNat (p1 + 2 * v1_1 - (2 * v1_1))) + 1) v1_0 0 (2 * v1_1) v1_1).2.1) p1 (Q16 n0 p1 ((Int.toNat (p1 + 2 * v1_1 - (2 * v1_1))) + 1) v1_0 0 (2 * v1_1) v1_1 ho1_3)); have g0 := Q29 n0 p1 ((Int.toNat (p1 + 2 * v1_1 - (2 * v1_1))) + 1) v1_0 0 (2 * v1_1) v1_1 (by omega) (by omega) (by omega) (by omega) (by omega) (by omega) (by omega) ho1_3 (by omega); omega) (by have f0 := (Qa ((Int.toNat (p1 - (Qc n0 p1 ((Int.toNat (p1 + 2 * v1_1 - (2 * v1_1))) + 1) v1_0 0 (2 * v1_1) v1_1).2.2)) + 1) n0 (Qc n0 p1 ((Int.toNat (p1 + 2 * v1_1 - (2 * v1_1))) + 1) v1_0 0 (2 * v1_1) v1_1).1 (Qc n0 p1 ((Int.toNat (p1 + 2 * v1_1 - (2 * v1_1))) + 1) v1_0 0 (2 * v1_1) v1_1).2.2 ((Qc n0 p1 ((Int.toNat (p1 + 2 * v1_1 - (2 * v1_1))) + 1) v1_0 0 (2 * v1_1) v1_1).2.2 + (Qc n0 p1 ((Int.toNat (p1 + 2 * v1_1 - (2 * v1_1))) + 1) v1_0 0 (2 * v1_1) v1_1).2.1) p1 (Q16 n0 p1 ((Int.toNat (p1 + 2 * v1_1 - (2 * v1_1))) + 1) v1_0 0 (2 * v1_1) v1_1 ho1_3)); have g0 := Q29 n0 p1 ((Int.toNat (p1 + 2 * v1_1 - (2 * v1_1))) + 1) v1_0 0 (2 * v1_1) v1_1 (by omega) (by omega) (by omega) (by omega) (by omega) (by omega) (by omega) ho1_3 (by omega); omega) (by have f0 := (Qa ((Int.toNat (p1 - (Qc n0 p1 ((Int.toNat (p1 + 2 * v1_1 - (2 * v1_1))) + 1) v1_0 0 (2 * v1_1) v1_1).2.2)) + 1) n0 (Qc n0 p1 ((Int.toNat (p1 + 2 * v1_1 - (2 * v1_1))) + 1) v1_0 0 (2 * v1_1) v1_1).1 (Qc n0 p1 ((Int.toNat (p1 + 2 * v1_1 - (2 * v1_1))) + 1) v1_0 0 (2 * v1_1) v1_1).2.2 ((Qc n0 p1 ((Int.toNat (p1 + 2 * v1_1 - (2 * v1_1))) + 1) v1_0 0 (2 * v1_1) v1_1).2.2 + (Qc n0 p1 ((Int.toNat (p1 + 2 * v1_1 - (2 * v1_1))) + 1) v1_0 0 (2 * v1_1) v1_1).2.1) p1 (Q16 n0 p1 ((Int.toNat (p1 + 2 * v1_1 - (2 * v1_1))) + 1) v1_0 0 (2 * v1_1) v1_1 ho1_3)); have g0 := Q29 n0 p1 ((Int.toNat (p1 + 2 * v1_1 - (2 * v1_1))) + 1) v1_0 0 (2 * v1_1) v1_1 (by omega) (by omega) (by omega) (by omega) (by omega) (by omega) (by omega) ho1_3 (by omega); omega) (Qa ((Int.toNat (p1 - (Qc n0 p1 ((Int.toNat (p1 + 2 * v1_1 - (2 * v1_1))) + 1) v1_0 0 (2 * v1_1) v1_1).2.2)) + 1) n0 (Qc n0 p1 ((Int.toNat (p1 + 2 * v1_1 - (2 * v1_1))) + 1) v1_0 0 (2 * v1_1) v1_1).1 (Qc n0 p1 ((Int.toNat (p1 + 2 * v1_1 - (2 * v1_1))) + 1) v1_0 0 (2 * v1_1) v1_1).2.2 ((Qc n0 p1 ((Int.toNat (p1 + 2 * v1_1 - (2 * v1_1))) + 1) v1_0 0 (2 * v1_1) v1_1).2.2 + (Qc n0 p1 ((Int.toNat (p1 + 2 * v1_1 - (2 * v1_1))) + 1) v1_0 0 (2 * v1_1) v1_1).2.1) p1 (Q16 n0 p1 ((Int.toNat (p1 + 2 * v1_1 - (2 * v1_1))) + 1) v1_0 0 (2 * v1_1) v1_1 ho1_3)) (by have f0 := (Qa ((Int.toNat (p1 - (Qc n0 p1 ((Int.toNat (p1 + 2 * v1_1 - (2 * v1_1))) + 1) v1_0 0 (2 * v1_1) v1_1).2.2)) + 1) n0 (Qc n0 p1 ((Int.toNat (p1 + 2 * v1_1 - (2 * v1_1))) + 1) v1_0 0 (2 * v1_1) v1_1).1 (Qc n0 p1 ((Int.toNat (p1 + 2 * v1_1 - (2 * v1_1))) + 1) v1_0 0 (2 * v1_1) v1_1).2.2 ((Qc n0 p1 ((Int.toNat (p1 + 2 * v1_1 - (2 * v1_1))) + 1) v1_0 0 (2 * v1_1) v1_1).2.2 + (Qc n0 p1 ((Int.toNat (p1 + 2 * v1_1 - (2 * v1_1))) + 1) v1_0 0 (2 * v1_1) v1_1).2.1) p1 (Q16 n0 p1 ((Int.toNat (p1 + 2 * v1_1 - (2 * v1_1))) + 1) v1_0 0 (2 * v1_1) v1_1 ho1_3)); have g0 := Q29 n0 p1 ((Int.toNat (p1 + 2 * v1_1 - (2 * v1_1))) + 1) v1_0 0 (2 * v1_1) v1_1 (by omega) (by omega) (by omega) (by omega) (by omega) (by omega) (by omega) ho1_3 (by omega); omega))
   | false =>
    have e1 := of_decide_eq_false h1
    exact Q8u n0 p1 (fun r hr => Qun n0 p1 v1_0 v1_1 ho1_0 ho1_1 ho1_2 ho1_3 h0 z1 zo1 hl1 h1 hr) _ (Qeo n0 p1 k1 (Qc n0 p1 ((Int.toNat (p1 + 2 * v1_1 - (2 * v1_1))) + 1) v1_0 0 (2 * v1_1) v1_1).1 ((Qc n0 p1 ((Int.toNat (p1 + 2 * v1_1 - (2 * v1_1))) + 1) v1_0 0 (2 * v1_1) v1_1).2.1 * 2) (by have f0 := (Q16 n0 p1 ((Int.toNat (p1 + 2 * v1_1 - (2 * v1_1))) + 1) v1_0 0 (2 * v1_1) v1_1 ho1_3); have g0 := Q29 n0 p1 ((Int.toNat (p1 + 2 * v1_1 - (2 * v1_1))) + 1) v1_0 0 (2 * v1_1) v1_1 (by omega) (by omega) (by omega) (by omega) (by omega) (by omega) (by omega) ho1_3 (by omega); omega) (by have f0 := (Q16 n0 p1 ((Int.toNat (p1 + 2 * v1_1 - (2 * v1_1))) + 1) v1_0 0 (2 * v1_1) v1_1 ho1_3); have g0 := Q29 n0 p1 ((Int.toNat (p1 + 2 * v1_1 - (2 * v1_1))) + 1) v1_0 0 (2 * v1_1) v1_1 (by omega) (by omega) (by omega) (by omega) (by omega) (by omega) (by omega) ho1_3 (by omega); omega) (by have f0 := (Q16 n0 p1 ((Int.toNat (p1 + 2 * v1_1 - (2 * v1_1))) + 1) v1_0 0 (2 * v1_1) v1_1 ho1_3); have g0 := Q29 n0 p1 ((Int.toNat (p1 + 2 * v1_1 - (2 * v1_1))) + 1) v1_0 0 (2 * v1_1) v1_1 (by omega) (by omega) (by omega) (by omega) (by omega) (by omega) (by omega) ho1_3 (by omega); omega) (Q16 n0 p1 ((Int.toNat (p1 + 2 * v1_1 - (2 * v1_1))) + 1) v1_0 0 (2 * v1_1) v1_1 ho1_3) (by have f0 := (Q16 n0 p1 ((Int.toNat (p1 + 2 * v1_1 - (2 * v1_1))) + 1) v1_0 0 (2 * v1_1) v1_1 ho1_3); have g0 := Q29 n0 p1 ((Int.toNat (p1 + 2 * v1_1 - (2 * v1_1))) + 1) v1_0 0 (2 * v1_1) v1_1 (by omega) (by omega) (by omega) (by omega) (by omega) (by omega) (by omega) ho1_3 (by omega); omega))
  | false =>
   exact Qts n0 p1 v1_0 v1_1 ho1_0 ho1_1 ho1_2 ho1_3 h0
theorem Q57 (n0 : Nat) (p1 : Int) : ∀ (k1 : Nat) (v1_0 : List Fld) (v1_1 : Int), List.length v1_0 = n0 → List.length (Q2p n0 p1 k1 v1_0 v1_1) = n0
 | 0, v1_0, v1_1, ho1_3 => by rw [Q2p]; exact ho1_3
 | k1 + 1, v1_0, v1_1, ho1_3 => by
  rw [Q2p]
  cases h0 : (decide (v1_1 < p1)) with
  | true =>
   cases h1 : (decide (((Qc n0 p1 ((Int.toNat (p1 + 2 * v1_1 - (2 * v1_1))) + 1) v1_0 0 (2 * v1_1) v1_1).2.2 + (Qc n0 p1 ((Int.toNat (p1 + 2 * v1_1 - (2 * v1_1))) + 1) v1_0 0 (2 * v1_1) v1_1).2.1) < p1)) with
   | true =>
    exact Q57 n0 p1 k1 (Q6 ((Int.toNat (p1 - (Qc n0 p1 ((Int.toNat (p1 + 2 * v1_1 - (2 * v1_1))) + 1) v1_0 0 (2 * v1_1) v1_1).2.2)) + 1) n0 (Qc n0 p1 ((Int.toNat (p1 + 2 * v1_1 - (2 * v1_1))) + 1) v1_0 0 (2 * v1_1) v1_1).1 (Qc n0 p1 ((Int.toNat (p1 + 2 * v1_1 - (2 * v1_1))) + 1) v1_0 0 (2 * v1_1) v1_1).2.2 ((Qc n0 p1 ((Int.toNat (p1 + 2 * v1_1 - (2 * v1_1))) + 1) v1_0 0 (2 * v1_1) v1_1).2.2 + (Qc n0 p1 ((Int.toNat (p1 + 2 * v1_1 - (2 * v1_1))) + 1) v1_0 0 (2 * v1_1) v1_1).2.1) p1) ((Qc n0 p1 ((Int.toNat (p1 + 2 * v1_1 - (2 * v1_1))) + 1) v1_0 0 (2 * v1_1) v1_1).2.1 * 2) (Qa ((Int.toNat (p1 - (Qc n0 p1 ((Int.toNat (p1 + 2 * v1_1 - (2 * v1_1))) + 1) v1_0 0 (2 * v1_1) v1_1).2.2)) + 1) n0 (Qc n0 p1 ((Int.toNat (p1 + 2 * v1_1 - (2 * v1_1))) + 1) v1_0 0 (2 * v1_1) v1_1).1 (Qc n0 p1 ((Int.toNat (p1 + 2 * v1_1 - (2 * v1_1))) + 1) v1_0 0 (2 * v1_1) v1_1).2.2 ((Qc n0 p1 ((Int.toNat (p1 + 2 * v1_1 - (2 * v1_1))) + 1) v1_0 0 (2 * v1_1) v1_1).2.2 + (Qc n0 p1 ((Int.toNat (p1 + 2 * v1_1 - (2 * v1_1))) + 1) v1_0 0 (2 * v1_1) v1_1).2.1) p1 (Q16 n0 p1 ((Int.toNat (p1 + 2 * v1_1 - (2 * v1_1))) + 1) v1_0 0 (2 * v1_1) v1_1 ho1_3))
   | false =>
    exact Q57 n0 p1 k1 (Qc n0 p1 ((Int.toNat (p1 + 2 * v1_1 - (2 * v1_1))) + 1) v1_0 0 (2 * v1_1) v1_1).1 ((Qc n0 p1 ((Int.toNat (p1 + 2 * v1_1 - (2 * v1_1))) + 1) v1_0 0 (2 * v1_1) v1_1).2.1 * 2) (Q16 n0 p1 ((Int.toNat (p1 + 2 * v1_1 - (2 * v1_1))) + 1) v1_0 0 (2 * v1_1) v1_1 ho1_3)
  | false =>
   exact ho1_3
def Q3b (n0 : Nat) (p0 : List Fld) (p1 : Int) : List Fld :=
 (Q2p n0 p1 ((Int.toNat (p1 - 20)) + 1) (Q18 n0 (Q1y n0 p1 ((Int.toNat (p1 + 20 - 20)) + 1) p0 0 20).1 (Q1y n0 p1 ((Int.toNat (p1 + 20 - 20)) + 1) p0 0 20).2 p1) 20)
def Qzo (n0 : Nat) (p0 : List Fld) (p1 : Int) : En := .call 53 [.ms 0 6 0 n0, .int .i64 p1, .fn 43 [] []] [⟨6, 0, false, (Fld.rows p0).flatten⟩]
def Qoj (n0 : Nat) (p0 : List Fld) (p1 : Int) : Rs := .ret (.tup []) [⟨6, 0, false, (Fld.rows (Q3b n0 p0 p1)).flatten⟩]
theorem Qp2 (n0 : Nat) (p0 : List Fld) (p1 : Int) (hn : List.length p0 = n0) : List.length (Q3b n0 p0 p1) = n0 := by
 unfold Q3b
 have hz0_0 : List.length (Q1y n0 p1 ((Int.toNat (p1 + 20 - 20)) + 1) p0 0 20).1 = n0 := Q6z n0 p1 ((Int.toNat (p1 + 20 - 20)) + 1) p0 0 20 hn
 obtain ⟨R8, eR8⟩ : ∃ R, (Q1y n0 p1 ((Int.toNat (p1 + 20 - 20)) + 1) p0 0 20) = R := ⟨_, rfl⟩
 rw [eR8] at hz0_0 ⊢
 have hz1_0 : List.length (Q2p n0 p1 ((Int.toNat (p1 - 20)) + 1) (Q18 n0 R8.1 R8.2 p1) 20) = n0 := Q57 n0 p1 ((Int.toNat (p1 - 20)) + 1) (Q18 n0 R8.1 R8.2 p1) 20 (Qs n0 R8.1 R8.2 p1 hz0_0)
 obtain ⟨R9, eR9⟩ : ∃ R, (Q2p n0 p1 ((Int.toNat (p1 - 20)) + 1) (Q18 n0 R8.1 R8.2 p1) 20) = R := ⟨_, rfl⟩
 rw [eR9] at hz1_0 ⊢
 exact hz1_0
theorem Qwt (n0 : Nat) (p0 : List Fld) (p1 : Int) (hn : List.length p0 = n0) (hq0 : 0 ≤ p1 ∧ p1 = n0 ∧ (n0 : Int) ≤ 1152921504606846976) : Q7 G (Qzo n0 p0 p1) (Qoj n0 p0 p1) := by
 unfold Qoj Q3b
 have hl0 := Qo7 n0 p1 ((Int.toNat (p1 + 20 - 20)) + 1) p0 0 20 (by omega) (by omega) (by omega) (by omega) (by omega) hn (by omega)
 have hz0_0 : List.length (Q1y n0 p1 ((Int.toNat (p1 + 20 - 20)) + 1) p0 0 20).1 = n0 := Q6z n0 p1 ((Int.toNat (p1 + 20 - 20)) + 1) p0 0 20 hn
 have hy0 : 0 ≤ (Q1y n0 p1 ((Int.toNat (p1 + 20 - 20)) + 1) p0 0 20).2 ∧ (Q1y n0 p1 ((Int.toNat (p1 + 20 - 20)) + 1) p0 0 20).2 ≤ n0 := Qmx n0 p1 ((Int.toNat (p1 + 20 - 20)) + 1) p0 0 20 (by omega) (by omega) (by omega) (by omega) (by omega) hn (by omega)
 obtain ⟨R8, eR8⟩ : ∃ R, (Q1y n0 p1 ((Int.toNat (p1 + 20 - 20)) + 1) p0 0 20) = R := ⟨_, rfl⟩
 rw [eR8] at hz0_0 hy0 hl0 ⊢
 obtain ⟨z0, zo0, hl0⟩ := hl0
 have hl1 := Qeo n0 p1 ((Int.toNat (p1 - 20)) + 1) (Q18 n0 R8.1 R8.2 p1) 20 (by have f0 := (Qs n0 R8.1 R8.2 p1 hz0_0); have g0 := hy0; omega) (by have f0 := (Qs n0 R8.1 R8.2 p1 hz0_0); have g0 := hy0; omega) (by have f0 := (Qs n0 R8.1 R8.2 p1 hz0_0); have g0 := hy0; omega) (Qs n0 R8.1 R8.2 p1 hz0_0) (by omega)
 have hz1_0 : List.length (Q2p n0 p1 ((Int.toNat (p1 - 20)) + 1) (Q18 n0 R8.1 R8.2 p1) 20) = n0 := Q57 n0 p1 ((Int.toNat (p1 - 20)) + 1) (Q18 n0 R8.1 R8.2 p1) 20 (Qs n0 R8.1 R8.2 p1 hz0_0)
 obtain ⟨R9, eR9⟩ : ∃ R, (Q2p n0 p1 ((Int.toNat (p1 - 20)) + 1) (Q18 n0 R8.1 R8.2 p1) 20) = R := ⟨_, rfl⟩
 rw [eR9] at hz1_0 hl1 ⊢
 obtain ⟨z1, zo1, hl1⟩ := hl1
 exact Q9 (fn := Ir.K1d) rfl (vk1 (Fld.Q5 p0 6 rfl)) [hS 0 false (Fld.Q5 R8.1 6 rfl), hQ (Fld.Q5 (Q18 n0 R8.1 R8.2 p1) 6 rfl), hS 0 false (Fld.Q5 R9 6 rfl)] [aV [(0, Fld.rows R8.1)] hl0, aV [(0, Fld.rows (Q18 n0 R8.1 R8.2 p1))] (Qne n0 R8.1 R8.2 p1 hz0_0 (by have g0 := hy0; omega)), aV [(0, Fld.rows R9)] hl1] (by kernel_rfl)
def Qj (n0 : Nat) (p0 : List Fld) : List Fld :=
 (Q3b n0 p0 (n0 : Int))
def Qwa (n0 : Nat) (p0 : List Fld) : En := .call 42 [.ms 0 6 0 n0, .fn 43 [] []] [⟨6, 0, false, (Fld.rows p0).flatten⟩]
def Qoi (n0 : Nat) (p0 : List Fld) : Rs := .ret (.tup []) [⟨6, 0, false, (Fld.rows (Qj n0 p0)).flatten⟩]
theorem Q1h (n0 : Nat) (p0 : List Fld) (hn : List.length p0 = n0) : List.length (Qj n0 p0) = n0 := by
 unfold Qj
 exact (Qp2 n0 p0 (n0 : Int) hn)
theorem Qy6 (n0 : Nat) (p0 : List Fld) (hn : List.length p0 = n0) (hq0 : (n0 : Int) ≤ 1152921504606846976) : Q7 G (Qwa n0 p0) (Qoi n0 p0) := by
 unfold Qoi Qj
 exact Q9 (fn := Ir.K1a) rfl (vk1 (Fld.Q5 p0 6 rfl)) [hQ (Fld.Q5 (Q3b n0 p0 (n0 : Int)) 6 rfl)] [aV [(0, Fld.rows (Q3b n0 p0 (n0 : Int)))] (Qwt n0 p0 (n0 : Int) hn (by omega))] (by kernel_rfl)
def Q24 (p0 : List Fld) : List Fld → Nat → (List Fld) → List Fld
 | [], _i0, v0_1 =>
  v0_1
 | x0 :: r0, i0, v0_1 =>
  bif (((i0 + 1 : Nat) : Int) == ((List.length p0) : Int)) then
   Q24 p0 r0 (i0 + 1) (v0_1 ++ [x0])
  else
   bif (sEq (List.getD (Qj (List.length p0) p0) (Int.toNat ((i0 + 1 : Nat) : Int)) zF).name x0.name) then
    Q24 p0 r0 (i0 + 1) v0_1
   else
    Q24 p0 r0 (i0 + 1) (v0_1 ++ [x0])
def Q81 (p0 : List Fld) (i0 : Nat) (_v0_1 : List Fld) : List PV :=
  [.un, .un, .bx 0 0, .ms 1 6 0 (List.length p0), .bx 2 0, .un, .un, .un, .un, .un, .un, .un, .ms 1 6 0 (List.length p0), .int .i64 ((List.length p0) : Int), .int .i64 (i0 : Int), .un, .un, .un, .un, .un, .un, .un, .un, .un, .un, .un, .un, .un, .un, .un, .un, .un, .un, .un, .un, .un, .un, .un, .un, .un, .un, .un, .un, .un]
def Q61 (p0 : List Fld) (_i0 : Nat) (v0_1 : List Fld) : List Ob :=
  [⟨5, 0, true, [.int .i64 0, .int .i64 0, .str (⟨#[]⟩ : ByteArray), .ms 3 5 0 0, .ms 4 6 0 0]⟩, ⟨6, 0, false, (Fld.rows (Qj (List.length p0) p0)).flatten⟩, ⟨5, 0, true, [.int .i64 5, .int .i64 0, .str (⟨#[]⟩ : ByteArray), .ms 5 5 0 0, .ms 6 6 0 (List.length v0_1)]⟩, ⟨5, 0, true, []⟩, ⟨6, 0, true, []⟩, ⟨5, 0, true, []⟩, ⟨6, 0, true, (Fld.rows v0_1).flatten⟩]
def Q4g (p0 : List Fld) (i0 : Nat) (v0_1 : List Fld) : En := .loop 0 Ir.Qda Ir.Q11p (Q81 p0 i0 v0_1) (Q61 p0 i0 v0_1)
def Qgd (p0 : List Fld) (q0 : List Fld) (z : Nat → PV) (_zo : Nat → List PV) : St :=
  ⟨[z 0, z 1, .bx 0 0, z 3, .bx 2 0, z 5, z 6, z 7, z 8, z 9, z 10, z 11, z 12, z 13, z 14, z 15, z 16, z 17, z 18, z 19, z 20, z 21, z 22, z 23, z 24, z 25, z 26, z 27, z 28, z 29, z 30, z 31, z 32, z 33, z 34, z 35, z 36, z 37, z 38, z 39, z 40, z 41, z 42, z 43], [(0, ⟨5, 0, true, [.int .i64 0, .int .i64 0, .str (⟨#[]⟩ : ByteArray), .ms 3 5 0 0, .ms 4 6 0 0]⟩), (1, ⟨6, 0, false, (Fld.rows (Qj (List.length p0) p0)).flatten⟩), (2, ⟨5, 0, true, [.int .i64 5, .int .i64 0, .str (⟨#[]⟩ : ByteArray), .ms 5 5 0 0, .ms 6 6 0 (List.length q0)]⟩), (3, ⟨5, 0, true, []⟩), (4, ⟨6, 0, true, []⟩), (5, ⟨5, 0, true, []⟩), (6, ⟨6, 0, true, (Fld.rows q0).flatten⟩)], 71⟩
theorem Qb5 (p0 : List Fld) (i0 : Nat) (v0_1 : List Fld) : VOK (Go.Pv.look (number 0 (Q61 p0 i0 v0_1))) [(1, Fld.rows (Qj (List.length p0) p0)), (6, Fld.rows v0_1)] := (VOK.cons (show Seen _ _ from Q3r (ob := ⟨6, 0, false, (Fld.rows (Qj (List.length p0) p0)).flatten⟩) (Fld.Q5 (Qj (List.length p0) p0) 6 rfl)) (VOK.cons (show Seen _ _ from Q3r (ob := ⟨6, 0, true, (Fld.rows v0_1).flatten⟩) (Fld.Q5 v0_1 6 rfl)) VOK.nil))
def Qb7 (p0 : List Fld) (e : En) (q : List Fld) : Prop := ∃ z zo, Q7 G e (.st (.exit 0) (Qgd p0 q z zo))
theorem Q5a (p0 : List Fld) {e e' : En} (h : ∀ r, Q7 G e r → Q7 G e' r) : ∀ q, Qb7 p0 e q → Qb7 p0 e' q
  | _, ⟨z, zo, hz⟩ => ⟨z, zo, h _ hz⟩
def Q6h (p0 : List Fld) : Prop := (List.length (Qj (List.length p0) p0) ≤ 137438953472) ∧ True
def Qfz (p0 : List Fld) (i0 : Nat) (_v0_1 : List Fld) : List PV :=
  [.un, .un, .un, .ms 1 6 0 (List.length p0), .un, .un, .un, .un, .un, .un, .un, .un, .ms 1 6 0 (List.length p0), .int .i64 ((List.length p0) : Int), .int .i64 (i0 : Int), .bool false]
def Qca (_p0 : List Fld) (_i0 : Nat) (_v0_1 : List Fld) : List (Nat × List PV) :=
  []
theorem Qv8 (p0 : List Fld) (_H : Q6h p0) (i0 : Nat) (v0_1 : List Fld) (_ho0_0 : List.length v0_1 ≤ i0) (hc0 : (decide ((i0 : Int) < ((List.length p0) : Int))) = false) : Qb7 p0 (Q4g p0 i0 v0_1) v0_1 := by
 exact ⟨(envF (Qfz p0 i0 v0_1)), (zoF (Qca p0 i0 v0_1)), Qe (Qb5 p0 i0 v0_1) (x := ((.exit 0), Qgd p0 v0_1 (envF (Qfz p0 i0 v0_1)) (zoF (Qca p0 i0 v0_1)))) [hB 0 hc0] [] (by kernel_rfl)⟩
theorem Qsm (p0 : List Fld) (H : Q6h p0) (x0 : Fld) (i0 : Nat) (v0_1 : List Fld) (hx0 : (Qj (List.length p0) p0)[i0]? = some x0) (hi0 : i0 < List.length (Qj (List.length p0) p0)) (ho0_0 : List.length v0_1 ≤ i0) (hc0 : (decide ((i0 : Int) < ((List.length p0) : Int))) = true) (h0 : (((i0 + 1 : Nat) : Int) == ((List.length p0) : Int)) = true) {r : Rs} (hr : Q7 G (Q4g p0 (i0 + 1) (v0_1 ++ [x0])) r) : Q7 G (Q4g p0 i0 v0_1) r := by
 have hB0 := H.1; have e0 := eq_of_beq h0
 exact Qb (Qb5 p0 i0 v0_1) (y := (Q81 p0 (i0 + 1) (v0_1 ++ [x0]), Q61 p0 (i0 + 1) (v0_1 ++ [x0]))) [hB 0 hc0, hP 1 (Q1g 1 6 (List.length p0) (i0 : Int) i0 (by omega) (by have f1 := (Q1h (List.length p0) p0 rfl); omega) (by have f1 := (Q1h (List.length p0) p0 rfl); omega)), hP 0 (Q2z 1 6 0 false ((Fld.rows (Qj (List.length p0) p0)).flatten) (Fld.rows (Qj (List.length p0) p0)) 6 true i0 0 (i0 * 6) (Fld.cells x0) (.agg [.str x0.name, .int .i64 x0.v.kind, .int .i64 x0.v.n, .str x0.v.s, .sl (Val.rows x0.v.list), .sl (Fld.rows x0.v.fields)]) rfl rfl (Fld.Qg hx0) (Fld.Qp (Qj (List.length p0) p0)) (by decide) rfl), hP 4 (Qv i0 (by omega)), hB 2 h0, hV 15 [(1735, Fld.rows (v0_1 ++ [x0]))] (Q10m 6 1671 1735 6 96 0 0 true (Fld.rows v0_1) (Fld.rows (v0_1 ++ [x0])) (Fld.cells x0) (List.length v0_1) (List.length (v0_1 ++ [x0])) rfl (Fld.Qd v0_1).symm (Fld.Qd (v0_1 ++ [x0])).symm (Fld.Q6g v0_1 x0) (Fld.Qp v0_1) rfl (by omega)), hS 0 true (Fld.Q5 (v0_1 ++ [x0]) 6 rfl), hP 2 (Qv i0 (by omega))] [] (by kernel_rfl) hr
theorem Qsu (p0 : List Fld) (H : Q6h p0) (x0 : Fld) (i0 : Nat) (v0_1 : List Fld) (hx0 : (Qj (List.length p0) p0)[i0]? = some x0) (hi0 : i0 < List.length (Qj (List.length p0) p0)) (_ho0_0 : List.length v0_1 ≤ i0) (hc0 : (decide ((i0 : Int) < ((List.length p0) : Int))) = true) (h0 : (((i0 + 1 : Nat) : Int) == ((List.length p0) : Int)) = false) (h1 : (sEq (List.getD (Qj (List.length p0) p0) (Int.toNat ((i0 + 1 : Nat) : Int)) zF).name x0.name) = true) {r : Rs} (hr : Q7 G (Q4g p0 (i0 + 1) v0_1) r) : Q7 G (Q4g p0 i0 v0_1) r := by
 have hB0 := H.1; have e0 := beq_eq_false_iff_ne.1 h0
 exact Qb (Qb5 p0 i0 v0_1) (y := (Q81 p0 (i0 + 1) v0_1, Q61 p0 (i0 + 1) v0_1)) [hB 0 hc0, hP 1 (Q1g 1 6 (List.length p0) (i0 : Int) i0 (by omega) (by have f1 := (Q1h (List.length p0) p0 rfl); omega) (by have f1 := (Q1h (List.length p0) p0 rfl); omega)), hP 0 (Q2z 1 6 0 false ((Fld.rows (Qj (List.length p0) p0)).flatten) (Fld.rows (Qj (List.length p0) p0)) 6 true i0 0 (i0 * 6) (Fld.cells x0) (.agg [.str x0.name, .int .i64 x0.v.kind, .int .i64 x0.v.n, .str x0.v.s, .sl (Val.rows x0.v.list), .sl (Fld.rows x0.v.fields)]) rfl rfl (Fld.Qg hx0) (Fld.Qp (Qj (List.length p0) p0)) (by decide) rfl), hP 4 (Qv i0 (by omega)), hB 2 h0, hP 3 (Qv i0 (by omega)), hP 0 (Q1g 1 6 (List.length p0) ((i0 + 1 : Nat) : Int) (Int.toNat ((i0 + 1 : Nat) : Int)) rfl (by have f1 := (Q1h (List.length p0) p0 rfl); omega) (by have f1 := (Q1h (List.length p0) p0 rfl); omega)), hP 1 (Q2z 1 6 0 false ((Fld.rows (Qj (List.length p0) p0)).flatten) (Fld.rows (Qj (List.length p0) p0)) 1 false (Int.toNat ((i0 + 1 : Nat) : Int)) 0 ((Int.toNat ((i0 + 1 : Nat) : Int)) * 6) (Fld.cells (List.getD (Qj (List.length p0) p0) (Int.toNat ((i0 + 1 : Nat) : Int)) zF)) (.str (List.getD (Qj (List.length p0) p0) (Int.toNat ((i0 + 1 : Nat) : Int)) zF).name) rfl rfl (Fld.Qg (Qu (Qj (List.length p0) p0) (Int.toNat ((i0 + 1 : Nat) : Int)) zF (by have f1 := (Q1h (List.length p0) p0 rfl); omega))) (Fld.Qp (Qj (List.length p0) p0)) (by decide) rfl), hP 2 (dec (!(sEq (List.getD (Qj (List.length p0) p0) (Int.toNat ((i0 + 1 : Nat) : Int)) zF).name x0.name)) false (by rw [h1]; rfl)), hP 1 (Qv i0 (by omega))] [] (by kernel_rfl) hr
theorem Qtk (p0 : List Fld) (H : Q6h p0) (x0 : Fld) (i0 : Nat) (v0_1 : List Fld) (hx0 : (Qj (List.length p0) p0)[i0]? = some x0) (hi0 : i0 < List.length (Qj (List.length p0) p0)) (ho0_0 : List.length v0_1 ≤ i0) (hc0 : (decide ((i0 : Int) < ((List.length p0) : Int))) = true) (h0 : (((i0 + 1 : Nat) : Int) == ((List.length p0) : Int)) = false) (h1 : (sEq (List.getD (Qj (List.length p0) p0) (Int.toNat ((i0 + 1 : Nat) : Int)) zF).name x0.name) = false) {r : Rs} (hr : Q7 G (Q4g p0 (i0 + 1) (v0_1 ++ [x0])) r) : Q7 G (Q4g p0 i0 v0_1) r := by
 have hB0 := H.1; have e0 := beq_eq_false_iff_ne.1 h0
 exact Qb (Qb5 p0 i0 v0_1) (y := (Q81 p0 (i0 + 1) (v0_1 ++ [x0]), Q61 p0 (i0 + 1) (v0_1 ++ [x0]))) [hB 0 hc0, hP 1 (Q1g 1 6 (List.length p0) (i0 : Int) i0 (by omega) (by have f1 := (Q1h (List.length p0) p0 rfl); omega) (by have f1 := (Q1h (List.length p0) p0 rfl); omega)), hP 0 (Q2z 1 6 0 false ((Fld.rows (Qj (List.length p0) p0)).flatten) (Fld.rows (Qj (List.length p0) p0)) 6 true i0 0 (i0 * 6) (Fld.cells x0) (.agg [.str x0.name, .int .i64 x0.v.kind, .int .i64 x0.v.n, .str x0.v.s, .sl (Val.rows x0.v.list), .sl (Fld.rows x0.v.fields)]) rfl rfl (Fld.Qg hx0) (Fld.Qp (Qj (List.length p0) p0)) (by decide) rfl), hP 4 (Qv i0 (by omega)), hB 2 h0, hP 3 (Qv i0 (by omega)), hP 0 (Q1g 1 6 (List.length p0) ((i0 + 1 : Nat) : Int) (Int.toNat ((i0 + 1 : Nat) : Int)) rfl (by have f1 := (Q1h (List.length p0) p0 rfl); omega) (by have f1 := (Q1h (List.length p0) p0 rfl); omega)), hP 1 (Q2z 1 6 0 false ((Fld.rows (Qj (List.length p0) p0)).flatten) (Fld.rows (Qj (List.length p0) p0)) 1 false (Int.toNat ((i0 + 1 : Nat) : Int)) 0 ((Int.toNat ((i0 + 1 : Nat) : Int)) * 6) (Fld.cells (List.getD (Qj (List.length p0) p0) (Int.toNat ((i0 + 1 : Nat) : Int)) zF)) (.str (List.getD (Qj (List.length p0) p0) (Int.toNat ((i0 + 1 : Nat) : Int)) zF).name) rfl rfl (Fld.Qg (Qu (Qj (List.length p0) p0) (Int.toNat ((i0 + 1 : Nat) : Int)) zF (by have f1 := (Q1h (List.length p0) p0 rfl); omega))) (Fld.Qp (Qj (List.length p0) p0)) (by decide) rfl), hP 2 (dec (!(sEq (List.getD (Qj (List.length p0) p0) (Int.toNat ((i0 + 1 : Nat) : Int)) zF).name x0.name)) true (by rw [h1]; rfl)), hV 5 [(1735, Fld.rows (v0_1 ++ [x0]))] (Q10m 6 1671 1735 6 96 0 0 true (Fld.rows v0_1) (Fld.rows (v0_1 ++ [x0])) (Fld.cells x0) (List.length v0_1) (List.length (v0_1 ++ [x0])) rfl (Fld.Qd v0_1).symm (Fld.Qd (v0_1 ++ [x0])).symm (Fld.Q6g v0_1 x0) (Fld.Qp v0_1) rfl (by omega)), hS 0 true (Fld.Q5 (v0_1 ++ [x0]) 6 rfl), hP 2 (Qv i0 (by omega))] [] (by kernel_rfl) hr
theorem Q83 (p0 : List Fld) (H : Q6h p0) : ∀ (r0 : List Fld) (i0 : Nat) (v0_1 : List Fld), List.drop i0 (Qj (List.length p0) p0) = r0 → List.length v0_1 ≤ i0 → Qb7 p0 (Q4g p0 i0 v0_1) (Q24 p0 r0 i0 v0_1)
 | [], i0, v0_1, hd, ho0_0 => by
  have hc0 : (decide ((i0 : Int) < ((List.length p0) : Int))) = false := by have hL := (Q1h (List.length p0) p0 rfl); have := Q1p hd; simp; omega
  rw [Q24]
  exact Qv8 p0 H i0 v0_1 ho0_0 hc0
 | x0 :: r0, i0, v0_1, hd, ho0_0 => by
  obtain ⟨hx0, hi0, hd'⟩ := Q1d hd
  have hc0 : (decide ((i0 : Int) < ((List.length p0) : Int))) = true := by have hL := (Q1h (List.length p0) p0 rfl); simp; omega
  rw [Q24]
  cases h0 : (((i0 + 1 : Nat) : Int) == ((List.length p0) : Int)) with
  | true =>
   have e0 := eq_of_beq h0
   exact Q5a p0 (fun r hr => Qsm p0 H x0 i0 v0_1 hx0 hi0 ho0_0 hc0 h0 hr) _ (Q83 p0 H r0 (i0 + 1) (v0_1 ++ [x0]) hd' (by first | omega | (simp; omega)))
  | false =>
   have e0 := beq_eq_false_iff_ne.1 h0
   cases h1 : (sEq (List.getD (Qj (List.length p0) p0) (Int.toNat ((i0 + 1 : Nat) : Int)) zF).name x0.name) with
   | true =>
    exact Q5a p0 (fun r hr => Qsu p0 H x0 i0 v0_1 hx0 hi0 ho0_0 hc0 h0 h1 hr) _ (Q83 p0 H r0 (i0 + 1) v0_1 hd' (by first | omega | (simp; omega)))
   | false =>
    exact Q5a p0 (fun r hr => Qtk p0 H x0 i0 v0_1 hx0 hi0 ho0_0 hc0 h0 h1 hr) _ (Q83 p0 H r0 (i0 + 1) (v0_1 ++ [x0]) hd' (by first | omega | (simp; omega)))
def Qfh (p0 : List Fld) : Val :=
 (Val.mk 5 0 (⟨#[]⟩ : ByteArray) [] (Q24 p0 (Qj (List.length p0) p0) 0 []))
def Q17d (p0 : List Fld) : En := .call 27 [.sl (Fld.rows p0)] []
def Q14z (p0 : List Fld) : Rs := .ret (.agg (Val.cells (Qfh p0))) []
def Qt6 (p0 : List Fld) : Prop := (List.length p0 * 96 ≤ 140737488355328) ∧ (((List.length p0) : Int) ≤ 1152921504606846976) ∧ (Q6h p0) ∧ (Qey (Val.mk 5 0 (⟨#[]⟩ : ByteArray) [] (Q24 p0 (Qj (List.length p0) p0) 0 []))) ∧ True
theorem Q109 (p0 : List Fld) (H : Qt6 p0) : Q7 G (Q17d p0) (Q14z p0) := by
 unfold Q14z Qfh
 have hl0 := Q83 p0 (H.2.2.1) (Qj (List.length p0) p0) 0 [] (by simp) (by simp)
 obtain ⟨z0, zo0, hl0⟩ := hl0
 exact Q9 (fn := Ir.K1m) rfl VOK.nil [hQ (Fld.Q5 p0 6 rfl), hQ (Fld.Q5 (Qj (List.length p0) p0) 6 rfl), hS 0 false (Fld.Q5 (Qj (List.length p0) p0) 6 rfl), hS 0 true (Fld.Q5 (Q24 p0 (Qj (List.length p0) p0) 0 []) 6 rfl), hQ (Fld.Qd (Q24 p0 (Qj (List.length p0) p0) 0 [])).symm] [aV [(0, Fld.rows p0)] (Q56 (G := G) (f := 41) (sz := 6) (bytes := 96) rfl (Fld.Qd p0) (Fld.Q5 p0 6 rfl) H.1), aV [(0, Fld.rows (Qj (List.length p0) p0))] (Qy6 (List.length p0) p0 rfl (H.2.1)), aV [(1, Fld.rows (Qj (List.length p0) p0)), (6, Fld.rows (Q24 p0 (Qj (List.length p0) p0) 0 []))] hl0, aN (Q111 (Val.mk 5 0 (⟨#[]⟩ : ByteArray) [] (Q24 p0 (Qj (List.length p0) p0) 0 [])) H.2.2.2.1)] (by kernel_rfl)
end Go.Proofs.Ytnhhddbbppbblaa
end

section
/- The library's stable sort as plain functions on lists, and what it answers: the stably sorted list. Program-free. -/
namespace Go.Pv.Srt
section
variable {α : Type} (z : α) (c : α → α → Int)
def gt (d : List α) (i : Int) : α := d.getD i.toNat z
def sw (d : List α) (i j : Int) : List α := (d.set i.toNat (gt z d j)).set j.toNat (gt z d i)
def ins1 (a : Int) : Nat → List α → Int → List α
  | 0, v, _ => v
  | k + 1, v, j => bif decide (a < j) then (bif decide (c (gt z v j) (gt z v (j - 1)) < 0) then ins1 a k (sw z v j (j - 1)) (j - 1) else v) else v
def ins0 (a b : Int) : Nat → Int → List α → List α
  | 0, _, v => v
  | k + 1, i, v => bif decide (i < b) then ins0 a b k (i + 1) (ins1 z c a (i.toNat + 1) v i) else v
def ins (d : List α) (a b : Int) : List α := ins0 z c a b ((b - (a + 1)).toNat + 1) (a + 1) d
def swr1 (p q n : Int) : Nat → List α → Int → List α
  | 0, v, _ => v
  | k + 1, v, i => bif decide (i < n) then swr1 p q n k (sw z v (p + i) (q + i)) (i + 1) else v
def swr (d : List α) (p q n : Int) : List α := swr1 z p q n ((n - 0).toNat + 1) d 0
def rot1 (m : Int) : Nat → Int → Int → List α → List α × Int
  | 0, i, _, v => (v, i)
  | k + 1, i, j, v => bif i == j then (v, i) else bif decide (j < i) then rot1 m k (i - j) j (swr z v (m - i) m j) else rot1 m k i (j - i) (swr z v (m - i) ((m + j) - i) i)
def rot (d : List α) (a m b : Int) : List α :=
  let r := rot1 z m (((m - a) + (b - m)).toNat + 1) (m - a) (b - m) d
  swr z r.1 (m - r.2) m r.2
theorem Q6w {d A C : List α} {x : α} {i : Int} (hd : d = A ++ x :: C) (hi : i = (A.length : Int)) : gt z d i = x := by
  subst hd hi
  simp [gt]
theorem Qsb {A C : List α} {x y : α} {i : Int} (hi : i = (A.length : Int)) : (A ++ x :: C).set i.toNat y = A ++ y :: C := by
  subst hi
  simp
theorem Q13z {A M C : List α} {x y : α} {i j : Int} (hi : i = (A.length : Int)) (hj : j = (A.length : Int) + 1 + (M.length : Int)) : sw z (A ++ x :: (M ++ y :: C)) i j = A ++ y :: (M ++ x :: C) := by
  have e1 : gt z (A ++ x :: (M ++ y :: C)) i = x := Q6w z rfl hi
  have e2 : gt z (A ++ x :: (M ++ y :: C)) j = y := Q6w z (A := A ++ x :: M) (C := C) (by simp) (by simp; omega)
  unfold sw
  rw [e1, e2, Qsb hi]
  have e3 : A ++ y :: (M ++ y :: C) = (A ++ y :: M) ++ y :: C := by simp
  rw [e3, Qsb (A := A ++ y :: M) (by simp; omega)]
  simp
theorem Qxn {A M C : List α} {x y : α} {i j : Int} (hi : i = (A.length : Int)) (hj : j = (A.length : Int) + 1 + (M.length : Int)) : sw z (A ++ x :: (M ++ y :: C)) j i = A ++ y :: (M ++ x :: C) := by
  have e1 : gt z (A ++ x :: (M ++ y :: C)) i = x := Q6w z rfl hi
  have e2 : gt z (A ++ x :: (M ++ y :: C)) j = y := Q6w z (A := A ++ x :: M) (C := C) (by simp) (by simp; omega)
  unfold sw
  rw [e1, e2]
  have e3 : A ++ x :: (M ++ y :: C) = (A ++ x :: M) ++ y :: C := by simp
  rw [e3, Qsb (A := A ++ x :: M) (by simp; omega)]
  have e4 : (A ++ x :: M) ++ x :: C = A ++ x :: (M ++ x :: C) := by simp
  rw [e4, Qsb hi]
def insR (x : α) : List α → List α
  | [] => [x]
  | s :: t => bif decide (c x s < 0) then s :: insR x t else x :: s :: t
def Q5p (l : List α) : List α := (l.foldl (fun r x => insR c x r) []).reverse
theorem Qlx (a : Int) (A : List α) (x : α) (ha : a = (A.length : Int)) : ∀ (R C : List α) (k : Nat) (j : Int), j = (A.length : Int) + (R.length : Int) → R.length < k → ins1 z c a k (A ++ (R.reverse ++ x :: C)) j = A ++ ((insR c x R).reverse ++ C)
  | _, _, 0, _, _, h => absurd h (Nat.not_lt_zero _)
  | [], C, k + 1, j, hj, _ => by
    rw [ins1, show decide (a < j) = false by simp at hj ⊢; omega]
    simp [insR]
  | s :: t, C, k + 1, j, hj, hk => by
    simp only [List.length_cons] at hj hk
    have e0 : A ++ ((s :: t).reverse ++ x :: C) = (A ++ t.reverse) ++ s :: ([] ++ x :: C) := by simp
    rw [ins1, show decide (a < j) = true by simp; omega, cond_true, e0]
    have e1 : gt z ((A ++ t.reverse) ++ s :: ([] ++ x :: C)) j = x := Q6w z (A := A ++ t.reverse ++ [s]) (C := C) (by simp) (by simp; omega)
    have e2 : gt z ((A ++ t.reverse) ++ s :: ([] ++ x :: C)) (j - 1) = s := Q6w z (A := A ++ t.reverse) rfl (by simp; omega)
    rw [e1, e2, insR]
    cases decide (c x s < 0) with
    | true =>
      rw [cond_true, cond_true, Qxn z (by simp; omega) (by simp; omega)]
      have e3 : (A ++ t.reverse) ++ x :: ([] ++ s :: C) = A ++ (t.reverse ++ x :: (s :: C)) := by simp
      rw [e3, Qlx a A x ha t (s :: C) k (j - 1) (by omega) (by omega)]
      simp
    | false => simp
theorem Qou (a b : Int) (A : List α) (ha : a = (A.length : Int)) : ∀ (M R C : List α) (k : Nat) (i : Int), i = (A.length : Int) + (R.length : Int) → b = i + (M.length : Int) → M.length < k →
    ins0 z c a b k i (A ++ (R.reverse ++ (M ++ C))) = A ++ ((M.foldl (fun r x => insR c x r) R).reverse ++ C)
  | _, _, _, 0, _, _, _, h => absurd h (Nat.not_lt_zero _)
  | [], R, C, k + 1, i, hi, hb, _ => by
    rw [ins0, show decide (i < b) = false by simp at hb ⊢; omega]
    simp
  | x :: M, R, C, k + 1, i, hi, hb, hk => by
    simp only [List.length_cons] at hb hk
    rw [ins0, show decide (i < b) = true by simp; omega, cond_true, List.cons_append, Qlx z c a A x ha R (M ++ C) _ i hi (by omega)]
    have hl : (insR c x R).length = R.length + 1 := by
      clear hi hb hk
      induction R with
      | nil => rfl
      | cons s t ih => rw [insR]; cases decide (c x s < 0) <;> simp [ih]
    rw [Qou a b A ha M (insR c x R) C k (i + 1) (by omega) (by omega) (by omega)]
    rfl
theorem Qrr {d A M C : List α} {a b : Int} (hd : d = A ++ (M ++ C)) (ha : a = (A.length : Int)) (hb : b = a + (M.length : Int)) : ins z c d a b = A ++ (Q5p c M ++ C) := by
  subst hd
  unfold ins Q5p
  cases M with
  | nil =>
    simp only [List.length_nil, Int.ofNat_zero] at hb
    rw [ins0, show decide (a + 1 < b) = false by simp; omega]
    rfl
  | cons x M =>
    simp only [List.length_cons] at hb
    have e : A ++ (x :: M ++ C) = A ++ ([x].reverse ++ (M ++ C)) := by simp
    rw [e, Qou z c a b A ha M [x] C _ _ (by simp; omega) (by omega) (by omega)]
    rfl
theorem Qns (p q n : Int) (C : List α) : ∀ (X Y A M : List α) (k : Nat) (i : Int), X.length = Y.length → p + i = (A.length : Int) → q + i = (A.length : Int) + (X.length : Int) + (M.length : Int) → n = i + (X.length : Int) → X.length < k →
    swr1 z p q n k (A ++ (X ++ (M ++ (Y ++ C)))) i = A ++ (Y ++ (M ++ (X ++ C)))
  | _, _, _, _, 0, _, _, _, _, _, h => absurd h (Nat.not_lt_zero _)
  | [], [], A, M, k + 1, i, _, _, _, hn, _ => by
    rw [swr1, show decide (i < n) = false by simp at hn ⊢; omega]
    rfl
  | [], _ :: _, _, _, _, _, h, _, _, _, _ => by simp at h
  | _ :: _, [], _, _, _, _, h, _, _, _, _ => by simp at h
  | x :: X, y :: Y, A, M, k + 1, i, h, hp, hq, hn, hk => by
    simp only [List.length_cons] at h hq hn hk
    rw [swr1, show decide (i < n) = true by simp; omega, cond_true]
    have e : A ++ (x :: X ++ (M ++ (y :: Y ++ C))) = A ++ x :: ((X ++ M) ++ y :: (Y ++ C)) := by simp
    rw [e, Q13z z hp (by simp; omega)]
    have e2 : A ++ y :: ((X ++ M) ++ x :: (Y ++ C)) = (A ++ [y]) ++ (X ++ ((M ++ [x]) ++ (Y ++ C))) := by simp
    rw [e2, Qns p q n C X Y (A ++ [y]) (M ++ [x]) k (i + 1) (by omega) (by simp; omega) (by simp; omega) (by omega) (by omega)]
    simp
theorem Qk6 {d A X M Y C : List α} {p q n : Int} (hd : d = A ++ (X ++ (M ++ (Y ++ C)))) (h : X.length = Y.length) (hp : p = (A.length : Int)) (hq : q = (A.length : Int) + (X.length : Int) + (M.length : Int)) (hn : n = (X.length : Int)) : swr z d p q n = A ++ (Y ++ (M ++ (X ++ C))) := by
  subst hd
  unfold swr
  exact Qns z p q n C X Y A M _ 0 h (by omega) (by omega) (by omega) (by omega)
theorem Qeb (m : Int) (W : List α) : ∀ (k : Nat) (A U V C : List α) (i j : Int), i = (U.length : Int) → j = (V.length : Int) → 0 < U.length → 0 < V.length → m = (A.length : Int) + (U.length : Int) → U.length + V.length < k → W = A ++ (V ++ (U ++ C)) →
    swr z (rot1 z m k i j (A ++ (U ++ (V ++ C)))).1 (m - (rot1 z m k i j (A ++ (U ++ (V ++ C)))).2) m (rot1 z m k i j (A ++ (U ++ (V ++ C)))).2 = W
  | 0, _, _, _, _, _, _, _, _, _, _, _, h, _ => absurd h (Nat.not_lt_zero _)
  | k + 1, A, U, V, C, i, j, hi, hj, hU, hV, hm, hk, hW => by
    rw [rot1]
    by_cases h1 : i = j
    · rw [show (i == j) = true by simpa using h1]
      simp only [cond_true]
      rw [Qk6 z (A := A) (X := U) (M := []) (Y := V) (C := C) (by simp) (by omega) (by omega) (by simp; omega) (by omega), hW]
      rfl
    · rw [show (i == j) = false by simpa using h1]
      simp only [cond_false]
      by_cases h2 : j < i
      · rw [show decide (j < i) = true by simpa using h2]
        simp only [cond_true]
        have hs : U = U.take V.length ++ U.drop V.length := (List.take_append_drop _ _).symm
        have l1 : (U.take V.length).length = V.length := by simp; omega
        have l2 : (U.drop V.length).length = U.length - V.length := by simp
        rw [Qk6 z (d := A ++ (U ++ (V ++ C))) (A := A) (X := U.take V.length) (M := U.drop V.length) (Y := V) (C := C) (by rw [← List.append_assoc (U.take _), List.take_append_drop]) (by omega) (by omega) (by rw [l1, l2]; omega) (by omega)]
        have e : A ++ (V ++ (U.drop V.length ++ (U.take V.length ++ C))) = (A ++ V) ++ (U.drop V.length ++ (U.take V.length ++ C)) := by simp
        rw [e]
        exact Qeb m W k (A ++ V) (U.drop V.length) (U.take V.length) C (i - j) j (by omega) (by omega) (by omega) (by omega) (by rw [l2]; simp; omega) (by omega) (by rw [hW, ← List.append_assoc (U.take _), List.take_append_drop]; simp)
      · rw [show decide (j < i) = false by simpa using h2]
        simp only [cond_false]
        have l1 : (V.take (V.length - U.length)).length = V.length - U.length := by simp
        have l2 : (V.drop (V.length - U.length)).length = U.length := by simp; omega
        rw [Qk6 z (d := A ++ (U ++ (V ++ C))) (A := A) (X := U) (M := V.take (V.length - U.length)) (Y := V.drop (V.length - U.length)) (C := C) (by rw [← List.append_assoc (V.take _), List.take_append_drop]) (by omega) (by omega) (by rw [l1]; omega) (by omega)]
        exact Qeb m W k A (V.drop (V.length - U.length)) (V.take (V.length - U.length)) (U ++ C) i (j - i) (by omega) (by omega) (by omega) (by omega) (by omega) (by omega) (by rw [hW, ← List.append_assoc (V.take _), List.take_append_drop])
theorem Q117 {d A U V C : List α} {a m b : Int} (hd : d = A ++ (U ++ (V ++ C))) (ha : a = (A.length : Int)) (hm : m = a + (U.length : Int)) (hb : b = m + (V.length : Int)) (hU : 0 < U.length) (hV : 0 < V.length) : rot z d a m b = A ++ (V ++ (U ++ C)) := by
  subst hd
  unfold rot
  exact Qeb z m _ _ A U V C (m - a) (b - m) (by omega) (by omega) hU hV (by omega) (by omega) rfl
end
end Go.Pv.Srt
end

section
/- The library's stable sort: its merging, and that it answers the stably sorted list. Program-free. -/
namespace Go.Pv.Srt
section
variable {α : Type} (z : α) (c : α → α → Int)
structure Tot : Prop where
  asym : ∀ x y, c x y < 0 → ¬ c y x < 0
  tr : ∀ x y w, ¬ c y x < 0 → ¬ c w y < 0 → ¬ c w x < 0
def le (x y : α) : Prop := ¬ c y x < 0
def Up (l : List α) : Prop := l.Pairwise (le c)
def eqv (x y : α) : Bool := decide (¬ c x y < 0) && decide (¬ c y x < 0)
def F (l r : List α) : Prop := l.length = r.length ∧ ∀ x, l.filter (eqv c x) = r.filter (eqv c x)
variable {c}
theorem F.rfl {l : List α} : F c l l := ⟨Eq.refl _, fun _ => Eq.refl _⟩
theorem F.trans {l r s : List α} (h : F c l r) (g : F c r s) : F c l s := ⟨h.1.trans g.1, fun x => (h.2 x).trans (g.2 x)⟩
theorem F.symm {l r : List α} (h : F c l r) : F c r l := ⟨h.1.symm, fun x => (h.2 x).symm⟩
theorem F.app {l r l' r' : List α} (h : F c l r) (g : F c l' r') : F c (l ++ l') (r ++ r') :=
  ⟨by rw [List.length_append, List.length_append, h.1, g.1], fun x => by rw [List.filter_append, List.filter_append, h.2 x, g.2 x]⟩
theorem Tot.refl (T : Tot c) (x : α) : ¬ c x x < 0 := fun h => T.asym x x h h
theorem Qqk (T : Tot c) (x : α) : eqv c x x = true := by simpa [eqv] using T.refl x
theorem F.mem (T : Tot c) {l r : List α} (h : F c l r) {x : α} (hx : x ∈ l) : x ∈ r := by
  have h1 : x ∈ l.filter (eqv c x) := List.mem_filter.2 ⟨hx, Qqk T x⟩
  rw [h.2 x] at h1
  exact (List.mem_filter.1 h1).1
theorem F.swap (T : Tot c) {A B : List α} (h : ∀ a ∈ A, ∀ b ∈ B, c b a < 0) : F c (A ++ B) (B ++ A) := by
  refine ⟨by simp [Nat.add_comm], fun x => ?_⟩
  rw [List.filter_append, List.filter_append]
  by_cases hA : A.filter (eqv c x) = []
  · rw [hA]
    simp
  · have hB : B.filter (eqv c x) = [] := by
      obtain ⟨a, ha⟩ := List.exists_mem_of_ne_nil _ hA
      obtain ⟨ha, hxa⟩ := List.mem_filter.1 ha
      refine List.filter_eq_nil_iff.2 fun b hb hxb => ?_
      simp only [eqv, Bool.and_eq_true, decide_eq_true_eq] at hxa hxb
      exact T.tr a x b hxa.1 hxb.2 (h a ha b hb)
    rw [hB]
    simp
theorem uniq (T : Tot c) : ∀ {l r : List α}, Up c l → Up c r → F c l r → l = r
  | [], [], _, _, _ => rfl
  | [], _ :: _, _, _, h => by simp [F] at h
  | _ :: _, [], _, _, h => by simp [F] at h
  | a :: l, b :: r, hl, hr, h => by
    have hl' := List.pairwise_cons.1 hl
    have hr' := List.pairwise_cons.1 hr
    have h1 : ¬ c b a < 0 := by
      rcases List.mem_cons.1 (h.symm.mem T (x := b) List.mem_cons_self) with e | e
      · subst e
        exact T.refl _
      · exact hl'.1 b e
    have h2 : ¬ c a b < 0 := by
      rcases List.mem_cons.1 (h.mem T (x := a) List.mem_cons_self) with e | e
      · subst e
        exact T.refl _
      · exact hr'.1 a e
    have e1 : eqv c a b = true := by simp only [eqv, Bool.and_eq_true, decide_eq_true_eq]; exact ⟨h2, h1⟩
    have e := h.2 a
    rw [List.filter_cons_of_pos (Qqk T a), List.filter_cons_of_pos e1] at e
    injection e with e _
    subst e
    refine congrArg _ (uniq T hl'.2 hr'.2 ⟨by have := h.1; simpa using this, fun x => ?_⟩)
    have e := h.2 x
    simp only [List.filter_cons] at e
    cases hx : eqv c x a with
    | true => rw [hx] at e; simpa using e
    | false => rw [hx] at e; simpa using e
theorem Qqh {x y : α} : ∀ {R : List α}, y ∈ insR c x R → y = x ∨ y ∈ R
  | [], h => by simpa [insR] using h
  | s :: t, h => by
    rw [insR] at h
    cases hd : decide (c x s < 0) with
    | true =>
      rw [hd, cond_true] at h
      rcases List.mem_cons.1 h with e | e
      · exact Or.inr (by simp [e])
      · rcases Qqh e with e | e
        · exact Or.inl e
        · exact Or.inr (List.mem_cons_of_mem _ e)
    | false =>
      rw [hd, cond_false] at h
      rcases List.mem_cons.1 h with e | e
      · exact Or.inl e
      · exact Or.inr e
theorem Qzi (T : Tot c) (x : α) : ∀ {R : List α}, R.Pairwise (fun a b => le c b a) → (insR c x R).Pairwise (fun a b => le c b a)
  | [], _ => by simp [insR]
  | s :: t, h => by
    have h' := List.pairwise_cons.1 h
    rw [insR]
    by_cases hd : c x s < 0
    · rw [show decide (c x s < 0) = true by simpa using hd, cond_true]
      refine List.pairwise_cons.2 ⟨fun y hy => ?_, Qzi T x h'.2⟩
      rcases Qqh hy with e | e
      · subst e
        exact T.asym _ _ hd
      · exact h'.1 y e
    · rw [show decide (c x s < 0) = false by simpa using hd, cond_false]
      refine List.pairwise_cons.2 ⟨fun y hy => ?_, h⟩
      rcases List.mem_cons.1 hy with e | e
      · subst e
        exact hd
      · exact T.tr y s x (h'.1 y e) hd
theorem Q11q (T : Tot c) (x : α) : ∀ (R : List α), F c (R.reverse ++ [x]) (insR c x R).reverse
  | [] => F.rfl
  | s :: t => by
    rw [insR]
    by_cases hd : c x s < 0
    · rw [show decide (c x s < 0) = true by simpa using hd, cond_true, List.reverse_cons, List.reverse_cons, List.append_assoc]
      have h1 : F c ([s] ++ [x]) ([x] ++ [s]) := F.swap T (by simpa using hd)
      exact (F.rfl.app h1).trans (by rw [← List.append_assoc]; exact (Q11q T x t).app F.rfl)
    · rw [show decide (c x s < 0) = false by simpa using hd, cond_false, List.reverse_cons (a := x)]
      exact F.rfl
theorem Qpp (T : Tot c) : ∀ (M R : List α), R.Pairwise (fun a b => le c b a) → (M.foldl (fun r x => insR c x r) R).Pairwise (fun a b => le c b a) ∧ F c (R.reverse ++ M) (M.foldl (fun r x => insR c x r) R).reverse
  | [], R, h => ⟨h, by simpa using F.rfl⟩
  | x :: M, R, h => by
    obtain ⟨h1, h2⟩ := Qpp T M (insR c x R) (Qzi T x h)
    refine ⟨h1, F.trans ?_ h2⟩
    have e : R.reverse ++ x :: M = (R.reverse ++ [x]) ++ M := by simp
    rw [e]
    exact (Q11q T x R).app F.rfl
theorem Q8k (T : Tot c) (l : List α) : Up c (Q5p c l) := by
  unfold Up Q5p
  rw [List.pairwise_reverse]
  exact (Qpp T l [] List.Pairwise.nil).1
theorem Qe0 (T : Tot c) (l : List α) : F c l (Q5p c l) := (Qpp T l [] List.Pairwise.nil).2
def bs (g : Int → Bool) : Nat → Int → Int → Int
  | 0, i, _ => i
  | k + 1, i, j => bif decide (i < j) then (bif g ((i + j) / 2) then bs g k ((i + j) / 2 + 1) j else bs g k i ((i + j) / 2)) else i
theorem Q9c (g : Int → Bool) : ∀ (k : Nat) (i j : Int), i ≤ j → (j - i).toNat < k → i ≤ bs g k i j ∧ bs g k i j ≤ j ∧ (bs g k i j = i ∨ g (bs g k i j - 1) = true) ∧ (bs g k i j = j ∨ g (bs g k i j) = false)
  | 0, _, _, _, h => absurd h (Nat.not_lt_zero _)
  | k + 1, i, j, h, hk => by
    rw [bs]
    by_cases hij : i < j
    · rw [show decide (i < j) = true by simpa using hij, cond_true]
      cases hg : g ((i + j) / 2) with
      | true =>
        rw [cond_true]
        obtain ⟨h1, h2, h3, h4⟩ := Q9c g k ((i + j) / 2 + 1) j (by omega) (by omega)
        refine ⟨by omega, h2, Or.inr ?_, h4⟩
        rcases h3 with e | e
        · rw [e, show (i + j) / 2 + 1 - 1 = (i + j) / 2 by omega]
          exact hg
        · exact e
      | false =>
        rw [cond_false]
        obtain ⟨h1, h2, h3, h4⟩ := Q9c g k i ((i + j) / 2) (by omega) (by omega)
        refine ⟨h1, by omega, h3, Or.inr ?_⟩
        rcases h4 with e | e
        · rw [e]
          exact hg
        · exact e
    · rw [show decide (i < j) = false by simpa using hij, cond_false]
      exact ⟨Int.le_refl _, h, Or.inl rfl, Or.inl (by omega)⟩
def mv1 : Nat → Int → List α → Int → List α
  | 0, _, v, _ => v
  | k + 1, t, v, i => bif decide (i < t - 1) then mv1 k t (sw z v i (i + 1)) (i + 1) else v
def mv3 : Nat → Int → List α → Int → List α
  | 0, _, v, _ => v
  | k + 1, t, v, i => bif decide (t < i) then mv3 k t (sw z v i (i - 1)) (i - 1) else v
theorem Qqq (x : α) (C : List α) (t : Int) : ∀ (V A : List α) (k : Nat) (i : Int), i = (A.length : Int) → t - 1 = i + (V.length : Int) → V.length < k → mv1 z k t (A ++ x :: (V ++ C)) i = A ++ (V ++ x :: C)
  | _, _, 0, _, _, _, h => absurd h (Nat.not_lt_zero _)
  | [], A, k + 1, i, hi, ht, _ => by
    rw [mv1, show decide (i < t - 1) = false by simp at ht ⊢; omega]
    rfl
  | y :: V, A, k + 1, i, hi, ht, hk => by
    simp only [List.length_cons] at ht hk
    rw [mv1, show decide (i < t - 1) = true by simp; omega, cond_true]
    have e : A ++ x :: (y :: V ++ C) = A ++ x :: ([] ++ y :: (V ++ C)) := by simp
    rw [e, Q13z z hi (by simp; omega)]
    have e2 : A ++ y :: ([] ++ x :: (V ++ C)) = (A ++ [y]) ++ x :: (V ++ C) := by simp
    rw [e2, Qqq x C t V (A ++ [y]) k (i + 1) (by simp; omega) (by omega) (by omega)]
    simp
theorem Qs5 (y : α) (A : List α) (t : Int) (ht : t = (A.length : Int)) : ∀ (R C : List α) (k : Nat) (i : Int), i = (A.length : Int) + (R.length : Int) → R.length < k → mv3 z k t (A ++ (R.reverse ++ y :: C)) i = A ++ y :: (R.reverse ++ C)
  | _, _, 0, _, _, h => absurd h (Nat.not_lt_zero _)
  | [], C, k + 1, i, hi, _ => by
    rw [mv3, show decide (t < i) = false by simp at hi ⊢; omega]
    rfl
  | u :: R, C, k + 1, i, hi, hk => by
    simp only [List.length_cons] at hi hk
    rw [mv3, show decide (t < i) = true by simp; omega, cond_true]
    have e : A ++ ((u :: R).reverse ++ y :: C) = (A ++ R.reverse) ++ u :: ([] ++ y :: C) := by simp
    rw [e, Qxn z (by simp; omega) (by simp; omega)]
    have e2 : (A ++ R.reverse) ++ y :: ([] ++ u :: C) = A ++ (R.reverse ++ y :: (u :: C)) := by simp
    rw [e2, Qs5 y A t ht R (u :: C) k (i - 1) (by omega) (by omega)]
    simp
end
end Go.Pv.Srt
end

section
/- The library's stable sort: symmetric merging and the sort as a whole answer the stably sorted list. Program-free. -/
namespace Go.Pv.Srt
section
variable {α : Type} (z : α) (c : α → α → Int)
def sym2 (rec : List α → Int → Int → Int → List α) (d : List α) (a m b mid st : Int) : List α :=
  let d1 := bif decide (st < m) && decide (m < mid + m - st) then rot z d st m (mid + m - st) else d
  let d2 := bif decide (a < st) && decide (st < mid) then rec d1 a st mid else d1
  bif decide (mid < mid + m - st) && decide (mid + m - st < b) then rec d2 mid (mid + m - st) b else d2
def sg (d : List α) (p s : Int) : Bool := !decide (c (gt z d (p - s)) (gt z d s) < 0)
def sst (d : List α) (a m b : Int) : Int :=
  bif decide ((a + b) / 2 < m) then bs (sg z c d ((a + b) / 2 + m - 1)) (((a + b) / 2 - ((a + b) / 2 + m - b)).toNat + 1) ((a + b) / 2 + m - b) ((a + b) / 2)
  else bs (sg z c d ((a + b) / 2 + m - 1)) ((m - a).toNat + 1) a m
def st1 (d : List α) (a m b : Int) : Int := bs (fun h => decide (c (gt z d h) (gt z d a) < 0)) ((b - m).toNat + 1) m b
def st3 (d : List α) (a m : Int) : Int := bs (fun h => !decide (c (gt z d m) (gt z d h) < 0)) ((m - a).toNat + 1) a m
def sym : Nat → List α → Int → Int → Int → List α
  | 0, d, _, _, _ => d
  | k + 1, d, a, m, b =>
    bif m - a == 1 then mv1 z ((st1 z c d a m b - a).toNat + 1) (st1 z c d a m b) d a
    else bif b - m == 1 then mv3 z ((m - st3 z c d a m).toNat + 1) (st3 z c d a m) d m
    else sym2 z (sym k) d a m b ((a + b) / 2) (sst z c d a m b)
variable {c}
theorem Qf2 (T : Tot c) {y l x : α} (h : le c y l) (g : c l x < 0) : c y x < 0 := by
  by_cases e : c y x < 0
  · exact e
  · exact absurd g (T.tr x y l e h)
theorem Qcr (T : Tot c) {l x w : α} (g : c l x < 0) (h : le c x w) : c l w < 0 := by
  by_cases e : c l w < 0
  · exact e
  · exact absurd g (T.tr x w l h e)
theorem Qj6 (T : Tot c) {V : List α} {l : α} (h : Up c (V ++ [l])) : ∀ y ∈ V ++ [l], le c y l := by
  intro y hy
  rcases List.mem_append.1 hy with e | e
  · exact (List.pairwise_append.1 h).2.2 y e l (by simp)
  · rw [List.mem_singleton.1 e]
    exact T.refl l
theorem Qkv (T : Tot c) {V : List α} {l : α} (h : Up c (l :: V)) : ∀ y ∈ l :: V, le c l y := by
  intro y hy
  rcases List.mem_cons.1 hy with e | e
  · rw [e]
    exact T.refl l
  · exact (List.pairwise_cons.1 h).1 y e
theorem one1 (T : Tot c) {A V C : List α} {x : α} {a m b : Int} (ha : a = (A.length : Int)) (hm : m = a + 1) (hb : b = m + (V.length : Int)) (hV : Up c V) :
    ∃ W, mv1 z ((st1 z c (A ++ x :: (V ++ C)) a m b - a).toNat + 1) (st1 z c (A ++ x :: (V ++ C)) a m b) (A ++ x :: (V ++ C)) a = A ++ (W ++ C) ∧ Up c W ∧ F c ([x] ++ V) W := by
  obtain ⟨h1, h2, h3, h4⟩ := Q9c (fun h => decide (c (gt z (A ++ x :: (V ++ C)) h) (gt z (A ++ x :: (V ++ C)) a) < 0)) ((b - m).toNat + 1) m b (by omega) (by omega)
  change m ≤ st1 z c (A ++ x :: (V ++ C)) a m b at h1
  change st1 z c (A ++ x :: (V ++ C)) a m b ≤ b at h2
  change st1 z c (A ++ x :: (V ++ C)) a m b = m ∨ decide (c (gt z _ (st1 z c (A ++ x :: (V ++ C)) a m b - 1)) _ < 0) = true at h3
  change st1 z c (A ++ x :: (V ++ C)) a m b = b ∨ decide (c (gt z _ (st1 z c (A ++ x :: (V ++ C)) a m b)) _ < 0) = false at h4
  generalize st1 z c (A ++ x :: (V ++ C)) a m b = t at h1 h2 h3 h4
  rw [Q6w z (A := A) (C := V ++ C) (x := x) rfl ha] at h3 h4
  have hV12 : V = V.take (t - m).toNat ++ V.drop (t - m).toNat := (List.take_append_drop _ _).symm
  have l1 : (V.take (t - m).toNat).length = (t - m).toNat := by simp; omega
  generalize V.take (t - m).toNat = V1 at hV12 l1
  generalize V.drop (t - m).toNat = V2 at hV12
  subst hV12
  rw [List.length_append] at hb
  have hu := List.pairwise_append.1 hV
  have k1 : ∀ y ∈ V1, c y x < 0 := by
    rcases List.eq_nil_or_concat V1 with e | ⟨L, l, e⟩
    · subst e
      intro y hy
      cases hy
    · subst e
      simp only [List.concat_eq_append] at *
      rcases h3 with e | e
      · simp at l1
        omega
      · rw [Q6w z (A := A ++ x :: L) (x := l) (C := V2 ++ C) (by simp) (by simp at l1 ⊢; omega)] at e
        exact fun y hy => Qf2 T (Qj6 T hu.1 y hy) (of_decide_eq_true e)
  have k2 : ∀ y ∈ V2, le c x y := by
    cases V2 with
    | nil =>
      intro y hy
      cases hy
    | cons w V2 =>
      rcases h4 with e | e
      · simp at hb
        omega
      · rw [Q6w z (A := A ++ x :: V1) (x := w) (C := V2 ++ C) (by simp) (by simp; omega)] at e
        exact fun y hy => T.tr x w y (of_decide_eq_false e) (Qkv T hu.2.1 y hy)
  refine ⟨V1 ++ x :: V2, ?_, ?_, ?_⟩
  · have e := Qqq z x (V2 ++ C) t V1 A ((t - a).toNat + 1) a ha (by omega) (by omega)
    rw [List.append_assoc, e]
    simp
  · refine List.pairwise_append.2 ⟨hu.1, List.pairwise_cons.2 ⟨k2, hu.2.1⟩, fun y hy w hw => ?_⟩
    rcases List.mem_cons.1 hw with e | e
    · rw [e]
      exact T.asym _ _ (k1 y hy)
    · exact hu.2.2 y hy w e
  · have e : F c ([x] ++ V1) (V1 ++ [x]) := F.swap T (by simpa using k1)
    have e2 := e.app (F.rfl (l := V2))
    simpa using e2
theorem one3 (T : Tot c) {A U C : List α} {y : α} {a m : Int} (ha : a = (A.length : Int)) (hm : m = a + (U.length : Int)) (hU : Up c U) :
    ∃ W, mv3 z ((m - st3 z c (A ++ (U ++ y :: C)) a m).toNat + 1) (st3 z c (A ++ (U ++ y :: C)) a m) (A ++ (U ++ y :: C)) m = A ++ (W ++ C) ∧ Up c W ∧ F c (U ++ [y]) W := by
  obtain ⟨h1, h2, h3, h4⟩ := Q9c (fun h => !decide (c (gt z (A ++ (U ++ y :: C)) m) (gt z (A ++ (U ++ y :: C)) h) < 0)) ((m - a).toNat + 1) a m (by omega) (by omega)
  change a ≤ st3 z c (A ++ (U ++ y :: C)) a m at h1
  change st3 z c (A ++ (U ++ y :: C)) a m ≤ m at h2
  change st3 z c (A ++ (U ++ y :: C)) a m = a ∨ (!decide (c _ (gt z _ (st3 z c (A ++ (U ++ y :: C)) a m - 1)) < 0)) = true at h3
  change st3 z c (A ++ (U ++ y :: C)) a m = m ∨ (!decide (c _ (gt z _ (st3 z c (A ++ (U ++ y :: C)) a m)) < 0)) = false at h4
  generalize st3 z c (A ++ (U ++ y :: C)) a m = t at h1 h2 h3 h4
  rw [Q6w z (A := A ++ U) (C := C) (x := y) (by simp) (by simp; omega)] at h3 h4
  have hU12 : U = U.take (t - a).toNat ++ U.drop (t - a).toNat := (List.take_append_drop _ _).symm
  have l1 : (U.take (t - a).toNat).length = (t - a).toNat := by simp; omega
  generalize U.take (t - a).toNat = U1 at hU12 l1
  generalize U.drop (t - a).toNat = U2 at hU12
  subst hU12
  rw [List.length_append] at hm
  have hu := List.pairwise_append.1 hU
  have k1 : ∀ u ∈ U1, le c u y := by
    rcases List.eq_nil_or_concat U1 with e | ⟨L, l, e⟩
    · subst e
      intro y hy
      cases hy
    · subst e
      simp only [List.concat_eq_append] at *
      rcases h3 with e | e
      · simp at l1
        omega
      · rw [Q6w z (A := A ++ L) (x := l) (C := U2 ++ y :: C) (by simp) (by simp at l1 ⊢; omega)] at e
        exact fun u hu' => T.tr u l y (Qj6 T hu.1 u hu') (by simpa using e)
  have k2 : ∀ u ∈ U2, c y u < 0 := by
    cases U2 with
    | nil =>
      intro y hy
      cases hy
    | cons w U2 =>
      rcases h4 with e | e
      · simp at hm
        omega
      · rw [Q6w z (A := A ++ U1) (x := w) (C := U2 ++ y :: C) (by simp) (by simp; omega)] at e
        exact fun u hu' => Qcr T (by simpa using e) (Qkv T hu.2.1 u hu')
  refine ⟨U1 ++ y :: U2, ?_, ?_, ?_⟩
  · have e := Qs5 z y (A ++ U1) t (by simp; omega) U2.reverse C ((m - t).toNat + 1) m (by simp; omega) (by simp; omega)
    rw [List.reverse_reverse] at e
    have e2 : A ++ (U1 ++ U2 ++ y :: C) = (A ++ U1) ++ (U2 ++ y :: C) := by simp
    rw [e2, e]
    simp
  · refine List.pairwise_append.2 ⟨hu.1, List.pairwise_cons.2 ⟨fun u hu' => T.asym _ _ (k2 u hu'), hu.2.1⟩, fun u hu' w hw => ?_⟩
    rcases List.mem_cons.1 hw with e | e
    · rw [e]
      exact k1 u hu'
    · exact hu.2.2 u hu' w e
  · have e : F c (U2 ++ [y]) ([y] ++ U2) := F.swap T (fun u hu' b hb => by rw [List.mem_singleton.1 hb]; exact k2 u hu')
    have e2 := (F.rfl (l := U1)).app e
    simpa using e2
end
end Go.Pv.Srt
end

section
/- The library's stable sort: merging in general, blocks, the whole. Program-free. -/
namespace Go.Pv.Srt
section
variable {α : Type} (z : α) {c : α → α → Int}
theorem two (T : Tot c) (rec : List α → Int → Int → Int → List α) {A U V C d : List α} {a m b mid st : Int} (hd : d = A ++ (U ++ (V ++ C))) (ha : a = (A.length : Int)) (hm : m = a + (U.length : Int)) (hb : b = m + (V.length : Int)) (hU : Up c U) (hV : Up c V)
    (b1 : a ≤ st) (b2 : st ≤ m) (b3 : st ≤ mid) (b4 : mid + m - st ≤ b) (b5 : a < mid) (b6 : mid < b)
    (g1 : st = a ∨ mid + m - st = b ∨ ¬ c (gt z d (mid + m - st)) (gt z d (st - 1)) < 0)
    (g2 : st = m ∨ st = mid ∨ c (gt z d (mid + m - 1 - st)) (gt z d st) < 0)
    (hrec : ∀ (A U V C : List α) (a' m' b' : Int), a' = (A.length : Int) → m' = a' + (U.length : Int) → b' = m' + (V.length : Int) → 0 < U.length → 0 < V.length → Up c U → Up c V → b' - a' < b - a → ∃ W, rec (A ++ (U ++ (V ++ C))) a' m' b' = A ++ (W ++ C) ∧ Up c W ∧ F c (U ++ V) W) :
    ∃ W, sym2 z rec d a m b mid st = A ++ (W ++ C) ∧ Up c W ∧ F c (U ++ V) W := by
  have hU12 : U = U.take (st - a).toNat ++ U.drop (st - a).toNat := (List.take_append_drop _ _).symm
  have l1 : (U.take (st - a).toNat).length = (st - a).toNat := by simp; omega
  generalize U.take (st - a).toNat = U1 at hU12 l1
  generalize U.drop (st - a).toNat = U2 at hU12
  subst hU12
  have hV12 : V = V.take (mid - st).toNat ++ V.drop (mid - st).toNat := (List.take_append_drop _ _).symm
  have l2 : (V.take (mid - st).toNat).length = (mid - st).toNat := by simp; omega
  generalize V.take (mid - st).toNat = V1 at hV12 l2
  generalize V.drop (mid - st).toNat = V2 at hV12
  subst hV12
  rw [List.length_append] at hm hb
  have hu := List.pairwise_append.1 hU
  have hv := List.pairwise_append.1 hV
  have hd' : d = A ++ (U1 ++ (U2 ++ (V1 ++ (V2 ++ C)))) := by rw [hd]; simp
  clear hd
  have c1 : ∀ x ∈ U1, ∀ y ∈ V2, le c x y := by
    rcases List.eq_nil_or_concat U1 with e | ⟨L, l, e⟩
    · subst e
      intro x hx
      cases hx
    · cases V2 with
      | nil =>
        intro x _ y hy
        cases hy
      | cons w V2 =>
        subst e
        simp only [List.concat_eq_append, List.length_append, List.length_cons, List.length_nil] at *
        rcases g1 with e | e | e
        · omega
        · omega
        · rw [Q6w z (d := d) (i := st - 1) (A := A ++ L) (x := l) (C := U2 ++ (V1 ++ (w :: V2 ++ C))) (by rw [hd']; simp) (by simp; omega),
            Q6w z (d := d) (i := mid + m - st) (A := A ++ (L ++ [l]) ++ U2 ++ V1) (x := w) (C := V2 ++ C) (by rw [hd']; simp) (by simp; omega)] at e
          exact fun x hx y hy => T.tr x w y (T.tr x l w (Qj6 T hu.1 x hx) e) (Qkv T hv.2.1 y hy)
  have c2 : ∀ x ∈ U2, ∀ y ∈ V1, c y x < 0 := by
    rcases List.eq_nil_or_concat V1 with e | ⟨L, l, e⟩
    · subst e
      intro x _ y hy
      cases hy
    · cases U2 with
      | nil =>
        intro x hx
        cases hx
      | cons w U2 =>
        subst e
        simp only [List.concat_eq_append, List.length_append, List.length_cons, List.length_nil] at *
        rcases g2 with e | e | e
        · omega
        · omega
        · rw [Q6w z (d := d) (i := st) (A := A ++ U1) (x := w) (C := U2 ++ ((L ++ [l]) ++ (V2 ++ C))) (by rw [hd']; simp) (by simp; omega),
            Q6w z (d := d) (i := mid + m - 1 - st) (A := A ++ U1 ++ (w :: U2) ++ L) (x := l) (C := V2 ++ C) (by rw [hd']; simp) (by simp; omega)] at e
          exact fun x hx y hy => Qcr T (Qf2 T (Qj6 T hv.1 y hy) e) (Qkv T hu.2.1 x hx)
  unfold sym2
  -- the exchange
  have hd1 : (bif decide (st < m) && decide (m < mid + m - st) then rot z d st m (mid + m - st) else d) = A ++ (U1 ++ (V1 ++ (U2 ++ (V2 ++ C)))) := by
    by_cases h : st < m ∧ m < mid + m - st
    · rw [show (decide (st < m) && decide (m < mid + m - st)) = true by simpa using h, cond_true]
      rw [Q117 z (A := A ++ U1) (U := U2) (V := V1) (C := V2 ++ C) (by rw [hd']; simp) (by simp; omega) (by omega) (by omega) (by omega) (by omega)]
      simp
    · rw [show (decide (st < m) && decide (m < mid + m - st)) = false by rw [Bool.eq_false_iff]; simpa using h, cond_false, hd']
      by_cases h2 : U2.length = 0
      · rw [List.length_eq_zero_iff.1 h2]
        simp
      · have h3 : V1.length = 0 := by omega
        rw [List.length_eq_zero_iff.1 h3]
        simp
  simp only [hd1]
  -- the left
  have hl : ∃ W1, (bif decide (a < st) && decide (st < mid) then rec (A ++ (U1 ++ (V1 ++ (U2 ++ (V2 ++ C))))) a st mid else A ++ (U1 ++ (V1 ++ (U2 ++ (V2 ++ C))))) = A ++ (W1 ++ (U2 ++ (V2 ++ C))) ∧ Up c W1 ∧ F c (U1 ++ V1) W1 := by
    by_cases h : a < st ∧ st < mid
    · rw [show (decide (a < st) && decide (st < mid)) = true by simpa using h, cond_true]
      exact hrec A U1 V1 (U2 ++ (V2 ++ C)) a st mid ha (by omega) (by omega) (by omega) (by omega) hu.1 hv.1 (by omega)
    · rw [show (decide (a < st) && decide (st < mid)) = false by rw [Bool.eq_false_iff]; simpa using h, cond_false]
      refine ⟨U1 ++ V1, by simp, ?_, F.rfl⟩
      by_cases h2 : U1.length = 0
      · rw [List.length_eq_zero_iff.1 h2]
        exact hv.1
      · have h3 : V1.length = 0 := by omega
        rw [List.length_eq_zero_iff.1 h3, List.append_nil]
        exact hu.1
  obtain ⟨W1, e1, u1, f1⟩ := hl
  rw [e1]
  have lw : W1.length = (st - a).toNat + (mid - st).toNat := by have := f1.1; rw [List.length_append] at this; omega
  have hr : ∃ W2, (bif decide (mid < mid + m - st) && decide (mid + m - st < b) then rec (A ++ (W1 ++ (U2 ++ (V2 ++ C)))) mid (mid + m - st) b else A ++ (W1 ++ (U2 ++ (V2 ++ C)))) = A ++ (W1 ++ (W2 ++ C)) ∧ Up c W2 ∧ F c (U2 ++ V2) W2 := by
    by_cases h : mid < mid + m - st ∧ mid + m - st < b
    · rw [show (decide (mid < mid + m - st) && decide (mid + m - st < b)) = true by simpa using h, cond_true]
      obtain ⟨W2, e2, u2, f2⟩ := hrec (A ++ W1) U2 V2 C mid (mid + m - st) b (by simp; omega) (by omega) (by omega) (by omega) (by omega) hu.2.1 hv.2.1 (by omega)
      refine ⟨W2, ?_, u2, f2⟩
      rw [List.append_assoc, List.append_assoc] at e2
      exact e2
    · rw [show (decide (mid < mid + m - st) && decide (mid + m - st < b)) = false by rw [Bool.eq_false_iff]; simpa using h, cond_false]
      refine ⟨U2 ++ V2, by simp, ?_, F.rfl⟩
      by_cases h2 : U2.length = 0
      · rw [List.length_eq_zero_iff.1 h2]
        exact hv.2.1
      · have h3 : V2.length = 0 := by omega
        rw [List.length_eq_zero_iff.1 h3, List.append_nil]
        exact hu.2.1
  obtain ⟨W2, e2, u2, f2⟩ := hr
  refine ⟨W1 ++ W2, by rw [e2]; simp, List.pairwise_append.2 ⟨u1, u2, fun x hx y hy => ?_⟩, ?_⟩
  · rcases List.mem_append.1 (f1.symm.mem T hx) with hx | hx <;> rcases List.mem_append.1 (f2.symm.mem T hy) with hy | hy
    · exact hu.2.2 x hx y hy
    · exact c1 x hx y hy
    · exact T.asym _ _ (c2 y hy x hx)
    · exact hv.2.2 x hx y hy
  · have e : F c (U1 ++ (U2 ++ V1) ++ V2) (U1 ++ (V1 ++ U2) ++ V2) := (F.rfl.app (F.swap T c2)).app F.rfl
    have e' := f1.app f2
    refine F.trans (r := U1 ++ (V1 ++ U2) ++ V2) ?_ (F.trans (r := (U1 ++ V1) ++ (U2 ++ V2)) (by simpa using F.rfl) e')
    simpa using e
theorem Qka (T : Tot c) : ∀ (k : Nat) (A U V C : List α) (a m b : Int), a = (A.length : Int) → m = a + (U.length : Int) → b = m + (V.length : Int) → 0 < U.length → 0 < V.length → Up c U → Up c V → (b - a).toNat < k →
    ∃ W, sym z c k (A ++ (U ++ (V ++ C))) a m b = A ++ (W ++ C) ∧ Up c W ∧ F c (U ++ V) W
  | 0, _, _, _, _, _, _, _, _, _, _, _, _, _, _, h => absurd h (Nat.not_lt_zero _)
  | k + 1, A, U, V, C, a, m, b, ha, hm, hb, lU, lV, hU, hV, hk => by
    rw [sym]
    by_cases h1 : m - a = 1
    · rw [show (m - a == 1) = true by simpa using h1, cond_true]
      obtain ⟨x, rfl⟩ := List.length_eq_one_iff.1 (show U.length = 1 by omega)
      exact one1 z T ha (by omega) hb hV
    · rw [show (m - a == 1) = false by simpa using h1, cond_false]
      by_cases h2 : b - m = 1
      · rw [show (b - m == 1) = true by simpa using h2, cond_true]
        obtain ⟨y, rfl⟩ := List.length_eq_one_iff.1 (show V.length = 1 by omega)
        exact one3 z T ha hm hU
      · rw [show (b - m == 1) = false by simpa using h2, cond_false]
        have hs : a ≤ sst z c (A ++ (U ++ (V ++ C))) a m b ∧ sst z c (A ++ (U ++ (V ++ C))) a m b ≤ m ∧ sst z c (A ++ (U ++ (V ++ C))) a m b ≤ (a + b) / 2 ∧ (a + b) / 2 + m - sst z c (A ++ (U ++ (V ++ C))) a m b ≤ b ∧
            (sst z c (A ++ (U ++ (V ++ C))) a m b = a ∨ (a + b) / 2 + m - sst z c (A ++ (U ++ (V ++ C))) a m b = b ∨ sg z c (A ++ (U ++ (V ++ C))) ((a + b) / 2 + m - 1) (sst z c (A ++ (U ++ (V ++ C))) a m b - 1) = true) ∧
            (sst z c (A ++ (U ++ (V ++ C))) a m b = m ∨ sst z c (A ++ (U ++ (V ++ C))) a m b = (a + b) / 2 ∨ sg z c (A ++ (U ++ (V ++ C))) ((a + b) / 2 + m - 1) (sst z c (A ++ (U ++ (V ++ C))) a m b) = false) := by
          unfold sst
          by_cases h3 : (a + b) / 2 < m
          · rw [show decide ((a + b) / 2 < m) = true by simpa using h3]
            simp only [cond_true]
            obtain ⟨q1, q2, q3, q4⟩ := Q9c (sg z c (A ++ (U ++ (V ++ C))) ((a + b) / 2 + m - 1)) (((a + b) / 2 - ((a + b) / 2 + m - b)).toNat + 1) ((a + b) / 2 + m - b) ((a + b) / 2) (by omega) (by omega)
            refine ⟨by omega, by omega, q2, by omega, ?_, ?_⟩
            · rcases q3 with e | e
              · exact Or.inr (Or.inl (by omega))
              · exact Or.inr (Or.inr e)
            · rcases q4 with e | e
              · exact Or.inr (Or.inl e)
              · exact Or.inr (Or.inr e)
          · rw [show decide ((a + b) / 2 < m) = false by simpa using h3]
            simp only [cond_false]
            obtain ⟨q1, q2, q3, q4⟩ := Q9c (sg z c (A ++ (U ++ (V ++ C))) ((a + b) / 2 + m - 1)) ((m - a).toNat + 1) a m (by omega) (by omega)
            refine ⟨q1, q2, by omega, by omega, ?_, ?_⟩
            · rcases q3 with e | e
              · exact Or.inl e
              · exact Or.inr (Or.inr e)
            · rcases q4 with e | e
              · exact Or.inl e
              · exact Or.inr (Or.inr e)
        generalize sst z c (A ++ (U ++ (V ++ C))) a m b = st at hs
        obtain ⟨s1, s2, s3, s4, s5, s6⟩ := hs
        refine two z T (sym z c k) rfl ha hm hb hU hV s1 s2 s3 s4 (by omega) (by omega) ?_ ?_ (fun A U V C a' m' b' p1 p2 p3 p4 p5 p6 p7 p8 => Qka T k A U V C a' m' b' p1 p2 p3 p4 p5 p6 p7 (by omega))
        · rcases s5 with e | e | e
          · exact Or.inl e
          · exact Or.inr (Or.inl e)
          · refine Or.inr (Or.inr ?_)
            unfold sg at e
            rw [show (a + b) / 2 + m - 1 - (st - 1) = (a + b) / 2 + m - st by omega] at e
            simpa using e
        · rcases s6 with e | e | e
          · exact Or.inl e
          · exact Or.inr (Or.inl e)
          · refine Or.inr (Or.inr ?_)
            unfold sg at e
            simpa using e
end
end Go.Pv.Srt
end

section
/- The library's stable sort: blocks, and the whole: it answers what insertion answers. Program-free. -/
namespace Go.Pv.Srt
section
variable {α : Type} (z : α) (c : α → α → Int)
def stb0 (n : Int) : Nat → List α → Int → Int → List α × Int
  | 0, v, a, _ => (v, a)
  | k + 1, v, a, b => bif decide (b ≤ n) then stb0 n k (ins z c v a b) b (b + 20) else (v, a)
def stb2 (n : Int) : Nat → List α → Int → Int → Int → List α × Int × Int
  | 0, v, a, _, s => (v, s, a)
  | k + 1, v, a, b, s => bif decide (b ≤ n) then stb2 n k (sym z c ((b - a).toNat + 1) v a (a + s) b) b (b + (2 * s)) s else (v, s, a)
def Qel (n : Int) (v : List α) (s : Int) : List α × Int × Int := stb2 z c n ((n + 2 * s - (2 * s)).toNat + 1) v 0 (2 * s) s
def stb1 (n : Int) : Nat → List α → Int → List α
  | 0, v, _ => v
  | k + 1, v, s =>
    bif decide (s < n) then
      bif decide ((Qel z c n v s).2.2 + (Qel z c n v s).2.1 < n) then
        stb1 n k (sym z c ((n - (Qel z c n v s).2.2).toNat + 1) (Qel z c n v s).1 (Qel z c n v s).2.2 ((Qel z c n v s).2.2 + (Qel z c n v s).2.1) n) ((Qel z c n v s).2.1 * 2)
      else stb1 n k (Qel z c n v s).1 ((Qel z c n v s).2.1 * 2)
    else v
def stb (d : List α) (n : Int) : List α :=
  stb1 z c n ((n - 20).toNat + 1) (ins z c (stb0 z c n ((n + 20 - 20).toNat + 1) d 0 20).1 (stb0 z c n ((n + 20 - 20).toNat + 1) d 0 20).2 n) 20
inductive Bl (s : Nat) : List α → Prop
  | last {l : List α} : l.length ≤ s → Up c l → Bl s l
  | cons {l r : List α} : l.length = s → Up c l → Bl s r → Bl s (l ++ r)
inductive Fu (s : Nat) : List α → Prop
  | nil : Fu s []
  | snoc {p l : List α} : Fu s p → l.length = s → Up c l → Fu s (p ++ l)
variable {c}
theorem Fu.bl {s : Nat} {P : List α} (h : Fu c s P) : ∀ {Q : List α}, Bl c s Q → Bl c s (P ++ Q) := by
  induction h with
  | nil => exact fun h => h
  | snoc _ h1 h2 ih =>
    intro Q hQ
    rw [List.append_assoc]
    exact ih (Bl.cons h1 h2 hQ)
theorem Bl.one {s : Nat} {Q : List α} (h : Bl c s Q) (hl : Q.length ≤ s) : Up c Q := by
  cases h with
  | last _ h => exact h
  | cons h1 h2 h3 =>
    rename_i l r
    rw [List.length_append] at hl
    rw [List.length_eq_zero_iff.1 (show r.length = 0 by omega), List.append_nil]
    exact h2
theorem Bl.split {s : Nat} {Q : List α} (h : Bl c s Q) (hl : s < Q.length) : ∃ l r, Q = l ++ r ∧ l.length = s ∧ Up c l ∧ Bl c s r := by
  cases h with
  | last h _ => omega
  | cons h1 h2 h3 => exact ⟨_, _, rfl, h1, h2, h3⟩
theorem Bl.two {s : Nat} {Q : List α} (hs : 0 < s) (h : Bl c s Q) (hl : 2 * s ≤ Q.length) : ∃ l m r, Q = l ++ (m ++ r) ∧ l.length = s ∧ m.length = s ∧ Up c l ∧ Up c m ∧ Bl c s r := by
  obtain ⟨l, r, rfl, h1, h2, h3⟩ := h.split (by omega)
  rw [List.length_append] at hl
  by_cases h4 : s < r.length
  · obtain ⟨m, r, rfl, h5, h6, h7⟩ := h3.split h4
    exact ⟨l, m, r, rfl, h1, h5, h2, h6, h7⟩
  · exact ⟨l, r, [], by simp, h1, by omega, h2, h3.one (by omega), Bl.last (by simp) List.Pairwise.nil⟩
theorem Qo0 (T : Tot c) (n : Int) : ∀ (k : Nat) (P Q : List α) (a b : Int), a = (P.length : Int) → b = a + 20 → n = (P.length : Int) + (Q.length : Int) → Fu c 20 P → (n + 20 - b).toNat < k →
    ∃ P' Q', stb0 z c n k (P ++ Q) a b = (P' ++ Q', (P'.length : Int)) ∧ Fu c 20 P' ∧ Q'.length < 20 ∧ F c (P ++ Q) (P' ++ Q')
  | 0, _, _, _, _, _, _, _, _, h => absurd h (Nat.not_lt_zero _)
  | k + 1, P, Q, a, b, ha, hb, hn, hP, hk => by
    rw [stb0]
    by_cases h : b ≤ n
    · rw [show decide (b ≤ n) = true by simpa using h, cond_true]
      have e : P ++ Q = P ++ (Q.take 20 ++ Q.drop 20) := by rw [List.take_append_drop]
      have l1 : (Q.take 20).length = 20 := by simp; omega
      rw [e, Qrr z c rfl ha (show b = a + ((Q.take 20).length : Int) by omega)]
      have f := Qe0 T (Q.take 20)
      have l2 : (Q5p c (Q.take 20)).length = 20 := by have := f.1; omega
      have l3 : (Q.drop 20).length = Q.length - 20 := by simp
      rw [← List.append_assoc]
      obtain ⟨P', Q', h1, h2, h3, h4⟩ := Qo0 T n k (P ++ Q5p c (Q.take 20)) (Q.drop 20) b (b + 20) (by rw [List.length_append]; omega) rfl (by rw [List.length_append]; omega) (Fu.snoc hP l2 (Q8k T _)) (by omega)
      refine ⟨P', Q', h1, h2, h3, F.trans ?_ h4⟩
      rw [List.append_assoc]
      exact F.rfl.app (f.app F.rfl)
    · rw [show decide (b ≤ n) = false by simpa using h, cond_false]
      exact ⟨P, Q, by rw [ha], hP, by omega, F.rfl⟩
theorem Qno (T : Tot c) (n : Int) (t : Nat) (s : Int) (hs : s = (t : Int)) (ht : 0 < t) : ∀ (k : Nat) (P Q : List α) (a b : Int), a = (P.length : Int) → b = a + 2 * s → n = (P.length : Int) + (Q.length : Int) → Fu c (2 * t) P → Bl c t Q → (n + 2 * s - b).toNat < k →
    ∃ P' Q', stb2 z c n k (P ++ Q) a b s = (P' ++ Q', s, (P'.length : Int)) ∧ Fu c (2 * t) P' ∧ Bl c t Q' ∧ Q'.length < 2 * t ∧ F c (P ++ Q) (P' ++ Q')
  | 0, _, _, _, _, _, _, _, _, _, h => absurd h (Nat.not_lt_zero _)
  | k + 1, P, Q, a, b, ha, hb, hn, hP, hQ, hk => by
    rw [stb2]
    by_cases h : b ≤ n
    · rw [show decide (b ≤ n) = true by simpa using h, cond_true]
      obtain ⟨l, m, r, rfl, h1, h2, h3, h4, h5⟩ := hQ.two ht (by omega)
      simp only [List.length_append] at hn
      obtain ⟨W, e1, e2, e3⟩ := Qka z T ((b - a).toNat + 1) P l m r a (a + s) b ha (by omega) (by omega) (by omega) (by omega) h3 h4 (by omega)
      have lW : W.length = 2 * t := by have := e3.1; rw [List.length_append] at this; omega
      rw [e1, ← List.append_assoc]
      obtain ⟨P', Q', g1, g2, g3, g4, g5⟩ := Qno T n t s hs ht k (P ++ W) r b (b + 2 * s) (by rw [List.length_append]; omega) rfl (by rw [List.length_append]; omega) (Fu.snoc hP lW e2) h5 (by omega)
      refine ⟨P', Q', g1, g2, g3, g4, F.trans ?_ g5⟩
      rw [List.append_assoc, ← List.append_assoc l]
      exact F.rfl.app (e3.app F.rfl)
    · rw [show decide (b ≤ n) = false by simpa using h, cond_false]
      exact ⟨P, Q, by rw [ha], hP, hQ, by omega, F.rfl⟩
theorem Qeh (T : Tot c) (n : Int) : ∀ (k : Nat) (v : List α) (t : Nat) (s : Int), s = (t : Int) → 0 < t → n = (v.length : Int) → Bl c t v → (n - s).toNat < k → Up c (stb1 z c n k v s) ∧ F c v (stb1 z c n k v s)
  | 0, _, _, _, _, _, _, _, h => absurd h (Nat.not_lt_zero _)
  | k + 1, v, t, s, hs, ht, hn, hv, hk => by
    rw [stb1]
    by_cases h : s < n
    · rw [show decide (s < n) = true by simpa using h, cond_true]
      obtain ⟨P, Q, g1, g2, g3, g4, g5⟩ := Qno z T n t s hs ht ((n + 2 * s - (2 * s)).toNat + 1) [] v 0 (2 * s) rfl (by omega) (by simpa using hn) Fu.nil hv (by omega)
      have e : Qel z c n v s = (P ++ Q, s, (P.length : Int)) := g1
      rw [e]
      have hl := g5.1
      simp only [List.nil_append, List.length_append] at hl
      simp only
      by_cases h2 : (P.length : Int) + s < n
      · rw [show decide ((P.length : Int) + s < n) = true by simpa using h2, cond_true]
        obtain ⟨l, r, rfl, h3, h4, h5⟩ := g3.split (by omega)
        rw [List.length_append] at g4 hl
        obtain ⟨W, e1, e2, e3⟩ := Qka z T ((n - (P.length : Int)).toNat + 1) P l r [] (P.length : Int) ((P.length : Int) + s) n rfl (by omega) (by omega) (by omega) (by omega) h4 (h5.one (by omega)) (by omega)
        rw [List.append_nil, List.append_nil] at e1
        rw [e1]
        have lW : W.length ≤ 2 * t := by have := e3.1; rw [List.length_append] at this; omega
        have lW' : (P ++ W).length = v.length := by have := e3.1; rw [List.length_append] at this ⊢; omega
        obtain ⟨q1, q2⟩ := Qeh T n k (P ++ W) (2 * t) (s * 2) (by omega) (by omega) (by omega) (g2.bl (Bl.last lW e2)) (by omega)
        exact ⟨q1, F.trans (F.trans g5 (F.rfl.app e3)) q2⟩
      · rw [show decide ((P.length : Int) + s < n) = false by simpa using h2, cond_false]
        obtain ⟨q1, q2⟩ := Qeh T n k (P ++ Q) (2 * t) (s * 2) (by omega) (by omega) (by rw [List.length_append]; omega) (g2.bl (Bl.last (by omega) (g3.one (by omega)))) (by omega)
        exact ⟨q1, F.trans g5 q2⟩
    · rw [show decide (s < n) = false by simpa using h, cond_false]
      exact ⟨hv.one (by omega), F.rfl⟩
theorem Qwy (T : Tot c) (d : List α) (n : Int) (hn : n = (d.length : Int)) : stb z c d n = Q5p c d := by
  unfold stb
  obtain ⟨P, Q, g1, g2, g3, g4⟩ := Qo0 z T n ((n + 20 - 20).toNat + 1) [] d 0 20 rfl rfl (by simpa using hn) Fu.nil (by omega)
  rw [List.nil_append] at g1 g4
  rw [g1]
  simp only
  have hl := g4.1
  rw [List.length_append] at hl
  have e := Qrr z c (d := P ++ Q) (A := P) (M := Q) (C := []) (a := (P.length : Int)) (b := n) (by simp) rfl (by omega)
  rw [e, List.append_nil]
  have f := Qe0 T Q
  obtain ⟨q1, q2⟩ := Qeh z T n ((n - 20).toNat + 1) (P ++ Q5p c Q) 20 20 rfl (by omega) (by rw [List.length_append, ← f.1]; omega) (g2.bl (Bl.last (by rw [← f.1]; omega) (Q8k T Q))) (by omega)
  exact uniq T q1 (Q8k T d) (F.trans q2.symm (F.trans (F.rfl.app f.symm) (F.trans g4.symm (Qe0 T d))))
end
end Go.Pv.Srt
end

section
/- The printed functions of the library's stable sort are the plain ones (printed by a program). -/
namespace Go.Proofs.Ytnhhddbbppbblaa
open Go.Pv Go.Pv.Srt
abbrev Q1w : Fld := zF
theorem Qgx (n0 : Nat) (a b i : Int) : ∀ (k : Nat) (v : List Fld) (j : Int), Q28 n0 a b i k v j = ins1 Q1w Q26 a k v j
  | 0, _, _ => rfl
  | k + 1, v, j => by
    rw [Q28, ins1, Qgx n0 a b i k]
    rfl
theorem Qgp (n0 : Nat) (a b : Int) : ∀ (k : Nat) (i : Int) (v : List Fld), Q2t n0 a b k i v = ins0 Q1w Q26 a b k i v
  | 0, _, _ => rfl
  | k + 1, i, v => by
    rw [Q2t, ins0, Qgp n0 a b k, Qgx]
theorem Qma (n0 : Nat) (d : List Fld) (a b : Int) : Q18 n0 d a b = ins Q1w Q26 d a b := Qgp n0 a b _ _ _
theorem Qhe (n0 : Nat) (p q n : Int) : ∀ (k : Nat) (v : List Fld) (i : Int), Q2u n0 p q n k v i = swr1 Q1w p q n k v i
  | 0, _, _ => rfl
  | k + 1, v, i => by
    rw [Q2u, swr1, Qhe n0 p q n k]
    rfl
theorem Qew (n0 : Nat) (d : List Fld) (p q n : Int) : Q14 n0 d p q n = swr Q1w d p q n := Qhe n0 p q n _ _ _
theorem Q90 (n0 : Nat) (m : Int) : ∀ (k : Nat) (i j : Int) (v : List Fld), Q1m n0 m k i j v = rot1 Q1w m k i j v
  | 0, _, _, _ => rfl
  | k + 1, i, j, v => by
    rw [Q1m, rot1, Q90 n0 m k, Q90 n0 m k, Qew, Qew]
theorem Qxo (n0 : Nat) (d : List Fld) (a m b : Int) : Q8 n0 d a m b = rot Q1w d a m b := by
  unfold Q8 rot
  rw [Q90, Qew]
theorem Qc8 (n0 : Nat) (d : List Fld) (a m b : Int) : ∀ (k : Nat) (i j : Int), Q2f n0 d a m b k i j = bs (fun h => decide (Q26 (gt Q1w d h) (gt Q1w d a) < 0)) k i j
  | 0, _, _ => rfl
  | k + 1, i, j => by
    rw [Q2f, bs, Qc8 n0 d a m b k, Qc8 n0 d a m b k]
    rfl
theorem Qlc (n0 : Nat) : ∀ (k : Nat) (t : Int) (v : List Fld) (i : Int), Q2v n0 k t v i = mv1 Q1w k t v i
  | 0, _, _, _ => rfl
  | k + 1, t, v, i => by
    rw [Q2v, mv1, Qlc n0 k]
    rfl
theorem Qcv (n0 : Nat) (d : List Fld) (a m : Int) : ∀ (k : Nat) (j i : Int), Q2i n0 d a m k j i = bs (fun h => !decide (Q26 (gt Q1w d m) (gt Q1w d h) < 0)) k i j
  | 0, _, _ => rfl
  | k + 1, j, i => by
    rw [Q2i, bs, Qcv n0 d a m k, Qcv n0 d a m k]
    cases decide (i < j) with
    | false => rfl
    | true =>
      show (bif decide (Q26 (gt Q1w d m) (gt Q1w d ((i + j) / 2)) < 0) then _ else _) = bif !decide (Q26 (gt Q1w d m) (gt Q1w d ((i + j) / 2)) < 0) then _ else _
      cases decide (Q26 (gt Q1w d m) (gt Q1w d ((i + j) / 2)) < 0) <;> rfl
theorem Qn6 (n0 : Nat) : ∀ (k : Nat) (t : Int) (v : List Fld) (i : Int), Q2x n0 k t v i = mv3 Q1w k t v i
  | 0, _, _, _ => rfl
  | k + 1, t, v, i => by
    rw [Q2x, mv3, Qn6 n0 k]
    rfl
theorem Qdr (n0 : Nat) (d : List Fld) (a m b mid n p : Int) : ∀ (k : Nat) (i j : Int), Q0 n0 d a m b k mid n i j p = (mid, n, bs (sg Q1w Q26 d p) k i j)
  | 0, _, _ => rfl
  | k + 1, i, j => by
    rw [Q0, bs, Qdr n0 d a m b mid n p k, Qdr n0 d a m b mid n p k]
    cases decide (i < j) with
    | false => rfl
    | true =>
      show (bif decide (Q26 (gt Q1w d (p - (i + j) / 2)) (gt Q1w d ((i + j) / 2)) < 0) then _ else _) = (mid, n, bif !decide (Q26 (gt Q1w d (p - (i + j) / 2)) (gt Q1w d ((i + j) / 2)) < 0) then _ else _)
      cases decide (Q26 (gt Q1w d (p - (i + j) / 2)) (gt Q1w d ((i + j) / 2)) < 0) <;> rfl
theorem Qei (n0 : Nat) : ∀ (k : Nat) (d : List Fld) (a m b : Int), Q6 k n0 d a m b = sym Q1w Q26 k d a m b
  | 0, _, _, _, _ => rfl
  | k + 1, d, a, m, b => by
    rw [Q6, sym]
    simp only [Qei n0 k, Qc8, Qlc, Qcv, Qn6, Qdr, Qxo]
    cases (m - a == 1) with
    | true => rfl
    | false =>
      cases (b - m == 1) with
      | true => rfl
      | false =>
        simp only [cond_false]
        unfold sst
        cases decide ((a + b) / 2 < m) with
        | true =>
          simp only [cond_true]
          generalize bs (sg Q1w Q26 d ((a + b) / 2 + m - 1)) (((a + b) / 2 - ((a + b) / 2 + m - b)).toNat + 1) ((a + b) / 2 + m - b) ((a + b) / 2) = st
          unfold sym2
          generalize (a + b) / 2 = mid
          cases decide (st < m) <;> cases decide (m < mid + m - st) <;> cases decide (a < st) <;> cases decide (st < mid) <;> cases decide (mid < mid + m - st) <;> cases decide (mid + m - st < b) <;> rfl
        | false =>
          simp only [cond_false]
          generalize bs (sg Q1w Q26 d ((a + b) / 2 + m - 1)) ((m - a).toNat + 1) a m = st
          unfold sym2
          generalize (a + b) / 2 = mid
          cases decide (st < m) <;> cases decide (m < mid + m - st) <;> cases decide (a < st) <;> cases decide (st < mid) <;> cases decide (mid < mid + m - st) <;> cases decide (mid + m - st < b) <;> rfl
theorem Qg9 (n0 : Nat) (n : Int) : ∀ (k : Nat) (v : List Fld) (a b : Int), Q1y n0 n k v a b = stb0 Q1w Q26 n k v a b
  | 0, _, _, _ => rfl
  | k + 1, v, a, b => by
    rw [Q1y, stb0, Qg9 n0 n k, Qma]
theorem Qft (n0 : Nat) (n : Int) : ∀ (k : Nat) (v : List Fld) (a b s : Int), Qc n0 n k v a b s = stb2 Q1w Q26 n k v a b s
  | 0, _, _, _, _ => rfl
  | k + 1, v, a, b, s => by
    rw [Qc, stb2, Qft n0 n k, Qei]
theorem Qit (n0 : Nat) (n : Int) : ∀ (k : Nat) (v : List Fld) (s : Int), Q2p n0 n k v s = stb1 Q1w Q26 n k v s
  | 0, _, _ => rfl
  | k + 1, v, s => by
    rw [Q2p, stb1]
    simp only [Qit n0 n k, Qft, Qei]
    rfl
theorem Qxf (n0 : Nat) (d : List Fld) (n : Int) : Q3b n0 d n = stb Q1w Q26 d n := by
  unfold Q3b stb
  simp only [Qit, Qma, Qg9]
theorem Qtl (T : Tot Q26) (d : List Fld) : Qj d.length d = Q5p Q26 d := by
  unfold Qj
  rw [Qxf, Qwy _ T d _ rfl]
end Go.Proofs.Ytnhhddbbppbblaa
end

section
/- What setting and taking out a field computes (printed by a program). -/
namespace Go.Proofs.Ytnhhddbbppbblaa
open Go.Pv
def Q3u (p0 : Val) (p1 : ByteArray) (p2 : Val) : Val :=
 (Qfh (List.take (Q2g p0 p1).1 (Q2g p0 p1).2 ++ [(Fld.mk p1 p2)]))
def Q16n (p0 : Val) (p1 : ByteArray) (p2 : Val) : En := .call 30 [.agg (Val.cells p0), .str p1, .agg (Val.cells p2)] []
def Q14l (p0 : Val) (p1 : ByteArray) (p2 : Val) : Rs := .ret (.agg (Val.cells (Q3u p0 p1 p2))) []
def Qpz (p0 : Val) (p1 : ByteArray) (p2 : Val) : Prop := (Q10b p0 p1) ∧ ((Q2g p0 p1).1 ≤ List.length (Q2g p0 p1).2) ∧ (((Q2g p0 p1).1 + 1) * 96 ≤ 140737488355328) ∧ (Qt6 (List.take (Q2g p0 p1).1 (Q2g p0 p1).2 ++ [(Fld.mk p1 p2)])) ∧ True
theorem Q12w (p0 : Val) (p1 : ByteArray) (p2 : Val) (H : Qpz p0 p1 p2) : Q7 G (Q16n p0 p1 p2) (Q14l p0 p1 p2) := by
 unfold Q14l Q3u
 exact Q9 (fn := Ir.K1p) rfl VOK.nil [hQ (Fld.Q5 (Q2g p0 p1).2 6 rfl), hV 10 [(640, Fld.rows (List.take (Q2g p0 p1).1 (Q2g p0 p1).2 ++ [(Fld.mk p1 p2)]))] (Q158 320 576 640 6 96 0 true (Fld.rows (Q2g p0 p1).2) (Fld.rows (List.take (Q2g p0 p1).1 (Q2g p0 p1).2 ++ [(Fld.mk p1 p2)])) (Fld.cells (Fld.mk p1 p2)) (Q2g p0 p1).1 (List.length (List.take (Q2g p0 p1).1 (Q2g p0 p1).2 ++ [(Fld.mk p1 p2)])) rfl (by rw [Fld.Qd]; exact (H.2.1)) (Fld.Qd (List.take (Q2g p0 p1).1 (Q2g p0 p1).2 ++ [(Fld.mk p1 p2)])).symm (by rw [Fld.Q6g, Fld.Qjs]) (Fld.Qp (Q2g p0 p1).2) rfl (H.2.2.1)), hS 0 true (Fld.Q5 (List.take (Q2g p0 p1).1 (Q2g p0 p1).2 ++ [(Fld.mk p1 p2)]) 6 rfl), hQ (Fld.Qd (List.take (Q2g p0 p1).1 (Q2g p0 p1).2 ++ [(Fld.mk p1 p2)])).symm] [aV [(0, Fld.rows (Q2g p0 p1).2)] (Q15s p0 p1 H.1), aN (Q109 (List.take (Q2g p0 p1).1 (Q2g p0 p1).2 ++ [(Fld.mk p1 p2)]) H.2.2.2.1)] (by kernel_rfl)
def Qf4 (p0 : Val) (p1 : ByteArray) : Val :=
 bif (p0.kind == 5) then
  (Qfh (Q2g p0 p1).2)
 else
  p0
def Q17j (p0 : Val) (p1 : ByteArray) : En := .call 28 [.agg (Val.cells p0), .str p1] []
def Q14s (p0 : Val) (p1 : ByteArray) : Rs := .ret (.agg (Val.cells (Qf4 p0 p1))) []
def Q10d (p0 : Val) (p1 : ByteArray) : Prop := (Q10b p0 p1) ∧ ((p0.kind == 5) = true → (Q2g p0 p1).1 = List.length (Q2g p0 p1).2) ∧ (Qt6 (Q2g p0 p1).2) ∧ (Qey p0) ∧ True
theorem Q16v (p0 : Val) (p1 : ByteArray) (H : Q10d p0 p1) : Q7 G (Q17j p0 p1) (Q14s p0 p1) := by
 unfold Q14s Qf4
 cases h0 : (p0.kind == 5) with
 | true =>
  exact Q9 (fn := Ir.K1q) rfl VOK.nil [hP 4 (dec (!(p0.kind == 5)) false (by rw [h0]; rfl)), hQ (Fld.Q5 (Q2g p0 p1).2 6 rfl), hQ ((H.2.1 h0).trans (Fld.Qd (Q2g p0 p1).2).symm)] [aV [(0, Fld.rows (Q2g p0 p1).2)] (Q15s p0 p1 H.1), aN (Q109 (Q2g p0 p1).2 H.2.2.1)] (by kernel_rfl)
 | false =>
  exact Q9 (fn := Ir.K1q) rfl VOK.nil [hP 4 (dec (!(p0.kind == 5)) true (by rw [h0]; rfl))] [aN (Q111 p0 H.2.2.2.1)] (by kernel_rfl)
end Go.Proofs.Ytnhhddbbppbblaa
end

section
/- Comparisons that answer -1, 0 or 1; the order of strings. -/
namespace Go.Pv
def R3 (a : Int) : Prop := a = -1 ∨ a = 0 ∨ a = 1
def T3 (a b e : Int) : Prop := (a = 0 → e = b) ∧ (b = 0 → e = a) ∧ (a = b → e = a)
def lx (a b : Int) : Int := if a = 0 then b else a
def icmp (a b : Int) : Int := if a < b then -1 else if b < a then 1 else 0
theorem Q15a (a b : Int) : lx (-a) (-b) = -lx a b := by
  unfold lx
  split <;> split <;> omega
theorem Q17b {a b e a' b' e' : Int} (_ha : R3 a) (_hb : R3 b) (_he : R3 e) (t : T3 a b e) (t' : T3 a' b' e') : T3 (lx a a') (lx b b') (lx e e') := by
  unfold T3 at *
  unfold lx R3 at *
  split <;> split <;> split <;> omega
theorem Qp8 (a b : Int) : R3 (icmp a b) := by
  unfold icmp R3
  split
  · omega
  · split <;> omega
theorem Q106 (a b : Int) : icmp b a = -icmp a b := by
  unfold icmp
  split <;> split <;> first | omega | (split <;> omega) | skip
  all_goals omega
theorem Q13a (a b e : Int) : T3 (icmp a b) (icmp b e) (icmp a e) := by
  unfold T3 icmp
  split <;> split <;> split <;> (try split) <;> (try split) <;> (try split) <;> omega
theorem Qyy {a b : Int} : icmp a b = 0 ↔ a = b := by
  unfold icmp
  constructor
  · intro h
    split at h
    · omega
    · split at h <;> omega
  · intro h
    rw [if_neg (by omega), if_neg (by omega)]
theorem Qp4 : ∀ a b : List UInt8, R3 (cmpL a b)
  | [], [] => Or.inr (Or.inl rfl)
  | [], _ :: _ => Or.inl rfl
  | _ :: _, [] => Or.inr (Or.inr rfl)
  | x :: a, y :: b => by
    rw [cmpL]
    split
    · exact Or.inl rfl
    · split
      · exact Or.inr (Or.inr rfl)
      · exact Qp4 a b
theorem Q51 (x y : UInt8) (a b : List UInt8) : cmpL (x :: a) (y :: b) = lx (icmp (x.toNat : Int) (y.toNat : Int)) (cmpL a b) := by
  rw [cmpL]
  unfold lx icmp
  simp only [UInt8.lt_iff_toNat_lt]
  by_cases h1 : x.toNat < y.toNat
  · rw [if_pos h1, if_pos (show (x.toNat : Int) < (y.toNat : Int) by omega)]
    rfl
  · by_cases h2 : y.toNat < x.toNat
    · rw [if_neg h1, if_pos h2, if_neg (show ¬ (x.toNat : Int) < (y.toNat : Int) by omega), if_pos (show (y.toNat : Int) < (x.toNat : Int) by omega)]
      rfl
    · rw [if_neg h1, if_neg h2, if_neg (show ¬ (x.toNat : Int) < (y.toNat : Int) by omega), if_neg (show ¬ (y.toNat : Int) < (x.toNat : Int) by omega)]
      rfl
theorem Qj7 : ∀ a b : List UInt8, cmpL b a = -cmpL a b
  | [], [] => rfl
  | [], _ :: _ => rfl
  | _ :: _, [] => rfl
  | x :: a, y :: b => by rw [Q51, Q51, Qj7 a b, Q106 (x.toNat : Int) (y.toNat : Int), Q15a]
theorem Qym : ∀ a b d : List UInt8, T3 (cmpL a b) (cmpL b d) (cmpL a d)
  | [], [], [] => by simp [T3, cmpL]
  | [], [], _ :: _ => by simp [T3, cmpL]
  | [], _ :: _, [] => by simp [T3, cmpL]
  | [], _ :: _, _ :: _ => by simp [T3, cmpL]
  | _ :: _, [], [] => by simp [T3, cmpL]
  | _ :: _, [], _ :: _ => by simp [T3, cmpL]
  | x :: a, y :: b, [] => by
    have h := Qp4 (x :: a) (y :: b)
    unfold R3 at h
    unfold T3
    rw [show cmpL (y :: b) [] = 1 from rfl, show cmpL (x :: a) [] = 1 from rfl]
    omega
  | x :: a, y :: b, w :: d => by
    rw [Q51, Q51, Q51]
    exact Q17b (Qp8 _ _) (Qp8 _ _) (Qp8 _ _) (Q13a _ _ _) (Qym a b d)
theorem Qln : ∀ a b : List UInt8, cmpL a b = 0 → a = b
  | [], [], _ => rfl
  | [], _ :: _, h => by simp [cmpL] at h
  | _ :: _, [], h => by simp [cmpL] at h
  | x :: a, y :: b, h => by
    rw [Q51] at h
    unfold lx at h
    split at h
    · rename_i e
      have := Qyy.1 e
      rw [UInt8.toNat_inj.1 (show x.toNat = y.toNat by omega), Qln a b h]
    · omega
theorem Qzk (a : List UInt8) : cmpL a a = 0 := by
  have := Qj7 a a
  omega
theorem Qsa : ∀ a b : List UInt8, Op.bytesLess a b = decide (cmpL a b < 0)
  | [], [] => rfl
  | [], _ :: _ => rfl
  | _ :: _, [] => rfl
  | x :: a, y :: b => by
    have ih := Qsa a b
    rw [Op.bytesLess, cmpL, ih]
    by_cases h : x < y
    · simp [h]
    · by_cases h2 : y < x
      · have h3 : ¬ x = y := fun e => h (e ▸ h2)
        simp [h, h2, h3]
      · have h3 : x = y := by
          rw [UInt8.lt_iff_toNat_lt] at h h2
          exact UInt8.toNat_inj.1 (by omega)
        simp [h3]
theorem Q9n (a b : ByteArray) : R3 (sCmp a b) := Qp4 _ _
theorem Q3x (a b : ByteArray) : sCmp b a = -sCmp a b := Qj7 _ _
theorem Qvu (a b d : ByteArray) : T3 (sCmp a b) (sCmp b d) (sCmp a d) := Qym _ _ _
theorem Qbo {a b : ByteArray} : sCmp a b = 0 ↔ a = b := ⟨fun h => toList_inj (Qln _ _ h), fun h => by rw [h]; exact Qzk _⟩
theorem Qpv (a b : ByteArray) : sLt a b = decide (sCmp a b < 0) := Qsa _ _
theorem Q12k (a b : ByteArray) : sEq a b = decide (sCmp a b = 0) := by
  rw [Q12p]
  simp only [Qbo]
theorem Q138 (a b : ByteArray) : (sLt a b || sEq a b) = !sLt b a := by
  rw [Qpv, Q12k, Qpv, Q3x a b]
  have := Q9n a b
  unfold R3 at this
  rcases this with h | h | h <;> rw [h] <;> rfl
end Go.Pv
end

section
/- Values in plain words: the two comparisons agree and answer 0 for equal values alone. -/
namespace Go.Proofs.Ytnhhddbbppbblaa
open Go.Pv
theorem vind {P : Val → Prop} (h : ∀ v : Val, (∀ x ∈ v.list, P x) → (∀ f ∈ v.fields, P f.v) → P v) : ∀ v, P v := by
  have key : ∀ (k : Nat) (v : Val), SizeOf.sizeOf v < k → P v := by
    intro k
    induction k with
    | zero => intro v hv; exact absurd hv (Nat.not_lt_zero _)
    | succ k ih => intro v hv; exact h v (fun x hx => ih x (by have := szM hx; omega)) (fun f hf => ih f.v (by have := szN hf; omega))
  exact fun v => key _ v (Nat.lt_succ_self _)
theorem Qqd (p q : Val) : ∀ (r : List Val) (i : Nat), p.list.drop i = r → p.list.length = q.list.length → (∀ x ∈ r, ∀ y, s_Ky x y = true ↔ x = y) → (Q4v p q r i = .k0 ↔ q.list.drop i = r)
  | [], i, hd, hl, _ => by
    rw [Q4v]
    have := List.drop_eq_nil_iff.1 hd
    simp [List.drop_eq_nil_iff.2 (hl ▸ this)]
  | x :: r, i, hd, hl, hx => by
    obtain ⟨h1, h2, h3⟩ := Q1d hd
    have hq : i < q.list.length := by omega
    rw [Q4v, List.drop_eq_getElem_cons hq, List.getD_eq_getElem?_getD, List.getElem?_eq_getElem hq, Option.getD_some]
    have ih := Qqd p q r (i + 1) h3 hl fun y hy => hx y (List.mem_cons_of_mem _ hy)
    have k := hx x List.mem_cons_self q.list[i]
    cases e : s_Ky x q.list[i] with
    | true =>
      rw [cond_true, ih]
      have e' := k.1 e
      constructor
      · intro g; rw [g, ← e']
      · intro g; injection g
    | false =>
      rw [cond_false]
      constructor
      · intro g; cases g
      · intro g
        injection g with g1 g2
        rw [k.2 g1.symm] at e
        cases e
theorem Qrv (p q : Val) : ∀ (r : List Fld) (i : Nat), p.fields.drop i = r → p.fields.length = q.fields.length → (∀ x ∈ r, ∀ y, s_Ky x.v y = true ↔ x.v = y) → (Q4m p q r i = .k0 ↔ q.fields.drop i = r)
  | [], i, hd, hl, _ => by
    rw [Q4m]
    have := List.drop_eq_nil_iff.1 hd
    simp [List.drop_eq_nil_iff.2 (hl ▸ this)]
  | x :: r, i, hd, hl, hx => by
    obtain ⟨h1, h2, h3⟩ := Q1d hd
    have hq : i < q.fields.length := by omega
    rw [Q4m, List.drop_eq_getElem_cons hq, List.getD_eq_getElem?_getD, List.getElem?_eq_getElem hq, Option.getD_some]
    have ih := Qrv p q r (i + 1) h3 hl fun y hy => hx y (List.mem_cons_of_mem _ hy)
    have k := hx x List.mem_cons_self q.fields[i].v
    cases en : sEq x.name q.fields[i].name with
    | false =>
      rw [cond_false]
      constructor
      · intro g; cases g
      · intro g
        injection g with g1 g2
        rw [g1] at en
        exact absurd (Q32.2 rfl) (by rw [en]; simp)
    | true =>
      rw [cond_true]
      cases e : s_Ky x.v q.fields[i].v with
      | true =>
        rw [cond_true, ih]
        have e' := k.1 e
        have e1 : x = q.fields[i] := by
          have n := Q32.1 en
          revert e' n
          generalize q.fields[i] = y
          intro a b
          cases x; cases y
          simp only [Fld.name, Fld.v] at a b
          rw [a, b]
        constructor
        · intro g; rw [g, ← e1]
        · intro g; injection g
      | false =>
        rw [cond_false]
        constructor
        · intro g; cases g
        · intro g
          injection g with g1 g2
          rw [k.2 (by rw [g1])] at e
          cases e
theorem Qza : ∀ a b : Val, s_Ky a b = true ↔ a = b := vind fun a h1 h2 b => by
  have b0 := fun hl => Qqd a b a.list 0 rfl hl h1
  have b1 := fun hl => Qrv a b a.fields 0 rfl hl h2
  rw [s_Ky]
  constructor
  · intro h
    cases c1 : a.kind == b.kind with
    | false => rw [c1] at h; cases h
    | true =>
      rw [c1, cond_true] at h
      cases c2 : a.n == b.n with
      | false => rw [c2] at h; cases h
      | true =>
        rw [c2, cond_true] at h
        cases c3 : sEq a.s b.s with
        | false => rw [c3] at h; cases h
        | true =>
          rw [c3, cond_true] at h
          cases c4 : ((a.list.length : Int) == (b.list.length : Int)) with
          | false => rw [c4] at h; cases h
          | true =>
            rw [c4, cond_true] at h
            cases c5 : ((a.fields.length : Int) == (b.fields.length : Int)) with
            | false => rw [c5] at h; cases h
            | true =>
              rw [c5, cond_true] at h
              have e4 := eq_of_beq c4
              have e5 := eq_of_beq c5
              cases l0 : Q4v a b a.list 0 with
              | k1 => rw [l0] at h; cases h
              | k0 =>
                rw [l0] at h
                cases l1 : Q4m a b a.fields 0 with
                | k1 => rw [l1] at h; cases h
                | k0 =>
                  have g0 := (b0 (by omega)).1 l0
                  have g1 := (b1 (by omega)).1 l1
                  rw [List.drop_zero] at g0 g1
                  have q1 := eq_of_beq c1
                  have q2 := eq_of_beq c2
                  have q3 := Q32.1 c3
                  revert q1 q2 q3 g0 g1
                  clear h b0 b1 h1 h2 l0 l1 c1 c2 c3 c4 c5 e4 e5
                  cases a; cases b
                  simp only [Val.kind, Val.n, Val.s, Val.list, Val.fields]
                  intro q1 q2 q3 g0 g1
                  rw [q1, q2, q3, g0, g1]
  · rintro rfl
    rw [(b0 rfl).2 rfl, (b1 rfl).2 rfl, Q32.2 rfl]
    simp
end Go.Proofs.Ytnhhddbbppbblaa
end

section
/- Lists of fields: strictly sorted lists are known by their members; keeping the last field of each name of a sorted list; putting a field into a sorted list. -/
namespace Go.Pv
open Srt
theorem Q47 (a : ByteArray) : sCmp a a = 0 := Qbo.2 rfl
theorem Qj4 {a b d : ByteArray} (h : sCmp a b < 0) (g : sCmp b d < 0) : sCmp a d < 0 := by
  have t := Qvu a b d
  have h1 := Q9n a b
  have h2 := Q9n b d
  unfold R3 at h1 h2
  unfold T3 at t
  omega
theorem Qhw {a b : ByteArray} : sEq a b = false ↔ a ≠ b := by
  cases h : sEq a b with
  | true => simp [Q32.1 h]
  | false => exact ⟨fun _ e => (by rw [Q32.2 e] at h; cases h), fun _ => rfl⟩
theorem Q8v (a b : ByteArray) : sCmp a b < 0 ∨ a = b ∨ sCmp b a < 0 := by
  have h1 := Q9n a b
  have h2 := Q3x a b
  have h3 : sCmp a b = 0 → a = b := Qbo.1
  unfold R3 at h1
  by_cases e : sCmp a b = 0
  · exact .inr (.inl (h3 e))
  · omega
theorem Q6i {α : Type} (f : α → ByteArray) : Tot (fun x y : α => sCmp (f x) (f y)) := by
  refine ⟨fun x y h => ?_, fun x y w h g => ?_⟩
  · rw [Q3x]
    omega
  · have t := Qvu (f w) (f y) (f x)
    have h1 := Q9n (f w) (f y)
    have h2 := Q9n (f y) (f x)
    rw [Q3x] at h
    rw [Q3x] at g
    have h3 := Q3x (f w) (f y)
    have h4 := Q3x (f y) (f x)
    have h5 := Q3x (f y) (f w)
    have h6 := Q3x (f x) (f y)
    unfold R3 at h1 h2
    unfold T3 at t
    omega
abbrev nlt (x y : Fld) : Prop := sCmp x.name y.name < 0
def SS (l : List Fld) : Prop := l.Pairwise nlt
theorem SS.cons {x : Fld} {l : List Fld} : SS (x :: l) ↔ (∀ y ∈ l, nlt x y) ∧ SS l := List.pairwise_cons
theorem SS.nil : SS [] := List.Pairwise.nil
theorem Qp9 (x : Fld) : ¬ nlt x x := by unfold nlt; rw [Q47]; omega
theorem Qrm : ∀ {l r : List Fld}, SS l → SS r → (∀ f, f ∈ l ↔ f ∈ r) → l = r
  | [], [], _, _, _ => rfl
  | [], y :: r, _, _, h => by have := (h y).2 List.mem_cons_self; cases this
  | x :: l, [], _, _, h => by have := (h x).1 List.mem_cons_self; cases this
  | x :: l, y :: r, hl, hr, h => by
    obtain ⟨hx, hl'⟩ := SS.cons.1 hl
    obtain ⟨hy, hr'⟩ := SS.cons.1 hr
    have e : x = y := by
      rcases List.mem_cons.1 ((h x).1 List.mem_cons_self) with e | e
      · exact e
      · rcases List.mem_cons.1 ((h y).2 List.mem_cons_self) with e' | e'
        · exact e'.symm
        · exact absurd (Qj4 (hx y e') (hy x e)) (Qp9 x)
    subst e
    have k1 : ∀ f, f ∈ l → f ∈ r := fun f hf => by
      rcases List.mem_cons.1 ((h f).1 (List.mem_cons_of_mem _ hf)) with e | e
      · subst e; exact absurd (hx _ hf) (Qp9 _)
      · exact e
    have k2 : ∀ f, f ∈ r → f ∈ l := fun f hf => by
      rcases List.mem_cons.1 ((h f).2 (List.mem_cons_of_mem _ hf)) with e | e
      · subst e; exact absurd (hy _ hf) (Qp9 _)
      · exact e
    rw [Qrm hl' hr' fun f => ⟨k1 f, k2 f⟩]
theorem SS.filter {l : List Fld} (h : SS l) (p : Fld → Bool) : SS (l.filter p) := h.sublist List.filter_sublist
theorem SS.inj {l : List Fld} (h : SS l) {x y : Fld} (hx : x ∈ l) (hy : y ∈ l) (e : x.name = y.name) : x = y := by
  induction l with
  | nil => cases hx
  | cons z l ih =>
    obtain ⟨hz, hl⟩ := SS.cons.1 h
    rcases List.mem_cons.1 hx with e1 | hx' <;> rcases List.mem_cons.1 hy with e2 | hy'
    · rw [e1, e2]
    · subst e1; have := hz y hy'; unfold nlt at this; rw [e, Q47] at this; omega
    · subst e2; have := hz x hx'; unfold nlt at this; rw [e, Q47] at this; omega
    · exact ih hl hx' hy'
def lastOf (l : List Fld) (f : Fld) : Prop := (l.filter fun y => decide (y.name = f.name)).getLast? = some f
theorem Q9o (f : Fld) : ¬ lastOf [] f := by simp [lastOf]
theorem Qp3 (l : List Fld) (x f : Fld) : lastOf (l ++ [x]) f ↔ f = x ∨ (lastOf l f ∧ f.name ≠ x.name) := by
  unfold lastOf
  rw [List.filter_append]
  by_cases h : x.name = f.name
  · rw [show ([x].filter fun y => decide (y.name = f.name)) = [x] by simp [h], List.getLast?_append]
    simp [h, eq_comm]
  · rw [show ([x].filter fun y => decide (y.name = f.name)) = [] by simp [h], List.append_nil]
    exact ⟨fun g => .inr ⟨g, fun e => h e.symm⟩, fun g => by
      rcases g with rfl | g
      · exact absurd rfl h
      · exact g.1⟩
theorem Q79 (x f : Fld) (l : List Fld) : lastOf (x :: l) f ↔ lastOf l f ∨ (f = x ∧ ∀ y ∈ l, y.name ≠ x.name) := by
  unfold lastOf
  by_cases h : x.name = f.name
  · rw [List.filter_cons_of_pos (by simpa using h)]
    cases e : l.filter fun y => decide (y.name = f.name) with
    | nil =>
      have := List.filter_eq_nil_iff.1 e
      simp only [List.getLast?_singleton, Option.some.injEq, List.getLast?_nil, reduceCtorEq, false_or]
      exact ⟨fun g => ⟨g.symm, fun y hy => by have := this y hy; rw [h]; simpa using this⟩, fun g => g.1.symm⟩
    | cons a r =>
      rw [List.getLast?_cons_cons]
      refine ⟨.inl, fun g => ?_⟩
      rcases g with g | g
      · exact g
      · have : a ∈ l.filter fun y => decide (y.name = f.name) := by rw [e]; exact List.mem_cons_self
        obtain ⟨h1, h2⟩ := List.mem_filter.1 this
        exact absurd ((of_decide_eq_true h2).trans (by rw [g.1])) (g.2 a h1)
  · rw [List.filter_cons_of_neg (by simpa using h)]
    exact ⟨.inl, fun g => by
      rcases g with g | g
      · exact g
      · exact absurd (by rw [g.1]) h⟩
theorem Qu9 {l : List Fld} {f : Fld} (h : lastOf l f) : f ∈ l := (List.mem_filter.1 (List.mem_of_getLast? h)).1
theorem Qw6 {l : List Fld} (h : SS l) (f : Fld) : lastOf l f ↔ f ∈ l := by
  induction l with
  | nil => exact ⟨fun g => absurd g (Q9o f), fun g => by cases g⟩
  | cons x l ih =>
    obtain ⟨hx, hl⟩ := SS.cons.1 h
    rw [Q79, ih hl, List.mem_cons]
    exact ⟨fun g => g.elim .inr fun g => .inl g.1, fun g => g.elim (fun g => .inr ⟨g, fun y hy e => by have := hx y hy; unfold nlt at this; rw [e, Q47] at this; omega⟩) .inl⟩
def lasts : List Fld → List Fld
  | [] => []
  | [x] => [x]
  | x :: y :: r => bif sEq y.name x.name then lasts (y :: r) else x :: lasts (y :: r)
abbrev cNm (x y : Fld) : Int := sCmp x.name y.name
theorem Qls : ∀ (l : List Fld), Up cNm l → ∀ f, f ∈ lasts l ↔ lastOf l f
  | [], _, f => ⟨fun g => (by cases g), fun g => absurd g (Q9o f)⟩
  | [x], _, f => by
    rw [Q79]
    simp [lasts, Q9o]
  | x :: y :: r, h, f => by
    have h' := List.pairwise_cons.1 h
    have ih := Qls (y :: r) h'.2 f
    rw [lasts, Q79]
    cases e : sEq y.name x.name with
    | true =>
      rw [cond_true, ih]
      exact ⟨.inl, fun g => g.elim id fun g => absurd (Q32.1 e) (g.2 y List.mem_cons_self)⟩
    | false =>
      rw [cond_false, List.mem_cons, ih]
      refine ⟨fun g => g.elim (fun g => .inr ⟨g, fun w hw hn => ?_⟩) .inl, fun g => g.elim .inr fun g => .inl g.1⟩
      have e := Qhw.1 e
      rcases List.mem_cons.1 hw with rfl | hw
      · exact e hn
      · have h1 := (List.pairwise_cons.1 h'.2).1 w hw
        have h2 := h'.1 y List.mem_cons_self
        unfold le cNm at h1 h2
        rw [hn] at h1
        rcases Q8v x.name y.name with g | g | g
        · exact h1 g
        · exact e g.symm
        · exact h2 g
theorem Q63 : ∀ (l : List Fld), (lasts l).Sublist l
  | [] => List.Sublist.slnil
  | [x] => List.Sublist.refl _
  | x :: y :: r => by
    rw [lasts]
    cases sEq y.name x.name with
    | true => exact (Q63 (y :: r)).cons x
    | false => exact (Q63 (y :: r)).cons_cons x
theorem Q10q (l : List Fld) (h : Up cNm l) : SS (lasts l) := by
  induction l with
  | nil => exact SS.nil
  | cons x l ih =>
    cases l with
    | nil => exact SS.cons.2 ⟨fun _ g => (by cases g), SS.nil⟩
    | cons y r =>
      have h' := List.pairwise_cons.1 h
      rw [lasts]
      cases e : sEq y.name x.name with
      | true => exact ih h'.2
      | false =>
        rw [cond_false]
        refine SS.cons.2 ⟨fun w hw => ?_, ih h'.2⟩
        have e := Qhw.1 e
        have h2 := h'.1 y List.mem_cons_self
        unfold le cNm at h2
        have hxy : sCmp x.name y.name < 0 := by
          rcases Q8v x.name y.name with g | g | g
          · exact g
          · exact absurd g.symm e
          · exact absurd g h2
        rcases List.mem_cons.1 ((Q63 _).mem hw) with rfl | hw
        · exact hxy
        · have h1 := (List.pairwise_cons.1 h'.2).1 w hw
          unfold le cNm at h1
          unfold nlt
          rcases Q8v y.name w.name with g | g | g
          · exact Qj4 hxy g
          · rw [← g]; exact hxy
          · exact absurd g h1
theorem Q15k (x y : Fld) : Srt.eqv cNm x y = decide (y.name = x.name) := by
  unfold Srt.eqv cNm
  have h1 : (y.name = x.name) ↔ (¬ sCmp x.name y.name < 0 ∧ ¬ sCmp y.name x.name < 0) := by
    constructor
    · intro e; rw [e, Q47]; omega
    · intro ⟨g1, g2⟩
      rcases Q8v x.name y.name with g | g | g
      · exact absurd g g1
      · exact g.symm
      · exact absurd g g2
  rw [← Bool.decide_and]
  exact decide_eq_decide.2 h1.symm
theorem Q10w {l r : List Fld} (h : F cNm l r) (f : Fld) : lastOf l f ↔ lastOf r f := by
  have := h.2 f
  unfold lastOf
  rw [show (fun y : Fld => decide (y.name = f.name)) = Srt.eqv cNm f from funext fun y => (Q15k f y).symm, this]
def mapOf (l : List Fld) : List Fld := lasts (Q5p cNm l)
theorem Q7r (l : List Fld) : SS (mapOf l) := Q10q _ (Q8k (Q6i Fld.name) l)
theorem Q8t (l : List Fld) (f : Fld) : f ∈ mapOf l ↔ lastOf l f := by
  unfold mapOf
  rw [Qls _ (Q8k (Q6i Fld.name) l)]
  exact (Q10w (Qe0 (Q6i Fld.name) l) f).symm
theorem Q71 {l : List Fld} (h : SS l) : mapOf l = l := Qrm (Q7r l) h fun f => by rw [Q8t, Qw6 h]
theorem Q10s {l r : List Fld} (h : SS r) (g : ∀ f, f ∈ r ↔ lastOf l f) : mapOf l = r := Qrm (Q7r l) h fun f => by rw [Q8t, g]
theorem Qn5 {α : Type} (c : α → α → Int) (T : Tot c) (l : List α) : (Q5p c l).length = l.length := (Qe0 T l).1.symm
theorem Qxm (l : List Fld) : (mapOf l).length ≤ l.length := Nat.le_trans (Q63 _).length_le (Nat.le_of_eq (Qn5 _ (Q6i Fld.name) l))
theorem Qxx {l : List Fld} {f : Fld} (h : f ∈ mapOf l) : f ∈ l := Qu9 ((Q8t l f).1 h)
def insF (x : Fld) : List Fld → List Fld
  | [] => [x]
  | y :: r => if sCmp y.name x.name < 0 then y :: insF x r else if y.name = x.name then x :: r else x :: y :: r
theorem Qar {x : Fld} : ∀ {l : List Fld}, SS l → ∀ f, f ∈ insF x l ↔ f = x ∨ (f ∈ l ∧ f.name ≠ x.name)
  | [], _, f => by simp [insF]
  | y :: r, h, f => by
    obtain ⟨hy, hr⟩ := SS.cons.1 h
    rw [insF]
    split
    · rename_i c
      rw [List.mem_cons, Qar hr, List.mem_cons]
      have : y.name ≠ x.name := fun e => by rw [e, Q47] at c; omega
      exact ⟨fun g => by
        rcases g with g | g | g
        · subst g; exact .inr ⟨.inl rfl, this⟩
        · exact .inl g
        · exact .inr ⟨.inr g.1, g.2⟩, fun g => by
        rcases g with g | ⟨g | g, g'⟩
        · exact .inr (.inl g)
        · exact .inl g
        · exact .inr (.inr ⟨g, g'⟩)⟩
    · rename_i c
      have ge : ∀ w ∈ r, w.name ≠ x.name := fun w hw e => by
        have := hy w hw
        unfold nlt at this
        rw [e] at this
        exact c this
      split
      · rename_i e
        rw [List.mem_cons, List.mem_cons]
        exact ⟨fun g => g.elim .inl fun g => .inr ⟨.inr g, ge f g⟩, fun g => g.elim .inl fun g => g.1.elim (fun g1 => by subst g1; exact absurd e g.2) .inr⟩
      · rename_i e
        rw [List.mem_cons, List.mem_cons]
        exact ⟨fun g => by
          rcases g with g | g | g
          · exact .inl g
          · subst g; exact .inr ⟨.inl rfl, e⟩
          · exact .inr ⟨.inr g, ge f g⟩, fun g => g.elim .inl fun g => .inr g.1⟩
theorem Qjn {x : Fld} : ∀ {l : List Fld}, SS l → SS (insF x l)
  | [], _ => SS.cons.2 ⟨fun _ g => (by cases g), SS.nil⟩
  | y :: r, h => by
    obtain ⟨hy, hr⟩ := SS.cons.1 h
    rw [insF]
    split
    · rename_i c
      exact SS.cons.2 ⟨fun w hw => by
        rcases (Qar hr w).1 hw with g | g
        · rw [g]; exact c
        · exact hy w g.1, Qjn hr⟩
    · rename_i c
      split
      · rename_i e
        exact SS.cons.2 ⟨fun w hw => by have := hy w hw; unfold nlt at this ⊢; rw [← e]; exact this, hr⟩
      · rename_i e
        have g : sCmp x.name y.name < 0 := by
          rcases Q8v x.name y.name with g | g | g
          · exact g
          · exact absurd g.symm e
          · exact absurd g c
        exact SS.cons.2 ⟨fun w hw => by
          rcases List.mem_cons.1 hw with e | hw
          · subst e; exact g
          · exact Qj4 g (hy w hw), h⟩
theorem Qth (l : List Fld) (x : Fld) : mapOf (l ++ [x]) = insF x (mapOf l) :=
  Q10s (Qjn (Q7r l)) fun f => by rw [Qar (Q7r l), Q8t, Qp3]
theorem Qlz : mapOf [] = [] := Q71 SS.nil
end Go.Pv
end

section
/- How many values a value holds; what that bounds. -/
namespace Go.Pv
open Srt
mutual
def tot (v : Val) : Nat := 1 + totV v.list + totF v.fields
termination_by SizeOf.sizeOf v
decreasing_by all_goals first | exact Val.Q1x _ | exact Val.Q15 _
def totV : List Val → Nat
  | [] => 0
  | x :: l => tot x + totV l
termination_by l => SizeOf.sizeOf l
decreasing_by all_goals first | exact Q23 _ _ | exact Q1v _ _
def totF : List Fld → Nat
  | [] => 0
  | x :: l => tot x.v + totF l
termination_by l => SizeOf.sizeOf l
decreasing_by all_goals first | exact Q1k _ _ | exact Q1v _ _
end
theorem Q9z (v : Val) : tot v = 1 + totV v.list + totF v.fields := by rw [tot]
theorem Q48 (v : Val) : 1 ≤ tot v := by rw [Q9z]; omega
theorem Q3e : totF [] = 0 := by rw [totF]
theorem Q1i (x : Fld) (l : List Fld) : totF (x :: l) = tot x.v + totF l := by rw [totF]
theorem Qbv (x : Val) (l : List Val) : totV (x :: l) = tot x + totV l := by rw [totV]
theorem Qaw : ∀ l r : List Fld, totF (l ++ r) = totF l + totF r
  | [], r => by rw [Q3e, List.nil_append]; omega
  | x :: l, r => by rw [List.cons_append, Q1i, Q1i, Qaw l r]; omega
theorem Qkr : ∀ l : List Fld, l.length ≤ totF l
  | [] => Nat.zero_le _
  | x :: l => by have := Qkr l; have := Q48 x.v; rw [Q1i, List.length_cons]; omega
theorem Qrq : ∀ l : List Val, l.length ≤ totV l
  | [] => Nat.zero_le _
  | x :: l => by have := Qrq l; have := Q48 x; rw [Qbv, List.length_cons]; omega
theorem Qrd : ∀ {l : List Fld} {x : Fld}, x ∈ l → tot x.v ≤ totF l
  | y :: l, x, h => by
    rw [Q1i]
    rcases List.mem_cons.1 h with e | h
    · rw [e]; omega
    · have := Qrd h; omega
theorem Qry : ∀ {l : List Val} {x : Val}, x ∈ l → tot x ≤ totV l
  | y :: l, x, h => by
    rw [Qbv]
    rcases List.mem_cons.1 h with e | h
    · rw [e]; omega
    · have := Qry h; omega
theorem Qnm {v : Val} {x : Fld} (h : x ∈ v.fields) : tot x.v < tot v := by have := Qrd h; have := Q9z v; omega
theorem Q100 {v : Val} {x : Val} (h : x ∈ v.list) : tot x < tot v := by have := Qry h; have := Q9z v; omega
theorem Qk8 (v : Val) : totF v.fields < tot v := by rw [Q9z]; omega
theorem Q8d : ∀ {l r : List Fld}, l.Sublist r → totF l ≤ totF r
  | _, _, .slnil => Nat.le_refl _
  | _, _, .cons x h => by have := Q8d h; rw [Q1i]; omega
  | _, _, .cons_cons x h => by have := Q8d h; rw [Q1i, Q1i]; omega
theorem Qpn (B : Nat) : ∀ (k : Nat) (v : Val), SizeOf.sizeOf v < k → tot v ≤ B → Val.Sm B v
  | 0, _, h, _ => absurd h (Nat.not_lt_zero _)
  | k + 1, v, h, hb => by
    have h1 := Qkr v.fields
    have h2 := Qrq v.list
    have h3 := Q9z v
    exact .mk v (by omega) (by omega) (fun x hx => Qpn B k x (by have := szM hx; omega) (by have := Q100 hx; omega)) fun x hx => Qpn B k x.v (by have := szN hx; omega) (by have := Qnm hx; omega)
theorem Qa1 {B : Nat} {v : Val} (h : tot v ≤ B) : Val.Sm B v := Qpn B _ v (Nat.lt_succ_self _) h
theorem Qm1 (c : Fld → Fld → Int) (x : Fld) : ∀ l : List Fld, totF (insR c x l) = tot x.v + totF l
  | [] => by rw [insR, Q1i]
  | y :: l => by
    rw [insR]
    cases decide (c x y < 0) with
    | true => rw [cond_true, Q1i, Q1i, Qm1 c x l]; omega
    | false => rw [cond_false, Q1i]
theorem Qm6 (c : Fld → Fld → Int) : ∀ l r : List Fld, totF (l.foldl (fun r x => insR c x r) r) = totF r + totF l
  | [], r => by rw [List.foldl_nil, Q3e]; omega
  | x :: l, r => by rw [List.foldl_cons, Qm6 c l, Qm1, Q1i]; omega
theorem Qqt : ∀ l : List Fld, totF l.reverse = totF l
  | [] => by rw [List.reverse_nil]
  | x :: l => by rw [List.reverse_cons, Qaw, Qqt l, Q1i, Q1i, Q3e]; omega
theorem Quv (c : Fld → Fld → Int) (l : List Fld) : totF (Q5p c l) = totF l := by
  unfold Q5p
  rw [Qqt, Qm6, Q3e]
  omega
theorem Qhv (l : List Fld) : totF (mapOf l) ≤ totF l := by
  have := Q8d (Q63 (Q5p cNm l))
  rw [Quv] at this
  exact this
theorem Qbr (p : Fld → Bool) (l : List Fld) : totF (l.filter p) ≤ totF l := Q8d List.filter_sublist
theorem Qoh {l : List Fld} {f : Fld} {p : Fld → Bool} (h : f ∈ l) (hp : p f = false) : totF (l.filter p) + tot f.v ≤ totF l := by
  induction l with
  | nil => cases h
  | cons x l ih =>
    rw [Q1i, List.filter_cons]
    rcases List.mem_cons.1 h with e | h
    · subst e
      rw [hp]
      have := Qbr p l
      simp only [Bool.false_eq_true, ↓reduceIte]
      omega
    · have := ih h
      cases p x with
      | true => simp only [↓reduceIte]; rw [Q1i]; omega
      | false => simp only [Bool.false_eq_true, ↓reduceIte]; omega
theorem Qw9 (l : List Fld) (i : Nat) (x : Fld) (h : l[i]? = some x) : totF (l.take (i + 1)) = totF (l.take i) + tot x.v := by
  have hi := (List.getElem?_eq_some_iff.1 h).1
  rw [List.take_add_one, h, Option.toList_some, Qaw, Q1i, Q3e]
  rfl
theorem Qmh (l : List Fld) (i : Nat) : totF (l.take i) ≤ totF l := Q8d (List.take_sublist i l)
theorem Qm2 (k n : Int) (s : ByteArray) (l : List Val) (f : List Fld) : tot (.mk k n s l f) = 1 + totV l + totF f := by rw [Q9z]; rfl
end Go.Pv
end

section
/- Merging, differences and composition of maps, as plain functions; their laws, by what stands at a name. -/
namespace Go.Pv
open Srt
abbrev mp (l : List Fld) : Val := .mk 5 0 ⟨#[]⟩ [] (mapOf l)
abbrev zV : Val := .mk 0 0 ⟨#[]⟩ [] []
def found (v : Val) (n : ByteArray) : Option Fld := bif v.kind == 5 then v.fields.find? (fun f => sEq f.name n) else none
def gotF : Option Fld → Val × Bool
  | some f => (f.v, true)
  | none => (.mk 0 0 ⟨#[]⟩ [] [], false)
def oth (v : Val) (n : ByteArray) : List Fld := bif v.kind == 5 then v.fields.filter (fun f => !sEq f.name n) else []
def atN (v : Val) (n : ByteArray) : Option Val := (found v n).map Fld.v
theorem Qzw (v : Val) (n : ByteArray) : gotF (found v n) = ((atN v n).getD zV, (atN v n).isSome) := by
  unfold atN
  cases found v n <;> rfl
def wi (v : Val) (n : ByteArray) (x : Val) : Val := mp (oth v n ++ [.mk n x])
def wo (v : Val) (n : ByteArray) : Val := bif v.kind == 5 then mp (oth v n) else v
def isMap (v : Val) : Prop := ∃ F, v = .mk 5 0 ⟨#[]⟩ [] F ∧ SS F
theorem isMap.kind {v : Val} (h : isMap v) : v.kind = 5 := by
  obtain ⟨F, rfl, _⟩ := h
  rfl
theorem Qxq {l : List Fld} (h : SS l) (n : ByteArray) (f : Fld) : l.find? (fun y => sEq y.name n) = some f ↔ f ∈ l ∧ f.name = n := by
  constructor
  · intro g
    exact ⟨List.mem_of_find?_eq_some g, Q32.1 (List.find?_some (p := fun y : Fld => sEq y.name n) g)⟩
  · intro ⟨g1, g2⟩
    cases e : l.find? fun y => sEq y.name n with
    | none =>
      have := List.find?_eq_none.1 e f g1
      exact absurd (Q32.2 g2) this
    | some y => rw [h.inj g1 (List.mem_of_find?_eq_some e) (g2.trans (Q32.1 (List.find?_some (p := fun y : Fld => sEq y.name n) e)).symm)]
theorem Qq6 (F : List Fld) (h : SS F) (n : ByteArray) (x : Val) : atN (.mk 5 0 ⟨#[]⟩ [] F) n = some x ↔ Fld.mk n x ∈ F := by
  unfold atN
  rw [show found (.mk 5 0 ⟨#[]⟩ [] F) n = F.find? fun f => sEq f.name n from rfl, Option.map_eq_some_iff]
  constructor
  · intro ⟨f, h1, h2⟩
    obtain ⟨g1, g2⟩ := (Qxq h n f).1 h1
    rw [← g2, ← h2, Fld.eta]
    exact g1
  · intro g
    exact ⟨_, (Qxq h n _).2 ⟨g, rfl⟩, rfl⟩
theorem Qd9 {v : Val} (h : isMap v) (n : ByteArray) (x : Val) : atN v n = some x ↔ Fld.mk n x ∈ v.fields := by
  obtain ⟨F, rfl, hS⟩ := h
  exact Qq6 F hS n x
theorem Qvy {v : Val} (h : v.kind ≠ 5) (n : ByteArray) : atN v n = none := by
  unfold atN found
  rw [show (v.kind == 5) = false by simpa using h]
  rfl
theorem Q128 {v w : Val} (hv : isMap v) (hw : isMap w) (h : ∀ n, atN v n = atN w n) : v = w := by
  obtain ⟨F, rfl, hF⟩ := hv
  obtain ⟨G, rfl, hG⟩ := hw
  rw [Qrm hF hG fun f => by rw [← Fld.eta f, ← Qq6 F hF, ← Qq6 G hG, h]]
theorem Qyd {F : List Fld} (n : ByteArray) (f : Fld) : f ∈ F.filter (fun y => !sEq y.name n) ↔ f ∈ F ∧ f.name ≠ n := by
  rw [List.mem_filter]
  constructor
  · intro g
    exact ⟨g.1, Qhw.1 (by simpa using g.2)⟩
  · intro g
    exact ⟨g.1, by simpa using Qhw.2 g.2⟩
theorem Q13x {F : List Fld} (h : SS F) (n : ByteArray) (x : Val) : wi (.mk 5 0 ⟨#[]⟩ [] F) n x = .mk 5 0 ⟨#[]⟩ [] (insF (.mk n x) (F.filter fun y => !sEq y.name n)) := by
  unfold wi mp
  rw [Qth, show oth (.mk 5 0 ⟨#[]⟩ [] F) n = F.filter (fun y => !sEq y.name n) from rfl, Q71 (h.filter _)]
theorem Q13i {F : List Fld} (h : SS F) (n : ByteArray) : wo (.mk 5 0 ⟨#[]⟩ [] F) n = .mk 5 0 ⟨#[]⟩ [] (F.filter fun y => !sEq y.name n) := by
  show mp (F.filter fun y => !sEq y.name n) = _
  unfold mp
  rw [Q71 (h.filter _)]
theorem Qxz {v : Val} (h : isMap v) (n : ByteArray) (x : Val) : isMap (wi v n x) := by
  obtain ⟨F, rfl, hF⟩ := h
  exact ⟨_, Q13x hF n x, Qjn (hF.filter _)⟩
theorem Q143 {v : Val} (h : isMap v) (n : ByteArray) : isMap (wo v n) := by
  obtain ⟨F, rfl, hF⟩ := h
  exact ⟨_, Q13i hF n, hF.filter _⟩
theorem Q14t (l : List Fld) : isMap (mp l) := ⟨_, rfl, Q7r l⟩
open Classical in
theorem Q12d {v : Val} (h : isMap v) (n : ByteArray) (x : Val) (m : ByteArray) : atN (wi v n x) m = if m = n then some x else atN v m := by
  obtain ⟨F, rfl, hF⟩ := h
  rw [Q13x hF]
  apply Option.ext
  intro y
  rw [Qq6 _ (Qjn (hF.filter _)), Qar (hF.filter _), Qyd]
  have e : (Fld.mk m y = Fld.mk n x) ↔ m = n ∧ y = x := by
    constructor
    · intro g; injection g with g1 g2; exact ⟨g1, g2⟩
    · rintro ⟨rfl, rfl⟩; rfl
  change Fld.mk m y = Fld.mk n x ∨ (Fld.mk m y ∈ F ∧ m ≠ n) ∧ m ≠ n ↔ _
  rw [e]
  split
  · rename_i c
    constructor
    · intro g
      rcases g with g | g
      · rw [g.2]
      · exact absurd c g.2
    · intro g
      injection g with g
      exact .inl ⟨c, g.symm⟩
  · rename_i c
    rw [Qq6 F hF]
    constructor
    · intro g
      rcases g with g | g
      · exact absurd g.1 c
      · exact g.1.1
    · intro g
      exact .inr ⟨⟨g, c⟩, c⟩
open Classical in
theorem Q14x {v : Val} (h : isMap v) (n : ByteArray) (m : ByteArray) : atN (wo v n) m = if m = n then none else atN v m := by
  obtain ⟨F, rfl, hF⟩ := h
  rw [Q13i hF]
  apply Option.ext
  intro y
  rw [Qq6 _ (hF.filter _), Qyd]
  change Fld.mk m y ∈ F ∧ m ≠ n ↔ _
  split
  · rename_i c
    exact ⟨fun g => absurd c g.2, fun g => by cases g⟩
  · rename_i c
    rw [Qq6 F hF]
    exact ⟨fun g => g.1, fun g => ⟨g, c⟩⟩
theorem Q10p (n : ByteArray) : atN (mp []) n = none := by
  unfold mp
  rw [Qlz]
  rfl
def at_ (l : List Fld) (n : ByteArray) : Option Val := (l.find? fun f => sEq f.name n).map Fld.v
theorem at_nil (n : ByteArray) : at_ [] n = none := rfl
theorem Qxg (x : Fld) (l : List Fld) (n : ByteArray) : at_ (x :: l) n = bif sEq x.name n then some x.v else at_ l n := by
  unfold at_
  rw [List.find?_cons]
  cases sEq x.name n <;> rfl
theorem Qli {v : Val} (h : v.kind = 5) (n : ByteArray) : at_ v.fields n = atN v n := by
  unfold at_ atN found
  rw [show (v.kind == 5) = true by simpa using h]
  rfl
theorem Qyb {x : Fld} {l : List Fld} (h : ∀ y ∈ l, nlt x y) : at_ l x.name = none := by
  unfold at_
  rw [Option.map_eq_none_iff, List.find?_eq_none]
  intro y hy g
  have := h y hy
  unfold nlt at this
  rw [Q32.1 g, Q47] at this
  omega
inductive DV : Val → Prop
  | mk (v : Val) (h5 : v.kind = 5 → isMap v) (h6 : v.kind = 5 → ∀ f ∈ v.fields, DV f.v) : DV v
theorem DV.map {v : Val} (h : DV v) (k : v.kind = 5) : isMap v := by
  cases h with
  | mk _ a b => exact a k
theorem DV.sub {v : Val} (h : DV v) (k : v.kind = 5) {f : Fld} (hf : f ∈ v.fields) : DV f.v := by
  cases h with
  | mk _ a b => exact b k f hf
theorem DV.leaf {v : Val} (h : v.kind ≠ 5) : DV v := .mk v (fun k => absurd k h) fun k => absurd k h
theorem DV.zero : DV zV := DV.leaf (show (0 : Int) ≠ 5 by omega)
theorem DV.at {v : Val} (h : DV v) {n : ByteArray} {x : Val} (g : atN v n = some x) : DV x := by
  by_cases k : v.kind = 5
  · exact h.sub k ((Qd9 (h.map k) n x).1 g)
  · rw [Qvy k] at g
    cases g
theorem DV.atD {v : Val} (h : DV v) (n : ByteArray) : DV ((atN v n).getD zV) := by
  cases e : atN v n with
  | none => exact DV.zero
  | some x => exact h.at e
theorem DV.of {v : Val} (h : isMap v) (g : ∀ n x, atN v n = some x → DV x) : DV v :=
  .mk v (fun _ => h) fun _ f hf => g f.name f.v ((Qd9 h f.name f.v).2 (by rw [Fld.eta]; exact hf))
theorem Qkh {P : Val → Prop} (h : ∀ v : Val, (∀ f ∈ v.fields, P f.v) → P v) : ∀ v, P v := by
  have key : ∀ (k : Nat) (v : Val), SizeOf.sizeOf v < k → P v := by
    intro k
    induction k with
    | zero => intro v hv; exact absurd hv (Nat.not_lt_zero _)
    | succ k ih => intro v hv; exact h v fun f hf => ih f.v (by have := szN hf; omega)
  exact fun v => key _ v (Nat.lt_succ_self _)
mutual
def mg (v p : Val) : Val := bif p.kind == 5 then mgL p.fields (bif v.kind == 5 then v else mp []) else p
termination_by SizeOf.sizeOf p
decreasing_by exact Val.Q15 _
def mgL : List Fld → Val → Val
  | [], o => o
  | x :: l, o => mgL l (bif x.v.kind == 0 then wo o x.name else wi o x.name (mg ((atN o x.name).getD zV) x.v))
termination_by l => SizeOf.sizeOf l
decreasing_by all_goals first | exact Q1k _ _ | exact Q1v _ _
end
theorem Qax (x : Fld) (l : List Fld) (o : Val) : mgL (x :: l) o = mgL l (bif x.v.kind == 0 then wo o x.name else wi o x.name (mg ((atN o x.name).getD zV) x.v)) := by rw [mgL]
theorem Qkd (o : Val) : mgL [] o = o := by rw [mgL]
def mgAt (a : Option Val) : Option Val → Option Val
  | none => a
  | some y => bif y.kind == 0 then none else some (mg (a.getD zV) y)
theorem step_map {o : Val} (h : isMap o) (x : Fld) : isMap (bif x.v.kind == 0 then wo o x.name else wi o x.name (mg ((atN o x.name).getD zV) x.v)) := by
  cases x.v.kind == 0 with
  | true => exact Q143 h _
  | false => exact Qxz h _ _
theorem Qz5 : ∀ (l : List Fld) {o : Val}, isMap o → isMap (mgL l o)
  | [], o, h => by rw [Qkd]; exact h
  | x :: l, o, h => by rw [Qax]; exact Qz5 l (step_map h x)
theorem Q12r {o : Val} (h : isMap o) (x : Fld) (n : ByteArray) : atN (bif x.v.kind == 0 then wo o x.name else wi o x.name (mg ((atN o x.name).getD zV) x.v)) n = bif sEq x.name n then mgAt (atN o n) (some x.v) else atN o n := by
  cases c : sEq x.name n with
  | true =>
    have c := Q32.1 c
    unfold mgAt
    simp only [cond_true]
    cases x.v.kind == 0 with
    | true => rw [cond_true, cond_true, Q14x h, if_pos c.symm]
    | false => rw [cond_false, cond_false, Q12d h, if_pos c.symm, c]
  | false =>
    have c := Qhw.1 c
    rw [cond_false]
    cases x.v.kind == 0 with
    | true => rw [cond_true, Q14x h, if_neg (Ne.symm c)]
    | false => rw [cond_false, Q12d h, if_neg (Ne.symm c)]
theorem Q11c : ∀ (l : List Fld) {o : Val}, SS l → isMap o → ∀ n, atN (mgL l o) n = mgAt (atN o n) (at_ l n)
  | [], o, _, _, n => by rw [Qkd, at_nil]; rfl
  | x :: l, o, hl, ho, n => by
    obtain ⟨hx, hl'⟩ := SS.cons.1 hl
    rw [Qax, Q11c l hl' (step_map ho x) n, Q12r ho, Qxg]
    cases c : sEq x.name n with
    | true =>
      rw [cond_true, cond_true, ← Q32.1 c, Qyb hx]
      rfl
    | false => rfl
theorem Qqj {v : Val} (h : DV v) : isMap (bif v.kind == 5 then v else mp []) := by
  cases c : v.kind == 5 with
  | true => exact h.map (by simpa using c)
  | false => exact Q14t []
theorem Q12g (v : Val) (n : ByteArray) : atN (bif v.kind == 5 then v else mp []) n = atN v n := by
  cases c : v.kind == 5 with
  | true => rfl
  | false => rw [cond_false, Q10p, Qvy (by simpa using c)]
theorem Qbj {p : Val} (h : p.kind ≠ 5) (v : Val) : mg v p = p := by rw [mg, show (p.kind == 5) = false by simpa using h, cond_false]
theorem Qzv {v p : Val} (hv : DV v) (k : p.kind = 5) : isMap (mg v p) := by
  rw [mg, show (p.kind == 5) = true by simpa using k, cond_true]
  exact Qz5 _ (Qqj hv)
theorem isMap.ss {v : Val} (h : isMap v) : SS v.fields := by
  obtain ⟨F, rfl, hF⟩ := h
  exact hF
theorem Q107 {v p : Val} (hv : DV v) (hp : DV p) (k : p.kind = 5) (n : ByteArray) : atN (mg v p) n = mgAt (atN v n) (atN p n) := by
  rw [mg, show (p.kind == 5) = true by simpa using k, cond_true, Q11c _ (hp.map k).ss (Qqj hv), Q12g, Qli k]
theorem Q144 : ∀ p : Val, DV p → ∀ v, DV v → DV (mg v p) := Qkh fun p ih hp v hv => by
  by_cases k : p.kind = 5
  · refine DV.of (Qzv hv k) fun n x h => ?_
    rw [Q107 hv hp k] at h
    cases e : atN p n with
    | none => rw [e] at h; exact hv.at h
    | some y =>
      rw [e] at h
      unfold mgAt at h
      simp only at h
      cases c : y.kind == 0 with
      | true => rw [c] at h; cases h
      | false =>
        rw [c, cond_false] at h
        injection h with h
        rw [← h]
        exact ih _ ((Qd9 (hp.map k) n y).1 e) (hp.at e) _ (hv.atD n)
  · rw [Qbj k]
    exact hp
mutual
def cp (p q : Val) : Val := bif q.kind == 5 then (bif p.kind == 5 then cpL p q.fields p else mg zV q) else q
termination_by SizeOf.sizeOf q
decreasing_by exact Val.Q15 _
def cpL (p : Val) : List Fld → Val → Val
  | [], o => o
  | x :: l, o => cpL p l (wi o x.name (match atN p x.name with | none => x.v | some y => cp y x.v))
termination_by l => SizeOf.sizeOf l
decreasing_by all_goals first | exact Q1k _ _ | exact Q1v _ _
end
theorem Qjl (p o : Val) : cpL p [] o = o := by rw [cpL]
theorem Qam (p : Val) (x : Fld) (l : List Fld) (o : Val) : cpL p (x :: l) o = cpL p l (wi o x.name (match atN p x.name with | none => x.v | some y => cp y x.v)) := by rw [cpL]
def cpAt (a : Option Val) : Option Val → Option Val
  | none => a
  | some y => some (match a with | none => y | some z => cp z y)
theorem Qzr (p : Val) : ∀ (l : List Fld) {o : Val}, isMap o → isMap (cpL p l o)
  | [], o, h => by rw [Qjl]; exact h
  | x :: l, o, h => by rw [Qam]; exact Qzr p l (Qxz h _ _)
theorem Q11e (p : Val) (n : ByteArray) : ∀ (l : List Fld) {o : Val}, SS l → isMap o → atN (cpL p l o) n = match at_ l n with | none => atN o n | some y => some (match atN p n with | none => y | some z => cp z y)
  | [], o, _, _ => by rw [Qjl, at_nil]
  | x :: l, o, hl, ho => by
    obtain ⟨hx, hl'⟩ := SS.cons.1 hl
    rw [Qam, Q11e p n l hl' (Qxz ho _ _), Q12d ho, Qxg]
    cases c : sEq x.name n with
    | true =>
      have c := Q32.1 c
      rw [cond_true, ← c, Qyb hx]
      simp only [if_true]
    | false =>
      have c := Qhw.1 c
      rw [cond_false, if_neg (Ne.symm c)]
theorem Qpu {q : Val} (h : q.kind ≠ 5) (p : Val) : cp p q = q := by rw [cp, show (q.kind == 5) = false by simpa using h, cond_false]
theorem Qy7 {p q : Val} (hp : DV p) (kp : p.kind = 5) (k : q.kind = 5) : isMap (cp p q) := by
  rw [cp, show (q.kind == 5) = true by simpa using k, cond_true, show (p.kind == 5) = true by simpa using kp, cond_true]
  exact Qzr p _ (hp.map kp)
theorem Q15c {p q : Val} (hp : DV p) (hq : DV q) (kp : p.kind = 5) (k : q.kind = 5) (n : ByteArray) : atN (cp p q) n = cpAt (atN p n) (atN q n) := by
  rw [cp, show (q.kind == 5) = true by simpa using k, cond_true, show (p.kind == 5) = true by simpa using kp, cond_true, Q11e p n _ (hq.map k).ss (hp.map kp), Qli k]
  cases atN q n <;> rfl
theorem Q162 : ∀ q : Val, DV q → ∀ p, DV p → DV (cp p q) := Qkh fun q ih hq p hp => by
  by_cases k : q.kind = 5
  · by_cases kp : p.kind = 5
    · refine DV.of (Qy7 hp kp k) fun n x h => ?_
      rw [Q15c hp hq kp k] at h
      cases e : atN q n with
      | none => rw [e] at h; exact hp.at h
      | some y =>
        rw [e] at h
        unfold cpAt at h
        simp only [Option.some.injEq] at h
        cases e' : atN p n with
        | none => rw [e'] at h; rw [← h]; exact hq.at e
        | some z => rw [e'] at h; rw [← h]; exact ih _ ((Qd9 (hq.map k) n y).1 e) (hq.at e) _ (hp.at e')
    · rw [cp, show (q.kind == 5) = true by simpa using k, cond_true, show (p.kind == 5) = false by simpa using kp, cond_false]
      exact Q144 q hq _ DV.zero
  · rw [Qpu k]
    exact hq
inductive Cm : Val → Val → Prop
  | mk (p q : Val) (h0 : q.kind = 5 → p.kind = 5) (h1 : q.kind = 5 → ∀ f ∈ q.fields, ∀ y, atN p f.name = some y → Cm y f.v) : Cm p q
theorem Cm.out {p q : Val} (h : Cm p q) : (q.kind = 5 → p.kind = 5) ∧ (q.kind = 5 → ∀ f ∈ q.fields, ∀ y, atN p f.name = some y → Cm y f.v) := by
  cases h with
  | mk _ _ a b => exact ⟨a, b⟩
theorem Q16w : ∀ q : Val, DV q → ∀ p, DV p → Cm p q → ∀ v, DV v → mg (mg v p) q = mg v (cp p q) := Qkh fun q ih hq p hp hc v hv => by
  by_cases k : q.kind = 5
  · have kp := hc.out.1 k
    have hw := Q144 p hp v hv
    have hcp := Q162 q hq p hp
    have kc := (Qy7 hp kp k).kind
    refine Q128 (Qzv hw k) (Qzv hv kc) fun n => ?_
    rw [Q107 hw hq k, Q107 hv hp kp, Q107 hv hcp kc, Q15c hp hq kp k]
    cases e : atN q n with
    | none => rfl
    | some y =>
      have hy := (Qd9 (hq.map k) n y).1 e
      cases e' : atN p n with
      | none => rfl
      | some z =>
        have hz := hp.at e'
        have hyz := hc.out.2 k _ hy z e'
        unfold cpAt mgAt
        simp only
        by_cases ky : y.kind = 5
        · have kz := hyz.out.1 ky
          have kyz : (cp z y).kind = 5 := (Qy7 hz kz ky).kind
          rw [show (y.kind == 0) = false by rw [ky]; rfl, show ((cp z y).kind == 0) = false by rw [kyz]; rfl, show (z.kind == 0) = false by rw [kz]; rfl]
          simp only [cond_false, Option.getD_some]
          have q : mg (mg ((atN v n).getD zV) z) y = mg ((atN v n).getD zV) (cp z y) := ih _ hy (hq.at e) z hz hyz _ (hv.atD n)
          rw [q]
        · rw [Qpu ky]
          cases y.kind == 0 with
          | true => rfl
          | false => rw [cond_false, cond_false, Qbj ky, Qbj ky]
  · rw [Qbj k, Qpu k, Qbj k]
inductive Cl : Val → Prop
  | mk (v : Val) (h0 : v.kind = 5 → ∀ f ∈ v.fields, f.v.kind ≠ 0) (h1 : v.kind = 5 → ∀ f ∈ v.fields, Cl f.v) : Cl v
theorem Cl.out {v : Val} (h : Cl v) : (v.kind = 5 → ∀ f ∈ v.fields, f.v.kind ≠ 0) ∧ (v.kind = 5 → ∀ f ∈ v.fields, Cl f.v) := by
  cases h with
  | mk _ a b => exact ⟨a, b⟩
theorem Cl.leaf {v : Val} (h : v.kind ≠ 5) : Cl v := .mk v (fun k => absurd k h) fun k => absurd k h
theorem Cl.at {v : Val} (hv : DV v) (h : Cl v) {n : ByteArray} {x : Val} (g : atN v n = some x) : x.kind ≠ 0 ∧ Cl x := by
  by_cases k : v.kind = 5
  · have m := (Qd9 (hv.map k) n x).1 g
    exact ⟨h.out.1 k _ m, h.out.2 k _ m⟩
  · rw [Qvy k] at g
    cases g
theorem Cl.of {v : Val} (h : isMap v) (g : ∀ n x, atN v n = some x → x.kind ≠ 0 ∧ Cl x) : Cl v :=
  have k := fun f (hf : f ∈ v.fields) => g f.name f.v ((Qd9 h f.name f.v).2 (by rw [Fld.eta]; exact hf))
  .mk v (fun _ f hf => (k f hf).1) fun _ f hf => (k f hf).2
end Go.Pv
end

section
/- Fields in plain words: a copy is the value, taking out is filtering, a map keeps the last field of each name; the two programs agree. -/
namespace Go.Proofs.Ytnhhddbbppbblaa
open Go.Pv Go.Pv.Srt
theorem Q93 (p : List Fld) : (Q5p cNm p).length = p.length := Qn5 _ (Q6i Fld.name) p
theorem Q130 : ∀ v : Val, s_Kj v = v := vind fun v h1 h2 => by
  have e1 : ∀ (l : List Val), (∀ x ∈ l, s_Kj x = x) → ∀ (i : Nat) (a : List Val), Q2d v l i a = a ++ l := by
    intro l
    induction l with
    | nil => intro _ i a; rw [Q2d]; simp
    | cons x l ih => intro hx i a; rw [Q2d, ih (fun y hy => hx y (List.mem_cons_of_mem _ hy)), hx x List.mem_cons_self]; simp
  have e2 : ∀ (l : List Fld), (∀ x ∈ l, s_Kj x.v = x.v) → ∀ (i : Nat) (a : List Fld), Q49 v l i a = a ++ l := by
    intro l
    induction l with
    | nil => intro _ i a; rw [Q49]; simp
    | cons x l ih => intro hx i a; rw [Q49, ih (fun y hy => hx y (List.mem_cons_of_mem _ hy)), hx x List.mem_cons_self, Fld.eta]; simp
  rw [s_Kj, e1 _ h1, e2 _ h2, List.nil_append, List.nil_append, Val.eta]
theorem vget (v : Val) (n : ByteArray) : Q2l v n = gotF (found v n) := by
  unfold Q2l found
  cases v.kind == 5 with
  | false => rfl
  | true =>
    simp only [cond_true]
    have : ∀ (l : List Fld) (i : Nat), (match Q4k v n l i with | .k0 => (Val.mk 0 0 ⟨#[]⟩ [] [], false) | .k1 y => (y, true)) = gotF (l.find? fun f => sEq f.name n) := by
      intro l
      induction l with
      | nil => intro i; rfl
      | cons x l ih =>
        intro i
        rw [Q4k, List.find?_cons]
        cases sEq x.name n with
        | true => rfl
        | false => exact ih (i + 1)
    exact this _ _
theorem rget (v : Val) (n : ByteArray) : s_Kl v n = gotF (found v n) := by
  unfold s_Kl found
  cases v.kind == 5 with
  | false => rfl
  | true =>
    simp only [cond_true]
    have : ∀ (l : List Fld) (i : Nat), (match Q5w v n l i with | .k0 => (Val.mk 0 0 ⟨#[]⟩ [] [], false) | .k1 y => (y, true)) = gotF (l.find? fun f => sEq f.name n) := by
      intro l
      induction l with
      | nil => intro i; rfl
      | cons x l ih =>
        intro i
        rw [Q5w, List.find?_cons]
        cases sEq x.name n with
        | true => simp only [cond_true, Q130]; rfl
        | false => exact ih (i + 1)
    exact this _ _
theorem Qqv (p : List Fld) (o : ByteArray) : ∀ (l : List Fld) (i : Nat), match Q2n p o l i with
    | .k0 => ∀ x ∈ l, Q3l x o = false
    | .k1 q => ∃ A x C, l = A ++ x :: C ∧ (∀ y ∈ A, Q3l y o = false) ∧ Q3l x o = true ∧ q = (i : Int) + (A.length : Int)
  | [], i => fun _ h => by cases h
  | x :: l, i => by
    rw [Q2n]
    have ih := Qqv p o l (i + 1)
    cases h : Q3l x o with
    | true => exact ⟨[], x, l, rfl, fun _ g => (by cases g), h, by simp⟩
    | false =>
      rw [cond_false]
      cases e : Q2n p o l (i + 1) with
      | k0 =>
        rw [e] at ih
        intro y hy
        rcases List.mem_cons.1 hy with g | hy
        · rw [g]; exact h
        · exact ih y hy
      | k1 q =>
        rw [e] at ih
        obtain ⟨A, z, C, h1, h2, h3, h4⟩ := ih
        refine ⟨x :: A, z, C, by rw [h1]; rfl, fun y hy => ?_, h3, by rw [h4]; simp; omega⟩
        rcases List.mem_cons.1 hy with g | hy
        · rw [g]; exact h
        · exact h2 y hy
theorem Qya (n : Nat) (o : ByteArray) : ∀ (C : List Fld) (k i j : Nat) (v : List Fld), v.length = n → i < j → v.drop j = C → C.length < k →
    (Q17 n o k i j v).2 = ((i + (C.filter fun f => !Q3l f o).length : Nat) : Int) ∧
    List.take (i + (C.filter fun f => !Q3l f o).length) (Q17 n o k i j v).1 = v.take i ++ C.filter fun f => !Q3l f o
  | _, 0, _, _, _, _, _, _, hk => absurd hk (Nat.not_lt_zero _)
  | [], k + 1, i, j, v, hl, hij, hd, _ => by
    have : n ≤ j := by have := List.drop_eq_nil_iff.1 hd; omega
    rw [Q17, show decide ((j : Int) < (n : Int)) = false by simp; omega, cond_false]
    simp
  | x :: C, k + 1, i, j, v, hl, hij, hd, hk => by
    obtain ⟨hx, hj, hd'⟩ := Q1d hd
    have hx' : List.getD v (Int.toNat (j : Int)) zF = x := by rw [Int.toNat_natCast, List.getD_eq_getElem?_getD, hx]; rfl
    rw [Q17, show decide ((j : Int) < (n : Int)) = true by simp; omega, cond_true, hx']
    simp only [List.length_cons] at hk
    cases h : Q3l x o with
    | true =>
      rw [cond_true, List.filter_cons_of_neg (by simp [h])]
      exact Qya n o C k i (j + 1) v hl (by omega) hd' (by omega)
    | false =>
      rw [cond_false, List.filter_cons_of_pos (by simp [h])]
      have hi : i < v.length := by omega
      have e : (v.set i x).take (i + 1) = v.take i ++ [x] := by
        rw [List.take_add_one, List.getElem?_set_self hi, List.take_set, List.set_eq_of_length_le (by rw [List.length_take]; omega)]
        rfl
      have ih := Qya n o C k (i + 1) (j + 1) (v.set i x) (by rw [List.length_set]; exact hl) (by omega) (by rw [List.drop_set_of_lt (by omega)]; exact hd') (by omega)
      rw [e, show i + 1 + (C.filter fun f => !Q3l f o).length = i + ((x :: C.filter fun f => !Q3l f o)).length by simp; omega] at ih
      rw [Int.toNat_natCast]
      refine ⟨ih.1, ih.2.trans ?_⟩
      simp
theorem del_eq (l : List Fld) (o : ByteArray) : Qjt l.length l o = ((l.filter fun f => !sEq f.name o).length, l.filter fun f => !sEq f.name o) := by
  have h := Qqv l o l 0
  unfold Qjt Qw
  cases e : Q2n l o l 0 with
  | k0 =>
    rw [e] at h
    have : l.filter (fun f => !sEq f.name o) = l := List.filter_eq_self.2 fun x hx => by have := h x hx; unfold Q3l at this; rw [this]; rfl
    rw [this]
    rfl
  | k1 q =>
    rw [e] at h
    obtain ⟨A, x, C, h1, h2, h3, h4⟩ := h
    have hA : A.filter (fun f => !sEq f.name o) = A := List.filter_eq_self.2 fun x hx => by have := h2 x hx; unfold Q3l at this; rw [this]; rfl
    have hf : l.filter (fun f => !sEq f.name o) = A ++ C.filter fun f => !sEq f.name o := by
      rw [h1, List.filter_append, List.filter_cons_of_neg (by unfold Q3l at h3; simp [h3]), hA]
    have hl : l.length = A.length + (C.length + 1) := by rw [h1]; simp
    simp only
    rw [show (q == (-1 : Int)) = false by simp; omega, cond_false]
    have g := Qya l.length o C (Int.toNat ((l.length : Int) - (q + 1)) + 1) A.length (A.length + 1) l rfl (by omega) (by rw [h1]; simp) (by omega)
    rw [show (A.length : Int) = q by omega, show ((A.length + 1 : Nat) : Int) = q + 1 by omega] at g
    obtain ⟨g1, g2⟩ := g
    rw [g1, Int.toNat_natCast, g2, hf]
    change (_, _) = _
    rw [show List.take A.length l = A by rw [h1]; simp]
    unfold Q3l
    simp
theorem voth (v : Val) (n : ByteArray) : Q2g v n = ((oth v n).length, oth v n) := by
  unfold Q2g oth
  cases v.kind == 5 with
  | false => rfl
  | true => rw [cond_true, cond_true, del_eq]
theorem map1 : Q26 = cNm := rfl
theorem Qjq (l : List Fld) : Qj l.length l = Q5p cNm l := by
  have := Qtl (by rw [map1]; exact Q6i Fld.name) l
  rwa [map1] at this
theorem Qwb (p : List Fld) : ∀ (r : List Fld) (i : Nat) (a : List Fld), (Q5p cNm p).drop i = r → Q24 p r i a = a ++ lasts r
  | [], i, a, _ => by rw [Q24, lasts]; simp
  | [x], i, a, hd => by
    have hl := Q93 p
    have h := congrArg List.length hd
    rw [List.length_drop, List.length_singleton] at h
    rw [Q24, show (((i + 1 : Nat) : Int) == (List.length p : Int)) = true by simp; omega, cond_true, Q24]
    rfl
  | x :: y :: r, i, a, hd => by
    have hl := Q93 p
    have h := congrArg List.length hd
    rw [List.length_drop, List.length_cons, List.length_cons] at h
    obtain ⟨_, _, hd'⟩ := Q1d hd
    obtain ⟨hy, _, _⟩ := Q1d hd'
    rw [Q24, show (((i + 1 : Nat) : Int) == (List.length p : Int)) = false by simp; omega, cond_false, Qjq, Int.toNat_natCast, List.getD_eq_getElem?_getD, hy, Option.getD_some, lasts]
    cases sEq y.name x.name with
    | true => rw [cond_true, cond_true, Qwb p (y :: r) (i + 1) a hd']
    | false => rw [cond_false, cond_false, Qwb p (y :: r) (i + 1) _ hd']; simp
theorem Qcy (p : List Fld) : Q24 p (Qj p.length p) 0 [] = mapOf p := by
  rw [Qwb p _ 0 [] (by rw [Qjq]; rfl), Qjq]
  rfl
theorem vmap (p : List Fld) : Qfh p = .mk 5 0 ⟨#[]⟩ [] (mapOf p) := by
  unfold Qfh
  rw [Qcy]
theorem Q17m (v : Val) (n : ByteArray) (x : Val) : Q3u v n x = mp (oth v n ++ [.mk n x]) := by
  unfold Q3u
  rw [voth, vmap, List.take_length]
theorem Q103 (v : Val) (n : ByteArray) : Qf4 v n = bif v.kind == 5 then mp (oth v n) else v := by
  unfold Qf4
  rw [voth, vmap]
theorem Q165 {B : Nat} {l : List Fld} (hl : l.length ≤ B) (h : ∀ f ∈ l, Val.Sm B f.v) : Val.Sm B (mp l) :=
  .mk _ (Nat.zero_le _) (Nat.le_trans (Qxm l) hl) (fun _ g => by cases g) fun f hf => h f (Qxx hf)
theorem Q12a {l : List Fld} (hl : l.length ≤ 1000000000) (h : ∀ f ∈ l, Val.Sm 1000000000 f.v) : Qt6 l := by
  refine ⟨by omega, by omega, ⟨?_, trivial⟩, ?_, trivial⟩
  · rw [Qjq, Q93]
    omega
  · rw [Qcy]
    exact Q165 hl h
theorem Qwu {v : Val} {n : ByteArray} {f : Fld} (h : f ∈ oth v n) : f ∈ v.fields := by
  unfold oth at h
  cases e : v.kind == 5 with
  | true => rw [e] at h; exact (List.mem_filter.1 h).1
  | false => rw [e] at h; cases h
theorem Qpm (v : Val) (n : ByteArray) : (oth v n).length ≤ v.fields.length := by
  unfold oth
  cases v.kind == 5 with
  | true => exact List.length_filter_le _ _
  | false => exact Nat.zero_le _
theorem Q13p {v : Val} (h : Val.Sm 999999999 v) (n : ByteArray) : Q10b v n := by
  have := h.all.2.1
  exact ⟨by omega, fun _ => by omega, ⟨⟨⟨by omega, trivial⟩, trivial⟩, trivial⟩, trivial⟩
theorem Qxs {v : Val} (h : Val.Sm 999999999 v) (n : ByteArray) {x : Val} (hx : Val.Sm 1000000000 x) : (oth v n ++ [Fld.mk n x]).length ≤ 1000000000 ∧ ∀ f ∈ oth v n ++ [Fld.mk n x], Val.Sm 1000000000 f.v := by
  have h1 := h.all
  have h2 := Qpm v n
  refine ⟨by simp; omega, fun f hf => ?_⟩
  rcases List.mem_append.1 hf with g | g
  · exact (h1.2.2.2 f (Qwu g)).mono (by omega)
  · rw [List.mem_singleton.1 g]
    exact hx
theorem Q11t {v : Val} (h : Val.Sm 999999999 v) (n : ByteArray) : (oth v n).length ≤ 1000000000 ∧ ∀ f ∈ oth v n, Val.Sm 1000000000 f.v := by
  have h1 := h.all
  have h2 := Qpm v n
  exact ⟨by omega, fun f hf => (h1.2.2.2 f (Qwu hf)).mono (by omega)⟩
theorem Q15p {v : Val} (h : Val.Sm 999999999 v) (n : ByteArray) {x : Val} (hx : Val.Sm 1000000000 x) : Qpz v n x := by
  have h2 := Qpm v n
  have h3 := h.all.2.1
  refine ⟨Q13p h n, ?_, ?_, ?_, trivial⟩
  · rw [voth]; exact Nat.le_refl _
  · rw [voth]; simp only; omega
  · rw [voth, List.take_length]; exact Q12a (Qxs h n hx).1 (Qxs h n hx).2
theorem Qxp {v : Val} (h : Val.Sm 999999999 v) (n : ByteArray) : Q10d v n := by
  refine ⟨Q13p h n, fun _ => by rw [voth], ?_, h.mono (by omega), trivial⟩
  rw [voth]; exact Q12a (Q11t h n).1 (Q11t h n).2
theorem Q176 {v : Val} (h : Val.Sm 1000000000 v) (n : ByteArray) : Qz4 v n := ⟨⟨by have := h.all.2.1; omega, h.all.2.2.2, trivial⟩, trivial⟩
theorem Q17c {v : Val} (h : Val.Sm 1000000000 v) (n : ByteArray) : H_Kl v n := ⟨⟨by have := h.all.2.1; omega, h.all.2.2.2, trivial⟩, trivial⟩
theorem Q15g {v : Val} {B : Nat} (h : Val.Sm B v) (n : ByteArray) : Val.Sm B (gotF (found v n)).1 := by
  unfold found
  cases v.kind == 5 with
  | false => exact Val.Sm.leaf _ _ _
  | true =>
    rw [cond_true]
    cases e : v.fields.find? fun f => sEq f.name n with
    | none => exact Val.Sm.leaf _ _ _
    | some f => exact h.all.2.2.2 f (List.mem_of_find?_eq_some e)
theorem Vget (v : Val) (n : ByteArray) : Q2l v n = ((atN v n).getD zV, (atN v n).isSome) := by rw [vget, Qzw]
theorem Rget (v : Val) (n : ByteArray) : s_Kl v n = ((atN v n).getD zV, (atN v n).isSome) := by rw [rget, Qzw]
theorem Qwg (v : Val) (n : ByteArray) (x : Val) : Q3u v n x = wi v n x := Q17m v n x
theorem Qs7 (v : Val) (n : ByteArray) : Qf4 v n = wo v n := Q103 v n
theorem Qpe (v : Val) (n : ByteArray) : totF (oth v n) + tot ((atN v n).getD zV) ≤ tot v := by
  have hz : tot zV = 1 := by rw [Qm2, Q3e, totV]
  have h1 := Q9z v
  unfold oth atN found
  cases v.kind == 5 with
  | false => rw [cond_false, cond_false, Q3e, Option.map_none, Option.getD_none, hz]; omega
  | true =>
    rw [cond_true, cond_true]
    cases e : v.fields.find? fun f => sEq f.name n with
    | none =>
      have := Qbr (fun f : Fld => !sEq f.name n) v.fields
      rw [Option.map_none, Option.getD_none, hz]
      omega
    | some f =>
      have h2 := List.mem_of_find?_eq_some e
      have h3 := List.find?_some (p := fun f : Fld => sEq f.name n) e
      have := Qoh (p := fun f : Fld => !sEq f.name n) h2 (by simp [h3])
      rw [Option.map_some, Option.getD_some]
      omega
theorem Qwn (v : Val) (n : ByteArray) (x : Val) : tot (wi v n x) + tot ((atN v n).getD zV) ≤ 1 + tot v + tot x := by
  have h1 := Qpe v n
  have h2 := Qhv (oth v n ++ [Fld.mk n x])
  rw [Qaw, Q1i, Q3e] at h2
  unfold wi mp
  rw [Qm2, totV]
  change totF (mapOf (oth v n ++ [Fld.mk n x])) ≤ totF (oth v n) + (tot x + 0) at h2
  omega
theorem Qq1 (v : Val) (n : ByteArray) (x : Val) : tot (wi v n x) ≤ tot v + tot x := by
  have h1 := Qwn v n x
  have h2 := Q48 ((atN v n).getD zV)
  omega
theorem Q11h (v : Val) (n : ByteArray) : tot (wo v n) ≤ tot v := by
  have h1 := Qpe v n
  have h2 := Qhv (oth v n)
  have h3 := Q48 ((atN v n).getD zV)
  unfold wo
  cases v.kind == 5 with
  | false => exact Nat.le_refl _
  | true => rw [cond_true]; unfold mp; rw [Qm2, totV]; omega
theorem Qnn (v : Val) (n : ByteArray) : tot ((atN v n).getD zV) ≤ tot v := by
  have := Qpe v n
  omega
theorem Qxa : tot (mp []) = 1 := by unfold mp; rw [Qlz, Qm2, Q3e, totV]
theorem Q11n : tot zV = 1 := by rw [Qm2, Q3e, totV]
theorem Q15e {v x : Val} (h : tot v ≤ 500000000) (n : ByteArray) (hx : tot x ≤ 500000000) : Qpz v n x := Q15p (Qa1 (by omega)) n (Qa1 (by omega))
theorem Q105 {v : Val} (h : tot v ≤ 500000000) (n : ByteArray) : Q10d v n := Qxp (Qa1 (by omega)) n
theorem tGet {v : Val} (h : tot v ≤ 500000000) (n : ByteArray) : Qz4 v n := Q176 (Qa1 (by omega)) n
theorem Q16y : Qt6 [] := Q12a (by simp) fun _ h => by cases h
theorem Q167 {v : Val} (h : tot v ≤ 500000000) : Q134 [v] := ⟨.mk _ (by simp [Val.list]) (by simp [Val.fields]) (fun x hx => by
  have : x = v := by simpa [Val.list] using hx
  rw [this]; exact Qa1 (by omega)) (fun x hx => by cases hx), trivial⟩
theorem Q152 : Qfh [] = mp [] := vmap []
end Go.Proofs.Ytnhhddbbppbblaa
end

section
/- How many values merging, a difference and a composition hold at most. -/
namespace Go.Proofs.Ytnhhddbbppbblaa
open Go.Pv
theorem Qq3 (v : Val) (n : ByteArray) : (Q2l v n).1 = (atN v n).getD zV := by rw [Vget]
theorem Q173 (v : Val) (n : ByteArray) : (Q2l v n).2 = (atN v n).isSome := by rw [Vget]
theorem Q16i (v : Val) (n : ByteArray) : (s_Kl v n).1 = (atN v n).getD zV := by rw [Rget]
theorem Q16l (v : Val) (n : ByteArray) : (s_Kl v n).2 = (atN v n).isSome := by rw [Rget]
theorem Qzg : ∀ (l : List Fld) (o : Val), (∀ f ∈ l, ∀ w, tot (mg w f.v) + 1 ≤ tot w + 2 * tot f.v) → tot (mgL l o) ≤ tot o + 2 * totF l
  | [], o, _ => by rw [Qkd]; omega
  | x :: l, o, h => by
    rw [Qax, Q1i]
    have ih := fun o => Qzg l o fun f hf => h f (List.mem_cons_of_mem _ hf)
    have hx := h x List.mem_cons_self ((atN o x.name).getD zV)
    cases x.v.kind == 0 with
    | true =>
      have := ih (wo o x.name)
      have := Q11h o x.name
      rw [cond_true]
      omega
    | false =>
      have := ih (wi o x.name (mg ((atN o x.name).getD zV) x.v))
      have := Qwn o x.name (mg ((atN o x.name).getD zV) x.v)
      rw [cond_false]
      omega
theorem Qgo : ∀ (p v : Val), tot (mg v p) + 1 ≤ tot v + 2 * tot p := Qkh fun p ih v => by
  have h1 := Q48 v
  have h2 := Q48 p
  have h3 := Qk8 p
  rw [mg]
  cases p.kind == 5 with
  | false => rw [cond_false]; omega
  | true =>
    rw [cond_true]
    have := Qzg p.fields (bif v.kind == 5 then v else mp []) ih
    have : tot (bif v.kind == 5 then v else mp []) ≤ tot v := by
      cases v.kind == 5 with
      | true => exact Nat.le_refl _
      | false => rw [cond_false, Qxa]; exact h1
    omega
theorem Qho (a t : Nat) (h : 1 ≤ a) : t ≤ a * t := Nat.le_mul_of_pos_left t h
theorem Qx6 (p : Val) : ∀ (l : List Fld) (o : Val), (∀ f ∈ l, ∀ w, tot (cp w f.v) ≤ 2 * (tot w * tot f.v)) → tot (cpL p l o) ≤ tot o + 2 * (tot p * totF l)
  | [], o, _ => by rw [Qjl]; omega
  | x :: l, o, h => by
    have ih := fun o => Qx6 p l o fun f hf => h f (List.mem_cons_of_mem _ hf)
    have k1 := Qho (tot p) (tot x.v) (Q48 p)
    rw [Qam, Q1i, Nat.mul_add]
    cases e : atN p x.name with
    | none =>
      have := ih (wi o x.name x.v)
      have := Qq1 o x.name x.v
      simp only
      omega
    | some y =>
      have k2 := Qnn p x.name
      rw [e, Option.getD_some] at k2
      have k3 := h x List.mem_cons_self y
      have k4 := Nat.mul_le_mul_right (tot x.v) k2
      have := ih (wi o x.name (cp y x.v))
      have := Qq1 o x.name (cp y x.v)
      simp only
      omega
theorem Q11u : ∀ (q p : Val), tot (cp p q) ≤ 2 * (tot p * tot q) := Qkh fun q ih p => by
  have h0 := Qho (tot p) (tot q) (Q48 p)
  rw [cp]
  cases q.kind == 5 with
  | false => rw [cond_false]; omega
  | true =>
    cases p.kind == 5 with
    | false =>
      have := Qgo q zV
      rw [Q11n] at this
      rw [cond_true, cond_false]
      omega
    | true =>
      rw [cond_true, cond_true]
      have h1 := Qx6 p q.fields p ih
      have h5 := Qk8 q
      have h6 : tot p * (1 + totF q.fields) ≤ tot p * tot q := Nat.mul_le_mul_left _ (by omega)
      rw [Nat.mul_add, Nat.mul_one] at h6
      omega
theorem take_at {p : Val} {i : Nat} {x : Fld} (h : p.fields[i]? = some x) : totF (List.take (i + 1) p.fields) = totF (List.take i p.fields) + tot x.v ∧ totF (List.take (i + 1) p.fields) < tot p := by
  have h1 := Qmh p.fields (i + 1)
  have h2 := Qk8 p
  exact ⟨Qw9 p.fields i x h, by omega⟩
theorem Qy8 (p : Val) : p.fields.length < tot p := by
  have h1 := Qkr p.fields
  have h2 := Qk8 p
  omega
theorem Q12l {p : Val} {x : Fld} (h : x ∈ p.fields) : tot x.v ≤ tot p := by have := Qnm h; omega
end Go.Proofs.Ytnhhddbbppbblaa
end

section
/- What patching computes (printed by a program). -/
namespace Go.Proofs.Ytnhhddbbppbblaa
open Go.Pv
def s_Kh (p0 : Val) : Val :=
 (List.getD (Qve [p0]).list (Int.toNat 0) (Val.mk 0 0 (⟨#[]⟩ : ByteArray) [] []))
def c_Kh (p0 : Val) : En := .call 26 [.agg (Val.cells p0)] []
def a_Kh (p0 : Val) : Rs := .ret (.agg (Val.cells (s_Kh p0))) []
def H_Kh (p0 : Val) : Prop := (Q134 [p0]) ∧ ((0 : Int) ≤ 0) ∧ (Int.toNat 0 < List.length (Qve [p0]).list) ∧ True
theorem t_Kh (p0 : Val) (H : H_Kh p0) : Q7 G (c_Kh p0) (a_Kh p0) := by
 unfold a_Kh s_Kh
 exact Q9 (fn := Ir.Kh) rfl VOK.nil [hP 6 (Qqr 5 (Val.rows (Qve [p0]).list) 0 _ (H.2.1) (Val.Qg (Qu (Qve [p0]).list (Int.toNat 0) (Val.mk 0 0 (⟨#[]⟩ : ByteArray) [] []) (H.2.2.1))) rfl)] [aN (Qy0 (e' := .call 40 [.sl [(Val.cells p0)]] []) (Q16m [p0] (H.1)) (by simp only [Q14w, Val.Q2w, Val.Q46]))] (by kernel_rfl)
mutual
def s_Kg (p0 : Val) (p1 : Val) : Val :=
 bif (p1.kind == 5) then
  bif (p0.kind == 5) then
   (Q4r p0 p1 p1.fields 0 (s_Kh p0))
  else
   (Q4r p0 p1 p1.fields 0 (Qfh []))
 else
  (s_Kh p1)
termination_by SizeOf.sizeOf p1
decreasing_by all_goals first | exact Val.Q1x _ | exact Val.Q15 _ | exact Q23 _ _ | exact Q1v _ _ | exact Q1k _ _
def Q4r (p0 : Val) (p1 : Val) : List Fld → Nat → Val → Val
 | [], _i0, v0_1 =>
  v0_1
 | x0 :: r0, i0, v0_1 =>
  bif (x0.v.kind == 0) then
   Q4r p0 p1 r0 (i0 + 1) (Qf4 v0_1 x0.name)
  else
   Q4r p0 p1 r0 (i0 + 1) (Q3u v0_1 x0.name (s_Kg (Q2l v0_1 x0.name).1 x0.v))
termination_by l => SizeOf.sizeOf l
decreasing_by all_goals first | exact Val.Q1x _ | exact Val.Q15 _ | exact Q23 _ _ | exact Q1v _ _ | exact Q1k _ _
end
def Qkq (_p0 : Val) (p1 : Val) (i0 : Nat) (_v0_1 : Val) : List PV :=
  [.un, .un, .un, .un, .bx 0 0, .bx 1 0, .un, .un, .un, .un, .un, .un, .un, .un, .un, .un, .un, .un, .un, .un, .un, .un, .sl (Fld.rows p1.fields), .int .i64 ((List.length p1.fields) : Int), .int .i64 (i0 : Int), .un, .un, .un, .un, .un, .un, .un, .un, .un, .un, .un, .un, .un, .un, .un, .un, .un, .un, .un, .un, .un, .un, .un, .un, .un, .un, .un, .un]
def Qjo (_p0 : Val) (_p1 : Val) (_i0 : Nat) (v0_1 : Val) : List Ob :=
  [⟨5, 0, true, [.int .i64 0, .int .i64 0, .str (⟨#[]⟩ : ByteArray), .ms 2 5 0 0, .ms 3 6 0 0]⟩, ⟨5, 0, true, [.int .i64 v0_1.kind, .int .i64 v0_1.n, .str v0_1.s, .sl (Val.rows v0_1.list), .sl (Fld.rows v0_1.fields)]⟩, ⟨5, 0, true, []⟩, ⟨6, 0, true, []⟩]
def Q9h (p0 : Val) (p1 : Val) (i0 : Nat) (v0_1 : Val) : En := .loop 0 Ir.Qi4 Ir.Q155 (Qkq p0 p1 i0 v0_1) (Qjo p0 p1 i0 v0_1)
def Qoy (_p0 : Val) (_p1 : Val) (q0 : Val) (z : Nat → PV) (_zo : Nat → List PV) : St :=
  ⟨[z 0, z 1, z 2, z 3, .bx 0 0, .bx 1 0, z 6, z 7, z 8, z 9, z 10, z 11, z 12, z 13, z 14, z 15, z 16, z 17, z 18, z 19, z 20, z 21, z 22, z 23, z 24, z 25, z 26, z 27, z 28, z 29, z 30, z 31, z 32, z 33, z 34, z 35, z 36, z 37, z 38, z 39, z 40, z 41, z 42, z 43, z 44, z 45, z 46, z 47, z 48, z 49, z 50, z 51, z 52], [(0, ⟨5, 0, true, [.int .i64 0, .int .i64 0, .str (⟨#[]⟩ : ByteArray), .ms 2 5 0 0, .ms 3 6 0 0]⟩), (1, ⟨5, 0, true, [.int .i64 q0.kind, .int .i64 q0.n, .str q0.s, .sl (Val.rows q0.list), .sl (Fld.rows q0.fields)]⟩), (2, ⟨5, 0, true, []⟩), (3, ⟨6, 0, true, []⟩)], 68⟩
def Qju (p0 : Val) (p1 : Val) (e : En) (q : Val) : Prop := ∃ z zo, Q7 G e (.st (.exit 0) (Qoy p0 p1 q z zo))
theorem Qa8 (p0 : Val) (p1 : Val) {e e' : En} (h : ∀ r, Q7 G e r → Q7 G e' r) : ∀ q, Qju p0 p1 e q → Qju p0 p1 e' q
  | _, ⟨z, zo, hz⟩ => ⟨z, zo, h _ hz⟩
def c_Kg (p0 : Val) (p1 : Val) : En := .call 13 [.agg (Val.cells p0), .agg (Val.cells p1)] []
def a_Kg (p0 : Val) (p1 : Val) : Rs := .ret (.agg (Val.cells (s_Kg p0 p1))) []
abbrev H_Kg (p0 : Val) (p1 : Val) : Prop := tot p0 + 2 * tot p1 ≤ 100000000
def Qon (p1 : Val) : Prop := ∀ (q : Val), SizeOf.sizeOf q < SizeOf.sizeOf p1 → ∀ (p0 : Val), H_Kg p0 q → Q7 G (c_Kg p0 q) (a_Kg p0 q)
def Q76 (p0 : Val) (p1 : Val) : Prop := (List.length p1.fields ≤ 137438953472) ∧ (∀ (i0 : Nat) (v0_1 : Val) (x0 : Fld), p1.fields[i0]? = some x0 → tot v0_1 ≤ tot p0 + 2 * totF (List.take i0 p1.fields) → (x0.v.kind == 0) = true → Q10d v0_1 x0.name) ∧ (∀ (i0 : Nat) (v0_1 : Val) (x0 : Fld), p1.fields[i0]? = some x0 → tot v0_1 ≤ tot p0 + 2 * totF (List.take i0 p1.fields) → (x0.v.kind == 0) = false → Qz4 v0_1 x0.name) ∧ (∀ (i0 : Nat) (v0_1 : Val) (x0 : Fld), p1.fields[i0]? = some x0 → tot v0_1 ≤ tot p0 + 2 * totF (List.take i0 p1.fields) → H_Kg (Q2l v0_1 x0.name).1 x0.v) ∧ (∀ (i0 : Nat) (v0_1 : Val) (x0 : Fld), p1.fields[i0]? = some x0 → tot v0_1 ≤ tot p0 + 2 * totF (List.take i0 p1.fields) → (x0.v.kind == 0) = false → Qpz v0_1 x0.name (s_Kg (Q2l v0_1 x0.name).1 x0.v)) ∧ (∀ (i0 : Nat) (v0_1 : Val) (x0 : Fld), p1.fields[i0]? = some x0 → tot v0_1 ≤ tot p0 + 2 * totF (List.take i0 p1.fields) → (x0.v.kind == 0) = true → tot (Qf4 v0_1 x0.name) ≤ tot p0 + 2 * totF (List.take (i0 + 1) p1.fields)) ∧ (∀ (i0 : Nat) (v0_1 : Val) (x0 : Fld), p1.fields[i0]? = some x0 → tot v0_1 ≤ tot p0 + 2 * totF (List.take i0 p1.fields) → (x0.v.kind == 0) = false → tot (Q3u v0_1 x0.name (s_Kg (Q2l v0_1 x0.name).1 x0.v)) ≤ tot p0 + 2 * totF (List.take (i0 + 1) p1.fields)) ∧ True
theorem Qkp {v : Val} (h : tot v ≤ 500000000) : H_Kh v := by
  refine ⟨Q167 h, ?_, ?_, trivial⟩
  · exact Int.le_refl _
  · exact Nat.zero_lt_one
theorem Q2h : ∀ (p v : Val), s_Kg v p = mg v p := Qkh fun p ih v => by
  have hl : ∀ (l : List Fld), (∀ f ∈ l, ∀ w, s_Kg w f.v = mg w f.v) → ∀ i o, Q4r v p l i o = mgL l o := by
    intro l
    induction l with
    | nil => intro _ i o; rw [Q4r, Qkd]
    | cons x l ihl =>
      intro hx i o
      have ih' := ihl fun f hf => hx f (List.mem_cons_of_mem _ hf)
      rw [Q4r, Qax, Qs7, Qq3, Qwg, hx x List.mem_cons_self]
      cases x.v.kind == 0 with
      | true => exact ih' _ _
      | false => exact ih' _ _
  rw [s_Kg, mg, Q152, hl _ ih, hl _ ih]
  all_goals (cases p.kind == 5 <;> first | rfl | (cases v.kind == 5 <;> rfl))
theorem Q62 (p0 : Val) (p1 : Val) (H : H_Kg p0 p1) : ((p1.kind == 5) = true → Qt6 []) ∧ ((p1.kind == 5) = true → (p0.kind == 5) = true → H_Kh p0) ∧ ((p1.kind == 5) = true → (p0.kind == 5) = true → Q76 p0 p1) ∧ ((p1.kind == 5) = true → (p0.kind == 5) = true → tot (s_Kh p0) ≤ tot p0 + 2 * totF (List.take 0 p1.fields)) ∧ ((p1.kind == 5) = true → (p0.kind == 5) = false → Q76 p0 p1) ∧ ((p1.kind == 5) = true → (p0.kind == 5) = false → tot (Qfh []) ≤ tot p0 + 2 * totF (List.take 0 p1.fields)) ∧ ((p1.kind == 5) = false → H_Kh p1) ∧ True := by
  have hb : Q76 p0 p1 := ⟨by have := Qy8 p1; omega,
    fun i v x hx hv _ => Q105 (by have := take_at hx; omega) _,
    fun i v x hx hv _ => tGet (by have := take_at hx; omega) _,
    fun i v x hx hv => by
      have := take_at hx
      have := Qnn v x.name
      unfold H_Kg
      rw [Qq3]
      omega,
    fun i v x hx hv _ => Q15e (by have := take_at hx; omega) _ (by
      have := take_at hx
      have := Qnn v x.name
      have := Qgo x.v ((atN v x.name).getD zV)
      rw [Q2h, Qq3]
      omega),
    fun i v x hx hv _ => by
      have := take_at hx
      have := Q11h v x.name
      rw [Qs7]
      omega,
    fun i v x hx hv _ => by
      have := take_at hx
      have := Qwn v x.name (mg ((atN v x.name).getD zV) x.v)
      have := Qgo x.v ((atN v x.name).getD zV)
      rw [Q2h, Qq3, Qwg]
      omega, trivial⟩
  have h1 := Q48 p0
  exact ⟨fun _ => Q16y, fun _ _ => Qkp (by omega), fun _ _ => hb, fun _ _ => Nat.le_add_right _ _, fun _ _ => hb, fun _ _ => by rw [Q152, Qxa]; omega, fun _ => Qkp (by omega), trivial⟩
def Qnr (_p0 : Val) (p1 : Val) (i0 : Nat) (_v0_1 : Val) : List PV :=
  [.un, .un, .un, .un, .un, .un, .un, .un, .un, .un, .un, .un, .un, .un, .un, .un, .un, .un, .un, .un, .un, .un, .sl (Fld.rows p1.fields), .int .i64 ((List.length p1.fields) : Int), .int .i64 (i0 : Int), .bool false]
def Qfy (_p0 : Val) (_p1 : Val) (_i0 : Nat) (_v0_1 : Val) : List (Nat × List PV) :=
  []
theorem Qys (p0 : Val) (p1 : Val) (_H : Q76 p0 p1) (_rec : Qon p1) (i0 : Nat) (v0_1 : Val) (_ho0_0 : tot v0_1 ≤ tot p0 + 2 * totF (List.take i0 p1.fields)) (hc0 : (decide ((i0 : Int) < ((List.length p1.fields) : Int))) = false) : Qju p0 p1 (Q9h p0 p1 i0 v0_1) v0_1 := by
 exact ⟨(envF (Qnr p0 p1 i0 v0_1)), (zoF (Qfy p0 p1 i0 v0_1)), Qe VOK.nil (x := ((.exit 0), Qoy p0 p1 v0_1 (envF (Qnr p0 p1 i0 v0_1)) (zoF (Qfy p0 p1 i0 v0_1)))) [hB 0 hc0] [] (by kernel_rfl)⟩
theorem Qyc (p0 : Val) (p1 : Val) (H : Q76 p0 p1) (_rec : Qon p1) (x0 : Fld) (i0 : Nat) (v0_1 : Val) (hx0 : p1.fields[i0]? = some x0) (hi0 : i0 < List.length p1.fields) (ho0_0 : tot v0_1 ≤ tot p0 + 2 * totF (List.take i0 p1.fields)) (hc0 : (decide ((i0 : Int) < ((List.length p1.fields) : Int))) = true) (h0 : (x0.v.kind == 0) = true) {r : Rs} (hr : Q7 G (Q9h p0 p1 (i0 + 1) (Qf4 v0_1 x0.name)) r) : Q7 G (Q9h p0 p1 i0 v0_1) r := by
 have hB0 := H.1; have e0 := eq_of_beq h0
 exact Qb VOK.nil (y := (Qkq p0 p1 (i0 + 1) (Qf4 v0_1 x0.name), Qjo p0 p1 (i0 + 1) (Qf4 v0_1 x0.name))) [hB 0 hc0, hP 0 (Q1o 6 (Fld.rows p1.fields) i0 _ (Fld.Qg hx0) rfl), hB 6 h0, hP 5 (Qv i0 (by omega))] [aN (Q16v v0_1 x0.name ((H.2.1 i0 v0_1 x0 hx0 ho0_0) h0))] (by kernel_rfl) hr
theorem Qz6 (p0 : Val) (p1 : Val) (H : Q76 p0 p1) (rec : Qon p1) (x0 : Fld) (i0 : Nat) (v0_1 : Val) (hx0 : p1.fields[i0]? = some x0) (hi0 : i0 < List.length p1.fields) (ho0_0 : tot v0_1 ≤ tot p0 + 2 * totF (List.take i0 p1.fields)) (hc0 : (decide ((i0 : Int) < ((List.length p1.fields) : Int))) = true) (h0 : (x0.v.kind == 0) = false) {r : Rs} (hr : Q7 G (Q9h p0 p1 (i0 + 1) (Q3u v0_1 x0.name (s_Kg (Q2l v0_1 x0.name).1 x0.v))) r) : Q7 G (Q9h p0 p1 i0 v0_1) r := by
 have hB0 := H.1; have e0 := beq_eq_false_iff_ne.1 h0
 exact Qb VOK.nil (y := (Qkq p0 p1 (i0 + 1) (Q3u v0_1 x0.name (s_Kg (Q2l v0_1 x0.name).1 x0.v)), Qjo p0 p1 (i0 + 1) (Q3u v0_1 x0.name (s_Kg (Q2l v0_1 x0.name).1 x0.v)))) [hB 0 hc0, hP 0 (Q1o 6 (Fld.rows p1.fields) i0 _ (Fld.Qg hx0) rfl), hB 6 h0, hP 19 (Qv i0 (by omega))] [aN (Q12q v0_1 x0.name ((H.2.2.1 i0 v0_1 x0 hx0 ho0_0) h0)), aN (rec x0.v (szF hx0) (Q2l v0_1 x0.name).1 (H.2.2.2.1 i0 v0_1 x0 hx0 ho0_0)), aN (Q12w v0_1 x0.name (s_Kg (Q2l v0_1 x0.name).1 x0.v) ((H.2.2.2.2.1 i0 v0_1 x0 hx0 ho0_0) h0))] (by kernel_rfl) hr
theorem Qai (p0 : Val) (p1 : Val) (H : Q76 p0 p1) (rec : Qon p1) : ∀ (r0 : List Fld) (i0 : Nat) (v0_1 : Val), List.drop i0 p1.fields = r0 → tot v0_1 ≤ tot p0 + 2 * totF (List.take i0 p1.fields) → Qju p0 p1 (Q9h p0 p1 i0 v0_1) (Q4r p0 p1 r0 i0 v0_1)
 | [], i0, v0_1, hd, ho0_0 => by
  have hc0 : (decide ((i0 : Int) < ((List.length p1.fields) : Int))) = false := by have := Q1p hd; simp; omega
  rw [Q4r]
  exact Qys p0 p1 H rec i0 v0_1 ho0_0 hc0
 | x0 :: r0, i0, v0_1, hd, ho0_0 => by
  obtain ⟨hx0, hi0, hd'⟩ := Q1d hd
  have hc0 : (decide ((i0 : Int) < ((List.length p1.fields) : Int))) = true := by simp; omega
  rw [Q4r]
  cases h0 : (x0.v.kind == 0) with
  | true =>
   exact Qa8 p0 p1 (fun r hr => Qyc p0 p1 H rec x0 i0 v0_1 hx0 hi0 ho0_0 hc0 h0 hr) _ (Qai p0 p1 H rec r0 (i0 + 1) (Qf4 v0_1 x0.name) hd' ((H.2.2.2.2.2.1 i0 v0_1 x0 hx0 ho0_0) h0))
  | false =>
   exact Qa8 p0 p1 (fun r hr => Qz6 p0 p1 H rec x0 i0 v0_1 hx0 hi0 ho0_0 hc0 h0 hr) _ (Qai p0 p1 H rec r0 (i0 + 1) (Q3u v0_1 x0.name (s_Kg (Q2l v0_1 x0.name).1 x0.v)) hd' ((H.2.2.2.2.2.2.1 i0 v0_1 x0 hx0 ho0_0) h0))
theorem r_Kg (p0 : Val) (p1 : Val) (H : H_Kg p0 p1) (rec : Qon p1) : Q7 G (c_Kg p0 p1) (a_Kg p0 p1) := by
  unfold a_Kg
  rw [s_Kg]
  cases h0 : (p1.kind == 5) with
  | true =>
   cases h1 : (p0.kind == 5) with
   | true =>
    have hl2 := Qai p0 p1 ((Q62 p0 p1 H).2.2.1 h0 h1) rec p1.fields 0 (s_Kh p0) (by simp) ((Q62 p0 p1 H).2.2.2.1 h0 h1)
    obtain ⟨z2, zo2, hl2⟩ := hl2
    exact Q9 (fn := Ir.Kg) rfl VOK.nil [hP 5 (dec (!(p1.kind == 5)) false (by rw [h0]; rfl)), hB 5 h1, hP 5 (Qk (Fld.rows p1.fields) (List.length p1.fields) (Fld.Qd p1.fields))] [aN (Q109 [] ((Q62 p0 p1 H).1 h0)), aN (t_Kh p0 ((Q62 p0 p1 H).2.1 h0 h1)), aN hl2] (by kernel_rfl)
   | false =>
    have hl2 := Qai p0 p1 ((Q62 p0 p1 H).2.2.2.2.1 h0 h1) rec p1.fields 0 (Qfh []) (by simp) ((Q62 p0 p1 H).2.2.2.2.2.1 h0 h1)
    obtain ⟨z2, zo2, hl2⟩ := hl2
    exact Q9 (fn := Ir.Kg) rfl VOK.nil [hP 5 (dec (!(p1.kind == 5)) false (by rw [h0]; rfl)), hB 5 h1, hP 2 (Qk (Fld.rows p1.fields) (List.length p1.fields) (Fld.Qd p1.fields))] [aN (Q109 [] ((Q62 p0 p1 H).1 h0)), aN hl2] (by kernel_rfl)
  | false =>
   exact Q9 (fn := Ir.Kg) rfl VOK.nil [hP 5 (dec (!(p1.kind == 5)) true (by rw [h0]; rfl))] [aN (t_Kh p1 ((Q62 p0 p1 H).2.2.2.2.2.2.1 h0))] (by kernel_rfl)
theorem i_Kg : ∀ (k : Nat) (p1 : Val), SizeOf.sizeOf p1 < k → ∀ (p0 : Val), H_Kg p0 p1 → Q7 G (c_Kg p0 p1) (a_Kg p0 p1)
  | 0, _, h, _, _ => absurd h (Nat.not_lt_zero _)
  | k + 1, p1, h, p0, H => r_Kg p0 p1 H (fun q hq p0 hH => i_Kg k q (by omega) p0 hH)
theorem t_Kg (p0 : Val) (p1 : Val) (H : H_Kg p0 p1) : Q7 G (c_Kg p0 p1) (a_Kg p0 p1) := i_Kg _ p1 (Nat.lt_succ_self _) p0 H
def Qsp : Val :=
 (Val.mk 0 0 (⟨#[]⟩ : ByteArray) [] [])
def Q166 : En := .call 33 [] []
def Q142 : Rs := .ret (.agg (Val.cells (Qsp))) []
theorem Q16r : Q7 G (Q166) (Q142) := by
 unfold Q142 Qsp
 exact Q9 (fn := Ir.K1o) rfl VOK.nil [] [] (by kernel_rfl)
mutual
def s_Ke (p0 : Val) (p1 : Val) : Val :=
 bif (p1.kind == 5) then
  bif (p0.kind == 5) then
   (Q5b p0 p1 p1.fields 0 (s_Kh p0))
  else
   (s_Kg (Qsp) p1)
 else
  (s_Kh p1)
termination_by SizeOf.sizeOf p1
decreasing_by all_goals first | exact Val.Q1x _ | exact Val.Q15 _ | exact Q23 _ _ | exact Q1v _ _ | exact Q1k _ _
def Q5b (p0 : Val) (p1 : Val) : List Fld → Nat → Val → Val
 | [], _i0, v0_1 =>
  v0_1
 | x0 :: r0, i0, v0_1 =>
  bif (Q2l p0 x0.name).2 then
   Q5b p0 p1 r0 (i0 + 1) (Q3u v0_1 x0.name (s_Ke (Q2l p0 x0.name).1 x0.v))
  else
   Q5b p0 p1 r0 (i0 + 1) (Q3u v0_1 x0.name x0.v)
termination_by l => SizeOf.sizeOf l
decreasing_by all_goals first | exact Val.Q1x _ | exact Val.Q15 _ | exact Q23 _ _ | exact Q1v _ _ | exact Q1k _ _
end
def Qkb (_p0 : Val) (p1 : Val) (i0 : Nat) (_v0_1 : Val) : List PV :=
  [.un, .un, .bx 0 0, .un, .bx 1 0, .bx 2 0, .un, .un, .un, .un, .un, .un, .un, .un, .un, .un, .un, .un, .un, .un, .un, .un, .un, .un, .un, .un, .un, .sl (Fld.rows p1.fields), .int .i64 ((List.length p1.fields) : Int), .int .i64 (i0 : Int), .un, .un, .un, .un, .un, .un, .un, .un, .un, .un, .un, .un, .un, .un, .un, .un, .un, .un, .un, .un, .un, .un, .un]
def Qkx (p0 : Val) (_p1 : Val) (_i0 : Nat) (v0_1 : Val) : List Ob :=
  [⟨5, 0, true, [.int .i64 p0.kind, .int .i64 p0.n, .str p0.s, .sl (Val.rows p0.list), .sl (Fld.rows p0.fields)]⟩, ⟨5, 0, true, [.int .i64 0, .int .i64 0, .str (⟨#[]⟩ : ByteArray), .ms 3 5 0 0, .ms 4 6 0 0]⟩, ⟨5, 0, true, [.int .i64 v0_1.kind, .int .i64 v0_1.n, .str v0_1.s, .sl (Val.rows v0_1.list), .sl (Fld.rows v0_1.fields)]⟩, ⟨5, 0, true, []⟩, ⟨6, 0, true, []⟩]
def Q98 (p0 : Val) (p1 : Val) (i0 : Nat) (v0_1 : Val) : En := .loop 0 Ir.Qfo Ir.Q15i (Qkb p0 p1 i0 v0_1) (Qkx p0 p1 i0 v0_1)
def Qnb (p0 : Val) (_p1 : Val) (q0 : Val) (z : Nat → PV) (_zo : Nat → List PV) : St :=
  ⟨[z 0, z 1, z 2, z 3, .bx 1 0, .bx 2 0, z 6, z 7, z 8, z 9, z 10, z 11, z 12, z 13, z 14, z 15, z 16, z 17, z 18, z 19, z 20, z 21, z 22, z 23, z 24, z 25, z 26, z 27, z 28, z 29, z 30, z 31, z 32, z 33, z 34, z 35, z 36, z 37, z 38, z 39, z 40, z 41, z 42, z 43, z 44, z 45, z 46, z 47, z 48, z 49, z 50, z 51, z 52], [(0, ⟨5, 0, true, [.int .i64 p0.kind, .int .i64 p0.n, .str p0.s, .sl (Val.rows p0.list), .sl (Fld.rows p0.fields)]⟩), (1, ⟨5, 0, true, [.int .i64 0, .int .i64 0, .str (⟨#[]⟩ : ByteArray), .ms 3 5 0 0, .ms 4 6 0 0]⟩), (2, ⟨5, 0, true, [.int .i64 q0.kind, .int .i64 q0.n, .str q0.s, .sl (Val.rows q0.list), .sl (Fld.rows q0.fields)]⟩), (3, ⟨5, 0, true, []⟩), (4, ⟨6, 0, true, []⟩)], 69⟩
def Qks (p0 : Val) (p1 : Val) (e : En) (q : Val) : Prop := ∃ z zo, Q7 G e (.st (.exit 1) (Qnb p0 p1 q z zo))
theorem Q9u (p0 : Val) (p1 : Val) {e e' : En} (h : ∀ r, Q7 G e r → Q7 G e' r) : ∀ q, Qks p0 p1 e q → Qks p0 p1 e' q
  | _, ⟨z, zo, hz⟩ => ⟨z, zo, h _ hz⟩
def c_Ke (p0 : Val) (p1 : Val) : En := .call 17 [.agg (Val.cells p0), .agg (Val.cells p1)] []
def a_Ke (p0 : Val) (p1 : Val) : Rs := .ret (.agg (Val.cells (s_Ke p0 p1))) []
abbrev H_Ke (p0 : Val) (p1 : Val) : Prop := 2 * (tot p0 * tot p1) + 1 ≤ 100000000
def Qlr (p1 : Val) : Prop := ∀ (q : Val), SizeOf.sizeOf q < SizeOf.sizeOf p1 → ∀ (p0 : Val), H_Ke p0 q → Q7 G (c_Ke p0 q) (a_Ke p0 q)
def Q9d (p0 : Val) (p1 : Val) : Prop := (List.length p1.fields ≤ 137438953472) ∧ (∀ x0 ∈ p1.fields, Qz4 p0 x0.name) ∧ (∀ x0 ∈ p1.fields, H_Ke (Q2l p0 x0.name).1 x0.v) ∧ (∀ (i0 : Nat) (v0_1 : Val) (x0 : Fld), p1.fields[i0]? = some x0 → tot v0_1 ≤ tot p0 + 2 * (tot p0 * totF (List.take i0 p1.fields)) → (Q2l p0 x0.name).2 = true → Qpz v0_1 x0.name (s_Ke (Q2l p0 x0.name).1 x0.v)) ∧ (∀ (i0 : Nat) (v0_1 : Val) (x0 : Fld), p1.fields[i0]? = some x0 → tot v0_1 ≤ tot p0 + 2 * (tot p0 * totF (List.take i0 p1.fields)) → (Q2l p0 x0.name).2 = false → Qpz v0_1 x0.name x0.v) ∧ (∀ (i0 : Nat) (v0_1 : Val) (x0 : Fld), p1.fields[i0]? = some x0 → tot v0_1 ≤ tot p0 + 2 * (tot p0 * totF (List.take i0 p1.fields)) → (Q2l p0 x0.name).2 = true → tot (Q3u v0_1 x0.name (s_Ke (Q2l p0 x0.name).1 x0.v)) ≤ tot p0 + 2 * (tot p0 * totF (List.take (i0 + 1) p1.fields))) ∧ (∀ (i0 : Nat) (v0_1 : Val) (x0 : Fld), p1.fields[i0]? = some x0 → tot v0_1 ≤ tot p0 + 2 * (tot p0 * totF (List.take i0 p1.fields)) → (Q2l p0 x0.name).2 = false → tot (Q3u v0_1 x0.name x0.v) ≤ tot p0 + 2 * (tot p0 * totF (List.take (i0 + 1) p1.fields))) ∧ True
theorem Q5j : ∀ (q p : Val), s_Ke p q = cp p q := Qkh fun q ih p => by
  have hl : ∀ (l : List Fld), (∀ f ∈ l, ∀ w, s_Ke w f.v = cp w f.v) → ∀ i o, Q5b p q l i o = cpL p l o := by
    intro l
    induction l with
    | nil => intro _ i o; rw [Q5b, Qjl]
    | cons x l ihl =>
      intro hx i o
      have ih' := ihl fun f hf => hx f (List.mem_cons_of_mem _ hf)
      rw [Q5b, Qam, Q173, Qq3, Qwg, Qwg, hx x List.mem_cons_self]
      cases e : atN p x.name with
      | none => exact ih' _ _
      | some y => exact ih' _ _
  rw [s_Ke, cp, hl _ ih, Q2h]
  all_goals (cases q.kind == 5 <;> first | rfl | (cases p.kind == 5 <;> rfl))
theorem Qe2 (p0 : Val) (p1 : Val) (H : H_Ke p0 p1) : ((p1.kind == 5) = true → (p0.kind == 5) = true → H_Kh p0) ∧ ((p1.kind == 5) = true → (p0.kind == 5) = true → Q9d p0 p1) ∧ ((p1.kind == 5) = true → (p0.kind == 5) = true → tot (s_Kh p0) ≤ tot p0 + 2 * (tot p0 * totF (List.take 0 p1.fields))) ∧ ((p1.kind == 5) = true → (p0.kind == 5) = false → H_Kg (Qsp) p1) ∧ ((p1.kind == 5) = false → H_Kh p1) ∧ True := by
  have hA := Q48 p0
  have hB := Q48 p1
  have hA' := Nat.le_mul_of_pos_right (tot p0) hB
  have hB' := Nat.le_mul_of_pos_left (tot p1) hA
  have l1 := Qy8 p1
  have st : ∀ (i : Nat) (x : Fld), p1.fields[i]? = some x → tot p0 * totF (List.take (i + 1) p1.fields) = tot p0 * totF (List.take i p1.fields) + tot p0 * tot x.v ∧ tot p0 + tot p0 * totF (List.take (i + 1) p1.fields) ≤ tot p0 * tot p1 ∧ tot x.v ≤ tot p0 * tot x.v := fun i x hx => by
    obtain ⟨h1, h2⟩ := take_at hx
    have h3 : tot p0 * (1 + totF (List.take (i + 1) p1.fields)) ≤ tot p0 * tot p1 := Nat.mul_le_mul_left _ (by omega)
    rw [Nat.mul_add, Nat.mul_one] at h3
    exact ⟨by rw [h1, Nat.mul_add], h3, Nat.le_mul_of_pos_left _ hA⟩
  have sd : ∀ x : Fld, tot (s_Ke (Q2l p0 x.name).1 x.v) ≤ 2 * (tot p0 * tot x.v) := fun x => by
    rw [Q5j, Qq3]
    have := Nat.mul_le_mul_right (tot x.v) (Qnn p0 x.name)
    have := Q11u x.v ((atN p0 x.name).getD zV)
    omega
  have hw : ∀ (i : Nat) (v : Val) (x : Fld) (y : Val), p1.fields[i]? = some x → tot v ≤ tot p0 + 2 * (tot p0 * totF (List.take i p1.fields)) → tot y ≤ 2 * (tot p0 * tot x.v) → Qpz v x.name y ∧ tot (Q3u v x.name y) ≤ tot p0 + 2 * (tot p0 * totF (List.take (i + 1) p1.fields)) := fun i v x y hx hv hy => by
    obtain ⟨h1, h2, h3⟩ := st i x hx
    have := Qq1 v x.name y
    exact ⟨Q15e (by omega) _ (by omega), by rw [Qwg]; omega⟩
  have b0 : Q9d p0 p1 := ⟨by omega, fun x _ => tGet (by omega) _,
    fun x hx => by rw [Qq3]; have := Nat.mul_le_mul (Qnn p0 x.name) (Q12l hx); unfold H_Ke; omega,
    fun i v x hx hv _ => (hw i v x _ hx hv (sd x)).1, fun i v x hx hv _ => (hw i v x _ hx hv (by have := (st i x hx).2.2; omega)).1,
    fun i v x hx hv _ => (hw i v x _ hx hv (sd x)).2, fun i v x hx hv _ => (hw i v x _ hx hv (by have := (st i x hx).2.2; omega)).2, trivial⟩
  exact ⟨fun _ _ => Qkp (by omega), fun _ _ => b0, fun _ _ => Nat.le_add_right _ _, fun _ _ => by
    unfold H_Kg
    rw [show tot (Qsp) = 1 from Q11n]
    omega, fun _ => Qkp (by omega), trivial⟩
def Qly (_p0 : Val) (p1 : Val) (i0 : Nat) (_v0_1 : Val) : List PV :=
  [.un, .un, .bx 0 0, .un, .un, .un, .un, .un, .un, .un, .un, .un, .un, .un, .un, .un, .un, .un, .un, .un, .un, .un, .un, .un, .un, .un, .un, .sl (Fld.rows p1.fields), .int .i64 ((List.length p1.fields) : Int), .int .i64 (i0 : Int), .bool false]
def Qgw (_p0 : Val) (_p1 : Val) (_i0 : Nat) (_v0_1 : Val) : List (Nat × List PV) :=
  []
theorem Qyo (p0 : Val) (p1 : Val) (_H : Q9d p0 p1) (_rec : Qlr p1) (i0 : Nat) (v0_1 : Val) (_ho0_0 : tot v0_1 ≤ tot p0 + 2 * (tot p0 * totF (List.take i0 p1.fields))) (hc0 : (decide ((i0 : Int) < ((List.length p1.fields) : Int))) = false) : Qks p0 p1 (Q98 p0 p1 i0 v0_1) v0_1 := by
 exact ⟨(envF (Qly p0 p1 i0 v0_1)), (zoF (Qgw p0 p1 i0 v0_1)), Qe VOK.nil (x := ((.exit 1), Qnb p0 p1 v0_1 (envF (Qly p0 p1 i0 v0_1)) (zoF (Qgw p0 p1 i0 v0_1)))) [hB 0 hc0] [] (by kernel_rfl)⟩
theorem Qvx (p0 : Val) (p1 : Val) (H : Q9d p0 p1) (rec : Qlr p1) (x0 : Fld) (i0 : Nat) (v0_1 : Val) (hx0 : p1.fields[i0]? = some x0) (hi0 : i0 < List.length p1.fields) (ho0_0 : tot v0_1 ≤ tot p0 + 2 * (tot p0 * totF (List.take i0 p1.fields))) (hc0 : (decide ((i0 : Int) < ((List.length p1.fields) : Int))) = true) (h0 : (Q2l p0 x0.name).2 = true) {r : Rs} (hr : Q7 G (Q98 p0 p1 (i0 + 1) (Q3u v0_1 x0.name (s_Ke (Q2l p0 x0.name).1 x0.v))) r) : Q7 G (Q98 p0 p1 i0 v0_1) r := by
 have hB0 := H.1
 exact Qb VOK.nil (y := (Qkb p0 p1 (i0 + 1) (Q3u v0_1 x0.name (s_Ke (Q2l p0 x0.name).1 x0.v)), Qkx p0 p1 (i0 + 1) (Q3u v0_1 x0.name (s_Ke (Q2l p0 x0.name).1 x0.v)))) [hB 0 hc0, hP 0 (Q1o 6 (Fld.rows p1.fields) i0 _ (Fld.Qg hx0) rfl), hB 13 h0, hP 14 (Qv i0 (by omega))] [aN (Q12q p0 x0.name ((H.2.1 x0 (Qz hx0)))), aN (rec x0.v (szF hx0) (Q2l p0 x0.name).1 (H.2.2.1 x0 (Qz hx0))), aN (Q12w v0_1 x0.name (s_Ke (Q2l p0 x0.name).1 x0.v) ((H.2.2.2.1 i0 v0_1 x0 hx0 ho0_0) h0))] (by kernel_rfl) hr
theorem Qy5 (p0 : Val) (p1 : Val) (H : Q9d p0 p1) (_rec : Qlr p1) (x0 : Fld) (i0 : Nat) (v0_1 : Val) (hx0 : p1.fields[i0]? = some x0) (hi0 : i0 < List.length p1.fields) (ho0_0 : tot v0_1 ≤ tot p0 + 2 * (tot p0 * totF (List.take i0 p1.fields))) (hc0 : (decide ((i0 : Int) < ((List.length p1.fields) : Int))) = true) (h0 : (Q2l p0 x0.name).2 = false) {r : Rs} (hr : Q7 G (Q98 p0 p1 (i0 + 1) (Q3u v0_1 x0.name x0.v)) r) : Q7 G (Q98 p0 p1 i0 v0_1) r := by
 have hB0 := H.1
 exact Qb VOK.nil (y := (Qkb p0 p1 (i0 + 1) (Q3u v0_1 x0.name x0.v), Qkx p0 p1 (i0 + 1) (Q3u v0_1 x0.name x0.v))) [hB 0 hc0, hP 0 (Q1o 6 (Fld.rows p1.fields) i0 _ (Fld.Qg hx0) rfl), hB 13 h0, hP 10 (Qv i0 (by omega))] [aN (Q12q p0 x0.name ((H.2.1 x0 (Qz hx0)))), aN (Q12w v0_1 x0.name x0.v ((H.2.2.2.2.1 i0 v0_1 x0 hx0 ho0_0) h0))] (by kernel_rfl) hr
theorem Qko (p0 : Val) (p1 : Val) (H : Q9d p0 p1) (rec : Qlr p1) : ∀ (r0 : List Fld) (i0 : Nat) (v0_1 : Val), List.drop i0 p1.fields = r0 → tot v0_1 ≤ tot p0 + 2 * (tot p0 * totF (List.take i0 p1.fields)) → Qks p0 p1 (Q98 p0 p1 i0 v0_1) (Q5b p0 p1 r0 i0 v0_1)
 | [], i0, v0_1, hd, ho0_0 => by
  have hc0 : (decide ((i0 : Int) < ((List.length p1.fields) : Int))) = false := by have := Q1p hd; simp; omega
  rw [Q5b]
  exact Qyo p0 p1 H rec i0 v0_1 ho0_0 hc0
 | x0 :: r0, i0, v0_1, hd, ho0_0 => by
  obtain ⟨hx0, hi0, hd'⟩ := Q1d hd
  have hc0 : (decide ((i0 : Int) < ((List.length p1.fields) : Int))) = true := by simp; omega
  rw [Q5b]
  cases h0 : (Q2l p0 x0.name).2 with
  | true =>
   exact Q9u p0 p1 (fun r hr => Qvx p0 p1 H rec x0 i0 v0_1 hx0 hi0 ho0_0 hc0 h0 hr) _ (Qko p0 p1 H rec r0 (i0 + 1) (Q3u v0_1 x0.name (s_Ke (Q2l p0 x0.name).1 x0.v)) hd' ((H.2.2.2.2.2.1 i0 v0_1 x0 hx0 ho0_0) h0))
  | false =>
   exact Q9u p0 p1 (fun r hr => Qy5 p0 p1 H rec x0 i0 v0_1 hx0 hi0 ho0_0 hc0 h0 hr) _ (Qko p0 p1 H rec r0 (i0 + 1) (Q3u v0_1 x0.name x0.v) hd' ((H.2.2.2.2.2.2.1 i0 v0_1 x0 hx0 ho0_0) h0))
theorem r_Ke (p0 : Val) (p1 : Val) (H : H_Ke p0 p1) (rec : Qlr p1) : Q7 G (c_Ke p0 p1) (a_Ke p0 p1) := by
  unfold a_Ke
  rw [s_Ke]
  cases h0 : (p1.kind == 5) with
  | true =>
   cases h1 : (p0.kind == 5) with
   | true =>
    have hl2 := Qko p0 p1 ((Qe2 p0 p1 H).2.1 h0 h1) rec p1.fields 0 (s_Kh p0) (by simp) ((Qe2 p0 p1 H).2.2.1 h0 h1)
    obtain ⟨z2, zo2, hl2⟩ := hl2
    exact Q9 (fn := Ir.Ke) rfl VOK.nil [hP 5 (dec (!(p1.kind == 5)) false (by rw [h0]; rfl)), hP 3 (dec (!(p0.kind == 5)) false (by rw [h1]; rfl)), hP 7 (Qk (Fld.rows p1.fields) (List.length p1.fields) (Fld.Qd p1.fields))] [aN (t_Kh p0 ((Qe2 p0 p1 H).1 h0 h1)), aN hl2] (by kernel_rfl)
   | false =>
    exact Q9 (fn := Ir.Ke) rfl VOK.nil [hP 5 (dec (!(p1.kind == 5)) false (by rw [h0]; rfl)), hP 3 (dec (!(p0.kind == 5)) true (by rw [h1]; rfl))] [aN (Q16r), aN (t_Kg (Qsp) p1 ((Qe2 p0 p1 H).2.2.2.1 h0 h1))] (by kernel_rfl)
  | false =>
   exact Q9 (fn := Ir.Ke) rfl VOK.nil [hP 5 (dec (!(p1.kind == 5)) true (by rw [h0]; rfl))] [aN (t_Kh p1 ((Qe2 p0 p1 H).2.2.2.2.1 h0))] (by kernel_rfl)
theorem i_Ke : ∀ (k : Nat) (p1 : Val), SizeOf.sizeOf p1 < k → ∀ (p0 : Val), H_Ke p0 p1 → Q7 G (c_Ke p0 p1) (a_Ke p0 p1)
  | 0, _, h, _, _ => absurd h (Nat.not_lt_zero _)
  | k + 1, p1, h, p0, H => r_Ke p0 p1 H (fun q hq p0 hH => i_Ke k q (by omega) p0 hH)
theorem t_Ke (p0 : Val) (p1 : Val) (H : H_Ke p0 p1) : Q7 G (c_Ke p0 p1) (a_Ke p0 p1) := i_Ke _ p1 (Nat.lt_succ_self _) p0 H
inductive Qqz where
  | k0
  | k1
mutual
def Q5q (p0 : Val) (p1 : Val) : Bool :=
 bif (p1.kind == 5) then
  bif (p0.kind == 5) then
   (match (Q3n p0 p1 p1.fields 0) with
   | .k0 => true
   | .k1 => false)
  else
   false
 else
  true
termination_by SizeOf.sizeOf p1
decreasing_by all_goals first | exact Val.Q1x _ | exact Val.Q15 _ | exact Q23 _ _ | exact Q1v _ _ | exact Q1k _ _
def Q3n (p0 : Val) (p1 : Val) : List Fld → Nat → Qqz
 | [], _i0 =>
  (.k0)
 | x0 :: r0, i0 =>
  bif (s_Kl p0 x0.name).2 then
   bif (Q5q (s_Kl p0 x0.name).1 x0.v) then
    Q3n p0 p1 r0 (i0 + 1)
   else
    (.k1)
  else
   Q3n p0 p1 r0 (i0 + 1)
termination_by l => SizeOf.sizeOf l
decreasing_by all_goals first | exact Val.Q1x _ | exact Val.Q15 _ | exact Q23 _ _ | exact Q1v _ _ | exact Q1k _ _
end
def Qf9 (_p0 : Val) (_p1 : Val) (i0 : Nat) : List PV :=
  [.un, .un, .bx 0 0, .bx 1 0, .un, .int .i64 (i0 : Int), .un, .un, .un, .un, .un, .un, .un, .un, .un, .un, .un, .un, .un, .un, .un, .un, .un, .un, .un, .un, .un, .un, .un, .un, .un, .un, .un, .un, .un, .un, .un, .un, .un, .un, .un, .un, .un, .un]
def Qe3 (p0 : Val) (p1 : Val) (_i0 : Nat) : List Ob :=
  [⟨5, 0, true, [.int .i64 p0.kind, .int .i64 p0.n, .str p0.s, .sl (Val.rows p0.list), .sl (Fld.rows p0.fields)]⟩, ⟨5, 0, true, [.int .i64 p1.kind, .int .i64 p1.n, .str p1.s, .sl (Val.rows p1.list), .sl (Fld.rows p1.fields)]⟩]
def Q5i (p0 : Val) (p1 : Val) (i0 : Nat) : En := .loop 0 Ir.Qdf Ir.Q11d (Qf9 p0 p1 i0) (Qe3 p0 p1 i0)
def Qig (p0 : Val) (p1 : Val) (z : Nat → PV) (_zo : Nat → List PV) : St :=
  ⟨[z 0, z 1, z 2, z 3, z 4, z 5, z 6, z 7, z 8, z 9, z 10, z 11, z 12, z 13, z 14, z 15, z 16, z 17, z 18, z 19, z 20, z 21, z 22, z 23, z 24, z 25, z 26, z 27, z 28, z 29, z 30, z 31, z 32, z 33, z 34, z 35, z 36, z 37, z 38, z 39, z 40, z 41, z 42, z 43], [(0, ⟨5, 0, true, [.int .i64 p0.kind, .int .i64 p0.n, .str p0.s, .sl (Val.rows p0.list), .sl (Fld.rows p0.fields)]⟩), (1, ⟨5, 0, true, [.int .i64 p1.kind, .int .i64 p1.n, .str p1.s, .sl (Val.rows p1.list), .sl (Fld.rows p1.fields)]⟩)], 322⟩
def Qiw (_p0 : Val) (_p1 : Val) (z : Nat → PV) (zo : Nat → List PV) : St :=
  ⟨[z 0, z 1, z 2, z 3, .bool false, z 5, z 6, z 7, z 8, z 9, z 10, z 11, z 12, z 13, z 14, z 15, z 16, z 17, z 18, z 19, z 20, z 21, z 22, z 23, z 24, z 25, z 26, z 27, z 28, z 29, z 30, z 31, z 32, z 33, z 34, z 35, z 36, z 37, z 38, z 39, z 40, z 41, z 42, z 43], [(0, ⟨5, 0, true, zo 0⟩), (1, ⟨5, 0, true, zo 1⟩), (1026, ⟨5, 0, true, zo 1026⟩)], 2050⟩
def Q8l (p0 : Val) (p1 : Val) (e : En) : Qqz → Prop
  | .k0 => ∃ z zo, Q7 G e (.st (.exit 0) (Qig p0 p1 z zo))
  | .k1 => ∃ z zo, Q7 G e (.st .ret (Qiw p0 p1 z zo))
theorem Q7w (p0 : Val) (p1 : Val) {e e' : En} (h : ∀ r, Q7 G e r → Q7 G e' r) : ∀ q, Q8l p0 p1 e q → Q8l p0 p1 e' q
  | .k0, ⟨z, zo, hz⟩ => ⟨z, zo, h _ hz⟩
  | .k1, ⟨z, zo, hz⟩ => ⟨z, zo, h _ hz⟩
def Q10o (p0 : Val) (p1 : Val) : En := .call 19 [.agg (Val.cells p0), .agg (Val.cells p1)] []
def Qx3 (p0 : Val) (p1 : Val) : Rs := .ret (.bool (Q5q p0 p1)) []
abbrev Qpr (p0 : Val) (p1 : Val) : Prop := Val.Sm 1000000000 p0 ∧ Val.Sm 1000000000 p1
def Q9r (p1 : Val) : Prop := ∀ (q : Val), SizeOf.sizeOf q < SizeOf.sizeOf p1 → ∀ (p0 : Val), Qpr p0 q → Q7 G (Q10o p0 q) (Qx3 p0 q)
def Q6l (p0 : Val) (p1 : Val) : Prop := (List.length p1.fields ≤ 4611686018427387904) ∧ (∀ x0 ∈ p1.fields, H_Kl p0 x0.name) ∧ (∀ x0 ∈ p1.fields, Qpr (s_Kl p0 x0.name).1 x0.v) ∧ True
theorem Q10h (p0 : Val) (p1 : Val) (H : Qpr p0 p1) : (Q6l p0 p1) ∧ True := by
  obtain ⟨h1, h2, h3, h4⟩ := H.2.all
  exact ⟨⟨by omega, fun x _ => Q17c H.1 _, fun x hx => ⟨by rw [rget]; exact Q15g H.1 _, h4 x hx⟩, trivial⟩, trivial⟩
def Qgv (_p0 : Val) (p1 : Val) (i0 : Nat) : List PV :=
  [.un, .un, .bx 0 0, .bx 1 0, .un, .int .i64 (i0 : Int), .un, .un, .un, .un, .un, .un, .un, .un, .int .i64 (i0 : Int), .bx 1 4, .sl (Fld.rows p1.fields), .int .i64 ((List.length p1.fields) : Int), .bool false]
def Qcm (_p0 : Val) (_p1 : Val) (_i0 : Nat) : List (Nat × List PV) :=
  []
theorem Quj (p0 : Val) (p1 : Val) (_H : Q6l p0 p1) (_rec : Q9r p1) (i0 : Nat) (hc0 : (decide ((i0 : Int) < ((List.length p1.fields) : Int))) = false) : Q8l p0 p1 (Q5i p0 p1 i0) (.k0) := by
 exact ⟨(envF (Qgv p0 p1 i0)), (zoF (Qcm p0 p1 i0)), Qe VOK.nil (x := ((.exit 0), Qig p0 p1 (envF (Qgv p0 p1 i0)) (zoF (Qcm p0 p1 i0)))) [hP 3 (Qk (Fld.rows p1.fields) (List.length p1.fields) (Fld.Qd p1.fields)), hB 0 hc0] [] (by kernel_rfl)⟩
theorem Qux (p0 : Val) (p1 : Val) (H : Q6l p0 p1) (rec : Q9r p1) (x0 : Fld) (i0 : Nat) (hx0 : p1.fields[i0]? = some x0) (hi0 : i0 < List.length p1.fields) (hc0 : (decide ((i0 : Int) < ((List.length p1.fields) : Int))) = true) (h0 : (s_Kl p0 x0.name).2 = true) (h1 : (Q5q (s_Kl p0 x0.name).1 x0.v) = true) {r : Rs} (hr : Q7 G (Q5i p0 p1 (i0 + 1)) r) : Q7 G (Q5i p0 p1 i0) r := by
 have hB0 := H.1
 exact Qb VOK.nil (y := (Qf9 p0 p1 (i0 + 1), Qe3 p0 p1 (i0 + 1))) [hP 3 (Qk (Fld.rows p1.fields) (List.length p1.fields) (Fld.Qd p1.fields)), hB 0 hc0, hP 4 (Q1o 6 (Fld.rows p1.fields) i0 _ (Fld.Qg hx0) rfl), hB 5 h0, hP 9 (Q1o 6 (Fld.rows p1.fields) i0 _ (Fld.Qg hx0) rfl), hP 6 (Qv i0 (by omega))] [aN (t_Kl p0 x0.name (H.2.1 x0 (Qz hx0))), aB (rec x0.v (szF hx0) (s_Kl p0 x0.name).1 (H.2.2.1 x0 (Qz hx0))) h1] (by kernel_rfl) hr
def Qhn (p0 : Val) (p1 : Val) (i0 : Nat) (x0 : Fld) : List PV :=
  [.un, .un, .bx 0 0, .bx 1 0, .un, .int .i64 (i0 : Int), .bx 1026 0, .bool true, .un, .un, .un, .un, .un, .un, .int .i64 (i0 : Int), .bx 1 4, .sl (Fld.rows p1.fields), .int .i64 ((List.length p1.fields) : Int), .bool true, .un, .un, .tup [.agg [.int .i64 (s_Kl p0 x0.name).1.kind, .int .i64 (s_Kl p0 x0.name).1.n, .str (s_Kl p0 x0.name).1.s, .sl (Val.rows (s_Kl p0 x0.name).1.list), .sl (Fld.rows (s_Kl p0 x0.name).1.fields)], .bool (s_Kl p0 x0.name).2], .agg [.int .i64 p0.kind, .int .i64 p0.n, .str p0.s, .sl (Val.rows p0.list), .sl (Fld.rows p0.fields)], .bx 1 4, .sl (Fld.rows p1.fields), .int .i64 (i0 : Int), .rf [.str x0.name, .int .i64 x0.v.kind, .int .i64 x0.v.n, .str x0.v.s, .sl (Val.rows x0.v.list), .sl (Fld.rows x0.v.fields)], .rf [.str x0.name, .int .i64 x0.v.kind, .int .i64 x0.v.n, .str x0.v.s, .sl (Val.rows x0.v.list), .sl (Fld.rows x0.v.fields)], .str x0.name, .tup [.agg [.int .i64 (s_Kl p0 x0.name).1.kind, .int .i64 (s_Kl p0 x0.name).1.n, .str (s_Kl p0 x0.name).1.s, .sl (Val.rows (s_Kl p0 x0.name).1.list), .sl (Fld.rows (s_Kl p0 x0.name).1.fields)], .bool (s_Kl p0 x0.name).2], .agg [.int .i64 (s_Kl p0 x0.name).1.kind, .int .i64 (s_Kl p0 x0.name).1.n, .str (s_Kl p0 x0.name).1.s, .sl (Val.rows (s_Kl p0 x0.name).1.list), .sl (Fld.rows (s_Kl p0 x0.name).1.fields)], .bool true, .bool true, .bool true, .agg [.int .i64 (s_Kl p0 x0.name).1.kind, .int .i64 (s_Kl p0 x0.name).1.n, .str (s_Kl p0 x0.name).1.s, .sl (Val.rows (s_Kl p0 x0.name).1.list), .sl (Fld.rows (s_Kl p0 x0.name).1.fields)], .bx 1 4, .sl (Fld.rows p1.fields), .int .i64 (i0 : Int), .rf [.str x0.name, .int .i64 x0.v.kind, .int .i64 x0.v.n, .str x0.v.s, .sl (Val.rows x0.v.list), .sl (Fld.rows x0.v.fields)], .rf [.int .i64 x0.v.kind, .int .i64 x0.v.n, .str x0.v.s, .sl (Val.rows x0.v.list), .sl (Fld.rows x0.v.fields)], .agg [.int .i64 x0.v.kind, .int .i64 x0.v.n, .str x0.v.s, .sl (Val.rows x0.v.list), .sl (Fld.rows x0.v.fields)], .bool false, .bool true, .bool true]
def Qc0 (p0 : Val) (p1 : Val) (_i0 : Nat) (x0 : Fld) : List (Nat × List PV) :=
  [(0, [.int .i64 p0.kind, .int .i64 p0.n, .str p0.s, .sl (Val.rows p0.list), .sl (Fld.rows p0.fields)]), (1, [.int .i64 p1.kind, .int .i64 p1.n, .str p1.s, .sl (Val.rows p1.list), .sl (Fld.rows p1.fields)]), (1026, [.int .i64 (s_Kl p0 x0.name).1.kind, .int .i64 (s_Kl p0 x0.name).1.n, .str (s_Kl p0 x0.name).1.s, .sl (Val.rows (s_Kl p0 x0.name).1.list), .sl (Fld.rows (s_Kl p0 x0.name).1.fields)])]
theorem Qsi (p0 : Val) (p1 : Val) (H : Q6l p0 p1) (rec : Q9r p1) (x0 : Fld) (i0 : Nat) (hx0 : p1.fields[i0]? = some x0) (_hi0 : i0 < List.length p1.fields) (hc0 : (decide ((i0 : Int) < ((List.length p1.fields) : Int))) = true) (h0 : (s_Kl p0 x0.name).2 = true) (h1 : (Q5q (s_Kl p0 x0.name).1 x0.v) = false) : Q8l p0 p1 (Q5i p0 p1 i0) (.k1) := by
 exact ⟨(envF (Qhn p0 p1 i0 x0)), (zoF (Qc0 p0 p1 i0 x0)), Qe VOK.nil (x := (.ret, Qiw p0 p1 (envF (Qhn p0 p1 i0 x0)) (zoF (Qc0 p0 p1 i0 x0)))) [hP 3 (Qk (Fld.rows p1.fields) (List.length p1.fields) (Fld.Qd p1.fields)), hB 0 hc0, hP 4 (Q1o 6 (Fld.rows p1.fields) i0 _ (Fld.Qg hx0) rfl), hB 5 h0, hP 9 (Q1o 6 (Fld.rows p1.fields) i0 _ (Fld.Qg hx0) rfl)] [aN (t_Kl p0 x0.name (H.2.1 x0 (Qz hx0))), aB (rec x0.v (szF hx0) (s_Kl p0 x0.name).1 (H.2.2.1 x0 (Qz hx0))) h1] (by kernel_rfl)⟩
theorem Qvh (p0 : Val) (p1 : Val) (H : Q6l p0 p1) (_rec : Q9r p1) (x0 : Fld) (i0 : Nat) (hx0 : p1.fields[i0]? = some x0) (hi0 : i0 < List.length p1.fields) (hc0 : (decide ((i0 : Int) < ((List.length p1.fields) : Int))) = true) (h0 : (s_Kl p0 x0.name).2 = false) {r : Rs} (hr : Q7 G (Q5i p0 p1 (i0 + 1)) r) : Q7 G (Q5i p0 p1 i0) r := by
 have hB0 := H.1
 exact Qb VOK.nil (y := (Qf9 p0 p1 (i0 + 1), Qe3 p0 p1 (i0 + 1))) [hP 3 (Qk (Fld.rows p1.fields) (List.length p1.fields) (Fld.Qd p1.fields)), hB 0 hc0, hP 4 (Q1o 6 (Fld.rows p1.fields) i0 _ (Fld.Qg hx0) rfl), hB 5 h0, hP 16 (Qv i0 (by omega))] [aN (t_Kl p0 x0.name (H.2.1 x0 (Qz hx0)))] (by kernel_rfl) hr
theorem Qev (p0 : Val) (p1 : Val) (H : Q6l p0 p1) (rec : Q9r p1) : ∀ (r0 : List Fld) (i0 : Nat), List.drop i0 p1.fields = r0 → Q8l p0 p1 (Q5i p0 p1 i0) (Q3n p0 p1 r0 i0)
 | [], i0, hd => by
  have hc0 : (decide ((i0 : Int) < ((List.length p1.fields) : Int))) = false := by have := Q1p hd; simp; omega
  rw [Q3n]
  exact Quj p0 p1 H rec i0 hc0
 | x0 :: r0, i0, hd => by
  obtain ⟨hx0, hi0, hd'⟩ := Q1d hd
  have hc0 : (decide ((i0 : Int) < ((List.length p1.fields) : Int))) = true := by simp; omega
  rw [Q3n]
  cases h0 : (s_Kl p0 x0.name).2 with
  | true =>
   cases h1 : (Q5q (s_Kl p0 x0.name).1 x0.v) with
   | true =>
    exact Q7w p0 p1 (fun r hr => Qux p0 p1 H rec x0 i0 hx0 hi0 hc0 h0 h1 hr) _ (Qev p0 p1 H rec r0 (i0 + 1) hd')
   | false =>
    exact Qsi p0 p1 H rec x0 i0 hx0 hi0 hc0 h0 h1
  | false =>
   exact Q7w p0 p1 (fun r hr => Qvh p0 p1 H rec x0 i0 hx0 hi0 hc0 h0 hr) _ (Qev p0 p1 H rec r0 (i0 + 1) hd')
theorem Q16u (p0 : Val) (p1 : Val) (H : Qpr p0 p1) (rec : Q9r p1) : Q7 G (Q10o p0 p1) (Qx3 p0 p1) := by
  unfold Qx3
  rw [Q5q]
  cases h0 : (p1.kind == 5) with
  | true =>
   cases h1 : (p0.kind == 5) with
   | true =>
    have hl2 := Qev p0 p1 ((Q10h p0 p1 H).1) rec p1.fields 0 (by simp)
    cases hr2 : (Q3n p0 p1 p1.fields 0) with
    | k0 =>
      rw [hr2] at hl2
      obtain ⟨z2, zo2, hl2⟩ := hl2
      exact Q9 (fn := Ir.K12) rfl VOK.nil [hP 5 (dec (!(p1.kind == 5)) false (by rw [h0]; rfl)), hP 2 (dec (!(p0.kind == 5)) false (by rw [h1]; rfl))] [aN hl2] (by kernel_rfl)
    | k1 =>
      rw [hr2] at hl2
      obtain ⟨z2, zo2, hl2⟩ := hl2
      exact Q9 (fn := Ir.K12) rfl VOK.nil [hP 5 (dec (!(p1.kind == 5)) false (by rw [h0]; rfl)), hP 2 (dec (!(p0.kind == 5)) false (by rw [h1]; rfl))] [aN hl2] (by kernel_rfl)
   | false =>
    exact Q9 (fn := Ir.K12) rfl VOK.nil [hP 5 (dec (!(p1.kind == 5)) false (by rw [h0]; rfl)), hP 2 (dec (!(p0.kind == 5)) true (by rw [h1]; rfl))] [] (by kernel_rfl)
  | false =>
   exact Q9 (fn := Ir.K12) rfl VOK.nil [hP 5 (dec (!(p1.kind == 5)) true (by rw [h0]; rfl))] [] (by kernel_rfl)
theorem Q15f : ∀ (k : Nat) (p1 : Val), SizeOf.sizeOf p1 < k → ∀ (p0 : Val), Qpr p0 p1 → Q7 G (Q10o p0 p1) (Qx3 p0 p1)
  | 0, _, h, _, _ => absurd h (Nat.not_lt_zero _)
  | k + 1, p1, h, p0, H => Q16u p0 p1 H (fun q hq p0 hH => Q15f k q (by omega) p0 hH)
theorem Q12y (p0 : Val) (p1 : Val) (H : Qpr p0 p1) : Q7 G (Q10o p0 p1) (Qx3 p0 p1) := Q15f _ p1 (Nat.lt_succ_self _) p0 H
end Go.Proofs.Ytnhhddbbppbblaa
end

section
/- What the laws on patches ask of their values (printed by a program). -/
namespace Go.Proofs.Ytnhhddbbppbblaa
open Go.Pv
inductive Qye where
  | k0
  | k1
def Q5g (p0 : List Val) : List Val → Nat → Qye
 | [], _i0 =>
  (.k0)
 | x0 :: r0, i0 =>
  bif (s_Kz x0 3000) then
   bif (s_Ko x0) then
    Q5g p0 r0 (i0 + 1)
   else
    (.k1)
  else
   (.k1)
def Qs1 (p0 : List Val) (i0 : Nat) : List PV :=
  [.un, .un, .un, .un, .un, .sl (Val.rows p0), .int .i64 ((List.length p0) : Int), .int .i64 (i0 : Int), .un, .un, .un, .un, .un, .un, .un, .un, .un, .un, .un, .un]
def Qqm (_p0 : List Val) (_i0 : Nat) : List Ob :=
  []
def Q9g (p0 : List Val) (i0 : Nat) : En := .loop 0 Ir.Qgs Ir.Q13l (Qs1 p0 i0) (Qqm p0 i0)
def Qlt (_p0 : List Val) (z : Nat → PV) (_zo : Nat → List PV) : St :=
  ⟨[z 0, z 1, z 2, z 3, z 4, z 5, z 6, z 7, z 8, z 9, z 10, z 11, z 12, z 13, z 14, z 15, z 16, z 17, z 18, z 19], [], 64⟩
def Qdo (_p0 : List Val) (z : Nat → PV) (zo : Nat → List PV) : St :=
  ⟨[z 0, z 1, .bool false, z 3, z 4, z 5, z 6, z 7, z 8, z 9, z 10, z 11, z 12, z 13, z 14, z 15, z 16, z 17, z 18, z 19], [(192, ⟨5, 0, true, zo 192⟩)], 896⟩
def Q92 (p0 : List Val) (e : En) : Qye → Prop
  | .k0 => ∃ z zo, Q7 G e (.st (.exit 0) (Qlt p0 z zo))
  | .k1 => ∃ z zo, Q7 G e (.st .ret (Qdo p0 z zo))
theorem Qnh (p0 : List Val) {e e' : En} (h : ∀ r, Q7 G e r → Q7 G e' r) : ∀ q, Q92 p0 e q → Q92 p0 e' q
  | .k0, ⟨z, zo, hz⟩ => ⟨z, zo, h _ hz⟩
  | .k1, ⟨z, zo, hz⟩ => ⟨z, zo, h _ hz⟩
def Q9k (p0 : List Val) : Prop := (List.length p0 ≤ 4611686018427387904) ∧ (∀ x0 ∈ p0, H_Kz x0 3000) ∧ (∀ x0 ∈ p0, H_Ko x0) ∧ True
def Qmn (p0 : List Val) (i0 : Nat) : List PV :=
  [.un, .un, .un, .un, .un, .sl (Val.rows p0), .int .i64 ((List.length p0) : Int), .int .i64 (i0 : Int), .bool false]
def Qhg (_p0 : List Val) (_i0 : Nat) : List (Nat × List PV) :=
  []
theorem Qxl (p0 : List Val) (_H : Q9k p0) (i0 : Nat) (hc0 : (decide ((i0 : Int) < ((List.length p0) : Int))) = false) : Q92 p0 (Q9g p0 i0) (.k0) := by
 exact ⟨(envF (Qmn p0 i0)), (zoF (Qhg p0 i0)), Qe VOK.nil (x := ((.exit 0), Qlt p0 (envF (Qmn p0 i0)) (zoF (Qhg p0 i0)))) [hB 0 hc0] [] (by kernel_rfl)⟩
theorem Qwv (p0 : List Val) (H : Q9k p0) (x0 : Val) (i0 : Nat) (hx0 : p0[i0]? = some x0) (hi0 : i0 < List.length p0) (hc0 : (decide ((i0 : Int) < ((List.length p0) : Int))) = true) (h0 : (s_Kz x0 3000) = true) (h1 : (s_Ko x0) = true) {r : Rs} (hr : Q7 G (Q9g p0 (i0 + 1)) r) : Q7 G (Q9g p0 i0) r := by
 have hB0 := H.1
 exact Qb VOK.nil (y := (Qs1 p0 (i0 + 1), Qqm p0 (i0 + 1))) [hB 0 hc0, hP 0 (Q1o 5 (Val.rows p0) i0 _ (Val.Qg hx0) rfl), hP 11 (Qv i0 (by omega))] [aB (t_Kz x0 3000 (H.2.1 x0 (Qz hx0))) h0, aB (t_Ko x0 (H.2.2.1 x0 (Qz hx0))) h1] (by kernel_rfl) hr
def Qo1 (p0 : List Val) (i0 : Nat) (x0 : Val) : List PV :=
  [.un, .un, .un, .un, .bx 192 0, .sl (Val.rows p0), .int .i64 ((List.length p0) : Int), .int .i64 (i0 : Int), .bool true, .rf [.int .i64 x0.kind, .int .i64 x0.n, .str x0.s, .sl (Val.rows x0.list), .sl (Fld.rows x0.fields)], .agg [.int .i64 x0.kind, .int .i64 x0.n, .str x0.s, .sl (Val.rows x0.list), .sl (Fld.rows x0.fields)], .agg [.int .i64 x0.kind, .int .i64 x0.n, .str x0.s, .sl (Val.rows x0.list), .sl (Fld.rows x0.fields)], .bool true, .bool false, .bool false, .agg [.int .i64 x0.kind, .int .i64 x0.n, .str x0.s, .sl (Val.rows x0.list), .sl (Fld.rows x0.fields)], .bool false, .bool true, .bool true]
def Qhd (_p0 : List Val) (_i0 : Nat) (x0 : Val) : List (Nat × List PV) :=
  [(192, [.int .i64 x0.kind, .int .i64 x0.n, .str x0.s, .sl (Val.rows x0.list), .sl (Fld.rows x0.fields)])]
theorem Qw2 (p0 : List Val) (H : Q9k p0) (x0 : Val) (i0 : Nat) (hx0 : p0[i0]? = some x0) (_hi0 : i0 < List.length p0) (hc0 : (decide ((i0 : Int) < ((List.length p0) : Int))) = true) (h0 : (s_Kz x0 3000) = true) (h1 : (s_Ko x0) = false) : Q92 p0 (Q9g p0 i0) (.k1) := by
 exact ⟨(envF (Qo1 p0 i0 x0)), (zoF (Qhd p0 i0 x0)), Qe VOK.nil (x := (.ret, Qdo p0 (envF (Qo1 p0 i0 x0)) (zoF (Qhd p0 i0 x0)))) [hB 0 hc0, hP 0 (Q1o 5 (Val.rows p0) i0 _ (Val.Qg hx0) rfl)] [aB (t_Kz x0 3000 (H.2.1 x0 (Qz hx0))) h0, aB (t_Ko x0 (H.2.2.1 x0 (Qz hx0))) h1] (by kernel_rfl)⟩
def Qom (p0 : List Val) (i0 : Nat) (x0 : Val) : List PV :=
  [.un, .un, .un, .un, .bx 192 0, .sl (Val.rows p0), .int .i64 ((List.length p0) : Int), .int .i64 (i0 : Int), .bool true, .rf [.int .i64 x0.kind, .int .i64 x0.n, .str x0.s, .sl (Val.rows x0.list), .sl (Fld.rows x0.fields)], .agg [.int .i64 x0.kind, .int .i64 x0.n, .str x0.s, .sl (Val.rows x0.list), .sl (Fld.rows x0.fields)], .agg [.int .i64 x0.kind, .int .i64 x0.n, .str x0.s, .sl (Val.rows x0.list), .sl (Fld.rows x0.fields)], .bool false, .bool true, .bool true, .tup [], .tup [], .tup [], .bool true]
def Qhh (_p0 : List Val) (_i0 : Nat) (x0 : Val) : List (Nat × List PV) :=
  [(192, [.int .i64 x0.kind, .int .i64 x0.n, .str x0.s, .sl (Val.rows x0.list), .sl (Fld.rows x0.fields)])]
theorem Qwz (p0 : List Val) (H : Q9k p0) (x0 : Val) (i0 : Nat) (hx0 : p0[i0]? = some x0) (_hi0 : i0 < List.length p0) (hc0 : (decide ((i0 : Int) < ((List.length p0) : Int))) = true) (h0 : (s_Kz x0 3000) = false) : Q92 p0 (Q9g p0 i0) (.k1) := by
 exact ⟨(envF (Qom p0 i0 x0)), (zoF (Qhh p0 i0 x0)), Qe VOK.nil (x := (.ret, Qdo p0 (envF (Qom p0 i0 x0)) (zoF (Qhh p0 i0 x0)))) [hB 0 hc0, hP 0 (Q1o 5 (Val.rows p0) i0 _ (Val.Qg hx0) rfl)] [aB (t_Kz x0 3000 (H.2.1 x0 (Qz hx0))) h0] (by kernel_rfl)⟩
theorem Qs2 (p0 : List Val) (H : Q9k p0) : ∀ (r0 : List Val) (i0 : Nat), List.drop i0 p0 = r0 → Q92 p0 (Q9g p0 i0) (Q5g p0 r0 i0)
 | [], i0, hd => by
  have hc0 : (decide ((i0 : Int) < ((List.length p0) : Int))) = false := by have := Q1p hd; simp; omega
  rw [Q5g]
  exact Qxl p0 H i0 hc0
 | x0 :: r0, i0, hd => by
  obtain ⟨hx0, hi0, hd'⟩ := Q1d hd
  have hc0 : (decide ((i0 : Int) < ((List.length p0) : Int))) = true := by simp; omega
  rw [Q5g]
  cases h0 : (s_Kz x0 3000) with
  | true =>
   cases h1 : (s_Ko x0) with
   | true =>
    exact Qnh p0 (fun r hr => Qwv p0 H x0 i0 hx0 hi0 hc0 h0 h1 hr) _ (Qs2 p0 H r0 (i0 + 1) hd')
   | false =>
    exact Qw2 p0 H x0 i0 hx0 hi0 hc0 h0 h1
  | false =>
   exact Qwz p0 H x0 i0 hx0 hi0 hc0 h0
def s_Kd (p0 : List Val) : Bool :=
 (match (Q5g p0 p0 0) with
 | .k0 => true
 | .k1 => false)
def c_Kd (p0 : List Val) : En := .call 10 [.sl (Val.rows p0)] []
def a_Kd (p0 : List Val) : Rs := .ret (.bool (s_Kd p0)) []
def H_Kd (p0 : List Val) : Prop := (Q9k p0) ∧ True
theorem t_Kd (p0 : List Val) (H : H_Kd p0) : Q7 G (c_Kd p0) (a_Kd p0) := by
 unfold a_Kd s_Kd
 have hl0 := Qs2 p0 (H.1) p0 0 (by simp)
 cases hr0 : (Q5g p0 p0 0) with
 | k0 =>
  rw [hr0] at hl0
  obtain ⟨z0, zo0, hl0⟩ := hl0
  exact Q9 (fn := Ir.Kd) rfl VOK.nil [hP 2 (Qk (Val.rows p0) (List.length p0) (Val.Qd p0))] [aN hl0] (by kernel_rfl)
 | k1 =>
  rw [hr0] at hl0
  obtain ⟨z0, zo0, hl0⟩ := hl0
  exact Q9 (fn := Ir.Kd) rfl VOK.nil [hP 2 (Qk (Val.rows p0) (List.length p0) (Val.Qd p0))] [aN hl0] (by kernel_rfl)
theorem t_Ka : Q7 G (.call 11 [] []) (.ret (.bool true) []) := ⟨300, by kernel_rfl⟩
end Go.Proofs.Ytnhhddbbppbblaa
end

section
/- The laws on patches in plain words: few parts, deep validity, clean and compatible values; what the laws ask. -/
namespace Go.Proofs.Ytnhhddbbppbblaa
open Go.Pv
theorem Qmd (p : Val) (l : List Val) (i : Nat) {a : Int} (h : ¬ 0 ≤ a) : Q2o p l i a = a := by
  cases l with
  | nil => rw [Q2o]
  | cons x l => rw [Q2o, show decide (0 ≤ a) = false by simpa using h, cond_false]
theorem Qcc (p : Val) (l : List Fld) (i : Nat) {a : Int} (h : ¬ 0 ≤ a) : Q36 p l i a = a := by
  cases l with
  | nil => rw [Q36]
  | cons x l => rw [Q36, show decide (0 ≤ a) = false by simpa using h, cond_false]
theorem Qwd (p : Val) : ∀ (l : List Val) (i : Nat) (a : Int), a ≤ 3000 → (∀ x ∈ l, ∀ n, -1152921504606846976 ≤ n → n ≤ 3000 → 0 ≤ Q4c x n → Q4c x n + tot x ≤ n) → 0 ≤ Q2o p l i a → Q2o p l i a + totV l ≤ a
  | [], i, a, _, _, _ => by rw [Q2o, totV]; omega
  | x :: l, i, a, ha, hx, h => by
    by_cases c : 0 ≤ a
    · rw [Q2o, show decide (0 ≤ a) = true by simpa using c, cond_true] at h ⊢
      have k : 0 ≤ Q4c x a := by
        apply Decidable.byContradiction
        intro hn
        rw [Qmd p l _ hn] at h
        exact hn h
      have h1 := hx x List.mem_cons_self a (by omega) ha k
      have h2 := Qwd p l (i + 1) _ (by omega) (fun y hy => hx y (List.mem_cons_of_mem _ hy)) h
      rw [Qbv]
      omega
    · rw [Qmd p _ i c] at h
      exact absurd h c
theorem Qzm (p : Val) : ∀ (l : List Fld) (i : Nat) (a : Int), a ≤ 3000 → (∀ x ∈ l, okS x.name) → (∀ x ∈ l, ∀ n, -1152921504606846976 ≤ n → n ≤ 3000 → 0 ≤ Q4c x.v n → Q4c x.v n + tot x.v ≤ n) → 0 ≤ Q36 p l i a → Q36 p l i a + totF l ≤ a
  | [], i, a, _, _, _, _ => by rw [Q36, Q3e]; omega
  | x :: l, i, a, ha, hs, hx, h => by
    by_cases c : 0 ≤ a
    · have hn := hs x List.mem_cons_self
      unfold okS at hn
      rw [Q36, show decide (0 ≤ a) = true by simpa using c, cond_true, Qa7 (by omega)] at h ⊢
      have k : 0 ≤ Q4c x.v (a - (x.name.size : Int)) := by
        apply Decidable.byContradiction
        intro hn
        rw [Qcc p l _ hn] at h
        exact hn h
      have h1 := hx x List.mem_cons_self (a - (x.name.size : Int)) (by omega) (by omega) k
      have h2 := Qzm p l (i + 1) _ (by omega) (fun y hy => hs y (List.mem_cons_of_mem _ hy)) (fun y hy => hx y (List.mem_cons_of_mem _ hy)) h
      rw [Q1i]
      omega
    · rw [Qcc p _ i c] at h
      exact absurd h c
theorem Q10k {v : Val} (hv : Q2m v) : ∀ n, -1152921504606846976 ≤ n → n ≤ 3000 → 0 ≤ Q4c v n → Q4c v n + tot v ≤ n := by
  induction hv with
  | mk v _ _ h3 _ _ sl sn sf i1 i2 =>
    intro n hn hn' h
    unfold okS at h3
    have e1 : w64 (n - 1) = n - 1 := Qa7 (by omega)
    rw [Q4c, e1, Qa7 (by omega)] at h ⊢
    have k : 0 ≤ Q2o v v.list 0 (n - 1 - (v.s.size : Int)) := by
      apply Decidable.byContradiction
      intro hn
      rw [Qcc v _ _ hn] at h
      exact hn h
    have h1 := Qwd v v.list 0 (n - 1 - (v.s.size : Int)) (by omega) i1 k
    have h2 := Qzm v v.fields 0 _ (by omega) sn i2 h
    have h3 := Q9z v
    omega
theorem Q12m {v : Val} (hv : Q2m v) (h : s_Kz v 3000 = true) : tot v ≤ 3000 := by
  have h : decide (0 ≤ Q4c v 3000) = true := h
  have h0 := of_decide_eq_true h
  have := Q10k hv 3000 (by omega) (by omega) h0
  omega
theorem Qe7 (p : Val) (k : Int) (hp : p.fields.length ≤ 64) : ∀ (r : List Fld) (i : Nat), p.fields.drop i = r → Q2r p k r i = .k0 → (SS r ∧ (0 < i → ∀ y ∈ r, sCmp (p.fields.getD (i - 1) (.mk ⟨#[]⟩ (.mk 0 0 ⟨#[]⟩ [] []))).name y.name < 0)) ∧ ∀ y ∈ r, s_Kx y.v (w64 (k - 1)) = true
  | [], i, _, _ => ⟨⟨SS.nil, fun _ _ g => by cases g⟩, fun _ g => by cases g⟩
  | x :: r, i, hd, h => by
    obtain ⟨hx, hi, hd'⟩ := Q1d hd
    rw [Q2r] at h
    have hw : 0 < i → Int.toNat (w64 ((i : Int) - 1)) = i - 1 := fun h => by rw [Qa7 (by omega)]; omega
    have pr : Q2r p k r (i + 1) = .k0 ∧ (0 < i → sCmp (p.fields.getD (i - 1) (.mk ⟨#[]⟩ (.mk 0 0 ⟨#[]⟩ [] []))).name x.name < 0) ∧ s_Kx x.v (w64 (k - 1)) = true := by
      cases a : s_Kp x.name with
      | false => rw [a] at h; cases h
      | true =>
        rw [a, cond_true] at h
        by_cases c : 0 < i
        · rw [show decide (0 < (i : Int)) = true by simp; omega, cond_true, hw c, Q138] at h
          cases b : sLt (p.fields.getD (i - 1) (.mk ⟨#[]⟩ (.mk 0 0 ⟨#[]⟩ [] []))).name x.name with
          | false => rw [b] at h; cases h
          | true =>
            rw [b, Bool.not_true, cond_false] at h
            cases d : s_Kx x.v (w64 (k - 1)) with
            | false => rw [d] at h; cases h
            | true =>
              rw [d] at h
              refine ⟨h, fun _ => ?_, rfl⟩
              rw [Qpv] at b
              exact of_decide_eq_true b
        · rw [show decide (0 < (i : Int)) = false by simp; omega, cond_false] at h
          cases d : s_Kx x.v (w64 (k - 1)) with
          | false => rw [d] at h; cases h
          | true => rw [d] at h; exact ⟨h, fun g => absurd g c, rfl⟩
    obtain ⟨⟨s, t⟩, u⟩ := Qe7 p k hp r (i + 1) hd' pr.1
    have e : p.fields.getD (i + 1 - 1) (.mk ⟨#[]⟩ (.mk 0 0 ⟨#[]⟩ [] [])) = x := by rw [Nat.add_sub_cancel, List.getD_eq_getElem?_getD, hx]; rfl
    rw [e] at t
    refine ⟨⟨SS.cons.2 ⟨t (by omega), s⟩, fun c y hy => ?_⟩, fun y hy => ?_⟩
    · rcases List.mem_cons.1 hy with g | g
      · rw [g]; exact pr.2.1 c
      · exact Qj4 (pr.2.1 c) (t (by omega) y g)
    · rcases List.mem_cons.1 hy with g | g
      · rw [g]; exact pr.2.2
      · exact u y g
theorem Q104 : ∀ v : Val, ∀ k, s_Kx v k = true → DV v := Qkh fun v ih k h => by
  by_cases hk' : v.kind = 5
  · have h4 : (v.kind == 4) = false := by rw [hk']; rfl
    have h5 : (v.kind == 5) = true := by rw [hk']; rfl
    rw [s_Kx] at h
    cases k0 : k == 0 with
    | true => rw [k0] at h; cases h
    | false =>
      rw [k0, cond_false] at h
      cases sc : s_Kw v with
      | false => rw [sc] at h; cases h
      | true =>
        rw [sc, cond_true] at h
        cases l6 : decide (64 < (v.list.length : Int)) with
        | true => rw [l6] at h; cases h
        | false =>
          rw [l6, cond_false] at h
          cases f6 : decide (64 < (v.fields.length : Int)) with
          | true => rw [f6] at h; cases h
          | false =>
            rw [f6, cond_false, h4, cond_false] at h
            cases ll : decide (0 < (v.list.length : Int)) with
            | true => rw [ll] at h; cases h
            | false =>
              rw [ll, cond_false, h5, cond_true] at h
              have hf : v.fields.length ≤ 64 := by have := of_decide_eq_false f6; omega
              have hl : v.list = [] := List.length_eq_zero_iff.1 (by have := of_decide_eq_false ll; omega)
              cases b0 : Q3j v k v.list 0 with
              | k1 => rw [b0] at h; cases h
              | k0 =>
                rw [b0] at h
                cases b1 : Q2r v k v.fields 0 with
                | k1 => rw [b1] at h; cases h
                | k0 =>
                  obtain ⟨⟨s, _⟩, u⟩ := Qe7 v k hf v.fields 0 rfl b1
                  unfold s_Kw at sc
                  rw [hk'] at sc
                  simp only [show ((5 : Int) == 1) = false from rfl, show ((5 : Int) == 2) = false from rfl, show ((5 : Int) == 3) = false from rfl, show ((5 : Int) == 0) = false from rfl, show ((5 : Int) == 4) = false from rfl, show ((5 : Int) == 5) = true from rfl, cond_false, cond_true] at sc
                  cases n0 : v.n == 0 with
                  | false => rw [n0] at sc; cases sc
                  | true =>
                    rw [n0, cond_true] at sc
                    have e := Val.eta v
                    rw [hk', show v.n = 0 by simpa using n0, Q32.1 sc, hl] at e
                    exact .mk v (fun _ => ⟨v.fields, e.symm, s⟩) fun _ f hf' => ih f hf' _ (u f hf')
  · exact DV.leaf hk'
theorem Q10f {v : Val} (h : s_Ko v = true) : DV v := by
  unfold s_Ko at h
  cases e : s_Kx v 12 with
  | true => exact Q104 v 12 e
  | false => rw [e] at h; cases h
theorem Qlj (p : List Val) : ∀ (l : List Val) (i : Nat), Q5g p l i = .k0 → ∀ x ∈ l, s_Kz x 3000 = true ∧ s_Ko x = true
  | [], _, _ => fun _ g => by cases g
  | x :: l, i, h => by
    rw [Q5g] at h
    cases a : s_Kz x 3000 with
    | false => rw [a] at h; cases h
    | true =>
      cases b : s_Ko x with
      | false => rw [a, b] at h; cases h
      | true =>
        rw [a, b] at h
        intro y hy
        rcases List.mem_cons.1 hy with g | g
        · rw [g]; exact ⟨a, b⟩
        · exact Qlj p l (i + 1) h y g
theorem Qjm {l : List Val} (hl : ∀ x ∈ l, Q2m x) (h : s_Kd l = true) : ∀ x ∈ l, tot x ≤ 3000 ∧ DV x := fun x hx => by
  unfold s_Kd at h
  cases e : Q5g l l 0 with
  | k1 => rw [e] at h; cases h
  | k0 =>
    obtain ⟨a, b⟩ := Qlj l l 0 e x hx
    exact ⟨Q12m (hl x hx) a, Q10f b⟩
theorem Q15y {l : List Val} (hl : ∀ x ∈ l, Q2m x) (hn : l.length ≤ 100) : H_Kd l :=
  ⟨⟨by omega, fun x hx => ⟨(hl x hx).sm, trivial⟩, fun x hx => ⟨hl x hx, (hl x hx).sm, trivial⟩, trivial⟩, trivial⟩
theorem Qwc : ∀ q : Val, ∀ p, Q5q p q = true → Cm p q := Qkh fun q ih p h => by
  have hl : ∀ (l : List Fld), (∀ f ∈ l, ∀ p, Q5q p f.v = true → Cm p f.v) → ∀ i, Q3n p q l i = .k0 → ∀ f ∈ l, ∀ y, atN p f.name = some y → Cm y f.v := by
    intro l
    induction l with
    | nil => intro _ i _ f hf; cases hf
    | cons x l ihl =>
      intro hx i h f hf y hy
      have ih' := ihl (fun f hf => hx f (List.mem_cons_of_mem _ hf)) (i + 1)
      rw [Q3n, Q16l, Q16i] at h
      cases e : atN p x.name with
      | none =>
        rw [e] at h
        rcases List.mem_cons.1 hf with g | g
        · subst g; rw [e] at hy; cases hy
        · exact ih' h f g y hy
      | some z =>
        rw [e] at h
        simp only [Option.isSome_some, cond_true, Option.getD_some] at h
        cases d : Q5q z x.v with
        | false => rw [d] at h; cases h
        | true =>
          rw [d] at h
          rcases List.mem_cons.1 hf with g | g
          · subst g
            rw [e] at hy
            injection hy with hy
            rw [← hy]
            exact hx f List.mem_cons_self z d
          · exact ih' h f g y hy
  rw [Q5q] at h
  cases k : q.kind == 5 with
  | false => exact .mk p q (fun g => absurd g (by simpa using k)) fun g => absurd g (by simpa using k)
  | true =>
    rw [k, cond_true] at h
    cases kp : p.kind == 5 with
    | false => rw [kp] at h; cases h
    | true =>
      rw [kp, cond_true] at h
      cases e : Q3n p q q.fields 0 with
      | k1 => rw [e] at h; cases h
      | k0 => exact .mk p q (fun _ => by simpa using kp) fun _ => hl q.fields ih 0 e
theorem Qtf (v : Val) : s_Ky v v = true := (Qza v v).2 rfl
theorem alH {v : Val} (h : tot v ≤ 500000000) : H_Ky v := Qa1 (by omega)
theorem Q125 {a b A B : Nat} (h : a ≤ A) (g : b ≤ B) : a * b ≤ A * B := Nat.mul_le_mul h g
theorem two {a b : Val} {P : Val → Prop} (ha : P a) (hb : P b) : ∀ x ∈ [a, b], P x := by
  intro x hx
  simp only [List.mem_cons, List.not_mem_nil, or_false] at hx
  rcases hx with e | e <;> rw [e] <;> assumption
theorem three {a b c : Val} {P : Val → Prop} (ha : P a) (hb : P b) (hc : P c) : ∀ x ∈ [a, b, c], P x := by
  intro x hx
  simp only [List.mem_cons, List.not_mem_nil, or_false] at hx
  rcases hx with e | e | e <;> rw [e] <;> assumption
section
variable {a b c : Val}
theorem in3a : a ∈ [a, b, c] := List.mem_cons_self
theorem in3b : b ∈ [a, b, c] := List.mem_cons_of_mem _ List.mem_cons_self
theorem in3c : c ∈ [a, b, c] := List.mem_cons_of_mem _ (List.mem_cons_of_mem _ List.mem_cons_self)
end
end Go.Proofs.Ytnhhddbbppbblaa
end

section
/- What the law PatchCompose computes (printed by a program). -/
namespace Go.Proofs.Ytnhhddbbppbblaa
open Go.Pv
def s_K5 (p0 : Val) (p1 : Val) (p2 : Val) : Bool :=
 bif (s_Kd ([p0, p1, p2])) then
  bif (Q5q p1 p2) then
   bif (s_Ky (s_Kg (s_Kg p0 p1) p2) (s_Kg p0 (s_Ke p1 p2))) then
    true
   else
    false
  else
   true
 else
  true
def c_K5 (p0 : Val) (p1 : Val) (p2 : Val) : En := .call 6 [.agg (Val.cells p0), .agg (Val.cells p1), .agg (Val.cells p2)] []
def a_K5 (p0 : Val) (p1 : Val) (p2 : Val) : Rs := .ret (.bool (s_K5 p0 p1 p2)) []
def H_K5 (p0 : Val) (p1 : Val) (p2 : Val) : Prop := (H_Kd ([p0, p1, p2])) ∧ ((s_Kd ([p0, p1, p2])) = true → Qpr p1 p2) ∧ ((s_Kd ([p0, p1, p2])) = true → (Q5q p1 p2) = true → H_Kg p0 p1) ∧ ((s_Kd ([p0, p1, p2])) = true → (Q5q p1 p2) = true → H_Kg (s_Kg p0 p1) p2) ∧ ((s_Kd ([p0, p1, p2])) = true → (Q5q p1 p2) = true → H_Ke p1 p2) ∧ ((s_Kd ([p0, p1, p2])) = true → (Q5q p1 p2) = true → H_Kg p0 (s_Ke p1 p2)) ∧ ((s_Kd ([p0, p1, p2])) = true → (Q5q p1 p2) = true → H_Ky (s_Kg (s_Kg p0 p1) p2)) ∧ True
theorem t_K5 (p0 : Val) (p1 : Val) (p2 : Val) (H : H_K5 p0 p1 p2) : Q7 G (c_K5 p0 p1 p2) (a_K5 p0 p1 p2) := by
 unfold a_K5 s_K5
 cases h0 : (s_Kd ([p0, p1, p2])) with
 | true =>
  cases h1 : (Q5q p1 p2) with
  | true =>
   cases h2 : (s_Ky (s_Kg (s_Kg p0 p1) p2) (s_Kg p0 (s_Ke p1 p2))) with
   | true =>
    exact Q9 (fn := Ir.K5) rfl VOK.nil [] [aB (Qy0 (e' := .call 10 [.sl [(Val.cells p0), (Val.cells p1), (Val.cells p2)]] []) (t_Kd ([p0, p1, p2]) (H.1)) (by simp only [c_Kd, Val.Q2w, Val.Q46])) h0, aB (Q12y p1 p2 (H.2.1 h0)) h1, aN (t_Kg p0 p1 (H.2.2.1 h0 h1)), aN (t_Kg (s_Kg p0 p1) p2 (H.2.2.2.1 h0 h1)), aN (t_Ke p1 p2 (H.2.2.2.2.1 h0 h1)), aN (t_Kg p0 (s_Ke p1 p2) (H.2.2.2.2.2.1 h0 h1)), aB (t_Ky (s_Kg (s_Kg p0 p1) p2) (s_Kg p0 (s_Ke p1 p2)) (H.2.2.2.2.2.2.1 h0 h1)) h2, aN t_Ka] (by kernel_rfl)
   | false =>
    exact Q9 (fn := Ir.K5) rfl VOK.nil [] [aB (Qy0 (e' := .call 10 [.sl [(Val.cells p0), (Val.cells p1), (Val.cells p2)]] []) (t_Kd ([p0, p1, p2]) (H.1)) (by simp only [c_Kd, Val.Q2w, Val.Q46])) h0, aB (Q12y p1 p2 (H.2.1 h0)) h1, aN (t_Kg p0 p1 (H.2.2.1 h0 h1)), aN (t_Kg (s_Kg p0 p1) p2 (H.2.2.2.1 h0 h1)), aN (t_Ke p1 p2 (H.2.2.2.2.1 h0 h1)), aN (t_Kg p0 (s_Ke p1 p2) (H.2.2.2.2.2.1 h0 h1)), aB (t_Ky (s_Kg (s_Kg p0 p1) p2) (s_Kg p0 (s_Ke p1 p2)) (H.2.2.2.2.2.2.1 h0 h1)) h2] (by kernel_rfl)
  | false =>
   exact Q9 (fn := Ir.K5) rfl VOK.nil [] [aB (Qy0 (e' := .call 10 [.sl [(Val.cells p0), (Val.cells p1), (Val.cells p2)]] []) (t_Kd ([p0, p1, p2]) (H.1)) (by simp only [c_Kd, Val.Q2w, Val.Q46])) h0, aB (Q12y p1 p2 (H.2.1 h0)) h1, aN t_Ka] (by kernel_rfl)
 | false =>
  exact Q9 (fn := Ir.K5) rfl VOK.nil [] [aB (Qy0 (e' := .call 10 [.sl [(Val.cells p0), (Val.cells p1), (Val.cells p2)]] []) (t_Kd ([p0, p1, p2]) (H.1)) (by simp only [c_Kd, Val.Q2w, Val.Q46])) h0, aN t_Ka] (by kernel_rfl)
def tysPatchCompose : List Ty := [.nm 25, .nm 25, .nm 25]
theorem purePatchCompose (hp : ∀ (p0 : Val) (p1 : Val) (p2 : Val), Q2m p0 → Q2m p1 → Q2m p2 → H_K5 p0 p1 p2 ∧ s_K5 p0 p1 p2 = true) : ∀ qs, Args Γ tysPatchCompose qs → ∃ n, runs G n (.call 6 qs []) = some (.ret (.bool true) []) := by
  intro qs h
  cases qs with
  | nil => cases h
  | cons q0 qs =>
  obtain ⟨h0, h⟩ := h
  cases qs with
  | nil => cases h
  | cons q1 qs =>
  obtain ⟨h1, h⟩ := h
  cases qs with
  | nil => cases h
  | cons q2 qs =>
  obtain ⟨h2, h⟩ := h
  cases qs with
  | cons _ _ => cases h
  | nil =>
  obtain ⟨c0, rfl, g0⟩ := h0.agg rfl
  obtain ⟨p0, rfl, k0⟩ := (Qjz (Qxt 25) g0)
  obtain ⟨c1, rfl, g1⟩ := h1.agg rfl
  obtain ⟨p1, rfl, k1⟩ := (Qjz (Qxt 25) g1)
  obtain ⟨c2, rfl, g2⟩ := h2.agg rfl
  obtain ⟨p2, rfl, k2⟩ := (Qjz (Qxt 25) g2)
  have e := hp p0 p1 p2 k0 k1 k2
  have t := t_K5 p0 p1 p2 e.1
  unfold a_K5 at t
  rw [e.2] at t
  exact t
end Go.Proofs.Ytnhhddbbppbblaa
end

section
/- PatchCompose in plain words. -/
namespace Go.Proofs.Ytnhhddbbppbblaa
open Go.Pv
theorem compose_holds (v p q : Val) (hv : Q2m v) (hp : Q2m p) (hq : Q2m q) : H_K5 v p q ∧ s_K5 v p q = true := by
  have S : s_Kd [v, p, q] = true → (tot v ≤ 3000 ∧ DV v) ∧ (tot p ≤ 3000 ∧ DV p) ∧ (tot q ≤ 3000 ∧ DV q) := fun h => ⟨Qjm (three hv hp hq) h v in3a, Qjm (three hv hp hq) h p in3b, Qjm (three hv hp hq) h q in3c⟩
  refine ⟨⟨Q15y (three hv hp hq) (by simp), fun h => ?_, fun h _ => ?_, fun h _ => ?_, fun h _ => ?_, fun h _ => ?_, fun h _ => ?_, trivial⟩, ?_⟩
  · have := S h; exact ⟨Qa1 (by omega), Qa1 (by omega)⟩
  · have := S h; unfold H_Kg; omega
  · have := S h
    have := Qgo p v
    unfold H_Kg
    rw [Q2h]
    omega
  · have := S h
    have := Q125 this.2.1.1 this.2.2.1
    unfold H_Ke
    omega
  · have := S h
    have := Q125 this.2.1.1 this.2.2.1
    have := Q11u q p
    unfold H_Kg
    rw [Q5j]
    omega
  · have := S h
    have := Qgo p v
    have := Qgo q (mg v p)
    rw [Q2h, Q2h]
    exact alH (by omega)
  · unfold s_K5
    cases h : s_Kd [v, p, q] with
    | false => rfl
    | true =>
      cases c : Q5q p q with
      | false => rfl
      | true =>
        obtain ⟨⟨_, a⟩, ⟨_, b⟩, ⟨_, d⟩⟩ := S h
        rw [Q2h, Q2h, Q2h, Q5j, Q16w q d p b (Qwc q p c) v a, Qtf]
        rfl
end Go.Proofs.Ytnhhddbbppbblaa
end

section
/- The library's comparison of two strings, walked: it answers as the evaluator's cmpL. -/
namespace Go.Proofs.Ytnhhddbbppbblaa
open Go.Pv
theorem cmpL_eq : ∀ (a b : List UInt8), cmpL a b = Lib.compareBytes a b
  | [], [] => rfl
  | [], _ :: _ => rfl
  | _ :: _, [] => rfl
  | a :: x, b :: y => by
    rw [Lib.compareBytes, ← cmpL_eq x y]
    rfl
set_option maxHeartbeats 1000000 in
set_option maxRecDepth 100000 in
theorem comparing (a b : ByteArray) (w : World) :
    Calls Try.prog 54 #[.string a, .string b] w fun e w' => e = .returned (.int .i64 (Lib.compareBytes a.data.toList b.data.toList)) ∧ w' = w := by
  go_enter Try.func54, Try.ntmps54
  go_wp2
  rw [run_callFunc_extern Try.func68 (by kernel_rfl) (by kernel_rfl) (by kernel_rfl) (e := Extern.BytealgCompare.compare) (by kernel_rfl), Lib.run_compareString]
  simp only [Result.andThen]
  rw [Oper.upon_value]
  go_wp2
  go_ret
  exact ⟨rfl, rfl⟩
theorem cmpOK : Q10i Try.prog 54 := by
  refine ⟨⟨_, Try.func54, by kernel_rfl, by kernel_rfl⟩, fun x y w => ?_⟩
  have h := comparing x y w
  rw [← cmpL_eq, ← toList_data, ← toList_data] at h
  exact h
end Go.Proofs.Ytnhhddbbppbblaa
end

