/- Texts of the claim, merged by a program; what the statement does not reach is left out. -/
import Derived.Test.YtnhhddbbppbblaaBPatchDiffs6

section
/- What building a map computes (printed by a program). -/
namespace Go.Proofs.Ytnhhddbbppbblaa
open Go.Pv
def Q20 (n0 : Nat) (p1 : Int) : Nat → (List Fld) → Int → Int → (List Fld) × Int
 | 0, v0_0, v0_1, _v0_2 => (v0_0, v0_1)
 | k0 + 1, v0_0, v0_1, v0_2 =>
  bif (decide (v0_2 ≤ p1)) then
   Q20 n0 p1 k0 (Q1g n0 v0_0 v0_1 v0_2) v0_2 (v0_2 + 20)
  else
   (v0_0, v0_1)
def Qsj (n0 : Nat) (p1 : Int) (_v0_0 : List Fld) (v0_1 : Int) (v0_2 : Int) : List PV :=
  [.ms 0 6 0 n0, .int .i64 p1, .fn 43 [] [], .un, .un, .un, .int .i64 20, .int .i64 v0_1, .int .i64 v0_2, .un, .un, .un, .un, .un, .un, .un, .un, .un, .un, .un, .un, .un, .un, .un, .un, .un, .un, .un, .un, .un, .un, .un, .un, .un, .un, .un, .un, .un, .un, .un, .un, .un, .un, .un, .un, .un, .un, .un, .un, .un, .un, .un, .un, .un, .un, .un, .un, .un, .un, .un, .un, .un, .un]
def Qgs (_n0 : Nat) (_p1 : Int) (v0_0 : List Fld) (_v0_1 : Int) (_v0_2 : Int) : List Ob :=
  [⟨6, 0, false, (Fld.rows v0_0).flatten⟩]
def Qcq (n0 : Nat) (p1 : Int) (v0_0 : List Fld) (v0_1 : Int) (v0_2 : Int) : En := .loop 1 Ir.Qgx Ir.Q17f (Qsj n0 p1 v0_0 v0_1 v0_2) (Qgs n0 p1 v0_0 v0_1 v0_2)
def Qi5 (n0 : Nat) (p1 : Int) (q0 : List Fld) (q1 : Int) (z : Nat → PV) (_zo : Nat → List PV) : St :=
  ⟨[.ms 0 6 0 n0, .int .i64 p1, .fn 43 [] [], z 3, z 4, z 5, .int .i64 20, .int .i64 q1, z 8, z 9, z 10, z 11, z 12, z 13, z 14, z 15, z 16, z 17, z 18, z 19, z 20, z 21, z 22, z 23, z 24, z 25, z 26, z 27, z 28, z 29, z 30, z 31, z 32, z 33, z 34, z 35, z 36, z 37, z 38, z 39, z 40, z 41, z 42, z 43, z 44, z 45, z 46, z 47, z 48, z 49, z 50, z 51, z 52, z 53, z 54, z 55, z 56, z 57, z 58, z 59, z 60, z 61, z 62], [(0, ⟨6, 0, false, (Fld.rows q0).flatten⟩)], 193⟩
theorem Qv4 (n0 : Nat) (p1 : Int) (v0_0 : List Fld) (v0_1 : Int) (v0_2 : Int) : VOK (Go.Pv.look (number 0 (Qgs n0 p1 v0_0 v0_1 v0_2))) [(0, Fld.rows v0_0)] := (VOK.cons (show Seen _ _ from Q3v (ob := ⟨6, 0, false, (Fld.rows v0_0).flatten⟩) (Fld.Q5 v0_0 6 rfl)) VOK.nil)
def Qcr (n0 : Nat) (p1 : Int) (e : En) (q : (List Fld) × Int) : Prop := ∃ z zo, Q7 G e (.st (.exit 0) (Qi5 n0 p1 q.1 q.2 z zo))
theorem Qn7 (n0 : Nat) (p1 : Int) {e e' : En} (h : ∀ r, Q7 G e r → Q7 G e' r) : ∀ q, Qcr n0 p1 e q → Qcr n0 p1 e' q
  | _, ⟨z, zo, hz⟩ => ⟨z, zo, h _ hz⟩
theorem Qxa (n0 : Nat) (p1 : Int) (v0_0 : List Fld) (v0_1 : Int) (v0_2 : Int) (ho0_0 : 0 ≤ v0_1) (_ho0_1 : v0_1 ≤ n0) (ho0_2 : v0_1 + 20 = v0_2) (ho0_3 : p1 = n0) (ho0_4 : (n0 : Int) ≤ 1152921504606846976) (ho0_5 : List.length v0_0 = n0) (h0 : (decide (v0_2 ≤ p1)) = true) {r : Rs} (hr : Q7 G (Qcq n0 p1 (Q1g n0 v0_0 v0_1 v0_2) v0_2 (v0_2 + 20)) r) : Q7 G (Qcq n0 p1 v0_0 v0_1 v0_2) r := by
 have e0 := of_decide_eq_true h0
 exact Qa (Qv4 n0 p1 v0_0 v0_1 v0_2) (y := (Qsj n0 p1 (Q1g n0 v0_0 v0_1 v0_2) v0_2 (v0_2 + 20), Qgs n0 p1 (Q1g n0 v0_0 v0_1 v0_2) v0_2 (v0_2 + 20))) [hB 2 h0, hQ (Fld.Q5 (Q1g n0 v0_0 v0_1 v0_2) 6 rfl), hP 9 (w_ok (v0_2 + 20) (by have f0 := (Qw n0 v0_0 v0_1 v0_2 ho0_5); omega))] [aV [(0, Fld.rows (Q1g n0 v0_0 v0_1 v0_2))] (Qrt n0 v0_0 v0_1 v0_2 ho0_5 (by omega))] (by kernel_rfl) hr
def Ql3 (_n0 : Nat) (p1 : Int) (_v0_0 : List Fld) (_v0_1 : Int) (v0_2 : Int) : List PV :=
  [.un, .un, .un, .un, .un, .un, .un, .un, .int .i64 v0_2, .un, .un, .int .i64 v0_2, .int .i64 p1, .bool false]
def Qgb (_n0 : Nat) (_p1 : Int) (_v0_0 : List Fld) (_v0_1 : Int) (_v0_2 : Int) : List (Nat × List PV) :=
  []
theorem Qz9 (n0 : Nat) (p1 : Int) (v0_0 : List Fld) (v0_1 : Int) (v0_2 : Int) (_ho0_0 : 0 ≤ v0_1) (_ho0_1 : v0_1 ≤ n0) (_ho0_2 : v0_1 + 20 = v0_2) (_ho0_3 : p1 = n0) (_ho0_4 : (n0 : Int) ≤ 1152921504606846976) (_ho0_5 : List.length v0_0 = n0) (h0 : (decide (v0_2 ≤ p1)) = false) : Qcr n0 p1 (Qcq n0 p1 v0_0 v0_1 v0_2) (v0_0, v0_1) := by
 exact ⟨(envF (Ql3 n0 p1 v0_0 v0_1 v0_2)), (zoF (Qgb n0 p1 v0_0 v0_1 v0_2)), Qf (Qv4 n0 p1 v0_0 v0_1 v0_2) (x := ((.exit 0), Qi5 n0 p1 v0_0 v0_1 (envF (Ql3 n0 p1 v0_0 v0_1 v0_2)) (zoF (Qgb n0 p1 v0_0 v0_1 v0_2)))) [hB 2 h0] [] (by kernel_rfl)⟩
theorem Qp3 (n0 : Nat) (p1 : Int) : ∀ (k0 : Nat) (v0_0 : List Fld) (v0_1 : Int) (v0_2 : Int), 0 ≤ v0_1 → v0_1 ≤ n0 → v0_1 + 20 = v0_2 → p1 = n0 → (n0 : Int) ≤ 1152921504606846976 → List.length v0_0 = n0 → Int.toNat (p1 + 20 - v0_2) < k0 → Qcr n0 p1 (Qcq n0 p1 v0_0 v0_1 v0_2) (Q20 n0 p1 k0 v0_0 v0_1 v0_2)
 | 0, v0_0, v0_1, v0_2, _, _, _, _, _, _, hm => absurd hm (Nat.not_lt_zero _)
 | k0 + 1, v0_0, v0_1, v0_2, ho0_0, ho0_1, ho0_2, ho0_3, ho0_4, ho0_5, hm => by
  rw [Q20]
  cases h0 : (decide (v0_2 ≤ p1)) with
  | true =>
   have e0 := of_decide_eq_true h0
   exact Qn7 n0 p1 (fun r hr => Qxa n0 p1 v0_0 v0_1 v0_2 ho0_0 ho0_1 ho0_2 ho0_3 ho0_4 ho0_5 h0 hr) _ (Qp3 n0 p1 k0 (Q1g n0 v0_0 v0_1 v0_2) v0_2 (v0_2 + 20) (by have f0 := (Qw n0 v0_0 v0_1 v0_2 ho0_5); omega) (by have f0 := (Qw n0 v0_0 v0_1 v0_2 ho0_5); omega) (by have f0 := (Qw n0 v0_0 v0_1 v0_2 ho0_5); omega) (by have f0 := (Qw n0 v0_0 v0_1 v0_2 ho0_5); omega) (by have f0 := (Qw n0 v0_0 v0_1 v0_2 ho0_5); omega) (Qw n0 v0_0 v0_1 v0_2 ho0_5) (by have f0 := (Qw n0 v0_0 v0_1 v0_2 ho0_5); omega))
  | false =>
   exact Qz9 n0 p1 v0_0 v0_1 v0_2 ho0_0 ho0_1 ho0_2 ho0_3 ho0_4 ho0_5 h0
theorem Q8y (n0 : Nat) (p1 : Int) : ∀ (k0 : Nat) (v0_0 : List Fld) (v0_1 : Int) (v0_2 : Int), List.length v0_0 = n0 → List.length (Q20 n0 p1 k0 v0_0 v0_1 v0_2).1 = n0
 | 0, v0_0, v0_1, v0_2, ho0_5 => by rw [Q20]; exact ho0_5
 | k0 + 1, v0_0, v0_1, v0_2, ho0_5 => by
  rw [Q20]
  cases h0 : (decide (v0_2 ≤ p1)) with
  | true =>
   exact Q8y n0 p1 k0 (Q1g n0 v0_0 v0_1 v0_2) v0_2 (v0_2 + 20) (Qw n0 v0_0 v0_1 v0_2 ho0_5)
  | false =>
   exact ho0_5
theorem Qrw (n0 : Nat) (p1 : Int) : ∀ (k0 : Nat) (v0_0 : List Fld) (v0_1 : Int) (v0_2 : Int), 0 ≤ v0_1 → v0_1 ≤ n0 → v0_1 + 20 = v0_2 → p1 = n0 → (n0 : Int) ≤ 1152921504606846976 → List.length v0_0 = n0 → Int.toNat (p1 + 20 - v0_2) < k0 → 0 ≤ (Q20 n0 p1 k0 v0_0 v0_1 v0_2).2 ∧ (Q20 n0 p1 k0 v0_0 v0_1 v0_2).2 ≤ n0
 | 0, v0_0, v0_1, v0_2, _, _, _, _, _, _, hm => absurd hm (Nat.not_lt_zero _)
 | k0 + 1, v0_0, v0_1, v0_2, ho0_0, ho0_1, ho0_2, ho0_3, ho0_4, ho0_5, hm => by
  rw [Q20]
  cases h0 : (decide (v0_2 ≤ p1)) with
  | true =>
   have e0 := of_decide_eq_true h0
   exact Qrw n0 p1 k0 (Q1g n0 v0_0 v0_1 v0_2) v0_2 (v0_2 + 20) (by have f0 := (Qw n0 v0_0 v0_1 v0_2 ho0_5); omega) (by have f0 := (Qw n0 v0_0 v0_1 v0_2 ho0_5); omega) (by have f0 := (Qw n0 v0_0 v0_1 v0_2 ho0_5); omega) (by have f0 := (Qw n0 v0_0 v0_1 v0_2 ho0_5); omega) (by have f0 := (Qw n0 v0_0 v0_1 v0_2 ho0_5); omega) (Qw n0 v0_0 v0_1 v0_2 ho0_5) (by have f0 := (Qw n0 v0_0 v0_1 v0_2 ho0_5); omega)
  | false =>
   have e0 := of_decide_eq_false h0
   exact (show 0 ≤ v0_1 ∧ v0_1 ≤ n0 from ⟨(by omega), (by omega)⟩)
def Qd (n0 : Nat) (p1 : Int) : Nat → (List Fld) → Int → Int → Int → (List Fld) × Int × Int
 | 0, v2_0, v2_1, _v2_2, v2_3 => (v2_0, v2_3, v2_1)
 | k2 + 1, v2_0, v2_1, v2_2, v2_3 =>
  bif (decide (v2_2 ≤ p1)) then
   Qd n0 p1 k2 (Q6 ((Int.toNat (v2_2 - v2_1)) + 1) n0 v2_0 v2_1 (v2_1 + v2_3) v2_2) v2_2 (v2_2 + (2 * v2_3)) v2_3
  else
   (v2_0, v2_3, v2_1)
def Qrz (n0 : Nat) (p1 : Int) (_v2_0 : List Fld) (v2_1 : Int) (v2_2 : Int) (v2_3 : Int) : List PV :=
  [.ms 0 6 0 n0, .int .i64 p1, .fn 43 [] [], .un, .un, .un, .int .i64 v2_3, .int .i64 v2_1, .int .i64 v2_2, .un, .un, .un, .un, .un, .un, .un, .un, .un, .un, .un, .un, .un, .un, .un, .un, .un, .un, .un, .un, .un, .un, .un, .un, .un, .un, .un, .un, .un, .un, .un, .un, .un, .un, .un, .un, .un, .un, .un, .un, .un, .un, .un, .un, .un, .un, .un, .un, .un, .un, .un, .un, .un, .un]
def Qeg (_n0 : Nat) (_p1 : Int) (v2_0 : List Fld) (_v2_1 : Int) (_v2_2 : Int) (_v2_3 : Int) : List Ob :=
  [⟨6, 0, false, (Fld.rows v2_0).flatten⟩]
def Q7f (n0 : Nat) (p1 : Int) (v2_0 : List Fld) (v2_1 : Int) (v2_2 : Int) (v2_3 : Int) : En := .loop 1 Ir.Qfm Ir.Q172 (Qrz n0 p1 v2_0 v2_1 v2_2 v2_3) (Qeg n0 p1 v2_0 v2_1 v2_2 v2_3)
def Q83 (n0 : Nat) (p1 : Int) (q0 : List Fld) (q1 : Int) (q2 : Int) (z : Nat → PV) (_zo : Nat → List PV) : St :=
  ⟨[.ms 0 6 0 n0, .int .i64 p1, .fn 43 [] [], z 3, z 4, z 5, .int .i64 q1, .int .i64 q2, z 8, z 9, z 10, z 11, z 12, z 13, z 14, z 15, z 16, z 17, z 18, z 19, z 20, z 21, z 22, z 23, z 24, z 25, z 26, z 27, z 28, z 29, z 30, z 31, z 32, z 33, z 34, z 35, z 36, z 37, z 38, z 39, z 40, z 41, z 42, z 43, z 44, z 45, z 46, z 47, z 48, z 49, z 50, z 51, z 52, z 53, z 54, z 55, z 56, z 57, z 58, z 59, z 60, z 61, z 62], [(0, ⟨6, 0, false, (Fld.rows q0).flatten⟩)], 193⟩
theorem Qwg (n0 : Nat) (p1 : Int) (v2_0 : List Fld) (v2_1 : Int) (v2_2 : Int) (v2_3 : Int) : VOK (Go.Pv.look (number 0 (Qeg n0 p1 v2_0 v2_1 v2_2 v2_3))) [(0, Fld.rows v2_0)] := (VOK.cons (show Seen _ _ from Q3v (ob := ⟨6, 0, false, (Fld.rows v2_0).flatten⟩) (Fld.Q5 v2_0 6 rfl)) VOK.nil)
def Qct (n0 : Nat) (p1 : Int) (e : En) (q : (List Fld) × Int × Int) : Prop := ∃ z zo, Q7 G e (.st (.exit 4) (Q83 n0 p1 q.1 q.2.1 q.2.2 z zo))
theorem Qo9 (n0 : Nat) (p1 : Int) {e e' : En} (h : ∀ r, Q7 G e r → Q7 G e' r) : ∀ q, Qct n0 p1 e q → Qct n0 p1 e' q
  | _, ⟨z, zo, hz⟩ => ⟨z, zo, h _ hz⟩
theorem Qya (n0 : Nat) (p1 : Int) (v2_0 : List Fld) (v2_1 : Int) (v2_2 : Int) (v2_3 : Int) (ho2_0 : 0 ≤ v2_1) (ho2_1 : v2_1 ≤ n0) (ho2_2 : v2_1 + 2 * v2_3 = v2_2) (ho2_3 : 20 ≤ v2_3) (ho2_4 : v2_3 < p1) (ho2_5 : p1 = n0) (ho2_6 : (n0 : Int) ≤ 1152921504606846976) (ho2_7 : List.length v2_0 = n0) (h0 : (decide (v2_2 ≤ p1)) = true) {r : Rs} (hr : Q7 G (Q7f n0 p1 (Q6 ((Int.toNat (v2_2 - v2_1)) + 1) n0 v2_0 v2_1 (v2_1 + v2_3) v2_2) v2_2 (v2_2 + (2 * v2_3)) v2_3) r) : Q7 G (Q7f n0 p1 v2_0 v2_1 v2_2 v2_3) r := by
 have e0 := of_decide_eq_true h0
 exact Qa (Qwg n0 p1 v2_0 v2_1 v2_2 v2_3) (y := (Qrz n0 p1 (Q6 ((Int.toNat (v2_2 - v2_1)) + 1) n0 v2_0 v2_1 (v2_1 + v2_3) v2_2) v2_2 (v2_2 + (2 * v2_3)) v2_3, Qeg n0 p1 (Q6 ((Int.toNat (v2_2 - v2_1)) + 1) n0 v2_0 v2_1 (v2_1 + v2_3) v2_2) v2_2 (v2_2 + (2 * v2_3)) v2_3)) [hB 2 h0, hP 4 (w_ok (v2_1 + v2_3) (by omega)), hQ (Fld.Q5 (Q6 ((Int.toNat (v2_2 - v2_1)) + 1) n0 v2_0 v2_1 (v2_1 + v2_3) v2_2) 6 rfl), hP 7 (w_ok (2 * v2_3) (by have f0 := (Qc ((Int.toNat (v2_2 - v2_1)) + 1) n0 v2_0 v2_1 (v2_1 + v2_3) v2_2 ho2_7); omega)), hP 0 (w_ok (v2_2 + (2 * v2_3)) (by have f0 := (Qc ((Int.toNat (v2_2 - v2_1)) + 1) n0 v2_0 v2_1 (v2_1 + v2_3) v2_2 ho2_7); omega))] [aV [(0, Fld.rows (Q6 ((Int.toNat (v2_2 - v2_1)) + 1) n0 v2_0 v2_1 (v2_1 + v2_3) v2_2))] (Qhp ((Int.toNat (v2_2 - v2_1)) + 1) n0 v2_0 v2_1 (v2_1 + v2_3) v2_2 ho2_7 (by omega) (by omega))] (by kernel_rfl) hr
def Qi6 (_n0 : Nat) (p1 : Int) (_v2_0 : List Fld) (_v2_1 : Int) (v2_2 : Int) (_v2_3 : Int) : List PV :=
  [.un, .un, .un, .un, .un, .un, .un, .un, .int .i64 v2_2, .un, .un, .un, .un, .un, .un, .un, .un, .un, .un, .un, .un, .un, .un, .un, .un, .un, .un, .un, .un, .un, .un, .un, .un, .int .i64 v2_2, .int .i64 p1, .bool false]
def Qf9 (_n0 : Nat) (_p1 : Int) (_v2_0 : List Fld) (_v2_1 : Int) (_v2_2 : Int) (_v2_3 : Int) : List (Nat × List PV) :=
  []
theorem Qxr (n0 : Nat) (p1 : Int) (v2_0 : List Fld) (v2_1 : Int) (v2_2 : Int) (v2_3 : Int) (_ho2_0 : 0 ≤ v2_1) (_ho2_1 : v2_1 ≤ n0) (_ho2_2 : v2_1 + 2 * v2_3 = v2_2) (_ho2_3 : 20 ≤ v2_3) (_ho2_4 : v2_3 < p1) (_ho2_5 : p1 = n0) (_ho2_6 : (n0 : Int) ≤ 1152921504606846976) (_ho2_7 : List.length v2_0 = n0) (h0 : (decide (v2_2 ≤ p1)) = false) : Qct n0 p1 (Q7f n0 p1 v2_0 v2_1 v2_2 v2_3) (v2_0, v2_3, v2_1) := by
 exact ⟨(envF (Qi6 n0 p1 v2_0 v2_1 v2_2 v2_3)), (zoF (Qf9 n0 p1 v2_0 v2_1 v2_2 v2_3)), Qf (Qwg n0 p1 v2_0 v2_1 v2_2 v2_3) (x := ((.exit 4), Q83 n0 p1 v2_0 v2_3 v2_1 (envF (Qi6 n0 p1 v2_0 v2_1 v2_2 v2_3)) (zoF (Qf9 n0 p1 v2_0 v2_1 v2_2 v2_3)))) [hB 2 h0] [] (by kernel_rfl)⟩
theorem Qr8 (n0 : Nat) (p1 : Int) : ∀ (k2 : Nat) (v2_0 : List Fld) (v2_1 : Int) (v2_2 : Int) (v2_3 : Int), 0 ≤ v2_1 → v2_1 ≤ n0 → v2_1 + 2 * v2_3 = v2_2 → 20 ≤ v2_3 → v2_3 < p1 → p1 = n0 → (n0 : Int) ≤ 1152921504606846976 → List.length v2_0 = n0 → Int.toNat (p1 + 2 * v2_3 - v2_2) < k2 → Qct n0 p1 (Q7f n0 p1 v2_0 v2_1 v2_2 v2_3) (Qd n0 p1 k2 v2_0 v2_1 v2_2 v2_3)
 | 0, v2_0, v2_1, v2_2, v2_3, _, _, _, _, _, _, _, _, hm => absurd hm (Nat.not_lt_zero _)
 | k2 + 1, v2_0, v2_1, v2_2, v2_3, ho2_0, ho2_1, ho2_2, ho2_3, ho2_4, ho2_5, ho2_6, ho2_7, hm => by
  rw [Qd]
  cases h0 : (decide (v2_2 ≤ p1)) with
  | true =>
   have e0 := of_decide_eq_true h0
   exact Qo9 n0 p1 (fun r hr => Qya n0 p1 v2_0 v2_1 v2_2 v2_3 ho2_0 ho2_1 ho2_2 ho2_3 ho2_4 ho2_5 ho2_6 ho2_7 h0 hr) _ (Qr8 n0 p1 k2 (Q6 ((Int.toNat (v2_2 - v2_1)) + 1) n0 v2_0 v2_1 (v2_1 + v2_3) v2_2) v2_2 (v2_2 + (2 * v2_3)) v2_3 (by have f0 := (Qc ((Int.toNat (v2_2 - v2_1)) + 1) n0 v2_0 v2_1 (v2_1 + v2_3) v2_2 ho2_7); omega) (by have f0 := (Qc ((Int.toNat (v2_2 - v2_1)) + 1) n0 v2_0 v2_1 (v2_1 + v2_3) v2_2 ho2_7); omega) (by have f0 := (Qc ((Int.toNat (v2_2 - v2_1)) + 1) n0 v2_0 v2_1 (v2_1 + v2_3) v2_2 ho2_7); omega) (by have f0 := (Qc ((Int.toNat (v2_2 - v2_1)) + 1) n0 v2_0 v2_1 (v2_1 + v2_3) v2_2 ho2_7); omega) (by have f0 := (Qc ((Int.toNat (v2_2 - v2_1)) + 1) n0 v2_0 v2_1 (v2_1 + v2_3) v2_2 ho2_7); omega) (by have f0 := (Qc ((Int.toNat (v2_2 - v2_1)) + 1) n0 v2_0 v2_1 (v2_1 + v2_3) v2_2 ho2_7); omega) (by have f0 := (Qc ((Int.toNat (v2_2 - v2_1)) + 1) n0 v2_0 v2_1 (v2_1 + v2_3) v2_2 ho2_7); omega) (Qc ((Int.toNat (v2_2 - v2_1)) + 1) n0 v2_0 v2_1 (v2_1 + v2_3) v2_2 ho2_7) (by have f0 := (Qc ((Int.toNat (v2_2 - v2_1)) + 1) n0 v2_0 v2_1 (v2_1 + v2_3) v2_2 ho2_7); omega))
  | false =>
   exact Qxr n0 p1 v2_0 v2_1 v2_2 v2_3 ho2_0 ho2_1 ho2_2 ho2_3 ho2_4 ho2_5 ho2_6 ho2_7 h0
theorem Q1f (n0 : Nat) (p1 : Int) : ∀ (k2 : Nat) (v2_0 : List Fld) (v2_1 : Int) (v2_2 : Int) (v2_3 : Int), List.length v2_0 = n0 → List.length (Qd n0 p1 k2 v2_0 v2_1 v2_2 v2_3).1 = n0
 | 0, v2_0, v2_1, v2_2, v2_3, ho2_7 => by rw [Qd]; exact ho2_7
 | k2 + 1, v2_0, v2_1, v2_2, v2_3, ho2_7 => by
  rw [Qd]
  cases h0 : (decide (v2_2 ≤ p1)) with
  | true =>
   exact Q1f n0 p1 k2 (Q6 ((Int.toNat (v2_2 - v2_1)) + 1) n0 v2_0 v2_1 (v2_1 + v2_3) v2_2) v2_2 (v2_2 + (2 * v2_3)) v2_3 (Qc ((Int.toNat (v2_2 - v2_1)) + 1) n0 v2_0 v2_1 (v2_1 + v2_3) v2_2 ho2_7)
  | false =>
   exact ho2_7
theorem Q29 (n0 : Nat) (p1 : Int) : ∀ (k2 : Nat) (v2_0 : List Fld) (v2_1 : Int) (v2_2 : Int) (v2_3 : Int), 0 ≤ v2_1 → v2_1 ≤ n0 → v2_1 + 2 * v2_3 = v2_2 → 20 ≤ v2_3 → v2_3 < p1 → p1 = n0 → (n0 : Int) ≤ 1152921504606846976 → List.length v2_0 = n0 → Int.toNat (p1 + 2 * v2_3 - v2_2) < k2 → 0 ≤ (Qd n0 p1 k2 v2_0 v2_1 v2_2 v2_3).2.2 ∧ (Qd n0 p1 k2 v2_0 v2_1 v2_2 v2_3).2.2 ≤ n0 ∧ (Qd n0 p1 k2 v2_0 v2_1 v2_2 v2_3).2.1 = v2_3
 | 0, v2_0, v2_1, v2_2, v2_3, _, _, _, _, _, _, _, _, hm => absurd hm (Nat.not_lt_zero _)
 | k2 + 1, v2_0, v2_1, v2_2, v2_3, ho2_0, ho2_1, ho2_2, ho2_3, ho2_4, ho2_5, ho2_6, ho2_7, hm => by
  rw [Qd]
  cases h0 : (decide (v2_2 ≤ p1)) with
  | true =>
   have e0 := of_decide_eq_true h0
   exact Q29 n0 p1 k2 (Q6 ((Int.toNat (v2_2 - v2_1)) + 1) n0 v2_0 v2_1 (v2_1 + v2_3) v2_2) v2_2 (v2_2 + (2 * v2_3)) v2_3 (by have f0 := (Qc ((Int.toNat (v2_2 - v2_1)) + 1) n0 v2_0 v2_1 (v2_1 + v2_3) v2_2 ho2_7); omega) (by have f0 := (Qc ((Int.toNat (v2_2 - v2_1)) + 1) n0 v2_0 v2_1 (v2_1 + v2_3) v2_2 ho2_7); omega) (by have f0 := (Qc ((Int.toNat (v2_2 - v2_1)) + 1) n0 v2_0 v2_1 (v2_1 + v2_3) v2_2 ho2_7); omega) (by have f0 := (Qc ((Int.toNat (v2_2 - v2_1)) + 1) n0 v2_0 v2_1 (v2_1 + v2_3) v2_2 ho2_7); omega) (by have f0 := (Qc ((Int.toNat (v2_2 - v2_1)) + 1) n0 v2_0 v2_1 (v2_1 + v2_3) v2_2 ho2_7); omega) (by have f0 := (Qc ((Int.toNat (v2_2 - v2_1)) + 1) n0 v2_0 v2_1 (v2_1 + v2_3) v2_2 ho2_7); omega) (by have f0 := (Qc ((Int.toNat (v2_2 - v2_1)) + 1) n0 v2_0 v2_1 (v2_1 + v2_3) v2_2 ho2_7); omega) (Qc ((Int.toNat (v2_2 - v2_1)) + 1) n0 v2_0 v2_1 (v2_1 + v2_3) v2_2 ho2_7) (by have f0 := (Qc ((Int.toNat (v2_2 - v2_1)) + 1) n0 v2_0 v2_1 (v2_1 + v2_3) v2_2 ho2_7); omega)
  | false =>
   have e0 := of_decide_eq_false h0
   exact (show 0 ≤ v2_1 ∧ v2_1 ≤ n0 ∧ v2_3 = v2_3 from ⟨(by omega), (by omega), (by omega)⟩)
def Q2n (n0 : Nat) (p1 : Int) : Nat → (List Fld) → Int → List Fld
 | 0, v1_0, _v1_1 => v1_0
 | k1 + 1, v1_0, v1_1 =>
  bif (decide (v1_1 < p1)) then
   bif (decide (((Qd n0 p1 ((Int.toNat (p1 + 2 * v1_1 - (2 * v1_1))) + 1) v1_0 0 (2 * v1_1) v1_1).2.2 + (Qd n0 p1 ((Int.toNat (p1 + 2 * v1_1 - (2 * v1_1))) + 1) v1_0 0 (2 * v1_1) v1_1).2.1) < p1)) then
    Q2n n0 p1 k1 (Q6 ((Int.toNat (p1 - (Qd n0 p1 ((Int.toNat (p1 + 2 * v1_1 - (2 * v1_1))) + 1) v1_0 0 (2 * v1_1) v1_1).2.2)) + 1) n0 (Qd n0 p1 ((Int.toNat (p1 + 2 * v1_1 - (2 * v1_1))) + 1) v1_0 0 (2 * v1_1) v1_1).1 (Qd n0 p1 ((Int.toNat (p1 + 2 * v1_1 - (2 * v1_1))) + 1) v1_0 0 (2 * v1_1) v1_1).2.2 ((Qd n0 p1 ((Int.toNat (p1 + 2 * v1_1 - (2 * v1_1))) + 1) v1_0 0 (2 * v1_1) v1_1).2.2 + (Qd n0 p1 ((Int.toNat (p1 + 2 * v1_1 - (2 * v1_1))) + 1) v1_0 0 (2 * v1_1) v1_1).2.1) p1) ((Qd n0 p1 ((Int.toNat (p1 + 2 * v1_1 - (2 * v1_1))) + 1) v1_0 0 (2 * v1_1) v1_1).2.1 * 2)
   else
    Q2n n0 p1 k1 (Qd n0 p1 ((Int.toNat (p1 + 2 * v1_1 - (2 * v1_1))) + 1) v1_0 0 (2 * v1_1) v1_1).1 ((Qd n0 p1 ((Int.toNat (p1 + 2 * v1_1 - (2 * v1_1))) + 1) v1_0 0 (2 * v1_1) v1_1).2.1 * 2)
  else
   v1_0
def Qho (n0 : Nat) (p1 : Int) (_v1_0 : List Fld) (v1_1 : Int) : List PV :=
  [.ms 0 6 0 n0, .int .i64 p1, .fn 43 [] [], .un, .un, .un, .int .i64 v1_1, .un, .un, .un, .un, .un, .un, .un, .un, .un, .un, .un, .un, .un, .un, .un, .un, .un, .un, .un, .un, .un, .un, .un, .un, .un, .un, .un, .un, .un, .un, .un, .un, .un, .un, .un, .un, .un, .un, .un, .un, .un, .un, .un, .un, .un, .un, .un, .un, .un, .un, .un, .un, .un, .un, .un, .un]
def Q9s (_n0 : Nat) (_p1 : Int) (v1_0 : List Fld) (_v1_1 : Int) : List Ob :=
  [⟨6, 0, false, (Fld.rows v1_0).flatten⟩]
def Q7t (n0 : Nat) (p1 : Int) (v1_0 : List Fld) (v1_1 : Int) : En := .loop 1 Ir.Qgq Ir.Q17k (Qho n0 p1 v1_0 v1_1) (Q9s n0 p1 v1_0 v1_1)
def Qiw (_n0 : Nat) (_p1 : Int) (q0 : List Fld) (z : Nat → PV) (_zo : Nat → List PV) : St :=
  ⟨[z 0, z 1, z 2, z 3, z 4, z 5, z 6, z 7, z 8, z 9, z 10, z 11, z 12, z 13, z 14, z 15, z 16, z 17, z 18, z 19, z 20, z 21, z 22, z 23, z 24, z 25, z 26, z 27, z 28, z 29, z 30, z 31, z 32, z 33, z 34, z 35, z 36, z 37, z 38, z 39, z 40, z 41, z 42, z 43, z 44, z 45, z 46, z 47, z 48, z 49, z 50, z 51, z 52, z 53, z 54, z 55, z 56, z 57, z 58, z 59, z 60, z 61, z 62], [(0, ⟨6, 0, false, (Fld.rows q0).flatten⟩)], 193⟩
theorem Qn8 (n0 : Nat) (p1 : Int) (v1_0 : List Fld) (v1_1 : Int) : VOK (Go.Pv.look (number 0 (Q9s n0 p1 v1_0 v1_1))) [(0, Fld.rows v1_0)] := (VOK.cons (show Seen _ _ from Q3v (ob := ⟨6, 0, false, (Fld.rows v1_0).flatten⟩) (Fld.Q5 v1_0 6 rfl)) VOK.nil)
def Qd1 (n0 : Nat) (p1 : Int) (e : En) (q : List Fld) : Prop := ∃ z zo, Q7 G e (.st (.exit 2) (Qiw n0 p1 q z zo))
theorem Qad (n0 : Nat) (p1 : Int) {e e' : En} (h : ∀ r, Q7 G e r → Q7 G e' r) : ∀ q, Qd1 n0 p1 e q → Qd1 n0 p1 e' q
  | _, ⟨z, zo, hz⟩ => ⟨z, zo, h _ hz⟩
theorem Qy7 (n0 : Nat) (p1 : Int) (v1_0 : List Fld) (v1_1 : Int) (ho1_0 : 20 ≤ v1_1) (ho1_1 : p1 = n0) (ho1_2 : (n0 : Int) ≤ 1152921504606846976) (ho1_3 : List.length v1_0 = n0) (h0 : (decide (v1_1 < p1)) = true) (z1 : Nat → PV) (zo1 : Nat → List PV) (hl1 : Q7 G (Q7f n0 p1 v1_0 0 (2 * v1_1) v1_1) (.st (.exit 4) (Q83 n0 p1 (Qd n0 p1 ((Int.toNat (p1 + 2 * v1_1 - (2 * v1_1))) + 1) v1_0 0 (2 * v1_1) v1_1).1 (Qd n0 p1 ((Int.toNat (p1 + 2 * v1_1 - (2 * v1_1))) + 1) v1_0 0 (2 * v1_1) v1_1).2.1 (Qd n0 p1 ((Int.toNat (p1 + 2 * v1_1 - (2 * v1_1))) + 1) v1_0 0 (2 * v1_1) v1_1).2.2 z1 zo1))) (h1 : (decide (((Qd n0 p1 ((Int.toNat (p1 + 2 * v1_1 - (2 * v1_1))) + 1) v1_0 0 (2 * v1_1) v1_1).2.2 + (Qd n0 p1 ((Int.toNat (p1 + 2 * v1_1 - (2 * v1_1))) + 1) v1_0 0 (2 * v1_1) v1_1).2.1) < p1)) = true) {r : Rs} (hr : Q7 G (Q7t n0 p1 (Q6 ((Int.toNat (p1 - (Qd n0 p1 ((Int.toNat (p1 + 2 * v1_1 - (2 * v1_1))) + 1) v1_0 0 (2 * v1_1) v1_1).2.2)) + 1) n0 (Qd n0 p1 ((Int.toNat (p1 + 2 * v1_1 - (2 * v1_1))) + 1) v1_0 0 (2 * v1_1) v1_1).1 (Qd n0 p1 ((Int.toNat (p1 + 2 * v1_1 - (2 * v1_1))) + 1) v1_0 0 (2 * v1_1) v1_1).2.2 ((Qd n0 p1 ((Int.toNat (p1 + 2 * v1_1 - (2 * v1_1))) + 1) v1_0 0 (2 * v1_1) v1_1).2.2 + (Qd n0 p1 ((Int.toNat (p1 + 2 * v1_1 - (2 * v1_1))) + 1) v1_0 0 (2 * v1_1) v1_1).2.1) p1) ((Qd n0 p1 ((Int.toNat (p1 + 2 * v1_1 - (2 * v1_1))) + 1) v1_0 0 (2 * v1_1) v1_1).2.1 * 2)) r) : Q7 G (Q7t n0 p1 v1_0 v1_1) r := by
 have e0 := of_decide_eq_true h0; have e1 := of_decide_eq_true h1
 exact Qa (Qn8 n0 p1 v1_0 v1_1) (y := (Qho n0 p1 (Q6 ((Int.toNat (p1 - (Qd n0 p1 ((Int.toNat (p1 + 2 * v1_1 - (2 * v1_1))) + 1) v1_0 0 (2 * v1_1) v1_1).2.2)) + 1) n0 (Qd n0 p1 ((Int.toNat (p1 + 2 * v1_1 - (2 * v1_1))) + 1) v1_0 0 (2 * v1_1) v1_1).1 (Qd n0 p1 ((Int.toNat (p1 + 2 * v1_1 - (2 * v1_1))) + 1) v1_0 0 (2 * v1_1) v1_1).2.2 ((Qd n0 p1 ((Int.toNat (p1 + 2 * v1_1 - (2 * v1_1))) + 1) v1_0 0 (2 * v1_1) v1_1).2.2 + (Qd n0 p1 ((Int.toNat (p1 + 2 * v1_1 - (2 * v1_1))) + 1) v1_0 0 (2 * v1_1) v1_1).2.1) p1) ((Qd n0 p1 ((Int.toNat (p1 + 2 * v1_1 - (2 * v1_1))) + 1) v1_0 0 (2 * v1_1) v1_1).2.1 * 2), Q9s n0 p1 (Q6 ((Int.toNat (p1 - (Qd n0 p1 ((Int.toNat (p1 + 2 * v1_1 - (2 * v1_1))) + 1) v1_0 0 (2 * v1_1) v1_1).2.2)) + 1) n0 (Qd n0 p1 ((Int.toNat (p1 + 2 * v1_1 - (2 * v1_1))) + 1) v1_0 0 (2 * v1_1) v1_1).1 (Qd n0 p1 ((Int.toNat (p1 + 2 * v1_1 - (2 * v1_1))) + 1) v1_0 0 (2 * v1_1) v1_1).2.2 ((Qd n0 p1 ((Int.toNat (p1 + 2 * v1_1 - (2 * v1_1))) + 1) v1_0 0 (2 * v1_1) v1_1).2.2 + (Qd n0 p1 ((Int.toNat (p1 + 2 * v1_1 - (2 * v1_1))) + 1) v1_0 0 (2 * v1_1) v1_1).2.1) p1) ((Qd n0 p1 ((Int.toNat (p1 + 2 * v1_1 - (2 * v1_1))) + 1) v1_0 0 (2 * v1_1) v1_1).2.1 * 2))) [hB 2 h0, hP 1 (w_ok (2 * v1_1) (by omega)), hS 0 false (Fld.Q5 (Qd n0 p1 ((Int.toNat (p1 + 2 * v1_1 - (2 * v1_1))) + 1) v1_0 0 (2 * v1_1) v1_1).1 6 rfl), hP 4 (w_ok ((Qd n0 p1 ((Int.toNat (p1 + 2 * v1_1 - (2 * v1_1))) + 1) v1_0 0 (2 * v1_1) v1_1).2.2 + (Qd n0 p1 ((Int.toNat (p1 + 2 * v1_1 - (2 * v1_1))) + 1) v1_0 0 (2 * v1_1) v1_1).2.1) (by have f0 := (Q1f n0 p1 ((Int.toNat (p1 + 2 * v1_1 - (2 * v1_1))) + 1) v1_0 0 (2 * v1_1) v1_1 ho1_3); have g0 := Q29 n0 p1 ((Int.toNat (p1 + 2 * v1_1 - (2 * v1_1))) + 1) v1_0 0 (2 * v1_1) v1_1 (by omega) (by omega) (by omega) (by omega) (by omega) (by omega) (by omega) ho1_3 (by omega); omega)), hB 3 h1, hQ (Fld.Q5 (Q6 ((Int.toNat (p1 - (Qd n0 p1 ((Int.toNat (p1 + 2 * v1_1 - (2 * v1_1))) + 1) v1_0 0 (2 * v1_1) v1_1).2.2)) + 1) n0 (Qd n0 p1 ((Int.toNat (p1 + 2 * v1_1 - (2 * v1_1))) + 1) v1_0 0 (2 * v1_1) v1_1).1 (Qd n0 p1 ((Int.toNat (p1 + 2 * v1_1 - (2 * v1_1))) + 1) v1_0 0 (2 * v1_1) v1_1).2.2 ((Qd n0 p1 ((Int.toNat (p1 + 2 * v1_1 - (2 * v1_1))) + 1) v1_0 0 (2 * v1_1) v1_1).2.2 + (Qd n0 p1 ((Int.toNat (p1 + 2 * v1_1 - (2 * v1_1))) + 1) v1_0 0 (2 * v1_1) v1_1).2.1) p1) 6 rfl), hP 7 (w_ok ((Qd n0 p1 ((Int.toNat (p1 + 2 * v1_1 - (2 * v1_1))) + 1) v1_0 0 (2 * v1_1) v1_1).2.1 * 2) (by have f0 := (Qc ((Int.toNat (p1 - (Qd n0 p1 ((Int.toNat (p1 + 2 * v1_1 - (2 * v1_1))) + 1) v1_0 0 (2 * v1_1) v1_1).2.2)) + 1) n0 (Qd n0 p1 ((Int.toNat (p1 + 2 * v1_1 - (2 * v1_1))) + 1) v1_0 0 (2 * v1_1) v1_1).1 (Qd n0 p1 ((Int.toNat (p1 + 2 * v1_1 - (2 * v1_1))) + 1) v1_0 0 (2 * v1_1) v1_1).2.2 ((Qd n0 p1 ((Int.toNat (p1 + 2 * v1_1 - (2 * v1_1))) + 1) v1_0 0 (2 * v1_1) v1_1).2.2 + (Qd n0 p1 ((Int.toNat (p1 + 2 * v1_1 - (2 * v1_1))) + 1) v1_0 0 (2 * v1_1) v1_1).2.1) p1 (Q1f n0 p1 ((Int.toNat (p1 + 2 * v1_1 - (2 * v1_1))) + 1) v1_0 0 (2 * v1_1) v1_1 ho1_3)); have g0 := Q29 n0 p1 ((Int.toNat (p1 + 2 * v1_1 - (2 * v1_1))) + 1) v1_0 0 (2 * v1_1) v1_1 (by omega) (by omega) (by omega) (by omega) (by omega) (by omega) (by omega) ho1_3 (by omega); omega))] [aV [(0, Fld.rows (Qd n0 p1 ((Int.toNat (p1 + 2 * v1_1 - (2 * v1_1))) + 1) v1_0 0 (2 * v1_1) v1_1).1)] hl1, aV [(0, Fld.rows (Q6 ((Int.toNat (p1 - (Qd n0 p1 ((Int.toNat (p1 + 2 * v1_1 - (2 * v1_1))) + 1) v1_0 0 (2 * v1_1) v1_1).2.2)) + 1) n0 (Qd n0 p1 ((Int.toNat (p1 + 2 * v1_1 - (2 * v1_1))) + 1) v1_0 0 (2 * v1_1) v1_1).1 (Qd n0 p1 ((Int.toNat (p1 + 2 * v1_1 - (2 * v1_1))) + 1) v1_0 0 (2 * v1_1) v1_1).2.2 ((Qd n0 p1 ((Int.toNat (p1 + 2 * v1_1 - (2 * v1_1))) + 1) v1_0 0 (2 * v1_1) v1_1).2.2 + (Qd n0 p1 ((Int.toNat (p1 + 2 * v1_1 - (2 * v1_1))) + 1) v1_0 0 (2 * v1_1) v1_1).2.1) p1))] (Qhp ((Int.toNat (p1 - (Qd n0 p1 ((Int.toNat (p1 + 2 * v1_1 - (2 * v1_1))) + 1) v1_0 0 (2 * v1_1) v1_1).2.2)) + 1) n0 (Qd n0 p1 ((Int.toNat (p1 + 2 * v1_1 - (2 * v1_1))) + 1) v1_0 0 (2 * v1_1) v1_1).1 (Qd n0 p1 ((Int.toNat (p1 + 2 * v1_1 - (2 * v1_1))) + 1) v1_0 0 (2 * v1_1) v1_1).2.2 ((Qd n0 p1 ((Int.toNat (p1 + 2 * v1_1 - (2 * v1_1))) + 1) v1_0 0 (2 * v1_1) v1_1).2.2 + (Qd n0 p1 ((Int.toNat (p1 + 2 * v1_1 - (2 * v1_1))) + 1) v1_0 0 (2 * v1_1) v1_1).2.1) p1 (Q1f n0 p1 ((Int.toNat (p1 + 2 * v1_1 - (2 * v1_1))) + 1) v1_0 0 (2 * v1_1) v1_1 ho1_3) (by have f0 := (Q1f n0 p1 ((Int.toNat (p1 + 2 * v1_1 - (2 * v1_1))) + 1) v1_0 0 (2 * v1_1) v1_1 ho1_3); have g0 := Q29 n0 p1 ((Int.toNat (p1 + 2 * v1_1 - (2 * v1_1))) + 1) v1_0 0 (2 * v1_1) v1_1 (by omega) (by omega) (by omega) (by omega) (by omega) (by omega) (by omega) ho1_3 (by omega); omega) (by omega))] (by kernel_rfl) hr
theorem Qwv (n0 : Nat) (p1 : Int) (v1_0 : List Fld) (v1_1 : Int) (ho1_0 : 20 ≤ v1_1) (ho1_1 : p1 = n0) (ho1_2 : (n0 : Int) ≤ 1152921504606846976) (ho1_3 : List.length v1_0 = n0) (h0 : (decide (v1_1 < p1)) = true) (z1 : Nat → PV) (zo1 : Nat → List PV) (hl1 : Q7 G (Q7f n0 p1 v1_0 0 (2 * v1_1) v1_1) (.st (.exit 4) (Q83 n0 p1 (Qd n0 p1 ((Int.toNat (p1 + 2 * v1_1 - (2 * v1_1))) + 1) v1_0 0 (2 * v1_1) v1_1).1 (Qd n0 p1 ((Int.toNat (p1 + 2 * v1_1 - (2 * v1_1))) + 1) v1_0 0 (2 * v1_1) v1_1).2.1 (Qd n0 p1 ((Int.toNat (p1 + 2 * v1_1 - (2 * v1_1))) + 1) v1_0 0 (2 * v1_1) v1_1).2.2 z1 zo1))) (h1 : (decide (((Qd n0 p1 ((Int.toNat (p1 + 2 * v1_1 - (2 * v1_1))) + 1) v1_0 0 (2 * v1_1) v1_1).2.2 + (Qd n0 p1 ((Int.toNat (p1 + 2 * v1_1 - (2 * v1_1))) + 1) v1_0 0 (2 * v1_1) v1_1).2.1) < p1)) = false) {r : Rs} (hr : Q7 G (Q7t n0 p1 (Qd n0 p1 ((Int.toNat (p1 + 2 * v1_1 - (2 * v1_1))) + 1) v1_0 0 (2 * v1_1) v1_1).1 ((Qd n0 p1 ((Int.toNat (p1 + 2 * v1_1 - (2 * v1_1))) + 1) v1_0 0 (2 * v1_1) v1_1).2.1 * 2)) r) : Q7 G (Q7t n0 p1 v1_0 v1_1) r := by
 have e0 := of_decide_eq_true h0; have e1 := of_decide_eq_false h1
 exact Qa (Qn8 n0 p1 v1_0 v1_1) (y := (Qho n0 p1 (Qd n0 p1 ((Int.toNat (p1 + 2 * v1_1 - (2 * v1_1))) + 1) v1_0 0 (2 * v1_1) v1_1).1 ((Qd n0 p1 ((Int.toNat (p1 + 2 * v1_1 - (2 * v1_1))) + 1) v1_0 0 (2 * v1_1) v1_1).2.1 * 2), Q9s n0 p1 (Qd n0 p1 ((Int.toNat (p1 + 2 * v1_1 - (2 * v1_1))) + 1) v1_0 0 (2 * v1_1) v1_1).1 ((Qd n0 p1 ((Int.toNat (p1 + 2 * v1_1 - (2 * v1_1))) + 1) v1_0 0 (2 * v1_1) v1_1).2.1 * 2))) [hB 2 h0, hP 1 (w_ok (2 * v1_1) (by omega)), hS 0 false (Fld.Q5 (Qd n0 p1 ((Int.toNat (p1 + 2 * v1_1 - (2 * v1_1))) + 1) v1_0 0 (2 * v1_1) v1_1).1 6 rfl), hP 4 (w_ok ((Qd n0 p1 ((Int.toNat (p1 + 2 * v1_1 - (2 * v1_1))) + 1) v1_0 0 (2 * v1_1) v1_1).2.2 + (Qd n0 p1 ((Int.toNat (p1 + 2 * v1_1 - (2 * v1_1))) + 1) v1_0 0 (2 * v1_1) v1_1).2.1) (by have f0 := (Q1f n0 p1 ((Int.toNat (p1 + 2 * v1_1 - (2 * v1_1))) + 1) v1_0 0 (2 * v1_1) v1_1 ho1_3); have g0 := Q29 n0 p1 ((Int.toNat (p1 + 2 * v1_1 - (2 * v1_1))) + 1) v1_0 0 (2 * v1_1) v1_1 (by omega) (by omega) (by omega) (by omega) (by omega) (by omega) (by omega) ho1_3 (by omega); omega)), hB 3 h1, hP 1 (w_ok ((Qd n0 p1 ((Int.toNat (p1 + 2 * v1_1 - (2 * v1_1))) + 1) v1_0 0 (2 * v1_1) v1_1).2.1 * 2) (by have f0 := (Q1f n0 p1 ((Int.toNat (p1 + 2 * v1_1 - (2 * v1_1))) + 1) v1_0 0 (2 * v1_1) v1_1 ho1_3); have g0 := Q29 n0 p1 ((Int.toNat (p1 + 2 * v1_1 - (2 * v1_1))) + 1) v1_0 0 (2 * v1_1) v1_1 (by omega) (by omega) (by omega) (by omega) (by omega) (by omega) (by omega) ho1_3 (by omega); omega))] [aV [(0, Fld.rows (Qd n0 p1 ((Int.toNat (p1 + 2 * v1_1 - (2 * v1_1))) + 1) v1_0 0 (2 * v1_1) v1_1).1)] hl1] (by kernel_rfl) hr
def Qi7 (n0 : Nat) (p1 : Int) (_v1_0 : List Fld) (v1_1 : Int) : List PV :=
  [.ms 0 6 0 n0, .int .i64 p1, .fn 43 [] [], .un, .un, .un, .int .i64 v1_1, .un, .un, .un, .un, .un, .un, .un, .un, .un, .un, .un, .un, .un, .un, .un, .un, .un, .un, .un, .un, .un, .int .i64 v1_1, .int .i64 p1, .bool false]
def Qhn (_n0 : Nat) (_p1 : Int) (_v1_0 : List Fld) (_v1_1 : Int) : List (Nat × List PV) :=
  []
theorem Q105 (n0 : Nat) (p1 : Int) (v1_0 : List Fld) (v1_1 : Int) (_ho1_0 : 20 ≤ v1_1) (_ho1_1 : p1 = n0) (_ho1_2 : (n0 : Int) ≤ 1152921504606846976) (_ho1_3 : List.length v1_0 = n0) (h0 : (decide (v1_1 < p1)) = false) : Qd1 n0 p1 (Q7t n0 p1 v1_0 v1_1) v1_0 := by
 exact ⟨(envF (Qi7 n0 p1 v1_0 v1_1)), (zoF (Qhn n0 p1 v1_0 v1_1)), Qf (Qn8 n0 p1 v1_0 v1_1) (x := ((.exit 2), Qiw n0 p1 v1_0 (envF (Qi7 n0 p1 v1_0 v1_1)) (zoF (Qhn n0 p1 v1_0 v1_1)))) [hB 2 h0] [] (by kernel_rfl)⟩
theorem Qfy (n0 : Nat) (p1 : Int) : ∀ (k1 : Nat) (v1_0 : List Fld) (v1_1 : Int), 20 ≤ v1_1 → p1 = n0 → (n0 : Int) ≤ 1152921504606846976 → List.length v1_0 = n0 → Int.toNat (p1 - v1_1) < k1 → Qd1 n0 p1 (Q7t n0 p1 v1_0 v1_1) (Q2n n0 p1 k1 v1_0 v1_1)
 | 0, v1_0, v1_1, _, _, _, _, hm => absurd hm (Nat.not_lt_zero _)
 | k1 + 1, v1_0, v1_1, ho1_0, ho1_1, ho1_2, ho1_3, hm => by
  rw [Q2n]
  cases h0 : (decide (v1_1 < p1)) with
  | true =>
   have e0 := of_decide_eq_true h0
   have hl1 := Qr8 n0 p1 ((Int.toNat (p1 + 2 * v1_1 - (2 * v1_1))) + 1) v1_0 0 (2 * v1_1) v1_1 (by omega) (by omega) (by omega) (by omega) (by omega) (by omega) (by omega) ho1_3 (by omega)
   obtain ⟨z1, zo1, hl1⟩ := hl1
   cases h1 : (decide (((Qd n0 p1 ((Int.toNat (p1 + 2 * v1_1 - (2 * v1_1))) + 1) v1_0 0 (2 * v1_1) v1_1).2.2 + (Qd n0 p1 ((Int.toNat (p1 + 2 * v1_1 - (2 * v1_1))) + 1) v1_0 0 (2 * v1_1) v1_1).2.1) < p1)) with
   | true =>
    have e1 := of_decide_eq_true h1
    exact Qad n0 p1 (fun r hr => Qy7 n0 p1 v1_0 v1_1 ho1_0 ho1_1 ho1_2 ho1_3 h0 z1 zo1 hl1 h1 hr) _ (Qfy n0 p1 k1 (Q6 ((Int.toNat (p1 - (Qd n0 p1 ((Int.toNat (p1 + 2 * v1_1 - (2 * v1_1))) + 1) v1_0 0 (2 * v1_1) v1_1).2.2)) + 1) n0 (Qd n0 p1 ((Int.toNat (p1 + 2 * v1_1 - (2 * v1_1))) + 1) v1_0 0 (2 * v1_1) v1_1).1 (Qd n0 p1 ((Int.toNat (p1 + 2 * v1_1 - (2 * v1_1))) + 1) v1_0 0 (2 * v1_1) v1_1).2.2 ((Qd n0 p1 ((Int.toNat (p1 + 2 * v1_1 - (2 * v1_1))) + 1) v1_0 0 (2 * v1_1) v1_1).2.2 + (Qd n0 p1 ((Int.toNat (p1 + 2 * v1_1 - (2 * v1_1))) + 1) v1_0 0 (2 * v1_1) v1_1).2.1) p1) ((Qd n0 p1 ((Int.toNat (p1 + 2 * v1_1 - (2 * v1_1))) + 1) v1_0 0 (2 * v1_1) v1_1).2.1 * 2) (by have f0 := (Qc ((Int.toNat (p1 - (Qd n0 p1 ((Int.toNat (p1 + 2 * v1_1 - (2 * v1_1))) + 1) v1_0 0 (2 * v1_1) v1_1).2.2)) + 1) n0 (Qd n0 p1 ((Int.toNat (p1 + 2 * v1_1 - (2 * v1_1))) + 1) v1_0 0 (2 * v1_1) v1_1).1 (Qd n0 p1 ((Int.toNat (p1 + 2 * v1_1 - (2 * v1_1))) + 1) v1_0 0 (2 * v1_1) v1_1).2.2 ((Qd n0 p1 ((Int.toNat (p1 + 2 * v1_1 - (2 * v1_1))) + 1) v1_0 0 (2 * v1_1) v1_1).2.2 + (Qd n0 p1 ((Int.toNat (p1 + 2 * v1_1 - (2 * v1_1))) + 1) v1_0 0 (2 * v1_1) v1_1).2.1) p1 (Q1f n0 p1 ((Int.toNat (p1 + 2 * v1_1 - (2 * v1_1))) + 1) v1_0 0 (2 * v1_1) v1_1 ho1_3)); have g0 := Q29 n0 p1 ((Int.toNat (p1 + 2 * v1_1 - (2 * v1_1))) + 1) v1_0 0 (2 * v1_1) v1_1 (by omega) (by omega) (by omega) (by omega) (by omega) (by omega) (by omega) ho1_3 (by omega); omega) (by have f0 := (Qc ((Int.toNat (p1 - (Qd n0 p1 ((Int.toNat (p1 + 2 * v1_1 - (2 * v1_1))) + 1) v1_0 0 (2 * v1_1) v1_1).2.2)) + 1) n0 (Qd n0 p1 ((Int.toNat (p1 + 2 * v1_1 - (2 * v1_1))) + 1) v1_0 0 (2 * v1_1) v1_1).1 (Qd n0 p1 ((Int.toNat (p1 + 2 * v1_1 - (2 * v1_1))) + 1) v1_0 0 (2 * v1_1) v1_1).2.2 ((Qd n0 p1 ((Int.toNat (p1 + 2 * v1_1 - (2 * v1_1))) + 1) v1_0 0 (2 * v1_1) v1_1).2.2 + (Qd n0 p1 ((Int.toNat (p1 + 2 * v1_1 - (2 * v1_1))) + 1) v1_0 0 (2 * v1_1) v1_1).2.1) p1 (Q1f n0 p1 ((Int.toNat (p1 + 2 * v1_1 - (2 * v1_1))) + 1) v1_0 0 (2 * v1_1) v1_1 ho1_3)); have g0 := Q29 n0 p1 ((Int.toNat (p1 + 2 * v1_1 - (2 * v1_1))) + 1) v1_0 0 (2 * v1_1) v1_1 (by omega) (by omega) (by omega) (by omega) (by omega) (by omega) (by omega) ho1_3 (by omega); omega) (by have f0 := (Qc ((Int.toNat (p1 - (Qd n0 p1 ((Int.toNat (p1 + 2 * v1_1 - (2 * v1_1))) + 1) v1_0 0 (2 * v1_1) v1_1).2.2)) + 1) n0 (Qd n0 p1 ((Int.toNat (p1 + 2 * v1_1 - (2 * v1_1))) + 1) v1_0 0 (2 * v1_1) v1_1).1 (Qd n0 p1 ((Int.toNat (p1 + 2 * v1_1 - (2 * v1_1))) + 1) v1_0 0 (2 * v1_1) v1_1).2.2 ((Qd n0 p1 ((Int.toNat (p1 + 2 * v1_1 - (2 * v1_1))) + 1) v1_0 0 (2 * v1_1) v1_1).2.2 + (Qd n0 p1 ((Int.toNat (p1 + 2 * v1_1 - (2 * v1_1))) + 1) v1_0 0 (2 * v1_1) v1_1).2.1) p1 (Q1f n0 p1 ((Int.toNat (p1 + 2 * v1_1 - (2 * v1_1))) + 1) v1_0 0 (2 * v1_1) v1_1 ho1_3)); have g0 := Q29 n0 p1 ((Int.toNat (p1 + 2 * v1_1 - (2 * v1_1))) + 1) v1_0 0 (2 * v1_1) v1_1 (by omega) (by omega) (by omega) (by omega) (by omega) (by omega) (by omega) ho1_3 (by omega); omega) (Qc ((Int.toNat (p1 - (Qd n0 p1 ((Int.toNat (p1 + 2 * v1_1 - (2 * v1_1))) + 1) v1_0 0 (2 * v1_1) v1_1).2.2)) + 1) n0 (Qd n0 p1 ((Int.toNat (p1 + 2 * v1_1 - (2 * v1_1))) + 1) v1_0 0 (2 * v1_1) v1_1).1 (Qd n0 p1 ((Int.toNat (p1 + 2 * v1_1 - (2 * v1_1))) + 1) v1_0 0 (2 * v1_1) v1_1).2.2 ((Qd n0 p1 ((Int.toNat (p1 + 2 * v1_1 - (2 * v1_1))) + 1) v1_0 0 (2 * v1_1) v1_1).2.2 + (Qd n0 p1 ((Int.toNat (p1 + 2 * v1_1 - (2 * v1_1))) + 1) v1_0 0 (2 * v1_1) v1_1).2.1) p1 (Q1f n0 p1 ((Int.toNat (p1 + 2 * v1_1 - (2 * v1_1))) + 1) v1_0 0 (2 * v1_1) v1_1 ho1_3)) (by have f0 := (Qc ((Int.toNat (p1 - (Qd n0 p1 ((Int.toNat (p1 + 2 * v1_1 - (2 * v1_1))) + 1) v1_0 0 (2 * v1_1) v1_1).2.2)) + 1) n0 (Qd n0 p1 ((Int.toNat (p1 + 2 * v1_1 - (2 * v1_1))) + 1) v1_0 0 (2 * v1_1) v1_1).1 (Qd n0 p1 ((Int.toNat (p1 + 2 * v1_1 - (2 * v1_1))) + 1) v1_0 0 (2 * v1_1) v1_1).2.2 ((Qd n0 p1 ((Int.toNat (p1 + 2 * v1_1 - (2 * v1_1))) + 1) v1_0 0 (2 * v1_1) v1_1).2.2 + (Qd n0 p1 ((Int.toNat (p1 + 2 * v1_1 - (2 * v1_1))) + 1) v1_0 0 (2 * v1_1) v1_1).2.1) p1 (Q1f n0 p1 ((Int.toNat (p1 + 2 * v1_1 - (2 * v1_1))) + 1) v1_0 0 (2 * v1_1) v1_1 ho1_3)); have g0 := Q29 n0 p1 ((Int.toNat (p1 + 2 * v1_1 - (2 * v1_1))) + 1) v1_0 0 (2 * v1_1) v1_1 (by omega) (by omega) (by omega) (by omega) (by omega) (by omega) (by omega) ho1_3 (by omega); omega))
   | false =>
    have e1 := of_decide_eq_false h1
    exact Qad n0 p1 (fun r hr => Qwv n0 p1 v1_0 v1_1 ho1_0 ho1_1 ho1_2 ho1_3 h0 z1 zo1 hl1 h1 hr) _ (Qfy n0 p1 k1 (Qd n0 p1 ((Int.toNat (p1 + 2 * v1_1 - (2 * v1_1))) + 1) v1_0 0 (2 * v1_1) v1_1).1 ((Qd n0 p1 ((Int.toNat (p1 + 2 * v1_1 - (2 * v1_1))) + 1) v1_0 0 (2 * v1_1) v1_1).2.1 * 2) (by have f0 := (Q1f n0 p1 ((Int.toNat (p1 + 2 * v1_1 - (2 * v1_1))) + 1) v1_0 0 (2 * v1_1) v1_1 ho1_3); have g0 := Q29 n0 p1 ((Int.toNat (p1 + 2 * v1_1 - (2 * v1_1))) + 1) v1_0 0 (2 * v1_1) v1_1 (by omega) (by omega) (by omega) (by omega) (by omega) (by omega) (by omega) ho1_3 (by omega); omega) (by have f0 := (Q1f n0 p1 ((Int.toNat (p1 + 2 * v1_1 - (2 * v1_1))) + 1) v1_0 0 (2 * v1_1) v1_1 ho1_3); have g0 := Q29 n0 p1 ((Int.toNat (p1 + 2 * v1_1 - (2 * v1_1))) + 1) v1_0 0 (2 * v1_1) v1_1 (by omega) (by omega) (by omega) (by omega) (by omega) (by omega) (by omega) ho1_3 (by omega); omega) (by have f0 := (Q1f n0 p1 ((Int.toNat (p1 + 2 * v1_1 - (2 * v1_1))) + 1) v1_0 0 (2 * v1_1) v1_1 ho1_3); have g0 := Q29 n0 p1 ((Int.toNat (p1 + 2 * v1_1 - (2 * v1_1))) + 1) v1_0 0 (2 * v1_1) v1_1 (by omega) (by omega) (by omega) (by omega) (by omega) (by omega) (by omega) ho1_3 (by omega); omega) (Q1f n0 p1 ((Int.toNat (p1 + 2 * v1_1 - (2 * v1_1))) + 1) v1_0 0 (2 * v1_1) v1_1 ho1_3) (by have f0 := (Q1f n0 p1 ((Int.toNat (p1 + 2 * v1_1 - (2 * v1_1))) + 1) v1_0 0 (2 * v1_1) v1_1 ho1_3); have g0 := Q29 n0 p1 ((Int.toNat (p1 + 2 * v1_1 - (2 * v1_1))) + 1) v1_0 0 (2 * v1_1) v1_1 (by omega) (by omega) (by omega) (by omega) (by omega) (by omega) (by omega) ho1_3 (by omega); omega))
  | false =>
   exact Q105 n0 p1 v1_0 v1_1 ho1_0 ho1_1 ho1_2 ho1_3 h0
theorem Q6f (n0 : Nat) (p1 : Int) : ∀ (k1 : Nat) (v1_0 : List Fld) (v1_1 : Int), List.length v1_0 = n0 → List.length (Q2n n0 p1 k1 v1_0 v1_1) = n0
 | 0, v1_0, v1_1, ho1_3 => by rw [Q2n]; exact ho1_3
 | k1 + 1, v1_0, v1_1, ho1_3 => by
  rw [Q2n]
  cases h0 : (decide (v1_1 < p1)) with
  | true =>
   cases h1 : (decide (((Qd n0 p1 ((Int.toNat (p1 + 2 * v1_1 - (2 * v1_1))) + 1) v1_0 0 (2 * v1_1) v1_1).2.2 + (Qd n0 p1 ((Int.toNat (p1 + 2 * v1_1 - (2 * v1_1))) + 1) v1_0 0 (2 * v1_1) v1_1).2.1) < p1)) with
   | true =>
    exact Q6f n0 p1 k1 (Q6 ((Int.toNat (p1 - (Qd n0 p1 ((Int.toNat (p1 + 2 * v1_1 - (2 * v1_1))) + 1) v1_0 0 (2 * v1_1) v1_1).2.2)) + 1) n0 (Qd n0 p1 ((Int.toNat (p1 + 2 * v1_1 - (2 * v1_1))) + 1) v1_0 0 (2 * v1_1) v1_1).1 (Qd n0 p1 ((Int.toNat (p1 + 2 * v1_1 - (2 * v1_1))) + 1) v1_0 0 (2 * v1_1) v1_1).2.2 ((Qd n0 p1 ((Int.toNat (p1 + 2 * v1_1 - (2 * v1_1))) + 1) v1_0 0 (2 * v1_1) v1_1).2.2 + (Qd n0 p1 ((Int.toNat (p1 + 2 * v1_1 - (2 * v1_1))) + 1) v1_0 0 (2 * v1_1) v1_1).2.1) p1) ((Qd n0 p1 ((Int.toNat (p1 + 2 * v1_1 - (2 * v1_1))) + 1) v1_0 0 (2 * v1_1) v1_1).2.1 * 2) (Qc ((Int.toNat (p1 - (Qd n0 p1 ((Int.toNat (p1 + 2 * v1_1 - (2 * v1_1))) + 1) v1_0 0 (2 * v1_1) v1_1).2.2)) + 1) n0 (Qd n0 p1 ((Int.toNat (p1 + 2 * v1_1 - (2 * v1_1))) + 1) v1_0 0 (2 * v1_1) v1_1).1 (Qd n0 p1 ((Int.toNat (p1 + 2 * v1_1 - (2 * v1_1))) + 1) v1_0 0 (2 * v1_1) v1_1).2.2 ((Qd n0 p1 ((Int.toNat (p1 + 2 * v1_1 - (2 * v1_1))) + 1) v1_0 0 (2 * v1_1) v1_1).2.2 + (Qd n0 p1 ((Int.toNat (p1 + 2 * v1_1 - (2 * v1_1))) + 1) v1_0 0 (2 * v1_1) v1_1).2.1) p1 (Q1f n0 p1 ((Int.toNat (p1 + 2 * v1_1 - (2 * v1_1))) + 1) v1_0 0 (2 * v1_1) v1_1 ho1_3))
   | false =>
    exact Q6f n0 p1 k1 (Qd n0 p1 ((Int.toNat (p1 + 2 * v1_1 - (2 * v1_1))) + 1) v1_0 0 (2 * v1_1) v1_1).1 ((Qd n0 p1 ((Int.toNat (p1 + 2 * v1_1 - (2 * v1_1))) + 1) v1_0 0 (2 * v1_1) v1_1).2.1 * 2) (Q1f n0 p1 ((Int.toNat (p1 + 2 * v1_1 - (2 * v1_1))) + 1) v1_0 0 (2 * v1_1) v1_1 ho1_3)
  | false =>
   exact ho1_3
def Q3g (n0 : Nat) (p0 : List Fld) (p1 : Int) : List Fld :=
 (Q2n n0 p1 ((Int.toNat (p1 - 20)) + 1) (Q1g n0 (Q20 n0 p1 ((Int.toNat (p1 + 20 - 20)) + 1) p0 0 20).1 (Q20 n0 p1 ((Int.toNat (p1 + 20 - 20)) + 1) p0 0 20).2 p1) 20)
def Q14g (n0 : Nat) (p0 : List Fld) (p1 : Int) : En := .call 53 [.ms 0 6 0 n0, .int .i64 p1, .fn 43 [] []] [⟨6, 0, false, (Fld.rows p0).flatten⟩]
def Qs9 (n0 : Nat) (p0 : List Fld) (p1 : Int) : Rs := .ret (.tup []) [⟨6, 0, false, (Fld.rows (Q3g n0 p0 p1)).flatten⟩]
theorem Qoz (n0 : Nat) (p0 : List Fld) (p1 : Int) (hn : List.length p0 = n0) : List.length (Q3g n0 p0 p1) = n0 := by
 unfold Q3g
 have hz0_0 : List.length (Q20 n0 p1 ((Int.toNat (p1 + 20 - 20)) + 1) p0 0 20).1 = n0 := Q8y n0 p1 ((Int.toNat (p1 + 20 - 20)) + 1) p0 0 20 hn
 obtain ⟨R8, eR8⟩ : ∃ R, (Q20 n0 p1 ((Int.toNat (p1 + 20 - 20)) + 1) p0 0 20) = R := ⟨_, rfl⟩
 rw [eR8] at hz0_0 ⊢
 have hz1_0 : List.length (Q2n n0 p1 ((Int.toNat (p1 - 20)) + 1) (Q1g n0 R8.1 R8.2 p1) 20) = n0 := Q6f n0 p1 ((Int.toNat (p1 - 20)) + 1) (Q1g n0 R8.1 R8.2 p1) 20 (Qw n0 R8.1 R8.2 p1 hz0_0)
 obtain ⟨R9, eR9⟩ : ∃ R, (Q2n n0 p1 ((Int.toNat (p1 - 20)) + 1) (Q1g n0 R8.1 R8.2 p1) 20) = R := ⟨_, rfl⟩
 rw [eR9] at hz1_0 ⊢
 exact hz1_0
theorem Q13o (n0 : Nat) (p0 : List Fld) (p1 : Int) (hn : List.length p0 = n0) (hq0 : 0 ≤ p1 ∧ p1 = n0 ∧ (n0 : Int) ≤ 1152921504606846976) : Q7 G (Q14g n0 p0 p1) (Qs9 n0 p0 p1) := by
 unfold Qs9 Q3g
 have hl0 := Qp3 n0 p1 ((Int.toNat (p1 + 20 - 20)) + 1) p0 0 20 (by omega) (by omega) (by omega) (by omega) (by omega) hn (by omega)
 have hz0_0 : List.length (Q20 n0 p1 ((Int.toNat (p1 + 20 - 20)) + 1) p0 0 20).1 = n0 := Q8y n0 p1 ((Int.toNat (p1 + 20 - 20)) + 1) p0 0 20 hn
 have hy0 : 0 ≤ (Q20 n0 p1 ((Int.toNat (p1 + 20 - 20)) + 1) p0 0 20).2 ∧ (Q20 n0 p1 ((Int.toNat (p1 + 20 - 20)) + 1) p0 0 20).2 ≤ n0 := Qrw n0 p1 ((Int.toNat (p1 + 20 - 20)) + 1) p0 0 20 (by omega) (by omega) (by omega) (by omega) (by omega) hn (by omega)
 obtain ⟨R8, eR8⟩ : ∃ R, (Q20 n0 p1 ((Int.toNat (p1 + 20 - 20)) + 1) p0 0 20) = R := ⟨_, rfl⟩
 rw [eR8] at hz0_0 hy0 hl0 ⊢
 obtain ⟨z0, zo0, hl0⟩ := hl0
 have hl1 := Qfy n0 p1 ((Int.toNat (p1 - 20)) + 1) (Q1g n0 R8.1 R8.2 p1) 20 (by have f0 := (Qw n0 R8.1 R8.2 p1 hz0_0); have g0 := hy0; omega) (by have f0 := (Qw n0 R8.1 R8.2 p1 hz0_0); have g0 := hy0; omega) (by have f0 := (Qw n0 R8.1 R8.2 p1 hz0_0); have g0 := hy0; omega) (Qw n0 R8.1 R8.2 p1 hz0_0) (by omega)
 have hz1_0 : List.length (Q2n n0 p1 ((Int.toNat (p1 - 20)) + 1) (Q1g n0 R8.1 R8.2 p1) 20) = n0 := Q6f n0 p1 ((Int.toNat (p1 - 20)) + 1) (Q1g n0 R8.1 R8.2 p1) 20 (Qw n0 R8.1 R8.2 p1 hz0_0)
 obtain ⟨R9, eR9⟩ : ∃ R, (Q2n n0 p1 ((Int.toNat (p1 - 20)) + 1) (Q1g n0 R8.1 R8.2 p1) 20) = R := ⟨_, rfl⟩
 rw [eR9] at hz1_0 hl1 ⊢
 obtain ⟨z1, zo1, hl1⟩ := hl1
 exact Q9 (fn := Ir.K1d) rfl (vk1 (Fld.Q5 p0 6 rfl)) [hS 0 false (Fld.Q5 R8.1 6 rfl), hQ (Fld.Q5 (Q1g n0 R8.1 R8.2 p1) 6 rfl), hS 0 false (Fld.Q5 R9 6 rfl)] [aV [(0, Fld.rows R8.1)] hl0, aV [(0, Fld.rows (Q1g n0 R8.1 R8.2 p1))] (Qrt n0 R8.1 R8.2 p1 hz0_0 (by have g0 := hy0; omega)), aV [(0, Fld.rows R9)] hl1] (by kernel_rfl)
def Qk (n0 : Nat) (p0 : List Fld) : List Fld :=
 (Q3g n0 p0 (n0 : Int))
def Q11b (n0 : Nat) (p0 : List Fld) : En := .call 42 [.ms 0 6 0 n0, .fn 43 [] []] [⟨6, 0, false, (Fld.rows p0).flatten⟩]
def Qrg (n0 : Nat) (p0 : List Fld) : Rs := .ret (.tup []) [⟨6, 0, false, (Fld.rows (Qk n0 p0)).flatten⟩]
theorem Q1l (n0 : Nat) (p0 : List Fld) (hn : List.length p0 = n0) : List.length (Qk n0 p0) = n0 := by
 unfold Qk
 exact (Qoz n0 p0 (n0 : Int) hn)
theorem Q10t (n0 : Nat) (p0 : List Fld) (hn : List.length p0 = n0) (hq0 : (n0 : Int) ≤ 1152921504606846976) : Q7 G (Q11b n0 p0) (Qrg n0 p0) := by
 unfold Qrg Qk
 exact Q9 (fn := Ir.K1a) rfl (vk1 (Fld.Q5 p0 6 rfl)) [hQ (Fld.Q5 (Q3g n0 p0 (n0 : Int)) 6 rfl)] [aV [(0, Fld.rows (Q3g n0 p0 (n0 : Int)))] (Q13o n0 p0 (n0 : Int) hn (by omega))] (by kernel_rfl)
def Q25 (p0 : List Fld) : List Fld → Nat → (List Fld) → List Fld
 | [], _i0, v0_1 =>
  v0_1
 | x0 :: r0, i0, v0_1 =>
  bif (((i0 + 1 : Nat) : Int) == ((List.length p0) : Int)) then
   Q25 p0 r0 (i0 + 1) (v0_1 ++ [x0])
  else
   bif (sEq (List.getD (Qk (List.length p0) p0) (Int.toNat ((i0 + 1 : Nat) : Int)) zF).name x0.name) then
    Q25 p0 r0 (i0 + 1) v0_1
   else
    Q25 p0 r0 (i0 + 1) (v0_1 ++ [x0])
def Qag (p0 : List Fld) (i0 : Nat) (_v0_1 : List Fld) : List PV :=
  [.un, .un, .bx 0 0, .ms 1 6 0 (List.length p0), .bx 2 0, .un, .un, .un, .un, .un, .un, .un, .ms 1 6 0 (List.length p0), .int .i64 ((List.length p0) : Int), .int .i64 (i0 : Int), .un, .un, .un, .un, .un, .un, .un, .un, .un, .un, .un, .un, .un, .un, .un, .un, .un, .un, .un, .un, .un, .un, .un, .un, .un, .un, .un, .un, .un]
def Q7c (p0 : List Fld) (_i0 : Nat) (v0_1 : List Fld) : List Ob :=
  [⟨5, 0, true, [.int .i64 0, .int .i64 0, .str eB, .ms 3 5 0 0, .ms 4 6 0 0]⟩, ⟨6, 0, false, (Fld.rows (Qk (List.length p0) p0)).flatten⟩, ⟨5, 0, true, [.int .i64 5, .int .i64 0, .str eB, .ms 5 5 0 0, .ms 6 6 0 (List.length v0_1)]⟩, ⟨5, 0, true, []⟩, ⟨6, 0, true, []⟩, ⟨5, 0, true, []⟩, ⟨6, 0, true, (Fld.rows v0_1).flatten⟩]
def Q57 (p0 : List Fld) (i0 : Nat) (v0_1 : List Fld) : En := .loop 0 Ir.Qez Ir.Q16z (Qag p0 i0 v0_1) (Q7c p0 i0 v0_1)
def Qka (p0 : List Fld) (q0 : List Fld) (z : Nat → PV) (_zo : Nat → List PV) : St :=
  ⟨[z 0, z 1, .bx 0 0, z 3, .bx 2 0, z 5, z 6, z 7, z 8, z 9, z 10, z 11, z 12, z 13, z 14, z 15, z 16, z 17, z 18, z 19, z 20, z 21, z 22, z 23, z 24, z 25, z 26, z 27, z 28, z 29, z 30, z 31, z 32, z 33, z 34, z 35, z 36, z 37, z 38, z 39, z 40, z 41, z 42, z 43], [(0, ⟨5, 0, true, [.int .i64 0, .int .i64 0, .str eB, .ms 3 5 0 0, .ms 4 6 0 0]⟩), (1, ⟨6, 0, false, (Fld.rows (Qk (List.length p0) p0)).flatten⟩), (2, ⟨5, 0, true, [.int .i64 5, .int .i64 0, .str eB, .ms 5 5 0 0, .ms 6 6 0 (List.length q0)]⟩), (3, ⟨5, 0, true, []⟩), (4, ⟨6, 0, true, []⟩), (5, ⟨5, 0, true, []⟩), (6, ⟨6, 0, true, (Fld.rows q0).flatten⟩)], 71⟩
theorem Qcm (p0 : List Fld) (i0 : Nat) (v0_1 : List Fld) : VOK (Go.Pv.look (number 0 (Q7c p0 i0 v0_1))) [(1, Fld.rows (Qk (List.length p0) p0)), (6, Fld.rows v0_1)] := (VOK.cons (show Seen _ _ from Q3v (ob := ⟨6, 0, false, (Fld.rows (Qk (List.length p0) p0)).flatten⟩) (Fld.Q5 (Qk (List.length p0) p0) 6 rfl)) (VOK.cons (show Seen _ _ from Q3v (ob := ⟨6, 0, true, (Fld.rows v0_1).flatten⟩) (Fld.Q5 v0_1 6 rfl)) VOK.nil))
def Qd2 (p0 : List Fld) (e : En) (q : List Fld) : Prop := ∃ z zo, Q7 G e (.st (.exit 0) (Qka p0 q z zo))
theorem Q69 (p0 : List Fld) {e e' : En} (h : ∀ r, Q7 G e r → Q7 G e' r) : ∀ q, Qd2 p0 e q → Qd2 p0 e' q
  | _, ⟨z, zo, hz⟩ => ⟨z, zo, h _ hz⟩
def Q85 (p0 : List Fld) : Prop := (List.length (Qk (List.length p0) p0) ≤ 137438953472) ∧ True
def Qk8 (p0 : List Fld) (i0 : Nat) (_v0_1 : List Fld) : List PV :=
  [.un, .un, .un, .ms 1 6 0 (List.length p0), .un, .un, .un, .un, .un, .un, .un, .un, .ms 1 6 0 (List.length p0), .int .i64 ((List.length p0) : Int), .int .i64 (i0 : Int), .bool false]
def Qha (_p0 : List Fld) (_i0 : Nat) (_v0_1 : List Fld) : List (Nat × List PV) :=
  []
theorem Qy6 (p0 : List Fld) (_H : Q85 p0) (i0 : Nat) (v0_1 : List Fld) (_ho0_0 : List.length v0_1 ≤ i0) (hc0 : (decide ((i0 : Int) < ((List.length p0) : Int))) = false) : Qd2 p0 (Q57 p0 i0 v0_1) v0_1 := by
 exact ⟨(envF (Qk8 p0 i0 v0_1)), (zoF (Qha p0 i0 v0_1)), Qf (Qcm p0 i0 v0_1) (x := ((.exit 0), Qka p0 v0_1 (envF (Qk8 p0 i0 v0_1)) (zoF (Qha p0 i0 v0_1)))) [hB 0 hc0] [] (by kernel_rfl)⟩
theorem Qxz (p0 : List Fld) (H : Q85 p0) (x0 : Fld) (i0 : Nat) (v0_1 : List Fld) (hx0 : (Qk (List.length p0) p0)[i0]? = some x0) (hi0 : i0 < List.length (Qk (List.length p0) p0)) (ho0_0 : List.length v0_1 ≤ i0) (hc0 : (decide ((i0 : Int) < ((List.length p0) : Int))) = true) (h0 : (((i0 + 1 : Nat) : Int) == ((List.length p0) : Int)) = true) {r : Rs} (hr : Q7 G (Q57 p0 (i0 + 1) (v0_1 ++ [x0])) r) : Q7 G (Q57 p0 i0 v0_1) r := by
 have hB0 := H.1; have e0 := eq_of_beq h0
 exact Qa (Qcm p0 i0 v0_1) (y := (Qag p0 (i0 + 1) (v0_1 ++ [x0]), Q7c p0 (i0 + 1) (v0_1 ++ [x0]))) [hB 0 hc0, hP 1 (Q1m 1 6 (List.length p0) (i0 : Int) i0 (by omega) (by have f1 := (Q1l (List.length p0) p0 rfl); omega) (by have f1 := (Q1l (List.length p0) p0 rfl); omega)), hP 0 (Q31 1 6 0 false ((Fld.rows (Qk (List.length p0) p0)).flatten) (Fld.rows (Qk (List.length p0) p0)) 6 true i0 0 (i0 * 6) (Fld.cells x0) (.agg [.str x0.name, .int .i64 x0.v.kind, .int .i64 x0.v.n, .str x0.v.s, .sl (Val.rows x0.v.list), .sl (Fld.rows x0.v.fields)]) rfl rfl (Fld.Qg hx0) (Fld.Ql (Qk (List.length p0) p0)) (by decide) rfl), hP 4 (Qr i0 (by omega)), hB 2 h0, hV 15 [(1735, Fld.rows (v0_1 ++ [x0]))] (Qf2 6 1671 1735 6 96 0 0 true (Fld.rows v0_1) (Fld.rows (v0_1 ++ [x0])) (Fld.cells x0) (List.length v0_1) (List.length (v0_1 ++ [x0])) rfl (Fld.Q8 v0_1).symm (Fld.Q8 (v0_1 ++ [x0])).symm (Fld.Q2p v0_1 x0) (Fld.Ql v0_1) rfl (by omega)), hS 0 true (Fld.Q5 (v0_1 ++ [x0]) 6 rfl), hP 2 (Qr i0 (by omega))] [] (by kernel_rfl) hr
theorem Qy0 (p0 : List Fld) (H : Q85 p0) (x0 : Fld) (i0 : Nat) (v0_1 : List Fld) (hx0 : (Qk (List.length p0) p0)[i0]? = some x0) (hi0 : i0 < List.length (Qk (List.length p0) p0)) (_ho0_0 : List.length v0_1 ≤ i0) (hc0 : (decide ((i0 : Int) < ((List.length p0) : Int))) = true) (h0 : (((i0 + 1 : Nat) : Int) == ((List.length p0) : Int)) = false) (h1 : (sEq (List.getD (Qk (List.length p0) p0) (Int.toNat ((i0 + 1 : Nat) : Int)) zF).name x0.name) = true) {r : Rs} (hr : Q7 G (Q57 p0 (i0 + 1) v0_1) r) : Q7 G (Q57 p0 i0 v0_1) r := by
 have hB0 := H.1; have e0 := beq_eq_false_iff_ne.1 h0
 exact Qa (Qcm p0 i0 v0_1) (y := (Qag p0 (i0 + 1) v0_1, Q7c p0 (i0 + 1) v0_1)) [hB 0 hc0, hP 1 (Q1m 1 6 (List.length p0) (i0 : Int) i0 (by omega) (by have f1 := (Q1l (List.length p0) p0 rfl); omega) (by have f1 := (Q1l (List.length p0) p0 rfl); omega)), hP 0 (Q31 1 6 0 false ((Fld.rows (Qk (List.length p0) p0)).flatten) (Fld.rows (Qk (List.length p0) p0)) 6 true i0 0 (i0 * 6) (Fld.cells x0) (.agg [.str x0.name, .int .i64 x0.v.kind, .int .i64 x0.v.n, .str x0.v.s, .sl (Val.rows x0.v.list), .sl (Fld.rows x0.v.fields)]) rfl rfl (Fld.Qg hx0) (Fld.Ql (Qk (List.length p0) p0)) (by decide) rfl), hP 4 (Qr i0 (by omega)), hB 2 h0, hP 3 (Qr i0 (by omega)), hP 0 (Q1m 1 6 (List.length p0) ((i0 + 1 : Nat) : Int) (Int.toNat ((i0 + 1 : Nat) : Int)) rfl (by have f1 := (Q1l (List.length p0) p0 rfl); omega) (by have f1 := (Q1l (List.length p0) p0 rfl); omega)), hP 1 (Q31 1 6 0 false ((Fld.rows (Qk (List.length p0) p0)).flatten) (Fld.rows (Qk (List.length p0) p0)) 1 false (Int.toNat ((i0 + 1 : Nat) : Int)) 0 ((Int.toNat ((i0 + 1 : Nat) : Int)) * 6) (Fld.cells (List.getD (Qk (List.length p0) p0) (Int.toNat ((i0 + 1 : Nat) : Int)) zF)) (.str (List.getD (Qk (List.length p0) p0) (Int.toNat ((i0 + 1 : Nat) : Int)) zF).name) rfl rfl (Fld.Qg (Qu (Qk (List.length p0) p0) (Int.toNat ((i0 + 1 : Nat) : Int)) zF (by have f1 := (Q1l (List.length p0) p0 rfl); omega))) (Fld.Ql (Qk (List.length p0) p0)) (by decide) rfl), hP 2 (dec (!(sEq (List.getD (Qk (List.length p0) p0) (Int.toNat ((i0 + 1 : Nat) : Int)) zF).name x0.name)) false (by rw [h1]; rfl)), hP 1 (Qr i0 (by omega))] [] (by kernel_rfl) hr
theorem Q10c (p0 : List Fld) (H : Q85 p0) (x0 : Fld) (i0 : Nat) (v0_1 : List Fld) (hx0 : (Qk (List.length p0) p0)[i0]? = some x0) (hi0 : i0 < List.length (Qk (List.length p0) p0)) (ho0_0 : List.length v0_1 ≤ i0) (hc0 : (decide ((i0 : Int) < ((List.length p0) : Int))) = true) (h0 : (((i0 + 1 : Nat) : Int) == ((List.length p0) : Int)) = false) (h1 : (sEq (List.getD (Qk (List.length p0) p0) (Int.toNat ((i0 + 1 : Nat) : Int)) zF).name x0.name) = false) {r : Rs} (hr : Q7 G (Q57 p0 (i0 + 1) (v0_1 ++ [x0])) r) : Q7 G (Q57 p0 i0 v0_1) r := by
 have hB0 := H.1; have e0 := beq_eq_false_iff_ne.1 h0
 exact Qa (Qcm p0 i0 v0_1) (y := (Qag p0 (i0 + 1) (v0_1 ++ [x0]), Q7c p0 (i0 + 1) (v0_1 ++ [x0]))) [hB 0 hc0, hP 1 (Q1m 1 6 (List.length p0) (i0 : Int) i0 (by omega) (by have f1 := (Q1l (List.length p0) p0 rfl); omega) (by have f1 := (Q1l (List.length p0) p0 rfl); omega)), hP 0 (Q31 1 6 0 false ((Fld.rows (Qk (List.length p0) p0)).flatten) (Fld.rows (Qk (List.length p0) p0)) 6 true i0 0 (i0 * 6) (Fld.cells x0) (.agg [.str x0.name, .int .i64 x0.v.kind, .int .i64 x0.v.n, .str x0.v.s, .sl (Val.rows x0.v.list), .sl (Fld.rows x0.v.fields)]) rfl rfl (Fld.Qg hx0) (Fld.Ql (Qk (List.length p0) p0)) (by decide) rfl), hP 4 (Qr i0 (by omega)), hB 2 h0, hP 3 (Qr i0 (by omega)), hP 0 (Q1m 1 6 (List.length p0) ((i0 + 1 : Nat) : Int) (Int.toNat ((i0 + 1 : Nat) : Int)) rfl (by have f1 := (Q1l (List.length p0) p0 rfl); omega) (by have f1 := (Q1l (List.length p0) p0 rfl); omega)), hP 1 (Q31 1 6 0 false ((Fld.rows (Qk (List.length p0) p0)).flatten) (Fld.rows (Qk (List.length p0) p0)) 1 false (Int.toNat ((i0 + 1 : Nat) : Int)) 0 ((Int.toNat ((i0 + 1 : Nat) : Int)) * 6) (Fld.cells (List.getD (Qk (List.length p0) p0) (Int.toNat ((i0 + 1 : Nat) : Int)) zF)) (.str (List.getD (Qk (List.length p0) p0) (Int.toNat ((i0 + 1 : Nat) : Int)) zF).name) rfl rfl (Fld.Qg (Qu (Qk (List.length p0) p0) (Int.toNat ((i0 + 1 : Nat) : Int)) zF (by have f1 := (Q1l (List.length p0) p0 rfl); omega))) (Fld.Ql (Qk (List.length p0) p0)) (by decide) rfl), hP 2 (dec (!(sEq (List.getD (Qk (List.length p0) p0) (Int.toNat ((i0 + 1 : Nat) : Int)) zF).name x0.name)) true (by rw [h1]; rfl)), hV 5 [(1735, Fld.rows (v0_1 ++ [x0]))] (Qf2 6 1671 1735 6 96 0 0 true (Fld.rows v0_1) (Fld.rows (v0_1 ++ [x0])) (Fld.cells x0) (List.length v0_1) (List.length (v0_1 ++ [x0])) rfl (Fld.Q8 v0_1).symm (Fld.Q8 (v0_1 ++ [x0])).symm (Fld.Q2p v0_1 x0) (Fld.Ql v0_1) rfl (by omega)), hS 0 true (Fld.Q5 (v0_1 ++ [x0]) 6 rfl), hP 2 (Qr i0 (by omega))] [] (by kernel_rfl) hr
theorem Q9h (p0 : List Fld) (H : Q85 p0) : ∀ (r0 : List Fld) (i0 : Nat) (v0_1 : List Fld), List.drop i0 (Qk (List.length p0) p0) = r0 → List.length v0_1 ≤ i0 → Qd2 p0 (Q57 p0 i0 v0_1) (Q25 p0 r0 i0 v0_1)
 | [], i0, v0_1, hd, ho0_0 => by
  have hc0 : (decide ((i0 : Int) < ((List.length p0) : Int))) = false := by have hL := (Q1l (List.length p0) p0 rfl); have := Q1d hd; simp; omega
  rw [Q25]
  exact Qy6 p0 H i0 v0_1 ho0_0 hc0
 | x0 :: r0, i0, v0_1, hd, ho0_0 => by
  obtain ⟨hx0, hi0, hd'⟩ := Qz hd
  have hc0 : (decide ((i0 : Int) < ((List.length p0) : Int))) = true := by have hL := (Q1l (List.length p0) p0 rfl); simp; omega
  rw [Q25]
  cases h0 : (((i0 + 1 : Nat) : Int) == ((List.length p0) : Int)) with
  | true =>
   have e0 := eq_of_beq h0
   exact Q69 p0 (fun r hr => Qxz p0 H x0 i0 v0_1 hx0 hi0 ho0_0 hc0 h0 hr) _ (Q9h p0 H r0 (i0 + 1) (v0_1 ++ [x0]) hd' (by first | omega | (simp; omega)))
  | false =>
   have e0 := beq_eq_false_iff_ne.1 h0
   cases h1 : (sEq (List.getD (Qk (List.length p0) p0) (Int.toNat ((i0 + 1 : Nat) : Int)) zF).name x0.name) with
   | true =>
    exact Q69 p0 (fun r hr => Qy0 p0 H x0 i0 v0_1 hx0 hi0 ho0_0 hc0 h0 h1 hr) _ (Q9h p0 H r0 (i0 + 1) v0_1 hd' (by first | omega | (simp; omega)))
   | false =>
    exact Q69 p0 (fun r hr => Q10c p0 H x0 i0 v0_1 hx0 hi0 ho0_0 hc0 h0 h1 hr) _ (Q9h p0 H r0 (i0 + 1) (v0_1 ++ [x0]) hd' (by first | omega | (simp; omega)))
def Qdz (p0 : List Fld) : Val :=
 (Val.mk 5 0 eB [] (Q25 p0 (Qk (List.length p0) p0) 0 []))
def Q1d7 (p0 : List Fld) : En := .call 27 [.sl (Fld.rows p0)] []
def Q1a6 (p0 : List Fld) : Rs := .ret (.agg (Val.cells (Qdz p0))) []
def Q13g (p0 : List Fld) : Prop := (List.length p0 * 96 ≤ 140737488355328) ∧ (((List.length p0) : Int) ≤ 1152921504606846976) ∧ (Q85 p0) ∧ (Qhu (Val.mk 5 0 eB [] (Q25 p0 (Qk (List.length p0) p0) 0 []))) ∧ True
theorem Q1b5 (p0 : List Fld) (H : Q13g p0) : Q7 G (Q1d7 p0) (Q1a6 p0) := by
 unfold Q1a6 Qdz
 have hl0 := Q9h p0 (H.2.2.1) (Qk (List.length p0) p0) 0 [] (by simp) (by simp)
 obtain ⟨z0, zo0, hl0⟩ := hl0
 exact Q9 (fn := Ir.K1m) rfl VOK.nil [hQ (Fld.Q5 p0 6 rfl), hQ (Fld.Q5 (Qk (List.length p0) p0) 6 rfl), hS 0 false (Fld.Q5 (Qk (List.length p0) p0) 6 rfl), hS 0 true (Fld.Q5 (Q25 p0 (Qk (List.length p0) p0) 0 []) 6 rfl), hQ (Fld.Q8 (Q25 p0 (Qk (List.length p0) p0) 0 [])).symm] [aV [(0, Fld.rows p0)] (Q5y (G := G) (f := 41) (sz := 6) (bytes := 96) rfl (Fld.Q8 p0) (Fld.Q5 p0 6 rfl) H.1), aV [(0, Fld.rows (Qk (List.length p0) p0))] (Q10t (List.length p0) p0 rfl (H.2.1)), aV [(1, Fld.rows (Qk (List.length p0) p0)), (6, Fld.rows (Q25 p0 (Qk (List.length p0) p0) 0 []))] hl0, aN (Q180 (Val.mk 5 0 eB [] (Q25 p0 (Qk (List.length p0) p0) 0 [])) H.2.2.2.1)] (by kernel_rfl)
end Go.Proofs.Ytnhhddbbppbblaa
end

section
/- The library's stable sort as plain functions on lists, and what it answers: the stably sorted list. Program-free. -/
namespace Go.Pv.Srt
section
variable {α : Type} (z : α) (c : α → α → Int)
def gt (d : List α) (i : Int) : α := d.getD i.toNat z
def sw (d : List α) (i j : Int) : List α := (d.set i.toNat (gt z d j)).set j.toNat (gt z d i)
def ins1 (a : Int) : Nat → List α → Int → List α
 | 0, v, _ => v
 | k + 1, v, j => bif decide (a < j) then (bif decide (c (gt z v j) (gt z v (j - 1)) < 0) then ins1 a k (sw z v j (j - 1)) (j - 1) else v) else v
def ins0 (a b : Int) : Nat → Int → List α → List α
 | 0, _, v => v
 | k + 1, i, v => bif decide (i < b) then ins0 a b k (i + 1) (ins1 z c a (i.toNat + 1) v i) else v
def ins (d : List α) (a b : Int) : List α := ins0 z c a b ((b - (a + 1)).toNat + 1) (a + 1) d
def swr1 (p q n : Int) : Nat → List α → Int → List α
 | 0, v, _ => v
 | k + 1, v, i => bif decide (i < n) then swr1 p q n k (sw z v (p + i) (q + i)) (i + 1) else v
def swr (d : List α) (p q n : Int) : List α := swr1 z p q n ((n - 0).toNat + 1) d 0
def rot1 (m : Int) : Nat → Int → Int → List α → List α × Int
 | 0, i, _, v => (v, i)
 | k + 1, i, j, v => bif i == j then (v, i) else bif decide (j < i) then rot1 m k (i - j) j (swr z v (m - i) m j) else rot1 m k i (j - i) (swr z v (m - i) ((m + j) - i) i)
def rot (d : List α) (a m b : Int) : List α :=
 let r := rot1 z m (((m - a) + (b - m)).toNat + 1) (m - a) (b - m) d
 swr z r.1 (m - r.2) m r.2
theorem Q89 {d A C : List α} {x : α} {i : Int} (hd : d = A ++ x :: C) (hi : i = (A.length : Int)) : gt z d i = x := by
 subst hd hi
 simp [gt]
theorem Qvh {A C : List α} {x y : α} {i : Int} (hi : i = (A.length : Int)) : (A ++ x :: C).set i.toNat y = A ++ y :: C := by
 subst hi
 simp
theorem Q1at {A M C : List α} {x y : α} {i j : Int} (hi : i = (A.length : Int)) (hj : j = (A.length : Int) + 1 + (M.length : Int)) : sw z (A ++ x :: (M ++ y :: C)) i j = A ++ y :: (M ++ x :: C) := by
 have e1 : gt z (A ++ x :: (M ++ y :: C)) i = x := Q89 z rfl hi
 have e2 : gt z (A ++ x :: (M ++ y :: C)) j = y := Q89 z (A := A ++ x :: M) (C := C) (by simp) (by simp; omega)
 unfold sw
 rw [e1, e2, Qvh hi]
 have e3 : A ++ y :: (M ++ y :: C) = (A ++ y :: M) ++ y :: C := by simp
 rw [e3, Qvh (A := A ++ y :: M) (by simp; omega)]
 simp
theorem Q141 {A M C : List α} {x y : α} {i j : Int} (hi : i = (A.length : Int)) (hj : j = (A.length : Int) + 1 + (M.length : Int)) : sw z (A ++ x :: (M ++ y :: C)) j i = A ++ y :: (M ++ x :: C) := by
 have e1 : gt z (A ++ x :: (M ++ y :: C)) i = x := Q89 z rfl hi
 have e2 : gt z (A ++ x :: (M ++ y :: C)) j = y := Q89 z (A := A ++ x :: M) (C := C) (by simp) (by simp; omega)
 unfold sw
 rw [e1, e2]
 have e3 : A ++ x :: (M ++ y :: C) = (A ++ x :: M) ++ y :: C := by simp
 rw [e3, Qvh (A := A ++ x :: M) (by simp; omega)]
 have e4 : (A ++ x :: M) ++ x :: C = A ++ x :: (M ++ x :: C) := by simp
 rw [e4, Qvh hi]
def insR (x : α) : List α → List α
 | [] => [x]
 | s :: t => bif decide (c x s < 0) then s :: insR x t else x :: s :: t
def Q6p (l : List α) : List α := (l.foldl (fun r x => insR c x r) []).reverse
theorem Qt0 (a : Int) (A : List α) (x : α) (ha : a = (A.length : Int)) : ∀ (R C : List α) (k : Nat) (j : Int), j = (A.length : Int) + (R.length : Int) → R.length < k → ins1 z c a k (A ++ (R.reverse ++ x :: C)) j = A ++ ((insR c x R).reverse ++ C)
 | _, _, 0, _, _, h => absurd h (Nat.not_lt_zero _)
 | [], C, k + 1, j, hj, _ => by
  rw [ins1, show decide (a < j) = false by simp at hj ⊢; omega]
  simp [insR]
 | s :: t, C, k + 1, j, hj, hk => by
  simp only [List.length_cons] at hj hk
  have e0 : A ++ ((s :: t).reverse ++ x :: C) = (A ++ t.reverse) ++ s :: ([] ++ x :: C) := by simp
  rw [ins1, show decide (a < j) = true by simp; omega, cond_true, e0]
  have e1 : gt z ((A ++ t.reverse) ++ s :: ([] ++ x :: C)) j = x := Q89 z (A := A ++ t.reverse ++ [s]) (C := C) (by simp) (by simp; omega)
  have e2 : gt z ((A ++ t.reverse) ++ s :: ([] ++ x :: C)) (j - 1) = s := Q89 z (A := A ++ t.reverse) rfl (by simp; omega)
  rw [e1, e2, insR]
  cases decide (c x s < 0) with
  | true =>
   rw [cond_true, cond_true, Q141 z (by simp; omega) (by simp; omega)]
   have e3 : (A ++ t.reverse) ++ x :: ([] ++ s :: C) = A ++ (t.reverse ++ x :: (s :: C)) := by simp
   rw [e3, Qt0 a A x ha t (s :: C) k (j - 1) (by omega) (by omega)]
   simp
  | false => simp
theorem Qsq (a b : Int) (A : List α) (ha : a = (A.length : Int)) : ∀ (M R C : List α) (k : Nat) (i : Int), i = (A.length : Int) + (R.length : Int) → b = i + (M.length : Int) → M.length < k →
  ins0 z c a b k i (A ++ (R.reverse ++ (M ++ C))) = A ++ ((M.foldl (fun r x => insR c x r) R).reverse ++ C)
 | _, _, _, 0, _, _, _, h => absurd h (Nat.not_lt_zero _)
 | [], R, C, k + 1, i, hi, hb, _ => by
  rw [ins0, show decide (i < b) = false by simp at hb ⊢; omega]
  simp
 | x :: M, R, C, k + 1, i, hi, hb, hk => by
  simp only [List.length_cons] at hb hk
  rw [ins0, show decide (i < b) = true by simp; omega, cond_true, List.cons_append, Qt0 z c a A x ha R (M ++ C) _ i hi (by omega)]
  have hl : (insR c x R).length = R.length + 1 := by
   clear hi hb hk
   induction R with
   | nil => rfl
   | cons s t ih => rw [insR]; cases decide (c x s < 0) <;> simp [ih]
  rw [Qsq a b A ha M (insR c x R) C k (i + 1) (by omega) (by omega) (by omega)]
  rfl
theorem Qw1 {d A M C : List α} {a b : Int} (hd : d = A ++ (M ++ C)) (ha : a = (A.length : Int)) (hb : b = a + (M.length : Int)) : ins z c d a b = A ++ (Q6p c M ++ C) := by
 subst hd
 unfold ins Q6p
 cases M with
 | nil =>
  simp only [List.length_nil, Int.ofNat_zero] at hb
  rw [ins0, show decide (a + 1 < b) = false by simp; omega]
  rfl
 | cons x M =>
  simp only [List.length_cons] at hb
  have e : A ++ (x :: M ++ C) = A ++ ([x].reverse ++ (M ++ C)) := by simp
  rw [e, Qsq z c a b A ha M [x] C _ _ (by simp; omega) (by omega) (by omega)]
  rfl
theorem Qs4 (p q n : Int) (C : List α) : ∀ (X Y A M : List α) (k : Nat) (i : Int), X.length = Y.length → p + i = (A.length : Int) → q + i = (A.length : Int) + (X.length : Int) + (M.length : Int) → n = i + (X.length : Int) → X.length < k →
  swr1 z p q n k (A ++ (X ++ (M ++ (Y ++ C)))) i = A ++ (Y ++ (M ++ (X ++ C)))
 | _, _, _, _, 0, _, _, _, _, _, h => absurd h (Nat.not_lt_zero _)
 | [], [], A, M, k + 1, i, _, _, _, hn, _ => by
  rw [swr1, show decide (i < n) = false by simp at hn ⊢; omega]
  rfl
 | [], _ :: _, _, _, _, _, h, _, _, _, _ => by simp at h
 | _ :: _, [], _, _, _, _, h, _, _, _, _ => by simp at h
 | x :: X, y :: Y, A, M, k + 1, i, h, hp, hq, hn, hk => by
  simp only [List.length_cons] at h hq hn hk
  rw [swr1, show decide (i < n) = true by simp; omega, cond_true]
  have e : A ++ (x :: X ++ (M ++ (y :: Y ++ C))) = A ++ x :: ((X ++ M) ++ y :: (Y ++ C)) := by simp
  rw [e, Q1at z hp (by simp; omega)]
  have e2 : A ++ y :: ((X ++ M) ++ x :: (Y ++ C)) = (A ++ [y]) ++ (X ++ ((M ++ [x]) ++ (Y ++ C))) := by simp
  rw [e2, Qs4 p q n C X Y (A ++ [y]) (M ++ [x]) k (i + 1) (by omega) (by simp; omega) (by simp; omega) (by omega) (by omega)]
  simp
theorem Qne {d A X M Y C : List α} {p q n : Int} (hd : d = A ++ (X ++ (M ++ (Y ++ C)))) (h : X.length = Y.length) (hp : p = (A.length : Int)) (hq : q = (A.length : Int) + (X.length : Int) + (M.length : Int)) (hn : n = (X.length : Int)) : swr z d p q n = A ++ (Y ++ (M ++ (X ++ C))) := by
 subst hd
 unfold swr
 exact Qs4 z p q n C X Y A M _ 0 h (by omega) (by omega) (by omega) (by omega)
theorem Qg6 (m : Int) (W : List α) : ∀ (k : Nat) (A U V C : List α) (i j : Int), i = (U.length : Int) → j = (V.length : Int) → 0 < U.length → 0 < V.length → m = (A.length : Int) + (U.length : Int) → U.length + V.length < k → W = A ++ (V ++ (U ++ C)) →
    swr z (rot1 z m k i j (A ++ (U ++ (V ++ C)))).1 (m - (rot1 z m k i j (A ++ (U ++ (V ++ C)))).2) m (rot1 z m k i j (A ++ (U ++ (V ++ C)))).2 = W
  | 0, _, _, _, _, _, _, _, _, _, _, _, h, _ => absurd h (Nat.not_lt_zero _)
  | k + 1, A, U, V, C, i, j, hi, hj, hU, hV, hm, hk, hW => by
    rw [rot1]
    by_cases h1 : i = j
    · rw [show (i == j) = true by simpa using h1]
      simp only [cond_true]
      rw [Qne z (A := A) (X := U) (M := []) (Y := V) (C := C) (by simp) (by omega) (by omega) (by simp; omega) (by omega), hW]
      rfl
    · rw [show (i == j) = false by simpa using h1]
      simp only [cond_false]
      by_cases h2 : j < i
      · rw [show decide (j < i) = true by simpa using h2]
        simp only [cond_true]
        have hs : U = U.take V.length ++ U.drop V.length := (List.take_append_drop _ _).symm
        have l1 : (U.take V.length).length = V.length := by simp; omega
        have l2 : (U.drop V.length).length = U.length - V.length := by simp
        rw [Qne z (d := A ++ (U ++ (V ++ C))) (A := A) (X := U.take V.length) (M := U.drop V.length) (Y := V) (C := C) (by rw [← List.append_assoc (U.take _), List.take_append_drop]) (by omega) (by omega) (by rw [l1, l2]; omega) (by omega)]
        have e : A ++ (V ++ (U.drop V.length ++ (U.take V.length ++ C))) = (A ++ V) ++ (U.drop V.length ++ (U.take V.length ++ C)) := by simp
        rw [e]
        exact Qg6 m W k (A ++ V) (U.drop V.length) (U.take V.length) C (i - j) j (by omega) (by omega) (by omega) (by omega) (by rw [l2]; simp; omega) (by omega) (by rw [hW, ← List.append_assoc (U.take _), List.take_append_drop]; simp)
      · rw [show decide (j < i) = false by simpa using h2]
        simp only [cond_false]
        have l1 : (V.take (V.length - U.length)).length = V.length - U.length := by simp
        have l2 : (V.drop (V.length - U.length)).length = U.length := by simp; omega
        rw [Qne z (d := A ++ (U ++ (V ++ C))) (A := A) (X := U) (M := V.take (V.length - U.length)) (Y := V.drop (V.length - U.length)) (C := C) (by rw [← List.append_assoc (V.take _), List.take_append_drop]) (by omega) (by omega) (by rw [l1]; omega) (by omega)]
        exact Qg6 m W k A (V.drop (V.length - U.length)) (V.take (V.length - U.length)) (U ++ C) i (j - i) (by omega) (by omega) (by omega) (by omega) (by omega) (by omega) (by rw [hW, ← List.append_assoc (V.take _), List.take_append_drop])
theorem Q16o {d A U V C : List α} {a m b : Int} (hd : d = A ++ (U ++ (V ++ C))) (ha : a = (A.length : Int)) (hm : m = a + (U.length : Int)) (hb : b = m + (V.length : Int)) (hU : 0 < U.length) (hV : 0 < V.length) : rot z d a m b = A ++ (V ++ (U ++ C)) := by
 subst hd
 unfold rot
 exact Qg6 z m _ _ A U V C (m - a) (b - m) (by omega) (by omega) hU hV (by omega) (by omega) rfl
end
end Go.Pv.Srt
end

section
/- The library's stable sort: its merging, and that it answers the stably sorted list. Program-free. -/
namespace Go.Pv.Srt
section
variable {α : Type} (z : α) (c : α → α → Int)
structure Tot : Prop where
  asym : ∀ x y, c x y < 0 → ¬ c y x < 0
  tr : ∀ x y w, ¬ c y x < 0 → ¬ c w y < 0 → ¬ c w x < 0
def le (x y : α) : Prop := ¬ c y x < 0
def Up (l : List α) : Prop := l.Pairwise (le c)
def eqv (x y : α) : Bool := decide (¬ c x y < 0) && decide (¬ c y x < 0)
def F (l r : List α) : Prop := l.length = r.length ∧ ∀ x, l.filter (eqv c x) = r.filter (eqv c x)
variable {c}
theorem F.rfl {l : List α} : F c l l := ⟨Eq.refl _, fun _ => Eq.refl _⟩
theorem F.trans {l r s : List α} (h : F c l r) (g : F c r s) : F c l s := ⟨h.1.trans g.1, fun x => (h.2 x).trans (g.2 x)⟩
theorem F.symm {l r : List α} (h : F c l r) : F c r l := ⟨h.1.symm, fun x => (h.2 x).symm⟩
theorem F.app {l r l' r' : List α} (h : F c l r) (g : F c l' r') : F c (l ++ l') (r ++ r') :=
 ⟨by rw [List.length_append, List.length_append, h.1, g.1], fun x => by rw [List.filter_append, List.filter_append, h.2 x, g.2 x]⟩
theorem Tot.refl (T : Tot c) (x : α) : ¬ c x x < 0 := fun h => T.asym x x h h
theorem Qvr (T : Tot c) (x : α) : eqv c x x = true := by simpa [eqv] using T.refl x
theorem F.mem (T : Tot c) {l r : List α} (h : F c l r) {x : α} (hx : x ∈ l) : x ∈ r := by
 have h1 : x ∈ l.filter (eqv c x) := List.mem_filter.2 ⟨hx, Qvr T x⟩
 rw [h.2 x] at h1
 exact (List.mem_filter.1 h1).1
theorem F.swap (T : Tot c) {A B : List α} (h : ∀ a ∈ A, ∀ b ∈ B, c b a < 0) : F c (A ++ B) (B ++ A) := by
  refine ⟨by simp [Nat.add_comm], fun x => ?_⟩
  rw [List.filter_append, List.filter_append]
  by_cases hA : A.filter (eqv c x) = []
  · rw [hA]
    simp
  · have hB : B.filter (eqv c x) = [] := by
      obtain ⟨a, ha⟩ := List.exists_mem_of_ne_nil _ hA
      obtain ⟨ha, hxa⟩ := List.mem_filter.1 ha
      refine List.filter_eq_nil_iff.2 fun b hb hxb => ?_
      simp only [eqv, Bool.and_eq_true, decide_eq_true_eq] at hxa hxb
      exact T.tr a x b hxa.1 hxb.2 (h a ha b hb)
    rw [hB]
    simp
theorem uniq (T : Tot c) : ∀ {l r : List α}, Up c l → Up c r → F c l r → l = r
  | [], [], _, _, _ => rfl
  | [], _ :: _, _, _, h => by simp [F] at h
  | _ :: _, [], _, _, h => by simp [F] at h
  | a :: l, b :: r, hl, hr, h => by
    have hl' := List.pairwise_cons.1 hl
    have hr' := List.pairwise_cons.1 hr
    have h1 : ¬ c b a < 0 := by
      rcases List.mem_cons.1 (h.symm.mem T (x := b) List.mem_cons_self) with e | e
      · subst e
        exact T.refl _
      · exact hl'.1 b e
    have h2 : ¬ c a b < 0 := by
      rcases List.mem_cons.1 (h.mem T (x := a) List.mem_cons_self) with e | e
      · subst e
        exact T.refl _
      · exact hr'.1 a e
    have e1 : eqv c a b = true := by simp only [eqv, Bool.and_eq_true, decide_eq_true_eq]; exact ⟨h2, h1⟩
    have e := h.2 a
    rw [List.filter_cons_of_pos (Qvr T a), List.filter_cons_of_pos e1] at e
    injection e with e _
    subst e
    refine congrArg _ (uniq T hl'.2 hr'.2 ⟨by have := h.1; simpa using this, fun x => ?_⟩)
    have e := h.2 x
    simp only [List.filter_cons] at e
    cases hx : eqv c x a with
    | true => rw [hx] at e; simpa using e
    | false => rw [hx] at e; simpa using e
theorem Quo {x y : α} : ∀ {R : List α}, y ∈ insR c x R → y = x ∨ y ∈ R
  | [], h => by simpa [insR] using h
  | s :: t, h => by
    rw [insR] at h
    cases hd : decide (c x s < 0) with
    | true =>
      rw [hd, cond_true] at h
      rcases List.mem_cons.1 h with e | e
      · exact Or.inr (by simp [e])
      · rcases Quo e with e | e
        · exact Or.inl e
        · exact Or.inr (List.mem_cons_of_mem _ e)
    | false =>
      rw [hd, cond_false] at h
      rcases List.mem_cons.1 h with e | e
      · exact Or.inl e
      · exact Or.inr e
theorem Q13m (T : Tot c) (x : α) : ∀ {R : List α}, R.Pairwise (fun a b => le c b a) → (insR c x R).Pairwise (fun a b => le c b a)
  | [], _ => by simp [insR]
  | s :: t, h => by
    have h' := List.pairwise_cons.1 h
    rw [insR]
    by_cases hd : c x s < 0
    · rw [show decide (c x s < 0) = true by simpa using hd, cond_true]
      refine List.pairwise_cons.2 ⟨fun y hy => ?_, Q13m T x h'.2⟩
      rcases Quo hy with e | e
      · subst e
        exact T.asym _ _ hd
      · exact h'.1 y e
    · rw [show decide (c x s < 0) = false by simpa using hd, cond_false]
      refine List.pairwise_cons.2 ⟨fun y hy => ?_, h⟩
      rcases List.mem_cons.1 hy with e | e
      · subst e
        exact hd
      · exact T.tr y s x (h'.1 y e) hd
theorem Q17m (T : Tot c) (x : α) : ∀ (R : List α), F c (R.reverse ++ [x]) (insR c x R).reverse
  | [] => F.rfl
  | s :: t => by
    rw [insR]
    by_cases hd : c x s < 0
    · rw [show decide (c x s < 0) = true by simpa using hd, cond_true, List.reverse_cons, List.reverse_cons, List.append_assoc]
      have h1 : F c ([s] ++ [x]) ([x] ++ [s]) := F.swap T (by simpa using hd)
      exact (F.rfl.app h1).trans (by rw [← List.append_assoc]; exact (Q17m T x t).app F.rfl)
    · rw [show decide (c x s < 0) = false by simpa using hd, cond_false, List.reverse_cons (a := x)]
      exact F.rfl
theorem Qtr (T : Tot c) : ∀ (M R : List α), R.Pairwise (fun a b => le c b a) → (M.foldl (fun r x => insR c x r) R).Pairwise (fun a b => le c b a) ∧ F c (R.reverse ++ M) (M.foldl (fun r x => insR c x r) R).reverse
 | [], R, h => ⟨h, by simpa using F.rfl⟩
 | x :: M, R, h => by
  obtain ⟨h1, h2⟩ := Qtr T M (insR c x R) (Q13m T x h)
  refine ⟨h1, F.trans ?_ h2⟩
  have e : R.reverse ++ x :: M = (R.reverse ++ [x]) ++ M := by simp
  rw [e]
  exact (Q17m T x R).app F.rfl
theorem Qa5 (T : Tot c) (l : List α) : Up c (Q6p c l) := by
 unfold Up Q6p
 rw [List.pairwise_reverse]
 exact (Qtr T l [] List.Pairwise.nil).1
theorem Qdx (T : Tot c) (l : List α) : F c l (Q6p c l) := (Qtr T l [] List.Pairwise.nil).2
def bs (g : Int → Bool) : Nat → Int → Int → Int
 | 0, i, _ => i
 | k + 1, i, j => bif decide (i < j) then (bif g ((i + j) / 2) then bs g k ((i + j) / 2 + 1) j else bs g k i ((i + j) / 2)) else i
theorem Qb3 (g : Int → Bool) : ∀ (k : Nat) (i j : Int), i ≤ j → (j - i).toNat < k → i ≤ bs g k i j ∧ bs g k i j ≤ j ∧ (bs g k i j = i ∨ g (bs g k i j - 1) = true) ∧ (bs g k i j = j ∨ g (bs g k i j) = false)
  | 0, _, _, _, h => absurd h (Nat.not_lt_zero _)
  | k + 1, i, j, h, hk => by
    rw [bs]
    by_cases hij : i < j
    · rw [show decide (i < j) = true by simpa using hij, cond_true]
      cases hg : g ((i + j) / 2) with
      | true =>
        rw [cond_true]
        obtain ⟨h1, h2, h3, h4⟩ := Qb3 g k ((i + j) / 2 + 1) j (by omega) (by omega)
        refine ⟨by omega, h2, Or.inr ?_, h4⟩
        rcases h3 with e | e
        · rw [e, show (i + j) / 2 + 1 - 1 = (i + j) / 2 by omega]
          exact hg
        · exact e
      | false =>
        rw [cond_false]
        obtain ⟨h1, h2, h3, h4⟩ := Qb3 g k i ((i + j) / 2) (by omega) (by omega)
        refine ⟨h1, by omega, h3, Or.inr ?_⟩
        rcases h4 with e | e
        · rw [e]
          exact hg
        · exact e
    · rw [show decide (i < j) = false by simpa using hij, cond_false]
      exact ⟨Int.le_refl _, h, Or.inl rfl, Or.inl (by omega)⟩
def mv1 : Nat → Int → List α → Int → List α
 | 0, _, v, _ => v
 | k + 1, t, v, i => bif decide (i < t - 1) then mv1 k t (sw z v i (i + 1)) (i + 1) else v
def mv3 : Nat → Int → List α → Int → List α
 | 0, _, v, _ => v
 | k + 1, t, v, i => bif decide (t < i) then mv3 k t (sw z v i (i - 1)) (i - 1) else v
theorem Qvm (x : α) (C : List α) (t : Int) : ∀ (V A : List α) (k : Nat) (i : Int), i = (A.length : Int) → t - 1 = i + (V.length : Int) → V.length < k → mv1 z k t (A ++ x :: (V ++ C)) i = A ++ (V ++ x :: C)
 | _, _, 0, _, _, _, h => absurd h (Nat.not_lt_zero _)
 | [], A, k + 1, i, hi, ht, _ => by
  rw [mv1, show decide (i < t - 1) = false by simp at ht ⊢; omega]
  rfl
 | y :: V, A, k + 1, i, hi, ht, hk => by
  simp only [List.length_cons] at ht hk
  rw [mv1, show decide (i < t - 1) = true by simp; omega, cond_true]
  have e : A ++ x :: (y :: V ++ C) = A ++ x :: ([] ++ y :: (V ++ C)) := by simp
  rw [e, Q1at z hi (by simp; omega)]
  have e2 : A ++ y :: ([] ++ x :: (V ++ C)) = (A ++ [y]) ++ x :: (V ++ C) := by simp
  rw [e2, Qvm x C t V (A ++ [y]) k (i + 1) (by simp; omega) (by omega) (by omega)]
  simp
theorem Qw9 (y : α) (A : List α) (t : Int) (ht : t = (A.length : Int)) : ∀ (R C : List α) (k : Nat) (i : Int), i = (A.length : Int) + (R.length : Int) → R.length < k → mv3 z k t (A ++ (R.reverse ++ y :: C)) i = A ++ y :: (R.reverse ++ C)
 | _, _, 0, _, _, h => absurd h (Nat.not_lt_zero _)
 | [], C, k + 1, i, hi, _ => by
  rw [mv3, show decide (t < i) = false by simp at hi ⊢; omega]
  rfl
 | u :: R, C, k + 1, i, hi, hk => by
  simp only [List.length_cons] at hi hk
  rw [mv3, show decide (t < i) = true by simp; omega, cond_true]
  have e : A ++ ((u :: R).reverse ++ y :: C) = (A ++ R.reverse) ++ u :: ([] ++ y :: C) := by simp
  rw [e, Q141 z (by simp; omega) (by simp; omega)]
  have e2 : (A ++ R.reverse) ++ y :: ([] ++ u :: C) = A ++ (R.reverse ++ y :: (u :: C)) := by simp
  rw [e2, Qw9 y A t ht R (u :: C) k (i - 1) (by omega) (by omega)]
  simp
end
end Go.Pv.Srt
end

section
/- The library's stable sort: symmetric merging and the sort as a whole answer the stably sorted list. Program-free. -/
namespace Go.Pv.Srt
section
variable {α : Type} (z : α) (c : α → α → Int)
def sym2 (rec : List α → Int → Int → Int → List α) (d : List α) (a m b mid st : Int) : List α :=
 let d1 := bif decide (st < m) && decide (m < mid + m - st) then rot z d st m (mid + m - st) else d
 let d2 := bif decide (a < st) && decide (st < mid) then rec d1 a st mid else d1
 bif decide (mid < mid + m - st) && decide (mid + m - st < b) then rec d2 mid (mid + m - st) b else d2
def sg (d : List α) (p s : Int) : Bool := !decide (c (gt z d (p - s)) (gt z d s) < 0)
def sst (d : List α) (a m b : Int) : Int :=
 bif decide ((a + b) / 2 < m) then bs (sg z c d ((a + b) / 2 + m - 1)) (((a + b) / 2 - ((a + b) / 2 + m - b)).toNat + 1) ((a + b) / 2 + m - b) ((a + b) / 2)
 else bs (sg z c d ((a + b) / 2 + m - 1)) ((m - a).toNat + 1) a m
def st1 (d : List α) (a m b : Int) : Int := bs (fun h => decide (c (gt z d h) (gt z d a) < 0)) ((b - m).toNat + 1) m b
def st3 (d : List α) (a m : Int) : Int := bs (fun h => !decide (c (gt z d m) (gt z d h) < 0)) ((m - a).toNat + 1) a m
def sym : Nat → List α → Int → Int → Int → List α
 | 0, d, _, _, _ => d
 | k + 1, d, a, m, b =>
  bif m - a == 1 then mv1 z ((st1 z c d a m b - a).toNat + 1) (st1 z c d a m b) d a
  else bif b - m == 1 then mv3 z ((m - st3 z c d a m).toNat + 1) (st3 z c d a m) d m
  else sym2 z (sym k) d a m b ((a + b) / 2) (sst z c d a m b)
variable {c}
theorem Qdv (T : Tot c) {y l x : α} (h : le c y l) (g : c l x < 0) : c y x < 0 := by
  by_cases e : c y x < 0
  · exact e
  · exact absurd g (T.tr x y l e h)
theorem Qhq (T : Tot c) {l x w : α} (g : c l x < 0) (h : le c x w) : c l w < 0 := by
  by_cases e : c l w < 0
  · exact e
  · exact absurd g (T.tr x w l h e)
theorem Qo0 (T : Tot c) {V : List α} {l : α} (h : Up c (V ++ [l])) : ∀ y ∈ V ++ [l], le c y l := by
  intro y hy
  rcases List.mem_append.1 hy with e | e
  · exact (List.pairwise_append.1 h).2.2 y e l (by simp)
  · rw [List.mem_singleton.1 e]
    exact T.refl l
theorem Qnx (T : Tot c) {V : List α} {l : α} (h : Up c (l :: V)) : ∀ y ∈ l :: V, le c l y := by
  intro y hy
  rcases List.mem_cons.1 hy with e | e
  · rw [e]
    exact T.refl l
  · exact (List.pairwise_cons.1 h).1 y e
theorem one1 (T : Tot c) {A V C : List α} {x : α} {a m b : Int} (ha : a = (A.length : Int)) (hm : m = a + 1) (hb : b = m + (V.length : Int)) (hV : Up c V) :
    ∃ W, mv1 z ((st1 z c (A ++ x :: (V ++ C)) a m b - a).toNat + 1) (st1 z c (A ++ x :: (V ++ C)) a m b) (A ++ x :: (V ++ C)) a = A ++ (W ++ C) ∧ Up c W ∧ F c ([x] ++ V) W := by
  obtain ⟨h1, h2, h3, h4⟩ := Qb3 (fun h => decide (c (gt z (A ++ x :: (V ++ C)) h) (gt z (A ++ x :: (V ++ C)) a) < 0)) ((b - m).toNat + 1) m b (by omega) (by omega)
  change m ≤ st1 z c (A ++ x :: (V ++ C)) a m b at h1
  change st1 z c (A ++ x :: (V ++ C)) a m b ≤ b at h2
  change st1 z c (A ++ x :: (V ++ C)) a m b = m ∨ decide (c (gt z _ (st1 z c (A ++ x :: (V ++ C)) a m b - 1)) _ < 0) = true at h3
  change st1 z c (A ++ x :: (V ++ C)) a m b = b ∨ decide (c (gt z _ (st1 z c (A ++ x :: (V ++ C)) a m b)) _ < 0) = false at h4
  generalize st1 z c (A ++ x :: (V ++ C)) a m b = t at h1 h2 h3 h4
  rw [Q89 z (A := A) (C := V ++ C) (x := x) rfl ha] at h3 h4
  have hV12 : V = V.take (t - m).toNat ++ V.drop (t - m).toNat := (List.take_append_drop _ _).symm
  have l1 : (V.take (t - m).toNat).length = (t - m).toNat := by simp; omega
  generalize V.take (t - m).toNat = V1 at hV12 l1
  generalize V.drop (t - m).toNat = V2 at hV12
  subst hV12
  rw [List.length_append] at hb
  have hu := List.pairwise_append.1 hV
  have k1 : ∀ y ∈ V1, c y x < 0 := by
    rcases List.eq_nil_or_concat V1 with e | ⟨L, l, e⟩
    · subst e
      intro y hy
      cases hy
    · subst e
      simp only [List.concat_eq_append] at *
      rcases h3 with e | e
      · simp at l1
        omega
      · rw [Q89 z (A := A ++ x :: L) (x := l) (C := V2 ++ C) (by simp) (by simp at l1 ⊢; omega)] at e
        exact fun y hy => Qdv T (Qo0 T hu.1 y hy) (of_decide_eq_true e)
  have k2 : ∀ y ∈ V2, le c x y := by
    cases V2 with
    | nil =>
      intro y hy
      cases hy
    | cons w V2 =>
      rcases h4 with e | e
      · simp at hb
        omega
      · rw [Q89 z (A := A ++ x :: V1) (x := w) (C := V2 ++ C) (by simp) (by simp; omega)] at e
        exact fun y hy => T.tr x w y (of_decide_eq_false e) (Qnx T hu.2.1 y hy)
  refine ⟨V1 ++ x :: V2, ?_, ?_, ?_⟩
  · have e := Qvm z x (V2 ++ C) t V1 A ((t - a).toNat + 1) a ha (by omega) (by omega)
    rw [List.append_assoc, e]
    simp
  · refine List.pairwise_append.2 ⟨hu.1, List.pairwise_cons.2 ⟨k2, hu.2.1⟩, fun y hy w hw => ?_⟩
    rcases List.mem_cons.1 hw with e | e
    · rw [e]
      exact T.asym _ _ (k1 y hy)
    · exact hu.2.2 y hy w e
  · have e : F c ([x] ++ V1) (V1 ++ [x]) := F.swap T (by simpa using k1)
    have e2 := e.app (F.rfl (l := V2))
    simpa using e2
theorem one3 (T : Tot c) {A U C : List α} {y : α} {a m : Int} (ha : a = (A.length : Int)) (hm : m = a + (U.length : Int)) (hU : Up c U) :
    ∃ W, mv3 z ((m - st3 z c (A ++ (U ++ y :: C)) a m).toNat + 1) (st3 z c (A ++ (U ++ y :: C)) a m) (A ++ (U ++ y :: C)) m = A ++ (W ++ C) ∧ Up c W ∧ F c (U ++ [y]) W := by
  obtain ⟨h1, h2, h3, h4⟩ := Qb3 (fun h => !decide (c (gt z (A ++ (U ++ y :: C)) m) (gt z (A ++ (U ++ y :: C)) h) < 0)) ((m - a).toNat + 1) a m (by omega) (by omega)
  change a ≤ st3 z c (A ++ (U ++ y :: C)) a m at h1
  change st3 z c (A ++ (U ++ y :: C)) a m ≤ m at h2
  change st3 z c (A ++ (U ++ y :: C)) a m = a ∨ (!decide (c _ (gt z _ (st3 z c (A ++ (U ++ y :: C)) a m - 1)) < 0)) = true at h3
  change st3 z c (A ++ (U ++ y :: C)) a m = m ∨ (!decide (c _ (gt z _ (st3 z c (A ++ (U ++ y :: C)) a m)) < 0)) = false at h4
  generalize st3 z c (A ++ (U ++ y :: C)) a m = t at h1 h2 h3 h4
  rw [Q89 z (A := A ++ U) (C := C) (x := y) (by simp) (by simp; omega)] at h3 h4
  have hU12 : U = U.take (t - a).toNat ++ U.drop (t - a).toNat := (List.take_append_drop _ _).symm
  have l1 : (U.take (t - a).toNat).length = (t - a).toNat := by simp; omega
  generalize U.take (t - a).toNat = U1 at hU12 l1
  generalize U.drop (t - a).toNat = U2 at hU12
  subst hU12
  rw [List.length_append] at hm
  have hu := List.pairwise_append.1 hU
  have k1 : ∀ u ∈ U1, le c u y := by
    rcases List.eq_nil_or_concat U1 with e | ⟨L, l, e⟩
    · subst e
      intro y hy
      cases hy
    · subst e
      simp only [List.concat_eq_append] at *
      rcases h3 with e | e
      · simp at l1
        omega
      · rw [Q89 z (A := A ++ L) (x := l) (C := U2 ++ y :: C) (by simp) (by simp at l1 ⊢; omega)] at e
        exact fun u hu' => T.tr u l y (Qo0 T hu.1 u hu') (by simpa using e)
  have k2 : ∀ u ∈ U2, c y u < 0 := by
    cases U2 with
    | nil =>
      intro y hy
      cases hy
    | cons w U2 =>
      rcases h4 with e | e
      · simp at hm
        omega
      · rw [Q89 z (A := A ++ U1) (x := w) (C := U2 ++ y :: C) (by simp) (by simp; omega)] at e
        exact fun u hu' => Qhq T (by simpa using e) (Qnx T hu.2.1 u hu')
  refine ⟨U1 ++ y :: U2, ?_, ?_, ?_⟩
  · have e := Qw9 z y (A ++ U1) t (by simp; omega) U2.reverse C ((m - t).toNat + 1) m (by simp; omega) (by simp; omega)
    rw [List.reverse_reverse] at e
    have e2 : A ++ (U1 ++ U2 ++ y :: C) = (A ++ U1) ++ (U2 ++ y :: C) := by simp
    rw [e2, e]
    simp
  · refine List.pairwise_append.2 ⟨hu.1, List.pairwise_cons.2 ⟨fun u hu' => T.asym _ _ (k2 u hu'), hu.2.1⟩, fun u hu' w hw => ?_⟩
    rcases List.mem_cons.1 hw with e | e
    · rw [e]
      exact k1 u hu'
    · exact hu.2.2 u hu' w e
  · have e : F c (U2 ++ [y]) ([y] ++ U2) := F.swap T (fun u hu' b hb => by rw [List.mem_singleton.1 hb]; exact k2 u hu')
    have e2 := (F.rfl (l := U1)).app e
    simpa using e2
end
end Go.Pv.Srt
end

section
/- The library's stable sort: merging in general, blocks, the whole. Program-free. -/
namespace Go.Pv.Srt
section
variable {α : Type} (z : α) {c : α → α → Int}
theorem two (T : Tot c) (rec : List α → Int → Int → Int → List α) {A U V C d : List α} {a m b mid st : Int} (hd : d = A ++ (U ++ (V ++ C))) (ha : a = (A.length : Int)) (hm : m = a + (U.length : Int)) (hb : b = m + (V.length : Int)) (hU : Up c U) (hV : Up c V)
    (b1 : a ≤ st) (b2 : st ≤ m) (b3 : st ≤ mid) (b4 : mid + m - st ≤ b) (b5 : a < mid) (b6 : mid < b)
    (g1 : st = a ∨ mid + m - st = b ∨ ¬ c (gt z d (mid + m - st)) (gt z d (st - 1)) < 0)
    (g2 : st = m ∨ st = mid ∨ c (gt z d (mid + m - 1 - st)) (gt z d st) < 0)
    (hrec : ∀ (A U V C : List α) (a' m' b' : Int), a' = (A.length : Int) → m' = a' + (U.length : Int) → b' = m' + (V.length : Int) → 0 < U.length → 0 < V.length → Up c U → Up c V → b' - a' < b - a → ∃ W, rec (A ++ (U ++ (V ++ C))) a' m' b' = A ++ (W ++ C) ∧ Up c W ∧ F c (U ++ V) W) :
    ∃ W, sym2 z rec d a m b mid st = A ++ (W ++ C) ∧ Up c W ∧ F c (U ++ V) W := by
  have hU12 : U = U.take (st - a).toNat ++ U.drop (st - a).toNat := (List.take_append_drop _ _).symm
  have l1 : (U.take (st - a).toNat).length = (st - a).toNat := by simp; omega
  generalize U.take (st - a).toNat = U1 at hU12 l1
  generalize U.drop (st - a).toNat = U2 at hU12
  subst hU12
  have hV12 : V = V.take (mid - st).toNat ++ V.drop (mid - st).toNat := (List.take_append_drop _ _).symm
  have l2 : (V.take (mid - st).toNat).length = (mid - st).toNat := by simp; omega
  generalize V.take (mid - st).toNat = V1 at hV12 l2
  generalize V.drop (mid - st).toNat = V2 at hV12
  subst hV12
  rw [List.length_append] at hm hb
  have hu := List.pairwise_append.1 hU
  have hv := List.pairwise_append.1 hV
  have hd' : d = A ++ (U1 ++ (U2 ++ (V1 ++ (V2 ++ C)))) := by rw [hd]; simp
  clear hd
  have c1 : ∀ x ∈ U1, ∀ y ∈ V2, le c x y := by
    rcases List.eq_nil_or_concat U1 with e | ⟨L, l, e⟩
    · subst e
      intro x hx
      cases hx
    · cases V2 with
      | nil =>
        intro x _ y hy
        cases hy
      | cons w V2 =>
        subst e
        simp only [List.concat_eq_append, List.length_append, List.length_cons, List.length_nil] at *
        rcases g1 with e | e | e
        · omega
        · omega
        · rw [Q89 z (d := d) (i := st - 1) (A := A ++ L) (x := l) (C := U2 ++ (V1 ++ (w :: V2 ++ C))) (by rw [hd']; simp) (by simp; omega),
            Q89 z (d := d) (i := mid + m - st) (A := A ++ (L ++ [l]) ++ U2 ++ V1) (x := w) (C := V2 ++ C) (by rw [hd']; simp) (by simp; omega)] at e
          exact fun x hx y hy => T.tr x w y (T.tr x l w (Qo0 T hu.1 x hx) e) (Qnx T hv.2.1 y hy)
  have c2 : ∀ x ∈ U2, ∀ y ∈ V1, c y x < 0 := by
    rcases List.eq_nil_or_concat V1 with e | ⟨L, l, e⟩
    · subst e
      intro x _ y hy
      cases hy
    · cases U2 with
      | nil =>
        intro x hx
        cases hx
      | cons w U2 =>
        subst e
        simp only [List.concat_eq_append, List.length_append, List.length_cons, List.length_nil] at *
        rcases g2 with e | e | e
        · omega
        · omega
        · rw [Q89 z (d := d) (i := st) (A := A ++ U1) (x := w) (C := U2 ++ ((L ++ [l]) ++ (V2 ++ C))) (by rw [hd']; simp) (by simp; omega),
            Q89 z (d := d) (i := mid + m - 1 - st) (A := A ++ U1 ++ (w :: U2) ++ L) (x := l) (C := V2 ++ C) (by rw [hd']; simp) (by simp; omega)] at e
          exact fun x hx y hy => Qhq T (Qdv T (Qo0 T hv.1 y hy) e) (Qnx T hu.2.1 x hx)
  unfold sym2
  -- the exchange
  have hd1 : (bif decide (st < m) && decide (m < mid + m - st) then rot z d st m (mid + m - st) else d) = A ++ (U1 ++ (V1 ++ (U2 ++ (V2 ++ C)))) := by
    by_cases h : st < m ∧ m < mid + m - st
    · rw [show (decide (st < m) && decide (m < mid + m - st)) = true by simpa using h, cond_true]
      rw [Q16o z (A := A ++ U1) (U := U2) (V := V1) (C := V2 ++ C) (by rw [hd']; simp) (by simp; omega) (by omega) (by omega) (by omega) (by omega)]
      simp
    · rw [show (decide (st < m) && decide (m < mid + m - st)) = false by rw [Bool.eq_false_iff]; simpa using h, cond_false, hd']
      by_cases h2 : U2.length = 0
      · rw [List.length_eq_zero_iff.1 h2]
        simp
      · have h3 : V1.length = 0 := by omega
        rw [List.length_eq_zero_iff.1 h3]
        simp
  simp only [hd1]
  -- the left
  have hl : ∃ W1, (bif decide (a < st) && decide (st < mid) then rec (A ++ (U1 ++ (V1 ++ (U2 ++ (V2 ++ C))))) a st mid else A ++ (U1 ++ (V1 ++ (U2 ++ (V2 ++ C))))) = A ++ (W1 ++ (U2 ++ (V2 ++ C))) ∧ Up c W1 ∧ F c (U1 ++ V1) W1 := by
    by_cases h : a < st ∧ st < mid
    · rw [show (decide (a < st) && decide (st < mid)) = true by simpa using h, cond_true]
      exact hrec A U1 V1 (U2 ++ (V2 ++ C)) a st mid ha (by omega) (by omega) (by omega) (by omega) hu.1 hv.1 (by omega)
    · rw [show (decide (a < st) && decide (st < mid)) = false by rw [Bool.eq_false_iff]; simpa using h, cond_false]
      refine ⟨U1 ++ V1, by simp, ?_, F.rfl⟩
      by_cases h2 : U1.length = 0
      · rw [List.length_eq_zero_iff.1 h2]
        exact hv.1
      · have h3 : V1.length = 0 := by omega
        rw [List.length_eq_zero_iff.1 h3, List.append_nil]
        exact hu.1
  obtain ⟨W1, e1, u1, f1⟩ := hl
  rw [e1]
  have lw : W1.length = (st - a).toNat + (mid - st).toNat := by have := f1.1; rw [List.length_append] at this; omega
  have hr : ∃ W2, (bif decide (mid < mid + m - st) && decide (mid + m - st < b) then rec (A ++ (W1 ++ (U2 ++ (V2 ++ C)))) mid (mid + m - st) b else A ++ (W1 ++ (U2 ++ (V2 ++ C)))) = A ++ (W1 ++ (W2 ++ C)) ∧ Up c W2 ∧ F c (U2 ++ V2) W2 := by
    by_cases h : mid < mid + m - st ∧ mid + m - st < b
    · rw [show (decide (mid < mid + m - st) && decide (mid + m - st < b)) = true by simpa using h, cond_true]
      obtain ⟨W2, e2, u2, f2⟩ := hrec (A ++ W1) U2 V2 C mid (mid + m - st) b (by simp; omega) (by omega) (by omega) (by omega) (by omega) hu.2.1 hv.2.1 (by omega)
      refine ⟨W2, ?_, u2, f2⟩
      rw [List.append_assoc, List.append_assoc] at e2
      exact e2
    · rw [show (decide (mid < mid + m - st) && decide (mid + m - st < b)) = false by rw [Bool.eq_false_iff]; simpa using h, cond_false]
      refine ⟨U2 ++ V2, by simp, ?_, F.rfl⟩
      by_cases h2 : U2.length = 0
      · rw [List.length_eq_zero_iff.1 h2]
        exact hv.2.1
      · have h3 : V2.length = 0 := by omega
        rw [List.length_eq_zero_iff.1 h3, List.append_nil]
        exact hu.2.1
  obtain ⟨W2, e2, u2, f2⟩ := hr
  refine ⟨W1 ++ W2, by rw [e2]; simp, List.pairwise_append.2 ⟨u1, u2, fun x hx y hy => ?_⟩, ?_⟩
  · rcases List.mem_append.1 (f1.symm.mem T hx) with hx | hx <;> rcases List.mem_append.1 (f2.symm.mem T hy) with hy | hy
    · exact hu.2.2 x hx y hy
    · exact c1 x hx y hy
    · exact T.asym _ _ (c2 y hy x hx)
    · exact hv.2.2 x hx y hy
  · have e : F c (U1 ++ (U2 ++ V1) ++ V2) (U1 ++ (V1 ++ U2) ++ V2) := (F.rfl.app (F.swap T c2)).app F.rfl
    have e' := f1.app f2
    refine F.trans (r := U1 ++ (V1 ++ U2) ++ V2) ?_ (F.trans (r := (U1 ++ V1) ++ (U2 ++ V2)) (by simpa using F.rfl) e')
    simpa using e
theorem Qnp (T : Tot c) : ∀ (k : Nat) (A U V C : List α) (a m b : Int), a = (A.length : Int) → m = a + (U.length : Int) → b = m + (V.length : Int) → 0 < U.length → 0 < V.length → Up c U → Up c V → (b - a).toNat < k →
    ∃ W, sym z c k (A ++ (U ++ (V ++ C))) a m b = A ++ (W ++ C) ∧ Up c W ∧ F c (U ++ V) W
  | 0, _, _, _, _, _, _, _, _, _, _, _, _, _, _, h => absurd h (Nat.not_lt_zero _)
  | k + 1, A, U, V, C, a, m, b, ha, hm, hb, lU, lV, hU, hV, hk => by
    rw [sym]
    by_cases h1 : m - a = 1
    · rw [show (m - a == 1) = true by simpa using h1, cond_true]
      obtain ⟨x, rfl⟩ := List.length_eq_one_iff.1 (show U.length = 1 by omega)
      exact one1 z T ha (by omega) hb hV
    · rw [show (m - a == 1) = false by simpa using h1, cond_false]
      by_cases h2 : b - m = 1
      · rw [show (b - m == 1) = true by simpa using h2, cond_true]
        obtain ⟨y, rfl⟩ := List.length_eq_one_iff.1 (show V.length = 1 by omega)
        exact one3 z T ha hm hU
      · rw [show (b - m == 1) = false by simpa using h2, cond_false]
        have hs : a ≤ sst z c (A ++ (U ++ (V ++ C))) a m b ∧ sst z c (A ++ (U ++ (V ++ C))) a m b ≤ m ∧ sst z c (A ++ (U ++ (V ++ C))) a m b ≤ (a + b) / 2 ∧ (a + b) / 2 + m - sst z c (A ++ (U ++ (V ++ C))) a m b ≤ b ∧
            (sst z c (A ++ (U ++ (V ++ C))) a m b = a ∨ (a + b) / 2 + m - sst z c (A ++ (U ++ (V ++ C))) a m b = b ∨ sg z c (A ++ (U ++ (V ++ C))) ((a + b) / 2 + m - 1) (sst z c (A ++ (U ++ (V ++ C))) a m b - 1) = true) ∧
            (sst z c (A ++ (U ++ (V ++ C))) a m b = m ∨ sst z c (A ++ (U ++ (V ++ C))) a m b = (a + b) / 2 ∨ sg z c (A ++ (U ++ (V ++ C))) ((a + b) / 2 + m - 1) (sst z c (A ++ (U ++ (V ++ C))) a m b) = false) := by
          unfold sst
          by_cases h3 : (a + b) / 2 < m
          · rw [show decide ((a + b) / 2 < m) = true by simpa using h3]
            simp only [cond_true]
            obtain ⟨q1, q2, q3, q4⟩ := Qb3 (sg z c (A ++ (U ++ (V ++ C))) ((a + b) / 2 + m - 1)) (((a + b) / 2 - ((a + b) / 2 + m - b)).toNat + 1) ((a + b) / 2 + m - b) ((a + b) / 2) (by omega) (by omega)
            refine ⟨by omega, by omega, q2, by omega, ?_, ?_⟩
            · rcases q3 with e | e
              · exact Or.inr (Or.inl (by omega))
              · exact Or.inr (Or.inr e)
            · rcases q4 with e | e
              · exact Or.inr (Or.inl e)
              · exact Or.inr (Or.inr e)
          · rw [show decide ((a + b) / 2 < m) = false by simpa using h3]
            simp only [cond_false]
            obtain ⟨q1, q2, q3, q4⟩ := Qb3 (sg z c (A ++ (U ++ (V ++ C))) ((a + b) / 2 + m - 1)) ((m - a).toNat + 1) a m (by omega) (by omega)
            refine ⟨q1, q2, by omega, by omega, ?_, ?_⟩
            · rcases q3 with e | e
              · exact Or.inl e
              · exact Or.inr (Or.inr e)
            · rcases q4 with e | e
              · exact Or.inl e
              · exact Or.inr (Or.inr e)
        generalize sst z c (A ++ (U ++ (V ++ C))) a m b = st at hs
        obtain ⟨s1, s2, s3, s4, s5, s6⟩ := hs
        refine two z T (sym z c k) rfl ha hm hb hU hV s1 s2 s3 s4 (by omega) (by omega) ?_ ?_ (fun A U V C a' m' b' p1 p2 p3 p4 p5 p6 p7 p8 => Qnp T k A U V C a' m' b' p1 p2 p3 p4 p5 p6 p7 (by omega))
        · rcases s5 with e | e | e
          · exact Or.inl e
          · exact Or.inr (Or.inl e)
          · refine Or.inr (Or.inr ?_)
            unfold sg at e
            rw [show (a + b) / 2 + m - 1 - (st - 1) = (a + b) / 2 + m - st by omega] at e
            simpa using e
        · rcases s6 with e | e | e
          · exact Or.inl e
          · exact Or.inr (Or.inl e)
          · refine Or.inr (Or.inr ?_)
            unfold sg at e
            simpa using e
end
end Go.Pv.Srt
end

section
/- The library's stable sort: blocks, and the whole: it answers what insertion answers. Program-free. -/
namespace Go.Pv.Srt
section
variable {α : Type} (z : α) (c : α → α → Int)
def stb0 (n : Int) : Nat → List α → Int → Int → List α × Int
 | 0, v, a, _ => (v, a)
 | k + 1, v, a, b => bif decide (b ≤ n) then stb0 n k (ins z c v a b) b (b + 20) else (v, a)
def stb2 (n : Int) : Nat → List α → Int → Int → Int → List α × Int × Int
 | 0, v, a, _, s => (v, s, a)
 | k + 1, v, a, b, s => bif decide (b ≤ n) then stb2 n k (sym z c ((b - a).toNat + 1) v a (a + s) b) b (b + (2 * s)) s else (v, s, a)
def Qed (n : Int) (v : List α) (s : Int) : List α × Int × Int := stb2 z c n ((n + 2 * s - (2 * s)).toNat + 1) v 0 (2 * s) s
def stb1 (n : Int) : Nat → List α → Int → List α
 | 0, v, _ => v
 | k + 1, v, s =>
  bif decide (s < n) then
   bif decide ((Qed z c n v s).2.2 + (Qed z c n v s).2.1 < n) then
    stb1 n k (sym z c ((n - (Qed z c n v s).2.2).toNat + 1) (Qed z c n v s).1 (Qed z c n v s).2.2 ((Qed z c n v s).2.2 + (Qed z c n v s).2.1) n) ((Qed z c n v s).2.1 * 2)
   else stb1 n k (Qed z c n v s).1 ((Qed z c n v s).2.1 * 2)
  else v
def stb (d : List α) (n : Int) : List α :=
 stb1 z c n ((n - 20).toNat + 1) (ins z c (stb0 z c n ((n + 20 - 20).toNat + 1) d 0 20).1 (stb0 z c n ((n + 20 - 20).toNat + 1) d 0 20).2 n) 20
inductive Bl (s : Nat) : List α → Prop
  | last {l : List α} : l.length ≤ s → Up c l → Bl s l
  | cons {l r : List α} : l.length = s → Up c l → Bl s r → Bl s (l ++ r)
inductive Fu (s : Nat) : List α → Prop
  | nil : Fu s []
  | snoc {p l : List α} : Fu s p → l.length = s → Up c l → Fu s (p ++ l)
variable {c}
theorem Fu.bl {s : Nat} {P : List α} (h : Fu c s P) : ∀ {Q : List α}, Bl c s Q → Bl c s (P ++ Q) := by
 induction h with
 | nil => exact fun h => h
 | snoc _ h1 h2 ih =>
  intro Q hQ
  rw [List.append_assoc]
  exact ih (Bl.cons h1 h2 hQ)
theorem Bl.one {s : Nat} {Q : List α} (h : Bl c s Q) (hl : Q.length ≤ s) : Up c Q := by
 cases h with
 | last _ h => exact h
 | cons h1 h2 h3 =>
  rename_i l r
  rw [List.length_append] at hl
  rw [List.length_eq_zero_iff.1 (show r.length = 0 by omega), List.append_nil]
  exact h2
theorem Bl.split {s : Nat} {Q : List α} (h : Bl c s Q) (hl : s < Q.length) : ∃ l r, Q = l ++ r ∧ l.length = s ∧ Up c l ∧ Bl c s r := by
 cases h with
 | last h _ => omega
 | cons h1 h2 h3 => exact ⟨_, _, rfl, h1, h2, h3⟩
theorem Bl.two {s : Nat} {Q : List α} (hs : 0 < s) (h : Bl c s Q) (hl : 2 * s ≤ Q.length) : ∃ l m r, Q = l ++ (m ++ r) ∧ l.length = s ∧ m.length = s ∧ Up c l ∧ Up c m ∧ Bl c s r := by
  obtain ⟨l, r, rfl, h1, h2, h3⟩ := h.split (by omega)
  rw [List.length_append] at hl
  by_cases h4 : s < r.length
  · obtain ⟨m, r, rfl, h5, h6, h7⟩ := h3.split h4
    exact ⟨l, m, r, rfl, h1, h5, h2, h6, h7⟩
  · exact ⟨l, r, [], by simp, h1, by omega, h2, h3.one (by omega), Bl.last (by simp) List.Pairwise.nil⟩
theorem Qsf (T : Tot c) (n : Int) : ∀ (k : Nat) (P Q : List α) (a b : Int), a = (P.length : Int) → b = a + 20 → n = (P.length : Int) + (Q.length : Int) → Fu c 20 P → (n + 20 - b).toNat < k →
    ∃ P' Q', stb0 z c n k (P ++ Q) a b = (P' ++ Q', (P'.length : Int)) ∧ Fu c 20 P' ∧ Q'.length < 20 ∧ F c (P ++ Q) (P' ++ Q')
  | 0, _, _, _, _, _, _, _, _, h => absurd h (Nat.not_lt_zero _)
  | k + 1, P, Q, a, b, ha, hb, hn, hP, hk => by
    rw [stb0]
    by_cases h : b ≤ n
    · rw [show decide (b ≤ n) = true by simpa using h, cond_true]
      have e : P ++ Q = P ++ (Q.take 20 ++ Q.drop 20) := by rw [List.take_append_drop]
      have l1 : (Q.take 20).length = 20 := by simp; omega
      rw [e, Qw1 z c rfl ha (show b = a + ((Q.take 20).length : Int) by omega)]
      have f := Qdx T (Q.take 20)
      have l2 : (Q6p c (Q.take 20)).length = 20 := by have := f.1; omega
      have l3 : (Q.drop 20).length = Q.length - 20 := by simp
      rw [← List.append_assoc]
      obtain ⟨P', Q', h1, h2, h3, h4⟩ := Qsf T n k (P ++ Q6p c (Q.take 20)) (Q.drop 20) b (b + 20) (by rw [List.length_append]; omega) rfl (by rw [List.length_append]; omega) (Fu.snoc hP l2 (Qa5 T _)) (by omega)
      refine ⟨P', Q', h1, h2, h3, F.trans ?_ h4⟩
      rw [List.append_assoc]
      exact F.rfl.app (f.app F.rfl)
    · rw [show decide (b ≤ n) = false by simpa using h, cond_false]
      exact ⟨P, Q, by rw [ha], hP, by omega, F.rfl⟩
theorem Qr4 (T : Tot c) (n : Int) (t : Nat) (s : Int) (hs : s = (t : Int)) (ht : 0 < t) : ∀ (k : Nat) (P Q : List α) (a b : Int), a = (P.length : Int) → b = a + 2 * s → n = (P.length : Int) + (Q.length : Int) → Fu c (2 * t) P → Bl c t Q → (n + 2 * s - b).toNat < k →
    ∃ P' Q', stb2 z c n k (P ++ Q) a b s = (P' ++ Q', s, (P'.length : Int)) ∧ Fu c (2 * t) P' ∧ Bl c t Q' ∧ Q'.length < 2 * t ∧ F c (P ++ Q) (P' ++ Q')
  | 0, _, _, _, _, _, _, _, _, _, h => absurd h (Nat.not_lt_zero _)
  | k + 1, P, Q, a, b, ha, hb, hn, hP, hQ, hk => by
    rw [stb2]
    by_cases h : b ≤ n
    · rw [show decide (b ≤ n) = true by simpa using h, cond_true]
      obtain ⟨l, m, r, rfl, h1, h2, h3, h4, h5⟩ := hQ.two ht (by omega)
      simp only [List.length_append] at hn
      obtain ⟨W, e1, e2, e3⟩ := Qnp z T ((b - a).toNat + 1) P l m r a (a + s) b ha (by omega) (by omega) (by omega) (by omega) h3 h4 (by omega)
      have lW : W.length = 2 * t := by have := e3.1; rw [List.length_append] at this; omega
      rw [e1, ← List.append_assoc]
      obtain ⟨P', Q', g1, g2, g3, g4, g5⟩ := Qr4 T n t s hs ht k (P ++ W) r b (b + 2 * s) (by rw [List.length_append]; omega) rfl (by rw [List.length_append]; omega) (Fu.snoc hP lW e2) h5 (by omega)
      refine ⟨P', Q', g1, g2, g3, g4, F.trans ?_ g5⟩
      rw [List.append_assoc, ← List.append_assoc l]
      exact F.rfl.app (e3.app F.rfl)
    · rw [show decide (b ≤ n) = false by simpa using h, cond_false]
      exact ⟨P, Q, by rw [ha], hP, hQ, by omega, F.rfl⟩
theorem Qf4 (T : Tot c) (n : Int) : ∀ (k : Nat) (v : List α) (t : Nat) (s : Int), s = (t : Int) → 0 < t → n = (v.length : Int) → Bl c t v → (n - s).toNat < k → Up c (stb1 z c n k v s) ∧ F c v (stb1 z c n k v s)
  | 0, _, _, _, _, _, _, _, h => absurd h (Nat.not_lt_zero _)
  | k + 1, v, t, s, hs, ht, hn, hv, hk => by
    rw [stb1]
    by_cases h : s < n
    · rw [show decide (s < n) = true by simpa using h, cond_true]
      obtain ⟨P, Q, g1, g2, g3, g4, g5⟩ := Qr4 z T n t s hs ht ((n + 2 * s - (2 * s)).toNat + 1) [] v 0 (2 * s) rfl (by omega) (by simpa using hn) Fu.nil hv (by omega)
      have e : Qed z c n v s = (P ++ Q, s, (P.length : Int)) := g1
      rw [e]
      have hl := g5.1
      simp only [List.nil_append, List.length_append] at hl
      simp only
      by_cases h2 : (P.length : Int) + s < n
      · rw [show decide ((P.length : Int) + s < n) = true by simpa using h2, cond_true]
        obtain ⟨l, r, rfl, h3, h4, h5⟩ := g3.split (by omega)
        rw [List.length_append] at g4 hl
        obtain ⟨W, e1, e2, e3⟩ := Qnp z T ((n - (P.length : Int)).toNat + 1) P l r [] (P.length : Int) ((P.length : Int) + s) n rfl (by omega) (by omega) (by omega) (by omega) h4 (h5.one (by omega)) (by omega)
        rw [List.append_nil, List.append_nil] at e1
        rw [e1]
        have lW : W.length ≤ 2 * t := by have := e3.1; rw [List.length_append] at this; omega
        have lW' : (P ++ W).length = v.length := by have := e3.1; rw [List.length_append] at this ⊢; omega
        obtain ⟨q1, q2⟩ := Qf4 T n k (P ++ W) (2 * t) (s * 2) (by omega) (by omega) (by omega) (g2.bl (Bl.last lW e2)) (by omega)
        exact ⟨q1, F.trans (F.trans g5 (F.rfl.app e3)) q2⟩
      · rw [show decide ((P.length : Int) + s < n) = false by simpa using h2, cond_false]
        obtain ⟨q1, q2⟩ := Qf4 T n k (P ++ Q) (2 * t) (s * 2) (by omega) (by omega) (by rw [List.length_append]; omega) (g2.bl (Bl.last (by omega) (g3.one (by omega)))) (by omega)
        exact ⟨q1, F.trans g5 q2⟩
    · rw [show decide (s < n) = false by simpa using h, cond_false]
      exact ⟨hv.one (by omega), F.rfl⟩
theorem Q10i (T : Tot c) (d : List α) (n : Int) (hn : n = (d.length : Int)) : stb z c d n = Q6p c d := by
 unfold stb
 obtain ⟨P, Q, g1, g2, g3, g4⟩ := Qsf z T n ((n + 20 - 20).toNat + 1) [] d 0 20 rfl rfl (by simpa using hn) Fu.nil (by omega)
 rw [List.nil_append] at g1 g4
 rw [g1]
 simp only
 have hl := g4.1
 rw [List.length_append] at hl
 have e := Qw1 z c (d := P ++ Q) (A := P) (M := Q) (C := []) (a := (P.length : Int)) (b := n) (by simp) rfl (by omega)
 rw [e, List.append_nil]
 have f := Qdx T Q
 obtain ⟨q1, q2⟩ := Qf4 z T n ((n - 20).toNat + 1) (P ++ Q6p c Q) 20 20 rfl (by omega) (by rw [List.length_append, ← f.1]; omega) (g2.bl (Bl.last (by rw [← f.1]; omega) (Qa5 T Q))) (by omega)
 exact uniq T q1 (Qa5 T d) (F.trans q2.symm (F.trans (F.rfl.app f.symm) (F.trans g4.symm (Qdx T d))))
end
end Go.Pv.Srt
end

section
/- The printed functions of the library's stable sort are the plain ones (printed by a program). -/
namespace Go.Proofs.Ytnhhddbbppbblaa
open Go.Pv Go.Pv.Srt
abbrev Q1x : Fld := zF
theorem Qiu (n0 : Nat) (a b i : Int) : ∀ (k : Nat) (v : List Fld) (j : Int), Q2b n0 a b i k v j = ins1 Q1x Q27 a k v j
  | 0, _, _ => rfl
  | k + 1, v, j => by
    rw [Q2b, ins1, Qiu n0 a b i k]
    rfl
theorem Qk1 (n0 : Nat) (a b : Int) : ∀ (k : Nat) (i : Int) (v : List Fld), Q2w n0 a b k i v = ins0 Q1x Q27 a b k i v
  | 0, _, _ => rfl
  | k + 1, i, v => by
    rw [Q2w, ins0, Qk1 n0 a b k, Qiu]
theorem Qqo (n0 : Nat) (d : List Fld) (a b : Int) : Q1g n0 d a b = ins Q1x Q27 d a b := Qk1 n0 a b _ _ _
theorem Qih (n0 : Nat) (p q n : Int) : ∀ (k : Nat) (v : List Fld) (i : Int), Q2x n0 p q n k v i = swr1 Q1x p q n k v i
  | 0, _, _ => rfl
  | k + 1, v, i => by
    rw [Q2x, swr1, Qih n0 p q n k]
    rfl
theorem Qh6 (n0 : Nat) (d : List Fld) (p q n : Int) : Q1b n0 d p q n = swr Q1x d p q n := Qih n0 p q n _ _ _
theorem Qbb (n0 : Nat) (m : Int) : ∀ (k : Nat) (i j : Int) (v : List Fld), Q1r n0 m k i j v = rot1 Q1x m k i j v
  | 0, _, _, _ => rfl
  | k + 1, i, j, v => by
    rw [Q1r, rot1, Qbb n0 m k, Qbb n0 m k, Qh6, Qh6]
theorem Q15l (n0 : Nat) (d : List Fld) (a m b : Int) : Qb n0 d a m b = rot Q1x d a m b := by
  unfold Qb rot
  rw [Qbb, Qh6]
theorem Qdp (n0 : Nat) (d : List Fld) (a m b : Int) : ∀ (k : Nat) (i j : Int), Q2k n0 d a m b k i j = bs (fun h => decide (Q27 (gt Q1x d h) (gt Q1x d a) < 0)) k i j
  | 0, _, _ => rfl
  | k + 1, i, j => by
    rw [Q2k, bs, Qdp n0 d a m b k, Qdp n0 d a m b k]
    rfl
theorem Qt8 (n0 : Nat) : ∀ (k : Nat) (t : Int) (v : List Fld) (i : Int), Q2y n0 k t v i = mv1 Q1x k t v i
  | 0, _, _, _ => rfl
  | k + 1, t, v, i => by
    rw [Q2y, mv1, Qt8 n0 k]
    rfl
theorem Qep (n0 : Nat) (d : List Fld) (a m : Int) : ∀ (k : Nat) (j i : Int), Q2h n0 d a m k j i = bs (fun h => !decide (Q27 (gt Q1x d m) (gt Q1x d h) < 0)) k i j
  | 0, _, _ => rfl
  | k + 1, j, i => by
    rw [Q2h, bs, Qep n0 d a m k, Qep n0 d a m k]
    cases decide (i < j) with
    | false => rfl
    | true =>
      show (bif decide (Q27 (gt Q1x d m) (gt Q1x d ((i + j) / 2)) < 0) then _ else _) = bif !decide (Q27 (gt Q1x d m) (gt Q1x d ((i + j) / 2)) < 0) then _ else _
      cases decide (Q27 (gt Q1x d m) (gt Q1x d ((i + j) / 2)) < 0) <;> rfl
theorem Qpf (n0 : Nat) : ∀ (k : Nat) (t : Int) (v : List Fld) (i : Int), Q2v n0 k t v i = mv3 Q1x k t v i
  | 0, _, _, _ => rfl
  | k + 1, t, v, i => by
    rw [Q2v, mv3, Qpf n0 k]
    rfl
theorem Qej (n0 : Nat) (d : List Fld) (a m b mid n p : Int) : ∀ (k : Nat) (i j : Int), Q0 n0 d a m b k mid n i j p = (mid, n, bs (sg Q1x Q27 d p) k i j)
  | 0, _, _ => rfl
  | k + 1, i, j => by
    rw [Q0, bs, Qej n0 d a m b mid n p k, Qej n0 d a m b mid n p k]
    cases decide (i < j) with
    | false => rfl
    | true =>
      show (bif decide (Q27 (gt Q1x d (p - (i + j) / 2)) (gt Q1x d ((i + j) / 2)) < 0) then _ else _) = (mid, n, bif !decide (Q27 (gt Q1x d (p - (i + j) / 2)) (gt Q1x d ((i + j) / 2)) < 0) then _ else _)
      cases decide (Q27 (gt Q1x d (p - (i + j) / 2)) (gt Q1x d ((i + j) / 2)) < 0) <;> rfl
theorem Qf5 (n0 : Nat) : ∀ (k : Nat) (d : List Fld) (a m b : Int), Q6 k n0 d a m b = sym Q1x Q27 k d a m b
  | 0, _, _, _, _ => rfl
  | k + 1, d, a, m, b => by
    rw [Q6, sym]
    simp only [Qf5 n0 k, Qdp, Qt8, Qep, Qpf, Qej, Q15l]
    cases (m - a == 1) with
    | true => rfl
    | false =>
      cases (b - m == 1) with
      | true => rfl
      | false =>
        simp only [cond_false]
        unfold sst
        cases decide ((a + b) / 2 < m) with
        | true =>
          simp only [cond_true]
          generalize bs (sg Q1x Q27 d ((a + b) / 2 + m - 1)) (((a + b) / 2 - ((a + b) / 2 + m - b)).toNat + 1) ((a + b) / 2 + m - b) ((a + b) / 2) = st
          unfold sym2
          generalize (a + b) / 2 = mid
          cases decide (st < m) <;> cases decide (m < mid + m - st) <;> cases decide (a < st) <;> cases decide (st < mid) <;> cases decide (mid < mid + m - st) <;> cases decide (mid + m - st < b) <;> rfl
        | false =>
          simp only [cond_false]
          generalize bs (sg Q1x Q27 d ((a + b) / 2 + m - 1)) ((m - a).toNat + 1) a m = st
          unfold sym2
          generalize (a + b) / 2 = mid
          cases decide (st < m) <;> cases decide (m < mid + m - st) <;> cases decide (a < st) <;> cases decide (st < mid) <;> cases decide (mid < mid + m - st) <;> cases decide (mid + m - st < b) <;> rfl
theorem Qi8 (n0 : Nat) (n : Int) : ∀ (k : Nat) (v : List Fld) (a b : Int), Q20 n0 n k v a b = stb0 Q1x Q27 n k v a b
  | 0, _, _, _ => rfl
  | k + 1, v, a, b => by
    rw [Q20, stb0, Qi8 n0 n k, Qqo]
theorem Qix (n0 : Nat) (n : Int) : ∀ (k : Nat) (v : List Fld) (a b s : Int), Qd n0 n k v a b s = stb2 Q1x Q27 n k v a b s
  | 0, _, _, _, _ => rfl
  | k + 1, v, a, b, s => by
    rw [Qd, stb2, Qix n0 n k, Qf5]
theorem Qkp (n0 : Nat) (n : Int) : ∀ (k : Nat) (v : List Fld) (s : Int), Q2n n0 n k v s = stb1 Q1x Q27 n k v s
  | 0, _, _ => rfl
  | k + 1, v, s => by
    rw [Q2n, stb1]
    simp only [Qkp n0 n k, Qix, Qf5]
    rfl
theorem Q12d (n0 : Nat) (d : List Fld) (n : Int) : Q3g n0 d n = stb Q1x Q27 d n := by
  unfold Q3g stb
  simp only [Qkp, Qqo, Qi8]
theorem Qz3 (T : Tot Q27) (d : List Fld) : Qk d.length d = Q6p Q27 d := by
  unfold Qk
  rw [Q12d, Q10i _ T d _ rfl]
end Go.Proofs.Ytnhhddbbppbblaa
end

section
/- What setting and taking out a field computes (printed by a program). -/
namespace Go.Proofs.Ytnhhddbbppbblaa
open Go.Pv
def Q2r (p0 : Val) (p1 : BA) (p2 : Val) : Val :=
 (Qdz (List.take (Q3c p0 p1).1 (Q3c p0 p1).2 ++ [(Fld.mk p1 p2)]))
def Q1de (p0 : Val) (p1 : BA) (p2 : Val) : En := .call 30 [.agg (Val.cells p0), .str p1, .agg (Val.cells p2)] []
def Q19r (p0 : Val) (p1 : BA) (p2 : Val) : Rs := .ret (.agg (Val.cells (Q2r p0 p1 p2))) []
def Qmo (p0 : Val) (p1 : BA) (p2 : Val) : Prop := (Q18q p0 p1) ∧ ((Q3c p0 p1).1 ≤ List.length (Q3c p0 p1).2) ∧ (((Q3c p0 p1).1 + 1) * 96 ≤ 140737488355328) ∧ (Q13g (List.take (Q3c p0 p1).1 (Q3c p0 p1).2 ++ [(Fld.mk p1 p2)])) ∧ True
theorem Q134 (p0 : Val) (p1 : BA) (p2 : Val) (H : Qmo p0 p1 p2) : Q7 G (Q1de p0 p1 p2) (Q19r p0 p1 p2) := by
 unfold Q19r Q2r
 exact Q9 (fn := Ir.K1p) rfl VOK.nil [hQ (Fld.Q5 (Q3c p0 p1).2 6 rfl), hV 10 [(640, Fld.rows (List.take (Q3c p0 p1).1 (Q3c p0 p1).2 ++ [(Fld.mk p1 p2)]))] (Q17p 320 576 640 6 96 0 true (Fld.rows (Q3c p0 p1).2) (Fld.rows (List.take (Q3c p0 p1).1 (Q3c p0 p1).2 ++ [(Fld.mk p1 p2)])) (Fld.cells (Fld.mk p1 p2)) (Q3c p0 p1).1 (List.length (List.take (Q3c p0 p1).1 (Q3c p0 p1).2 ++ [(Fld.mk p1 p2)])) rfl (by rw [Fld.Q8]; exact (H.2.1)) (Fld.Q8 (List.take (Q3c p0 p1).1 (Q3c p0 p1).2 ++ [(Fld.mk p1 p2)])).symm (by rw [Fld.Q2p, Fld.Qch]) (Fld.Ql (Q3c p0 p1).2) rfl (H.2.2.1)), hS 0 true (Fld.Q5 (List.take (Q3c p0 p1).1 (Q3c p0 p1).2 ++ [(Fld.mk p1 p2)]) 6 rfl), hQ (Fld.Q8 (List.take (Q3c p0 p1).1 (Q3c p0 p1).2 ++ [(Fld.mk p1 p2)])).symm] [aV [(0, Fld.rows (Q3c p0 p1).2)] (Q1d9 p0 p1 H.1), aN (Q1b5 (List.take (Q3c p0 p1).1 (Q3c p0 p1).2 ++ [(Fld.mk p1 p2)]) H.2.2.2.1)] (by kernel_rfl)
def s_Kr (p0 : Val) (p1 : BA) (p2 : Val) : Val :=
 (s_Km (List.take (s_Ku p0 p1).1 (s_Ku p0 p1).2 ++ [(Fld.mk p1 p2)]))
def c_Kr (p0 : Val) (p1 : BA) (p2 : Val) : En := .call 32 [.agg (Val.cells p0), .str p1, .agg (Val.cells p2)] []
def a_Kr (p0 : Val) (p1 : BA) (p2 : Val) : Rs := .ret (.agg (Val.cells (s_Kr p0 p1 p2))) []
def H_Kr (p0 : Val) (p1 : BA) (p2 : Val) : Prop := (H_Ku p0 p1) ∧ ((s_Ku p0 p1).1 ≤ List.length (s_Ku p0 p1).2) ∧ (((s_Ku p0 p1).1 + 1) * 96 ≤ 140737488355328) ∧ (H_Km (List.take (s_Ku p0 p1).1 (s_Ku p0 p1).2 ++ [(Fld.mk p1 p2)])) ∧ True
theorem t_Kr (p0 : Val) (p1 : BA) (p2 : Val) (H : H_Kr p0 p1 p2) : Q7 G (c_Kr p0 p1 p2) (a_Kr p0 p1 p2) := by
 unfold a_Kr s_Kr
 exact Q9 (fn := Ir.Kr) rfl VOK.nil [hQ (Fld.Q5 (s_Ku p0 p1).2 6 rfl), hV 12 [(768, Fld.rows (List.take (s_Ku p0 p1).1 (s_Ku p0 p1).2 ++ [(Fld.mk p1 p2)]))] (Q17p 320 704 768 6 96 0 true (Fld.rows (s_Ku p0 p1).2) (Fld.rows (List.take (s_Ku p0 p1).1 (s_Ku p0 p1).2 ++ [(Fld.mk p1 p2)])) (Fld.cells (Fld.mk p1 p2)) (s_Ku p0 p1).1 (List.length (List.take (s_Ku p0 p1).1 (s_Ku p0 p1).2 ++ [(Fld.mk p1 p2)])) rfl (by rw [Fld.Q8]; exact (H.2.1)) (Fld.Q8 (List.take (s_Ku p0 p1).1 (s_Ku p0 p1).2 ++ [(Fld.mk p1 p2)])).symm (by rw [Fld.Q2p, Fld.Qch]) (Fld.Ql (s_Ku p0 p1).2) rfl (H.2.2.1)), hS 0 true (Fld.Q5 (List.take (s_Ku p0 p1).1 (s_Ku p0 p1).2 ++ [(Fld.mk p1 p2)]) 6 rfl), hQ (Fld.Q8 (List.take (s_Ku p0 p1).1 (s_Ku p0 p1).2 ++ [(Fld.mk p1 p2)])).symm] [aV [(0, Fld.rows (s_Ku p0 p1).2)] (t_Ku p0 p1 H.1), aN (t_Km (List.take (s_Ku p0 p1).1 (s_Ku p0 p1).2 ++ [(Fld.mk p1 p2)]) H.2.2.2.1)] (by kernel_rfl)
end Go.Proofs.Ytnhhddbbppbblaa
end

section
/- Comparisons that answer -1, 0 or 1; the order of strings. -/
namespace Go.Pv
def R3 (a : Int) : Prop := a = -1 ∨ a = 0 ∨ a = 1
def T3 (a b e : Int) : Prop := (a = 0 → e = b) ∧ (b = 0 → e = a) ∧ (a = b → e = a)
def lx (a b : Int) : Int := if a = 0 then b else a
def icmp (a b : Int) : Int := if a < b then -1 else if b < a then 1 else 0
theorem Qbj (a b : Int) : lx (-a) (-b) = -lx a b := by
 unfold lx
 split <;> split <;> omega
theorem Q1cp {a b e a' b' e' : Int} (_ha : R3 a) (_hb : R3 b) (_he : R3 e) (t : T3 a b e) (t' : T3 a' b' e') : T3 (lx a a') (lx b b') (lx e e') := by
 unfold T3 at *
 unfold lx R3 at *
 split <;> split <;> split <;> omega
theorem Qtl (a b : Int) : R3 (icmp a b) := by
  unfold icmp R3
  split
  · omega
  · split <;> omega
theorem Qmc (a b : Int) : icmp b a = -icmp a b := by
 unfold icmp
 split <;> split <;> first | omega | (split <;> omega) | skip
 all_goals omega
theorem Q18b (a b e : Int) : T3 (icmp a b) (icmp b e) (icmp a e) := by
 unfold T3 icmp
 split <;> split <;> split <;> (try split) <;> (try split) <;> (try split) <;> omega
theorem Qfw {a b : Int} : icmp a b = 0 ↔ a = b := by
  unfold icmp
  constructor
  · intro h
    split at h
    · omega
    · split at h <;> omega
  · intro h
    rw [if_neg (by omega), if_neg (by omega)]
theorem Qtq : ∀ a b : List UInt8, R3 (cmpL a b)
  | [], [] => Or.inr (Or.inl rfl)
  | [], _ :: _ => Or.inl rfl
  | _ :: _, [] => Or.inr (Or.inr rfl)
  | x :: a, y :: b => by
    rw [cmpL]
    split
    · exact Or.inl rfl
    · split
      · exact Or.inr (Or.inr rfl)
      · exact Qtq a b
theorem Q5k (x y : UInt8) (a b : List UInt8) : cmpL (x :: a) (y :: b) = lx (icmp (x.toNat : Int) (y.toNat : Int)) (cmpL a b) := by
  rw [cmpL]
  unfold lx icmp
  simp only [UInt8.lt_iff_toNat_lt]
  by_cases h1 : x.toNat < y.toNat
  · rw [if_pos h1, if_pos (show (x.toNat : Int) < (y.toNat : Int) by omega)]
    rfl
  · by_cases h2 : y.toNat < x.toNat
    · rw [if_neg h1, if_pos h2, if_neg (show ¬ (x.toNat : Int) < (y.toNat : Int) by omega), if_pos (show (y.toNat : Int) < (x.toNat : Int) by omega)]
      rfl
    · rw [if_neg h1, if_neg h2, if_neg (show ¬ (x.toNat : Int) < (y.toNat : Int) by omega), if_neg (show ¬ (y.toNat : Int) < (x.toNat : Int) by omega)]
      rfl
theorem Qmr : ∀ a b : List UInt8, cmpL b a = -cmpL a b
 | [], [] => rfl
 | [], _ :: _ => rfl
 | _ :: _, [] => rfl
 | x :: a, y :: b => by rw [Q5k, Q5k, Qmr a b, Qmc (x.toNat : Int) (y.toNat : Int), Qbj]
theorem Q12a : ∀ a b d : List UInt8, T3 (cmpL a b) (cmpL b d) (cmpL a d)
 | [], [], [] => by simp [T3, cmpL]
 | [], [], _ :: _ => by simp [T3, cmpL]
 | [], _ :: _, [] => by simp [T3, cmpL]
 | [], _ :: _, _ :: _ => by simp [T3, cmpL]
 | _ :: _, [], [] => by simp [T3, cmpL]
 | _ :: _, [], _ :: _ => by simp [T3, cmpL]
 | x :: a, y :: b, [] => by
  have h := Qtq (x :: a) (y :: b)
  unfold R3 at h
  unfold T3
  rw [show cmpL (y :: b) [] = 1 from rfl, show cmpL (x :: a) [] = 1 from rfl]
  omega
 | x :: a, y :: b, w :: d => by
  rw [Q5k, Q5k, Q5k]
  exact Q1cp (Qtl _ _) (Qtl _ _) (Qtl _ _) (Q18b _ _ _) (Q12a a b d)
theorem Qph : ∀ a b : List UInt8, cmpL a b = 0 → a = b
  | [], [], _ => rfl
  | [], _ :: _, h => by simp [cmpL] at h
  | _ :: _, [], h => by simp [cmpL] at h
  | x :: a, y :: b, h => by
    rw [Q5k] at h
    unfold lx at h
    split at h
    · rename_i e
      have := Qfw.1 e
      rw [UInt8.toNat_inj.1 (show x.toNat = y.toNat by omega), Qph a b h]
    · omega
theorem Q14k (a : List UInt8) : cmpL a a = 0 := by
 have := Qmr a a
 omega
theorem Qwo : ∀ a b : List UInt8, Op.bytesLess a b = decide (cmpL a b < 0)
  | [], [] => rfl
  | [], _ :: _ => rfl
  | _ :: _, [] => rfl
  | x :: a, y :: b => by
    have ih := Qwo a b
    rw [Op.bytesLess, cmpL, ih]
    by_cases h : x < y
    · simp [h]
    · by_cases h2 : y < x
      · have h3 : ¬ x = y := fun e => h (e ▸ h2)
        simp [h, h2, h3]
      · have h3 : x = y := by
          rw [UInt8.lt_iff_toNat_lt] at h h2
          exact UInt8.toNat_inj.1 (by omega)
        simp [h3]
theorem Q8p (a b : ByteArray) : R3 (sCmp a b) := Qtq _ _
theorem Q3i (a b : ByteArray) : sCmp b a = -sCmp a b := Qmr _ _
theorem Q138 (a b d : ByteArray) : T3 (sCmp a b) (sCmp b d) (sCmp a d) := Q12a _ _ _
theorem Q6v {a b : ByteArray} : sCmp a b = 0 ↔ a = b := ⟨fun h => toList_inj (Qph _ _ h), fun h => by rw [h]; exact Q14k _⟩
theorem Qh8 (a b : ByteArray) : sLt a b = decide (sCmp a b < 0) := Qwo _ _
theorem Q133 (a b : ByteArray) : sEq a b = decide (sCmp a b = 0) := by
 rw [Q18y]
 simp only [Q6v]
theorem Q12e (a b : ByteArray) : (sLt a b || sEq a b) = !sLt b a := by
 rw [Qh8, Q133, Qh8, Q3i a b]
 have := Q8p a b
 unfold R3 at this
 rcases this with h | h | h <;> rw [h] <;> rfl
theorem Q18x (a b : ByteArray) : sCmp a b = if sLt a b = true then -1 else if (!(sLt a b || sEq a b)) = true then 1 else 0 := by
 rw [Qh8, Q133]
 have := Q8p a b
 unfold R3 at this
 rcases this with h | h | h <;> rw [h] <;> rfl
end Go.Pv
end

section
/- Values in plain words: the two comparisons agree and answer 0 for equal values alone. -/
namespace Go.Proofs.Ytnhhddbbppbblaa
open Go.Pv
theorem vind {P : Val → Prop} (h : ∀ v : Val, (∀ x ∈ v.list, P x) → (∀ f ∈ v.fields, P f.v) → P v) : ∀ v, P v := by
  have key : ∀ (k : Nat) (v : Val), SizeOf.sizeOf v < k → P v := by
    intro k
    induction k with
    | zero => intro v hv; exact absurd hv (Nat.not_lt_zero _)
    | succ k ih => intro v hv; exact h v (fun x hx => ih x (by have := szM hx; omega)) (fun f hf => ih f.v (by have := szN hf; omega))
  exact fun v => key _ v (Nat.lt_succ_self _)
def orL : List Int → Int
  | [] => 0
  | a :: l => lx a (orL l)
theorem Q1ap (p : List Int) : ∀ (l : List Int) (i : Nat), (match Q6x p l i 0 with | .k0 y => y | .k1 y => y) = orL l
  | [], _ => rfl
  | a :: l, i => by
    rw [Q6x, orL]
    unfold lx
    by_cases h : a = 0
    · rw [show (a == 0) = true by simpa using h, cond_true, if_pos h]
      exact Q1ap p l (i + 1)
    · rw [show (a == 0) = false by simpa using h, cond_false, if_neg h]
theorem or_eq (l : List Int) : s_K1 l = orL l := by
  rw [← Q1ap l l 0]
  rfl
theorem lx0 (a : Int) : lx a 0 = a := by
  unfold lx
  split <;> omega
theorem Q13l (a b : Int) : s_K0 a b = icmp a b := by
  unfold s_K0 s_K2 icmp
  simp only [beq_self_eq_true, Bool.not_true, cond_false]
  by_cases h1 : a < b
  · rw [show decide (a < b) = true by simpa using h1, if_pos h1]
    rfl
  · rw [show decide (a < b) = false by simpa using h1, if_neg h1]
    by_cases h2 : b < a
    · rw [show decide (b < a) = true by simpa using h2, if_pos h2]
      rfl
    · rw [show decide (b < a) = false by simpa using h2, if_neg h2]
      rfl
theorem Q135 (a b : Int) : s_Kt (decide (a < b)) (decide (b < a)) = icmp a b := by
  unfold s_Kt icmp
  by_cases h1 : a < b
  · rw [show decide (a < b) = true by simpa using h1, if_pos h1]
    cases decide (b < a) <;> rfl
  · rw [show decide (a < b) = false by simpa using h1, if_neg h1]
    by_cases h2 : b < a
    · rw [show decide (b < a) = true by simpa using h2, if_pos h2]
      rfl
    · rw [show decide (b < a) = false by simpa using h2, if_neg h2]
      rfl
theorem Qol (a b : BA) : s_Kt (sLt a b) (!(sLt a b || sEq a b)) = sCmp a b := by
  rw [Q18x]
  unfold s_Kt
  cases sLt a b <;> cases sEq a b <;> rfl
theorem vcmp (a b : Val) : Q26 a b = lx (icmp a.kind b.kind) (lx (icmp a.n b.n) (lx (sCmp a.s b.s) (lx (lcV a.list b.list) (lcF a.fields b.fields)))) := by
  rw [Q26, or_eq, Q13l, Q13l]
  show lx _ (lx _ (lx _ (lx _ (lx _ 0)))) = _
  rw [lx0]
  rfl
theorem fcmp (x y : Fld) : s_K1 [Qc1 x.name y.name, Q26 x.v y.v] = lx (sCmp x.name y.name) (Q26 x.v y.v) := by
  rw [or_eq]
  show lx _ (lx _ 0) = _
  rw [lx0]
  rfl
theorem Qc8 (x y : Val) (l m : List Val) : lcV (x :: l) (y :: m) = lx (Q26 x y) (lcV l m) := by
  rw [lcV]
  unfold lx
  by_cases h : Q26 x y = 0
  · rw [show (Q26 x y == 0) = true by simpa using h, cond_true, if_pos h]
  · rw [show (Q26 x y == 0) = false by simpa using h, cond_false, if_neg h]
theorem Qc5 (x y : Fld) (l m : List Fld) : lcF (x :: l) (y :: m) = lx (lx (sCmp x.name y.name) (Q26 x.v y.v)) (lcF l m) := by
  rw [lcF, fcmp]
  generalize lx (sCmp x.name y.name) (Q26 x.v y.v) = c
  unfold lx
  by_cases h : c = 0
  · rw [show (c == 0) = true by simpa using h, cond_true, if_pos h]
  · rw [show (c == 0) = false by simpa using h, cond_false, if_neg h]
theorem Que (y : Val) (m : List Val) : lcV [] (y :: m) = -1 := by rw [lcV]
theorem Qw6 (x : Val) (l : List Val) : lcV (x :: l) [] = 1 := by rw [lcV]
theorem Q16x : lcV [] [] = 0 := by rw [lcV]
theorem Qwj (y : Fld) (m : List Fld) : lcF [] (y :: m) = -1 := by rw [lcF]
theorem Qu8 (x : Fld) (l : List Fld) : lcF (x :: l) [] = 1 := by rw [lcF]
theorem Q170 : lcF [] [] = 0 := by rw [lcF]
theorem Q120 : ∀ (l m : List Val), (∀ x ∈ l, ∀ y, Q26 y x = -Q26 x y) → lcV m l = -lcV l m
  | [], [], _ => by rw [Q16x]; rfl
  | [], _ :: _, _ => by rw [Que, Qw6]; rfl
  | _ :: _, [], _ => by rw [Que, Qw6]
  | x :: l, y :: m, h => by rw [Qc8, Qc8, h x List.mem_cons_self y, Q120 l m fun z hz => h z (List.mem_cons_of_mem _ hz), Qbj]
theorem Q14b : ∀ (l m : List Fld), (∀ x ∈ l, ∀ y, Q26 y x.v = -Q26 x.v y) → lcF m l = -lcF l m
  | [], [], _ => by rw [Q170]; rfl
  | [], _ :: _, _ => by rw [Qwj, Qu8]; rfl
  | _ :: _, [], _ => by rw [Qwj, Qu8]
  | x :: l, y :: m, h => by rw [Qc5, Qc5, h x List.mem_cons_self y.v, Q3i x.name y.name, Qbj, Q14b l m fun z hz => h z (List.mem_cons_of_mem _ hz), Qbj]
theorem Q18s : ∀ a b : Val, Q26 b a = -Q26 a b := vind fun a h1 h2 b => by
  rw [vcmp, vcmp, Qmc a.kind b.kind, Qmc a.n b.n, Q3i a.s b.s, Q120 _ _ h1, Q14b _ _ h2, Qbj, Qbj, Qbj, Qbj]
theorem Q15o (a : Val) : Q26 a a = 0 := by
  have := Q18s a a
  omega
theorem Q14h (a b : Val) : Q5p a b = (Q26 a b == 0) := rfl
theorem Quk (a b c : Int) : lx (lx a b) c = lx a (lx b c) := by
  unfold lx
  by_cases h : a = 0
  · rw [if_pos h, if_pos h]
  · rw [if_neg h, if_neg h, if_neg h]
theorem bz (x y : Int) : (bif (x == 0) then y else x) = lx x y := by
  unfold lx
  by_cases h : x = 0
  · rw [show (x == 0) = true by simpa using h, if_pos h]
    rfl
  · rw [show (x == 0) = false by simpa using h, if_neg h]
    rfl
theorem bz3 (x y z : Int) : (bif (x == 0) then y else lx x z) = lx x y := by
  unfold lx
  by_cases h : x = 0
  · rw [show (x == 0) = true by simpa using h, if_pos h, if_pos h]
    rfl
  · rw [show (x == 0) = false by simpa using h, if_neg h, if_neg h]
    rfl
theorem Qfj {a : Int} (h : a ≠ 0) (b : Int) : lx a b = a := by
  unfold lx
  rw [if_neg h]
theorem lx_z (b : Int) : lx 0 b = b := rfl
theorem Q17j (a b : Val) {c : Int} (h : c ≠ 0) : ∀ (l : List Val) (i : Nat), Qv a b l i c = c
  | [], i => by rw [Qv]
  | x :: l, i => by
    rw [Qv, show (c == 0) = false by simpa using h]
    cases decide ((i : Int) < ((b.list.length : Nat) : Int)) <;> rfl
theorem Q146 (a b : Val) {c : Int} (h : c ≠ 0) : ∀ (l : List Fld) (i : Nat), Qy a b l i c = c
  | [], i => by rw [Qy]
  | x :: l, i => by
    rw [Qy, show (c == 0) = false by simpa using h]
    cases decide ((i : Int) < ((b.fields.length : Nat) : Int)) <;> rfl
theorem getV (b : List Val) (i : Nat) (h : i < b.length) (z : Val) : b.getD i z = b[i] := by rw [List.getD_eq_getElem?_getD, List.getElem?_eq_getElem h]; rfl
theorem getF (b : List Fld) (i : Nat) (h : i < b.length) (z : Fld) : b.getD i z = b[i] := by rw [List.getD_eq_getElem?_getD, List.getElem?_eq_getElem h]; rfl
theorem rb0 (a b : Val) : ∀ (l : List Val) (i : Nat), i ≤ b.list.length → (∀ x ∈ l, ∀ y, s_Ki x y = Q26 x y) →
    lx (Qv a b l i 0) (icmp ((i + l.length : Nat) : Int) ((b.list.length : Nat) : Int)) = lcV l (b.list.drop i)
  | [], i, hi, _ => by
    rw [Qv, lx_z]
    unfold icmp
    by_cases h : i < b.list.length
    · rw [List.drop_eq_getElem_cons h, Que, if_pos (by simp; omega)]
    · rw [List.drop_eq_nil_of_le (by omega), Q16x, if_neg (by simp; omega), if_neg (by simp; omega)]
  | x :: l, i, hi, h => by
    rw [Qv]
    by_cases hb : i < b.list.length
    · rw [show decide ((i : Int) < ((b.list.length : Nat) : Int)) = true by simpa using hb, cond_true, show ((0 : Int) == 0) = true from rfl, cond_true, getV _ _ hb, h x List.mem_cons_self, List.drop_eq_getElem_cons hb, Qc8]
      have ih := rb0 a b l (i + 1) hb (fun y hy => h y (List.mem_cons_of_mem _ hy))
      by_cases hc : Q26 x b.list[i] = 0
      · rw [hc, lx_z, ← ih, show i + (x :: l).length = i + 1 + l.length by rw [List.length_cons]; omega]
      · rw [Q17j a b hc, Qfj hc, Qfj hc]
    · rw [show decide ((i : Int) < ((b.list.length : Nat) : Int)) = false by simpa using hb, cond_false, lx_z, List.drop_eq_nil_of_le (by omega), Qw6]
      unfold icmp
      rw [if_neg (by rw [List.length_cons]; omega), if_pos (by rw [List.length_cons]; omega)]
theorem rb1 (a b : Val) : ∀ (l : List Fld) (i : Nat), i ≤ b.fields.length → (∀ x ∈ l, ∀ y, s_Ki x.v y = Q26 x.v y) →
    lx (Qy a b l i 0) (icmp ((i + l.length : Nat) : Int) ((b.fields.length : Nat) : Int)) = lcF l (b.fields.drop i)
  | [], i, hi, _ => by
    rw [Qy, lx_z]
    unfold icmp
    by_cases h : i < b.fields.length
    · rw [List.drop_eq_getElem_cons h, Qwj, if_pos (by simp; omega)]
    · rw [List.drop_eq_nil_of_le (by omega), Q170, if_neg (by simp; omega), if_neg (by simp; omega)]
  | x :: l, i, hi, h => by
    rw [Qy]
    by_cases hb : i < b.fields.length
    · rw [show decide ((i : Int) < ((b.fields.length : Nat) : Int)) = true by simpa using hb, cond_true, show ((0 : Int) == 0) = true from rfl, cond_true, getF _ _ hb, h x List.mem_cons_self, List.drop_eq_getElem_cons hb, Qc5, Qol]
      have ih := rb1 a b l (i + 1) hb (fun y hy => h y (List.mem_cons_of_mem _ hy))
      by_cases hs : sCmp x.name b.fields[i].name = 0
      · rw [show (sCmp x.name b.fields[i].name == 0) = true by simpa using hs, cond_true, hs, lx_z]
        by_cases hc : Q26 x.v b.fields[i].v = 0
        · rw [hc, lx_z, ← ih, show i + (x :: l).length = i + 1 + l.length by rw [List.length_cons]; omega]
        · rw [Q146 a b hc, Qfj hc, Qfj hc]
      · rw [show (sCmp x.name b.fields[i].name == 0) = false by simpa using hs, cond_false, Q146 a b hs, Qfj hs, Qfj hs, Qfj hs]
    · rw [show decide ((i : Int) < ((b.fields.length : Nat) : Int)) = false by simpa using hb, cond_false, lx_z, List.drop_eq_nil_of_le (by omega), Qu8]
      unfold icmp
      rw [if_neg (by rw [List.length_cons]; omega), if_pos (by rw [List.length_cons]; omega)]
theorem Q19z : ∀ a b : Val, s_Ki a b = Q26 a b := vind fun a h1 h2 b => by
  have P0 : ∀ c, lx (Qv a b a.list 0 c) (icmp ((a.list.length : Nat) : Int) ((b.list.length : Nat) : Int)) = lx c (lcV a.list b.list) := fun c => by
    by_cases h : c = 0
    · have := rb0 a b a.list 0 (Nat.zero_le _) h1
      rw [Nat.zero_add, List.drop_zero] at this
      rw [h, this, lx_z]
    · rw [Q17j a b h, Qfj h, Qfj h]
  have P1 : ∀ c, lx (Qy a b a.fields 0 c) (icmp ((a.fields.length : Nat) : Int) ((b.fields.length : Nat) : Int)) = lx c (lcF a.fields b.fields) := fun c => by
    by_cases h : c = 0
    · have := rb1 a b a.fields 0 (Nat.zero_le _) h2
      rw [Nat.zero_add, List.drop_zero] at this
      rw [h, this, lx_z]
    · rw [Q146 a b h, Qfj h, Qfj h]
  rw [s_Ki, vcmp]
  simp only [Q135, Qol, bz, P1, bz3, ← Quk, P0]
  simp only [Quk, bz3]
theorem Qot (a b : Val) : s_Kk a b = Q5p a b := by
  unfold s_Kk
  rw [Q19z]
  rfl
theorem Qvu : ∀ (l m : List Val), (∀ x ∈ l, ∀ y, Q26 x y = 0 → x = y) → lcV l m = 0 → l = m
  | [], [], _, _ => rfl
  | [], _ :: _, _, h => by rw [Que] at h; omega
  | _ :: _, [], _, h => by rw [Qw6] at h; omega
  | x :: l, y :: m, hx, h => by
    rw [Qc8] at h
    unfold lx at h
    split at h
    · rename_i e
      rw [hx x List.mem_cons_self y e, Qvu l m (fun z hz => hx z (List.mem_cons_of_mem _ hz)) h]
    · rename_i e
      exact absurd h e
theorem Q121 {x y : Int} (h : lx x y = 0) : x = 0 ∧ y = 0 := by
  unfold lx at h
  split at h <;> simp_all
theorem Qu9 : ∀ (l m : List Fld), (∀ x ∈ l, ∀ y, Q26 x.v y = 0 → x.v = y) → lcF l m = 0 → l = m
  | [], [], _, _ => rfl
  | [], _ :: _, _, h => by rw [Qwj] at h; omega
  | _ :: _, [], _, h => by rw [Qu8] at h; omega
  | x :: l, y :: m, hx, h => by
    rw [Qc5] at h
    obtain ⟨g, h⟩ := Q121 h
    obtain ⟨e1, e2⟩ := Q121 g
    have e1 := Q6v.1 e1
    have e2 := hx x List.mem_cons_self y.v e2
    rw [show x = y by cases x; cases y; simp only [Fld.name, Fld.v] at e1 e2; rw [e1, e2], Qu9 l m (fun z hz => hx z (List.mem_cons_of_mem _ hz)) h]
theorem Q162 : ∀ a b : Val, Q26 a b = 0 → a = b := vind fun a h1 h2 b h => by
  rw [vcmp] at h
  unfold lx at h
  have z : ∀ {x y : Int}, (if x = 0 then y else x) = 0 → x = 0 ∧ y = 0 := fun {x y} h => by split at h <;> simp_all
  obtain ⟨g1, h⟩ := z h
  obtain ⟨g2, h⟩ := z h
  obtain ⟨g3, h⟩ := z h
  obtain ⟨g4, g5⟩ := z h
  have e1 := Qfw.1 g1
  have e2 := Qfw.1 g2
  have e3 := Q6v.1 g3
  have e4 := Qvu _ _ h1 g4
  have e5 := Qu9 _ _ h2 g5
  cases a
  cases b
  simp only [Val.kind, Val.n, Val.s, Val.list, Val.fields] at e1 e2 e3 e4 e5
  rw [e1, e2, e3, e4, e5]
theorem Q80 (a b : Val) : Q5p a b = true ↔ a = b := by
  rw [Q14h]
  constructor
  · intro h
    exact Q162 a b (eq_of_beq h)
  · rintro rfl
    rw [Q15o]
    rfl
theorem Qv9 (p q : Val) : ∀ (r : List Val) (i : Nat), p.list.drop i = r → p.list.length = q.list.length → (∀ x ∈ r, ∀ y, s_Ky x y = true ↔ x = y) → (Q5j p q r i = .k0 ↔ q.list.drop i = r)
  | [], i, hd, hl, _ => by
    rw [Q5j]
    have := List.drop_eq_nil_iff.1 hd
    simp [List.drop_eq_nil_iff.2 (hl ▸ this)]
  | x :: r, i, hd, hl, hx => by
    obtain ⟨h1, h2, h3⟩ := Qz hd
    have hq : i < q.list.length := by omega
    rw [Q5j, List.drop_eq_getElem_cons hq, List.getD_eq_getElem?_getD, List.getElem?_eq_getElem hq, Option.getD_some]
    have ih := Qv9 p q r (i + 1) h3 hl fun y hy => hx y (List.mem_cons_of_mem _ hy)
    have k := hx x List.mem_cons_self q.list[i]
    cases e : s_Ky x q.list[i] with
    | true =>
      rw [cond_true, ih]
      have e' := k.1 e
      constructor
      · intro g; rw [g, ← e']
      · intro g; injection g
    | false =>
      rw [cond_false]
      constructor
      · intro g; cases g
      · intro g
        injection g with g1 g2
        rw [k.2 g1.symm] at e
        cases e
theorem Quu (p q : Val) : ∀ (r : List Fld) (i : Nat), p.fields.drop i = r → p.fields.length = q.fields.length → (∀ x ∈ r, ∀ y, s_Ky x.v y = true ↔ x.v = y) → (Q5f p q r i = .k0 ↔ q.fields.drop i = r)
  | [], i, hd, hl, _ => by
    rw [Q5f]
    have := List.drop_eq_nil_iff.1 hd
    simp [List.drop_eq_nil_iff.2 (hl ▸ this)]
  | x :: r, i, hd, hl, hx => by
    obtain ⟨h1, h2, h3⟩ := Qz hd
    have hq : i < q.fields.length := by omega
    rw [Q5f, List.drop_eq_getElem_cons hq, List.getD_eq_getElem?_getD, List.getElem?_eq_getElem hq, Option.getD_some]
    have ih := Quu p q r (i + 1) h3 hl fun y hy => hx y (List.mem_cons_of_mem _ hy)
    have k := hx x List.mem_cons_self q.fields[i].v
    cases en : sEq x.name q.fields[i].name with
    | false =>
      rw [cond_false]
      constructor
      · intro g; cases g
      · intro g
        injection g with g1 g2
        rw [g1] at en
        exact absurd (Q3y.2 rfl) (by rw [en]; simp)
    | true =>
      rw [cond_true]
      cases e : s_Ky x.v q.fields[i].v with
      | true =>
        rw [cond_true, ih]
        have e' := k.1 e
        have e1 : x = q.fields[i] := by
          have n := Q3y.1 en
          revert e' n
          generalize q.fields[i] = y
          intro a b
          cases x; cases y
          simp only [Fld.name, Fld.v] at a b
          rw [a, b]
        constructor
        · intro g; rw [g, ← e1]
        · intro g; injection g
      | false =>
        rw [cond_false]
        constructor
        · intro g; cases g
        · intro g
          injection g with g1 g2
          rw [k.2 (by rw [g1])] at e
          cases e
theorem Q14j : ∀ a b : Val, s_Ky a b = true ↔ a = b := vind fun a h1 h2 b => by
  have b0 := fun hl => Qv9 a b a.list 0 rfl hl h1
  have b1 := fun hl => Quu a b a.fields 0 rfl hl h2
  rw [s_Ky]
  constructor
  · intro h
    cases c1 : a.kind == b.kind with
    | false => rw [c1] at h; cases h
    | true =>
      rw [c1, cond_true] at h
      cases c2 : a.n == b.n with
      | false => rw [c2] at h; cases h
      | true =>
        rw [c2, cond_true] at h
        cases c3 : sEq a.s b.s with
        | false => rw [c3] at h; cases h
        | true =>
          rw [c3, cond_true] at h
          cases c4 : ((a.list.length : Int) == (b.list.length : Int)) with
          | false => rw [c4] at h; cases h
          | true =>
            rw [c4, cond_true] at h
            cases c5 : ((a.fields.length : Int) == (b.fields.length : Int)) with
            | false => rw [c5] at h; cases h
            | true =>
              rw [c5, cond_true] at h
              have e4 := eq_of_beq c4
              have e5 := eq_of_beq c5
              cases l0 : Q5j a b a.list 0 with
              | k1 => rw [l0] at h; cases h
              | k0 =>
                rw [l0] at h
                cases l1 : Q5f a b a.fields 0 with
                | k1 => rw [l1] at h; cases h
                | k0 =>
                  have g0 := (b0 (by omega)).1 l0
                  have g1 := (b1 (by omega)).1 l1
                  rw [List.drop_zero] at g0 g1
                  have q1 := eq_of_beq c1
                  have q2 := eq_of_beq c2
                  have q3 := Q3y.1 c3
                  revert q1 q2 q3 g0 g1
                  clear h b0 b1 h1 h2 l0 l1 c1 c2 c3 c4 c5 e4 e5
                  cases a; cases b
                  simp only [Val.kind, Val.n, Val.s, Val.list, Val.fields]
                  intro q1 q2 q3 g0 g1
                  rw [q1, q2, q3, g0, g1]
  · rintro rfl
    rw [(b0 rfl).2 rfl, (b1 rfl).2 rfl, Q3y.2 rfl]
    simp
end Go.Proofs.Ytnhhddbbppbblaa
end

section
/- Lists of fields: strictly sorted lists are known by their members; keeping the last field of each name of a sorted list; putting a field into a sorted list. -/
namespace Go.Pv
open Srt
theorem Q4u (a : ByteArray) : sCmp a a = 0 := Q6v.2 rfl
theorem Qml {a b d : ByteArray} (h : sCmp a b < 0) (g : sCmp b d < 0) : sCmp a d < 0 := by
 have t := Q138 a b d
 have h1 := Q8p a b
 have h2 := Q8p b d
 unfold R3 at h1 h2
 unfold T3 at t
 omega
theorem Qr1 {a b : ByteArray} : sEq a b = false ↔ a ≠ b := by
 cases h : sEq a b with
 | true => simp [Q3y.1 h]
 | false => exact ⟨fun _ e => (by rw [Q3y.2 e] at h; cases h), fun _ => rfl⟩
theorem Qa9 (a b : ByteArray) : sCmp a b < 0 ∨ a = b ∨ sCmp b a < 0 := by
  have h1 := Q8p a b
  have h2 := Q3i a b
  have h3 : sCmp a b = 0 → a = b := Q6v.1
  unfold R3 at h1
  by_cases e : sCmp a b = 0
  · exact .inr (.inl (h3 e))
  · omega
theorem Q7u {α : Type} (f : α → ByteArray) : Tot (fun x y : α => sCmp (f x) (f y)) := by
  refine ⟨fun x y h => ?_, fun x y w h g => ?_⟩
  · rw [Q3i]
    omega
  · have t := Q138 (f w) (f y) (f x)
    have h1 := Q8p (f w) (f y)
    have h2 := Q8p (f y) (f x)
    rw [Q3i] at h
    rw [Q3i] at g
    have h3 := Q3i (f w) (f y)
    have h4 := Q3i (f y) (f x)
    have h5 := Q3i (f y) (f w)
    have h6 := Q3i (f x) (f y)
    unfold R3 at h1 h2
    unfold T3 at t
    omega
abbrev nlt (x y : Fld) : Prop := sCmp x.name y.name < 0
def SS (l : List Fld) : Prop := l.Pairwise nlt
theorem SS.cons {x : Fld} {l : List Fld} : SS (x :: l) ↔ (∀ y ∈ l, nlt x y) ∧ SS l := List.pairwise_cons
theorem SS.nil : SS [] := List.Pairwise.nil
theorem Qu3 (x : Fld) : ¬ nlt x x := by unfold nlt; rw [Q4u]; omega
theorem Q10o : ∀ {l r : List Fld}, SS l → SS r → (∀ f, f ∈ l ↔ f ∈ r) → l = r
  | [], [], _, _, _ => rfl
  | [], y :: r, _, _, h => by have := (h y).2 List.mem_cons_self; cases this
  | x :: l, [], _, _, h => by have := (h x).1 List.mem_cons_self; cases this
  | x :: l, y :: r, hl, hr, h => by
    obtain ⟨hx, hl'⟩ := SS.cons.1 hl
    obtain ⟨hy, hr'⟩ := SS.cons.1 hr
    have e : x = y := by
      rcases List.mem_cons.1 ((h x).1 List.mem_cons_self) with e | e
      · exact e
      · rcases List.mem_cons.1 ((h y).2 List.mem_cons_self) with e' | e'
        · exact e'.symm
        · exact absurd (Qml (hx y e') (hy x e)) (Qu3 x)
    subst e
    have k1 : ∀ f, f ∈ l → f ∈ r := fun f hf => by
      rcases List.mem_cons.1 ((h f).1 (List.mem_cons_of_mem _ hf)) with e | e
      · subst e; exact absurd (hx _ hf) (Qu3 _)
      · exact e
    have k2 : ∀ f, f ∈ r → f ∈ l := fun f hf => by
      rcases List.mem_cons.1 ((h f).2 (List.mem_cons_of_mem _ hf)) with e | e
      · subst e; exact absurd (hy _ hf) (Qu3 _)
      · exact e
    rw [Q10o hl' hr' fun f => ⟨k1 f, k2 f⟩]
theorem SS.filter {l : List Fld} (h : SS l) (p : Fld → Bool) : SS (l.filter p) := h.sublist List.filter_sublist
theorem SS.inj {l : List Fld} (h : SS l) {x y : Fld} (hx : x ∈ l) (hy : y ∈ l) (e : x.name = y.name) : x = y := by
  induction l with
  | nil => cases hx
  | cons z l ih =>
    obtain ⟨hz, hl⟩ := SS.cons.1 h
    rcases List.mem_cons.1 hx with e1 | hx' <;> rcases List.mem_cons.1 hy with e2 | hy'
    · rw [e1, e2]
    · subst e1; have := hz y hy'; unfold nlt at this; rw [e, Q4u] at this; omega
    · subst e2; have := hz x hx'; unfold nlt at this; rw [e, Q4u] at this; omega
    · exact ih hl hx' hy'
def lastOf (l : List Fld) (f : Fld) : Prop := (l.filter fun y => decide (y.name = f.name)).getLast? = some f
theorem Qal (f : Fld) : ¬ lastOf [] f := by simp [lastOf]
theorem Qtz (l : List Fld) (x f : Fld) : lastOf (l ++ [x]) f ↔ f = x ∨ (lastOf l f ∧ f.name ≠ x.name) := by
  unfold lastOf
  rw [List.filter_append]
  by_cases h : x.name = f.name
  · rw [show ([x].filter fun y => decide (y.name = f.name)) = [x] by simp [h], List.getLast?_append]
    simp [h, eq_comm]
  · rw [show ([x].filter fun y => decide (y.name = f.name)) = [] by simp [h], List.append_nil]
    exact ⟨fun g => .inr ⟨g, fun e => h e.symm⟩, fun g => by
      rcases g with rfl | g
      · exact absurd rfl h
      · exact g.1⟩
theorem Q8l (x f : Fld) (l : List Fld) : lastOf (x :: l) f ↔ lastOf l f ∨ (f = x ∧ ∀ y ∈ l, y.name ≠ x.name) := by
  unfold lastOf
  by_cases h : x.name = f.name
  · rw [List.filter_cons_of_pos (by simpa using h)]
    cases e : l.filter fun y => decide (y.name = f.name) with
    | nil =>
      have := List.filter_eq_nil_iff.1 e
      simp only [List.getLast?_singleton, Option.some.injEq, List.getLast?_nil, reduceCtorEq, false_or]
      exact ⟨fun g => ⟨g.symm, fun y hy => by have := this y hy; rw [h]; simpa using this⟩, fun g => g.1.symm⟩
    | cons a r =>
      rw [List.getLast?_cons_cons]
      refine ⟨.inl, fun g => ?_⟩
      rcases g with g | g
      · exact g
      · have : a ∈ l.filter fun y => decide (y.name = f.name) := by rw [e]; exact List.mem_cons_self
        obtain ⟨h1, h2⟩ := List.mem_filter.1 this
        exact absurd ((of_decide_eq_true h2).trans (by rw [g.1])) (g.2 a h1)
  · rw [List.filter_cons_of_neg (by simpa using h)]
    exact ⟨.inl, fun g => by
      rcases g with g | g
      · exact g
      · exact absurd (by rw [g.1]) h⟩
theorem Q10f {l : List Fld} {f : Fld} (h : lastOf l f) : f ∈ l := (List.mem_filter.1 (List.mem_of_getLast? h)).1
theorem Q12f {l : List Fld} (h : SS l) (f : Fld) : lastOf l f ↔ f ∈ l := by
 induction l with
 | nil => exact ⟨fun g => absurd g (Qal f), fun g => by cases g⟩
 | cons x l ih =>
  obtain ⟨hx, hl⟩ := SS.cons.1 h
  rw [Q8l, ih hl, List.mem_cons]
  exact ⟨fun g => g.elim .inr fun g => .inl g.1, fun g => g.elim (fun g => .inr ⟨g, fun y hy e => by have := hx y hy; unfold nlt at this; rw [e, Q4u] at this; omega⟩) .inl⟩
def lasts : List Fld → List Fld
 | [] => []
 | [x] => [x]
 | x :: y :: r => bif sEq y.name x.name then lasts (y :: r) else x :: lasts (y :: r)
abbrev cNm (x y : Fld) : Int := sCmp x.name y.name
theorem Qra : ∀ (l : List Fld), Up cNm l → ∀ f, f ∈ lasts l ↔ lastOf l f
  | [], _, f => ⟨fun g => (by cases g), fun g => absurd g (Qal f)⟩
  | [x], _, f => by
    rw [Q8l]
    simp [lasts, Qal]
  | x :: y :: r, h, f => by
    have h' := List.pairwise_cons.1 h
    have ih := Qra (y :: r) h'.2 f
    rw [lasts, Q8l]
    cases e : sEq y.name x.name with
    | true =>
      rw [cond_true, ih]
      exact ⟨.inl, fun g => g.elim id fun g => absurd (Q3y.1 e) (g.2 y List.mem_cons_self)⟩
    | false =>
      rw [cond_false, List.mem_cons, ih]
      refine ⟨fun g => g.elim (fun g => .inr ⟨g, fun w hw hn => ?_⟩) .inl, fun g => g.elim .inr fun g => .inl g.1⟩
      have e := Qr1.1 e
      rcases List.mem_cons.1 hw with rfl | hw
      · exact e hn
      · have h1 := (List.pairwise_cons.1 h'.2).1 w hw
        have h2 := h'.1 y List.mem_cons_self
        unfold le cNm at h1 h2
        rw [hn] at h1
        rcases Qa9 x.name y.name with g | g | g
        · exact h1 g
        · exact e g.symm
        · exact h2 g
theorem Q78 : ∀ (l : List Fld), (lasts l).Sublist l
 | [] => List.Sublist.slnil
 | [x] => List.Sublist.refl _
 | x :: y :: r => by
  rw [lasts]
  cases sEq y.name x.name with
  | true => exact (Q78 (y :: r)).cons x
  | false => exact (Q78 (y :: r)).cons_cons x
theorem Q166 (l : List Fld) (h : Up cNm l) : SS (lasts l) := by
  induction l with
  | nil => exact SS.nil
  | cons x l ih =>
    cases l with
    | nil => exact SS.cons.2 ⟨fun _ g => (by cases g), SS.nil⟩
    | cons y r =>
      have h' := List.pairwise_cons.1 h
      rw [lasts]
      cases e : sEq y.name x.name with
      | true => exact ih h'.2
      | false =>
        rw [cond_false]
        refine SS.cons.2 ⟨fun w hw => ?_, ih h'.2⟩
        have e := Qr1.1 e
        have h2 := h'.1 y List.mem_cons_self
        unfold le cNm at h2
        have hxy : sCmp x.name y.name < 0 := by
          rcases Qa9 x.name y.name with g | g | g
          · exact g
          · exact absurd g.symm e
          · exact absurd g h2
        rcases List.mem_cons.1 ((Q78 _).mem hw) with rfl | hw
        · exact hxy
        · have h1 := (List.pairwise_cons.1 h'.2).1 w hw
          unfold le cNm at h1
          unfold nlt
          rcases Qa9 y.name w.name with g | g | g
          · exact Qml hxy g
          · rw [← g]; exact hxy
          · exact absurd g h1
theorem Q1b2 (x y : Fld) : Srt.eqv cNm x y = decide (y.name = x.name) := by
  unfold Srt.eqv cNm
  have h1 : (y.name = x.name) ↔ (¬ sCmp x.name y.name < 0 ∧ ¬ sCmp y.name x.name < 0) := by
    constructor
    · intro e; rw [e, Q4u]; omega
    · intro ⟨g1, g2⟩
      rcases Qa9 x.name y.name with g | g | g
      · exact absurd g g1
      · exact g.symm
      · exact absurd g g2
  rw [← Bool.decide_and]
  exact decide_eq_decide.2 h1.symm
theorem Q16i {l r : List Fld} (h : F cNm l r) (f : Fld) : lastOf l f ↔ lastOf r f := by
 have := h.2 f
 unfold lastOf
 rw [show (fun y : Fld => decide (y.name = f.name)) = Srt.eqv cNm f from funext fun y => (Q1b2 f y).symm, this]
def mapOf (l : List Fld) : List Fld := lasts (Q6p cNm l)
theorem Qci (l : List Fld) : SS (mapOf l) := Q166 _ (Qa5 (Q7u Fld.name) l)
theorem Q97 (l : List Fld) (f : Fld) : f ∈ mapOf l ↔ lastOf l f := by
 unfold mapOf
 rw [Qra _ (Qa5 (Q7u Fld.name) l)]
 exact (Q16i (Qdx (Q7u Fld.name) l) f).symm
theorem Qtj {l : List Fld} (h : SS l) : mapOf l = l := Q10o (Qci l) h fun f => by rw [Q97, Q12f h]
theorem Q16r {l r : List Fld} (h : SS r) (g : ∀ f, f ∈ r ↔ lastOf l f) : mapOf l = r := Q10o (Qci l) h fun f => by rw [Q97, g]
theorem Qq7 {α : Type} (c : α → α → Int) (T : Tot c) (l : List α) : (Q6p c l).length = l.length := (Qdx T l).1.symm
theorem Q12x (l : List Fld) : (mapOf l).length ≤ l.length := Nat.le_trans (Q78 _).length_le (Nat.le_of_eq (Qq7 _ (Q7u Fld.name) l))
theorem Q13q {l : List Fld} {f : Fld} (h : f ∈ mapOf l) : f ∈ l := Q10f ((Q97 l f).1 h)
def insF (x : Fld) : List Fld → List Fld
 | [] => [x]
 | y :: r => if sCmp y.name x.name < 0 then y :: insF x r else if y.name = x.name then x :: r else x :: y :: r
theorem Qmb {x : Fld} : ∀ {l : List Fld}, SS l → ∀ f, f ∈ insF x l ↔ f = x ∨ (f ∈ l ∧ f.name ≠ x.name)
  | [], _, f => by simp [insF]
  | y :: r, h, f => by
    obtain ⟨hy, hr⟩ := SS.cons.1 h
    rw [insF]
    split
    · rename_i c
      rw [List.mem_cons, Qmb hr, List.mem_cons]
      have : y.name ≠ x.name := fun e => by rw [e, Q4u] at c; omega
      exact ⟨fun g => by
        rcases g with g | g | g
        · subst g; exact .inr ⟨.inl rfl, this⟩
        · exact .inl g
        · exact .inr ⟨.inr g.1, g.2⟩, fun g => by
        rcases g with g | ⟨g | g, g'⟩
        · exact .inr (.inl g)
        · exact .inl g
        · exact .inr (.inr ⟨g, g'⟩)⟩
    · rename_i c
      have ge : ∀ w ∈ r, w.name ≠ x.name := fun w hw e => by
        have := hy w hw
        unfold nlt at this
        rw [e] at this
        exact c this
      split
      · rename_i e
        rw [List.mem_cons, List.mem_cons]
        exact ⟨fun g => g.elim .inl fun g => .inr ⟨.inr g, ge f g⟩, fun g => g.elim .inl fun g => g.1.elim (fun g1 => by subst g1; exact absurd e g.2) .inr⟩
      · rename_i e
        rw [List.mem_cons, List.mem_cons]
        exact ⟨fun g => by
          rcases g with g | g | g
          · exact .inl g
          · subst g; exact .inr ⟨.inl rfl, e⟩
          · exact .inr ⟨.inr g, ge f g⟩, fun g => g.elim .inl fun g => .inr g.1⟩
theorem Qu0 {x : Fld} : ∀ {l : List Fld}, SS l → SS (insF x l)
  | [], _ => SS.cons.2 ⟨fun _ g => (by cases g), SS.nil⟩
  | y :: r, h => by
    obtain ⟨hy, hr⟩ := SS.cons.1 h
    rw [insF]
    split
    · rename_i c
      exact SS.cons.2 ⟨fun w hw => by
        rcases (Qmb hr w).1 hw with g | g
        · rw [g]; exact c
        · exact hy w g.1, Qu0 hr⟩
    · rename_i c
      split
      · rename_i e
        exact SS.cons.2 ⟨fun w hw => by have := hy w hw; unfold nlt at this ⊢; rw [← e]; exact this, hr⟩
      · rename_i e
        have g : sCmp x.name y.name < 0 := by
          rcases Qa9 x.name y.name with g | g | g
          · exact g
          · exact absurd g.symm e
          · exact absurd g c
        exact SS.cons.2 ⟨fun w hw => by
          rcases List.mem_cons.1 hw with e | hw
          · subst e; exact g
          · exact Qml g (hy w hw), h⟩
theorem Qzt (l : List Fld) (x : Fld) : mapOf (l ++ [x]) = insF x (mapOf l) :=
 Q16r (Qu0 (Qci l)) fun f => by rw [Qmb (Qci l), Q97, Qtz]
theorem Qe8 : mapOf [] = [] := Qtj SS.nil
theorem Qg7 : ∀ (l p : List Fld), l.foldl (fun a x => insF x a) (mapOf p) = mapOf (p ++ l)
 | [], p => by simp
 | x :: l, p => by
  rw [List.foldl_cons, ← Qzt, Qg7 l]
  simp
end Go.Pv
end

section
/- How many values a value holds; what that bounds. -/
namespace Go.Pv
open Srt
mutual
def tot (v : Val) : Nat := 1 + totV v.list + totF v.fields
termination_by SizeOf.sizeOf v
decreasing_by all_goals first | exact Val.Q4f _ | exact Val.Q2e _
def totV : List Val → Nat
 | [] => 0
 | x :: l => tot x + totV l
termination_by l => SizeOf.sizeOf l
decreasing_by all_goals first | exact Q2j _ _ | exact Q2d _ _
def totF : List Fld → Nat
 | [] => 0
 | x :: l => tot x.v + totF l
termination_by l => SizeOf.sizeOf l
decreasing_by all_goals first | exact Q1z _ _ | exact Q2d _ _
end
theorem Qbm (v : Val) : tot v = 1 + totV v.list + totF v.fields := by rw [tot]
theorem Q63 (v : Val) : 1 ≤ tot v := by rw [Qbm]; omega
theorem Q3n : totF [] = 0 := by rw [totF]
theorem Q1p (x : Fld) (l : List Fld) : totF (x :: l) = tot x.v + totF l := by rw [totF]
theorem Qgf (x : Val) (l : List Val) : totV (x :: l) = tot x + totV l := by rw [totV]
theorem Qcu : ∀ l r : List Fld, totF (l ++ r) = totF l + totF r
 | [], r => by rw [Q3n, List.nil_append]; omega
 | x :: l, r => by rw [List.cons_append, Q1p, Q1p, Qcu l r]; omega
theorem Qcb : ∀ l : List Fld, l.length ≤ totF l
 | [] => Nat.zero_le _
 | x :: l => by have := Qcb l; have := Q63 x.v; rw [Q1p, List.length_cons]; omega
theorem Qwe : ∀ l : List Val, l.length ≤ totV l
 | [] => Nat.zero_le _
 | x :: l => by have := Qwe l; have := Q63 x; rw [Qgf, List.length_cons]; omega
theorem Qwk : ∀ {l : List Fld} {x : Fld}, x ∈ l → tot x.v ≤ totF l
  | y :: l, x, h => by
    rw [Q1p]
    rcases List.mem_cons.1 h with e | h
    · rw [e]; omega
    · have := Qwk h; omega
theorem Quc : ∀ {l : List Val} {x : Val}, x ∈ l → tot x ≤ totV l
  | y :: l, x, h => by
    rw [Qgf]
    rcases List.mem_cons.1 h with e | h
    · rw [e]; omega
    · have := Quc h; omega
theorem Qpk {v : Val} {x : Fld} (h : x ∈ v.fields) : tot x.v < tot v := by have := Qwk h; have := Qbm v; omega
theorem Q16g {v : Val} {x : Val} (h : x ∈ v.list) : tot x < tot v := by have := Quc h; have := Qbm v; omega
theorem Qoe (v : Val) : totF v.fields < tot v := by rw [Qbm]; omega
theorem Qab : ∀ {l r : List Fld}, l.Sublist r → totF l ≤ totF r
 | _, _, .slnil => Nat.le_refl _
 | _, _, .cons x h => by have := Qab h; rw [Q1p]; omega
 | _, _, .cons_cons x h => by have := Qab h; rw [Q1p, Q1p]; omega
theorem Qtw (B : Nat) : ∀ (k : Nat) (v : Val), SizeOf.sizeOf v < k → tot v ≤ B → Val.Sm B v
 | 0, _, h, _ => absurd h (Nat.not_lt_zero _)
 | k + 1, v, h, hb => by
  have h1 := Qcb v.fields
  have h2 := Qwe v.list
  have h3 := Qbm v
  exact .mk v (by omega) (by omega) (fun x hx => Qtw B k x (by have := szM hx; omega) (by have := Q16g hx; omega)) fun x hx => Qtw B k x.v (by have := szN hx; omega) (by have := Qpk hx; omega)
theorem Q8b {B : Nat} {v : Val} (h : tot v ≤ B) : Val.Sm B v := Qtw B _ v (Nat.lt_succ_self _) h
theorem Qrm (c : Fld → Fld → Int) (x : Fld) : ∀ l : List Fld, totF (insR c x l) = tot x.v + totF l
 | [] => by rw [insR, Q1p]
 | y :: l => by
  rw [insR]
  cases decide (c x y < 0) with
  | true => rw [cond_true, Q1p, Q1p, Qrm c x l]; omega
  | false => rw [cond_false, Q1p]
theorem Qpe (c : Fld → Fld → Int) : ∀ l r : List Fld, totF (l.foldl (fun r x => insR c x r) r) = totF r + totF l
 | [], r => by rw [List.foldl_nil, Q3n]; omega
 | x :: l, r => by rw [List.foldl_cons, Qpe c l, Qrm, Q1p]; omega
theorem Qv1 : ∀ l : List Fld, totF l.reverse = totF l
 | [] => by rw [List.reverse_nil]
 | x :: l => by rw [List.reverse_cons, Qcu, Qv1 l, Q1p, Q1p, Q3n]; omega
theorem Qxg (c : Fld → Fld → Int) (l : List Fld) : totF (Q6p c l) = totF l := by
 unfold Q6p
 rw [Qv1, Qpe, Q3n]
 omega
theorem Qx1 (l : List Fld) : totF (mapOf l) ≤ totF l := by
 have := Qab (Q78 (Q6p cNm l))
 rw [Qxg] at this
 exact this
theorem Qfl (p : Fld → Bool) (l : List Fld) : totF (l.filter p) ≤ totF l := Qab List.filter_sublist
theorem Qq8 {l : List Fld} {f : Fld} {p : Fld → Bool} (h : f ∈ l) (hp : p f = false) : totF (l.filter p) + tot f.v ≤ totF l := by
  induction l with
  | nil => cases h
  | cons x l ih =>
    rw [Q1p, List.filter_cons]
    rcases List.mem_cons.1 h with e | h
    · subst e
      rw [hp]
      have := Qfl p l
      simp only [Bool.false_eq_true, ↓reduceIte]
      omega
    · have := ih h
      cases p x with
      | true => simp only [↓reduceIte]; rw [Q1p]; omega
      | false => simp only [Bool.false_eq_true, ↓reduceIte]; omega
theorem Q14l (l : List Fld) (i : Nat) (x : Fld) (h : l[i]? = some x) : totF (l.take (i + 1)) = totF (l.take i) + tot x.v := by
 have hi := (List.getElem?_eq_some_iff.1 h).1
 rw [List.take_add_one, h, Option.toList_some, Qcu, Q1p, Q3n]
 rfl
theorem Qs2 (l : List Fld) (i : Nat) : totF (l.take i) ≤ totF l := Qab (List.take_sublist i l)
theorem Qud (k n : Int) (s : ByteArray) (l : List Val) (f : List Fld) : tot (.mk k n s l f) = 1 + totV l + totF f := by rw [Qbm]; rfl
end Go.Pv
end

section
/- Merging, differences and composition of maps, as plain functions; their laws, by what stands at a name. -/
namespace Go.Pv
open Srt
abbrev mp (l : List Fld) : Val := .mk 5 0 ⟨#[]⟩ [] (mapOf l)
abbrev zV : Val := .mk 0 0 ⟨#[]⟩ [] []
def found (v : Val) (n : ByteArray) : Option Fld := bif v.kind == 5 then v.fields.find? (fun f => sEq f.name n) else none
def gotF : Option Fld → Val × Bool
 | some f => (f.v, true)
 | none => (.mk 0 0 ⟨#[]⟩ [] [], false)
def oth (v : Val) (n : ByteArray) : List Fld := bif v.kind == 5 then v.fields.filter (fun f => !sEq f.name n) else []
def atN (v : Val) (n : ByteArray) : Option Val := (found v n).map Fld.v
theorem Q14c (v : Val) (n : ByteArray) : gotF (found v n) = ((atN v n).getD zV, (atN v n).isSome) := by
 unfold atN
 cases found v n <;> rfl
def wi (v : Val) (n : ByteArray) (x : Val) : Val := mp (oth v n ++ [.mk n x])
def isMap (v : Val) : Prop := ∃ F, v = .mk 5 0 ⟨#[]⟩ [] F ∧ SS F
theorem isMap.kind {v : Val} (h : isMap v) : v.kind = 5 := by
 obtain ⟨F, rfl, _⟩ := h
 rfl
theorem Q145 {l : List Fld} (h : SS l) (n : ByteArray) (f : Fld) : l.find? (fun y => sEq y.name n) = some f ↔ f ∈ l ∧ f.name = n := by
  constructor
  · intro g
    exact ⟨List.mem_of_find?_eq_some g, Q3y.1 (List.find?_some (p := fun y : Fld => sEq y.name n) g)⟩
  · intro ⟨g1, g2⟩
    cases e : l.find? fun y => sEq y.name n with
    | none =>
      have := List.find?_eq_none.1 e f g1
      exact absurd (Q3y.2 g2) this
    | some y => rw [h.inj g1 (List.mem_of_find?_eq_some e) (g2.trans (Q3y.1 (List.find?_some (p := fun y : Fld => sEq y.name n) e)).symm)]
theorem Q1dt (F : List Fld) (h : SS F) (n : ByteArray) (x : Val) : atN (.mk 5 0 ⟨#[]⟩ [] F) n = some x ↔ Fld.mk n x ∈ F := by
  unfold atN
  rw [show found (.mk 5 0 ⟨#[]⟩ [] F) n = F.find? fun f => sEq f.name n from rfl, Option.map_eq_some_iff]
  constructor
  · intro ⟨f, h1, h2⟩
    obtain ⟨g1, g2⟩ := (Q145 h n f).1 h1
    rw [← g2, ← h2, Fld.eta]
    exact g1
  · intro g
    exact ⟨_, (Q145 h n _).2 ⟨g, rfl⟩, rfl⟩
theorem Q17d {v : Val} (h : isMap v) (n : ByteArray) (x : Val) : atN v n = some x ↔ Fld.mk n x ∈ v.fields := by
 obtain ⟨F, rfl, hS⟩ := h
 exact Q1dt F hS n x
theorem Q17g {v : Val} (h : v.kind ≠ 5) (n : ByteArray) : atN v n = none := by
 unfold atN found
 rw [show (v.kind == 5) = false by simpa using h]
 rfl
def at_ (l : List Fld) (n : ByteArray) : Option Val := (l.find? fun f => sEq f.name n).map Fld.v
inductive DV : Val → Prop
  | mk (v : Val) (h5 : v.kind = 5 → isMap v) (h6 : v.kind = 5 → ∀ f ∈ v.fields, DV f.v) : DV v
theorem DV.map {v : Val} (h : DV v) (k : v.kind = 5) : isMap v := by
 cases h with
 | mk _ a b => exact a k
theorem DV.sub {v : Val} (h : DV v) (k : v.kind = 5) {f : Fld} (hf : f ∈ v.fields) : DV f.v := by
 cases h with
 | mk _ a b => exact b k f hf
theorem DV.leaf {v : Val} (h : v.kind ≠ 5) : DV v := .mk v (fun k => absurd k h) fun k => absurd k h
theorem DV.zero : DV zV := DV.leaf (show (0 : Int) ≠ 5 by omega)
theorem DV.at {v : Val} (h : DV v) {n : ByteArray} {x : Val} (g : atN v n = some x) : DV x := by
  by_cases k : v.kind = 5
  · exact h.sub k ((Q17d (h.map k) n x).1 g)
  · rw [Q17g k] at g
    cases g
theorem Q165 {P : Val → Prop} (h : ∀ v : Val, (∀ f ∈ v.fields, P f.v) → P v) : ∀ v, P v := by
 have key : ∀ (k : Nat) (v : Val), SizeOf.sizeOf v < k → P v := by
  intro k
  induction k with
  | zero => intro v hv; exact absurd hv (Nat.not_lt_zero _)
  | succ k ih => intro v hv; exact h v fun f hf => ih f.v (by have := szN hf; omega)
 exact fun v => key _ v (Nat.lt_succ_self _)
inductive Cm : Val → Val → Prop
  | mk (p q : Val) (h0 : q.kind = 5 → p.kind = 5) (h1 : q.kind = 5 → ∀ f ∈ q.fields, ∀ y, atN p f.name = some y → Cm y f.v) : Cm p q
theorem Cm.out {p q : Val} (h : Cm p q) : (q.kind = 5 → p.kind = 5) ∧ (q.kind = 5 → ∀ f ∈ q.fields, ∀ y, atN p f.name = some y → Cm y f.v) := by
 cases h with
 | mk _ _ a b => exact ⟨a, b⟩
def df0 (b : Val) : List Fld → Val → Val
 | [], o => o
 | x :: l, o => df0 b l (bif (atN b x.name).isSome then o else wi o x.name zV)
open Classical in
mutual
noncomputable def df (a b : Val) : Val := bif a.kind == 5 then (bif b.kind == 5 then dfL a b.fields (df0 b a.fields (mp [])) else b) else b
termination_by SizeOf.sizeOf b
decreasing_by exact Val.Q2e _
noncomputable def dfL (a : Val) : List Fld → Val → Val
 | [], o => o
 | x :: l, o => dfL a l (match atN a x.name with | none => wi o x.name x.v | some y => if y = x.v then o else wi o x.name (df y x.v))
termination_by l => SizeOf.sizeOf l
decreasing_by all_goals first | exact Q1z _ _ | exact Q2d _ _
end
open Classical in
theorem Qmh (a : Val) (x : Fld) (l : List Fld) (o : Val) : dfL a (x :: l) o = dfL a l (match atN a x.name with | none => wi o x.name x.v | some y => if y = x.v then o else wi o x.name (df y x.v)) := by rw [dfL]
theorem Qu1 (a o : Val) : dfL a [] o = o := by rw [dfL]
theorem Q122 {a b : Val} (h : ¬ (a.kind = 5 ∧ b.kind = 5)) : df a b = b := by
 rw [df]
 cases c : a.kind == 5 with
 | false => rfl
 | true =>
  rw [cond_true, show (b.kind == 5) = false by simpa using fun k => h ⟨by simpa using c, k⟩, cond_false]
inductive Cl : Val → Prop
  | mk (v : Val) (h0 : v.kind = 5 → ∀ f ∈ v.fields, f.v.kind ≠ 0) (h1 : v.kind = 5 → ∀ f ∈ v.fields, Cl f.v) : Cl v
theorem Cl.out {v : Val} (h : Cl v) : (v.kind = 5 → ∀ f ∈ v.fields, f.v.kind ≠ 0) ∧ (v.kind = 5 → ∀ f ∈ v.fields, Cl f.v) := by
 cases h with
 | mk _ a b => exact ⟨a, b⟩
theorem Cl.leaf {v : Val} (h : v.kind ≠ 5) : Cl v := .mk v (fun k => absurd k h) fun k => absurd k h
theorem Cl.at {v : Val} (hv : DV v) (h : Cl v) {n : ByteArray} {x : Val} (g : atN v n = some x) : x.kind ≠ 0 ∧ Cl x := by
  by_cases k : v.kind = 5
  · have m := (Q17d (hv.map k) n x).1 g
    exact ⟨h.out.1 k _ m, h.out.2 k _ m⟩
  · rw [Q17g k] at g
    cases g
end Go.Pv
end

section
/- Fields in plain words: a copy is the value, taking out is filtering, a map keeps the last field of each name; the two programs agree. -/
namespace Go.Proofs.Ytnhhddbbppbblaa
open Go.Pv Go.Pv.Srt
theorem Qax (p : List Fld) : (Q6p cNm p).length = p.length := Qq7 _ (Q7u Fld.name) p
theorem Q126 : ∀ v : Val, s_Kj v = v := vind fun v h1 h2 => by
  have e1 : ∀ (l : List Val), (∀ x ∈ l, s_Kj x = x) → ∀ (i : Nat) (a : List Val), Q2f v l i a = a ++ l := by
    intro l
    induction l with
    | nil => intro _ i a; rw [Q2f]; simp
    | cons x l ih => intro hx i a; rw [Q2f, ih (fun y hy => hx y (List.mem_cons_of_mem _ hy)), hx x List.mem_cons_self]; simp
  have e2 : ∀ (l : List Fld), (∀ x ∈ l, s_Kj x.v = x.v) → ∀ (i : Nat) (a : List Fld), Q4r v l i a = a ++ l := by
    intro l
    induction l with
    | nil => intro _ i a; rw [Q4r]; simp
    | cons x l ih => intro hx i a; rw [Q4r, ih (fun y hy => hx y (List.mem_cons_of_mem _ hy)), hx x List.mem_cons_self, Fld.eta]; simp
  rw [s_Kj, e1 _ h1, e2 _ h2, List.nil_append, List.nil_append, Val.eta]
theorem vget (v : Val) (n : BA) : Q1j v n = gotF (found v n) := by
  unfold Q1j found
  cases v.kind == 5 with
  | false => rfl
  | true =>
    simp only [cond_true]
    have : ∀ (l : List Fld) (i : Nat), (match Q58 v n l i with | .k0 => (Val.mk 0 0 ⟨#[]⟩ [] [], false) | .k1 y => (y, true)) = gotF (l.find? fun f => sEq f.name n) := by
      intro l
      induction l with
      | nil => intro i; rfl
      | cons x l ih =>
        intro i
        rw [Q58, List.find?_cons]
        cases sEq x.name n with
        | true => rfl
        | false => exact ih (i + 1)
    exact this _ _
theorem rget (v : Val) (n : BA) : s_Kl v n = gotF (found v n) := by
  unfold s_Kl found
  cases v.kind == 5 with
  | false => rfl
  | true =>
    simp only [cond_true]
    have : ∀ (l : List Fld) (i : Nat), (match Q77 v n l i with | .k0 => (Val.mk 0 0 ⟨#[]⟩ [] [], false) | .k1 y => (y, true)) = gotF (l.find? fun f => sEq f.name n) := by
      intro l
      induction l with
      | nil => intro i; rfl
      | cons x l ih =>
        intro i
        rw [Q77, List.find?_cons]
        cases sEq x.name n with
        | true => simp only [cond_true, Q126]; rfl
        | false => exact ih (i + 1)
    exact this _ _
theorem roth (v : Val) (n : BA) : s_Ku v n = ((oth v n).length, oth v n) := by
  have : ∀ (l : List Fld) (i : Nat) (a : List Fld), Q41 v n l i a = a ++ bif v.kind == 5 then l.filter (fun f => !sEq f.name n) else [] := by
    intro l
    induction l with
    | nil => intro i a; rw [Q41]; cases v.kind == 5 <;> simp
    | cons x l ih =>
      intro i a
      rw [Q41]
      cases h : v.kind == 5 with
      | false => simp
      | true =>
        rw [cond_true, cond_true, List.filter_cons]
        cases sEq x.name n with
        | true => rw [cond_true, ih, h]; rfl
        | false => rw [cond_false, ih, h]; simp
  have e : Q41 v n v.fields 0 [] = oth v n := by rw [this]; rfl
  unfold s_Ku
  rw [e]
theorem Qv8 (p : List Fld) (o : BA) : ∀ (l : List Fld) (i : Nat), match Q2q p o l i with
    | .k0 => ∀ x ∈ l, Q3s x o = false
    | .k1 q => ∃ A x C, l = A ++ x :: C ∧ (∀ y ∈ A, Q3s y o = false) ∧ Q3s x o = true ∧ q = (i : Int) + (A.length : Int)
  | [], i => fun _ h => by cases h
  | x :: l, i => by
    rw [Q2q]
    have ih := Qv8 p o l (i + 1)
    cases h : Q3s x o with
    | true => exact ⟨[], x, l, rfl, fun _ g => (by cases g), h, by simp⟩
    | false =>
      rw [cond_false]
      cases e : Q2q p o l (i + 1) with
      | k0 =>
        rw [e] at ih
        intro y hy
        rcases List.mem_cons.1 hy with g | hy
        · rw [g]; exact h
        · exact ih y hy
      | k1 q =>
        rw [e] at ih
        obtain ⟨A, z, C, h1, h2, h3, h4⟩ := ih
        refine ⟨x :: A, z, C, by rw [h1]; rfl, fun y hy => ?_, h3, by rw [h4]; simp; omega⟩
        rcases List.mem_cons.1 hy with g | hy
        · rw [g]; exact h
        · exact h2 y hy
theorem Q13e (n : Nat) (o : BA) : ∀ (C : List Fld) (k i j : Nat) (v : List Fld), v.length = n → i < j → v.drop j = C → C.length < k →
    (Q1c n o k i j v).2 = ((i + (C.filter fun f => !Q3s f o).length : Nat) : Int) ∧
    List.take (i + (C.filter fun f => !Q3s f o).length) (Q1c n o k i j v).1 = v.take i ++ C.filter fun f => !Q3s f o
  | _, 0, _, _, _, _, _, _, hk => absurd hk (Nat.not_lt_zero _)
  | [], k + 1, i, j, v, hl, hij, hd, _ => by
    have : n ≤ j := by have := List.drop_eq_nil_iff.1 hd; omega
    rw [Q1c, show decide ((j : Int) < (n : Int)) = false by simp; omega, cond_false]
    simp
  | x :: C, k + 1, i, j, v, hl, hij, hd, hk => by
    obtain ⟨hx, hj, hd'⟩ := Qz hd
    have hx' : List.getD v (Int.toNat (j : Int)) zF = x := by rw [Int.toNat_natCast, List.getD_eq_getElem?_getD, hx]; rfl
    rw [Q1c, show decide ((j : Int) < (n : Int)) = true by simp; omega, cond_true, hx']
    simp only [List.length_cons] at hk
    cases h : Q3s x o with
    | true =>
      rw [cond_true, List.filter_cons_of_neg (by simp [h])]
      exact Q13e n o C k i (j + 1) v hl (by omega) hd' (by omega)
    | false =>
      rw [cond_false, List.filter_cons_of_pos (by simp [h])]
      have hi : i < v.length := by omega
      have e : (v.set i x).take (i + 1) = v.take i ++ [x] := by
        rw [List.take_add_one, List.getElem?_set_self hi, List.take_set, List.set_eq_of_length_le (by rw [List.length_take]; omega)]
        rfl
      have ih := Q13e n o C k (i + 1) (j + 1) (v.set i x) (by rw [List.length_set]; exact hl) (by omega) (by rw [List.drop_set_of_lt (by omega)]; exact hd') (by omega)
      rw [e, show i + 1 + (C.filter fun f => !Q3s f o).length = i + ((x :: C.filter fun f => !Q3s f o)).length by simp; omega] at ih
      rw [Int.toNat_natCast]
      refine ⟨ih.1, ih.2.trans ?_⟩
      simp
theorem del_eq (l : List Fld) (o : BA) : Qo3 l.length l o = ((l.filter fun f => !sEq f.name o).length, l.filter fun f => !sEq f.name o) := by
  have h := Qv8 l o l 0
  unfold Qo3 Q11
  cases e : Q2q l o l 0 with
  | k0 =>
    rw [e] at h
    have : l.filter (fun f => !sEq f.name o) = l := List.filter_eq_self.2 fun x hx => by have := h x hx; unfold Q3s at this; rw [this]; rfl
    rw [this]
    rfl
  | k1 q =>
    rw [e] at h
    obtain ⟨A, x, C, h1, h2, h3, h4⟩ := h
    have hA : A.filter (fun f => !sEq f.name o) = A := List.filter_eq_self.2 fun x hx => by have := h2 x hx; unfold Q3s at this; rw [this]; rfl
    have hf : l.filter (fun f => !sEq f.name o) = A ++ C.filter fun f => !sEq f.name o := by
      rw [h1, List.filter_append, List.filter_cons_of_neg (by unfold Q3s at h3; simp [h3]), hA]
    have hl : l.length = A.length + (C.length + 1) := by rw [h1]; simp
    simp only
    rw [show (q == (-1 : Int)) = false by simp; omega, cond_false]
    have g := Q13e l.length o C (Int.toNat ((l.length : Int) - (q + 1)) + 1) A.length (A.length + 1) l rfl (by omega) (by rw [h1]; simp) (by omega)
    rw [show (A.length : Int) = q by omega, show ((A.length + 1 : Nat) : Int) = q + 1 by omega] at g
    obtain ⟨g1, g2⟩ := g
    rw [g1, Int.toNat_natCast, g2, hf]
    change (_, _) = _
    rw [show List.take A.length l = A by rw [h1]; simp]
    unfold Q3s
    simp
theorem voth (v : Val) (n : BA) : Q3c v n = ((oth v n).length, oth v n) := by
  unfold Q3c oth
  cases v.kind == 5 with
  | false => rfl
  | true => rw [cond_true, cond_true, del_eq]
theorem map1 : Q27 = cNm := rfl
theorem Qo4 (l : List Fld) : Qk l.length l = Q6p cNm l := by
  have := Qz3 (by rw [map1]; exact Q7u Fld.name) l
  rwa [map1] at this
theorem Q152 (p : List Fld) : ∀ (r : List Fld) (i : Nat) (a : List Fld), (Q6p cNm p).drop i = r → Q25 p r i a = a ++ lasts r
  | [], i, a, _ => by rw [Q25, lasts]; simp
  | [x], i, a, hd => by
    have hl := Qax p
    have h := congrArg List.length hd
    rw [List.length_drop, List.length_singleton] at h
    rw [Q25, show (((i + 1 : Nat) : Int) == (List.length p : Int)) = true by simp; omega, cond_true, Q25]
    rfl
  | x :: y :: r, i, a, hd => by
    have hl := Qax p
    have h := congrArg List.length hd
    rw [List.length_drop, List.length_cons, List.length_cons] at h
    obtain ⟨_, _, hd'⟩ := Qz hd
    obtain ⟨hy, _, _⟩ := Qz hd'
    rw [Q25, show (((i + 1 : Nat) : Int) == (List.length p : Int)) = false by simp; omega, cond_false, Qo4, Int.toNat_natCast, List.getD_eq_getElem?_getD, hy, Option.getD_some, lasts]
    cases sEq y.name x.name with
    | true => rw [cond_true, cond_true, Q152 p (y :: r) (i + 1) a hd']
    | false => rw [cond_false, cond_false, Q152 p (y :: r) (i + 1) _ hd']; simp
theorem Qdw (p : List Fld) : Q25 p (Qk p.length p) 0 [] = mapOf p := by
  rw [Q152 p _ 0 [] (by rw [Qo4]; rfl), Qo4]
  rfl
theorem vmap (p : List Fld) : Qdz p = .mk 5 0 ⟨#[]⟩ [] (mapOf p) := by
  unfold Qdz
  rw [Qdw]
theorem Q9d (p : List Fld) (f : Fld) : ∀ (l : List Fld) (i : Nat) (a : List Fld), Q14 p f l i a true = (a ++ l.filter (fun y => !sEq y.name f.name), true)
  | [], i, a => by rw [Q14]; simp
  | x :: l, i, a => by
    rw [Q14, show (true == true) = true from rfl, cond_true, List.filter_cons]
    cases sEq x.name f.name with
    | true => rw [cond_true, Q9d]; rfl
    | false => rw [cond_false, Q9d]; simp
theorem Q17a (p : List Fld) (f : Fld) : ∀ (l : List Fld) (i : Nat) (a : List Fld), SS l → (bif (Q14 p f l i a false).2 then (Q14 p f l i a false).1 else (Q14 p f l i a false).1 ++ [f]) = a ++ insF f l
  | [], i, a, _ => by rw [Q14]; rfl
  | x :: l, i, a, h => by
    obtain ⟨hx, hl⟩ := SS.cons.1 h
    have gt : ¬ sCmp x.name f.name < 0 → l.filter (fun y => !sEq y.name f.name) = l := fun c => List.filter_eq_self.2 fun y hy => by
      have g := hx y hy
      unfold nlt at g
      have : sEq y.name f.name = false := Qr1.2 fun e => c (by rw [← e]; exact g)
      rw [this]
      rfl
    rw [Q14, show (false == true) = false from rfl, cond_false, Q12e, Qh8, insF]
    by_cases c : sCmp x.name f.name < 0
    · have ne : sEq x.name f.name = false := Qr1.2 fun e => by rw [e, Q4u] at c; omega
      rw [show (!decide (sCmp x.name f.name < 0)) = false by simp [c], cond_false, ne, cond_false, Q17a p f l _ _ hl, if_pos c]
      simp
    · rw [show (!decide (sCmp x.name f.name < 0)) = true by simp [c], cond_true, if_neg c]
      cases e : sEq x.name f.name with
      | true => rw [cond_true, Q9d, if_pos (Q3y.1 e), gt c]; simp
      | false => rw [cond_false, Q9d, if_neg (Qr1.1 e), gt c]; simp
theorem put_eq {l : List Fld} (h : SS l) (f : Fld) : s_Kv l f = insF f l := by
  have := Q17a l f l 0 [] h
  exact this
theorem Q15i (p : List Fld) : ∀ (l : List Fld) (i : Nat) (v : Val), SS v.fields → Q72 p l i v = .mk v.kind v.n v.s v.list (l.foldl (fun a x => insF x a) v.fields)
  | [], i, v, _ => by rw [Q72]; exact (Val.eta v).symm
  | x :: l, i, v, h => by
    rw [Q72, put_eq h, Q126, Fld.eta, Q15i p l (i + 1) (.mk v.kind v.n v.s v.list (insF x v.fields)) (Qu0 h)]
    rfl
theorem rmap (p : List Fld) : s_Km p = .mk 5 0 ⟨#[]⟩ [] (mapOf p) := by
  unfold s_Km
  rw [Q15i p p 0 (.mk 5 0 ⟨#[]⟩ [] []) SS.nil]
  have := Qg7 p []
  rw [Qe8, List.nil_append] at this
  exact congrArg (Val.mk 5 0 ⟨#[]⟩ []) this
theorem Q1d8 (v : Val) (n : BA) (x : Val) : Q2r v n x = mp (oth v n ++ [.mk n x]) := by
  unfold Q2r
  rw [voth, vmap, List.take_length]
theorem Q1df (v : Val) (n : BA) (x : Val) : s_Kr v n x = mp (oth v n ++ [.mk n x]) := by
  unfold s_Kr
  rw [roth, rmap, List.take_length]
theorem Q1da {B : Nat} {l : List Fld} (hl : l.length ≤ B) (h : ∀ f ∈ l, Val.Sm B f.v) : Val.Sm B (mp l) :=
  .mk _ (Nat.zero_le _) (Nat.le_trans (Q12x l) hl) (fun _ g => by cases g) fun f hf => h f (Q13q hf)
theorem Q1bh {l : List Fld} (hl : l.length ≤ 1000000000) (h : ∀ f ∈ l, Val.Sm 1000000000 f.v) : Q13g l := by
  refine ⟨by omega, by omega, ⟨?_, trivial⟩, ?_, trivial⟩
  · rw [Qo4, Qax]
    omega
  · rw [Qdw]
    exact Q1da hl h
theorem Qam (p : List Fld) (f : Fld) : ∀ (l : List Fld) (i : Nat) (a : List Fld) (d : Bool), (Q14 p f l i a d).1.length + (bif (Q14 p f l i a d).2 then 0 else 1) ≤ a.length + l.length + (bif d then 0 else 1)
  | [], i, a, d => by rw [Q14]; simp
  | x :: l, i, a, true => by
    rw [Q9d]
    have := List.length_filter_le (fun y : Fld => !sEq y.name f.name) (x :: l)
    simp only [List.length_append, cond_true]
    omega
  | x :: l, i, a, false => by
    have h1 := Qam p f l (i + 1) (a ++ [f]) true
    have h2 := Qam p f l (i + 1) ((a ++ [f]) ++ [x]) true
    have h3 := Qam p f l (i + 1) a false
    have h4 := Qam p f l (i + 1) (a ++ [x]) false
    rw [Q14, show (false == true) = false from rfl, cond_false]
    simp only [List.length_append, List.length_cons, List.length_nil, cond_true, cond_false] at h1 h2 h3 h4 ⊢
    cases sLt f.name x.name || sEq f.name x.name <;> cases sEq x.name f.name <;> simp only [cond_true, cond_false] <;> omega
theorem Q1c1 {l : List Fld} (hl : l.length ≤ 1000000000) (h : ∀ f ∈ l, Val.Sm 1000000000 f.v) : H_Km l := by
  refine ⟨⟨by omega, fun x hx => h x hx, fun i v x hx hv => ?_, fun i v x hx hv => ?_, trivial⟩, by simp [Val.fields], trivial⟩
  · have hi := (List.getElem?_eq_some_iff.1 hx).1
    refine ⟨⟨by omega, trivial⟩, fun _ => ?_, trivial⟩
    have := Qam v.fields (.mk x.name (s_Kj x.v)) v.fields 0 [] false
    simp only [List.length_nil, cond_false] at this
    omega
  · have := Qam v.fields (.mk x.name (s_Kj x.v)) v.fields 0 [] false
    change (s_Kv v.fields (.mk x.name (s_Kj x.v))).length ≤ i + 1
    unfold s_Kv
    cases e : (Q14 v.fields (.mk x.name (s_Kj x.v)) v.fields 0 [] false).2 <;> rw [e] at this <;> simp only [List.length_nil, cond_false, cond_true, List.length_append, List.length_cons] at this ⊢ <;> omega
theorem Q18i {v : Val} {n : ByteArray} {f : Fld} (h : f ∈ oth v n) : f ∈ v.fields := by
  unfold oth at h
  cases e : v.kind == 5 with
  | true => rw [e] at h; exact (List.mem_filter.1 h).1
  | false => rw [e] at h; cases h
theorem Qu7 (v : Val) (n : BA) : (oth v n).length ≤ v.fields.length := by
  unfold oth
  cases v.kind == 5 with
  | true => exact List.length_filter_le _ _
  | false => exact Nat.zero_le _
theorem Q1dc {v : Val} (h : Val.Sm 999999999 v) (n : BA) : Q18q v n := by
  have := h.all.2.1
  exact ⟨by omega, fun _ => by omega, ⟨⟨⟨by omega, trivial⟩, trivial⟩, trivial⟩, trivial⟩
theorem Q1d6 {v : Val} (h : Val.Sm 999999999 v) (n : BA) : H_Ku v n := by
  have := h.all.2.1
  exact ⟨⟨by omega, trivial⟩, trivial⟩
theorem Qoa {v : Val} (h : Val.Sm 999999999 v) (n : BA) {x : Val} (hx : Val.Sm 1000000000 x) : (oth v n ++ [Fld.mk n x]).length ≤ 1000000000 ∧ ∀ f ∈ oth v n ++ [Fld.mk n x], Val.Sm 1000000000 f.v := by
  have h1 := h.all
  have h2 := Qu7 v n
  refine ⟨by simp; omega, fun f hf => ?_⟩
  rcases List.mem_append.1 hf with g | g
  · exact (h1.2.2.2 f (Q18i g)).mono (by omega)
  · rw [List.mem_singleton.1 g]
    exact hx
theorem Q19b {v : Val} (h : Val.Sm 999999999 v) (n : BA) {x : Val} (hx : Val.Sm 1000000000 x) : Qmo v n x := by
  have h2 := Qu7 v n
  have h3 := h.all.2.1
  refine ⟨Q1dc h n, ?_, ?_, ?_, trivial⟩
  · rw [voth]; exact Nat.le_refl _
  · rw [voth]; simp only; omega
  · rw [voth, List.take_length]; exact Q1bh (Qoa h n hx).1 (Qoa h n hx).2
theorem Q1bn {v : Val} (h : Val.Sm 999999999 v) (n : BA) {x : Val} (hx : Val.Sm 1000000000 x) : H_Kr v n x := by
  have h2 := Qu7 v n
  have h3 := h.all.2.1
  refine ⟨Q1d6 h n, ?_, ?_, ?_, trivial⟩
  · rw [roth]; exact Nat.le_refl _
  · rw [roth]; simp only; omega
  · rw [roth, List.take_length]; exact Q1c1 (Qoa h n hx).1 (Qoa h n hx).2
theorem Q1c3 {v : Val} (h : Val.Sm 1000000000 v) (n : BA) : Q11l v n := ⟨⟨by have := h.all.2.1; omega, h.all.2.2.2, trivial⟩, trivial⟩
theorem Q1d1 {v : Val} (h : Val.Sm 1000000000 v) (n : BA) : H_Kl v n := ⟨⟨by have := h.all.2.1; omega, h.all.2.2.2, trivial⟩, trivial⟩
theorem Vget (v : Val) (n : BA) : Q1j v n = ((atN v n).getD zV, (atN v n).isSome) := by rw [vget, Q14c]
theorem Rget (v : Val) (n : BA) : s_Kl v n = ((atN v n).getD zV, (atN v n).isSome) := by rw [rget, Q14c]
theorem Q10x (v : Val) (n : BA) (x : Val) : Q2r v n x = wi v n x := Q1d8 v n x
theorem Q13w (v : Val) (n : BA) (x : Val) : s_Kr v n x = wi v n x := Q1df v n x
theorem Q154 (v : Val) (n : BA) : totF (oth v n) + tot ((atN v n).getD zV) ≤ tot v := by
  have hz : tot zV = 1 := by rw [Qud, Q3n, totV]
  have h1 := Qbm v
  unfold oth atN found
  cases v.kind == 5 with
  | false => rw [cond_false, cond_false, Q3n, Option.map_none, Option.getD_none, hz]; omega
  | true =>
    rw [cond_true, cond_true]
    cases e : v.fields.find? fun f => sEq f.name n with
    | none =>
      have := Qfl (fun f : Fld => !sEq f.name n) v.fields
      rw [Option.map_none, Option.getD_none, hz]
      omega
    | some f =>
      have h2 := List.mem_of_find?_eq_some e
      have h3 := List.find?_some (p := fun f : Fld => sEq f.name n) e
      have := Qq8 (p := fun f : Fld => !sEq f.name n) h2 (by simp [h3])
      rw [Option.map_some, Option.getD_some]
      omega
theorem Q1a4 (v : Val) (n : BA) (x : Val) : tot (wi v n x) + tot ((atN v n).getD zV) ≤ 1 + tot v + tot x := by
  have h1 := Q154 v n
  have h2 := Qx1 (oth v n ++ [Fld.mk n x])
  rw [Qcu, Q1p, Q3n] at h2
  unfold wi mp
  rw [Qud, totV]
  change totF (mapOf (oth v n ++ [Fld.mk n x])) ≤ totF (oth v n) + (tot x + 0) at h2
  omega
theorem Q8j (v : Val) (n : BA) (x : Val) : tot (wi v n x) ≤ tot v + tot x := by
  have h1 := Q1a4 v n x
  have h2 := Q63 ((atN v n).getD zV)
  omega
theorem Qdl (v : Val) (n : BA) : tot ((atN v n).getD zV) ≤ tot v := by
  have := Q154 v n
  omega
theorem Qe1 : tot (mp []) = 1 := by unfold mp; rw [Qe8, Qud, Q3n, totV]
theorem Qg8 : tot zV = 1 := by rw [Qud, Q3n, totV]
theorem Q1a5 {v x : Val} (h : tot v ≤ 500000000) (n : BA) (hx : tot x ≤ 500000000) : Qmo v n x := Q19b (Q8b (by omega)) n (Q8b (by omega))
theorem Q17t {v x : Val} (h : tot v ≤ 500000000) (n : BA) (hx : tot x ≤ 500000000) : H_Kr v n x := Q1bn (Q8b (by omega)) n (Q8b (by omega))
theorem tGet {v : Val} (h : tot v ≤ 500000000) (n : BA) : Q11l v n := Q1c3 (Q8b (by omega)) n
theorem Q1aj {v : Val} (h : tot v ≤ 500000000) (n : BA) : H_Kl v n := Q1d1 (Q8b (by omega)) n
theorem Q1cn : Q13g [] := Q1bh (by simp) fun _ h => by cases h
theorem Q1cl {v : Val} (h : tot v ≤ 500000000) : Q18g [v] := ⟨.mk _ (by simp [Val.list]) (by simp [Val.fields]) (fun x hx => by
  have : x = v := by simpa [Val.list] using hx
  rw [this]; exact Q8b (by omega)) (fun x hx => by cases hx), trivial⟩
theorem Q18w : Qdz [] = mp [] := vmap []
theorem VEq {v : Val} (h : tot v ≤ 500000000) (w : Val) : Q18p v w := ⟨Q8b (by omega), trivial⟩
theorem REq {v : Val} (h : tot v ≤ 500000000) (w : Val) : H_Kk v w := ⟨Q8b (by omega), trivial⟩
end Go.Proofs.Ytnhhddbbppbblaa
end

section
/- How many values merging, a difference and a composition hold at most. -/
namespace Go.Proofs.Ytnhhddbbppbblaa
open Go.Pv
theorem mp0 : mp [] = .mk 5 0 ⟨#[]⟩ [] [] := by unfold mp; rw [Qe8]
theorem Q16j (v : Val) (n : BA) : (Q1j v n).1 = (atN v n).getD zV := by rw [Vget]
theorem Q1ax (v : Val) (n : BA) : (Q1j v n).2 = (atN v n).isSome := by rw [Vget]
theorem Q16f (v : Val) (n : BA) : (s_Kl v n).1 = (atN v n).getD zV := by rw [Rget]
theorem Q19y (v : Val) (n : BA) : (s_Kl v n).2 = (atN v n).isSome := by rw [Rget]
theorem Qgj (b : Val) : ∀ (l : List Fld) (o : Val), tot (df0 b l o) ≤ tot o + l.length
  | [], o => by rw [df0]; exact Nat.le_refl _
  | x :: l, o => by
    rw [df0, List.length_cons]
    cases (atN b x.name).isSome with
    | true => have := Qgj b l o; rw [cond_true]; omega
    | false =>
      have := Qgj b l (wi o x.name zV)
      have := Q8j o x.name zV
      rw [Qg8] at this
      rw [cond_false]
      omega
theorem Qkd (a t : Nat) (h : 1 ≤ a) : t ≤ a * t := Nat.le_mul_of_pos_left t h
theorem Q13t (a : Val) : ∀ (l : List Fld) (o : Val), (∀ f ∈ l, ∀ w, tot (df w f.v) ≤ tot w * tot f.v) → tot (dfL a l o) ≤ tot o + tot a * totF l
  | [], o, _ => by rw [Qu1]; exact Nat.le_add_right _ _
  | x :: l, o, h => by
    have ih := fun o => Q13t a l o fun f hf => h f (List.mem_cons_of_mem _ hf)
    have k1 := Qkd (tot a) (tot x.v) (Q63 a)
    rw [Qmh, Q1p, Nat.mul_add]
    cases e : atN a x.name with
    | none =>
      have := ih (wi o x.name x.v)
      have := Q8j o x.name x.v
      simp only
      omega
    | some y =>
      have k2 := Qdl a x.name
      rw [e, Option.getD_some] at k2
      have k3 := h x List.mem_cons_self y
      have k4 := Nat.mul_le_mul_right (tot x.v) k2
      simp only
      split
      · have := ih o; omega
      · have := ih (wi o x.name (df y x.v))
        have := Q8j o x.name (df y x.v)
        omega
theorem Q13j : ∀ (b a : Val), tot (df a b) ≤ tot a * tot b := Q165 fun b ih a => by
  have h0 := Qkd (tot a) (tot b) (Q63 a)
  rw [df]
  cases a.kind == 5 with
  | false => exact h0
  | true =>
    cases b.kind == 5 with
    | false => exact h0
    | true =>
      rw [cond_true, cond_true]
      have h1 := Q13t a b.fields (df0 b a.fields (mp [])) ih
      have h2 := Qgj b a.fields (mp [])
      have h3 := Qcb a.fields
      have h4 := Qoe a
      have h5 := Qoe b
      have h6 : tot a * (1 + totF b.fields) ≤ tot a * tot b := Nat.mul_le_mul_left _ (by omega)
      rw [Nat.mul_add, Nat.mul_one] at h6
      rw [Qe1] at h2
      omega
theorem take_at {p : Val} {i : Nat} {x : Fld} (h : p.fields[i]? = some x) : totF (List.take (i + 1) p.fields) = totF (List.take i p.fields) + tot x.v ∧ totF (List.take (i + 1) p.fields) < tot p := by
  have h1 := Qs2 p.fields (i + 1)
  have h2 := Qoe p
  exact ⟨Q14l p.fields i x h, by omega⟩
theorem Qog (p : Val) : p.fields.length < tot p := by
  have h1 := Qcb p.fields
  have h2 := Qoe p
  omega
theorem Q11s {p : Val} {x : Fld} (h : x ∈ p.fields) : tot x.v ≤ tot p := by have := Qpk h; omega
end Go.Proofs.Ytnhhddbbppbblaa
end

section
/- What patching computes (printed by a program). -/
namespace Go.Proofs.Ytnhhddbbppbblaa
open Go.Pv
def s_Kh (p0 : Val) : Val :=
 (List.getD (Qzq [p0]).list (Int.toNat 0) (Val.mk 0 0 eB [] []))
def c_Kh (p0 : Val) : En := .call 26 [.agg (Val.cells p0)] []
def a_Kh (p0 : Val) : Rs := .ret (.agg (Val.cells (s_Kh p0))) []
def H_Kh (p0 : Val) : Prop := (Q18g [p0]) ∧ ((0 : Int) ≤ 0) ∧ (Int.toNat 0 < List.length (Qzq [p0]).list) ∧ True
theorem t_Kh (p0 : Val) (H : H_Kh p0) : Q7 G (c_Kh p0) (a_Kh p0) := by
 unfold a_Kh s_Kh
 exact Q9 (fn := Ir.Kh) rfl VOK.nil [hP 6 (Q55 5 (Val.rows (Qzq [p0]).list) 0 _ (H.2.1) (Val.Qg (Qu (Qzq [p0]).list (Int.toNat 0) (Val.mk 0 0 eB [] []) (H.2.2.1))) rfl)] [aN (Q164 (e' := .call 40 [.sl [(Val.cells p0)]] []) (Q1cx [p0] (H.1)) (by simp only [Q1bo, Val.Q3m, Val.Q68]))] (by kernel_rfl)
theorem Q15b {v : Val} (h : tot v ≤ 500000000) : H_Kh v := by
  refine ⟨Q1cl h, ?_, ?_, trivial⟩
  · exact Int.le_refl _
  · exact Nat.zero_lt_one
def Qc2 : Val :=
 (Val.mk 0 0 eB [] [])
def Q1cq : En := .call 33 [] []
def Q19i : Rs := .ret (.agg (Val.cells (Qc2))) []
theorem Q1c5 : Q7 G (Q1cq) (Q19i) := by
 unfold Q19i Qc2
 exact Q9 (fn := Ir.K1o) rfl VOK.nil [] [] (by kernel_rfl)
mutual
def s_Kf (p0 : Val) (p1 : Val) : Val :=
 bif (p0.kind == 5) then
  bif (p1.kind == 5) then
   (Q4d p0 p1 p1.fields 0 (Q4x p0 p1 p0.fields 0 (Qdz [])))
  else
   (s_Kh p1)
 else
  (s_Kh p1)
termination_by SizeOf.sizeOf p1
decreasing_by all_goals first | exact Val.Q4f _ | exact Val.Q2e _
def Q4x (p0 : Val) (p1 : Val) : List Fld → Nat → Val → Val
 | [], _i0, v0_1 =>
  v0_1
 | x0 :: r0, i0, v0_1 =>
  bif (Q1j p1 x0.name).2 then
   Q4x p0 p1 r0 (i0 + 1) v0_1
  else
   Q4x p0 p1 r0 (i0 + 1) (Q2r v0_1 x0.name (Qc2))
termination_by l => SizeOf.sizeOf l
decreasing_by all_goals first | exact Q2j _ _ | exact Q2d _ _ | exact Q1z _ _
def Q4d (p0 : Val) (p1 : Val) : List Fld → Nat → Val → Val
 | [], _i1, v1_1 =>
  v1_1
 | x1 :: r1, i1, v1_1 =>
  bif (Q1j p0 x1.name).2 then
   bif (Q5p (Q1j p0 x1.name).1 x1.v) then
    Q4d p0 p1 r1 (i1 + 1) v1_1
   else
    bif ((Q1j p0 x1.name).1.kind == 5) then
     bif (x1.v.kind == 5) then
      Q4d p0 p1 r1 (i1 + 1) (Q2r v1_1 x1.name (s_Kf (Q1j p0 x1.name).1 x1.v))
     else
      Q4d p0 p1 r1 (i1 + 1) (Q2r v1_1 x1.name x1.v)
    else
     Q4d p0 p1 r1 (i1 + 1) (Q2r v1_1 x1.name x1.v)
  else
   Q4d p0 p1 r1 (i1 + 1) (Q2r v1_1 x1.name x1.v)
termination_by l => SizeOf.sizeOf l
decreasing_by all_goals first | exact Q2j _ _ | exact Q2d _ _ | exact Q1z _ _
end
def Qnr (p0 : Val) (_p1 : Val) (i0 : Nat) (_v0_1 : Val) : List PV :=
  [.un, .un, .bx 0 0, .bx 1 0, .bx 2 0, .bx 3 0, .un, .un, .un, .un, .un, .un, .un, .un, .un, .un, .un, .un, .un, .un, .un, .un, .un, .un, .un, .un, .sl (Fld.rows p0.fields), .int .i64 ((List.length p0.fields) : Int), .int .i64 (i0 : Int), .un, .un, .un, .un, .un, .un, .un, .un, .un, .un, .un, .un, .un, .un, .un, .un, .un, .un, .un, .un, .un, .un, .un, .un, .un, .un, .un, .un, .un, .un, .un, .un, .un, .un, .un, .un, .un, .un, .un, .un, .un, .un, .un, .un, .un, .un, .un, .un, .un, .un, .un, .un, .un, .un, .un, .un, .un, .un, .un, .un, .un, .un, .un, .un, .un, .un, .un, .un, .un]
def Qmd (p0 : Val) (p1 : Val) (_i0 : Nat) (v0_1 : Val) : List Ob :=
  [⟨5, 0, true, [.int .i64 p0.kind, .int .i64 p0.n, .str p0.s, .sl (Val.rows p0.list), .sl (Fld.rows p0.fields)]⟩, ⟨5, 0, true, [.int .i64 p1.kind, .int .i64 p1.n, .str p1.s, .sl (Val.rows p1.list), .sl (Fld.rows p1.fields)]⟩, ⟨5, 0, true, [.int .i64 0, .int .i64 0, .str eB, .ms 4 5 0 0, .ms 5 6 0 0]⟩, ⟨5, 0, true, [.int .i64 v0_1.kind, .int .i64 v0_1.n, .str v0_1.s, .sl (Val.rows v0_1.list), .sl (Fld.rows v0_1.fields)]⟩, ⟨5, 0, true, []⟩, ⟨6, 0, true, []⟩]
def Qb0 (p0 : Val) (p1 : Val) (i0 : Nat) (v0_1 : Val) : En := .loop 0 Ir.Qkc Ir.Q1a9 (Qnr p0 p1 i0 v0_1) (Qmd p0 p1 i0 v0_1)
def Qry (p0 : Val) (p1 : Val) (q0 : Val) (z : Nat → PV) (_zo : Nat → List PV) : St :=
  ⟨[z 0, z 1, .bx 0 0, .bx 1 0, .bx 2 0, .bx 3 0, z 6, z 7, z 8, z 9, z 10, z 11, z 12, z 13, z 14, z 15, z 16, z 17, z 18, z 19, z 20, z 21, z 22, z 23, z 24, z 25, z 26, z 27, z 28, z 29, z 30, z 31, z 32, z 33, z 34, z 35, z 36, z 37, z 38, z 39, z 40, z 41, z 42, z 43, z 44, z 45, z 46, z 47, z 48, z 49, z 50, z 51, z 52, z 53, z 54, z 55, z 56, z 57, z 58, z 59, z 60, z 61, z 62, z 63, z 64, z 65, z 66, z 67, z 68, z 69, z 70, z 71, z 72, z 73, z 74, z 75, z 76, z 77, z 78, z 79, z 80, z 81, z 82, z 83, z 84, z 85, z 86, z 87, z 88, z 89, z 90, z 91, z 92, z 93, z 94, z 95, z 96, z 97], [(0, ⟨5, 0, true, [.int .i64 p0.kind, .int .i64 p0.n, .str p0.s, .sl (Val.rows p0.list), .sl (Fld.rows p0.fields)]⟩), (1, ⟨5, 0, true, [.int .i64 p1.kind, .int .i64 p1.n, .str p1.s, .sl (Val.rows p1.list), .sl (Fld.rows p1.fields)]⟩), (2, ⟨5, 0, true, [.int .i64 0, .int .i64 0, .str eB, .ms 4 5 0 0, .ms 5 6 0 0]⟩), (3, ⟨5, 0, true, [.int .i64 q0.kind, .int .i64 q0.n, .str q0.s, .sl (Val.rows q0.list), .sl (Fld.rows q0.fields)]⟩), (4, ⟨5, 0, true, []⟩), (5, ⟨6, 0, true, []⟩)], 70⟩
def Qnm (p0 : Val) (p1 : Val) (e : En) (q : Val) : Prop := ∃ z zo, Q7 G e (.st (.exit 0) (Qry p0 p1 q z zo))
theorem Qbh (p0 : Val) (p1 : Val) {e e' : En} (h : ∀ r, Q7 G e r → Q7 G e' r) : ∀ q, Qnm p0 p1 e q → Qnm p0 p1 e' q
  | _, ⟨z, zo, hz⟩ => ⟨z, zo, h _ hz⟩
def Q7o (_p0 : Val) (p1 : Val) (i1 : Nat) (_v1_1 : Val) : List PV :=
  [.un, .un, .bx 0 0, .un, .bx 1 0, .bx 2 0, .un, .un, .un, .un, .un, .un, .un, .un, .un, .un, .un, .un, .un, .un, .un, .un, .un, .un, .un, .un, .un, .un, .un, .un, .un, .un, .un, .un, .un, .un, .un, .un, .un, .un, .un, .un, .un, .un, .un, .un, .un, .un, .sl (Fld.rows p1.fields), .int .i64 ((List.length p1.fields) : Int), .int .i64 (i1 : Int), .un, .un, .un, .un, .un, .un, .un, .un, .un, .un, .un, .un, .un, .un, .un, .un, .un, .un, .un, .un, .un, .un, .un, .un, .un, .un, .un, .un, .un, .un, .un, .un, .un, .un, .un, .un, .un, .un, .un, .un, .un, .un, .un, .un, .un, .un, .un]
def Q82 (p0 : Val) (_p1 : Val) (_i1 : Nat) (v1_1 : Val) : List Ob :=
  [⟨5, 0, true, [.int .i64 p0.kind, .int .i64 p0.n, .str p0.s, .sl (Val.rows p0.list), .sl (Fld.rows p0.fields)]⟩, ⟨5, 0, true, [.int .i64 0, .int .i64 0, .str eB, .ms 3 5 0 0, .ms 4 6 0 0]⟩, ⟨5, 0, true, [.int .i64 v1_1.kind, .int .i64 v1_1.n, .str v1_1.s, .sl (Val.rows v1_1.list), .sl (Fld.rows v1_1.fields)]⟩, ⟨5, 0, true, []⟩, ⟨6, 0, true, []⟩]
def Q4e (p0 : Val) (p1 : Val) (i1 : Nat) (v1_1 : Val) : En := .loop 0 Ir.Qlc Ir.Q19q (Q7o p0 p1 i1 v1_1) (Q82 p0 p1 i1 v1_1)
def Qrh (p0 : Val) (_p1 : Val) (q0 : Val) (z : Nat → PV) (_zo : Nat → List PV) : St :=
  ⟨[z 0, z 1, z 2, z 3, .bx 1 0, .bx 2 0, z 6, z 7, z 8, z 9, z 10, z 11, z 12, z 13, z 14, z 15, z 16, z 17, z 18, z 19, z 20, z 21, z 22, z 23, z 24, z 25, z 26, z 27, z 28, z 29, z 30, z 31, z 32, z 33, z 34, z 35, z 36, z 37, z 38, z 39, z 40, z 41, z 42, z 43, z 44, z 45, z 46, z 47, z 48, z 49, z 50, z 51, z 52, z 53, z 54, z 55, z 56, z 57, z 58, z 59, z 60, z 61, z 62, z 63, z 64, z 65, z 66, z 67, z 68, z 69, z 70, z 71, z 72, z 73, z 74, z 75, z 76, z 77, z 78, z 79, z 80, z 81, z 82, z 83, z 84, z 85, z 86, z 87, z 88, z 89, z 90, z 91, z 92, z 93, z 94, z 95, z 96, z 97], [(0, ⟨5, 0, true, [.int .i64 p0.kind, .int .i64 p0.n, .str p0.s, .sl (Val.rows p0.list), .sl (Fld.rows p0.fields)]⟩), (1, ⟨5, 0, true, [.int .i64 0, .int .i64 0, .str eB, .ms 3 5 0 0, .ms 4 6 0 0]⟩), (2, ⟨5, 0, true, [.int .i64 q0.kind, .int .i64 q0.n, .str q0.s, .sl (Val.rows q0.list), .sl (Fld.rows q0.fields)]⟩), (3, ⟨5, 0, true, []⟩), (4, ⟨6, 0, true, []⟩)], 69⟩
def Qof (p0 : Val) (p1 : Val) (e : En) (q : Val) : Prop := ∃ z zo, Q7 G e (.st (.exit 2) (Qrh p0 p1 q z zo))
theorem Q4a (p0 : Val) (p1 : Val) {e e' : En} (h : ∀ r, Q7 G e r → Q7 G e' r) : ∀ q, Qof p0 p1 e q → Qof p0 p1 e' q
  | _, ⟨z, zo, hz⟩ => ⟨z, zo, h _ hz⟩
def c_Kf (p0 : Val) (p1 : Val) : En := .call 15 [.agg (Val.cells p0), .agg (Val.cells p1)] []
def a_Kf (p0 : Val) (p1 : Val) : Rs := .ret (.agg (Val.cells (s_Kf p0 p1))) []
abbrev H_Kf (p0 : Val) (p1 : Val) : Prop := tot p0 * tot p1 ≤ 100000000
def Q6o (p1 : Val) : Prop := ∀ (q : Val), SizeOf.sizeOf q < SizeOf.sizeOf p1 → ∀ (p0 : Val), H_Kf p0 q → Q7 G (c_Kf p0 q) (a_Kf p0 q)
def Qar (p0 : Val) (p1 : Val) : Prop := (List.length p0.fields ≤ 137438953472) ∧ (∀ x0 ∈ p0.fields, Q11l p1 x0.name) ∧ (∀ (i0 : Nat) (v0_1 : Val) (x0 : Fld), p0.fields[i0]? = some x0 → tot v0_1 ≤ 1 + i0 → (Q1j p1 x0.name).2 = false → Qmo v0_1 x0.name (Qc2)) ∧ (∀ (i0 : Nat) (v0_1 : Val) (x0 : Fld), p0.fields[i0]? = some x0 → tot v0_1 ≤ 1 + i0 → (Q1j p1 x0.name).2 = true → tot v0_1 ≤ 1 + (i0 + 1)) ∧ (∀ (i0 : Nat) (v0_1 : Val) (x0 : Fld), p0.fields[i0]? = some x0 → tot v0_1 ≤ 1 + i0 → (Q1j p1 x0.name).2 = false → tot (Q2r v0_1 x0.name (Qc2)) ≤ 1 + (i0 + 1)) ∧ True
def Q65 (p0 : Val) (p1 : Val) : Prop := (List.length p1.fields ≤ 137438953472) ∧ (∀ x1 ∈ p1.fields, Q11l p0 x1.name) ∧ (∀ x1 ∈ p1.fields, (Q1j p0 x1.name).2 = true → Q18p (Q1j p0 x1.name).1 x1.v) ∧ (∀ x1 ∈ p1.fields, H_Kf (Q1j p0 x1.name).1 x1.v) ∧ (∀ (i1 : Nat) (v1_1 : Val) (x1 : Fld), p1.fields[i1]? = some x1 → tot v1_1 ≤ tot p0 + tot p0 * totF (List.take i1 p1.fields) → (Q1j p0 x1.name).2 = true → (Q5p (Q1j p0 x1.name).1 x1.v) = false → ((Q1j p0 x1.name).1.kind == 5) = true → (x1.v.kind == 5) = true → Qmo v1_1 x1.name (s_Kf (Q1j p0 x1.name).1 x1.v)) ∧ (∀ (i1 : Nat) (v1_1 : Val) (x1 : Fld), p1.fields[i1]? = some x1 → tot v1_1 ≤ tot p0 + tot p0 * totF (List.take i1 p1.fields) → (Q1j p0 x1.name).2 = true → (Q5p (Q1j p0 x1.name).1 x1.v) = false → ((Q1j p0 x1.name).1.kind == 5) = true → (x1.v.kind == 5) = false → Qmo v1_1 x1.name x1.v) ∧ (∀ (i1 : Nat) (v1_1 : Val) (x1 : Fld), p1.fields[i1]? = some x1 → tot v1_1 ≤ tot p0 + tot p0 * totF (List.take i1 p1.fields) → (Q1j p0 x1.name).2 = true → (Q5p (Q1j p0 x1.name).1 x1.v) = false → ((Q1j p0 x1.name).1.kind == 5) = false → Qmo v1_1 x1.name x1.v) ∧ (∀ (i1 : Nat) (v1_1 : Val) (x1 : Fld), p1.fields[i1]? = some x1 → tot v1_1 ≤ tot p0 + tot p0 * totF (List.take i1 p1.fields) → (Q1j p0 x1.name).2 = false → Qmo v1_1 x1.name x1.v) ∧ (∀ (i1 : Nat) (v1_1 : Val) (x1 : Fld), p1.fields[i1]? = some x1 → tot v1_1 ≤ tot p0 + tot p0 * totF (List.take i1 p1.fields) → (Q1j p0 x1.name).2 = true → (Q5p (Q1j p0 x1.name).1 x1.v) = true → tot v1_1 ≤ tot p0 + tot p0 * totF (List.take (i1 + 1) p1.fields)) ∧ (∀ (i1 : Nat) (v1_1 : Val) (x1 : Fld), p1.fields[i1]? = some x1 → tot v1_1 ≤ tot p0 + tot p0 * totF (List.take i1 p1.fields) → (Q1j p0 x1.name).2 = true → (Q5p (Q1j p0 x1.name).1 x1.v) = false → ((Q1j p0 x1.name).1.kind == 5) = true → (x1.v.kind == 5) = true → tot (Q2r v1_1 x1.name (s_Kf (Q1j p0 x1.name).1 x1.v)) ≤ tot p0 + tot p0 * totF (List.take (i1 + 1) p1.fields)) ∧ (∀ (i1 : Nat) (v1_1 : Val) (x1 : Fld), p1.fields[i1]? = some x1 → tot v1_1 ≤ tot p0 + tot p0 * totF (List.take i1 p1.fields) → (Q1j p0 x1.name).2 = true → (Q5p (Q1j p0 x1.name).1 x1.v) = false → ((Q1j p0 x1.name).1.kind == 5) = true → (x1.v.kind == 5) = false → tot (Q2r v1_1 x1.name x1.v) ≤ tot p0 + tot p0 * totF (List.take (i1 + 1) p1.fields)) ∧ (∀ (i1 : Nat) (v1_1 : Val) (x1 : Fld), p1.fields[i1]? = some x1 → tot v1_1 ≤ tot p0 + tot p0 * totF (List.take i1 p1.fields) → (Q1j p0 x1.name).2 = true → (Q5p (Q1j p0 x1.name).1 x1.v) = false → ((Q1j p0 x1.name).1.kind == 5) = false → tot (Q2r v1_1 x1.name x1.v) ≤ tot p0 + tot p0 * totF (List.take (i1 + 1) p1.fields)) ∧ (∀ (i1 : Nat) (v1_1 : Val) (x1 : Fld), p1.fields[i1]? = some x1 → tot v1_1 ≤ tot p0 + tot p0 * totF (List.take i1 p1.fields) → (Q1j p0 x1.name).2 = false → tot (Q2r v1_1 x1.name x1.v) ≤ tot p0 + tot p0 * totF (List.take (i1 + 1) p1.fields)) ∧ True
theorem Q5x (a b : Val) : ∀ (l : List Fld) (i : Nat) (o : Val), Q4x a b l i o = df0 b l o
  | [], i, o => by rw [Q4x, df0]
  | x :: l, i, o => by
    rw [Q4x, df0, Q1ax, Q10x]
    cases (atN b x.name).isSome with
    | true => exact Q5x a b l (i + 1) o
    | false => exact Q5x a b l (i + 1) _
theorem Qb2 : ∀ (b a : Val), s_Kf a b = df a b := Q165 fun b ih a => by
  have hl : ∀ (l : List Fld), (∀ f ∈ l, ∀ w, s_Kf w f.v = df w f.v) → ∀ i o, Q4d a b l i o = dfL a l o := by
    intro l
    induction l with
    | nil => intro _ i o; rw [Q4d, Qu1]
    | cons x l ihl =>
      intro hx i o
      have ih' := ihl fun f hf => hx f (List.mem_cons_of_mem _ hf)
      rw [Q4d, Qmh, Q1ax, Q16j, Q10x, Q10x, hx x List.mem_cons_self]
      cases e : atN a x.name with
      | none => exact ih' _ _
      | some y =>
        simp only [Option.isSome_some, cond_true, Option.getD_some]
        by_cases c : y = x.v
        · rw [if_pos c, (Q80 _ _).2 c, cond_true, ih']
        · rw [if_neg c, show Q5p y x.v = false by cases h : Q5p y x.v with | false => rfl | true => exact absurd ((Q80 _ _).1 h) c, cond_false, ih', ih']
          cases ky : y.kind == 5 with
          | false => rw [cond_false, Q122 (fun q => by rw [q.1] at ky; cases ky)]
          | true =>
            rw [cond_true]
            cases kx : x.v.kind == 5 with
            | false => rw [cond_false, Q122 (fun q => by rw [q.2] at kx; cases kx)]
            | true => rw [cond_true]
  rw [s_Kf, df, hl _ ih, Q5x, Q18w]
  all_goals (cases a.kind == 5 <;> first | rfl | (cases b.kind == 5 <;> rfl))
theorem Q8w (p0 : Val) (p1 : Val) (H : H_Kf p0 p1) : ((p0.kind == 5) = true → (p1.kind == 5) = true → Q13g []) ∧ ((p0.kind == 5) = true → (p1.kind == 5) = true → Qar p0 p1) ∧ ((p0.kind == 5) = true → (p1.kind == 5) = true → tot (Qdz []) ≤ 1 + 0) ∧ ((p0.kind == 5) = true → (p1.kind == 5) = true → Q65 p0 p1) ∧ ((p0.kind == 5) = true → (p1.kind == 5) = true → tot (Q4x p0 p1 p0.fields 0 (Qdz [])) ≤ tot p0 + tot p0 * totF (List.take 0 p1.fields)) ∧ ((p0.kind == 5) = true → (p1.kind == 5) = false → H_Kh p1) ∧ ((p0.kind == 5) = false → H_Kh p1) ∧ True := by
  have hA := Q63 p0
  have hB := Q63 p1
  have hA' := Nat.le_mul_of_pos_right (tot p0) hB
  have hB' := Nat.le_mul_of_pos_left (tot p1) hA
  have l0 := Qog p0
  have l1 := Qog p1
  have st : ∀ (i : Nat) (x : Fld), p1.fields[i]? = some x → tot p0 * totF (List.take (i + 1) p1.fields) = tot p0 * totF (List.take i p1.fields) + tot p0 * tot x.v ∧ tot p0 + tot p0 * totF (List.take (i + 1) p1.fields) ≤ tot p0 * tot p1 ∧ tot x.v ≤ tot p0 * tot x.v := fun i x hx => by
    obtain ⟨h1, h2⟩ := take_at hx
    have h3 : tot p0 * (1 + totF (List.take (i + 1) p1.fields)) ≤ tot p0 * tot p1 := Nat.mul_le_mul_left _ (by omega)
    rw [Nat.mul_add, Nat.mul_one] at h3
    exact ⟨by rw [h1, Nat.mul_add], h3, Nat.le_mul_of_pos_left _ hA⟩
  have sd : ∀ x : Fld, tot (s_Kf (Q1j p0 x.name).1 x.v) ≤ tot p0 * tot x.v := fun x => by
    rw [Qb2, Q16j]
    exact Nat.le_trans (Q13j _ _) (Nat.mul_le_mul_right _ (Qdl p0 x.name))
  have hw : ∀ (i : Nat) (v : Val) (x : Fld) (y : Val), p1.fields[i]? = some x → tot v ≤ tot p0 + tot p0 * totF (List.take i p1.fields) → tot y ≤ tot p0 * tot x.v → Qmo v x.name y ∧ tot (Q2r v x.name y) ≤ tot p0 + tot p0 * totF (List.take (i + 1) p1.fields) := fun i v x y hx hv hy => by
    obtain ⟨h1, h2, h3⟩ := st i x hx
    have := Q8j v x.name y
    exact ⟨Q1a5 (by omega) _ (by omega), by rw [Q10x]; omega⟩
  have b0 : Qar p0 p1 := ⟨by omega, fun x _ => tGet (by omega) _,
    fun i v x hx hv _ => Q1a5 (by have := (List.getElem?_eq_some_iff.1 hx).1; omega) _ (by first | (rw [show tot (Qc2) = 1 from Qg8]; omega) | (rw [Qg8]; omega)),
    fun i v x hx hv _ => by omega,
    fun i v x hx hv _ => by
      rw [Q10x]
      have := Q8j v x.name zV
      rw [Qg8] at this
      first | omega | (change tot (wi v x.name zV) ≤ _; omega), trivial⟩
  have b1 : Q65 p0 p1 := ⟨by omega, fun x _ => tGet (by omega) _, fun x _ _ => by rw [Q16j]; exact VEq (by have := Qdl p0 x.name; omega) _,
    fun x hx => by rw [Q16j]; exact Nat.le_trans (Nat.mul_le_mul (Qdl p0 x.name) (Q11s hx)) H,
    fun i v x hx hv _ _ _ _ => (hw i v x _ hx hv (sd x)).1, fun i v x hx hv _ _ _ _ => (hw i v x _ hx hv (st i x hx).2.2).1, fun i v x hx hv _ _ _ => (hw i v x _ hx hv (st i x hx).2.2).1, fun i v x hx hv _ => (hw i v x _ hx hv (st i x hx).2.2).1,
    fun i v x hx hv _ _ => by have := st i x hx; omega,
    fun i v x hx hv _ _ _ _ => (hw i v x _ hx hv (sd x)).2, fun i v x hx hv _ _ _ _ => (hw i v x _ hx hv (st i x hx).2.2).2, fun i v x hx hv _ _ _ => (hw i v x _ hx hv (st i x hx).2.2).2, fun i v x hx hv _ => (hw i v x _ hx hv (st i x hx).2.2).2, trivial⟩
  exact ⟨fun _ _ => Q1cn, fun _ _ => b0, fun _ _ => by rw [Q18w, Qe1]; omega, fun _ _ => b1, fun _ _ => by
    rw [Q5x, Q18w]
    have := Qgj p1 p0.fields (mp [])
    rw [Qe1] at this
    omega, fun _ _ => Q15b (by omega), fun _ => Q15b (by omega), trivial⟩
def Qq4 (p0 : Val) (_p1 : Val) (i0 : Nat) (_v0_1 : Val) : List PV :=
  [.un, .un, .un, .un, .un, .un, .un, .un, .un, .un, .un, .un, .un, .un, .un, .un, .un, .un, .un, .un, .un, .un, .un, .un, .un, .un, .sl (Fld.rows p0.fields), .int .i64 ((List.length p0.fields) : Int), .int .i64 (i0 : Int), .bool false]
def Qj0 (_p0 : Val) (_p1 : Val) (_i0 : Nat) (_v0_1 : Val) : List (Nat × List PV) :=
  []
theorem Q128 (p0 : Val) (p1 : Val) (_H : Qar p0 p1) (_rec : Q6o p1) (i0 : Nat) (v0_1 : Val) (_ho0_0 : tot v0_1 ≤ 1 + i0) (hc0 : (decide ((i0 : Int) < ((List.length p0.fields) : Int))) = false) : Qnm p0 p1 (Qb0 p0 p1 i0 v0_1) v0_1 := by
 exact ⟨(envF (Qq4 p0 p1 i0 v0_1)), (zoF (Qj0 p0 p1 i0 v0_1)), Qf VOK.nil (x := ((.exit 0), Qry p0 p1 v0_1 (envF (Qq4 p0 p1 i0 v0_1)) (zoF (Qj0 p0 p1 i0 v0_1)))) [hB 0 hc0] [] (by kernel_rfl)⟩
theorem Q142 (p0 : Val) (p1 : Val) (H : Qar p0 p1) (_rec : Q6o p1) (x0 : Fld) (i0 : Nat) (v0_1 : Val) (hx0 : p0.fields[i0]? = some x0) (hi0 : i0 < List.length p0.fields) (_ho0_0 : tot v0_1 ≤ 1 + i0) (hc0 : (decide ((i0 : Int) < ((List.length p0.fields) : Int))) = true) (h0 : (Q1j p1 x0.name).2 = true) {r : Rs} (hr : Q7 G (Qb0 p0 p1 (i0 + 1) v0_1) r) : Q7 G (Qb0 p0 p1 i0 v0_1) r := by
 have hB0 := H.1
 exact Qa VOK.nil (y := (Qnr p0 p1 (i0 + 1) v0_1, Qmd p0 p1 (i0 + 1) v0_1)) [hB 0 hc0, hP 0 (Q10 6 (Fld.rows p0.fields) i0 _ (Fld.Qg hx0) rfl), hB 9 h0, hP 5 (Qr i0 (by omega))] [aN (Qu6 p1 x0.name ((H.2.1 x0 (Qt hx0))))] (by kernel_rfl) hr
theorem Q14t (p0 : Val) (p1 : Val) (H : Qar p0 p1) (_rec : Q6o p1) (x0 : Fld) (i0 : Nat) (v0_1 : Val) (hx0 : p0.fields[i0]? = some x0) (hi0 : i0 < List.length p0.fields) (ho0_0 : tot v0_1 ≤ 1 + i0) (hc0 : (decide ((i0 : Int) < ((List.length p0.fields) : Int))) = true) (h0 : (Q1j p1 x0.name).2 = false) {r : Rs} (hr : Q7 G (Qb0 p0 p1 (i0 + 1) (Q2r v0_1 x0.name (Qc2))) r) : Q7 G (Qb0 p0 p1 i0 v0_1) r := by
 have hB0 := H.1
 exact Qa VOK.nil (y := (Qnr p0 p1 (i0 + 1) (Q2r v0_1 x0.name (Qc2)), Qmd p0 p1 (i0 + 1) (Q2r v0_1 x0.name (Qc2)))) [hB 0 hc0, hP 0 (Q10 6 (Fld.rows p0.fields) i0 _ (Fld.Qg hx0) rfl), hB 9 h0, hP 11 (Qr i0 (by omega))] [aN (Qu6 p1 x0.name ((H.2.1 x0 (Qt hx0)))), aN (Q1c5), aN (Q134 v0_1 x0.name (Qc2) ((H.2.2.1 i0 v0_1 x0 hx0 ho0_0) h0))] (by kernel_rfl) hr
theorem Qnf (p0 : Val) (p1 : Val) (H : Qar p0 p1) (rec : Q6o p1) : ∀ (r0 : List Fld) (i0 : Nat) (v0_1 : Val), List.drop i0 p0.fields = r0 → tot v0_1 ≤ 1 + i0 → Qnm p0 p1 (Qb0 p0 p1 i0 v0_1) (Q4x p0 p1 r0 i0 v0_1)
 | [], i0, v0_1, hd, ho0_0 => by
  have hc0 : (decide ((i0 : Int) < ((List.length p0.fields) : Int))) = false := by have := Q1d hd; simp; omega
  rw [Q4x]
  exact Q128 p0 p1 H rec i0 v0_1 ho0_0 hc0
 | x0 :: r0, i0, v0_1, hd, ho0_0 => by
  obtain ⟨hx0, hi0, hd'⟩ := Qz hd
  have hc0 : (decide ((i0 : Int) < ((List.length p0.fields) : Int))) = true := by simp; omega
  rw [Q4x]
  cases h0 : (Q1j p1 x0.name).2 with
  | true =>
   exact Qbh p0 p1 (fun r hr => Q142 p0 p1 H rec x0 i0 v0_1 hx0 hi0 ho0_0 hc0 h0 hr) _ (Qnf p0 p1 H rec r0 (i0 + 1) v0_1 hd' ((H.2.2.2.1 i0 v0_1 x0 hx0 ho0_0) h0))
  | false =>
   exact Qbh p0 p1 (fun r hr => Q14t p0 p1 H rec x0 i0 v0_1 hx0 hi0 ho0_0 hc0 h0 hr) _ (Qnf p0 p1 H rec r0 (i0 + 1) (Q2r v0_1 x0.name (Qc2)) hd' ((H.2.2.2.2.1 i0 v0_1 x0 hx0 ho0_0) h0))
def Qql (_p0 : Val) (p1 : Val) (i1 : Nat) (_v1_1 : Val) : List PV :=
  [.un, .un, .bx 0 0, .un, .un, .un, .un, .un, .un, .un, .un, .un, .un, .un, .un, .un, .un, .un, .un, .un, .un, .un, .un, .un, .un, .un, .un, .un, .un, .un, .un, .un, .un, .un, .un, .un, .un, .un, .un, .un, .un, .un, .un, .un, .un, .un, .un, .un, .sl (Fld.rows p1.fields), .int .i64 ((List.length p1.fields) : Int), .int .i64 (i1 : Int), .bool false]
def Qio (_p0 : Val) (_p1 : Val) (_i1 : Nat) (_v1_1 : Val) : List (Nat × List PV) :=
  []
theorem Q15a (p0 : Val) (p1 : Val) (_H : Q65 p0 p1) (_rec : Q6o p1) (i1 : Nat) (v1_1 : Val) (_ho1_0 : tot v1_1 ≤ tot p0 + tot p0 * totF (List.take i1 p1.fields)) (hc1 : (decide ((i1 : Int) < ((List.length p1.fields) : Int))) = false) : Qof p0 p1 (Q4e p0 p1 i1 v1_1) v1_1 := by
 exact ⟨(envF (Qql p0 p1 i1 v1_1)), (zoF (Qio p0 p1 i1 v1_1)), Qf VOK.nil (x := ((.exit 2), Qrh p0 p1 v1_1 (envF (Qql p0 p1 i1 v1_1)) (zoF (Qio p0 p1 i1 v1_1)))) [hB 0 hc1] [] (by kernel_rfl)⟩
theorem Q153 (p0 : Val) (p1 : Val) (H : Q65 p0 p1) (_rec : Q6o p1) (x1 : Fld) (i1 : Nat) (v1_1 : Val) (hx1 : p1.fields[i1]? = some x1) (hi1 : i1 < List.length p1.fields) (_ho1_0 : tot v1_1 ≤ tot p0 + tot p0 * totF (List.take i1 p1.fields)) (hc1 : (decide ((i1 : Int) < ((List.length p1.fields) : Int))) = true) (h0 : (Q1j p0 x1.name).2 = true) (h1 : (Q5p (Q1j p0 x1.name).1 x1.v) = true) {r : Rs} (hr : Q7 G (Q4e p0 p1 (i1 + 1) v1_1) r) : Q7 G (Q4e p0 p1 i1 v1_1) r := by
 have hB0 := H.1
 exact Qa VOK.nil (y := (Q7o p0 p1 (i1 + 1) v1_1, Q82 p0 p1 (i1 + 1) v1_1)) [hB 0 hc1, hP 0 (Q10 6 (Fld.rows p1.fields) i1 _ (Fld.Qg hx1) rfl), hB 9 h0, hP 11 (Qr i1 (by omega))] [aN (Qu6 p0 x1.name ((H.2.1 x1 (Qt hx1)))), aB (Q16m (Q1j p0 x1.name).1 x1.v ((H.2.2.1 x1 (Qt hx1)) h0)) h1] (by kernel_rfl) hr
theorem Q13b (p0 : Val) (p1 : Val) (H : Q65 p0 p1) (rec : Q6o p1) (x1 : Fld) (i1 : Nat) (v1_1 : Val) (hx1 : p1.fields[i1]? = some x1) (hi1 : i1 < List.length p1.fields) (ho1_0 : tot v1_1 ≤ tot p0 + tot p0 * totF (List.take i1 p1.fields)) (hc1 : (decide ((i1 : Int) < ((List.length p1.fields) : Int))) = true) (h0 : (Q1j p0 x1.name).2 = true) (h1 : (Q5p (Q1j p0 x1.name).1 x1.v) = false) (h2 : ((Q1j p0 x1.name).1.kind == 5) = true) (h3 : (x1.v.kind == 5) = true) {r : Rs} (hr : Q7 G (Q4e p0 p1 (i1 + 1) (Q2r v1_1 x1.name (s_Kf (Q1j p0 x1.name).1 x1.v))) r) : Q7 G (Q4e p0 p1 i1 v1_1) r := by
 have hB0 := H.1; have e2 := eq_of_beq h2; have e3 := eq_of_beq h3
 exact Qa VOK.nil (y := (Q7o p0 p1 (i1 + 1) (Q2r v1_1 x1.name (s_Kf (Q1j p0 x1.name).1 x1.v)), Q82 p0 p1 (i1 + 1) (Q2r v1_1 x1.name (s_Kf (Q1j p0 x1.name).1 x1.v)))) [hB 0 hc1, hP 0 (Q10 6 (Fld.rows p1.fields) i1 _ (Fld.Qg hx1) rfl), hB 9 h0, hB 15 h2, hB 5 h3, hP 11 (Qr i1 (by omega))] [aN (Qu6 p0 x1.name ((H.2.1 x1 (Qt hx1)))), aB (Q16m (Q1j p0 x1.name).1 x1.v ((H.2.2.1 x1 (Qt hx1)) h0)) h1, aN (rec x1.v (szF hx1) (Q1j p0 x1.name).1 (H.2.2.2.1 x1 (Qt hx1))), aN (Q134 v1_1 x1.name (s_Kf (Q1j p0 x1.name).1 x1.v) ((H.2.2.2.2.1 i1 v1_1 x1 hx1 ho1_0) h0 h1 h2 h3))] (by kernel_rfl) hr
theorem Q132 (p0 : Val) (p1 : Val) (H : Q65 p0 p1) (_rec : Q6o p1) (x1 : Fld) (i1 : Nat) (v1_1 : Val) (hx1 : p1.fields[i1]? = some x1) (hi1 : i1 < List.length p1.fields) (ho1_0 : tot v1_1 ≤ tot p0 + tot p0 * totF (List.take i1 p1.fields)) (hc1 : (decide ((i1 : Int) < ((List.length p1.fields) : Int))) = true) (h0 : (Q1j p0 x1.name).2 = true) (h1 : (Q5p (Q1j p0 x1.name).1 x1.v) = false) (h2 : ((Q1j p0 x1.name).1.kind == 5) = true) (h3 : (x1.v.kind == 5) = false) {r : Rs} (hr : Q7 G (Q4e p0 p1 (i1 + 1) (Q2r v1_1 x1.name x1.v)) r) : Q7 G (Q4e p0 p1 i1 v1_1) r := by
 have hB0 := H.1; have e2 := eq_of_beq h2; have e3 := beq_eq_false_iff_ne.1 h3
 exact Qa VOK.nil (y := (Q7o p0 p1 (i1 + 1) (Q2r v1_1 x1.name x1.v), Q82 p0 p1 (i1 + 1) (Q2r v1_1 x1.name x1.v))) [hB 0 hc1, hP 0 (Q10 6 (Fld.rows p1.fields) i1 _ (Fld.Qg hx1) rfl), hB 9 h0, hB 15 h2, hB 5 h3, hP 9 (Qr i1 (by omega))] [aN (Qu6 p0 x1.name ((H.2.1 x1 (Qt hx1)))), aB (Q16m (Q1j p0 x1.name).1 x1.v ((H.2.2.1 x1 (Qt hx1)) h0)) h1, aN (Q134 v1_1 x1.name x1.v ((H.2.2.2.2.2.1 i1 v1_1 x1 hx1 ho1_0) h0 h1 h2 h3))] (by kernel_rfl) hr
theorem Q140 (p0 : Val) (p1 : Val) (H : Q65 p0 p1) (_rec : Q6o p1) (x1 : Fld) (i1 : Nat) (v1_1 : Val) (hx1 : p1.fields[i1]? = some x1) (hi1 : i1 < List.length p1.fields) (ho1_0 : tot v1_1 ≤ tot p0 + tot p0 * totF (List.take i1 p1.fields)) (hc1 : (decide ((i1 : Int) < ((List.length p1.fields) : Int))) = true) (h0 : (Q1j p0 x1.name).2 = true) (h1 : (Q5p (Q1j p0 x1.name).1 x1.v) = false) (h2 : ((Q1j p0 x1.name).1.kind == 5) = false) {r : Rs} (hr : Q7 G (Q4e p0 p1 (i1 + 1) (Q2r v1_1 x1.name x1.v)) r) : Q7 G (Q4e p0 p1 i1 v1_1) r := by
 have hB0 := H.1; have e2 := beq_eq_false_iff_ne.1 h2
 exact Qa VOK.nil (y := (Q7o p0 p1 (i1 + 1) (Q2r v1_1 x1.name x1.v), Q82 p0 p1 (i1 + 1) (Q2r v1_1 x1.name x1.v))) [hB 0 hc1, hP 0 (Q10 6 (Fld.rows p1.fields) i1 _ (Fld.Qg hx1) rfl), hB 9 h0, hB 15 h2, hP 15 (Qr i1 (by omega))] [aN (Qu6 p0 x1.name ((H.2.1 x1 (Qt hx1)))), aB (Q16m (Q1j p0 x1.name).1 x1.v ((H.2.2.1 x1 (Qt hx1)) h0)) h1, aN (Q134 v1_1 x1.name x1.v ((H.2.2.2.2.2.2.1 i1 v1_1 x1 hx1 ho1_0) h0 h1 h2))] (by kernel_rfl) hr
theorem Q10l (p0 : Val) (p1 : Val) (H : Q65 p0 p1) (_rec : Q6o p1) (x1 : Fld) (i1 : Nat) (v1_1 : Val) (hx1 : p1.fields[i1]? = some x1) (hi1 : i1 < List.length p1.fields) (ho1_0 : tot v1_1 ≤ tot p0 + tot p0 * totF (List.take i1 p1.fields)) (hc1 : (decide ((i1 : Int) < ((List.length p1.fields) : Int))) = true) (h0 : (Q1j p0 x1.name).2 = false) {r : Rs} (hr : Q7 G (Q4e p0 p1 (i1 + 1) (Q2r v1_1 x1.name x1.v)) r) : Q7 G (Q4e p0 p1 i1 v1_1) r := by
 have hB0 := H.1
 exact Qa VOK.nil (y := (Q7o p0 p1 (i1 + 1) (Q2r v1_1 x1.name x1.v), Q82 p0 p1 (i1 + 1) (Q2r v1_1 x1.name x1.v))) [hB 0 hc1, hP 0 (Q10 6 (Fld.rows p1.fields) i1 _ (Fld.Qg hx1) rfl), hB 9 h0, hP 31 (Qr i1 (by omega))] [aN (Qu6 p0 x1.name ((H.2.1 x1 (Qt hx1)))), aN (Q134 v1_1 x1.name x1.v ((H.2.2.2.2.2.2.2.1 i1 v1_1 x1 hx1 ho1_0) h0))] (by kernel_rfl) hr
theorem Q86 (p0 : Val) (p1 : Val) (H : Q65 p0 p1) (rec : Q6o p1) : ∀ (r1 : List Fld) (i1 : Nat) (v1_1 : Val), List.drop i1 p1.fields = r1 → tot v1_1 ≤ tot p0 + tot p0 * totF (List.take i1 p1.fields) → Qof p0 p1 (Q4e p0 p1 i1 v1_1) (Q4d p0 p1 r1 i1 v1_1)
 | [], i1, v1_1, hd, ho1_0 => by
  have hc1 : (decide ((i1 : Int) < ((List.length p1.fields) : Int))) = false := by have := Q1d hd; simp; omega
  rw [Q4d]
  exact Q15a p0 p1 H rec i1 v1_1 ho1_0 hc1
 | x1 :: r1, i1, v1_1, hd, ho1_0 => by
  obtain ⟨hx1, hi1, hd'⟩ := Qz hd
  have hc1 : (decide ((i1 : Int) < ((List.length p1.fields) : Int))) = true := by simp; omega
  rw [Q4d]
  cases h0 : (Q1j p0 x1.name).2 with
  | true =>
   cases h1 : (Q5p (Q1j p0 x1.name).1 x1.v) with
   | true =>
    exact Q4a p0 p1 (fun r hr => Q153 p0 p1 H rec x1 i1 v1_1 hx1 hi1 ho1_0 hc1 h0 h1 hr) _ (Q86 p0 p1 H rec r1 (i1 + 1) v1_1 hd' ((H.2.2.2.2.2.2.2.2.1 i1 v1_1 x1 hx1 ho1_0) h0 h1))
   | false =>
    cases h2 : ((Q1j p0 x1.name).1.kind == 5) with
    | true =>
     cases h3 : (x1.v.kind == 5) with
     | true =>
      exact Q4a p0 p1 (fun r hr => Q13b p0 p1 H rec x1 i1 v1_1 hx1 hi1 ho1_0 hc1 h0 h1 h2 h3 hr) _ (Q86 p0 p1 H rec r1 (i1 + 1) (Q2r v1_1 x1.name (s_Kf (Q1j p0 x1.name).1 x1.v)) hd' ((H.2.2.2.2.2.2.2.2.2.1 i1 v1_1 x1 hx1 ho1_0) h0 h1 h2 h3))
     | false =>
      exact Q4a p0 p1 (fun r hr => Q132 p0 p1 H rec x1 i1 v1_1 hx1 hi1 ho1_0 hc1 h0 h1 h2 h3 hr) _ (Q86 p0 p1 H rec r1 (i1 + 1) (Q2r v1_1 x1.name x1.v) hd' ((H.2.2.2.2.2.2.2.2.2.2.1 i1 v1_1 x1 hx1 ho1_0) h0 h1 h2 h3))
    | false =>
     exact Q4a p0 p1 (fun r hr => Q140 p0 p1 H rec x1 i1 v1_1 hx1 hi1 ho1_0 hc1 h0 h1 h2 hr) _ (Q86 p0 p1 H rec r1 (i1 + 1) (Q2r v1_1 x1.name x1.v) hd' ((H.2.2.2.2.2.2.2.2.2.2.2.1 i1 v1_1 x1 hx1 ho1_0) h0 h1 h2))
  | false =>
   exact Q4a p0 p1 (fun r hr => Q10l p0 p1 H rec x1 i1 v1_1 hx1 hi1 ho1_0 hc1 h0 hr) _ (Q86 p0 p1 H rec r1 (i1 + 1) (Q2r v1_1 x1.name x1.v) hd' ((H.2.2.2.2.2.2.2.2.2.2.2.2.1 i1 v1_1 x1 hx1 ho1_0) h0))
theorem r_Kf (p0 : Val) (p1 : Val) (H : H_Kf p0 p1) (rec : Q6o p1) : Q7 G (c_Kf p0 p1) (a_Kf p0 p1) := by
  unfold a_Kf
  rw [s_Kf]
  cases h0 : (p0.kind == 5) with
  | true =>
   cases h1 : (p1.kind == 5) with
   | true =>
    have hl2 := Qnf p0 p1 ((Q8w p0 p1 H).2.1 h0 h1) rec p0.fields 0 (Qdz []) (by simp) ((Q8w p0 p1 H).2.2.1 h0 h1)
    obtain ⟨z2, zo2, hl2⟩ := hl2
    have hl3 := Q86 p0 p1 ((Q8w p0 p1 H).2.2.2.1 h0 h1) rec p1.fields 0 (Q4x p0 p1 p0.fields 0 (Qdz [])) (by simp) ((Q8w p0 p1 H).2.2.2.2.1 h0 h1)
    obtain ⟨z3, zo3, hl3⟩ := hl3
    exact Q9 (fn := Ir.Kf) rfl VOK.nil [hP 5 (dec (!(p0.kind == 5)) false (by rw [h0]; rfl)), hP 3 (dec (!(p1.kind == 5)) false (by rw [h1]; rfl)), hP 6 (Qe (Fld.rows p0.fields) (List.length p0.fields) (Fld.Q8 p0.fields)), hP 3 (Qe (Fld.rows p1.fields) (List.length p1.fields) (Fld.Q8 p1.fields))] [aN (Q1b5 [] ((Q8w p0 p1 H).1 h0 h1)), aN hl2, aN hl3] (by kernel_rfl)
   | false =>
    exact Q9 (fn := Ir.Kf) rfl VOK.nil [hP 5 (dec (!(p0.kind == 5)) false (by rw [h0]; rfl)), hP 3 (dec (!(p1.kind == 5)) true (by rw [h1]; rfl))] [aN (t_Kh p1 ((Q8w p0 p1 H).2.2.2.2.2.1 h0 h1))] (by kernel_rfl)
  | false =>
   exact Q9 (fn := Ir.Kf) rfl VOK.nil [hP 5 (dec (!(p0.kind == 5)) true (by rw [h0]; rfl))] [aN (t_Kh p1 ((Q8w p0 p1 H).2.2.2.2.2.2.1 h0))] (by kernel_rfl)
theorem i_Kf : ∀ (k : Nat) (p1 : Val), SizeOf.sizeOf p1 < k → ∀ (p0 : Val), H_Kf p0 p1 → Q7 G (c_Kf p0 p1) (a_Kf p0 p1)
  | 0, _, h, _, _ => absurd h (Nat.not_lt_zero _)
  | k + 1, p1, h, p0, H => r_Kf p0 p1 H (fun q hq p0 hH => i_Kf k q (by omega) p0 hH)
theorem t_Kf (p0 : Val) (p1 : Val) (H : H_Kf p0 p1) : Q7 G (c_Kf p0 p1) (a_Kf p0 p1) := i_Kf _ p1 (Nat.lt_succ_self _) p0 H
mutual
def Q6q (p0 : Val) (p1 : Val) : Val :=
 bif (p0.kind == 5) then
  bif (p1.kind == 5) then
   (Q44 p0 p1 p1.fields 0 (Q3l p0 p1 p0.fields 0 (Val.mk 5 0 eB [] [])))
  else
   p1
 else
  p1
termination_by SizeOf.sizeOf p1
decreasing_by all_goals first | exact Val.Q4f _ | exact Val.Q2e _
def Q3l (p0 : Val) (p1 : Val) : List Fld → Nat → Val → Val
 | [], _i0, v0_1 =>
  v0_1
 | x0 :: r0, i0, v0_1 =>
  bif (s_Kl p1 x0.name).2 then
   Q3l p0 p1 r0 (i0 + 1) v0_1
  else
   Q3l p0 p1 r0 (i0 + 1) (s_Kr v0_1 x0.name (Val.mk 0 0 eB [] []))
termination_by l => SizeOf.sizeOf l
decreasing_by all_goals first | exact Q2j _ _ | exact Q2d _ _ | exact Q1z _ _
def Q44 (p0 : Val) (p1 : Val) : List Fld → Nat → Val → Val
 | [], _i1, v1_1 =>
  v1_1
 | x1 :: r1, i1, v1_1 =>
  bif (s_Kl p0 x1.name).2 then
   bif (s_Kk (s_Kl p0 x1.name).1 x1.v) then
    Q44 p0 p1 r1 (i1 + 1) v1_1
   else
    Q44 p0 p1 r1 (i1 + 1) (s_Kr v1_1 x1.name (Q6q (s_Kl p0 x1.name).1 x1.v))
  else
   Q44 p0 p1 r1 (i1 + 1) (s_Kr v1_1 x1.name x1.v)
termination_by l => SizeOf.sizeOf l
decreasing_by all_goals first | exact Q2j _ _ | exact Q2d _ _ | exact Q1z _ _
end
def Qfr (_p0 : Val) (_p1 : Val) (i0 : Nat) (_v0_1 : Val) : List PV :=
  [.un, .un, .bx 0 0, .bx 1 0, .bx 2 0, .bx 3 0, .int .i64 (i0 : Int), .un, .un, .un, .un, .un, .un, .un, .un, .un, .un, .un, .un, .un, .un, .un, .un, .un, .un, .un, .un, .un, .un, .un, .un, .un, .un, .un, .un, .un, .un, .un, .un, .un, .un, .un, .un, .un, .un, .un, .un, .un, .un, .un, .un, .un, .un, .un, .un, .un, .un, .un, .un, .un, .un, .un, .un, .un, .un, .un, .un, .un, .un, .un, .un, .un, .un, .un, .un, .un, .un, .un, .un, .un, .un, .un, .un, .un, .un, .un, .un, .un, .un, .un, .un, .un, .un]
def Qdf (p0 : Val) (p1 : Val) (_i0 : Nat) (v0_1 : Val) : List Ob :=
  [⟨5, 0, true, [.int .i64 p0.kind, .int .i64 p0.n, .str p0.s, .sl (Val.rows p0.list), .sl (Fld.rows p0.fields)]⟩, ⟨5, 0, true, [.int .i64 p1.kind, .int .i64 p1.n, .str p1.s, .sl (Val.rows p1.list), .sl (Fld.rows p1.fields)]⟩, ⟨5, 0, true, [.int .i64 0, .int .i64 0, .str eB, .sl [], .sl []]⟩, ⟨5, 0, true, [.int .i64 v0_1.kind, .int .i64 v0_1.n, .str v0_1.s, .sl (Val.rows v0_1.list), .sl (Fld.rows v0_1.fields)]⟩]
def Q7q (p0 : Val) (p1 : Val) (i0 : Nat) (v0_1 : Val) : En := .loop 0 Ir.Qfh Ir.Q176 (Qfr p0 p1 i0 v0_1) (Qdf p0 p1 i0 v0_1)
def Qiv (p0 : Val) (p1 : Val) (q0 : Val) (z : Nat → PV) (_zo : Nat → List PV) : St :=
  ⟨[z 0, z 1, .bx 0 0, .bx 1 0, .bx 2 0, .bx 3 0, z 6, z 7, z 8, z 9, z 10, z 11, z 12, z 13, z 14, z 15, z 16, z 17, z 18, z 19, z 20, z 21, z 22, z 23, z 24, z 25, z 26, z 27, z 28, z 29, z 30, z 31, z 32, z 33, z 34, z 35, z 36, z 37, z 38, z 39, z 40, z 41, z 42, z 43, z 44, z 45, z 46, z 47, z 48, z 49, z 50, z 51, z 52, z 53, z 54, z 55, z 56, z 57, z 58, z 59, z 60, z 61, z 62, z 63, z 64, z 65, z 66, z 67, z 68, z 69, z 70, z 71, z 72, z 73, z 74, z 75, z 76, z 77, z 78, z 79, z 80, z 81, z 82, z 83, z 84, z 85, z 86, z 87, z 88, z 89, z 90, z 91, z 92], [(0, ⟨5, 0, true, [.int .i64 p0.kind, .int .i64 p0.n, .str p0.s, .sl (Val.rows p0.list), .sl (Fld.rows p0.fields)]⟩), (1, ⟨5, 0, true, [.int .i64 p1.kind, .int .i64 p1.n, .str p1.s, .sl (Val.rows p1.list), .sl (Fld.rows p1.fields)]⟩), (2, ⟨5, 0, true, [.int .i64 0, .int .i64 0, .str eB, .sl [], .sl []]⟩), (3, ⟨5, 0, true, [.int .i64 q0.kind, .int .i64 q0.n, .str q0.s, .sl (Val.rows q0.list), .sl (Fld.rows q0.fields)]⟩)], 324⟩
def Qcj (p0 : Val) (p1 : Val) (e : En) (q : Val) : Prop := ∃ z zo, Q7 G e (.st (.exit 0) (Qiv p0 p1 q z zo))
theorem Qa7 (p0 : Val) (p1 : Val) {e e' : En} (h : ∀ r, Q7 G e r → Q7 G e' r) : ∀ q, Qcj p0 p1 e q → Qcj p0 p1 e' q
  | _, ⟨z, zo, hz⟩ => ⟨z, zo, h _ hz⟩
def Qa3 (_p0 : Val) (_p1 : Val) (i1 : Nat) (_v1_1 : Val) : List PV :=
  [.un, .un, .bx 0 0, .bx 1 0, .bx 2 0, .bx 3 0, .un, .un, .un, .int .i64 (i1 : Int), .un, .un, .un, .un, .un, .un, .un, .un, .un, .un, .un, .un, .un, .un, .un, .un, .un, .un, .un, .un, .un, .un, .un, .un, .un, .un, .un, .un, .un, .un, .un, .un, .un, .un, .un, .un, .un, .un, .un, .un, .un, .un, .un, .un, .un, .un, .un, .un, .un, .un, .un, .un, .un, .un, .un, .un, .un, .un, .un, .un, .un, .un, .un, .un, .un, .un, .un, .un, .un, .un, .un, .un, .un, .un, .un, .un, .un, .un, .un, .un, .un, .un, .un]
def Q9m (p0 : Val) (p1 : Val) (_i1 : Nat) (v1_1 : Val) : List Ob :=
  [⟨5, 0, true, [.int .i64 p0.kind, .int .i64 p0.n, .str p0.s, .sl (Val.rows p0.list), .sl (Fld.rows p0.fields)]⟩, ⟨5, 0, true, [.int .i64 p1.kind, .int .i64 p1.n, .str p1.s, .sl (Val.rows p1.list), .sl (Fld.rows p1.fields)]⟩, ⟨5, 0, true, [.int .i64 0, .int .i64 0, .str eB, .sl [], .sl []]⟩, ⟨5, 0, true, [.int .i64 v1_1.kind, .int .i64 v1_1.n, .str v1_1.s, .sl (Val.rows v1_1.list), .sl (Fld.rows v1_1.fields)]⟩]
def Q50 (p0 : Val) (p1 : Val) (i1 : Nat) (v1_1 : Val) : En := .loop 0 Ir.Qe9 Ir.Q17x (Qa3 p0 p1 i1 v1_1) (Q9m p0 p1 i1 v1_1)
def Qhx (p0 : Val) (p1 : Val) (q0 : Val) (z : Nat → PV) (_zo : Nat → List PV) : St :=
  ⟨[z 0, z 1, z 2, z 3, .bx 2 0, .bx 3 0, z 6, z 7, z 8, z 9, z 10, z 11, z 12, z 13, z 14, z 15, z 16, z 17, z 18, z 19, z 20, z 21, z 22, z 23, z 24, z 25, z 26, z 27, z 28, z 29, z 30, z 31, z 32, z 33, z 34, z 35, z 36, z 37, z 38, z 39, z 40, z 41, z 42, z 43, z 44, z 45, z 46, z 47, z 48, z 49, z 50, z 51, z 52, z 53, z 54, z 55, z 56, z 57, z 58, z 59, z 60, z 61, z 62, z 63, z 64, z 65, z 66, z 67, z 68, z 69, z 70, z 71, z 72, z 73, z 74, z 75, z 76, z 77, z 78, z 79, z 80, z 81, z 82, z 83, z 84, z 85, z 86, z 87, z 88, z 89, z 90, z 91, z 92], [(0, ⟨5, 0, true, [.int .i64 p0.kind, .int .i64 p0.n, .str p0.s, .sl (Val.rows p0.list), .sl (Fld.rows p0.fields)]⟩), (1, ⟨5, 0, true, [.int .i64 p1.kind, .int .i64 p1.n, .str p1.s, .sl (Val.rows p1.list), .sl (Fld.rows p1.fields)]⟩), (2, ⟨5, 0, true, [.int .i64 0, .int .i64 0, .str eB, .sl [], .sl []]⟩), (3, ⟨5, 0, true, [.int .i64 q0.kind, .int .i64 q0.n, .str q0.s, .sl (Val.rows q0.list), .sl (Fld.rows q0.fields)]⟩)], 324⟩
def Qcc (p0 : Val) (p1 : Val) (e : En) (q : Val) : Prop := ∃ z zo, Q7 G e (.st (.exit 2) (Qhx p0 p1 q z zo))
theorem Q64 (p0 : Val) (p1 : Val) {e e' : En} (h : ∀ r, Q7 G e r → Q7 G e' r) : ∀ q, Qcc p0 p1 e q → Qcc p0 p1 e' q
  | _, ⟨z, zo, hz⟩ => ⟨z, zo, h _ hz⟩
def Q168 (p0 : Val) (p1 : Val) : En := .call 16 [.agg (Val.cells p0), .agg (Val.cells p1)] []
def Q11m (p0 : Val) (p1 : Val) : Rs := .ret (.agg (Val.cells (Q6q p0 p1))) []
abbrev Qs5 (p0 : Val) (p1 : Val) : Prop := tot p0 * tot p1 ≤ 100000000
def Q5c (p1 : Val) : Prop := ∀ (q : Val), SizeOf.sizeOf q < SizeOf.sizeOf p1 → ∀ (p0 : Val), Qs5 p0 q → Q7 G (Q168 p0 q) (Q11m p0 q)
def Q81 (p0 : Val) (p1 : Val) : Prop := (List.length p0.fields ≤ 137438953472) ∧ (∀ x0 ∈ p0.fields, H_Kl p1 x0.name) ∧ (∀ (i0 : Nat) (v0_1 : Val) (x0 : Fld), p0.fields[i0]? = some x0 → tot v0_1 ≤ 1 + i0 → (s_Kl p1 x0.name).2 = false → H_Kr v0_1 x0.name (Val.mk 0 0 eB [] [])) ∧ (∀ (i0 : Nat) (v0_1 : Val) (x0 : Fld), p0.fields[i0]? = some x0 → tot v0_1 ≤ 1 + i0 → (s_Kl p1 x0.name).2 = true → tot v0_1 ≤ 1 + (i0 + 1)) ∧ (∀ (i0 : Nat) (v0_1 : Val) (x0 : Fld), p0.fields[i0]? = some x0 → tot v0_1 ≤ 1 + i0 → (s_Kl p1 x0.name).2 = false → tot (s_Kr v0_1 x0.name (Val.mk 0 0 eB [] [])) ≤ 1 + (i0 + 1)) ∧ True
def Q67 (p0 : Val) (p1 : Val) : Prop := (List.length p1.fields ≤ 137438953472) ∧ (∀ x1 ∈ p1.fields, H_Kl p0 x1.name) ∧ (∀ x1 ∈ p1.fields, (s_Kl p0 x1.name).2 = true → H_Kk (s_Kl p0 x1.name).1 x1.v) ∧ (∀ x1 ∈ p1.fields, Qs5 (s_Kl p0 x1.name).1 x1.v) ∧ (∀ (i1 : Nat) (v1_1 : Val) (x1 : Fld), p1.fields[i1]? = some x1 → tot v1_1 ≤ tot p0 + tot p0 * totF (List.take i1 p1.fields) → (s_Kl p0 x1.name).2 = true → (s_Kk (s_Kl p0 x1.name).1 x1.v) = false → H_Kr v1_1 x1.name (Q6q (s_Kl p0 x1.name).1 x1.v)) ∧ (∀ (i1 : Nat) (v1_1 : Val) (x1 : Fld), p1.fields[i1]? = some x1 → tot v1_1 ≤ tot p0 + tot p0 * totF (List.take i1 p1.fields) → (s_Kl p0 x1.name).2 = false → H_Kr v1_1 x1.name x1.v) ∧ (∀ (i1 : Nat) (v1_1 : Val) (x1 : Fld), p1.fields[i1]? = some x1 → tot v1_1 ≤ tot p0 + tot p0 * totF (List.take i1 p1.fields) → (s_Kl p0 x1.name).2 = true → (s_Kk (s_Kl p0 x1.name).1 x1.v) = true → tot v1_1 ≤ tot p0 + tot p0 * totF (List.take (i1 + 1) p1.fields)) ∧ (∀ (i1 : Nat) (v1_1 : Val) (x1 : Fld), p1.fields[i1]? = some x1 → tot v1_1 ≤ tot p0 + tot p0 * totF (List.take i1 p1.fields) → (s_Kl p0 x1.name).2 = true → (s_Kk (s_Kl p0 x1.name).1 x1.v) = false → tot (s_Kr v1_1 x1.name (Q6q (s_Kl p0 x1.name).1 x1.v)) ≤ tot p0 + tot p0 * totF (List.take (i1 + 1) p1.fields)) ∧ (∀ (i1 : Nat) (v1_1 : Val) (x1 : Fld), p1.fields[i1]? = some x1 → tot v1_1 ≤ tot p0 + tot p0 * totF (List.take i1 p1.fields) → (s_Kl p0 x1.name).2 = false → tot (s_Kr v1_1 x1.name x1.v) ≤ tot p0 + tot p0 * totF (List.take (i1 + 1) p1.fields)) ∧ True
theorem Q6j (a b : Val) : ∀ (l : List Fld) (i : Nat) (o : Val), Q3l a b l i o = df0 b l o
  | [], i, o => by rw [Q3l, df0]
  | x :: l, i, o => by
    rw [Q3l, df0, Q19y, Q13w]
    cases (atN b x.name).isSome with
    | true => exact Q6j a b l (i + 1) o
    | false => exact Q6j a b l (i + 1) _
theorem Qhy : ∀ (b a : Val), Q6q a b = df a b := Q165 fun b ih a => by
  have hl : ∀ (l : List Fld), (∀ f ∈ l, ∀ w, Q6q w f.v = df w f.v) → ∀ i o, Q44 a b l i o = dfL a l o := by
    intro l
    induction l with
    | nil => intro _ i o; rw [Q44, Qu1]
    | cons x l ihl =>
      intro hx i o
      have ih' := ihl fun f hf => hx f (List.mem_cons_of_mem _ hf)
      rw [Q44, Qmh, Q19y, Q16f, Q13w, Q13w, hx x List.mem_cons_self]
      cases e : atN a x.name with
      | none => exact ih' _ _
      | some y =>
        simp only [Option.isSome_some, cond_true, Option.getD_some]
        by_cases c : y = x.v
        · rw [if_pos c, (by rw [Qot]; exact Q80 _ _ : s_Kk y x.v = true ↔ y = x.v).2 c, cond_true, ih']
        · rw [if_neg c, show s_Kk y x.v = false by cases h : s_Kk y x.v with | false => rfl | true => exact absurd ((by rw [Qot]; exact Q80 _ _ : s_Kk y x.v = true ↔ y = x.v).1 h) c, cond_false, ih']
  rw [Q6q, df, hl _ ih, Q6j, mp0]
  all_goals (cases a.kind == 5 <;> first | rfl | (cases b.kind == 5 <;> rfl))
theorem Qck (p0 : Val) (p1 : Val) (H : Qs5 p0 p1) : ((p0.kind == 5) = true → (p1.kind == 5) = true → Q81 p0 p1) ∧ ((p0.kind == 5) = true → (p1.kind == 5) = true → tot (Val.mk 5 0 eB [] []) ≤ 1 + 0) ∧ ((p0.kind == 5) = true → (p1.kind == 5) = true → Q67 p0 p1) ∧ ((p0.kind == 5) = true → (p1.kind == 5) = true → tot (Q3l p0 p1 p0.fields 0 (Val.mk 5 0 eB [] [])) ≤ tot p0 + tot p0 * totF (List.take 0 p1.fields)) ∧ True := by
  have hA := Q63 p0
  have hB := Q63 p1
  have hA' := Nat.le_mul_of_pos_right (tot p0) hB
  have hB' := Nat.le_mul_of_pos_left (tot p1) hA
  have l0 := Qog p0
  have l1 := Qog p1
  have st : ∀ (i : Nat) (x : Fld), p1.fields[i]? = some x → tot p0 * totF (List.take (i + 1) p1.fields) = tot p0 * totF (List.take i p1.fields) + tot p0 * tot x.v ∧ tot p0 + tot p0 * totF (List.take (i + 1) p1.fields) ≤ tot p0 * tot p1 ∧ tot x.v ≤ tot p0 * tot x.v := fun i x hx => by
    obtain ⟨h1, h2⟩ := take_at hx
    have h3 : tot p0 * (1 + totF (List.take (i + 1) p1.fields)) ≤ tot p0 * tot p1 := Nat.mul_le_mul_left _ (by omega)
    rw [Nat.mul_add, Nat.mul_one] at h3
    exact ⟨by rw [h1, Nat.mul_add], h3, Nat.le_mul_of_pos_left _ hA⟩
  have sd : ∀ x : Fld, tot (Q6q (s_Kl p0 x.name).1 x.v) ≤ tot p0 * tot x.v := fun x => by
    rw [Qhy, Q16f]
    exact Nat.le_trans (Q13j _ _) (Nat.mul_le_mul_right _ (Qdl p0 x.name))
  have hw : ∀ (i : Nat) (v : Val) (x : Fld) (y : Val), p1.fields[i]? = some x → tot v ≤ tot p0 + tot p0 * totF (List.take i p1.fields) → tot y ≤ tot p0 * tot x.v → H_Kr v x.name y ∧ tot (s_Kr v x.name y) ≤ tot p0 + tot p0 * totF (List.take (i + 1) p1.fields) := fun i v x y hx hv hy => by
    obtain ⟨h1, h2, h3⟩ := st i x hx
    have := Q8j v x.name y
    exact ⟨Q17t (by omega) _ (by omega), by rw [Q13w]; omega⟩
  have b0 : Q81 p0 p1 := ⟨by omega, fun x _ => Q1aj (by omega) _,
    fun i v x hx hv _ => Q17t (by have := (List.getElem?_eq_some_iff.1 hx).1; omega) _ (by first | (rw [show tot (Qc2) = 1 from Qg8]; omega) | (rw [Qg8]; omega)),
    fun i v x hx hv _ => by omega,
    fun i v x hx hv _ => by
      rw [Q13w]
      have := Q8j v x.name zV
      rw [Qg8] at this
      first | omega | (change tot (wi v x.name zV) ≤ _; omega), trivial⟩
  have b1 : Q67 p0 p1 := ⟨by omega, fun x _ => Q1aj (by omega) _, fun x _ _ => by rw [Q16f]; exact REq (by have := Qdl p0 x.name; omega) _,
    fun x hx => by rw [Q16f]; exact Nat.le_trans (Nat.mul_le_mul (Qdl p0 x.name) (Q11s hx)) H,
    fun i v x hx hv _ _ => (hw i v x _ hx hv (sd x)).1, fun i v x hx hv _ => (hw i v x _ hx hv (st i x hx).2.2).1,
    fun i v x hx hv _ _ => by have := st i x hx; omega,
    fun i v x hx hv _ _ => (hw i v x _ hx hv (sd x)).2, fun i v x hx hv _ => (hw i v x _ hx hv (st i x hx).2.2).2, trivial⟩
  exact ⟨fun _ _ => b0, fun _ _ => by have := Qe1; rw [mp0] at this; rw [this]; omega, fun _ _ => b1, fun _ _ => by
    rw [Q6j, ← mp0]
    have := Qgj p1 p0.fields (mp [])
    rw [Qe1] at this
    omega, trivial⟩
def Qke (p0 : Val) (_p1 : Val) (i0 : Nat) (_v0_1 : Val) : List PV :=
  [.un, .un, .un, .un, .un, .un, .int .i64 (i0 : Int), .un, .un, .un, .un, .un, .un, .un, .un, .un, .un, .un, .un, .un, .un, .un, .un, .int .i64 (i0 : Int), .bx 0 4, .sl (Fld.rows p0.fields), .int .i64 ((List.length p0.fields) : Int), .bool false]
def Qga (_p0 : Val) (_p1 : Val) (_i0 : Nat) (_v0_1 : Val) : List (Nat × List PV) :=
  []
theorem Qzw (p0 : Val) (p1 : Val) (_H : Q81 p0 p1) (_rec : Q5c p1) (i0 : Nat) (v0_1 : Val) (_ho0_0 : tot v0_1 ≤ 1 + i0) (hc0 : (decide ((i0 : Int) < ((List.length p0.fields) : Int))) = false) : Qcj p0 p1 (Q7q p0 p1 i0 v0_1) v0_1 := by
 exact ⟨(envF (Qke p0 p1 i0 v0_1)), (zoF (Qga p0 p1 i0 v0_1)), Qf VOK.nil (x := ((.exit 0), Qiv p0 p1 v0_1 (envF (Qke p0 p1 i0 v0_1)) (zoF (Qga p0 p1 i0 v0_1)))) [hP 3 (Qe (Fld.rows p0.fields) (List.length p0.fields) (Fld.Q8 p0.fields)), hB 0 hc0] [] (by kernel_rfl)⟩
theorem Q100 (p0 : Val) (p1 : Val) (H : Q81 p0 p1) (_rec : Q5c p1) (x0 : Fld) (i0 : Nat) (v0_1 : Val) (hx0 : p0.fields[i0]? = some x0) (hi0 : i0 < List.length p0.fields) (_ho0_0 : tot v0_1 ≤ 1 + i0) (hc0 : (decide ((i0 : Int) < ((List.length p0.fields) : Int))) = true) (h0 : (s_Kl p1 x0.name).2 = true) {r : Rs} (hr : Q7 G (Q7q p0 p1 (i0 + 1) v0_1) r) : Q7 G (Q7q p0 p1 i0 v0_1) r := by
 have hB0 := H.1
 exact Qa VOK.nil (y := (Qfr p0 p1 (i0 + 1) v0_1, Qdf p0 p1 (i0 + 1) v0_1)) [hP 3 (Qe (Fld.rows p0.fields) (List.length p0.fields) (Fld.Q8 p0.fields)), hB 0 hc0, hP 4 (Q10 6 (Fld.rows p0.fields) i0 _ (Fld.Qg hx0) rfl), hB 5 h0, hP 6 (Qr i0 (by omega))] [aN (t_Kl p1 x0.name ((H.2.1 x0 (Qt hx0))))] (by kernel_rfl) hr
theorem Qzd (p0 : Val) (p1 : Val) (H : Q81 p0 p1) (_rec : Q5c p1) (x0 : Fld) (i0 : Nat) (v0_1 : Val) (hx0 : p0.fields[i0]? = some x0) (hi0 : i0 < List.length p0.fields) (ho0_0 : tot v0_1 ≤ 1 + i0) (hc0 : (decide ((i0 : Int) < ((List.length p0.fields) : Int))) = true) (h0 : (s_Kl p1 x0.name).2 = false) {r : Rs} (hr : Q7 G (Q7q p0 p1 (i0 + 1) (s_Kr v0_1 x0.name (Val.mk 0 0 eB [] []))) r) : Q7 G (Q7q p0 p1 i0 v0_1) r := by
 have hB0 := H.1
 exact Qa VOK.nil (y := (Qfr p0 p1 (i0 + 1) (s_Kr v0_1 x0.name (Val.mk 0 0 eB [] [])), Qdf p0 p1 (i0 + 1) (s_Kr v0_1 x0.name (Val.mk 0 0 eB [] [])))) [hP 3 (Qe (Fld.rows p0.fields) (List.length p0.fields) (Fld.Q8 p0.fields)), hB 0 hc0, hP 4 (Q10 6 (Fld.rows p0.fields) i0 _ (Fld.Qg hx0) rfl), hB 5 h0, hP 9 (Q10 6 (Fld.rows p0.fields) i0 _ (Fld.Qg hx0) rfl), hP 6 (Qr i0 (by omega))] [aN (t_Kl p1 x0.name ((H.2.1 x0 (Qt hx0)))), aN (t_Kr v0_1 x0.name (Val.mk 0 0 eB [] []) ((H.2.2.1 i0 v0_1 x0 hx0 ho0_0) h0))] (by kernel_rfl) hr
theorem Qdd (p0 : Val) (p1 : Val) (H : Q81 p0 p1) (rec : Q5c p1) : ∀ (r0 : List Fld) (i0 : Nat) (v0_1 : Val), List.drop i0 p0.fields = r0 → tot v0_1 ≤ 1 + i0 → Qcj p0 p1 (Q7q p0 p1 i0 v0_1) (Q3l p0 p1 r0 i0 v0_1)
 | [], i0, v0_1, hd, ho0_0 => by
  have hc0 : (decide ((i0 : Int) < ((List.length p0.fields) : Int))) = false := by have := Q1d hd; simp; omega
  rw [Q3l]
  exact Qzw p0 p1 H rec i0 v0_1 ho0_0 hc0
 | x0 :: r0, i0, v0_1, hd, ho0_0 => by
  obtain ⟨hx0, hi0, hd'⟩ := Qz hd
  have hc0 : (decide ((i0 : Int) < ((List.length p0.fields) : Int))) = true := by simp; omega
  rw [Q3l]
  cases h0 : (s_Kl p1 x0.name).2 with
  | true =>
   exact Qa7 p0 p1 (fun r hr => Q100 p0 p1 H rec x0 i0 v0_1 hx0 hi0 ho0_0 hc0 h0 hr) _ (Qdd p0 p1 H rec r0 (i0 + 1) v0_1 hd' ((H.2.2.2.1 i0 v0_1 x0 hx0 ho0_0) h0))
  | false =>
   exact Qa7 p0 p1 (fun r hr => Qzd p0 p1 H rec x0 i0 v0_1 hx0 hi0 ho0_0 hc0 h0 hr) _ (Qdd p0 p1 H rec r0 (i0 + 1) (s_Kr v0_1 x0.name (Val.mk 0 0 eB [] [])) hd' ((H.2.2.2.2.1 i0 v0_1 x0 hx0 ho0_0) h0))
def Qjy (_p0 : Val) (p1 : Val) (i1 : Nat) (_v1_1 : Val) : List PV :=
  [.un, .un, .bx 0 0, .bx 1 0, .un, .un, .un, .un, .un, .int .i64 (i1 : Int), .un, .un, .un, .un, .un, .un, .un, .un, .un, .un, .un, .un, .un, .un, .un, .un, .un, .un, .un, .un, .un, .un, .un, .un, .un, .un, .un, .un, .un, .un, .un, .un, .un, .un, .un, .un, .un, .un, .un, .un, .un, .un, .int .i64 (i1 : Int), .bx 1 4, .sl (Fld.rows p1.fields), .int .i64 ((List.length p1.fields) : Int), .bool false]
def Qfk (_p0 : Val) (_p1 : Val) (_i1 : Nat) (_v1_1 : Val) : List (Nat × List PV) :=
  []
theorem Qzs (p0 : Val) (p1 : Val) (_H : Q67 p0 p1) (_rec : Q5c p1) (i1 : Nat) (v1_1 : Val) (_ho1_0 : tot v1_1 ≤ tot p0 + tot p0 * totF (List.take i1 p1.fields)) (hc1 : (decide ((i1 : Int) < ((List.length p1.fields) : Int))) = false) : Qcc p0 p1 (Q50 p0 p1 i1 v1_1) v1_1 := by
 exact ⟨(envF (Qjy p0 p1 i1 v1_1)), (zoF (Qfk p0 p1 i1 v1_1)), Qf VOK.nil (x := ((.exit 2), Qhx p0 p1 v1_1 (envF (Qjy p0 p1 i1 v1_1)) (zoF (Qfk p0 p1 i1 v1_1)))) [hP 3 (Qe (Fld.rows p1.fields) (List.length p1.fields) (Fld.Q8 p1.fields)), hB 0 hc1] [] (by kernel_rfl)⟩
theorem Qy3 (p0 : Val) (p1 : Val) (H : Q67 p0 p1) (_rec : Q5c p1) (x1 : Fld) (i1 : Nat) (v1_1 : Val) (hx1 : p1.fields[i1]? = some x1) (hi1 : i1 < List.length p1.fields) (_ho1_0 : tot v1_1 ≤ tot p0 + tot p0 * totF (List.take i1 p1.fields)) (hc1 : (decide ((i1 : Int) < ((List.length p1.fields) : Int))) = true) (h0 : (s_Kl p0 x1.name).2 = true) (h1 : (s_Kk (s_Kl p0 x1.name).1 x1.v) = true) {r : Rs} (hr : Q7 G (Q50 p0 p1 (i1 + 1) v1_1) r) : Q7 G (Q50 p0 p1 i1 v1_1) r := by
 have hB0 := H.1
 exact Qa VOK.nil (y := (Qa3 p0 p1 (i1 + 1) v1_1, Q9m p0 p1 (i1 + 1) v1_1)) [hP 3 (Qe (Fld.rows p1.fields) (List.length p1.fields) (Fld.Q8 p1.fields)), hB 0 hc1, hP 3 (Q10 6 (Fld.rows p1.fields) i1 _ (Fld.Qg hx1) rfl), hB 9 h0, hP 11 (Qr i1 (by omega))] [aN (t_Kl p0 x1.name ((H.2.1 x1 (Qt hx1)))), aB (t_Kk (s_Kl p0 x1.name).1 x1.v ((H.2.2.1 x1 (Qt hx1)) h0)) h1] (by kernel_rfl) hr
theorem Qz5 (p0 : Val) (p1 : Val) (H : Q67 p0 p1) (rec : Q5c p1) (x1 : Fld) (i1 : Nat) (v1_1 : Val) (hx1 : p1.fields[i1]? = some x1) (hi1 : i1 < List.length p1.fields) (ho1_0 : tot v1_1 ≤ tot p0 + tot p0 * totF (List.take i1 p1.fields)) (hc1 : (decide ((i1 : Int) < ((List.length p1.fields) : Int))) = true) (h0 : (s_Kl p0 x1.name).2 = true) (h1 : (s_Kk (s_Kl p0 x1.name).1 x1.v) = false) {r : Rs} (hr : Q7 G (Q50 p0 p1 (i1 + 1) (s_Kr v1_1 x1.name (Q6q (s_Kl p0 x1.name).1 x1.v))) r) : Q7 G (Q50 p0 p1 i1 v1_1) r := by
 have hB0 := H.1
 exact Qa VOK.nil (y := (Qa3 p0 p1 (i1 + 1) (s_Kr v1_1 x1.name (Q6q (s_Kl p0 x1.name).1 x1.v)), Q9m p0 p1 (i1 + 1) (s_Kr v1_1 x1.name (Q6q (s_Kl p0 x1.name).1 x1.v)))) [hP 3 (Qe (Fld.rows p1.fields) (List.length p1.fields) (Fld.Q8 p1.fields)), hB 0 hc1, hP 3 (Q10 6 (Fld.rows p1.fields) i1 _ (Fld.Qg hx1) rfl), hB 9 h0, hP 20 (Qr i1 (by omega))] [aN (t_Kl p0 x1.name ((H.2.1 x1 (Qt hx1)))), aB (t_Kk (s_Kl p0 x1.name).1 x1.v ((H.2.2.1 x1 (Qt hx1)) h0)) h1, aN (rec x1.v (szF hx1) (s_Kl p0 x1.name).1 (H.2.2.2.1 x1 (Qt hx1))), aN (t_Kr v1_1 x1.name (Q6q (s_Kl p0 x1.name).1 x1.v) ((H.2.2.2.2.1 i1 v1_1 x1 hx1 ho1_0) h0 h1))] (by kernel_rfl) hr
theorem Qyv (p0 : Val) (p1 : Val) (H : Q67 p0 p1) (_rec : Q5c p1) (x1 : Fld) (i1 : Nat) (v1_1 : Val) (hx1 : p1.fields[i1]? = some x1) (hi1 : i1 < List.length p1.fields) (ho1_0 : tot v1_1 ≤ tot p0 + tot p0 * totF (List.take i1 p1.fields)) (hc1 : (decide ((i1 : Int) < ((List.length p1.fields) : Int))) = true) (h0 : (s_Kl p0 x1.name).2 = false) {r : Rs} (hr : Q7 G (Q50 p0 p1 (i1 + 1) (s_Kr v1_1 x1.name x1.v)) r) : Q7 G (Q50 p0 p1 i1 v1_1) r := by
 have hB0 := H.1
 exact Qa VOK.nil (y := (Qa3 p0 p1 (i1 + 1) (s_Kr v1_1 x1.name x1.v), Q9m p0 p1 (i1 + 1) (s_Kr v1_1 x1.name x1.v))) [hP 3 (Qe (Fld.rows p1.fields) (List.length p1.fields) (Fld.Q8 p1.fields)), hB 0 hc1, hP 3 (Q10 6 (Fld.rows p1.fields) i1 _ (Fld.Qg hx1) rfl), hB 9 h0, hP 13 (Qr i1 (by omega))] [aN (t_Kl p0 x1.name ((H.2.1 x1 (Qt hx1)))), aN (t_Kr v1_1 x1.name x1.v ((H.2.2.2.2.2.1 i1 v1_1 x1 hx1 ho1_0) h0))] (by kernel_rfl) hr
theorem Q9r (p0 : Val) (p1 : Val) (H : Q67 p0 p1) (rec : Q5c p1) : ∀ (r1 : List Fld) (i1 : Nat) (v1_1 : Val), List.drop i1 p1.fields = r1 → tot v1_1 ≤ tot p0 + tot p0 * totF (List.take i1 p1.fields) → Qcc p0 p1 (Q50 p0 p1 i1 v1_1) (Q44 p0 p1 r1 i1 v1_1)
 | [], i1, v1_1, hd, ho1_0 => by
  have hc1 : (decide ((i1 : Int) < ((List.length p1.fields) : Int))) = false := by have := Q1d hd; simp; omega
  rw [Q44]
  exact Qzs p0 p1 H rec i1 v1_1 ho1_0 hc1
 | x1 :: r1, i1, v1_1, hd, ho1_0 => by
  obtain ⟨hx1, hi1, hd'⟩ := Qz hd
  have hc1 : (decide ((i1 : Int) < ((List.length p1.fields) : Int))) = true := by simp; omega
  rw [Q44]
  cases h0 : (s_Kl p0 x1.name).2 with
  | true =>
   cases h1 : (s_Kk (s_Kl p0 x1.name).1 x1.v) with
   | true =>
    exact Q64 p0 p1 (fun r hr => Qy3 p0 p1 H rec x1 i1 v1_1 hx1 hi1 ho1_0 hc1 h0 h1 hr) _ (Q9r p0 p1 H rec r1 (i1 + 1) v1_1 hd' ((H.2.2.2.2.2.2.1 i1 v1_1 x1 hx1 ho1_0) h0 h1))
   | false =>
    exact Q64 p0 p1 (fun r hr => Qz5 p0 p1 H rec x1 i1 v1_1 hx1 hi1 ho1_0 hc1 h0 h1 hr) _ (Q9r p0 p1 H rec r1 (i1 + 1) (s_Kr v1_1 x1.name (Q6q (s_Kl p0 x1.name).1 x1.v)) hd' ((H.2.2.2.2.2.2.2.1 i1 v1_1 x1 hx1 ho1_0) h0 h1))
  | false =>
   exact Q64 p0 p1 (fun r hr => Qyv p0 p1 H rec x1 i1 v1_1 hx1 hi1 ho1_0 hc1 h0 hr) _ (Q9r p0 p1 H rec r1 (i1 + 1) (s_Kr v1_1 x1.name x1.v) hd' ((H.2.2.2.2.2.2.2.2.1 i1 v1_1 x1 hx1 ho1_0) h0))
theorem Q1dh (p0 : Val) (p1 : Val) (H : Qs5 p0 p1) (rec : Q5c p1) : Q7 G (Q168 p0 p1) (Q11m p0 p1) := by
  unfold Q11m
  rw [Q6q]
  cases h0 : (p0.kind == 5) with
  | true =>
   cases h1 : (p1.kind == 5) with
   | true =>
    have hl2 := Qdd p0 p1 ((Qck p0 p1 H).1 h0 h1) rec p0.fields 0 (Val.mk 5 0 eB [] []) (by simp) ((Qck p0 p1 H).2.1 h0 h1)
    obtain ⟨z2, zo2, hl2⟩ := hl2
    have hl3 := Q9r p0 p1 ((Qck p0 p1 H).2.2.1 h0 h1) rec p1.fields 0 (Q3l p0 p1 p0.fields 0 (Val.mk 5 0 eB [] [])) (by simp) ((Qck p0 p1 H).2.2.2.1 h0 h1)
    obtain ⟨z3, zo3, hl3⟩ := hl3
    exact Q9 (fn := Ir.K14) rfl VOK.nil [hP 5 (dec (!(p0.kind == 5)) false (by rw [h0]; rfl)), hP 3 (dec (!(p1.kind == 5)) false (by rw [h1]; rfl))] [aN hl2, aN hl3] (by kernel_rfl)
   | false =>
    exact Q9 (fn := Ir.K14) rfl VOK.nil [hP 5 (dec (!(p0.kind == 5)) false (by rw [h0]; rfl)), hP 3 (dec (!(p1.kind == 5)) true (by rw [h1]; rfl))] [] (by kernel_rfl)
  | false =>
   exact Q9 (fn := Ir.K14) rfl VOK.nil [hP 5 (dec (!(p0.kind == 5)) true (by rw [h0]; rfl))] [] (by kernel_rfl)
theorem Q1aw : ∀ (k : Nat) (p1 : Val), SizeOf.sizeOf p1 < k → ∀ (p0 : Val), Qs5 p0 p1 → Q7 G (Q168 p0 p1) (Q11m p0 p1)
  | 0, _, h, _, _ => absurd h (Nat.not_lt_zero _)
  | k + 1, p1, h, p0, H => Q1dh p0 p1 H (fun q hq p0 hH => Q1aw k q (by omega) p0 hH)
theorem Q1am (p0 : Val) (p1 : Val) (H : Qs5 p0 p1) : Q7 G (Q168 p0 p1) (Q11m p0 p1) := Q1aw _ p1 (Nat.lt_succ_self _) p0 H
end Go.Proofs.Ytnhhddbbppbblaa
end

section
/- What the laws on patches ask of their values (printed by a program). -/
namespace Go.Proofs.Ytnhhddbbppbblaa
open Go.Pv
inductive Q13c where
  | k0
  | k1
def Q6a (p0 : List Val) : List Val → Nat → Q13c
 | [], _i0 =>
  (.k0)
 | x0 :: r0, i0 =>
  bif (s_Kz x0 3000) then
   bif (s_Ko x0) then
    Q6a p0 r0 (i0 + 1)
   else
    (.k1)
  else
   (.k1)
def Qvn (p0 : List Val) (i0 : Nat) : List PV :=
  [.un, .un, .un, .un, .un, .sl (Val.rows p0), .int .i64 ((List.length p0) : Int), .int .i64 (i0 : Int), .un, .un, .un, .un, .un, .un, .un, .un, .un, .un, .un, .un]
def Qup (_p0 : List Val) (_i0 : Nat) : List Ob :=
  []
def Qb7 (p0 : List Val) (i0 : Nat) : En := .loop 0 Ir.Qjb Ir.Q1bk (Qvn p0 i0) (Qup p0 i0)
def Qoi (_p0 : List Val) (z : Nat → PV) (_zo : Nat → List PV) : St :=
  ⟨[z 0, z 1, z 2, z 3, z 4, z 5, z 6, z 7, z 8, z 9, z 10, z 11, z 12, z 13, z 14, z 15, z 16, z 17, z 18, z 19], [], 64⟩
def Qgz (_p0 : List Val) (z : Nat → PV) (zo : Nat → List PV) : St :=
  ⟨[z 0, z 1, .bool false, z 3, z 4, z 5, z 6, z 7, z 8, z 9, z 10, z 11, z 12, z 13, z 14, z 15, z 16, z 17, z 18, z 19], [(192, ⟨5, 0, true, zo 192⟩)], 896⟩
def Qap (p0 : List Val) (e : En) : Q13c → Prop
  | .k0 => ∃ z zo, Q7 G e (.st (.exit 0) (Qoi p0 z zo))
  | .k1 => ∃ z zo, Q7 G e (.st .ret (Qgz p0 z zo))
theorem Qrq (p0 : List Val) {e e' : En} (h : ∀ r, Q7 G e r → Q7 G e' r) : ∀ q, Qap p0 e q → Qap p0 e' q
  | .k0, ⟨z, zo, hz⟩ => ⟨z, zo, h _ hz⟩
  | .k1, ⟨z, zo, hz⟩ => ⟨z, zo, h _ hz⟩
def Qaz (p0 : List Val) : Prop := (List.length p0 ≤ 4611686018427387904) ∧ (∀ x0 ∈ p0, H_Kz x0 3000) ∧ (∀ x0 ∈ p0, H_Ko x0) ∧ True
def Qou (p0 : List Val) (i0 : Nat) : List PV :=
  [.un, .un, .un, .un, .un, .sl (Val.rows p0), .int .i64 ((List.length p0) : Int), .int .i64 (i0 : Int), .bool false]
def Ql1 (_p0 : List Val) (_i0 : Nat) : List (Nat × List PV) :=
  []
theorem Q112 (p0 : List Val) (_H : Qaz p0) (i0 : Nat) (hc0 : (decide ((i0 : Int) < ((List.length p0) : Int))) = false) : Qap p0 (Qb7 p0 i0) (.k0) := by
 exact ⟨(envF (Qou p0 i0)), (zoF (Ql1 p0 i0)), Qf VOK.nil (x := ((.exit 0), Qoi p0 (envF (Qou p0 i0)) (zoF (Ql1 p0 i0)))) [hB 0 hc0] [] (by kernel_rfl)⟩
theorem Q10w (p0 : List Val) (H : Qaz p0) (x0 : Val) (i0 : Nat) (hx0 : p0[i0]? = some x0) (hi0 : i0 < List.length p0) (hc0 : (decide ((i0 : Int) < ((List.length p0) : Int))) = true) (h0 : (s_Kz x0 3000) = true) (h1 : (s_Ko x0) = true) {r : Rs} (hr : Q7 G (Qb7 p0 (i0 + 1)) r) : Q7 G (Qb7 p0 i0) r := by
 have hB0 := H.1
 exact Qa VOK.nil (y := (Qvn p0 (i0 + 1), Qup p0 (i0 + 1))) [hB 0 hc0, hP 0 (Q10 5 (Val.rows p0) i0 _ (Val.Qg hx0) rfl), hP 11 (Qr i0 (by omega))] [aB (t_Kz x0 3000 (H.2.1 x0 (Qt hx0))) h0, aB (t_Ko x0 (H.2.2.1 x0 (Qt hx0))) h1] (by kernel_rfl) hr
def Qsg (p0 : List Val) (i0 : Nat) (x0 : Val) : List PV :=
  [.un, .un, .un, .un, .bx 192 0, .sl (Val.rows p0), .int .i64 ((List.length p0) : Int), .int .i64 (i0 : Int), .bool true, .rf [.int .i64 x0.kind, .int .i64 x0.n, .str x0.s, .sl (Val.rows x0.list), .sl (Fld.rows x0.fields)], .agg [.int .i64 x0.kind, .int .i64 x0.n, .str x0.s, .sl (Val.rows x0.list), .sl (Fld.rows x0.fields)], .agg [.int .i64 x0.kind, .int .i64 x0.n, .str x0.s, .sl (Val.rows x0.list), .sl (Fld.rows x0.fields)], .bool true, .bool false, .bool false, .agg [.int .i64 x0.kind, .int .i64 x0.n, .str x0.s, .sl (Val.rows x0.list), .sl (Fld.rows x0.fields)], .bool false, .bool true, .bool true]
def Qkw (_p0 : List Val) (_i0 : Nat) (x0 : Val) : List (Nat × List PV) :=
  [(192, [.int .i64 x0.kind, .int .i64 x0.n, .str x0.s, .sl (Val.rows x0.list), .sl (Fld.rows x0.fields)])]
theorem Q14z (p0 : List Val) (H : Qaz p0) (x0 : Val) (i0 : Nat) (hx0 : p0[i0]? = some x0) (_hi0 : i0 < List.length p0) (hc0 : (decide ((i0 : Int) < ((List.length p0) : Int))) = true) (h0 : (s_Kz x0 3000) = true) (h1 : (s_Ko x0) = false) : Qap p0 (Qb7 p0 i0) (.k1) := by
 exact ⟨(envF (Qsg p0 i0 x0)), (zoF (Qkw p0 i0 x0)), Qf VOK.nil (x := (.ret, Qgz p0 (envF (Qsg p0 i0 x0)) (zoF (Qkw p0 i0 x0)))) [hB 0 hc0, hP 0 (Q10 5 (Val.rows p0) i0 _ (Val.Qg hx0) rfl)] [aB (t_Kz x0 3000 (H.2.1 x0 (Qt hx0))) h0, aB (t_Ko x0 (H.2.2.1 x0 (Qt hx0))) h1] (by kernel_rfl)⟩
def Qq3 (p0 : List Val) (i0 : Nat) (x0 : Val) : List PV :=
  [.un, .un, .un, .un, .bx 192 0, .sl (Val.rows p0), .int .i64 ((List.length p0) : Int), .int .i64 (i0 : Int), .bool true, .rf [.int .i64 x0.kind, .int .i64 x0.n, .str x0.s, .sl (Val.rows x0.list), .sl (Fld.rows x0.fields)], .agg [.int .i64 x0.kind, .int .i64 x0.n, .str x0.s, .sl (Val.rows x0.list), .sl (Fld.rows x0.fields)], .agg [.int .i64 x0.kind, .int .i64 x0.n, .str x0.s, .sl (Val.rows x0.list), .sl (Fld.rows x0.fields)], .bool false, .bool true, .bool true, .tup [], .tup [], .tup [], .bool true]
def Qin (_p0 : List Val) (_i0 : Nat) (x0 : Val) : List (Nat × List PV) :=
  [(192, [.int .i64 x0.kind, .int .i64 x0.n, .str x0.s, .sl (Val.rows x0.list), .sl (Fld.rows x0.fields)])]
theorem Q159 (p0 : List Val) (H : Qaz p0) (x0 : Val) (i0 : Nat) (hx0 : p0[i0]? = some x0) (_hi0 : i0 < List.length p0) (hc0 : (decide ((i0 : Int) < ((List.length p0) : Int))) = true) (h0 : (s_Kz x0 3000) = false) : Qap p0 (Qb7 p0 i0) (.k1) := by
 exact ⟨(envF (Qq3 p0 i0 x0)), (zoF (Qin p0 i0 x0)), Qf VOK.nil (x := (.ret, Qgz p0 (envF (Qq3 p0 i0 x0)) (zoF (Qin p0 i0 x0)))) [hB 0 hc0, hP 0 (Q10 5 (Val.rows p0) i0 _ (Val.Qg hx0) rfl)] [aB (t_Kz x0 3000 (H.2.1 x0 (Qt hx0))) h0] (by kernel_rfl)⟩
theorem Quw (p0 : List Val) (H : Qaz p0) : ∀ (r0 : List Val) (i0 : Nat), List.drop i0 p0 = r0 → Qap p0 (Qb7 p0 i0) (Q6a p0 r0 i0)
 | [], i0, hd => by
  have hc0 : (decide ((i0 : Int) < ((List.length p0) : Int))) = false := by have := Q1d hd; simp; omega
  rw [Q6a]
  exact Q112 p0 H i0 hc0
 | x0 :: r0, i0, hd => by
  obtain ⟨hx0, hi0, hd'⟩ := Qz hd
  have hc0 : (decide ((i0 : Int) < ((List.length p0) : Int))) = true := by simp; omega
  rw [Q6a]
  cases h0 : (s_Kz x0 3000) with
  | true =>
   cases h1 : (s_Ko x0) with
   | true =>
    exact Qrq p0 (fun r hr => Q10w p0 H x0 i0 hx0 hi0 hc0 h0 h1 hr) _ (Quw p0 H r0 (i0 + 1) hd')
   | false =>
    exact Q14z p0 H x0 i0 hx0 hi0 hc0 h0 h1
  | false =>
   exact Q159 p0 H x0 i0 hx0 hi0 hc0 h0
def s_Kd (p0 : List Val) : Bool :=
 (match (Q6a p0 p0 0) with
 | .k0 => true
 | .k1 => false)
def c_Kd (p0 : List Val) : En := .call 10 [.sl (Val.rows p0)] []
def a_Kd (p0 : List Val) : Rs := .ret (.bool (s_Kd p0)) []
def H_Kd (p0 : List Val) : Prop := (Qaz p0) ∧ True
theorem t_Kd (p0 : List Val) (H : H_Kd p0) : Q7 G (c_Kd p0) (a_Kd p0) := by
 unfold a_Kd s_Kd
 have hl0 := Quw p0 (H.1) p0 0 (by simp)
 cases hr0 : (Q6a p0 p0 0) with
 | k0 =>
  rw [hr0] at hl0
  obtain ⟨z0, zo0, hl0⟩ := hl0
  exact Q9 (fn := Ir.Kd) rfl VOK.nil [hP 2 (Qe (Val.rows p0) (List.length p0) (Val.Q8 p0))] [aN hl0] (by kernel_rfl)
 | k1 =>
  rw [hr0] at hl0
  obtain ⟨z0, zo0, hl0⟩ := hl0
  exact Q9 (fn := Ir.Kd) rfl VOK.nil [hP 2 (Qe (Val.rows p0) (List.length p0) (Val.Q8 p0))] [aN hl0] (by kernel_rfl)
theorem t_Ka : Q7 G (.call 11 [] []) (.ret (.bool true) []) := ⟨300, by kernel_rfl⟩
end Go.Proofs.Ytnhhddbbppbblaa
end

section
/- The laws on patches in plain words: few parts, deep validity, clean and compatible values; what the laws ask. -/
namespace Go.Proofs.Ytnhhddbbppbblaa
open Go.Pv
theorem Qqn (p : Val) (l : List Val) (i : Nat) {a : Int} (h : ¬ 0 ≤ a) : Q2o p l i a = a := by
  cases l with
  | nil => rw [Q2o]
  | cons x l => rw [Q2o, show decide (0 ≤ a) = false by simpa using h, cond_false]
theorem Qhm (p : Val) (l : List Fld) (i : Nat) {a : Int} (h : ¬ 0 ≤ a) : Q39 p l i a = a := by
  cases l with
  | nil => rw [Q39]
  | cons x l => rw [Q39, show decide (0 ≤ a) = false by simpa using h, cond_false]
theorem Q10h (p : Val) : ∀ (l : List Val) (i : Nat) (a : Int), a ≤ 3000 → (∀ x ∈ l, ∀ n, -1152921504606846976 ≤ n → n ≤ 3000 → 0 ≤ Q4s x n → Q4s x n + tot x ≤ n) → 0 ≤ Q2o p l i a → Q2o p l i a + totV l ≤ a
  | [], i, a, _, _, _ => by rw [Q2o, totV]; omega
  | x :: l, i, a, ha, hx, h => by
    by_cases c : 0 ≤ a
    · rw [Q2o, show decide (0 ≤ a) = true by simpa using c, cond_true] at h ⊢
      have k : 0 ≤ Q4s x a := by
        apply Decidable.byContradiction
        intro hn
        rw [Qqn p l _ hn] at h
        exact hn h
      have h1 := hx x List.mem_cons_self a (by omega) ha k
      have h2 := Q10h p l (i + 1) _ (by omega) (fun y hy => hx y (List.mem_cons_of_mem _ hy)) h
      rw [Qgf]
      omega
    · rw [Qqn p _ i c] at h
      exact absurd h c
theorem Q13d (p : Val) : ∀ (l : List Fld) (i : Nat) (a : Int), a ≤ 3000 → (∀ x ∈ l, okS x.name) → (∀ x ∈ l, ∀ n, -1152921504606846976 ≤ n → n ≤ 3000 → 0 ≤ Q4s x.v n → Q4s x.v n + tot x.v ≤ n) → 0 ≤ Q39 p l i a → Q39 p l i a + totF l ≤ a
  | [], i, a, _, _, _, _ => by rw [Q39, Q3n]; omega
  | x :: l, i, a, ha, hs, hx, h => by
    by_cases c : 0 ≤ a
    · have hn := hs x List.mem_cons_self
      unfold okS at hn
      rw [Q39, show decide (0 ≤ a) = true by simpa using c, cond_true, Qbx (by omega)] at h ⊢
      have k : 0 ≤ Q4s x.v (a - (x.name.size : Int)) := by
        apply Decidable.byContradiction
        intro hn
        rw [Qhm p l _ hn] at h
        exact hn h
      have h1 := hx x List.mem_cons_self (a - (x.name.size : Int)) (by omega) (by omega) k
      have h2 := Q13d p l (i + 1) _ (by omega) (fun y hy => hs y (List.mem_cons_of_mem _ hy)) (fun y hy => hx y (List.mem_cons_of_mem _ hy)) h
      rw [Q1p]
      omega
    · rw [Qhm p _ i c] at h
      exact absurd h c
theorem Q15y {v : Val} (hv : Q30 v) : ∀ n, -1152921504606846976 ≤ n → n ≤ 3000 → 0 ≤ Q4s v n → Q4s v n + tot v ≤ n := by
  induction hv with
  | mk v _ _ h3 _ _ sl sn sf i1 i2 =>
    intro n hn hn' h
    unfold okS at h3
    have e1 : w64 (n - 1) = n - 1 := Qbx (by omega)
    rw [Q4s, e1, Qbx (by omega)] at h ⊢
    have k : 0 ≤ Q2o v v.list 0 (n - 1 - (v.s.size : Int)) := by
      apply Decidable.byContradiction
      intro hn
      rw [Qhm v _ _ hn] at h
      exact hn h
    have h1 := Q10h v v.list 0 (n - 1 - (v.s.size : Int)) (by omega) i1 k
    have h2 := Q13d v v.fields 0 _ (by omega) sn i2 h
    have h3 := Qbm v
    omega
theorem Q18z {v : Val} (hv : Q30 v) (h : s_Kz v 3000 = true) : tot v ≤ 3000 := by
  have h : decide (0 ≤ Q4s v 3000) = true := h
  have h0 := of_decide_eq_true h
  have := Q15y hv 3000 (by omega) (by omega) h0
  omega
theorem Qer (p : Val) (k : Int) (hp : p.fields.length ≤ 64) : ∀ (r : List Fld) (i : Nat), p.fields.drop i = r → Q2t p k r i = .k0 → (SS r ∧ (0 < i → ∀ y ∈ r, sCmp (p.fields.getD (i - 1) (.mk ⟨#[]⟩ (.mk 0 0 ⟨#[]⟩ [] []))).name y.name < 0)) ∧ ∀ y ∈ r, s_Kx y.v (w64 (k - 1)) = true
  | [], i, _, _ => ⟨⟨SS.nil, fun _ _ g => by cases g⟩, fun _ g => by cases g⟩
  | x :: r, i, hd, h => by
    obtain ⟨hx, hi, hd'⟩ := Qz hd
    rw [Q2t] at h
    have hw : 0 < i → Int.toNat (w64 ((i : Int) - 1)) = i - 1 := fun h => by rw [Qbx (by omega)]; omega
    have pr : Q2t p k r (i + 1) = .k0 ∧ (0 < i → sCmp (p.fields.getD (i - 1) (.mk ⟨#[]⟩ (.mk 0 0 ⟨#[]⟩ [] []))).name x.name < 0) ∧ s_Kx x.v (w64 (k - 1)) = true := by
      cases a : s_Kp x.name with
      | false => rw [a] at h; cases h
      | true =>
        rw [a, cond_true] at h
        by_cases c : 0 < i
        · rw [show decide (0 < (i : Int)) = true by simp; omega, cond_true, hw c, Q12e] at h
          cases b : sLt (p.fields.getD (i - 1) (.mk ⟨#[]⟩ (.mk 0 0 ⟨#[]⟩ [] []))).name x.name with
          | false => rw [b] at h; cases h
          | true =>
            rw [b, Bool.not_true, cond_false] at h
            cases d : s_Kx x.v (w64 (k - 1)) with
            | false => rw [d] at h; cases h
            | true =>
              rw [d] at h
              refine ⟨h, fun _ => ?_, rfl⟩
              rw [Qh8] at b
              exact of_decide_eq_true b
        · rw [show decide (0 < (i : Int)) = false by simp; omega, cond_false] at h
          cases d : s_Kx x.v (w64 (k - 1)) with
          | false => rw [d] at h; cases h
          | true => rw [d] at h; exact ⟨h, fun g => absurd g c, rfl⟩
    obtain ⟨⟨s, t⟩, u⟩ := Qer p k hp r (i + 1) hd' pr.1
    have e : p.fields.getD (i + 1 - 1) (.mk ⟨#[]⟩ (.mk 0 0 ⟨#[]⟩ [] [])) = x := by rw [Nat.add_sub_cancel, List.getD_eq_getElem?_getD, hx]; rfl
    rw [e] at t
    refine ⟨⟨SS.cons.2 ⟨t (by omega), s⟩, fun c y hy => ?_⟩, fun y hy => ?_⟩
    · rcases List.mem_cons.1 hy with g | g
      · rw [g]; exact pr.2.1 c
      · exact Qml (pr.2.1 c) (t (by omega) y g)
    · rcases List.mem_cons.1 hy with g | g
      · rw [g]; exact pr.2.2
      · exact u y g
theorem Q16t : ∀ v : Val, ∀ k, s_Kx v k = true → DV v := Q165 fun v ih k h => by
  by_cases hk' : v.kind = 5
  · have h4 : (v.kind == 4) = false := by rw [hk']; rfl
    have h5 : (v.kind == 5) = true := by rw [hk']; rfl
    rw [s_Kx] at h
    cases k0 : k == 0 with
    | true => rw [k0] at h; cases h
    | false =>
      rw [k0, cond_false] at h
      cases sc : s_Kw v with
      | false => rw [sc] at h; cases h
      | true =>
        rw [sc, cond_true] at h
        cases l6 : decide (64 < (v.list.length : Int)) with
        | true => rw [l6] at h; cases h
        | false =>
          rw [l6, cond_false] at h
          cases f6 : decide (64 < (v.fields.length : Int)) with
          | true => rw [f6] at h; cases h
          | false =>
            rw [f6, cond_false, h4, cond_false] at h
            cases ll : decide (0 < (v.list.length : Int)) with
            | true => rw [ll] at h; cases h
            | false =>
              rw [ll, cond_false, h5, cond_true] at h
              have hf : v.fields.length ≤ 64 := by have := of_decide_eq_false f6; omega
              have hl : v.list = [] := List.length_eq_zero_iff.1 (by have := of_decide_eq_false ll; omega)
              cases b0 : Q3w v k v.list 0 with
              | k1 => rw [b0] at h; cases h
              | k0 =>
                rw [b0] at h
                cases b1 : Q2t v k v.fields 0 with
                | k1 => rw [b1] at h; cases h
                | k0 =>
                  obtain ⟨⟨s, _⟩, u⟩ := Qer v k hf v.fields 0 rfl b1
                  unfold s_Kw at sc
                  rw [hk'] at sc
                  simp only [show ((5 : Int) == 1) = false from rfl, show ((5 : Int) == 2) = false from rfl, show ((5 : Int) == 3) = false from rfl, show ((5 : Int) == 0) = false from rfl, show ((5 : Int) == 4) = false from rfl, show ((5 : Int) == 5) = true from rfl, cond_false, cond_true] at sc
                  cases n0 : v.n == 0 with
                  | false => rw [n0] at sc; cases sc
                  | true =>
                    rw [n0, cond_true] at sc
                    have e := Val.eta v
                    rw [hk', show v.n = 0 by simpa using n0, Q3y.1 sc, hl] at e
                    exact .mk v (fun _ => ⟨v.fields, e.symm, s⟩) fun _ f hf' => ih f hf' _ (u f hf')
  · exact DV.leaf hk'
theorem Q15w {v : Val} (h : s_Ko v = true) : DV v := by
  unfold s_Ko at h
  cases e : s_Kx v 12 with
  | true => exact Q16t v 12 e
  | false => rw [e] at h; cases h
theorem Qpp (p : List Val) : ∀ (l : List Val) (i : Nat), Q6a p l i = .k0 → ∀ x ∈ l, s_Kz x 3000 = true ∧ s_Ko x = true
  | [], _, _ => fun _ g => by cases g
  | x :: l, i, h => by
    rw [Q6a] at h
    cases a : s_Kz x 3000 with
    | false => rw [a] at h; cases h
    | true =>
      cases b : s_Ko x with
      | false => rw [a, b] at h; cases h
      | true =>
        rw [a, b] at h
        intro y hy
        rcases List.mem_cons.1 hy with g | g
        · rw [g]; exact ⟨a, b⟩
        · exact Qpp p l (i + 1) h y g
theorem Qwa {l : List Val} (hl : ∀ x ∈ l, Q30 x) (h : s_Kd l = true) : ∀ x ∈ l, tot x ≤ 3000 ∧ DV x := fun x hx => by
  unfold s_Kd at h
  cases e : Q6a l l 0 with
  | k1 => rw [e] at h; cases h
  | k0 =>
    obtain ⟨a, b⟩ := Qpp l l 0 e x hx
    exact ⟨Q18z (hl x hx) a, Q15w b⟩
theorem Q1ae {l : List Val} (hl : ∀ x ∈ l, Q30 x) (hn : l.length ≤ 100) : H_Kd l :=
  ⟨⟨by omega, fun x hx => ⟨(hl x hx).sm, trivial⟩, fun x hx => ⟨hl x hx, (hl x hx).sm, trivial⟩, trivial⟩, trivial⟩
theorem Qx3 (v : Val) : s_Ky v v = true := (Q14j v v).2 rfl
theorem alH {v : Val} (h : tot v ≤ 500000000) : H_Ky v := Q8b (by omega)
theorem Q19e {a b A B : Nat} (h : a ≤ A) (g : b ≤ B) : a * b ≤ A * B := Nat.mul_le_mul h g
theorem two {a b : Val} {P : Val → Prop} (ha : P a) (hb : P b) : ∀ x ∈ [a, b], P x := by
  intro x hx
  simp only [List.mem_cons, List.not_mem_nil, or_false] at hx
  rcases hx with e | e <;> rw [e] <;> assumption
section
variable {a b c : Val}
theorem in2a : a ∈ [a, b] := List.mem_cons_self
theorem in2b : b ∈ [a, b] := List.mem_cons_of_mem _ List.mem_cons_self
end
end Go.Proofs.Ytnhhddbbppbblaa
end

