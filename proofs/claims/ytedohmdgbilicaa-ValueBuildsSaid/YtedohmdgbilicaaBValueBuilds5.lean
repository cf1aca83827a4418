/- Texts of the claim, merged by a program; what the statement does not reach is left out. -/
import Derived.Test.YtedohmdgbilicaaBValueBuilds4
import Derived.Lib.Strings
import Derived.Lib.Slices
import Derived.Lib.Walk
import Derived.Lib.Bytealg
import Derived.KernelRfl

section
/- What building lists and maps computes (printed by a program). -/
namespace Go.Proofs.Ytedohmdgbilicaa
open Go.Pv
def Q1i (n0 : Nat) (p1 : Int) : Nat → (List Fld) → Int → Int → (List Fld) × Int
 | 0, v0_0, v0_1, _v0_2 => (v0_0, v0_1)
 | k0 + 1, v0_0, v0_1, v0_2 =>
  bif (decide (v0_2 ≤ p1)) then
   Q1i n0 p1 k0 (Q12 n0 v0_0 v0_1 v0_2) v0_2 (v0_2 + 20)
  else
   (v0_0, v0_1)
def Qjb (n0 : Nat) (p1 : Int) (_v0_0 : List Fld) (v0_1 : Int) (v0_2 : Int) : List PV :=
  [.ms 0 6 0 n0, .int .i64 p1, .fn 51 [] [], .un, .un, .un, .int .i64 20, .int .i64 v0_1, .int .i64 v0_2] ++ nuns 54
def Qb8 (_n0 : Nat) (_p1 : Int) (v0_0 : List Fld) (_v0_1 : Int) (_v0_2 : Int) : List Ob :=
  [⟨6, 0, false, (Fld.rows v0_0).flatten⟩]
def Q8q (n0 : Nat) (p1 : Int) (v0_0 : List Fld) (v0_1 : Int) (v0_2 : Int) : En := .loop 1 Ir.Qca Ir.Qsm (Qjb n0 p1 v0_0 v0_1 v0_2) (Qb8 n0 p1 v0_0 v0_1 v0_2)
def Qer (n0 : Nat) (p1 : Int) (q0 : List Fld) (q1 : Int) (z : Nat → PV) (_zo : Nat → List PV) : St :=
  ⟨[.ms 0 6 0 n0, .int .i64 p1, .fn 51 [] [], z 3, z 4, z 5, .int .i64 20, .int .i64 q1] ++ zr z 8 55, [(0, ⟨6, 0, false, (Fld.rows q0).flatten⟩)], 193⟩
theorem Qlw (n0 : Nat) (p1 : Int) (v0_0 : List Fld) (v0_1 : Int) (v0_2 : Int) : VOK (Go.Pv.look (number 0 (Qb8 n0 p1 v0_0 v0_1 v0_2))) [(0, Fld.rows v0_0)] := (VOK.cons (show Seen _ _ from Q2q (ob := ⟨6, 0, false, (Fld.rows v0_0).flatten⟩) (Fld.Q0 v0_0 6 rfl)) VOK.nil)
def Q9c (n0 : Nat) (p1 : Int) (e : En) (q : (List Fld) × Int) : Prop := ∃ z zo, Qb G e (.st (.exit 0) (Qer n0 p1 q.1 q.2 z zo))
theorem Qfl (n0 : Nat) (p1 : Int) {e e' : En} (h : ∀ r, Qb G e r → Qb G e' r) : ∀ q, Q9c n0 p1 e q → Q9c n0 p1 e' q
  | _, ⟨z, zo, hz⟩ => ⟨z, zo, h _ hz⟩
theorem Qo1 (n0 : Nat) (p1 : Int) (v0_0 : List Fld) (v0_1 : Int) (v0_2 : Int) (ho0_0 : 0 ≤ v0_1) (_ho0_1 : v0_1 ≤ n0) (ho0_2 : v0_1 + 20 = v0_2) (ho0_3 : p1 = n0) (ho0_4 : (n0 : Int) ≤ 1152921504606846976) (ho0_5 : List.length v0_0 = n0) (h0 : (decide (v0_2 ≤ p1)) = true) {r : Rs} (hr : Qb G (Q8q n0 p1 (Q12 n0 v0_0 v0_1 v0_2) v0_2 (v0_2 + 20)) r) : Qb G (Q8q n0 p1 v0_0 v0_1 v0_2) r := by
 have e0 := of_decide_eq_true h0
 exact Qi (Qlw n0 p1 v0_0 v0_1 v0_2) (y := (Qjb n0 p1 (Q12 n0 v0_0 v0_1 v0_2) v0_2 (v0_2 + 20), Qb8 n0 p1 (Q12 n0 v0_0 v0_1 v0_2) v0_2 (v0_2 + 20))) [hB 2 h0, hQ (Fld.Q0 (Q12 n0 v0_0 v0_1 v0_2) 6 rfl), hP 9 (w_ok (v0_2 + 20) (by have f0 := (Qr n0 v0_0 v0_1 v0_2 ho0_5); omega))] [aV [(0, Fld.rows (Q12 n0 v0_0 v0_1 v0_2))] (Qhv n0 v0_0 v0_1 v0_2 ho0_5 (by omega))] (by kernel_rfl) hr
def Qd4 (_n0 : Nat) (p1 : Int) (_v0_0 : List Fld) (_v0_1 : Int) (v0_2 : Int) : List PV :=
  nuns 8 ++ [.int .i64 v0_2, .un, .un, .int .i64 v0_2, .int .i64 p1, .bool false]
def Qb9 (_n0 : Nat) (_p1 : Int) (_v0_0 : List Fld) (_v0_1 : Int) (_v0_2 : Int) : List (Nat × List PV) :=
  []
theorem Qnx (n0 : Nat) (p1 : Int) (v0_0 : List Fld) (v0_1 : Int) (v0_2 : Int) (_ho0_0 : 0 ≤ v0_1) (_ho0_1 : v0_1 ≤ n0) (_ho0_2 : v0_1 + 20 = v0_2) (_ho0_3 : p1 = n0) (_ho0_4 : (n0 : Int) ≤ 1152921504606846976) (_ho0_5 : List.length v0_0 = n0) (h0 : (decide (v0_2 ≤ p1)) = false) : Q9c n0 p1 (Q8q n0 p1 v0_0 v0_1 v0_2) (v0_0, v0_1) := by
 exact ⟨(envF (Qd4 n0 p1 v0_0 v0_1 v0_2)), (zoF (Qb9 n0 p1 v0_0 v0_1 v0_2)), Qn (Qlw n0 p1 v0_0 v0_1 v0_2) (x := ((.exit 0), Qer n0 p1 v0_0 v0_1 (envF (Qd4 n0 p1 v0_0 v0_1 v0_2)) (zoF (Qb9 n0 p1 v0_0 v0_1 v0_2)))) [hB 2 h0] [] (by kernel_rfl)⟩
theorem Qj6 (n0 : Nat) (p1 : Int) : ∀ (k0 : Nat) (v0_0 : List Fld) (v0_1 : Int) (v0_2 : Int), 0 ≤ v0_1 → v0_1 ≤ n0 → v0_1 + 20 = v0_2 → p1 = n0 → (n0 : Int) ≤ 1152921504606846976 → List.length v0_0 = n0 → Int.toNat (p1 + 20 - v0_2) < k0 → Q9c n0 p1 (Q8q n0 p1 v0_0 v0_1 v0_2) (Q1i n0 p1 k0 v0_0 v0_1 v0_2)
 | 0, v0_0, v0_1, v0_2, _, _, _, _, _, _, hm => absurd hm (Nat.not_lt_zero _)
 | k0 + 1, v0_0, v0_1, v0_2, ho0_0, ho0_1, ho0_2, ho0_3, ho0_4, ho0_5, hm => by
  rw [Q1i]
  cases h0 : (decide (v0_2 ≤ p1)) with
  | true =>
   have e0 := of_decide_eq_true h0
   exact Qfl n0 p1 (fun r hr => Qo1 n0 p1 v0_0 v0_1 v0_2 ho0_0 ho0_1 ho0_2 ho0_3 ho0_4 ho0_5 h0 hr) _ (Qj6 n0 p1 k0 (Q12 n0 v0_0 v0_1 v0_2) v0_2 (v0_2 + 20) (by have f0 := (Qr n0 v0_0 v0_1 v0_2 ho0_5); omega) (by have f0 := (Qr n0 v0_0 v0_1 v0_2 ho0_5); omega) (by have f0 := (Qr n0 v0_0 v0_1 v0_2 ho0_5); omega) (by have f0 := (Qr n0 v0_0 v0_1 v0_2 ho0_5); omega) (by have f0 := (Qr n0 v0_0 v0_1 v0_2 ho0_5); omega) (Qr n0 v0_0 v0_1 v0_2 ho0_5) (by have f0 := (Qr n0 v0_0 v0_1 v0_2 ho0_5); omega))
  | false =>
   exact Qnx n0 p1 v0_0 v0_1 v0_2 ho0_0 ho0_1 ho0_2 ho0_3 ho0_4 ho0_5 h0
theorem Q64 (n0 : Nat) (p1 : Int) : ∀ (k0 : Nat) (v0_0 : List Fld) (v0_1 : Int) (v0_2 : Int), List.length v0_0 = n0 → List.length (Q1i n0 p1 k0 v0_0 v0_1 v0_2).1 = n0
 | 0, v0_0, v0_1, v0_2, ho0_5 => by rw [Q1i]; exact ho0_5
 | k0 + 1, v0_0, v0_1, v0_2, ho0_5 => by
  rw [Q1i]
  cases h0 : (decide (v0_2 ≤ p1)) with
  | true =>
   exact Q64 n0 p1 k0 (Q12 n0 v0_0 v0_1 v0_2) v0_2 (v0_2 + 20) (Qr n0 v0_0 v0_1 v0_2 ho0_5)
  | false =>
   exact ho0_5
theorem Qhx (n0 : Nat) (p1 : Int) : ∀ (k0 : Nat) (v0_0 : List Fld) (v0_1 : Int) (v0_2 : Int), 0 ≤ v0_1 → v0_1 ≤ n0 → v0_1 + 20 = v0_2 → p1 = n0 → (n0 : Int) ≤ 1152921504606846976 → List.length v0_0 = n0 → Int.toNat (p1 + 20 - v0_2) < k0 → 0 ≤ (Q1i n0 p1 k0 v0_0 v0_1 v0_2).2 ∧ (Q1i n0 p1 k0 v0_0 v0_1 v0_2).2 ≤ n0
 | 0, v0_0, v0_1, v0_2, _, _, _, _, _, _, hm => absurd hm (Nat.not_lt_zero _)
 | k0 + 1, v0_0, v0_1, v0_2, ho0_0, ho0_1, ho0_2, ho0_3, ho0_4, ho0_5, hm => by
  rw [Q1i]
  cases h0 : (decide (v0_2 ≤ p1)) with
  | true =>
   have e0 := of_decide_eq_true h0
   exact Qhx n0 p1 k0 (Q12 n0 v0_0 v0_1 v0_2) v0_2 (v0_2 + 20) (by have f0 := (Qr n0 v0_0 v0_1 v0_2 ho0_5); omega) (by have f0 := (Qr n0 v0_0 v0_1 v0_2 ho0_5); omega) (by have f0 := (Qr n0 v0_0 v0_1 v0_2 ho0_5); omega) (by have f0 := (Qr n0 v0_0 v0_1 v0_2 ho0_5); omega) (by have f0 := (Qr n0 v0_0 v0_1 v0_2 ho0_5); omega) (Qr n0 v0_0 v0_1 v0_2 ho0_5) (by have f0 := (Qr n0 v0_0 v0_1 v0_2 ho0_5); omega)
  | false =>
   have e0 := of_decide_eq_false h0
   exact (show 0 ≤ v0_1 ∧ v0_1 ≤ n0 from ⟨(by omega), (by omega)⟩)
def Qa (n0 : Nat) (p1 : Int) : Nat → (List Fld) → Int → Int → Int → (List Fld) × Int × Int
 | 0, v2_0, v2_1, _v2_2, v2_3 => (v2_0, v2_3, v2_1)
 | k2 + 1, v2_0, v2_1, v2_2, v2_3 =>
  bif (decide (v2_2 ≤ p1)) then
   Qa n0 p1 k2 (Q6 ((Int.toNat (v2_2 - v2_1)) + 1) n0 v2_0 v2_1 (v2_1 + v2_3) v2_2) v2_2 (v2_2 + (2 * v2_3)) v2_3
  else
   (v2_0, v2_3, v2_1)
def Qgp (n0 : Nat) (p1 : Int) (_v2_0 : List Fld) (v2_1 : Int) (v2_2 : Int) (v2_3 : Int) : List PV :=
  [.ms 0 6 0 n0, .int .i64 p1, .fn 51 [] [], .un, .un, .un, .int .i64 v2_3, .int .i64 v2_1, .int .i64 v2_2] ++ nuns 54
def Qby (_n0 : Nat) (_p1 : Int) (v2_0 : List Fld) (_v2_1 : Int) (_v2_2 : Int) (_v2_3 : Int) : List Ob :=
  [⟨6, 0, false, (Fld.rows v2_0).flatten⟩]
def Q5m (n0 : Nat) (p1 : Int) (v2_0 : List Fld) (v2_1 : Int) (v2_2 : Int) (v2_3 : Int) : En := .loop 1 Ir.Qc0 Ir.Qsi (Qgp n0 p1 v2_0 v2_1 v2_2 v2_3) (Qby n0 p1 v2_0 v2_1 v2_2 v2_3)
def Q5r (n0 : Nat) (p1 : Int) (q0 : List Fld) (q1 : Int) (q2 : Int) (z : Nat → PV) (_zo : Nat → List PV) : St :=
  ⟨[.ms 0 6 0 n0, .int .i64 p1, .fn 51 [] [], z 3, z 4, z 5, .int .i64 q1, .int .i64 q2] ++ zr z 8 55, [(0, ⟨6, 0, false, (Fld.rows q0).flatten⟩)], 193⟩
theorem Qky (n0 : Nat) (p1 : Int) (v2_0 : List Fld) (v2_1 : Int) (v2_2 : Int) (v2_3 : Int) : VOK (Go.Pv.look (number 0 (Qby n0 p1 v2_0 v2_1 v2_2 v2_3))) [(0, Fld.rows v2_0)] := (VOK.cons (show Seen _ _ from Q2q (ob := ⟨6, 0, false, (Fld.rows v2_0).flatten⟩) (Fld.Q0 v2_0 6 rfl)) VOK.nil)
def Q8z (n0 : Nat) (p1 : Int) (e : En) (q : (List Fld) × Int × Int) : Prop := ∃ z zo, Qb G e (.st (.exit 4) (Q5r n0 p1 q.1 q.2.1 q.2.2 z zo))
theorem Qf7 (n0 : Nat) (p1 : Int) {e e' : En} (h : ∀ r, Qb G e r → Qb G e' r) : ∀ q, Q8z n0 p1 e q → Q8z n0 p1 e' q
  | _, ⟨z, zo, hz⟩ => ⟨z, zo, h _ hz⟩
theorem Qnd (n0 : Nat) (p1 : Int) (v2_0 : List Fld) (v2_1 : Int) (v2_2 : Int) (v2_3 : Int) (ho2_0 : 0 ≤ v2_1) (ho2_1 : v2_1 ≤ n0) (ho2_2 : v2_1 + 2 * v2_3 = v2_2) (ho2_3 : 20 ≤ v2_3) (ho2_4 : v2_3 < p1) (ho2_5 : p1 = n0) (ho2_6 : (n0 : Int) ≤ 1152921504606846976) (ho2_7 : List.length v2_0 = n0) (h0 : (decide (v2_2 ≤ p1)) = true) {r : Rs} (hr : Qb G (Q5m n0 p1 (Q6 ((Int.toNat (v2_2 - v2_1)) + 1) n0 v2_0 v2_1 (v2_1 + v2_3) v2_2) v2_2 (v2_2 + (2 * v2_3)) v2_3) r) : Qb G (Q5m n0 p1 v2_0 v2_1 v2_2 v2_3) r := by
 have e0 := of_decide_eq_true h0
 exact Qi (Qky n0 p1 v2_0 v2_1 v2_2 v2_3) (y := (Qgp n0 p1 (Q6 ((Int.toNat (v2_2 - v2_1)) + 1) n0 v2_0 v2_1 (v2_1 + v2_3) v2_2) v2_2 (v2_2 + (2 * v2_3)) v2_3, Qby n0 p1 (Q6 ((Int.toNat (v2_2 - v2_1)) + 1) n0 v2_0 v2_1 (v2_1 + v2_3) v2_2) v2_2 (v2_2 + (2 * v2_3)) v2_3)) [hB 2 h0, hP 4 (w_ok (v2_1 + v2_3) (by omega)), hQ (Fld.Q0 (Q6 ((Int.toNat (v2_2 - v2_1)) + 1) n0 v2_0 v2_1 (v2_1 + v2_3) v2_2) 6 rfl), hP 7 (w_ok (2 * v2_3) (by have f0 := (Q8 ((Int.toNat (v2_2 - v2_1)) + 1) n0 v2_0 v2_1 (v2_1 + v2_3) v2_2 ho2_7); omega)), hP 0 (w_ok (v2_2 + (2 * v2_3)) (by have f0 := (Q8 ((Int.toNat (v2_2 - v2_1)) + 1) n0 v2_0 v2_1 (v2_1 + v2_3) v2_2 ho2_7); omega))] [aV [(0, Fld.rows (Q6 ((Int.toNat (v2_2 - v2_1)) + 1) n0 v2_0 v2_1 (v2_1 + v2_3) v2_2))] (Qbj ((Int.toNat (v2_2 - v2_1)) + 1) n0 v2_0 v2_1 (v2_1 + v2_3) v2_2 ho2_7 (by omega) (by omega))] (by kernel_rfl) hr
def Qcq (_n0 : Nat) (p1 : Int) (_v2_0 : List Fld) (_v2_1 : Int) (v2_2 : Int) (_v2_3 : Int) : List PV :=
  nuns 8 ++ [.int .i64 v2_2] ++ nuns 24 ++ [.int .i64 v2_2, .int .i64 p1, .bool false]
def Qae (_n0 : Nat) (_p1 : Int) (_v2_0 : List Fld) (_v2_1 : Int) (_v2_2 : Int) (_v2_3 : Int) : List (Nat × List PV) :=
  []
theorem Qna (n0 : Nat) (p1 : Int) (v2_0 : List Fld) (v2_1 : Int) (v2_2 : Int) (v2_3 : Int) (_ho2_0 : 0 ≤ v2_1) (_ho2_1 : v2_1 ≤ n0) (_ho2_2 : v2_1 + 2 * v2_3 = v2_2) (_ho2_3 : 20 ≤ v2_3) (_ho2_4 : v2_3 < p1) (_ho2_5 : p1 = n0) (_ho2_6 : (n0 : Int) ≤ 1152921504606846976) (_ho2_7 : List.length v2_0 = n0) (h0 : (decide (v2_2 ≤ p1)) = false) : Q8z n0 p1 (Q5m n0 p1 v2_0 v2_1 v2_2 v2_3) (v2_0, v2_3, v2_1) := by
 exact ⟨(envF (Qcq n0 p1 v2_0 v2_1 v2_2 v2_3)), (zoF (Qae n0 p1 v2_0 v2_1 v2_2 v2_3)), Qn (Qky n0 p1 v2_0 v2_1 v2_2 v2_3) (x := ((.exit 4), Q5r n0 p1 v2_0 v2_3 v2_1 (envF (Qcq n0 p1 v2_0 v2_1 v2_2 v2_3)) (zoF (Qae n0 p1 v2_0 v2_1 v2_2 v2_3)))) [hB 2 h0] [] (by kernel_rfl)⟩
theorem Qha (n0 : Nat) (p1 : Int) : ∀ (k2 : Nat) (v2_0 : List Fld) (v2_1 : Int) (v2_2 : Int) (v2_3 : Int), 0 ≤ v2_1 → v2_1 ≤ n0 → v2_1 + 2 * v2_3 = v2_2 → 20 ≤ v2_3 → v2_3 < p1 → p1 = n0 → (n0 : Int) ≤ 1152921504606846976 → List.length v2_0 = n0 → Int.toNat (p1 + 2 * v2_3 - v2_2) < k2 → Q8z n0 p1 (Q5m n0 p1 v2_0 v2_1 v2_2 v2_3) (Qa n0 p1 k2 v2_0 v2_1 v2_2 v2_3)
 | 0, v2_0, v2_1, v2_2, v2_3, _, _, _, _, _, _, _, _, hm => absurd hm (Nat.not_lt_zero _)
 | k2 + 1, v2_0, v2_1, v2_2, v2_3, ho2_0, ho2_1, ho2_2, ho2_3, ho2_4, ho2_5, ho2_6, ho2_7, hm => by
  rw [Qa]
  cases h0 : (decide (v2_2 ≤ p1)) with
  | true =>
   have e0 := of_decide_eq_true h0
   exact Qf7 n0 p1 (fun r hr => Qnd n0 p1 v2_0 v2_1 v2_2 v2_3 ho2_0 ho2_1 ho2_2 ho2_3 ho2_4 ho2_5 ho2_6 ho2_7 h0 hr) _ (Qha n0 p1 k2 (Q6 ((Int.toNat (v2_2 - v2_1)) + 1) n0 v2_0 v2_1 (v2_1 + v2_3) v2_2) v2_2 (v2_2 + (2 * v2_3)) v2_3 (by have f0 := (Q8 ((Int.toNat (v2_2 - v2_1)) + 1) n0 v2_0 v2_1 (v2_1 + v2_3) v2_2 ho2_7); omega) (by have f0 := (Q8 ((Int.toNat (v2_2 - v2_1)) + 1) n0 v2_0 v2_1 (v2_1 + v2_3) v2_2 ho2_7); omega) (by have f0 := (Q8 ((Int.toNat (v2_2 - v2_1)) + 1) n0 v2_0 v2_1 (v2_1 + v2_3) v2_2 ho2_7); omega) (by have f0 := (Q8 ((Int.toNat (v2_2 - v2_1)) + 1) n0 v2_0 v2_1 (v2_1 + v2_3) v2_2 ho2_7); omega) (by have f0 := (Q8 ((Int.toNat (v2_2 - v2_1)) + 1) n0 v2_0 v2_1 (v2_1 + v2_3) v2_2 ho2_7); omega) (by have f0 := (Q8 ((Int.toNat (v2_2 - v2_1)) + 1) n0 v2_0 v2_1 (v2_1 + v2_3) v2_2 ho2_7); omega) (by have f0 := (Q8 ((Int.toNat (v2_2 - v2_1)) + 1) n0 v2_0 v2_1 (v2_1 + v2_3) v2_2 ho2_7); omega) (Q8 ((Int.toNat (v2_2 - v2_1)) + 1) n0 v2_0 v2_1 (v2_1 + v2_3) v2_2 ho2_7) (by have f0 := (Q8 ((Int.toNat (v2_2 - v2_1)) + 1) n0 v2_0 v2_1 (v2_1 + v2_3) v2_2 ho2_7); omega))
  | false =>
   exact Qna n0 p1 v2_0 v2_1 v2_2 v2_3 ho2_0 ho2_1 ho2_2 ho2_3 ho2_4 ho2_5 ho2_6 ho2_7 h0
theorem Q11 (n0 : Nat) (p1 : Int) : ∀ (k2 : Nat) (v2_0 : List Fld) (v2_1 : Int) (v2_2 : Int) (v2_3 : Int), List.length v2_0 = n0 → List.length (Qa n0 p1 k2 v2_0 v2_1 v2_2 v2_3).1 = n0
 | 0, v2_0, v2_1, v2_2, v2_3, ho2_7 => by rw [Qa]; exact ho2_7
 | k2 + 1, v2_0, v2_1, v2_2, v2_3, ho2_7 => by
  rw [Qa]
  cases h0 : (decide (v2_2 ≤ p1)) with
  | true =>
   exact Q11 n0 p1 k2 (Q6 ((Int.toNat (v2_2 - v2_1)) + 1) n0 v2_0 v2_1 (v2_1 + v2_3) v2_2) v2_2 (v2_2 + (2 * v2_3)) v2_3 (Q8 ((Int.toNat (v2_2 - v2_1)) + 1) n0 v2_0 v2_1 (v2_1 + v2_3) v2_2 ho2_7)
  | false =>
   exact ho2_7
theorem Q1q (n0 : Nat) (p1 : Int) : ∀ (k2 : Nat) (v2_0 : List Fld) (v2_1 : Int) (v2_2 : Int) (v2_3 : Int), 0 ≤ v2_1 → v2_1 ≤ n0 → v2_1 + 2 * v2_3 = v2_2 → 20 ≤ v2_3 → v2_3 < p1 → p1 = n0 → (n0 : Int) ≤ 1152921504606846976 → List.length v2_0 = n0 → Int.toNat (p1 + 2 * v2_3 - v2_2) < k2 → 0 ≤ (Qa n0 p1 k2 v2_0 v2_1 v2_2 v2_3).2.2 ∧ (Qa n0 p1 k2 v2_0 v2_1 v2_2 v2_3).2.2 ≤ n0 ∧ (Qa n0 p1 k2 v2_0 v2_1 v2_2 v2_3).2.1 = v2_3
 | 0, v2_0, v2_1, v2_2, v2_3, _, _, _, _, _, _, _, _, hm => absurd hm (Nat.not_lt_zero _)
 | k2 + 1, v2_0, v2_1, v2_2, v2_3, ho2_0, ho2_1, ho2_2, ho2_3, ho2_4, ho2_5, ho2_6, ho2_7, hm => by
  rw [Qa]
  cases h0 : (decide (v2_2 ≤ p1)) with
  | true =>
   have e0 := of_decide_eq_true h0
   exact Q1q n0 p1 k2 (Q6 ((Int.toNat (v2_2 - v2_1)) + 1) n0 v2_0 v2_1 (v2_1 + v2_3) v2_2) v2_2 (v2_2 + (2 * v2_3)) v2_3 (by have f0 := (Q8 ((Int.toNat (v2_2 - v2_1)) + 1) n0 v2_0 v2_1 (v2_1 + v2_3) v2_2 ho2_7); omega) (by have f0 := (Q8 ((Int.toNat (v2_2 - v2_1)) + 1) n0 v2_0 v2_1 (v2_1 + v2_3) v2_2 ho2_7); omega) (by have f0 := (Q8 ((Int.toNat (v2_2 - v2_1)) + 1) n0 v2_0 v2_1 (v2_1 + v2_3) v2_2 ho2_7); omega) (by have f0 := (Q8 ((Int.toNat (v2_2 - v2_1)) + 1) n0 v2_0 v2_1 (v2_1 + v2_3) v2_2 ho2_7); omega) (by have f0 := (Q8 ((Int.toNat (v2_2 - v2_1)) + 1) n0 v2_0 v2_1 (v2_1 + v2_3) v2_2 ho2_7); omega) (by have f0 := (Q8 ((Int.toNat (v2_2 - v2_1)) + 1) n0 v2_0 v2_1 (v2_1 + v2_3) v2_2 ho2_7); omega) (by have f0 := (Q8 ((Int.toNat (v2_2 - v2_1)) + 1) n0 v2_0 v2_1 (v2_1 + v2_3) v2_2 ho2_7); omega) (Q8 ((Int.toNat (v2_2 - v2_1)) + 1) n0 v2_0 v2_1 (v2_1 + v2_3) v2_2 ho2_7) (by have f0 := (Q8 ((Int.toNat (v2_2 - v2_1)) + 1) n0 v2_0 v2_1 (v2_1 + v2_3) v2_2 ho2_7); omega)
  | false =>
   have e0 := of_decide_eq_false h0
   exact (show 0 ≤ v2_1 ∧ v2_1 ≤ n0 ∧ v2_3 = v2_3 from ⟨(by omega), (by omega), (by omega)⟩)
def Q22 (n0 : Nat) (p1 : Int) : Nat → (List Fld) → Int → List Fld
 | 0, v1_0, _v1_1 => v1_0
 | k1 + 1, v1_0, v1_1 =>
  bif (decide (v1_1 < p1)) then
   bif (decide (((Qa n0 p1 ((Int.toNat (p1 + 2 * v1_1 - (2 * v1_1))) + 1) v1_0 0 (2 * v1_1) v1_1).2.2 + (Qa n0 p1 ((Int.toNat (p1 + 2 * v1_1 - (2 * v1_1))) + 1) v1_0 0 (2 * v1_1) v1_1).2.1) < p1)) then
    Q22 n0 p1 k1 (Q6 ((Int.toNat (p1 - (Qa n0 p1 ((Int.toNat (p1 + 2 * v1_1 - (2 * v1_1))) + 1) v1_0 0 (2 * v1_1) v1_1).2.2)) + 1) n0 (Qa n0 p1 ((Int.toNat (p1 + 2 * v1_1 - (2 * v1_1))) + 1) v1_0 0 (2 * v1_1) v1_1).1 (Qa n0 p1 ((Int.toNat (p1 + 2 * v1_1 - (2 * v1_1))) + 1) v1_0 0 (2 * v1_1) v1_1).2.2 ((Qa n0 p1 ((Int.toNat (p1 + 2 * v1_1 - (2 * v1_1))) + 1) v1_0 0 (2 * v1_1) v1_1).2.2 + (Qa n0 p1 ((Int.toNat (p1 + 2 * v1_1 - (2 * v1_1))) + 1) v1_0 0 (2 * v1_1) v1_1).2.1) p1) ((Qa n0 p1 ((Int.toNat (p1 + 2 * v1_1 - (2 * v1_1))) + 1) v1_0 0 (2 * v1_1) v1_1).2.1 * 2)
   else
    Q22 n0 p1 k1 (Qa n0 p1 ((Int.toNat (p1 + 2 * v1_1 - (2 * v1_1))) + 1) v1_0 0 (2 * v1_1) v1_1).1 ((Qa n0 p1 ((Int.toNat (p1 + 2 * v1_1 - (2 * v1_1))) + 1) v1_0 0 (2 * v1_1) v1_1).2.1 * 2)
  else
   v1_0
def Qbt (n0 : Nat) (p1 : Int) (_v1_0 : List Fld) (v1_1 : Int) : List PV :=
  [.ms 0 6 0 n0, .int .i64 p1, .fn 51 [] [], .un, .un, .un, .int .i64 v1_1] ++ nuns 56
def Q6w (_n0 : Nat) (_p1 : Int) (v1_0 : List Fld) (_v1_1 : Int) : List Ob :=
  [⟨6, 0, false, (Fld.rows v1_0).flatten⟩]
def Q5j (n0 : Nat) (p1 : Int) (v1_0 : List Fld) (v1_1 : Int) : En := .loop 1 Ir.Qbd Ir.Qsa (Qbt n0 p1 v1_0 v1_1) (Q6w n0 p1 v1_0 v1_1)
def Qdx (_n0 : Nat) (_p1 : Int) (q0 : List Fld) (z : Nat → PV) (_zo : Nat → List PV) : St :=
  ⟨zr z 0 63, [(0, ⟨6, 0, false, (Fld.rows q0).flatten⟩)], 193⟩
theorem Qfx (n0 : Nat) (p1 : Int) (v1_0 : List Fld) (v1_1 : Int) : VOK (Go.Pv.look (number 0 (Q6w n0 p1 v1_0 v1_1))) [(0, Fld.rows v1_0)] := (VOK.cons (show Seen _ _ from Q2q (ob := ⟨6, 0, false, (Fld.rows v1_0).flatten⟩) (Fld.Q0 v1_0 6 rfl)) VOK.nil)
def Q8r (n0 : Nat) (p1 : Int) (e : En) (q : List Fld) : Prop := ∃ z zo, Qb G e (.st (.exit 2) (Qdx n0 p1 q z zo))
theorem Q73 (n0 : Nat) (p1 : Int) {e e' : En} (h : ∀ r, Qb G e r → Qb G e' r) : ∀ q, Q8r n0 p1 e q → Q8r n0 p1 e' q
  | _, ⟨z, zo, hz⟩ => ⟨z, zo, h _ hz⟩
theorem Qnb (n0 : Nat) (p1 : Int) (v1_0 : List Fld) (v1_1 : Int) (ho1_0 : 20 ≤ v1_1) (ho1_1 : p1 = n0) (ho1_2 : (n0 : Int) ≤ 1152921504606846976) (ho1_3 : List.length v1_0 = n0) (h0 : (decide (v1_1 < p1)) = true) (z1 : Nat → PV) (zo1 : Nat → List PV) (hl1 : Qb G (Q5m n0 p1 v1_0 0 (2 * v1_1) v1_1) (.st (.exit 4) (Q5r n0 p1 (Qa n0 p1 ((Int.toNat (p1 + 2 * v1_1 - (2 * v1_1))) + 1) v1_0 0 (2 * v1_1) v1_1).1 (Qa n0 p1 ((Int.toNat (p1 + 2 * v1_1 - (2 * v1_1))) + 1) v1_0 0 (2 * v1_1) v1_1).2.1 (Qa n0 p1 ((Int.toNat (p1 + 2 * v1_1 - (2 * v1_1))) + 1) v1_0 0 (2 * v1_1) v1_1).2.2 z1 zo1))) (h1 : (decide (((Qa n0 p1 ((Int.toNat (p1 + 2 * v1_1 - (2 * v1_1))) + 1) v1_0 0 (2 * v1_1) v1_1).2.2 + (Qa n0 p1 ((Int.toNat (p1 + 2 * v1_1 - (2 * v1_1))) + 1) v1_0 0 (2 * v1_1) v1_1).2.1) < p1)) = true) {r : Rs} (hr : Qb G (Q5j n0 p1 (Q6 ((Int.toNat (p1 - (Qa n0 p1 ((Int.toNat (p1 + 2 * v1_1 - (2 * v1_1))) + 1) v1_0 0 (2 * v1_1) v1_1).2.2)) + 1) n0 (Qa n0 p1 ((Int.toNat (p1 + 2 * v1_1 - (2 * v1_1))) + 1) v1_0 0 (2 * v1_1) v1_1).1 (Qa n0 p1 ((Int.toNat (p1 + 2 * v1_1 - (2 * v1_1))) + 1) v1_0 0 (2 * v1_1) v1_1).2.2 ((Qa n0 p1 ((Int.toNat (p1 + 2 * v1_1 - (2 * v1_1))) + 1) v1_0 0 (2 * v1_1) v1_1).2.2 + (Qa n0 p1 ((Int.toNat (p1 + 2 * v1_1 - (2 * v1_1))) + 1) v1_0 0 (2 * v1_1) v1_1).2.1) p1) ((Qa n0 p1 ((Int.toNat (p1 + 2 * v1_1 - (2 * v1_1))) + 1) v1_0 0 (2 * v1_1) v1_1).2.1 * 2)) r) : Qb G (Q5j n0 p1 v1_0 v1_1) r := by
 have e0 := of_decide_eq_true h0; have e1 := of_decide_eq_true h1
 exact Qi (Qfx n0 p1 v1_0 v1_1) (y := (Qbt n0 p1 (Q6 ((Int.toNat (p1 - (Qa n0 p1 ((Int.toNat (p1 + 2 * v1_1 - (2 * v1_1))) + 1) v1_0 0 (2 * v1_1) v1_1).2.2)) + 1) n0 (Qa n0 p1 ((Int.toNat (p1 + 2 * v1_1 - (2 * v1_1))) + 1) v1_0 0 (2 * v1_1) v1_1).1 (Qa n0 p1 ((Int.toNat (p1 + 2 * v1_1 - (2 * v1_1))) + 1) v1_0 0 (2 * v1_1) v1_1).2.2 ((Qa n0 p1 ((Int.toNat (p1 + 2 * v1_1 - (2 * v1_1))) + 1) v1_0 0 (2 * v1_1) v1_1).2.2 + (Qa n0 p1 ((Int.toNat (p1 + 2 * v1_1 - (2 * v1_1))) + 1) v1_0 0 (2 * v1_1) v1_1).2.1) p1) ((Qa n0 p1 ((Int.toNat (p1 + 2 * v1_1 - (2 * v1_1))) + 1) v1_0 0 (2 * v1_1) v1_1).2.1 * 2), Q6w n0 p1 (Q6 ((Int.toNat (p1 - (Qa n0 p1 ((Int.toNat (p1 + 2 * v1_1 - (2 * v1_1))) + 1) v1_0 0 (2 * v1_1) v1_1).2.2)) + 1) n0 (Qa n0 p1 ((Int.toNat (p1 + 2 * v1_1 - (2 * v1_1))) + 1) v1_0 0 (2 * v1_1) v1_1).1 (Qa n0 p1 ((Int.toNat (p1 + 2 * v1_1 - (2 * v1_1))) + 1) v1_0 0 (2 * v1_1) v1_1).2.2 ((Qa n0 p1 ((Int.toNat (p1 + 2 * v1_1 - (2 * v1_1))) + 1) v1_0 0 (2 * v1_1) v1_1).2.2 + (Qa n0 p1 ((Int.toNat (p1 + 2 * v1_1 - (2 * v1_1))) + 1) v1_0 0 (2 * v1_1) v1_1).2.1) p1) ((Qa n0 p1 ((Int.toNat (p1 + 2 * v1_1 - (2 * v1_1))) + 1) v1_0 0 (2 * v1_1) v1_1).2.1 * 2))) [hB 2 h0, hP 1 (w_ok (2 * v1_1) (by omega)), hS 0 false (Fld.Q0 (Qa n0 p1 ((Int.toNat (p1 + 2 * v1_1 - (2 * v1_1))) + 1) v1_0 0 (2 * v1_1) v1_1).1 6 rfl), hP 4 (w_ok ((Qa n0 p1 ((Int.toNat (p1 + 2 * v1_1 - (2 * v1_1))) + 1) v1_0 0 (2 * v1_1) v1_1).2.2 + (Qa n0 p1 ((Int.toNat (p1 + 2 * v1_1 - (2 * v1_1))) + 1) v1_0 0 (2 * v1_1) v1_1).2.1) (by have f0 := (Q11 n0 p1 ((Int.toNat (p1 + 2 * v1_1 - (2 * v1_1))) + 1) v1_0 0 (2 * v1_1) v1_1 ho1_3); have g0 := Q1q n0 p1 ((Int.toNat (p1 + 2 * v1_1 - (2 * v1_1))) + 1) v1_0 0 (2 * v1_1) v1_1 (by omega) (by omega) (by omega) (by omega) (by omega) (by omega) (by omega) ho1_3 (by omega); omega)), hB 3 h1, hQ (Fld.Q0 (Q6 ((Int.toNat (p1 - (Qa n0 p1 ((Int.toNat (p1 + 2 * v1_1 - (2 * v1_1))) + 1) v1_0 0 (2 * v1_1) v1_1).2.2)) + 1) n0 (Qa n0 p1 ((Int.toNat (p1 + 2 * v1_1 - (2 * v1_1))) + 1) v1_0 0 (2 * v1_1) v1_1).1 (Qa n0 p1 ((Int.toNat (p1 + 2 * v1_1 - (2 * v1_1))) + 1) v1_0 0 (2 * v1_1) v1_1).2.2 ((Qa n0 p1 ((Int.toNat (p1 + 2 * v1_1 - (2 * v1_1))) + 1) v1_0 0 (2 * v1_1) v1_1).2.2 + (Qa n0 p1 ((Int.toNat (p1 + 2 * v1_1 - (2 * v1_1))) + 1) v1_0 0 (2 * v1_1) v1_1).2.1) p1) 6 rfl), hP 7 (w_ok ((Qa n0 p1 ((Int.toNat (p1 + 2 * v1_1 - (2 * v1_1))) + 1) v1_0 0 (2 * v1_1) v1_1).2.1 * 2) (by have f0 := (Q8 ((Int.toNat (p1 - (Qa n0 p1 ((Int.toNat (p1 + 2 * v1_1 - (2 * v1_1))) + 1) v1_0 0 (2 * v1_1) v1_1).2.2)) + 1) n0 (Qa n0 p1 ((Int.toNat (p1 + 2 * v1_1 - (2 * v1_1))) + 1) v1_0 0 (2 * v1_1) v1_1).1 (Qa n0 p1 ((Int.toNat (p1 + 2 * v1_1 - (2 * v1_1))) + 1) v1_0 0 (2 * v1_1) v1_1).2.2 ((Qa n0 p1 ((Int.toNat (p1 + 2 * v1_1 - (2 * v1_1))) + 1) v1_0 0 (2 * v1_1) v1_1).2.2 + (Qa n0 p1 ((Int.toNat (p1 + 2 * v1_1 - (2 * v1_1))) + 1) v1_0 0 (2 * v1_1) v1_1).2.1) p1 (Q11 n0 p1 ((Int.toNat (p1 + 2 * v1_1 - (2 * v1_1))) + 1) v1_0 0 (2 * v1_1) v1_1 ho1_3)); have g0 := Q1q n0 p1 ((Int.toNat (p1 + 2 * v1_1 - (2 * v1_1))) + 1) v1_0 0 (2 * v1_1) v1_1 (by omega) (by omega) (by omega) (by omega) (by omega) (by omega) (by omega) ho1_3 (by omega); omega))] [aV [(0, Fld.rows (Qa n0 p1 ((Int.toNat (p1 + 2 * v1_1 - (2 * v1_1))) + 1) v1_0 0 (2 * v1_1) v1_1).1)] hl1, aV [(0, Fld.rows (Q6 ((Int.toNat (p1 - (Qa n0 p1 ((Int.toNat (p1 + 2 * v1_1 - (2 * v1_1))) + 1) v1_0 0 (2 * v1_1) v1_1).2.2)) + 1) n0 (Qa n0 p1 ((Int.toNat (p1 + 2 * v1_1 - (2 * v1_1))) + 1) v1_0 0 (2 * v1_1) v1_1).1 (Qa n0 p1 ((Int.toNat (p1 + 2 * v1_1 - (2 * v1_1))) + 1) v1_0 0 (2 * v1_1) v1_1).2.2 ((Qa n0 p1 ((Int.toNat (p1 + 2 * v1_1 - (2 * v1_1))) + 1) v1_0 0 (2 * v1_1) v1_1).2.2 + (Qa n0 p1 ((Int.toNat (p1 + 2 * v1_1 - (2 * v1_1))) + 1) v1_0 0 (2 * v1_1) v1_1).2.1) p1))] (Qbj ((Int.toNat (p1 - (Qa n0 p1 ((Int.toNat (p1 + 2 * v1_1 - (2 * v1_1))) + 1) v1_0 0 (2 * v1_1) v1_1).2.2)) + 1) n0 (Qa n0 p1 ((Int.toNat (p1 + 2 * v1_1 - (2 * v1_1))) + 1) v1_0 0 (2 * v1_1) v1_1).1 (Qa n0 p1 ((Int.toNat (p1 + 2 * v1_1 - (2 * v1_1))) + 1) v1_0 0 (2 * v1_1) v1_1).2.2 ((Qa n0 p1 ((Int.toNat (p1 + 2 * v1_1 - (2 * v1_1))) + 1) v1_0 0 (2 * v1_1) v1_1).2.2 + (Qa n0 p1 ((Int.toNat (p1 + 2 * v1_1 - (2 * v1_1))) + 1) v1_0 0 (2 * v1_1) v1_1).2.1) p1 (Q11 n0 p1 ((Int.toNat (p1 + 2 * v1_1 - (2 * v1_1))) + 1) v1_0 0 (2 * v1_1) v1_1 ho1_3) (by have f0 := (Q11 n0 p1 ((Int.toNat (p1 + 2 * v1_1 - (2 * v1_1))) + 1) v1_0 0 (2 * v1_1) v1_1 ho1_3); have g0 := Q1q n0 p1 ((Int.toNat (p1 + 2 * v1_1 - (2 * v1_1))) + 1) v1_0 0 (2 * v1_1) v1_1 (by omega) (by omega) (by omega) (by omega) (by omega) (by omega) (by omega) ho1_3 (by omega); omega) (by omega))] (by kernel_rfl) hr
theorem Qn1 (n0 : Nat) (p1 : Int) (v1_0 : List Fld) (v1_1 : Int) (ho1_0 : 20 ≤ v1_1) (ho1_1 : p1 = n0) (ho1_2 : (n0 : Int) ≤ 1152921504606846976) (ho1_3 : List.length v1_0 = n0) (h0 : (decide (v1_1 < p1)) = true) (z1 : Nat → PV) (zo1 : Nat → List PV) (hl1 : Qb G (Q5m n0 p1 v1_0 0 (2 * v1_1) v1_1) (.st (.exit 4) (Q5r n0 p1 (Qa n0 p1 ((Int.toNat (p1 + 2 * v1_1 - (2 * v1_1))) + 1) v1_0 0 (2 * v1_1) v1_1).1 (Qa n0 p1 ((Int.toNat (p1 + 2 * v1_1 - (2 * v1_1))) + 1) v1_0 0 (2 * v1_1) v1_1).2.1 (Qa n0 p1 ((Int.toNat (p1 + 2 * v1_1 - (2 * v1_1))) + 1) v1_0 0 (2 * v1_1) v1_1).2.2 z1 zo1))) (h1 : (decide (((Qa n0 p1 ((Int.toNat (p1 + 2 * v1_1 - (2 * v1_1))) + 1) v1_0 0 (2 * v1_1) v1_1).2.2 + (Qa n0 p1 ((Int.toNat (p1 + 2 * v1_1 - (2 * v1_1))) + 1) v1_0 0 (2 * v1_1) v1_1).2.1) < p1)) = false) {r : Rs} (hr : Qb G (Q5j n0 p1 (Qa n0 p1 ((Int.toNat (p1 + 2 * v1_1 - (2 * v1_1))) + 1) v1_0 0 (2 * v1_1) v1_1).1 ((Qa n0 p1 ((Int.toNat (p1 + 2 * v1_1 - (2 * v1_1))) + 1) v1_0 0 (2 * v1_1) v1_1).2.1 * 2)) r) : Qb G (Q5j n0 p1 v1_0 v1_1) r := by
 have e0 := of_decide_eq_true h0; have e1 := of_decide_eq_false h1
 exact Qi (Qfx n0 p1 v1_0 v1_1) (y := (Qbt n0 p1 (Qa n0 p1 ((Int.toNat (p1 + 2 * v1_1 - (2 * v1_1))) + 1) v1_0 0 (2 * v1_1) v1_1).1 ((Qa n0 p1 ((Int.toNat (p1 + 2 * v1_1 - (2 * v1_1))) + 1) v1_0 0 (2 * v1_1) v1_1).2.1 * 2), Q6w n0 p1 (Qa n0 p1 ((Int.toNat (p1 + 2 * v1_1 - (2 * v1_1))) + 1) v1_0 0 (2 * v1_1) v1_1).1 ((Qa n0 p1 ((Int.toNat (p1 + 2 * v1_1 - (2 * v1_1))) + 1) v1_0 0 (2 * v1_1) v1_1).2.1 * 2))) [hB 2 h0, hP 1 (w_ok (2 * v1_1) (by omega)), hS 0 false (Fld.Q0 (Qa n0 p1 ((Int.toNat (p1 + 2 * v1_1 - (2 * v1_1))) + 1) v1_0 0 (2 * v1_1) v1_1).1 6 rfl), hP 4 (w_ok ((Qa n0 p1 ((Int.toNat (p1 + 2 * v1_1 - (2 * v1_1))) + 1) v1_0 0 (2 * v1_1) v1_1).2.2 + (Qa n0 p1 ((Int.toNat (p1 + 2 * v1_1 - (2 * v1_1))) + 1) v1_0 0 (2 * v1_1) v1_1).2.1) (by have f0 := (Q11 n0 p1 ((Int.toNat (p1 + 2 * v1_1 - (2 * v1_1))) + 1) v1_0 0 (2 * v1_1) v1_1 ho1_3); have g0 := Q1q n0 p1 ((Int.toNat (p1 + 2 * v1_1 - (2 * v1_1))) + 1) v1_0 0 (2 * v1_1) v1_1 (by omega) (by omega) (by omega) (by omega) (by omega) (by omega) (by omega) ho1_3 (by omega); omega)), hB 3 h1, hP 1 (w_ok ((Qa n0 p1 ((Int.toNat (p1 + 2 * v1_1 - (2 * v1_1))) + 1) v1_0 0 (2 * v1_1) v1_1).2.1 * 2) (by have f0 := (Q11 n0 p1 ((Int.toNat (p1 + 2 * v1_1 - (2 * v1_1))) + 1) v1_0 0 (2 * v1_1) v1_1 ho1_3); have g0 := Q1q n0 p1 ((Int.toNat (p1 + 2 * v1_1 - (2 * v1_1))) + 1) v1_0 0 (2 * v1_1) v1_1 (by omega) (by omega) (by omega) (by omega) (by omega) (by omega) (by omega) ho1_3 (by omega); omega))] [aV [(0, Fld.rows (Qa n0 p1 ((Int.toNat (p1 + 2 * v1_1 - (2 * v1_1))) + 1) v1_0 0 (2 * v1_1) v1_1).1)] hl1] (by kernel_rfl) hr
def Qeh (n0 : Nat) (p1 : Int) (_v1_0 : List Fld) (v1_1 : Int) : List PV :=
  [.ms 0 6 0 n0, .int .i64 p1, .fn 51 [] [], .un, .un, .un, .int .i64 v1_1] ++ nuns 21 ++ [.int .i64 v1_1, .int .i64 p1, .bool false]
def Q9l (_n0 : Nat) (_p1 : Int) (_v1_0 : List Fld) (_v1_1 : Int) : List (Nat × List PV) :=
  []
theorem Qnc (n0 : Nat) (p1 : Int) (v1_0 : List Fld) (v1_1 : Int) (_ho1_0 : 20 ≤ v1_1) (_ho1_1 : p1 = n0) (_ho1_2 : (n0 : Int) ≤ 1152921504606846976) (_ho1_3 : List.length v1_0 = n0) (h0 : (decide (v1_1 < p1)) = false) : Q8r n0 p1 (Q5j n0 p1 v1_0 v1_1) v1_0 := by
 exact ⟨(envF (Qeh n0 p1 v1_0 v1_1)), (zoF (Q9l n0 p1 v1_0 v1_1)), Qn (Qfx n0 p1 v1_0 v1_1) (x := ((.exit 2), Qdx n0 p1 v1_0 (envF (Qeh n0 p1 v1_0 v1_1)) (zoF (Q9l n0 p1 v1_0 v1_1)))) [hB 2 h0] [] (by kernel_rfl)⟩
theorem Qc7 (n0 : Nat) (p1 : Int) : ∀ (k1 : Nat) (v1_0 : List Fld) (v1_1 : Int), 20 ≤ v1_1 → p1 = n0 → (n0 : Int) ≤ 1152921504606846976 → List.length v1_0 = n0 → Int.toNat (p1 - v1_1) < k1 → Q8r n0 p1 (Q5j n0 p1 v1_0 v1_1) (Q22 n0 p1 k1 v1_0 v1_1)
 | 0, v1_0, v1_1, _, _, _, _, hm => absurd hm (Nat.not_lt_zero _)
 | k1 + 1, v1_0, v1_1, ho1_0, ho1_1, ho1_2, ho1_3, hm => by
  rw [Q22]
  cases h0 : (decide (v1_1 < p1)) with
  | true =>
   have e0 := of_decide_eq_true h0
   have hl1 := Qha n0 p1 ((Int.toNat (p1 + 2 * v1_1 - (2 * v1_1))) + 1) v1_0 0 (2 * v1_1) v1_1 (by omega) (by omega) (by omega) (by omega) (by omega) (by omega) (by omega) ho1_3 (by omega)
   obtain ⟨z1, zo1, hl1⟩ := hl1
   cases h1 : (decide (((Qa n0 p1 ((Int.toNat (p1 + 2 * v1_1 - (2 * v1_1))) + 1) v1_0 0 (2 * v1_1) v1_1).2.2 + (Qa n0 p1 ((Int.toNat (p1 + 2 * v1_1 - (2 * v1_1))) + 1) v1_0 0 (2 * v1_1) v1_1).2.1) < p1)) with
   | true =>
    have e1 := of_decide_eq_true h1
    exact Q73 n0 p1 (fun r hr => Qnb n0 p1 v1_0 v1_1 ho1_0 ho1_1 ho1_2 ho1_3 h0 z1 zo1 hl1 h1 hr) _ (Qc7 n0 p1 k1 (Q6 ((Int.toNat (p1 - (Qa n0 p1 ((Int.toNat (p1 + 2 * v1_1 - (2 * v1_1))) + 1) v1_0 0 (2 * v1_1) v1_1).2.2)) + 1) n0 (Qa n0 p1 ((Int.toNat (p1 + 2 * v1_1 - (2 * v1_1))) + 1) v1_0 0 (2 * v1_1) v1_1).1 (Qa n0 p1 ((Int.toNat (p1 + 2 * v1_1 - (2 * v1_1))) + 1) v1_0 0 (2 * v1_1) v1_1).2.2 ((Qa n0 p1 ((Int.toNat (p1 + 2 * v1_1 - (2 * v1_1))) + 1) v1_0 0 (2 * v1_1) v1_1).2.2 + (Qa n0 p1 ((Int.toNat (p1 + 2 * v1_1 - (2 * v1_1))) + 1) v1_0 0 (2 * v1_1) v1_1).2.1) p1) ((Qa n0 p1 ((Int.toNat (p1 + 2 * v1_1 - (2 * v1_1))) + 1) v1_0 0 (2 * v1_1) v1_1).2.1 * 2) (by have f0 := (Q8 ((Int.toNat (p1 - (Qa n0 p1 ((Int.toNat (p1 + 2 * v1_1 - (2 * v1_1))) + 1) v1_0 0 (2 * v1_1) v1_1).2.2)) + 1) n0 (Qa n0 p1 ((Int.toNat (p1 + 2 * v1_1 - (2 * v1_1))) + 1) v1_0 0 (2 * v1_1) v1_1).1 (Qa n0 p1 ((Int.toNat (p1 + 2 * v1_1 - (2 * v1_1))) + 1) v1_0 0 (2 * v1_1) v1_1).2.2 ((Qa n0 p1 ((Int.toNat (p1 + 2 * v1_1 - (2 * v1_1))) + 1) v1_0 0 (2 * v1_1) v1_1).2.2 + (Qa n0 p1 ((Int.toNat (p1 + 2 * v1_1 - (2 * v1_1))) + 1) v1_0 0 (2 * v1_1) v1_1).2.1) p1 (Q11 n0 p1 ((Int.toNat (p1 + 2 * v1_1 - (2 * v1_1))) + 1) v1_0 0 (2 * v1_1) v1_1 ho1_3)); have g0 := Q1q n0 p1 ((Int.toNat (p1 + 2 * v1_1 - (2 * v1_1))) + 1) v1_0 0 (2 * v1_1) v1_1 (by omega) (by omega) (by omega) (by omega) (by omega) (by omega) (by omega) ho1_3 (by omega); omega) (by have f0 := (Q8 ((Int.toNat (p1 - (Qa n0 p1 ((Int.toNat (p1 + 2 * v1_1 - (2 * v1_1))) + 1) v1_0 0 (2 * v1_1) v1_1).2.2)) + 1) n0 (Qa n0 p1 ((Int.toNat (p1 + 2 * v1_1 - (2 * v1_1))) + 1) v1_0 0 (2 * v1_1) v1_1).1 (Qa n0 p1 ((Int.toNat (p1 + 2 * v1_1 - (2 * v1_1))) + 1) v1_0 0 (2 * v1_1) v1_1).2.2 ((Qa n0 p1 ((Int.toNat (p1 + 2 * v1_1 - (2 * v1_1))) + 1) v1_0 0 (2 * v1_1) v1_1).2.2 + (Qa n0 p1 ((Int.toNat (p1 + 2 * v1_1 - (2 * v1_1))) + 1) v1_0 0 (2 * v1_1) v1_1).2.1) p1 (Q11 n0 p1 ((Int.toNat (p1 + 2 * v1_1 - (2 * v1_1))) + 1) v1_0 0 (2 * v1_1) v1_1 ho1_3)); have g0 := Q1q n0 p1 ((Int.toNat (p1 + 2 * v1_1 - (2 * v1_1))) + 1) v1_0 0 (2 * v1_1) v1_1 (by omega) (by omega) (by omega) (by omega) (by omega) (by omega) (by omega) ho1_3 (by omega); omega) (by have f0 := (Q8 ((Int.toNat (p1 - (Qa n0 p1 ((Int.toNat (p1 + 2 * v1_1 - (2 * v1_1))) + 1) v1_0 0 (2 * v1_1) v1_1).2.2)) + 1) n0 (Qa n0 p1 ((Int.toNat (p1 + 2 * v1_1 - (2 * v1_1))) + 1) v1_0 0 (2 * v1_1) v1_1).1 (Qa n0 p1 ((Int.toNat (p1 + 2 * v1_1 - (2 * v1_1))) + 1) v1_0 0 (2 * v1_1) v1_1).2.2 ((Qa n0 p1 ((Int.toNat (p1 + 2 * v1_1 - (2 * v1_1))) + 1) v1_0 0 (2 * v1_1) v1_1).2.2 + (Qa n0 p1 ((Int.toNat (p1 + 2 * v1_1 - (2 * v1_1))) + 1) v1_0 0 (2 * v1_1) v1_1).2.1) p1 (Q11 n0 p1 ((Int.toNat (p1 + 2 * v1_1 - (2 * v1_1))) + 1) v1_0 0 (2 * v1_1) v1_1 ho1_3)); have g0 := Q1q n0 p1 ((Int.toNat (p1 + 2 * v1_1 - (2 * v1_1))) + 1) v1_0 0 (2 * v1_1) v1_1 (by omega) (by omega) (by omega) (by omega) (by omega) (by omega) (by omega) ho1_3 (by omega); omega) (Q8 ((Int.toNat (p1 - (Qa n0 p1 ((Int.toNat (p1 + 2 * v1_1 - (2 * v1_1))) + 1) v1_0 0 (2 * v1_1) v1_1).2.2)) + 1) n0 (Qa n0 p1 ((Int.toNat (p1 + 2 * v1_1 - (2 * v1_1))) + 1) v1_0 0 (2 * v1_1) v1_1).1 (Qa n0 p1 ((Int.toNat (p1 + 2 * v1_1 - (2 * v1_1))) + 1) v1_0 0 (2 * v1_1) v1_1).2.2 ((Qa n0 p1 ((Int.toNat (p1 + 2 * v1_1 - (2 * v1_1))) + 1) v1_0 0 (2 * v1_1) v1_1).2.2 + (Qa n0 p1 ((Int.toNat (p1 + 2 * v1_1 - (2 * v1_1))) + 1) v1_0 0 (2 * v1_1) v1_1).2.1) p1 (Q11 n0 p1 ((Int.toNat (p1 + 2 * v1_1 - (2 * v1_1))) + 1) v1_0 0 (2 * v1_1) v1_1 ho1_3)) (by have f0 := (Q8 ((Int.toNat (p1 - (Qa n0 p1 ((Int.toNat (p1 + 2 * v1_1 - (2 * v1_1))) + 1) v1_0 0 (2 * v1_1) v1_1).2.2)) + 1) n0 (Qa n0 p1 ((Int.toNat (p1 + 2 * v1_1 - (2 * v1_1))) + 1) v1_0 0 (2 * v1_1) v1_1).1 (Qa n0 p1 ((Int.toNat (p1 + 2 * v1_1 - (2 * v1_1))) + 1) v1_0 0 (2 * v1_1) v1_1).2.2 ((Qa n0 p1 ((Int.toNat (p1 + 2 * v1_1 - (2 * v1_1))) + 1) v1_0 0 (2 * v1_1) v1_1).2.2 + (Qa n0 p1 ((Int.toNat (p1 + 2 * v1_1 - (2 * v1_1))) + 1) v1_0 0 (2 * v1_1) v1_1).2.1) p1 (Q11 n0 p1 ((Int.toNat (p1 + 2 * v1_1 - (2 * v1_1))) + 1) v1_0 0 (2 * v1_1) v1_1 ho1_3)); have g0 := Q1q n0 p1 ((Int.toNat (p1 + 2 * v1_1 - (2 * v1_1))) + 1) v1_0 0 (2 * v1_1) v1_1 (by omega) (by omega) (by omega) (by omega) (by omega) (by omega) (by omega) ho1_3 (by omega); omega))
   | false =>
    have e1 := of_decide_eq_false h1
    exact Q73 n0 p1 (fun r hr => Qn1 n0 p1 v1_0 v1_1 ho1_0 ho1_1 ho1_2 ho1_3 h0 z1 zo1 hl1 h1 hr) _ (Qc7 n0 p1 k1 (Qa n0 p1 ((Int.toNat (p1 + 2 * v1_1 - (2 * v1_1))) + 1) v1_0 0 (2 * v1_1) v1_1).1 ((Qa n0 p1 ((Int.toNat (p1 + 2 * v1_1 - (2 * v1_1))) + 1) v1_0 0 (2 * v1_1) v1_1).2.1 * 2) (by have f0 := (Q11 n0 p1 ((Int.toNat (p1 + 2 * v1_1 - (2 * v1_1))) + 1) v1_0 0 (2 * v1_1) v1_1 ho1_3); have g0 := Q1q n0 p1 ((Int.toNat (p1 + 2 * v1_1 - (2 * v1_1))) + 1) v1_0 0 (2 * v1_1) v1_1 (by omega) (by omega) (by omega) (by omega) (by omega) (by omega) (by omega) ho1_3 (by omega); omega) (by have f0 := (Q11 n0 p1 ((Int.toNat (p1 + 2 * v1_1 - (2 * v1_1))) + 1) v1_0 0 (2 * v1_1) v1_1 ho1_3); have g0 := Q1q n0 p1 ((Int.toNat (p1 + 2 * v1_1 - (2 * v1_1))) + 1) v1_0 0 (2 * v1_1) v1_1 (by omega) (by omega) (by omega) (by omega) (by omega) (by omega) (by omega) ho1_3 (by omega); omega) (by have f0 := (Q11 n0 p1 ((Int.toNat (p1 + 2 * v1_1 - (2 * v1_1))) + 1) v1_0 0 (2 * v1_1) v1_1 ho1_3); have g0 := Q1q n0 p1 ((Int.toNat (p1 + 2 * v1_1 - (2 * v1_1))) + 1) v1_0 0 (2 * v1_1) v1_1 (by omega) (by omega) (by omega) (by omega) (by omega) (by omega) (by omega) ho1_3 (by omega); omega) (Q11 n0 p1 ((Int.toNat (p1 + 2 * v1_1 - (2 * v1_1))) + 1) v1_0 0 (2 * v1_1) v1_1 ho1_3) (by have f0 := (Q11 n0 p1 ((Int.toNat (p1 + 2 * v1_1 - (2 * v1_1))) + 1) v1_0 0 (2 * v1_1) v1_1 ho1_3); have g0 := Q1q n0 p1 ((Int.toNat (p1 + 2 * v1_1 - (2 * v1_1))) + 1) v1_0 0 (2 * v1_1) v1_1 (by omega) (by omega) (by omega) (by omega) (by omega) (by omega) (by omega) ho1_3 (by omega); omega))
  | false =>
   exact Qnc n0 p1 v1_0 v1_1 ho1_0 ho1_1 ho1_2 ho1_3 h0
theorem Q4n (n0 : Nat) (p1 : Int) : ∀ (k1 : Nat) (v1_0 : List Fld) (v1_1 : Int), List.length v1_0 = n0 → List.length (Q22 n0 p1 k1 v1_0 v1_1) = n0
 | 0, v1_0, v1_1, ho1_3 => by rw [Q22]; exact ho1_3
 | k1 + 1, v1_0, v1_1, ho1_3 => by
  rw [Q22]
  cases h0 : (decide (v1_1 < p1)) with
  | true =>
   cases h1 : (decide (((Qa n0 p1 ((Int.toNat (p1 + 2 * v1_1 - (2 * v1_1))) + 1) v1_0 0 (2 * v1_1) v1_1).2.2 + (Qa n0 p1 ((Int.toNat (p1 + 2 * v1_1 - (2 * v1_1))) + 1) v1_0 0 (2 * v1_1) v1_1).2.1) < p1)) with
   | true =>
    exact Q4n n0 p1 k1 (Q6 ((Int.toNat (p1 - (Qa n0 p1 ((Int.toNat (p1 + 2 * v1_1 - (2 * v1_1))) + 1) v1_0 0 (2 * v1_1) v1_1).2.2)) + 1) n0 (Qa n0 p1 ((Int.toNat (p1 + 2 * v1_1 - (2 * v1_1))) + 1) v1_0 0 (2 * v1_1) v1_1).1 (Qa n0 p1 ((Int.toNat (p1 + 2 * v1_1 - (2 * v1_1))) + 1) v1_0 0 (2 * v1_1) v1_1).2.2 ((Qa n0 p1 ((Int.toNat (p1 + 2 * v1_1 - (2 * v1_1))) + 1) v1_0 0 (2 * v1_1) v1_1).2.2 + (Qa n0 p1 ((Int.toNat (p1 + 2 * v1_1 - (2 * v1_1))) + 1) v1_0 0 (2 * v1_1) v1_1).2.1) p1) ((Qa n0 p1 ((Int.toNat (p1 + 2 * v1_1 - (2 * v1_1))) + 1) v1_0 0 (2 * v1_1) v1_1).2.1 * 2) (Q8 ((Int.toNat (p1 - (Qa n0 p1 ((Int.toNat (p1 + 2 * v1_1 - (2 * v1_1))) + 1) v1_0 0 (2 * v1_1) v1_1).2.2)) + 1) n0 (Qa n0 p1 ((Int.toNat (p1 + 2 * v1_1 - (2 * v1_1))) + 1) v1_0 0 (2 * v1_1) v1_1).1 (Qa n0 p1 ((Int.toNat (p1 + 2 * v1_1 - (2 * v1_1))) + 1) v1_0 0 (2 * v1_1) v1_1).2.2 ((Qa n0 p1 ((Int.toNat (p1 + 2 * v1_1 - (2 * v1_1))) + 1) v1_0 0 (2 * v1_1) v1_1).2.2 + (Qa n0 p1 ((Int.toNat (p1 + 2 * v1_1 - (2 * v1_1))) + 1) v1_0 0 (2 * v1_1) v1_1).2.1) p1 (Q11 n0 p1 ((Int.toNat (p1 + 2 * v1_1 - (2 * v1_1))) + 1) v1_0 0 (2 * v1_1) v1_1 ho1_3))
   | false =>
    exact Q4n n0 p1 k1 (Qa n0 p1 ((Int.toNat (p1 + 2 * v1_1 - (2 * v1_1))) + 1) v1_0 0 (2 * v1_1) v1_1).1 ((Qa n0 p1 ((Int.toNat (p1 + 2 * v1_1 - (2 * v1_1))) + 1) v1_0 0 (2 * v1_1) v1_1).2.1 * 2) (Q11 n0 p1 ((Int.toNat (p1 + 2 * v1_1 - (2 * v1_1))) + 1) v1_0 0 (2 * v1_1) v1_1 ho1_3)
  | false =>
   exact ho1_3
def Q2t (n0 : Nat) (p0 : List Fld) (p1 : Int) : List Fld :=
 (Q22 n0 p1 ((Int.toNat (p1 - 20)) + 1) (Q12 n0 (Q1i n0 p1 ((Int.toNat (p1 + 20 - 20)) + 1) p0 0 20).1 (Q1i n0 p1 ((Int.toNat (p1 + 20 - 20)) + 1) p0 0 20).2 p1) 20)
def Qoc (n0 : Nat) (p0 : List Fld) (p1 : Int) : En := .call 64 [.ms 0 6 0 n0, .int .i64 p1, .fn 51 [] []] [⟨6, 0, false, (Fld.rows p0).flatten⟩]
def Qiu (n0 : Nat) (p0 : List Fld) (p1 : Int) : Rs := .ret (.tup []) [⟨6, 0, false, (Fld.rows (Q2t n0 p0 p1)).flatten⟩]
theorem Qgr (n0 : Nat) (p0 : List Fld) (p1 : Int) (hn : List.length p0 = n0) : List.length (Q2t n0 p0 p1) = n0 := by
 unfold Q2t
 have hz0_0 : List.length (Q1i n0 p1 ((Int.toNat (p1 + 20 - 20)) + 1) p0 0 20).1 = n0 := Q64 n0 p1 ((Int.toNat (p1 + 20 - 20)) + 1) p0 0 20 hn
 obtain ⟨R8, eR8⟩ : ∃ R, (Q1i n0 p1 ((Int.toNat (p1 + 20 - 20)) + 1) p0 0 20) = R := ⟨_, rfl⟩
 rw [eR8] at hz0_0 ⊢
 have hz1_0 : List.length (Q22 n0 p1 ((Int.toNat (p1 - 20)) + 1) (Q12 n0 R8.1 R8.2 p1) 20) = n0 := Q4n n0 p1 ((Int.toNat (p1 - 20)) + 1) (Q12 n0 R8.1 R8.2 p1) 20 (Qr n0 R8.1 R8.2 p1 hz0_0)
 obtain ⟨R9, eR9⟩ : ∃ R, (Q22 n0 p1 ((Int.toNat (p1 - 20)) + 1) (Q12 n0 R8.1 R8.2 p1) 20) = R := ⟨_, rfl⟩
 rw [eR9] at hz1_0 ⊢
 exact hz1_0
theorem Qr7 (n0 : Nat) (p0 : List Fld) (p1 : Int) (hn : List.length p0 = n0) (hq0 : 0 ≤ p1 ∧ p1 = n0 ∧ (n0 : Int) ≤ 1152921504606846976) : Qb G (Qoc n0 p0 p1) (Qiu n0 p0 p1) := by
 unfold Qiu Q2t
 have hl0 := Qj6 n0 p1 ((Int.toNat (p1 + 20 - 20)) + 1) p0 0 20 (by omega) (by omega) (by omega) (by omega) (by omega) hn (by omega)
 have hz0_0 : List.length (Q1i n0 p1 ((Int.toNat (p1 + 20 - 20)) + 1) p0 0 20).1 = n0 := Q64 n0 p1 ((Int.toNat (p1 + 20 - 20)) + 1) p0 0 20 hn
 have hy0 : 0 ≤ (Q1i n0 p1 ((Int.toNat (p1 + 20 - 20)) + 1) p0 0 20).2 ∧ (Q1i n0 p1 ((Int.toNat (p1 + 20 - 20)) + 1) p0 0 20).2 ≤ n0 := Qhx n0 p1 ((Int.toNat (p1 + 20 - 20)) + 1) p0 0 20 (by omega) (by omega) (by omega) (by omega) (by omega) hn (by omega)
 obtain ⟨R8, eR8⟩ : ∃ R, (Q1i n0 p1 ((Int.toNat (p1 + 20 - 20)) + 1) p0 0 20) = R := ⟨_, rfl⟩
 rw [eR8] at hz0_0 hy0 hl0 ⊢
 obtain ⟨z0, zo0, hl0⟩ := hl0
 have hl1 := Qc7 n0 p1 ((Int.toNat (p1 - 20)) + 1) (Q12 n0 R8.1 R8.2 p1) 20 (by have f0 := (Qr n0 R8.1 R8.2 p1 hz0_0); have g0 := hy0; omega) (by have f0 := (Qr n0 R8.1 R8.2 p1 hz0_0); have g0 := hy0; omega) (by have f0 := (Qr n0 R8.1 R8.2 p1 hz0_0); have g0 := hy0; omega) (Qr n0 R8.1 R8.2 p1 hz0_0) (by omega)
 have hz1_0 : List.length (Q22 n0 p1 ((Int.toNat (p1 - 20)) + 1) (Q12 n0 R8.1 R8.2 p1) 20) = n0 := Q4n n0 p1 ((Int.toNat (p1 - 20)) + 1) (Q12 n0 R8.1 R8.2 p1) 20 (Qr n0 R8.1 R8.2 p1 hz0_0)
 obtain ⟨R9, eR9⟩ : ∃ R, (Q22 n0 p1 ((Int.toNat (p1 - 20)) + 1) (Q12 n0 R8.1 R8.2 p1) 20) = R := ⟨_, rfl⟩
 rw [eR9] at hz1_0 hl1 ⊢
 obtain ⟨z1, zo1, hl1⟩ := hl1
 exact Qc (fn := Ir.K15) rfl (vk1 (Fld.Q0 p0 6 rfl)) [hS 0 false (Fld.Q0 R8.1 6 rfl), hQ (Fld.Q0 (Q12 n0 R8.1 R8.2 p1) 6 rfl), hS 0 false (Fld.Q0 R9 6 rfl)] [aV [(0, Fld.rows R8.1)] hl0, aV [(0, Fld.rows (Q12 n0 R8.1 R8.2 p1))] (Qhv n0 R8.1 R8.2 p1 hz0_0 (by have g0 := hy0; omega)), aV [(0, Fld.rows R9)] hl1] (by kernel_rfl)
def Qh (n0 : Nat) (p0 : List Fld) : List Fld :=
 (Q2t n0 p0 (n0 : Int))
def Qp4 (n0 : Nat) (p0 : List Fld) : En := .call 50 [.ms 0 6 0 n0, .fn 51 [] []] [⟨6, 0, false, (Fld.rows p0).flatten⟩]
def Qgm (n0 : Nat) (p0 : List Fld) : Rs := .ret (.tup []) [⟨6, 0, false, (Fld.rows (Qh n0 p0)).flatten⟩]
theorem Q15 (n0 : Nat) (p0 : List Fld) (hn : List.length p0 = n0) : List.length (Qh n0 p0) = n0 := by
 unfold Qh
 exact (Qgr n0 p0 (n0 : Int) hn)
theorem Qho (n0 : Nat) (p0 : List Fld) (hn : List.length p0 = n0) (hq0 : (n0 : Int) ≤ 1152921504606846976) : Qb G (Qp4 n0 p0) (Qgm n0 p0) := by
 unfold Qgm Qh
 exact Qc (fn := Ir.K12) rfl (vk1 (Fld.Q0 p0 6 rfl)) [hQ (Fld.Q0 (Q2t n0 p0 (n0 : Int)) 6 rfl)] [aV [(0, Fld.rows (Q2t n0 p0 (n0 : Int)))] (Qr7 n0 p0 (n0 : Int) hn (by omega))] (by kernel_rfl)
def Q1z (p0 : List Fld) : List Fld → Nat → (List Fld) → List Fld
 | [], _i0, v0_1 =>
  v0_1
 | x0 :: r0, i0, v0_1 =>
  bif (((i0 + 1 : Nat) : Int) == ((List.length p0) : Int)) then
   Q1z p0 r0 (i0 + 1) (v0_1 ++ [x0])
  else
   bif (sEq (List.getD (Qh (List.length p0) p0) (Int.toNat ((i0 + 1 : Nat) : Int)) zF).name x0.name) then
    Q1z p0 r0 (i0 + 1) v0_1
   else
    Q1z p0 r0 (i0 + 1) (v0_1 ++ [x0])
def Q6i (p0 : List Fld) (i0 : Nat) (_v0_1 : List Fld) : List PV :=
  [.un, .un, .bx 0 0, .ms 1 6 0 (List.length p0), .bx 2 0] ++ nuns 7 ++ [.ms 1 6 0 (List.length p0), .int .i64 ((List.length p0) : Int), .int .i64 (i0 : Int)] ++ nuns 29
def Q5f (p0 : List Fld) (_i0 : Nat) (v0_1 : List Fld) : List Ob :=
  [⟨5, 0, true, [.int .i64 0, .int .i64 0, .str (⟨#[]⟩ : ByteArray), .ms 3 5 0 0, .ms 4 6 0 0]⟩, ⟨6, 0, false, (Fld.rows (Qh (List.length p0) p0)).flatten⟩, ⟨5, 0, true, [.int .i64 5, .int .i64 0, .str (⟨#[]⟩ : ByteArray), .ms 5 5 0 0, .ms 6 6 0 (List.length v0_1)]⟩, ⟨5, 0, true, []⟩, ⟨6, 0, true, []⟩, ⟨5, 0, true, []⟩, ⟨6, 0, true, (Fld.rows v0_1).flatten⟩]
def Q3u (p0 : List Fld) (i0 : Nat) (v0_1 : List Fld) : En := .loop 0 Ir.Q9s Ir.Qsh (Q6i p0 i0 v0_1) (Q5f p0 i0 v0_1)
def Qei (p0 : List Fld) (q0 : List Fld) (z : Nat → PV) (_zo : Nat → List PV) : St :=
  ⟨[z 0, z 1, .bx 0 0, z 3, .bx 2 0] ++ zr z 5 39, [(0, ⟨5, 0, true, [.int .i64 0, .int .i64 0, .str (⟨#[]⟩ : ByteArray), .ms 3 5 0 0, .ms 4 6 0 0]⟩), (1, ⟨6, 0, false, (Fld.rows (Qh (List.length p0) p0)).flatten⟩), (2, ⟨5, 0, true, [.int .i64 5, .int .i64 0, .str (⟨#[]⟩ : ByteArray), .ms 5 5 0 0, .ms 6 6 0 (List.length q0)]⟩), (3, ⟨5, 0, true, []⟩), (4, ⟨6, 0, true, []⟩), (5, ⟨5, 0, true, []⟩), (6, ⟨6, 0, true, (Fld.rows q0).flatten⟩)], 71⟩
theorem Q8v (p0 : List Fld) (i0 : Nat) (v0_1 : List Fld) : VOK (Go.Pv.look (number 0 (Q5f p0 i0 v0_1))) [(1, Fld.rows (Qh (List.length p0) p0)), (6, Fld.rows v0_1)] := (VOK.cons (show Seen _ _ from Q2q (ob := ⟨6, 0, false, (Fld.rows (Qh (List.length p0) p0)).flatten⟩) (Fld.Q0 (Qh (List.length p0) p0) 6 rfl)) (VOK.cons (show Seen _ _ from Q2q (ob := ⟨6, 0, true, (Fld.rows v0_1).flatten⟩) (Fld.Q0 v0_1 6 rfl)) VOK.nil))
def Q99 (p0 : List Fld) (e : En) (q : List Fld) : Prop := ∃ z zo, Qb G e (.st (.exit 0) (Qei p0 q z zo))
theorem Q4t (p0 : List Fld) {e e' : En} (h : ∀ r, Qb G e r → Qb G e' r) : ∀ q, Q99 p0 e q → Q99 p0 e' q
  | _, ⟨z, zo, hz⟩ => ⟨z, zo, h _ hz⟩
def Q5k (p0 : List Fld) : Prop := (List.length (Qh (List.length p0) p0) ≤ 137438953472) ∧ True
def Qd5 (p0 : List Fld) (i0 : Nat) (_v0_1 : List Fld) : List PV :=
  [.un, .un, .un, .ms 1 6 0 (List.length p0)] ++ nuns 8 ++ [.ms 1 6 0 (List.length p0), .int .i64 ((List.length p0) : Int), .int .i64 (i0 : Int), .bool false]
def Qar (_p0 : List Fld) (_i0 : Nat) (_v0_1 : List Fld) : List (Nat × List PV) :=
  []
theorem Qmq (p0 : List Fld) (_H : Q5k p0) (i0 : Nat) (v0_1 : List Fld) (_ho0_0 : List.length v0_1 ≤ i0) (hc0 : (decide ((i0 : Int) < ((List.length p0) : Int))) = false) : Q99 p0 (Q3u p0 i0 v0_1) v0_1 := by
 exact ⟨(envF (Qd5 p0 i0 v0_1)), (zoF (Qar p0 i0 v0_1)), Qn (Q8v p0 i0 v0_1) (x := ((.exit 0), Qei p0 v0_1 (envF (Qd5 p0 i0 v0_1)) (zoF (Qar p0 i0 v0_1)))) [hB 0 hc0] [] (by kernel_rfl)⟩
theorem Qmg (p0 : List Fld) (H : Q5k p0) (x0 : Fld) (i0 : Nat) (v0_1 : List Fld) (hx0 : (Qh (List.length p0) p0)[i0]? = some x0) (hi0 : i0 < List.length (Qh (List.length p0) p0)) (ho0_0 : List.length v0_1 ≤ i0) (hc0 : (decide ((i0 : Int) < ((List.length p0) : Int))) = true) (h0 : (((i0 + 1 : Nat) : Int) == ((List.length p0) : Int)) = true) {r : Rs} (hr : Qb G (Q3u p0 (i0 + 1) (v0_1 ++ [x0])) r) : Qb G (Q3u p0 i0 v0_1) r := by
 have hB0 := H.1; have e0 := eq_of_beq h0
 exact Qi (Q8v p0 i0 v0_1) (y := (Q6i p0 (i0 + 1) (v0_1 ++ [x0]), Q5f p0 (i0 + 1) (v0_1 ++ [x0]))) [hB 0 hc0, hP 1 (Q14 1 6 (List.length p0) (i0 : Int) i0 (by omega) (by have f1 := (Q15 (List.length p0) p0 rfl); omega) (by have f1 := (Q15 (List.length p0) p0 rfl); omega)), hP 0 (Q2d 1 6 0 false ((Fld.rows (Qh (List.length p0) p0)).flatten) (Fld.rows (Qh (List.length p0) p0)) 6 true i0 0 (i0 * 6) (Fld.cells x0) (.agg [.str x0.name, .int .i64 x0.v.kind, .int .i64 x0.v.n, .str x0.v.s, .sl (Val.rows x0.v.list), .sl (Fld.rows x0.v.fields)]) rfl rfl (Fld.Qj hx0) (Fld.Qm (Qh (List.length p0) p0)) (by decide) rfl), hP 4 (Q20 i0 (by omega)), hB 2 h0, hV 15 [(1735, Fld.rows (v0_1 ++ [x0]))] (Qbc 6 1671 1735 6 96 0 0 true (Fld.rows v0_1) (Fld.rows (v0_1 ++ [x0])) (Fld.cells x0) (List.length v0_1) (List.length (v0_1 ++ [x0])) rfl (Fld.Q9 v0_1).symm (Fld.Q9 (v0_1 ++ [x0])).symm (Fld.Q2i v0_1 x0) (Fld.Qm v0_1) rfl (by omega)), hS 0 true (Fld.Q0 (v0_1 ++ [x0]) 6 rfl), hP 2 (Q20 i0 (by omega))] [] (by kernel_rfl) hr
theorem Qo9 (p0 : List Fld) (H : Q5k p0) (x0 : Fld) (i0 : Nat) (v0_1 : List Fld) (hx0 : (Qh (List.length p0) p0)[i0]? = some x0) (hi0 : i0 < List.length (Qh (List.length p0) p0)) (_ho0_0 : List.length v0_1 ≤ i0) (hc0 : (decide ((i0 : Int) < ((List.length p0) : Int))) = true) (h0 : (((i0 + 1 : Nat) : Int) == ((List.length p0) : Int)) = false) (h1 : (sEq (List.getD (Qh (List.length p0) p0) (Int.toNat ((i0 + 1 : Nat) : Int)) zF).name x0.name) = true) {r : Rs} (hr : Qb G (Q3u p0 (i0 + 1) v0_1) r) : Qb G (Q3u p0 i0 v0_1) r := by
 have hB0 := H.1; have e0 := beq_eq_false_iff_ne.1 h0
 exact Qi (Q8v p0 i0 v0_1) (y := (Q6i p0 (i0 + 1) v0_1, Q5f p0 (i0 + 1) v0_1)) [hB 0 hc0, hP 1 (Q14 1 6 (List.length p0) (i0 : Int) i0 (by omega) (by have f1 := (Q15 (List.length p0) p0 rfl); omega) (by have f1 := (Q15 (List.length p0) p0 rfl); omega)), hP 0 (Q2d 1 6 0 false ((Fld.rows (Qh (List.length p0) p0)).flatten) (Fld.rows (Qh (List.length p0) p0)) 6 true i0 0 (i0 * 6) (Fld.cells x0) (.agg [.str x0.name, .int .i64 x0.v.kind, .int .i64 x0.v.n, .str x0.v.s, .sl (Val.rows x0.v.list), .sl (Fld.rows x0.v.fields)]) rfl rfl (Fld.Qj hx0) (Fld.Qm (Qh (List.length p0) p0)) (by decide) rfl), hP 4 (Q20 i0 (by omega)), hB 2 h0, hP 3 (Q20 i0 (by omega)), hP 0 (Q14 1 6 (List.length p0) ((i0 + 1 : Nat) : Int) (Int.toNat ((i0 + 1 : Nat) : Int)) rfl (by have f1 := (Q15 (List.length p0) p0 rfl); omega) (by have f1 := (Q15 (List.length p0) p0 rfl); omega)), hP 1 (Q2d 1 6 0 false ((Fld.rows (Qh (List.length p0) p0)).flatten) (Fld.rows (Qh (List.length p0) p0)) 1 false (Int.toNat ((i0 + 1 : Nat) : Int)) 0 ((Int.toNat ((i0 + 1 : Nat) : Int)) * 6) (Fld.cells (List.getD (Qh (List.length p0) p0) (Int.toNat ((i0 + 1 : Nat) : Int)) zF)) (.str (List.getD (Qh (List.length p0) p0) (Int.toNat ((i0 + 1 : Nat) : Int)) zF).name) rfl rfl (Fld.Qj (Qu (Qh (List.length p0) p0) (Int.toNat ((i0 + 1 : Nat) : Int)) zF (by have f1 := (Q15 (List.length p0) p0 rfl); omega))) (Fld.Qm (Qh (List.length p0) p0)) (by decide) rfl), hP 2 (dec (!(sEq (List.getD (Qh (List.length p0) p0) (Int.toNat ((i0 + 1 : Nat) : Int)) zF).name x0.name)) false (by rw [h1]; rfl)), hP 1 (Q20 i0 (by omega))] [] (by kernel_rfl) hr
theorem Qnz (p0 : List Fld) (H : Q5k p0) (x0 : Fld) (i0 : Nat) (v0_1 : List Fld) (hx0 : (Qh (List.length p0) p0)[i0]? = some x0) (hi0 : i0 < List.length (Qh (List.length p0) p0)) (ho0_0 : List.length v0_1 ≤ i0) (hc0 : (decide ((i0 : Int) < ((List.length p0) : Int))) = true) (h0 : (((i0 + 1 : Nat) : Int) == ((List.length p0) : Int)) = false) (h1 : (sEq (List.getD (Qh (List.length p0) p0) (Int.toNat ((i0 + 1 : Nat) : Int)) zF).name x0.name) = false) {r : Rs} (hr : Qb G (Q3u p0 (i0 + 1) (v0_1 ++ [x0])) r) : Qb G (Q3u p0 i0 v0_1) r := by
 have hB0 := H.1; have e0 := beq_eq_false_iff_ne.1 h0
 exact Qi (Q8v p0 i0 v0_1) (y := (Q6i p0 (i0 + 1) (v0_1 ++ [x0]), Q5f p0 (i0 + 1) (v0_1 ++ [x0]))) [hB 0 hc0, hP 1 (Q14 1 6 (List.length p0) (i0 : Int) i0 (by omega) (by have f1 := (Q15 (List.length p0) p0 rfl); omega) (by have f1 := (Q15 (List.length p0) p0 rfl); omega)), hP 0 (Q2d 1 6 0 false ((Fld.rows (Qh (List.length p0) p0)).flatten) (Fld.rows (Qh (List.length p0) p0)) 6 true i0 0 (i0 * 6) (Fld.cells x0) (.agg [.str x0.name, .int .i64 x0.v.kind, .int .i64 x0.v.n, .str x0.v.s, .sl (Val.rows x0.v.list), .sl (Fld.rows x0.v.fields)]) rfl rfl (Fld.Qj hx0) (Fld.Qm (Qh (List.length p0) p0)) (by decide) rfl), hP 4 (Q20 i0 (by omega)), hB 2 h0, hP 3 (Q20 i0 (by omega)), hP 0 (Q14 1 6 (List.length p0) ((i0 + 1 : Nat) : Int) (Int.toNat ((i0 + 1 : Nat) : Int)) rfl (by have f1 := (Q15 (List.length p0) p0 rfl); omega) (by have f1 := (Q15 (List.length p0) p0 rfl); omega)), hP 1 (Q2d 1 6 0 false ((Fld.rows (Qh (List.length p0) p0)).flatten) (Fld.rows (Qh (List.length p0) p0)) 1 false (Int.toNat ((i0 + 1 : Nat) : Int)) 0 ((Int.toNat ((i0 + 1 : Nat) : Int)) * 6) (Fld.cells (List.getD (Qh (List.length p0) p0) (Int.toNat ((i0 + 1 : Nat) : Int)) zF)) (.str (List.getD (Qh (List.length p0) p0) (Int.toNat ((i0 + 1 : Nat) : Int)) zF).name) rfl rfl (Fld.Qj (Qu (Qh (List.length p0) p0) (Int.toNat ((i0 + 1 : Nat) : Int)) zF (by have f1 := (Q15 (List.length p0) p0 rfl); omega))) (Fld.Qm (Qh (List.length p0) p0)) (by decide) rfl), hP 2 (dec (!(sEq (List.getD (Qh (List.length p0) p0) (Int.toNat ((i0 + 1 : Nat) : Int)) zF).name x0.name)) true (by rw [h1]; rfl)), hV 5 [(1735, Fld.rows (v0_1 ++ [x0]))] (Qbc 6 1671 1735 6 96 0 0 true (Fld.rows v0_1) (Fld.rows (v0_1 ++ [x0])) (Fld.cells x0) (List.length v0_1) (List.length (v0_1 ++ [x0])) rfl (Fld.Q9 v0_1).symm (Fld.Q9 (v0_1 ++ [x0])).symm (Fld.Q2i v0_1 x0) (Fld.Qm v0_1) rfl (by omega)), hS 0 true (Fld.Q0 (v0_1 ++ [x0]) 6 rfl), hP 2 (Q20 i0 (by omega))] [] (by kernel_rfl) hr
theorem Q6z (p0 : List Fld) (H : Q5k p0) : ∀ (r0 : List Fld) (i0 : Nat) (v0_1 : List Fld), List.drop i0 (Qh (List.length p0) p0) = r0 → List.length v0_1 ≤ i0 → Q99 p0 (Q3u p0 i0 v0_1) (Q1z p0 r0 i0 v0_1)
 | [], i0, v0_1, hd, ho0_0 => by
  have hc0 : (decide ((i0 : Int) < ((List.length p0) : Int))) = false := by have hL := (Q15 (List.length p0) p0 rfl); have := Q2j hd; simp; omega
  rw [Q1z]
  exact Qmq p0 H i0 v0_1 ho0_0 hc0
 | x0 :: r0, i0, v0_1, hd, ho0_0 => by
  obtain ⟨hx0, hi0, hd'⟩ := Q1s hd
  have hc0 : (decide ((i0 : Int) < ((List.length p0) : Int))) = true := by have hL := (Q15 (List.length p0) p0 rfl); simp; omega
  rw [Q1z]
  cases h0 : (((i0 + 1 : Nat) : Int) == ((List.length p0) : Int)) with
  | true =>
   have e0 := eq_of_beq h0
   exact Q4t p0 (fun r hr => Qmg p0 H x0 i0 v0_1 hx0 hi0 ho0_0 hc0 h0 hr) _ (Q6z p0 H r0 (i0 + 1) (v0_1 ++ [x0]) hd' (by first | omega | (simp; omega)))
  | false =>
   have e0 := beq_eq_false_iff_ne.1 h0
   cases h1 : (sEq (List.getD (Qh (List.length p0) p0) (Int.toNat ((i0 + 1 : Nat) : Int)) zF).name x0.name) with
   | true =>
    exact Q4t p0 (fun r hr => Qo9 p0 H x0 i0 v0_1 hx0 hi0 ho0_0 hc0 h0 h1 hr) _ (Q6z p0 H r0 (i0 + 1) v0_1 hd' (by first | omega | (simp; omega)))
   | false =>
    exact Q4t p0 (fun r hr => Qnz p0 H x0 i0 v0_1 hx0 hi0 ho0_0 hc0 h0 h1 hr) _ (Q6z p0 H r0 (i0 + 1) (v0_1 ++ [x0]) hd' (by first | omega | (simp; omega)))
def Qd (p0 : List Fld) : Val :=
 ((Val.mk 5 0 (⟨#[]⟩ : ByteArray) [] (Q1z p0 (Qh (List.length p0) p0) 0 [])))
def Qwh (p0 : List Fld) : En := .call 22 [.sl (Fld.rows p0)] []
def Que (p0 : List Fld) : Rs := .ret (.agg [.int .i64 (Qd p0).kind, .int .i64 (Qd p0).n, .str (Qd p0).s, .ms 0 5 0 (List.length (Qd p0).list), .ms 1 6 0 (List.length (Qd p0).fields)]) [⟨5, 0, true, (Val.rows (Qd p0).list).flatten⟩, ⟨6, 0, true, (Fld.rows (Qd p0).fields).flatten⟩]
def Qqe (p0 : List Fld) : Prop := (List.length p0 * 96 ≤ 140737488355328) ∧ (((List.length p0) : Int) ≤ 1152921504606846976) ∧ (Q5k p0) ∧ (Val.Sm 1000 (Val.mk 5 0 (⟨#[]⟩ : ByteArray) [] (Q1z p0 (Qh (List.length p0) p0) 0 []))) ∧ True
theorem Qci (p0 : List Fld) (H : Qqe p0) : Qb G (Qwh p0) (Que p0) := by
 unfold Que Qd
 have hl0 := Q6z p0 (H.2.2.1) (Qh (List.length p0) p0) 0 [] (by simp) (by simp)
 obtain ⟨z0, zo0, hl0⟩ := hl0
 have hs := H.2.2.2.1
 generalize hL : (Q1z p0 (Qh (List.length p0) p0) 0 []) = L at hl0 hs ⊢
 cases L with
 | nil =>
  exact Qc (fn := Ir.K1h) rfl VOK.nil [hQ (Fld.Q0 p0 6 rfl), hQ (Fld.Q0 (Qh (List.length p0) p0) 6 rfl), hS 0 false (Fld.Q0 (Qh (List.length p0) p0) 6 rfl), hS 0 true (Fld.Q0 [] 6 rfl), hQ (Fld.Q9 []).symm, hQ (Val.Q0 ((Val.mk 5 0 (⟨#[]⟩ : ByteArray) [] [])).list 5 rfl), hQ (Fld.Q0 ((Val.mk 5 0 (⟨#[]⟩ : ByteArray) [] [])).fields 6 rfl)] [aV [(0, Fld.rows p0)] (Q2y (G := G) (f := 49) (sz := 6) (bytes := 96) rfl (Fld.Q9 p0) (Fld.Q0 p0 6 rfl) H.1), aV [(0, Fld.rows (Qh (List.length p0) p0))] (Qho (List.length p0) p0 rfl (H.2.1)), aV [(1, Fld.rows (Qh (List.length p0) p0)), (6, Fld.rows [])] hl0, aV [(0, Val.rows ((Val.mk 5 0 (⟨#[]⟩ : ByteArray) [] [])).list), (1, Fld.rows ((Val.mk 5 0 (⟨#[]⟩ : ByteArray) [] [])).fields)] (Qpy (Val.mk 5 0 (⟨#[]⟩ : ByteArray) [] []) (hs))] (by kernel_rfl)
 | cons x r =>
  obtain ⟨nm, ⟨k, n, s, l, f⟩⟩ := x
  exact Qc (fn := Ir.K1h) rfl VOK.nil [hQ (Fld.Q0 p0 6 rfl), hQ (Fld.Q0 (Qh (List.length p0) p0) 6 rfl), hS 0 false (Fld.Q0 (Qh (List.length p0) p0) 6 rfl), hS 0 true (Fld.Q0 (Fld.mk nm (Val.mk k n s l f) :: r) 6 rfl), hQ (Fld.Q9 (Fld.mk nm (Val.mk k n s l f) :: r)).symm, hQ (Val.Q0 ((Val.mk 5 0 (⟨#[]⟩ : ByteArray) [] (Fld.mk nm (Val.mk k n s l f) :: r))).list 5 rfl), hQ (Fld.Q0 ((Val.mk 5 0 (⟨#[]⟩ : ByteArray) [] (Fld.mk nm (Val.mk k n s l f) :: r))).fields 6 rfl)] [aV [(0, Fld.rows p0)] (Q2y (G := G) (f := 49) (sz := 6) (bytes := 96) rfl (Fld.Q9 p0) (Fld.Q0 p0 6 rfl) H.1), aV [(0, Fld.rows (Qh (List.length p0) p0))] (Qho (List.length p0) p0 rfl (H.2.1)), aV [(1, Fld.rows (Qh (List.length p0) p0)), (6, Fld.rows (Fld.mk nm (Val.mk k n s l f) :: r))] hl0, aV [(0, Val.rows ((Val.mk 5 0 (⟨#[]⟩ : ByteArray) [] (Fld.mk nm (Val.mk k n s l f) :: r))).list), (1, Fld.rows ((Val.mk 5 0 (⟨#[]⟩ : ByteArray) [] (Fld.mk nm (Val.mk k n s l f) :: r))).fields)] (Qpy (Val.mk 5 0 (⟨#[]⟩ : ByteArray) [] (Fld.mk nm (Val.mk k n s l f) :: r)) (hs))] (by kernel_rfl)
end Go.Proofs.Ytedohmdgbilicaa
end

section
/- The library's stable sort as plain functions on lists, and what it answers: the stably sorted list. Program-free. -/
namespace Go.Pv.Srt
section
variable {α : Type} (z : α) (c : α → α → Int)
def gt (d : List α) (i : Int) : α := d.getD i.toNat z
def sw (d : List α) (i j : Int) : List α := (d.set i.toNat (gt z d j)).set j.toNat (gt z d i)
def ins1 (a : Int) : Nat → List α → Int → List α
  | 0, v, _ => v
  | k + 1, v, j => bif decide (a < j) then (bif decide (c (gt z v j) (gt z v (j - 1)) < 0) then ins1 a k (sw z v j (j - 1)) (j - 1) else v) else v
def ins0 (a b : Int) : Nat → Int → List α → List α
  | 0, _, v => v
  | k + 1, i, v => bif decide (i < b) then ins0 a b k (i + 1) (ins1 z c a (i.toNat + 1) v i) else v
def ins (d : List α) (a b : Int) : List α := ins0 z c a b ((b - (a + 1)).toNat + 1) (a + 1) d
def swr1 (p q n : Int) : Nat → List α → Int → List α
  | 0, v, _ => v
  | k + 1, v, i => bif decide (i < n) then swr1 p q n k (sw z v (p + i) (q + i)) (i + 1) else v
def swr (d : List α) (p q n : Int) : List α := swr1 z p q n ((n - 0).toNat + 1) d 0
def rot1 (m : Int) : Nat → Int → Int → List α → List α × Int
  | 0, i, _, v => (v, i)
  | k + 1, i, j, v => bif i == j then (v, i) else bif decide (j < i) then rot1 m k (i - j) j (swr z v (m - i) m j) else rot1 m k i (j - i) (swr z v (m - i) ((m + j) - i) i)
def rot (d : List α) (a m b : Int) : List α :=
  let r := rot1 z m (((m - a) + (b - m)).toNat + 1) (m - a) (b - m) d
  swr z r.1 (m - r.2) m r.2
theorem Q5v {d A C : List α} {x : α} {i : Int} (hd : d = A ++ x :: C) (hi : i = (A.length : Int)) : gt z d i = x := by
  subst hd hi
  simp [gt]
theorem Qm1 {A C : List α} {x y : α} {i : Int} (hi : i = (A.length : Int)) : (A ++ x :: C).set i.toNat y = A ++ y :: C := by
  subst hi
  simp
theorem Qts {A M C : List α} {x y : α} {i j : Int} (hi : i = (A.length : Int)) (hj : j = (A.length : Int) + 1 + (M.length : Int)) : sw z (A ++ x :: (M ++ y :: C)) i j = A ++ y :: (M ++ x :: C) := by
  have e1 : gt z (A ++ x :: (M ++ y :: C)) i = x := Q5v z rfl hi
  have e2 : gt z (A ++ x :: (M ++ y :: C)) j = y := Q5v z (A := A ++ x :: M) (C := C) (by simp) (by simp; omega)
  unfold sw
  rw [e1, e2, Qm1 hi]
  have e3 : A ++ y :: (M ++ y :: C) = (A ++ y :: M) ++ y :: C := by simp
  rw [e3, Qm1 (A := A ++ y :: M) (by simp; omega)]
  simp
theorem Qq3 {A M C : List α} {x y : α} {i j : Int} (hi : i = (A.length : Int)) (hj : j = (A.length : Int) + 1 + (M.length : Int)) : sw z (A ++ x :: (M ++ y :: C)) j i = A ++ y :: (M ++ x :: C) := by
  have e1 : gt z (A ++ x :: (M ++ y :: C)) i = x := Q5v z rfl hi
  have e2 : gt z (A ++ x :: (M ++ y :: C)) j = y := Q5v z (A := A ++ x :: M) (C := C) (by simp) (by simp; omega)
  unfold sw
  rw [e1, e2]
  have e3 : A ++ x :: (M ++ y :: C) = (A ++ x :: M) ++ y :: C := by simp
  rw [e3, Qm1 (A := A ++ x :: M) (by simp; omega)]
  have e4 : (A ++ x :: M) ++ x :: C = A ++ x :: (M ++ x :: C) := by simp
  rw [e4, Qm1 hi]
def insR (x : α) : List α → List α
  | [] => [x]
  | s :: t => bif decide (c x s < 0) then s :: insR x t else x :: s :: t
def Q6c (l : List α) : List α := (l.foldl (fun r x => insR c x r) []).reverse
theorem Qhz (a : Int) (A : List α) (x : α) (ha : a = (A.length : Int)) : ∀ (R C : List α) (k : Nat) (j : Int), j = (A.length : Int) + (R.length : Int) → R.length < k → ins1 z c a k (A ++ (R.reverse ++ x :: C)) j = A ++ ((insR c x R).reverse ++ C)
  | _, _, 0, _, _, h => absurd h (Nat.not_lt_zero _)
  | [], C, k + 1, j, hj, _ => by
    rw [ins1, show decide (a < j) = false by simp at hj ⊢; omega]
    simp [insR]
  | s :: t, C, k + 1, j, hj, hk => by
    simp only [List.length_cons] at hj hk
    have e0 : A ++ ((s :: t).reverse ++ x :: C) = (A ++ t.reverse) ++ s :: ([] ++ x :: C) := by simp
    rw [ins1, show decide (a < j) = true by simp; omega, cond_true, e0]
    have e1 : gt z ((A ++ t.reverse) ++ s :: ([] ++ x :: C)) j = x := Q5v z (A := A ++ t.reverse ++ [s]) (C := C) (by simp) (by simp; omega)
    have e2 : gt z ((A ++ t.reverse) ++ s :: ([] ++ x :: C)) (j - 1) = s := Q5v z (A := A ++ t.reverse) rfl (by simp; omega)
    rw [e1, e2, insR]
    cases decide (c x s < 0) with
    | true =>
      rw [cond_true, cond_true, Qq3 z (by simp; omega) (by simp; omega)]
      have e3 : (A ++ t.reverse) ++ x :: ([] ++ s :: C) = A ++ (t.reverse ++ x :: (s :: C)) := by simp
      rw [e3, Qhz a A x ha t (s :: C) k (j - 1) (by omega) (by omega)]
      simp
    | false => simp
theorem Qh4 (a b : Int) (A : List α) (ha : a = (A.length : Int)) : ∀ (M R C : List α) (k : Nat) (i : Int), i = (A.length : Int) + (R.length : Int) → b = i + (M.length : Int) → M.length < k →
    ins0 z c a b k i (A ++ (R.reverse ++ (M ++ C))) = A ++ ((M.foldl (fun r x => insR c x r) R).reverse ++ C)
  | _, _, _, 0, _, _, _, h => absurd h (Nat.not_lt_zero _)
  | [], R, C, k + 1, i, hi, hb, _ => by
    rw [ins0, show decide (i < b) = false by simp at hb ⊢; omega]
    simp
  | x :: M, R, C, k + 1, i, hi, hb, hk => by
    simp only [List.length_cons] at hb hk
    rw [ins0, show decide (i < b) = true by simp; omega, cond_true, List.cons_append, Qhz z c a A x ha R (M ++ C) _ i hi (by omega)]
    have hl : (insR c x R).length = R.length + 1 := by
      clear hi hb hk
      induction R with
      | nil => rfl
      | cons s t ih => rw [insR]; cases decide (c x s < 0) <;> simp [ih]
    rw [Qh4 a b A ha M (insR c x R) C k (i + 1) (by omega) (by omega) (by omega)]
    rfl
theorem Qlh {d A M C : List α} {a b : Int} (hd : d = A ++ (M ++ C)) (ha : a = (A.length : Int)) (hb : b = a + (M.length : Int)) : ins z c d a b = A ++ (Q6c c M ++ C) := by
  subst hd
  unfold ins Q6c
  cases M with
  | nil =>
    simp only [List.length_nil, Int.ofNat_zero] at hb
    rw [ins0, show decide (a + 1 < b) = false by simp; omega]
    rfl
  | cons x M =>
    simp only [List.length_cons] at hb
    have e : A ++ (x :: M ++ C) = A ++ ([x].reverse ++ (M ++ C)) := by simp
    rw [e, Qh4 z c a b A ha M [x] C _ _ (by simp; omega) (by omega) (by omega)]
    rfl
theorem Qhq (p q n : Int) (C : List α) : ∀ (X Y A M : List α) (k : Nat) (i : Int), X.length = Y.length → p + i = (A.length : Int) → q + i = (A.length : Int) + (X.length : Int) + (M.length : Int) → n = i + (X.length : Int) → X.length < k →
    swr1 z p q n k (A ++ (X ++ (M ++ (Y ++ C)))) i = A ++ (Y ++ (M ++ (X ++ C)))
  | _, _, _, _, 0, _, _, _, _, _, h => absurd h (Nat.not_lt_zero _)
  | [], [], A, M, k + 1, i, _, _, _, hn, _ => by
    rw [swr1, show decide (i < n) = false by simp at hn ⊢; omega]
    rfl
  | [], _ :: _, _, _, _, _, h, _, _, _, _ => by simp at h
  | _ :: _, [], _, _, _, _, h, _, _, _, _ => by simp at h
  | x :: X, y :: Y, A, M, k + 1, i, h, hp, hq, hn, hk => by
    simp only [List.length_cons] at h hq hn hk
    rw [swr1, show decide (i < n) = true by simp; omega, cond_true]
    have e : A ++ (x :: X ++ (M ++ (y :: Y ++ C))) = A ++ x :: ((X ++ M) ++ y :: (Y ++ C)) := by simp
    rw [e, Qts z hp (by simp; omega)]
    have e2 : A ++ y :: ((X ++ M) ++ x :: (Y ++ C)) = (A ++ [y]) ++ (X ++ ((M ++ [x]) ++ (Y ++ C))) := by simp
    rw [e2, Qhq p q n C X Y (A ++ [y]) (M ++ [x]) k (i + 1) (by omega) (by simp; omega) (by simp; omega) (by omega) (by omega)]
    simp
theorem Qg4 {d A X M Y C : List α} {p q n : Int} (hd : d = A ++ (X ++ (M ++ (Y ++ C)))) (h : X.length = Y.length) (hp : p = (A.length : Int)) (hq : q = (A.length : Int) + (X.length : Int) + (M.length : Int)) (hn : n = (X.length : Int)) : swr z d p q n = A ++ (Y ++ (M ++ (X ++ C))) := by
  subst hd
  unfold swr
  exact Qhq z p q n C X Y A M _ 0 h (by omega) (by omega) (by omega) (by omega)
theorem Qag (m : Int) (W : List α) : ∀ (k : Nat) (A U V C : List α) (i j : Int), i = (U.length : Int) → j = (V.length : Int) → 0 < U.length → 0 < V.length → m = (A.length : Int) + (U.length : Int) → U.length + V.length < k → W = A ++ (V ++ (U ++ C)) →
    swr z (rot1 z m k i j (A ++ (U ++ (V ++ C)))).1 (m - (rot1 z m k i j (A ++ (U ++ (V ++ C)))).2) m (rot1 z m k i j (A ++ (U ++ (V ++ C)))).2 = W
  | 0, _, _, _, _, _, _, _, _, _, _, _, h, _ => absurd h (Nat.not_lt_zero _)
  | k + 1, A, U, V, C, i, j, hi, hj, hU, hV, hm, hk, hW => by
    rw [rot1]
    by_cases h1 : i = j
    · rw [show (i == j) = true by simpa using h1]
      simp only [cond_true]
      rw [Qg4 z (A := A) (X := U) (M := []) (Y := V) (C := C) (by simp) (by omega) (by omega) (by simp; omega) (by omega), hW]
      rfl
    · rw [show (i == j) = false by simpa using h1]
      simp only [cond_false]
      by_cases h2 : j < i
      · rw [show decide (j < i) = true by simpa using h2]
        simp only [cond_true]
        have hs : U = U.take V.length ++ U.drop V.length := (List.take_append_drop _ _).symm
        have l1 : (U.take V.length).length = V.length := by simp; omega
        have l2 : (U.drop V.length).length = U.length - V.length := by simp
        rw [Qg4 z (d := A ++ (U ++ (V ++ C))) (A := A) (X := U.take V.length) (M := U.drop V.length) (Y := V) (C := C) (by rw [← List.append_assoc (U.take _), List.take_append_drop]) (by omega) (by omega) (by rw [l1, l2]; omega) (by omega)]
        have e : A ++ (V ++ (U.drop V.length ++ (U.take V.length ++ C))) = (A ++ V) ++ (U.drop V.length ++ (U.take V.length ++ C)) := by simp
        rw [e]
        exact Qag m W k (A ++ V) (U.drop V.length) (U.take V.length) C (i - j) j (by omega) (by omega) (by omega) (by omega) (by rw [l2]; simp; omega) (by omega) (by rw [hW, ← List.append_assoc (U.take _), List.take_append_drop]; simp)
      · rw [show decide (j < i) = false by simpa using h2]
        simp only [cond_false]
        have l1 : (V.take (V.length - U.length)).length = V.length - U.length := by simp
        have l2 : (V.drop (V.length - U.length)).length = U.length := by simp; omega
        rw [Qg4 z (d := A ++ (U ++ (V ++ C))) (A := A) (X := U) (M := V.take (V.length - U.length)) (Y := V.drop (V.length - U.length)) (C := C) (by rw [← List.append_assoc (V.take _), List.take_append_drop]) (by omega) (by omega) (by rw [l1]; omega) (by omega)]
        exact Qag m W k A (V.drop (V.length - U.length)) (V.take (V.length - U.length)) (U ++ C) i (j - i) (by omega) (by omega) (by omega) (by omega) (by omega) (by omega) (by rw [hW, ← List.append_assoc (V.take _), List.take_append_drop])
theorem Qs3 {d A U V C : List α} {a m b : Int} (hd : d = A ++ (U ++ (V ++ C))) (ha : a = (A.length : Int)) (hm : m = a + (U.length : Int)) (hb : b = m + (V.length : Int)) (hU : 0 < U.length) (hV : 0 < V.length) : rot z d a m b = A ++ (V ++ (U ++ C)) := by
  subst hd
  unfold rot
  exact Qag z m _ _ A U V C (m - a) (b - m) (by omega) (by omega) hU hV (by omega) (by omega) rfl
end
end Go.Pv.Srt
end

section
/- The library's stable sort: its merging, and that it answers the stably sorted list. Program-free. -/
namespace Go.Pv.Srt
section
variable {α : Type} (z : α) (c : α → α → Int)
structure Tot : Prop where
  asym : ∀ x y, c x y < 0 → ¬ c y x < 0
  tr : ∀ x y w, ¬ c y x < 0 → ¬ c w y < 0 → ¬ c w x < 0
def le (x y : α) : Prop := ¬ c y x < 0
def Up (l : List α) : Prop := l.Pairwise (le c)
def eqv (x y : α) : Bool := decide (¬ c x y < 0) && decide (¬ c y x < 0)
def F (l r : List α) : Prop := l.length = r.length ∧ ∀ x, l.filter (eqv c x) = r.filter (eqv c x)
variable {c}
theorem F.rfl {l : List α} : F c l l := ⟨Eq.refl _, fun _ => Eq.refl _⟩
theorem F.trans {l r s : List α} (h : F c l r) (g : F c r s) : F c l s := ⟨h.1.trans g.1, fun x => (h.2 x).trans (g.2 x)⟩
theorem F.symm {l r : List α} (h : F c l r) : F c r l := ⟨h.1.symm, fun x => (h.2 x).symm⟩
theorem F.app {l r l' r' : List α} (h : F c l r) (g : F c l' r') : F c (l ++ l') (r ++ r') :=
  ⟨by rw [List.length_append, List.length_append, h.1, g.1], fun x => by rw [List.filter_append, List.filter_append, h.2 x, g.2 x]⟩
theorem Tot.refl (T : Tot c) (x : α) : ¬ c x x < 0 := fun h => T.asym x x h h
theorem Qlv (T : Tot c) (x : α) : eqv c x x = true := by simpa [eqv] using T.refl x
theorem F.mem (T : Tot c) {l r : List α} (h : F c l r) {x : α} (hx : x ∈ l) : x ∈ r := by
  have h1 : x ∈ l.filter (eqv c x) := List.mem_filter.2 ⟨hx, Qlv T x⟩
  rw [h.2 x] at h1
  exact (List.mem_filter.1 h1).1
theorem F.swap (T : Tot c) {A B : List α} (h : ∀ a ∈ A, ∀ b ∈ B, c b a < 0) : F c (A ++ B) (B ++ A) := by
  refine ⟨by simp [Nat.add_comm], fun x => ?_⟩
  rw [List.filter_append, List.filter_append]
  by_cases hA : A.filter (eqv c x) = []
  · rw [hA]
    simp
  · have hB : B.filter (eqv c x) = [] := by
      obtain ⟨a, ha⟩ := List.exists_mem_of_ne_nil _ hA
      obtain ⟨ha, hxa⟩ := List.mem_filter.1 ha
      refine List.filter_eq_nil_iff.2 fun b hb hxb => ?_
      simp only [eqv, Bool.and_eq_true, decide_eq_true_eq] at hxa hxb
      exact T.tr a x b hxa.1 hxb.2 (h a ha b hb)
    rw [hB]
    simp
theorem uniq (T : Tot c) : ∀ {l r : List α}, Up c l → Up c r → F c l r → l = r
  | [], [], _, _, _ => rfl
  | [], _ :: _, _, _, h => by simp [F] at h
  | _ :: _, [], _, _, h => by simp [F] at h
  | a :: l, b :: r, hl, hr, h => by
    have hl' := List.pairwise_cons.1 hl
    have hr' := List.pairwise_cons.1 hr
    have h1 : ¬ c b a < 0 := by
      rcases List.mem_cons.1 (h.symm.mem T (x := b) List.mem_cons_self) with e | e
      · subst e
        exact T.refl _
      · exact hl'.1 b e
    have h2 : ¬ c a b < 0 := by
      rcases List.mem_cons.1 (h.mem T (x := a) List.mem_cons_self) with e | e
      · subst e
        exact T.refl _
      · exact hr'.1 a e
    have e1 : eqv c a b = true := by simp only [eqv, Bool.and_eq_true, decide_eq_true_eq]; exact ⟨h2, h1⟩
    have e := h.2 a
    rw [List.filter_cons_of_pos (Qlv T a), List.filter_cons_of_pos e1] at e
    injection e with e _
    subst e
    refine congrArg _ (uniq T hl'.2 hr'.2 ⟨by have := h.1; simpa using this, fun x => ?_⟩)
    have e := h.2 x
    simp only [List.filter_cons] at e
    cases hx : eqv c x a with
    | true => rw [hx] at e; simpa using e
    | false => rw [hx] at e; simpa using e
theorem Qla {x y : α} : ∀ {R : List α}, y ∈ insR c x R → y = x ∨ y ∈ R
  | [], h => by simpa [insR] using h
  | s :: t, h => by
    rw [insR] at h
    cases hd : decide (c x s < 0) with
    | true =>
      rw [hd, cond_true] at h
      rcases List.mem_cons.1 h with e | e
      · exact Or.inr (by simp [e])
      · rcases Qla e with e | e
        · exact Or.inl e
        · exact Or.inr (List.mem_cons_of_mem _ e)
    | false =>
      rw [hd, cond_false] at h
      rcases List.mem_cons.1 h with e | e
      · exact Or.inl e
      · exact Or.inr e
theorem Qor (T : Tot c) (x : α) : ∀ {R : List α}, R.Pairwise (fun a b => le c b a) → (insR c x R).Pairwise (fun a b => le c b a)
  | [], _ => by simp [insR]
  | s :: t, h => by
    have h' := List.pairwise_cons.1 h
    rw [insR]
    by_cases hd : c x s < 0
    · rw [show decide (c x s < 0) = true by simpa using hd, cond_true]
      refine List.pairwise_cons.2 ⟨fun y hy => ?_, Qor T x h'.2⟩
      rcases Qla hy with e | e
      · subst e
        exact T.asym _ _ hd
      · exact h'.1 y e
    · rw [show decide (c x s < 0) = false by simpa using hd, cond_false]
      refine List.pairwise_cons.2 ⟨fun y hy => ?_, h⟩
      rcases List.mem_cons.1 hy with e | e
      · subst e
        exact hd
      · exact T.tr y s x (h'.1 y e) hd
theorem Qsp (T : Tot c) (x : α) : ∀ (R : List α), F c (R.reverse ++ [x]) (insR c x R).reverse
  | [] => F.rfl
  | s :: t => by
    rw [insR]
    by_cases hd : c x s < 0
    · rw [show decide (c x s < 0) = true by simpa using hd, cond_true, List.reverse_cons, List.reverse_cons, List.append_assoc]
      have h1 : F c ([s] ++ [x]) ([x] ++ [s]) := F.swap T (by simpa using hd)
      exact (F.rfl.app h1).trans (by rw [← List.append_assoc]; exact (Qsp T x t).app F.rfl)
    · rw [show decide (c x s < 0) = false by simpa using hd, cond_false, List.reverse_cons (a := x)]
      exact F.rfl
theorem Qk7 (T : Tot c) : ∀ (M R : List α), R.Pairwise (fun a b => le c b a) → (M.foldl (fun r x => insR c x r) R).Pairwise (fun a b => le c b a) ∧ F c (R.reverse ++ M) (M.foldl (fun r x => insR c x r) R).reverse
  | [], R, h => ⟨h, by simpa using F.rfl⟩
  | x :: M, R, h => by
    obtain ⟨h1, h2⟩ := Qk7 T M (insR c x R) (Qor T x h)
    refine ⟨h1, F.trans ?_ h2⟩
    have e : R.reverse ++ x :: M = (R.reverse ++ [x]) ++ M := by simp
    rw [e]
    exact (Qsp T x R).app F.rfl
theorem Q7d (T : Tot c) (l : List α) : Up c (Q6c c l) := by
  unfold Up Q6c
  rw [List.pairwise_reverse]
  exact (Qk7 T l [] List.Pairwise.nil).1
theorem Q9i (T : Tot c) (l : List α) : F c l (Q6c c l) := (Qk7 T l [] List.Pairwise.nil).2
def bs (g : Int → Bool) : Nat → Int → Int → Int
  | 0, i, _ => i
  | k + 1, i, j => bif decide (i < j) then (bif g ((i + j) / 2) then bs g k ((i + j) / 2 + 1) j else bs g k i ((i + j) / 2)) else i
theorem Q7u (g : Int → Bool) : ∀ (k : Nat) (i j : Int), i ≤ j → (j - i).toNat < k → i ≤ bs g k i j ∧ bs g k i j ≤ j ∧ (bs g k i j = i ∨ g (bs g k i j - 1) = true) ∧ (bs g k i j = j ∨ g (bs g k i j) = false)
  | 0, _, _, _, h => absurd h (Nat.not_lt_zero _)
  | k + 1, i, j, h, hk => by
    rw [bs]
    by_cases hij : i < j
    · rw [show decide (i < j) = true by simpa using hij, cond_true]
      cases hg : g ((i + j) / 2) with
      | true =>
        rw [cond_true]
        obtain ⟨h1, h2, h3, h4⟩ := Q7u g k ((i + j) / 2 + 1) j (by omega) (by omega)
        refine ⟨by omega, h2, Or.inr ?_, h4⟩
        rcases h3 with e | e
        · rw [e, show (i + j) / 2 + 1 - 1 = (i + j) / 2 by omega]
          exact hg
        · exact e
      | false =>
        rw [cond_false]
        obtain ⟨h1, h2, h3, h4⟩ := Q7u g k i ((i + j) / 2) (by omega) (by omega)
        refine ⟨h1, by omega, h3, Or.inr ?_⟩
        rcases h4 with e | e
        · rw [e]
          exact hg
        · exact e
    · rw [show decide (i < j) = false by simpa using hij, cond_false]
      exact ⟨Int.le_refl _, h, Or.inl rfl, Or.inl (by omega)⟩
def mv1 : Nat → Int → List α → Int → List α
  | 0, _, v, _ => v
  | k + 1, t, v, i => bif decide (i < t - 1) then mv1 k t (sw z v i (i + 1)) (i + 1) else v
def mv3 : Nat → Int → List α → Int → List α
  | 0, _, v, _ => v
  | k + 1, t, v, i => bif decide (t < i) then mv3 k t (sw z v i (i - 1)) (i - 1) else v
theorem Qls (x : α) (C : List α) (t : Int) : ∀ (V A : List α) (k : Nat) (i : Int), i = (A.length : Int) → t - 1 = i + (V.length : Int) → V.length < k → mv1 z k t (A ++ x :: (V ++ C)) i = A ++ (V ++ x :: C)
  | _, _, 0, _, _, _, h => absurd h (Nat.not_lt_zero _)
  | [], A, k + 1, i, hi, ht, _ => by
    rw [mv1, show decide (i < t - 1) = false by simp at ht ⊢; omega]
    rfl
  | y :: V, A, k + 1, i, hi, ht, hk => by
    simp only [List.length_cons] at ht hk
    rw [mv1, show decide (i < t - 1) = true by simp; omega, cond_true]
    have e : A ++ x :: (y :: V ++ C) = A ++ x :: ([] ++ y :: (V ++ C)) := by simp
    rw [e, Qts z hi (by simp; omega)]
    have e2 : A ++ y :: ([] ++ x :: (V ++ C)) = (A ++ [y]) ++ x :: (V ++ C) := by simp
    rw [e2, Qls x C t V (A ++ [y]) k (i + 1) (by simp; omega) (by omega) (by omega)]
    simp
theorem Qmd (y : α) (A : List α) (t : Int) (ht : t = (A.length : Int)) : ∀ (R C : List α) (k : Nat) (i : Int), i = (A.length : Int) + (R.length : Int) → R.length < k → mv3 z k t (A ++ (R.reverse ++ y :: C)) i = A ++ y :: (R.reverse ++ C)
  | _, _, 0, _, _, h => absurd h (Nat.not_lt_zero _)
  | [], C, k + 1, i, hi, _ => by
    rw [mv3, show decide (t < i) = false by simp at hi ⊢; omega]
    rfl
  | u :: R, C, k + 1, i, hi, hk => by
    simp only [List.length_cons] at hi hk
    rw [mv3, show decide (t < i) = true by simp; omega, cond_true]
    have e : A ++ ((u :: R).reverse ++ y :: C) = (A ++ R.reverse) ++ u :: ([] ++ y :: C) := by simp
    rw [e, Qq3 z (by simp; omega) (by simp; omega)]
    have e2 : (A ++ R.reverse) ++ y :: ([] ++ u :: C) = A ++ (R.reverse ++ y :: (u :: C)) := by simp
    rw [e2, Qmd y A t ht R (u :: C) k (i - 1) (by omega) (by omega)]
    simp
end
end Go.Pv.Srt
end

section
/- The library's stable sort: symmetric merging and the sort as a whole answer the stably sorted list. Program-free. -/
namespace Go.Pv.Srt
section
variable {α : Type} (z : α) (c : α → α → Int)
def sym2 (rec : List α → Int → Int → Int → List α) (d : List α) (a m b mid st : Int) : List α :=
  let d1 := bif decide (st < m) && decide (m < mid + m - st) then rot z d st m (mid + m - st) else d
  let d2 := bif decide (a < st) && decide (st < mid) then rec d1 a st mid else d1
  bif decide (mid < mid + m - st) && decide (mid + m - st < b) then rec d2 mid (mid + m - st) b else d2
def sg (d : List α) (p s : Int) : Bool := !decide (c (gt z d (p - s)) (gt z d s) < 0)
def sst (d : List α) (a m b : Int) : Int :=
  bif decide ((a + b) / 2 < m) then bs (sg z c d ((a + b) / 2 + m - 1)) (((a + b) / 2 - ((a + b) / 2 + m - b)).toNat + 1) ((a + b) / 2 + m - b) ((a + b) / 2)
  else bs (sg z c d ((a + b) / 2 + m - 1)) ((m - a).toNat + 1) a m
def st1 (d : List α) (a m b : Int) : Int := bs (fun h => decide (c (gt z d h) (gt z d a) < 0)) ((b - m).toNat + 1) m b
def st3 (d : List α) (a m : Int) : Int := bs (fun h => !decide (c (gt z d m) (gt z d h) < 0)) ((m - a).toNat + 1) a m
def sym : Nat → List α → Int → Int → Int → List α
  | 0, d, _, _, _ => d
  | k + 1, d, a, m, b =>
    bif m - a == 1 then mv1 z ((st1 z c d a m b - a).toNat + 1) (st1 z c d a m b) d a
    else bif b - m == 1 then mv3 z ((m - st3 z c d a m).toNat + 1) (st3 z c d a m) d m
    else sym2 z (sym k) d a m b ((a + b) / 2) (sst z c d a m b)
variable {c}
theorem Q9q (T : Tot c) {y l x : α} (h : le c y l) (g : c l x < 0) : c y x < 0 := by
  by_cases e : c y x < 0
  · exact e
  · exact absurd g (T.tr x y l e h)
theorem Qb2 (T : Tot c) {l x w : α} (g : c l x < 0) (h : le c x w) : c l w < 0 := by
  by_cases e : c l w < 0
  · exact e
  · exact absurd g (T.tr x w l h e)
theorem Qgf (T : Tot c) {V : List α} {l : α} (h : Up c (V ++ [l])) : ∀ y ∈ V ++ [l], le c y l := by
  intro y hy
  rcases List.mem_append.1 hy with e | e
  · exact (List.pairwise_append.1 h).2.2 y e l (by simp)
  · rw [List.mem_singleton.1 e]
    exact T.refl l
theorem Qgi (T : Tot c) {V : List α} {l : α} (h : Up c (l :: V)) : ∀ y ∈ l :: V, le c l y := by
  intro y hy
  rcases List.mem_cons.1 hy with e | e
  · rw [e]
    exact T.refl l
  · exact (List.pairwise_cons.1 h).1 y e
theorem one1 (T : Tot c) {A V C : List α} {x : α} {a m b : Int} (ha : a = (A.length : Int)) (hm : m = a + 1) (hb : b = m + (V.length : Int)) (hV : Up c V) :
    ∃ W, mv1 z ((st1 z c (A ++ x :: (V ++ C)) a m b - a).toNat + 1) (st1 z c (A ++ x :: (V ++ C)) a m b) (A ++ x :: (V ++ C)) a = A ++ (W ++ C) ∧ Up c W ∧ F c ([x] ++ V) W := by
  obtain ⟨h1, h2, h3, h4⟩ := Q7u (fun h => decide (c (gt z (A ++ x :: (V ++ C)) h) (gt z (A ++ x :: (V ++ C)) a) < 0)) ((b - m).toNat + 1) m b (by omega) (by omega)
  change m ≤ st1 z c (A ++ x :: (V ++ C)) a m b at h1
  change st1 z c (A ++ x :: (V ++ C)) a m b ≤ b at h2
  change st1 z c (A ++ x :: (V ++ C)) a m b = m ∨ decide (c (gt z _ (st1 z c (A ++ x :: (V ++ C)) a m b - 1)) _ < 0) = true at h3
  change st1 z c (A ++ x :: (V ++ C)) a m b = b ∨ decide (c (gt z _ (st1 z c (A ++ x :: (V ++ C)) a m b)) _ < 0) = false at h4
  generalize st1 z c (A ++ x :: (V ++ C)) a m b = t at h1 h2 h3 h4
  rw [Q5v z (A := A) (C := V ++ C) (x := x) rfl ha] at h3 h4
  have hV12 : V = V.take (t - m).toNat ++ V.drop (t - m).toNat := (List.take_append_drop _ _).symm
  have l1 : (V.take (t - m).toNat).length = (t - m).toNat := by simp; omega
  generalize V.take (t - m).toNat = V1 at hV12 l1
  generalize V.drop (t - m).toNat = V2 at hV12
  subst hV12
  rw [List.length_append] at hb
  have hu := List.pairwise_append.1 hV
  have k1 : ∀ y ∈ V1, c y x < 0 := by
    rcases List.eq_nil_or_concat V1 with e | ⟨L, l, e⟩
    · subst e
      intro y hy
      cases hy
    · subst e
      simp only [List.concat_eq_append] at *
      rcases h3 with e | e
      · simp at l1
        omega
      · rw [Q5v z (A := A ++ x :: L) (x := l) (C := V2 ++ C) (by simp) (by simp at l1 ⊢; omega)] at e
        exact fun y hy => Q9q T (Qgf T hu.1 y hy) (of_decide_eq_true e)
  have k2 : ∀ y ∈ V2, le c x y := by
    cases V2 with
    | nil =>
      intro y hy
      cases hy
    | cons w V2 =>
      rcases h4 with e | e
      · simp at hb
        omega
      · rw [Q5v z (A := A ++ x :: V1) (x := w) (C := V2 ++ C) (by simp) (by simp; omega)] at e
        exact fun y hy => T.tr x w y (of_decide_eq_false e) (Qgi T hu.2.1 y hy)
  refine ⟨V1 ++ x :: V2, ?_, ?_, ?_⟩
  · have e := Qls z x (V2 ++ C) t V1 A ((t - a).toNat + 1) a ha (by omega) (by omega)
    rw [List.append_assoc, e]
    simp
  · refine List.pairwise_append.2 ⟨hu.1, List.pairwise_cons.2 ⟨k2, hu.2.1⟩, fun y hy w hw => ?_⟩
    rcases List.mem_cons.1 hw with e | e
    · rw [e]
      exact T.asym _ _ (k1 y hy)
    · exact hu.2.2 y hy w e
  · have e : F c ([x] ++ V1) (V1 ++ [x]) := F.swap T (by simpa using k1)
    have e2 := e.app (F.rfl (l := V2))
    simpa using e2
theorem one3 (T : Tot c) {A U C : List α} {y : α} {a m : Int} (ha : a = (A.length : Int)) (hm : m = a + (U.length : Int)) (hU : Up c U) :
    ∃ W, mv3 z ((m - st3 z c (A ++ (U ++ y :: C)) a m).toNat + 1) (st3 z c (A ++ (U ++ y :: C)) a m) (A ++ (U ++ y :: C)) m = A ++ (W ++ C) ∧ Up c W ∧ F c (U ++ [y]) W := by
  obtain ⟨h1, h2, h3, h4⟩ := Q7u (fun h => !decide (c (gt z (A ++ (U ++ y :: C)) m) (gt z (A ++ (U ++ y :: C)) h) < 0)) ((m - a).toNat + 1) a m (by omega) (by omega)
  change a ≤ st3 z c (A ++ (U ++ y :: C)) a m at h1
  change st3 z c (A ++ (U ++ y :: C)) a m ≤ m at h2
  change st3 z c (A ++ (U ++ y :: C)) a m = a ∨ (!decide (c _ (gt z _ (st3 z c (A ++ (U ++ y :: C)) a m - 1)) < 0)) = true at h3
  change st3 z c (A ++ (U ++ y :: C)) a m = m ∨ (!decide (c _ (gt z _ (st3 z c (A ++ (U ++ y :: C)) a m)) < 0)) = false at h4
  generalize st3 z c (A ++ (U ++ y :: C)) a m = t at h1 h2 h3 h4
  rw [Q5v z (A := A ++ U) (C := C) (x := y) (by simp) (by simp; omega)] at h3 h4
  have hU12 : U = U.take (t - a).toNat ++ U.drop (t - a).toNat := (List.take_append_drop _ _).symm
  have l1 : (U.take (t - a).toNat).length = (t - a).toNat := by simp; omega
  generalize U.take (t - a).toNat = U1 at hU12 l1
  generalize U.drop (t - a).toNat = U2 at hU12
  subst hU12
  rw [List.length_append] at hm
  have hu := List.pairwise_append.1 hU
  have k1 : ∀ u ∈ U1, le c u y := by
    rcases List.eq_nil_or_concat U1 with e | ⟨L, l, e⟩
    · subst e
      intro y hy
      cases hy
    · subst e
      simp only [List.concat_eq_append] at *
      rcases h3 with e | e
      · simp at l1
        omega
      · rw [Q5v z (A := A ++ L) (x := l) (C := U2 ++ y :: C) (by simp) (by simp at l1 ⊢; omega)] at e
        exact fun u hu' => T.tr u l y (Qgf T hu.1 u hu') (by simpa using e)
  have k2 : ∀ u ∈ U2, c y u < 0 := by
    cases U2 with
    | nil =>
      intro y hy
      cases hy
    | cons w U2 =>
      rcases h4 with e | e
      · simp at hm
        omega
      · rw [Q5v z (A := A ++ U1) (x := w) (C := U2 ++ y :: C) (by simp) (by simp; omega)] at e
        exact fun u hu' => Qb2 T (by simpa using e) (Qgi T hu.2.1 u hu')
  refine ⟨U1 ++ y :: U2, ?_, ?_, ?_⟩
  · have e := Qmd z y (A ++ U1) t (by simp; omega) U2.reverse C ((m - t).toNat + 1) m (by simp; omega) (by simp; omega)
    rw [List.reverse_reverse] at e
    have e2 : A ++ (U1 ++ U2 ++ y :: C) = (A ++ U1) ++ (U2 ++ y :: C) := by simp
    rw [e2, e]
    simp
  · refine List.pairwise_append.2 ⟨hu.1, List.pairwise_cons.2 ⟨fun u hu' => T.asym _ _ (k2 u hu'), hu.2.1⟩, fun u hu' w hw => ?_⟩
    rcases List.mem_cons.1 hw with e | e
    · rw [e]
      exact k1 u hu'
    · exact hu.2.2 u hu' w e
  · have e : F c (U2 ++ [y]) ([y] ++ U2) := F.swap T (fun u hu' b hb => by rw [List.mem_singleton.1 hb]; exact k2 u hu')
    have e2 := (F.rfl (l := U1)).app e
    simpa using e2
end
end Go.Pv.Srt
end

section
/- The library's stable sort: merging in general, blocks, the whole. Program-free. -/
namespace Go.Pv.Srt
section
variable {α : Type} (z : α) {c : α → α → Int}
theorem two (T : Tot c) (rec : List α → Int → Int → Int → List α) {A U V C d : List α} {a m b mid st : Int} (hd : d = A ++ (U ++ (V ++ C))) (ha : a = (A.length : Int)) (hm : m = a + (U.length : Int)) (hb : b = m + (V.length : Int)) (hU : Up c U) (hV : Up c V)
    (b1 : a ≤ st) (b2 : st ≤ m) (b3 : st ≤ mid) (b4 : mid + m - st ≤ b) (b5 : a < mid) (b6 : mid < b)
    (g1 : st = a ∨ mid + m - st = b ∨ ¬ c (gt z d (mid + m - st)) (gt z d (st - 1)) < 0)
    (g2 : st = m ∨ st = mid ∨ c (gt z d (mid + m - 1 - st)) (gt z d st) < 0)
    (hrec : ∀ (A U V C : List α) (a' m' b' : Int), a' = (A.length : Int) → m' = a' + (U.length : Int) → b' = m' + (V.length : Int) → 0 < U.length → 0 < V.length → Up c U → Up c V → b' - a' < b - a → ∃ W, rec (A ++ (U ++ (V ++ C))) a' m' b' = A ++ (W ++ C) ∧ Up c W ∧ F c (U ++ V) W) :
    ∃ W, sym2 z rec d a m b mid st = A ++ (W ++ C) ∧ Up c W ∧ F c (U ++ V) W := by
  have hU12 : U = U.take (st - a).toNat ++ U.drop (st - a).toNat := (List.take_append_drop _ _).symm
  have l1 : (U.take (st - a).toNat).length = (st - a).toNat := by simp; omega
  generalize U.take (st - a).toNat = U1 at hU12 l1
  generalize U.drop (st - a).toNat = U2 at hU12
  subst hU12
  have hV12 : V = V.take (mid - st).toNat ++ V.drop (mid - st).toNat := (List.take_append_drop _ _).symm
  have l2 : (V.take (mid - st).toNat).length = (mid - st).toNat := by simp; omega
  generalize V.take (mid - st).toNat = V1 at hV12 l2
  generalize V.drop (mid - st).toNat = V2 at hV12
  subst hV12
  rw [List.length_append] at hm hb
  have hu := List.pairwise_append.1 hU
  have hv := List.pairwise_append.1 hV
  have hd' : d = A ++ (U1 ++ (U2 ++ (V1 ++ (V2 ++ C)))) := by rw [hd]; simp
  clear hd
  have c1 : ∀ x ∈ U1, ∀ y ∈ V2, le c x y := by
    rcases List.eq_nil_or_concat U1 with e | ⟨L, l, e⟩
    · subst e
      intro x hx
      cases hx
    · cases V2 with
      | nil =>
        intro x _ y hy
        cases hy
      | cons w V2 =>
        subst e
        simp only [List.concat_eq_append, List.length_append, List.length_cons, List.length_nil] at *
        rcases g1 with e | e | e
        · omega
        · omega
        · rw [Q5v z (d := d) (i := st - 1) (A := A ++ L) (x := l) (C := U2 ++ (V1 ++ (w :: V2 ++ C))) (by rw [hd']; simp) (by simp; omega),
            Q5v z (d := d) (i := mid + m - st) (A := A ++ (L ++ [l]) ++ U2 ++ V1) (x := w) (C := V2 ++ C) (by rw [hd']; simp) (by simp; omega)] at e
          exact fun x hx y hy => T.tr x w y (T.tr x l w (Qgf T hu.1 x hx) e) (Qgi T hv.2.1 y hy)
  have c2 : ∀ x ∈ U2, ∀ y ∈ V1, c y x < 0 := by
    rcases List.eq_nil_or_concat V1 with e | ⟨L, l, e⟩
    · subst e
      intro x _ y hy
      cases hy
    · cases U2 with
      | nil =>
        intro x hx
        cases hx
      | cons w U2 =>
        subst e
        simp only [List.concat_eq_append, List.length_append, List.length_cons, List.length_nil] at *
        rcases g2 with e | e | e
        · omega
        · omega
        · rw [Q5v z (d := d) (i := st) (A := A ++ U1) (x := w) (C := U2 ++ ((L ++ [l]) ++ (V2 ++ C))) (by rw [hd']; simp) (by simp; omega),
            Q5v z (d := d) (i := mid + m - 1 - st) (A := A ++ U1 ++ (w :: U2) ++ L) (x := l) (C := V2 ++ C) (by rw [hd']; simp) (by simp; omega)] at e
          exact fun x hx y hy => Qb2 T (Q9q T (Qgf T hv.1 y hy) e) (Qgi T hu.2.1 x hx)
  unfold sym2
  -- the exchange
  have hd1 : (bif decide (st < m) && decide (m < mid + m - st) then rot z d st m (mid + m - st) else d) = A ++ (U1 ++ (V1 ++ (U2 ++ (V2 ++ C)))) := by
    by_cases h : st < m ∧ m < mid + m - st
    · rw [show (decide (st < m) && decide (m < mid + m - st)) = true by simpa using h, cond_true]
      rw [Qs3 z (A := A ++ U1) (U := U2) (V := V1) (C := V2 ++ C) (by rw [hd']; simp) (by simp; omega) (by omega) (by omega) (by omega) (by omega)]
      simp
    · rw [show (decide (st < m) && decide (m < mid + m - st)) = false by rw [Bool.eq_false_iff]; simpa using h, cond_false, hd']
      by_cases h2 : U2.length = 0
      · rw [List.length_eq_zero_iff.1 h2]
        simp
      · have h3 : V1.length = 0 := by omega
        rw [List.length_eq_zero_iff.1 h3]
        simp
  simp only [hd1]
  -- the left
  have hl : ∃ W1, (bif decide (a < st) && decide (st < mid) then rec (A ++ (U1 ++ (V1 ++ (U2 ++ (V2 ++ C))))) a st mid else A ++ (U1 ++ (V1 ++ (U2 ++ (V2 ++ C))))) = A ++ (W1 ++ (U2 ++ (V2 ++ C))) ∧ Up c W1 ∧ F c (U1 ++ V1) W1 := by
    by_cases h : a < st ∧ st < mid
    · rw [show (decide (a < st) && decide (st < mid)) = true by simpa using h, cond_true]
      exact hrec A U1 V1 (U2 ++ (V2 ++ C)) a st mid ha (by omega) (by omega) (by omega) (by omega) hu.1 hv.1 (by omega)
    · rw [show (decide (a < st) && decide (st < mid)) = false by rw [Bool.eq_false_iff]; simpa using h, cond_false]
      refine ⟨U1 ++ V1, by simp, ?_, F.rfl⟩
      by_cases h2 : U1.length = 0
      · rw [List.length_eq_zero_iff.1 h2]
        exact hv.1
      · have h3 : V1.length = 0 := by omega
        rw [List.length_eq_zero_iff.1 h3, List.append_nil]
        exact hu.1
  obtain ⟨W1, e1, u1, f1⟩ := hl
  rw [e1]
  have lw : W1.length = (st - a).toNat + (mid - st).toNat := by have := f1.1; rw [List.length_append] at this; omega
  have hr : ∃ W2, (bif decide (mid < mid + m - st) && decide (mid + m - st < b) then rec (A ++ (W1 ++ (U2 ++ (V2 ++ C)))) mid (mid + m - st) b else A ++ (W1 ++ (U2 ++ (V2 ++ C)))) = A ++ (W1 ++ (W2 ++ C)) ∧ Up c W2 ∧ F c (U2 ++ V2) W2 := by
    by_cases h : mid < mid + m - st ∧ mid + m - st < b
    · rw [show (decide (mid < mid + m - st) && decide (mid + m - st < b)) = true by simpa using h, cond_true]
      obtain ⟨W2, e2, u2, f2⟩ := hrec (A ++ W1) U2 V2 C mid (mid + m - st) b (by simp; omega) (by omega) (by omega) (by omega) (by omega) hu.2.1 hv.2.1 (by omega)
      refine ⟨W2, ?_, u2, f2⟩
      rw [List.append_assoc, List.append_assoc] at e2
      exact e2
    · rw [show (decide (mid < mid + m - st) && decide (mid + m - st < b)) = false by rw [Bool.eq_false_iff]; simpa using h, cond_false]
      refine ⟨U2 ++ V2, by simp, ?_, F.rfl⟩
      by_cases h2 : U2.length = 0
      · rw [List.length_eq_zero_iff.1 h2]
        exact hv.2.1
      · have h3 : V2.length = 0 := by omega
        rw [List.length_eq_zero_iff.1 h3, List.append_nil]
        exact hu.2.1
  obtain ⟨W2, e2, u2, f2⟩ := hr
  refine ⟨W1 ++ W2, by rw [e2]; simp, List.pairwise_append.2 ⟨u1, u2, fun x hx y hy => ?_⟩, ?_⟩
  · rcases List.mem_append.1 (f1.symm.mem T hx) with hx | hx <;> rcases List.mem_append.1 (f2.symm.mem T hy) with hy | hy
    · exact hu.2.2 x hx y hy
    · exact c1 x hx y hy
    · exact T.asym _ _ (c2 y hy x hx)
    · exact hv.2.2 x hx y hy
  · have e : F c (U1 ++ (U2 ++ V1) ++ V2) (U1 ++ (V1 ++ U2) ++ V2) := (F.rfl.app (F.swap T c2)).app F.rfl
    have e' := f1.app f2
    refine F.trans (r := U1 ++ (V1 ++ U2) ++ V2) ?_ (F.trans (r := (U1 ++ V1) ++ (U2 ++ V2)) (by simpa using F.rfl) e')
    simpa using e
theorem Qfq (T : Tot c) : ∀ (k : Nat) (A U V C : List α) (a m b : Int), a = (A.length : Int) → m = a + (U.length : Int) → b = m + (V.length : Int) → 0 < U.length → 0 < V.length → Up c U → Up c V → (b - a).toNat < k →
    ∃ W, sym z c k (A ++ (U ++ (V ++ C))) a m b = A ++ (W ++ C) ∧ Up c W ∧ F c (U ++ V) W
  | 0, _, _, _, _, _, _, _, _, _, _, _, _, _, _, h => absurd h (Nat.not_lt_zero _)
  | k + 1, A, U, V, C, a, m, b, ha, hm, hb, lU, lV, hU, hV, hk => by
    rw [sym]
    by_cases h1 : m - a = 1
    · rw [show (m - a == 1) = true by simpa using h1, cond_true]
      obtain ⟨x, rfl⟩ := List.length_eq_one_iff.1 (show U.length = 1 by omega)
      exact one1 z T ha (by omega) hb hV
    · rw [show (m - a == 1) = false by simpa using h1, cond_false]
      by_cases h2 : b - m = 1
      · rw [show (b - m == 1) = true by simpa using h2, cond_true]
        obtain ⟨y, rfl⟩ := List.length_eq_one_iff.1 (show V.length = 1 by omega)
        exact one3 z T ha hm hU
      · rw [show (b - m == 1) = false by simpa using h2, cond_false]
        have hs : a ≤ sst z c (A ++ (U ++ (V ++ C))) a m b ∧ sst z c (A ++ (U ++ (V ++ C))) a m b ≤ m ∧ sst z c (A ++ (U ++ (V ++ C))) a m b ≤ (a + b) / 2 ∧ (a + b) / 2 + m - sst z c (A ++ (U ++ (V ++ C))) a m b ≤ b ∧
            (sst z c (A ++ (U ++ (V ++ C))) a m b = a ∨ (a + b) / 2 + m - sst z c (A ++ (U ++ (V ++ C))) a m b = b ∨ sg z c (A ++ (U ++ (V ++ C))) ((a + b) / 2 + m - 1) (sst z c (A ++ (U ++ (V ++ C))) a m b - 1) = true) ∧
            (sst z c (A ++ (U ++ (V ++ C))) a m b = m ∨ sst z c (A ++ (U ++ (V ++ C))) a m b = (a + b) / 2 ∨ sg z c (A ++ (U ++ (V ++ C))) ((a + b) / 2 + m - 1) (sst z c (A ++ (U ++ (V ++ C))) a m b) = false) := by
          unfold sst
          by_cases h3 : (a + b) / 2 < m
          · rw [show decide ((a + b) / 2 < m) = true by simpa using h3]
            simp only [cond_true]
            obtain ⟨q1, q2, q3, q4⟩ := Q7u (sg z c (A ++ (U ++ (V ++ C))) ((a + b) / 2 + m - 1)) (((a + b) / 2 - ((a + b) / 2 + m - b)).toNat + 1) ((a + b) / 2 + m - b) ((a + b) / 2) (by omega) (by omega)
            refine ⟨by omega, by omega, q2, by omega, ?_, ?_⟩
            · rcases q3 with e | e
              · exact Or.inr (Or.inl (by omega))
              · exact Or.inr (Or.inr e)
            · rcases q4 with e | e
              · exact Or.inr (Or.inl e)
              · exact Or.inr (Or.inr e)
          · rw [show decide ((a + b) / 2 < m) = false by simpa using h3]
            simp only [cond_false]
            obtain ⟨q1, q2, q3, q4⟩ := Q7u (sg z c (A ++ (U ++ (V ++ C))) ((a + b) / 2 + m - 1)) ((m - a).toNat + 1) a m (by omega) (by omega)
            refine ⟨q1, q2, by omega, by omega, ?_, ?_⟩
            · rcases q3 with e | e
              · exact Or.inl e
              · exact Or.inr (Or.inr e)
            · rcases q4 with e | e
              · exact Or.inl e
              · exact Or.inr (Or.inr e)
        generalize sst z c (A ++ (U ++ (V ++ C))) a m b = st at hs
        obtain ⟨s1, s2, s3, s4, s5, s6⟩ := hs
        refine two z T (sym z c k) rfl ha hm hb hU hV s1 s2 s3 s4 (by omega) (by omega) ?_ ?_ (fun A U V C a' m' b' p1 p2 p3 p4 p5 p6 p7 p8 => Qfq T k A U V C a' m' b' p1 p2 p3 p4 p5 p6 p7 (by omega))
        · rcases s5 with e | e | e
          · exact Or.inl e
          · exact Or.inr (Or.inl e)
          · refine Or.inr (Or.inr ?_)
            unfold sg at e
            rw [show (a + b) / 2 + m - 1 - (st - 1) = (a + b) / 2 + m - st by omega] at e
            simpa using e
        · rcases s6 with e | e | e
          · exact Or.inl e
          · exact Or.inr (Or.inl e)
          · refine Or.inr (Or.inr ?_)
            unfold sg at e
            simpa using e
end
end Go.Pv.Srt
end

section
/- The library's stable sort: blocks, and the whole: it answers what insertion answers. Program-free. -/
namespace Go.Pv.Srt
section
variable {α : Type} (z : α) (c : α → α → Int)
def stb0 (n : Int) : Nat → List α → Int → Int → List α × Int
  | 0, v, a, _ => (v, a)
  | k + 1, v, a, b => bif decide (b ≤ n) then stb0 n k (ins z c v a b) b (b + 20) else (v, a)
def stb2 (n : Int) : Nat → List α → Int → Int → Int → List α × Int × Int
  | 0, v, a, _, s => (v, s, a)
  | k + 1, v, a, b, s => bif decide (b ≤ n) then stb2 n k (sym z c ((b - a).toNat + 1) v a (a + s) b) b (b + (2 * s)) s else (v, s, a)
def Qaj (n : Int) (v : List α) (s : Int) : List α × Int × Int := stb2 z c n ((n + 2 * s - (2 * s)).toNat + 1) v 0 (2 * s) s
def stb1 (n : Int) : Nat → List α → Int → List α
  | 0, v, _ => v
  | k + 1, v, s =>
    bif decide (s < n) then
      bif decide ((Qaj z c n v s).2.2 + (Qaj z c n v s).2.1 < n) then
        stb1 n k (sym z c ((n - (Qaj z c n v s).2.2).toNat + 1) (Qaj z c n v s).1 (Qaj z c n v s).2.2 ((Qaj z c n v s).2.2 + (Qaj z c n v s).2.1) n) ((Qaj z c n v s).2.1 * 2)
      else stb1 n k (Qaj z c n v s).1 ((Qaj z c n v s).2.1 * 2)
    else v
def stb (d : List α) (n : Int) : List α :=
  stb1 z c n ((n - 20).toNat + 1) (ins z c (stb0 z c n ((n + 20 - 20).toNat + 1) d 0 20).1 (stb0 z c n ((n + 20 - 20).toNat + 1) d 0 20).2 n) 20
inductive Bl (s : Nat) : List α → Prop
  | last {l : List α} : l.length ≤ s → Up c l → Bl s l
  | cons {l r : List α} : l.length = s → Up c l → Bl s r → Bl s (l ++ r)
inductive Fu (s : Nat) : List α → Prop
  | nil : Fu s []
  | snoc {p l : List α} : Fu s p → l.length = s → Up c l → Fu s (p ++ l)
variable {c}
theorem Fu.bl {s : Nat} {P : List α} (h : Fu c s P) : ∀ {Q : List α}, Bl c s Q → Bl c s (P ++ Q) := by
  induction h with
  | nil => exact fun h => h
  | snoc _ h1 h2 ih =>
    intro Q hQ
    rw [List.append_assoc]
    exact ih (Bl.cons h1 h2 hQ)
theorem Bl.one {s : Nat} {Q : List α} (h : Bl c s Q) (hl : Q.length ≤ s) : Up c Q := by
  cases h with
  | last _ h => exact h
  | cons h1 h2 h3 =>
    rename_i l r
    rw [List.length_append] at hl
    rw [List.length_eq_zero_iff.1 (show r.length = 0 by omega), List.append_nil]
    exact h2
theorem Bl.split {s : Nat} {Q : List α} (h : Bl c s Q) (hl : s < Q.length) : ∃ l r, Q = l ++ r ∧ l.length = s ∧ Up c l ∧ Bl c s r := by
  cases h with
  | last h _ => omega
  | cons h1 h2 h3 => exact ⟨_, _, rfl, h1, h2, h3⟩
theorem Bl.two {s : Nat} {Q : List α} (hs : 0 < s) (h : Bl c s Q) (hl : 2 * s ≤ Q.length) : ∃ l m r, Q = l ++ (m ++ r) ∧ l.length = s ∧ m.length = s ∧ Up c l ∧ Up c m ∧ Bl c s r := by
  obtain ⟨l, r, rfl, h1, h2, h3⟩ := h.split (by omega)
  rw [List.length_append] at hl
  by_cases h4 : s < r.length
  · obtain ⟨m, r, rfl, h5, h6, h7⟩ := h3.split h4
    exact ⟨l, m, r, rfl, h1, h5, h2, h6, h7⟩
  · exact ⟨l, r, [], by simp, h1, by omega, h2, h3.one (by omega), Bl.last (by simp) List.Pairwise.nil⟩
theorem Qgn (T : Tot c) (n : Int) : ∀ (k : Nat) (P Q : List α) (a b : Int), a = (P.length : Int) → b = a + 20 → n = (P.length : Int) + (Q.length : Int) → Fu c 20 P → (n + 20 - b).toNat < k →
    ∃ P' Q', stb0 z c n k (P ++ Q) a b = (P' ++ Q', (P'.length : Int)) ∧ Fu c 20 P' ∧ Q'.length < 20 ∧ F c (P ++ Q) (P' ++ Q')
  | 0, _, _, _, _, _, _, _, _, h => absurd h (Nat.not_lt_zero _)
  | k + 1, P, Q, a, b, ha, hb, hn, hP, hk => by
    rw [stb0]
    by_cases h : b ≤ n
    · rw [show decide (b ≤ n) = true by simpa using h, cond_true]
      have e : P ++ Q = P ++ (Q.take 20 ++ Q.drop 20) := by rw [List.take_append_drop]
      have l1 : (Q.take 20).length = 20 := by simp; omega
      rw [e, Qlh z c rfl ha (show b = a + ((Q.take 20).length : Int) by omega)]
      have f := Q9i T (Q.take 20)
      have l2 : (Q6c c (Q.take 20)).length = 20 := by have := f.1; omega
      have l3 : (Q.drop 20).length = Q.length - 20 := by simp
      rw [← List.append_assoc]
      obtain ⟨P', Q', h1, h2, h3, h4⟩ := Qgn T n k (P ++ Q6c c (Q.take 20)) (Q.drop 20) b (b + 20) (by rw [List.length_append]; omega) rfl (by rw [List.length_append]; omega) (Fu.snoc hP l2 (Q7d T _)) (by omega)
      refine ⟨P', Q', h1, h2, h3, F.trans ?_ h4⟩
      rw [List.append_assoc]
      exact F.rfl.app (f.app F.rfl)
    · rw [show decide (b ≤ n) = false by simpa using h, cond_false]
      exact ⟨P, Q, by rw [ha], hP, by omega, F.rfl⟩
theorem Qgo (T : Tot c) (n : Int) (t : Nat) (s : Int) (hs : s = (t : Int)) (ht : 0 < t) : ∀ (k : Nat) (P Q : List α) (a b : Int), a = (P.length : Int) → b = a + 2 * s → n = (P.length : Int) + (Q.length : Int) → Fu c (2 * t) P → Bl c t Q → (n + 2 * s - b).toNat < k →
    ∃ P' Q', stb2 z c n k (P ++ Q) a b s = (P' ++ Q', s, (P'.length : Int)) ∧ Fu c (2 * t) P' ∧ Bl c t Q' ∧ Q'.length < 2 * t ∧ F c (P ++ Q) (P' ++ Q')
  | 0, _, _, _, _, _, _, _, _, _, h => absurd h (Nat.not_lt_zero _)
  | k + 1, P, Q, a, b, ha, hb, hn, hP, hQ, hk => by
    rw [stb2]
    by_cases h : b ≤ n
    · rw [show decide (b ≤ n) = true by simpa using h, cond_true]
      obtain ⟨l, m, r, rfl, h1, h2, h3, h4, h5⟩ := hQ.two ht (by omega)
      simp only [List.length_append] at hn
      obtain ⟨W, e1, e2, e3⟩ := Qfq z T ((b - a).toNat + 1) P l m r a (a + s) b ha (by omega) (by omega) (by omega) (by omega) h3 h4 (by omega)
      have lW : W.length = 2 * t := by have := e3.1; rw [List.length_append] at this; omega
      rw [e1, ← List.append_assoc]
      obtain ⟨P', Q', g1, g2, g3, g4, g5⟩ := Qgo T n t s hs ht k (P ++ W) r b (b + 2 * s) (by rw [List.length_append]; omega) rfl (by rw [List.length_append]; omega) (Fu.snoc hP lW e2) h5 (by omega)
      refine ⟨P', Q', g1, g2, g3, g4, F.trans ?_ g5⟩
      rw [List.append_assoc, ← List.append_assoc l]
      exact F.rfl.app (e3.app F.rfl)
    · rw [show decide (b ≤ n) = false by simpa using h, cond_false]
      exact ⟨P, Q, by rw [ha], hP, hQ, by omega, F.rfl⟩
theorem Qbh (T : Tot c) (n : Int) : ∀ (k : Nat) (v : List α) (t : Nat) (s : Int), s = (t : Int) → 0 < t → n = (v.length : Int) → Bl c t v → (n - s).toNat < k → Up c (stb1 z c n k v s) ∧ F c v (stb1 z c n k v s)
  | 0, _, _, _, _, _, _, _, h => absurd h (Nat.not_lt_zero _)
  | k + 1, v, t, s, hs, ht, hn, hv, hk => by
    rw [stb1]
    by_cases h : s < n
    · rw [show decide (s < n) = true by simpa using h, cond_true]
      obtain ⟨P, Q, g1, g2, g3, g4, g5⟩ := Qgo z T n t s hs ht ((n + 2 * s - (2 * s)).toNat + 1) [] v 0 (2 * s) rfl (by omega) (by simpa using hn) Fu.nil hv (by omega)
      have e : Qaj z c n v s = (P ++ Q, s, (P.length : Int)) := g1
      rw [e]
      have hl := g5.1
      simp only [List.nil_append, List.length_append] at hl
      simp only
      by_cases h2 : (P.length : Int) + s < n
      · rw [show decide ((P.length : Int) + s < n) = true by simpa using h2, cond_true]
        obtain ⟨l, r, rfl, h3, h4, h5⟩ := g3.split (by omega)
        rw [List.length_append] at g4 hl
        obtain ⟨W, e1, e2, e3⟩ := Qfq z T ((n - (P.length : Int)).toNat + 1) P l r [] (P.length : Int) ((P.length : Int) + s) n rfl (by omega) (by omega) (by omega) (by omega) h4 (h5.one (by omega)) (by omega)
        rw [List.append_nil, List.append_nil] at e1
        rw [e1]
        have lW : W.length ≤ 2 * t := by have := e3.1; rw [List.length_append] at this; omega
        have lW' : (P ++ W).length = v.length := by have := e3.1; rw [List.length_append] at this ⊢; omega
        obtain ⟨q1, q2⟩ := Qbh T n k (P ++ W) (2 * t) (s * 2) (by omega) (by omega) (by omega) (g2.bl (Bl.last lW e2)) (by omega)
        exact ⟨q1, F.trans (F.trans g5 (F.rfl.app e3)) q2⟩
      · rw [show decide ((P.length : Int) + s < n) = false by simpa using h2, cond_false]
        obtain ⟨q1, q2⟩ := Qbh T n k (P ++ Q) (2 * t) (s * 2) (by omega) (by omega) (by rw [List.length_append]; omega) (g2.bl (Bl.last (by omega) (g3.one (by omega)))) (by omega)
        exact ⟨q1, F.trans g5 q2⟩
    · rw [show decide (s < n) = false by simpa using h, cond_false]
      exact ⟨hv.one (by omega), F.rfl⟩
theorem Qoa (T : Tot c) (d : List α) (n : Int) (hn : n = (d.length : Int)) : stb z c d n = Q6c c d := by
  unfold stb
  obtain ⟨P, Q, g1, g2, g3, g4⟩ := Qgn z T n ((n + 20 - 20).toNat + 1) [] d 0 20 rfl rfl (by simpa using hn) Fu.nil (by omega)
  rw [List.nil_append] at g1 g4
  rw [g1]
  simp only
  have hl := g4.1
  rw [List.length_append] at hl
  have e := Qlh z c (d := P ++ Q) (A := P) (M := Q) (C := []) (a := (P.length : Int)) (b := n) (by simp) rfl (by omega)
  rw [e, List.append_nil]
  have f := Q9i T Q
  obtain ⟨q1, q2⟩ := Qbh z T n ((n - 20).toNat + 1) (P ++ Q6c c Q) 20 20 rfl (by omega) (by rw [List.length_append, ← f.1]; omega) (g2.bl (Bl.last (by rw [← f.1]; omega) (Q7d T Q))) (by omega)
  exact uniq T q1 (Q7d T d) (F.trans q2.symm (F.trans (F.rfl.app f.symm) (F.trans g4.symm (Q9i T d))))
end
end Go.Pv.Srt
end

section
/- The printed functions of the library's stable sort are the plain ones (printed by a program). -/
namespace Go.Proofs.Ytedohmdgbilicaa
open Go.Pv Go.Pv.Srt
abbrev Q1g : Fld := zF
theorem Qea (n0 : Nat) (a b i : Int) : ∀ (k : Nat) (v : List Fld) (j : Int), Q1p n0 a b i k v j = ins1 Q1g Q1m a k v j
  | 0, _, _ => rfl
  | k + 1, v, j => by
    rw [Q1p, ins1, Qea n0 a b i k]
    rfl
theorem Qe6 (n0 : Nat) (a b : Int) : ∀ (k : Nat) (i : Int) (v : List Fld), Q29 n0 a b k i v = ins0 Q1g Q1m a b k i v
  | 0, _, _ => rfl
  | k + 1, i, v => by
    rw [Q29, ins0, Qe6 n0 a b k, Qea]
theorem Qi9 (n0 : Nat) (d : List Fld) (a b : Int) : Q12 n0 d a b = ins Q1g Q1m d a b := Qe6 n0 a b _ _ _
theorem Qep (n0 : Nat) (p q n : Int) : ∀ (k : Nat) (v : List Fld) (i : Int), Q27 n0 p q n k v i = swr1 Q1g p q n k v i
  | 0, _, _ => rfl
  | k + 1, v, i => by
    rw [Q27, swr1, Qep n0 p q n k]
    rfl
theorem Qcc (n0 : Nat) (d : List Fld) (p q n : Int) : Qz n0 d p q n = swr Q1g d p q n := Qep n0 p q n _ _ _
theorem Q7z (n0 : Nat) (m : Int) : ∀ (k : Nat) (i j : Int) (v : List Fld), Q18 n0 m k i j v = rot1 Q1g m k i j v
  | 0, _, _, _ => rfl
  | k + 1, i, j, v => by
    rw [Q18, rot1, Q7z n0 m k, Q7z n0 m k, Qcc, Qcc]
theorem Qqp (n0 : Nat) (d : List Fld) (a m b : Int) : Q7 n0 d a m b = rot Q1g d a m b := by
  unfold Q7 rot
  rw [Q7z, Qcc]
theorem Qbv (n0 : Nat) (d : List Fld) (a m b : Int) : ∀ (k : Nat) (i j : Int), Q1w n0 d a m b k i j = bs (fun h => decide (Q1m (gt Q1g d h) (gt Q1g d a) < 0)) k i j
  | 0, _, _ => rfl
  | k + 1, i, j => by
    rw [Q1w, bs, Qbv n0 d a m b k, Qbv n0 d a m b k]
    rfl
theorem Qi3 (n0 : Nat) : ∀ (k : Nat) (t : Int) (v : List Fld) (i : Int), Q26 n0 k t v i = mv1 Q1g k t v i
  | 0, _, _, _ => rfl
  | k + 1, t, v, i => by
    rw [Q26, mv1, Qi3 n0 k]
    rfl
theorem Qc2 (n0 : Nat) (d : List Fld) (a m : Int) : ∀ (k : Nat) (j i : Int), Q1x n0 d a m k j i = bs (fun h => !decide (Q1m (gt Q1g d m) (gt Q1g d h) < 0)) k i j
  | 0, _, _ => rfl
  | k + 1, j, i => by
    rw [Q1x, bs, Qc2 n0 d a m k, Qc2 n0 d a m k]
    cases decide (i < j) with
    | false => rfl
    | true =>
      show (bif decide (Q1m (gt Q1g d m) (gt Q1g d ((i + j) / 2)) < 0) then _ else _) = bif !decide (Q1m (gt Q1g d m) (gt Q1g d ((i + j) / 2)) < 0) then _ else _
      cases decide (Q1m (gt Q1g d m) (gt Q1g d ((i + j) / 2)) < 0) <;> rfl
theorem Qir (n0 : Nat) : ∀ (k : Nat) (t : Int) (v : List Fld) (i : Int), Q28 n0 k t v i = mv3 Q1g k t v i
  | 0, _, _, _ => rfl
  | k + 1, t, v, i => by
    rw [Q28, mv3, Qir n0 k]
    rfl
theorem Qb7 (n0 : Nat) (d : List Fld) (a m b mid n p : Int) : ∀ (k : Nat) (i j : Int), Q5 n0 d a m b k mid n i j p = (mid, n, bs (sg Q1g Q1m d p) k i j)
  | 0, _, _ => rfl
  | k + 1, i, j => by
    rw [Q5, bs, Qb7 n0 d a m b mid n p k, Qb7 n0 d a m b mid n p k]
    cases decide (i < j) with
    | false => rfl
    | true =>
      show (bif decide (Q1m (gt Q1g d (p - (i + j) / 2)) (gt Q1g d ((i + j) / 2)) < 0) then _ else _) = (mid, n, bif !decide (Q1m (gt Q1g d (p - (i + j) / 2)) (gt Q1g d ((i + j) / 2)) < 0) then _ else _)
      cases decide (Q1m (gt Q1g d (p - (i + j) / 2)) (gt Q1g d ((i + j) / 2)) < 0) <;> rfl
theorem Qb1 (n0 : Nat) : ∀ (k : Nat) (d : List Fld) (a m b : Int), Q6 k n0 d a m b = sym Q1g Q1m k d a m b
  | 0, _, _, _, _ => rfl
  | k + 1, d, a, m, b => by
    rw [Q6, sym]
    simp only [Qb1 n0 k, Qbv, Qi3, Qc2, Qir, Qb7, Qqp]
    cases (m - a == 1) with
    | true => rfl
    | false =>
      cases (b - m == 1) with
      | true => rfl
      | false =>
        simp only [cond_false]
        unfold sst
        cases decide ((a + b) / 2 < m) with
        | true =>
          simp only [cond_true]
          generalize bs (sg Q1g Q1m d ((a + b) / 2 + m - 1)) (((a + b) / 2 - ((a + b) / 2 + m - b)).toNat + 1) ((a + b) / 2 + m - b) ((a + b) / 2) = st
          unfold sym2
          generalize (a + b) / 2 = mid
          cases decide (st < m) <;> cases decide (m < mid + m - st) <;> cases decide (a < st) <;> cases decide (st < mid) <;> cases decide (mid < mid + m - st) <;> cases decide (mid + m - st < b) <;> rfl
        | false =>
          simp only [cond_false]
          generalize bs (sg Q1g Q1m d ((a + b) / 2 + m - 1)) ((m - a).toNat + 1) a m = st
          unfold sym2
          generalize (a + b) / 2 = mid
          cases decide (st < m) <;> cases decide (m < mid + m - st) <;> cases decide (a < st) <;> cases decide (st < mid) <;> cases decide (mid < mid + m - st) <;> cases decide (mid + m - st < b) <;> rfl
theorem Qdc (n0 : Nat) (n : Int) : ∀ (k : Nat) (v : List Fld) (a b : Int), Q1i n0 n k v a b = stb0 Q1g Q1m n k v a b
  | 0, _, _, _ => rfl
  | k + 1, v, a, b => by
    rw [Q1i, stb0, Qdc n0 n k, Qi9]
theorem Qe1 (n0 : Nat) (n : Int) : ∀ (k : Nat) (v : List Fld) (a b s : Int), Qa n0 n k v a b s = stb2 Q1g Q1m n k v a b s
  | 0, _, _, _, _ => rfl
  | k + 1, v, a, b, s => by
    rw [Qa, stb2, Qe1 n0 n k, Qb1]
theorem Qdi (n0 : Nat) (n : Int) : ∀ (k : Nat) (v : List Fld) (s : Int), Q22 n0 n k v s = stb1 Q1g Q1m n k v s
  | 0, _, _ => rfl
  | k + 1, v, s => by
    rw [Q22, stb1]
    simp only [Qdi n0 n k, Qe1, Qb1]
    rfl
theorem Qqa (n0 : Nat) (d : List Fld) (n : Int) : Q2t n0 d n = stb Q1g Q1m d n := by
  unfold Q2t stb
  simp only [Qdi, Qi9, Qdc]
theorem Qmr (T : Tot Q1m) (d : List Fld) : Qh d.length d = Q6c Q1m d := by
  unfold Qh
  rw [Qqa, Qoa _ T d _ rfl]
end Go.Proofs.Ytedohmdgbilicaa
end

section
/- What the law ValueBuilds computes (printed by a program). -/
namespace Go.Proofs.Ytedohmdgbilicaa
open Go.Pv
def Q35 (p0 : List Val) (p1 : List Fld) (p2 : Int) (p3 : ByteArray) (p4 : Bool) : Nat → (List Val) → Int → List Val
 | 0, v0_0, _v0_1 => v0_0
 | k0 + 1, v0_0, v0_1 =>
  bif (decide (v0_1 < ((List.length ((Qg p0)).list) : Int))) then
   Q35 p0 p1 p2 p3 p4 k0 (List.set v0_0 (Int.toNat v0_1) (Val.mk (List.getD v0_0 (Int.toNat v0_1) (Val.mk 0 0 (⟨#[]⟩ : ByteArray) [] [])).kind (Q86 (List.getD v0_0 (Int.toNat v0_1) (Val.mk 0 0 (⟨#[]⟩ : ByteArray) [] [])).n 1) (List.getD v0_0 (Int.toNat v0_1) (Val.mk 0 0 (⟨#[]⟩ : ByteArray) [] [])).s (List.getD v0_0 (Int.toNat v0_1) (Val.mk 0 0 (⟨#[]⟩ : ByteArray) [] [])).list (List.getD v0_0 (Int.toNat v0_1) (Val.mk 0 0 (⟨#[]⟩ : ByteArray) [] [])).fields)) (v0_1 + 1)
  else
   v0_0
def Qll (p0 : List Val) (p1 : List Fld) (p2 : Int) (p3 : ByteArray) (p4 : Bool) (_v0_0 : List Val) (v0_1 : Int) : List PV :=
  [.sl (Val.rows p0), .sl (Fld.rows p1), .int .i64 p2, .str p3, .bool p4] ++ nuns 6 ++ [.bx 0 0, .bx 1 0, .int .i64 v0_1] ++ nuns 107
def Qfo (p0 : List Val) (p1 : List Fld) (_p2 : Int) (_p3 : ByteArray) (_p4 : Bool) (v0_0 : List Val) (_v0_1 : Int) : List Ob :=
  [⟨5, 0, true, [.int .i64 ((Qg p0)).kind, .int .i64 ((Qg p0)).n, .str ((Qg p0)).s, .ms 2 5 0 (List.length ((Qg p0)).list), .ms 3 6 0 (List.length ((Qg p0)).fields)]⟩, ⟨5, 0, true, [.int .i64 ((Qd p1)).kind, .int .i64 ((Qd p1)).n, .str ((Qd p1)).s, .ms 4 5 0 (List.length ((Qd p1)).list), .ms 5 6 0 (List.length ((Qd p1)).fields)]⟩, ⟨5, 0, true, (Val.rows v0_0).flatten⟩, ⟨6, 0, true, (Fld.rows ((Qg p0)).fields).flatten⟩, ⟨5, 0, true, (Val.rows ((Qd p1)).list).flatten⟩, ⟨6, 0, true, (Fld.rows ((Qd p1)).fields).flatten⟩]
def Qa9 (p0 : List Val) (p1 : List Fld) (p2 : Int) (p3 : ByteArray) (p4 : Bool) (v0_0 : List Val) (v0_1 : Int) : En := .loop 0 Ir.Qcv Ir.Qu4 (Qll p0 p1 p2 p3 p4 v0_0 v0_1) (Qfo p0 p1 p2 p3 p4 v0_0 v0_1)
def Qal (p0 : List Val) (p1 : List Fld) (p2 : Int) (p3 : ByteArray) (p4 : Bool) (q0 : List Val) (z : Nat → PV) (_zo : Nat → List PV) : St :=
  ⟨[.sl (Val.rows p0), .sl (Fld.rows p1), .int .i64 p2, .str p3, .bool p4] ++ zr z 5 7 ++ [.bx 1 0] ++ zr z 13 108, [(0, ⟨5, 0, true, [.int .i64 ((Qg p0)).kind, .int .i64 ((Qg p0)).n, .str ((Qg p0)).s, .ms 2 5 0 (List.length ((Qg p0)).list), .ms 3 6 0 (List.length ((Qg p0)).fields)]⟩), (1, ⟨5, 0, true, [.int .i64 ((Qd p1)).kind, .int .i64 ((Qd p1)).n, .str ((Qd p1)).s, .ms 4 5 0 (List.length ((Qd p1)).list), .ms 5 6 0 (List.length ((Qd p1)).fields)]⟩), (2, ⟨5, 0, true, (Val.rows q0).flatten⟩), (3, ⟨6, 0, true, (Fld.rows ((Qg p0)).fields).flatten⟩), (4, ⟨5, 0, true, (Val.rows ((Qd p1)).list).flatten⟩), (5, ⟨6, 0, true, (Fld.rows ((Qd p1)).fields).flatten⟩)], 326⟩
theorem Qoz (p0 : List Val) (p1 : List Fld) (p2 : Int) (p3 : ByteArray) (p4 : Bool) (v0_0 : List Val) (v0_1 : Int) : VOK (Go.Pv.look (number 0 (Qfo p0 p1 p2 p3 p4 v0_0 v0_1))) [(2, Val.rows v0_0), (3, Fld.rows ((Qg p0)).fields), (4, Val.rows ((Qd p1)).list), (5, Fld.rows ((Qd p1)).fields)] := (VOK.cons (show Seen _ _ from Q2q (ob := ⟨5, 0, true, (Val.rows v0_0).flatten⟩) (Val.Q0 v0_0 5 rfl)) (VOK.cons (show Seen _ _ from Q2q (ob := ⟨6, 0, true, (Fld.rows ((Qg p0)).fields).flatten⟩) (Fld.Q0 ((Qg p0)).fields 6 rfl)) (VOK.cons (show Seen _ _ from Q2q (ob := ⟨5, 0, true, (Val.rows ((Qd p1)).list).flatten⟩) (Val.Q0 ((Qd p1)).list 5 rfl)) (VOK.cons (show Seen _ _ from Q2q (ob := ⟨6, 0, true, (Fld.rows ((Qd p1)).fields).flatten⟩) (Fld.Q0 ((Qd p1)).fields 6 rfl)) VOK.nil))))
def Qgb (p0 : List Val) (p1 : List Fld) (p2 : Int) (p3 : ByteArray) (p4 : Bool) (e : En) (q : List Val) : Prop := ∃ z zo, Qb G e (.st (.exit 0) (Qal p0 p1 p2 p3 p4 q z zo))
theorem Qhr (p0 : List Val) (p1 : List Fld) (p2 : Int) (p3 : ByteArray) (p4 : Bool) {e e' : En} (h : ∀ r, Qb G e r → Qb G e' r) : ∀ q, Qgb p0 p1 p2 p3 p4 e q → Qgb p0 p1 p2 p3 p4 e' q
  | _, ⟨z, zo, hz⟩ => ⟨z, zo, h _ hz⟩
def Qbp (p0 : List Val) (p1 : List Fld) (_p2 : Int) (_p3 : ByteArray) (_p4 : Bool) : Prop := (∀ (v0_0 : List Val) (v0_1 : Int), (0 : Int) ≤ v0_1 → List.length v0_0 ≤ 1000 → List.length v0_0 = (List.length ((Qg p0)).list) → List.length ((Qg p0)).fields = (List.length ((Qg p0)).fields) → List.length ((Qd p1)).list = (List.length ((Qd p1)).list) → List.length ((Qd p1)).fields = (List.length ((Qd p1)).fields) → (decide (v0_1 < ((List.length ((Qg p0)).list) : Int))) = true → 0 ≤ v0_1) ∧ (∀ (v0_0 : List Val) (v0_1 : Int), (0 : Int) ≤ v0_1 → List.length v0_0 ≤ 1000 → List.length v0_0 = (List.length ((Qg p0)).list) → List.length ((Qg p0)).fields = (List.length ((Qg p0)).fields) → List.length ((Qd p1)).list = (List.length ((Qd p1)).list) → List.length ((Qd p1)).fields = (List.length ((Qd p1)).fields) → (decide (v0_1 < ((List.length ((Qg p0)).list) : Int))) = true → v0_1 < (((List.length ((Qg p0)).list) : Nat) : Int)) ∧ (∀ (v0_0 : List Val) (v0_1 : Int), (0 : Int) ≤ v0_1 → List.length v0_0 ≤ 1000 → List.length v0_0 = (List.length ((Qg p0)).list) → List.length ((Qg p0)).fields = (List.length ((Qg p0)).fields) → List.length ((Qd p1)).list = (List.length ((Qd p1)).list) → List.length ((Qd p1)).fields = (List.length ((Qd p1)).fields) → (decide (v0_1 < ((List.length ((Qg p0)).list) : Int))) = true → (Int.toNat v0_1) < List.length v0_0) ∧ (∀ (v0_0 : List Val) (v0_1 : Int), (0 : Int) ≤ v0_1 → List.length v0_0 ≤ 1000 → List.length v0_0 = (List.length ((Qg p0)).list) → List.length ((Qg p0)).fields = (List.length ((Qg p0)).fields) → List.length ((Qd p1)).list = (List.length ((Qd p1)).list) → List.length ((Qd p1)).fields = (List.length ((Qd p1)).fields) → (decide (v0_1 < ((List.length ((Qg p0)).list) : Int))) = true → -9223372036854775808 ≤ (v0_1 + 1) ∧ (v0_1 + 1) ≤ 9223372036854775807) ∧ (∀ (v0_0 : List Val) (v0_1 : Int), (0 : Int) ≤ v0_1 → List.length v0_0 ≤ 1000 → List.length v0_0 = (List.length ((Qg p0)).list) → List.length ((Qg p0)).fields = (List.length ((Qg p0)).fields) → List.length ((Qd p1)).list = (List.length ((Qd p1)).list) → List.length ((Qd p1)).fields = (List.length ((Qd p1)).fields) → (decide (v0_1 < ((List.length ((Qg p0)).list) : Int))) = true → (0 : Int) ≤ (v0_1 + 1)) ∧ (∀ (v0_0 : List Val) (v0_1 : Int), (0 : Int) ≤ v0_1 → List.length v0_0 ≤ 1000 → List.length v0_0 = (List.length ((Qg p0)).list) → List.length ((Qg p0)).fields = (List.length ((Qg p0)).fields) → List.length ((Qd p1)).list = (List.length ((Qd p1)).list) → List.length ((Qd p1)).fields = (List.length ((Qd p1)).fields) → (decide (v0_1 < ((List.length ((Qg p0)).list) : Int))) = true → List.length (List.set v0_0 (Int.toNat v0_1) (Val.mk (List.getD v0_0 (Int.toNat v0_1) (Val.mk 0 0 (⟨#[]⟩ : ByteArray) [] [])).kind (Q86 (List.getD v0_0 (Int.toNat v0_1) (Val.mk 0 0 (⟨#[]⟩ : ByteArray) [] [])).n 1) (List.getD v0_0 (Int.toNat v0_1) (Val.mk 0 0 (⟨#[]⟩ : ByteArray) [] [])).s (List.getD v0_0 (Int.toNat v0_1) (Val.mk 0 0 (⟨#[]⟩ : ByteArray) [] [])).list (List.getD v0_0 (Int.toNat v0_1) (Val.mk 0 0 (⟨#[]⟩ : ByteArray) [] [])).fields)) ≤ 1000) ∧ True
theorem Qra (p0 : List Val) (p1 : List Fld) (p2 : Int) (p3 : ByteArray) (p4 : Bool) (H : Qbp p0 p1 p2 p3 p4) (v0_0 : List Val) (v0_1 : Int) (ho0_0 : (0 : Int) ≤ v0_1) (ho0_1 : List.length v0_0 ≤ 1000) (ho0_2 : List.length v0_0 = (List.length ((Qg p0)).list)) (ho0_3 : List.length ((Qg p0)).fields = (List.length ((Qg p0)).fields)) (ho0_4 : List.length ((Qd p1)).list = (List.length ((Qd p1)).list)) (ho0_5 : List.length ((Qd p1)).fields = (List.length ((Qd p1)).fields)) (h0 : (decide (v0_1 < ((List.length ((Qg p0)).list) : Int))) = true) {r : Rs} (hr : Qb G (Qa9 p0 p1 p2 p3 p4 (List.set v0_0 (Int.toNat v0_1) (Val.mk (List.getD v0_0 (Int.toNat v0_1) (Val.mk 0 0 (⟨#[]⟩ : ByteArray) [] [])).kind (Q86 (List.getD v0_0 (Int.toNat v0_1) (Val.mk 0 0 (⟨#[]⟩ : ByteArray) [] [])).n 1) (List.getD v0_0 (Int.toNat v0_1) (Val.mk 0 0 (⟨#[]⟩ : ByteArray) [] [])).s (List.getD v0_0 (Int.toNat v0_1) (Val.mk 0 0 (⟨#[]⟩ : ByteArray) [] [])).list (List.getD v0_0 (Int.toNat v0_1) (Val.mk 0 0 (⟨#[]⟩ : ByteArray) [] [])).fields)) (v0_1 + 1)) r) : Qb G (Qa9 p0 p1 p2 p3 p4 v0_0 v0_1) r := by
 exact Qi (Qoz p0 p1 p2 p3 p4 v0_0 v0_1) (y := (Qll p0 p1 p2 p3 p4 (List.set v0_0 (Int.toNat v0_1) (Val.mk (List.getD v0_0 (Int.toNat v0_1) (Val.mk 0 0 (⟨#[]⟩ : ByteArray) [] [])).kind (Q86 (List.getD v0_0 (Int.toNat v0_1) (Val.mk 0 0 (⟨#[]⟩ : ByteArray) [] [])).n 1) (List.getD v0_0 (Int.toNat v0_1) (Val.mk 0 0 (⟨#[]⟩ : ByteArray) [] [])).s (List.getD v0_0 (Int.toNat v0_1) (Val.mk 0 0 (⟨#[]⟩ : ByteArray) [] [])).list (List.getD v0_0 (Int.toNat v0_1) (Val.mk 0 0 (⟨#[]⟩ : ByteArray) [] [])).fields)) (v0_1 + 1), Qfo p0 p1 p2 p3 p4 (List.set v0_0 (Int.toNat v0_1) (Val.mk (List.getD v0_0 (Int.toNat v0_1) (Val.mk 0 0 (⟨#[]⟩ : ByteArray) [] [])).kind (Q86 (List.getD v0_0 (Int.toNat v0_1) (Val.mk 0 0 (⟨#[]⟩ : ByteArray) [] [])).n 1) (List.getD v0_0 (Int.toNat v0_1) (Val.mk 0 0 (⟨#[]⟩ : ByteArray) [] [])).s (List.getD v0_0 (Int.toNat v0_1) (Val.mk 0 0 (⟨#[]⟩ : ByteArray) [] [])).list (List.getD v0_0 (Int.toNat v0_1) (Val.mk 0 0 (⟨#[]⟩ : ByteArray) [] [])).fields)) (v0_1 + 1))) [hB 4 h0, hP 6 (Q14 2 5 (List.length ((Qg p0)).list) v0_1 (Int.toNat v0_1) rfl ((H.1 v0_0 v0_1 ho0_0 ho0_1 ho0_2 ho0_3 ho0_4 ho0_5) h0) ((H.2.1 v0_0 v0_1 ho0_0 ho0_1 ho0_2 ho0_3 ho0_4 ho0_5) h0)), hP 1 (Q2d 2 5 0 true ((Val.rows v0_0).flatten) (Val.rows v0_0) 1 false (Int.toNat v0_1) 1 ((Int.toNat v0_1) * 5 + 1) (Val.cells (List.getD v0_0 (Int.toNat v0_1) (Val.mk 0 0 (⟨#[]⟩ : ByteArray) [] []))) (.int .i64 (List.getD v0_0 (Int.toNat v0_1) (Val.mk 0 0 (⟨#[]⟩ : ByteArray) [] [])).n) rfl rfl (Val.Qj (Qu v0_0 (Int.toNat v0_1) (Val.mk 0 0 (⟨#[]⟩ : ByteArray) [] []) ((H.2.2.1 v0_0 v0_1 ho0_0 ho0_1 ho0_2 ho0_3 ho0_4 ho0_5) h0))) (Val.Qm v0_0) (by decide) rfl), hP 1 (Q14 2 5 (List.length ((Qg p0)).list) v0_1 (Int.toNat v0_1) rfl ((H.1 v0_0 v0_1 ho0_0 ho0_1 ho0_2 ho0_3 ho0_4 ho0_5) h0) ((H.2.1 v0_0 v0_1 ho0_0 ho0_1 ho0_2 ho0_3 ho0_4 ho0_5) h0)), hV 1 [(2, Val.rows (List.set v0_0 (Int.toNat v0_1) (Val.mk (List.getD v0_0 (Int.toNat v0_1) (Val.mk 0 0 (⟨#[]⟩ : ByteArray) [] [])).kind (Q86 (List.getD v0_0 (Int.toNat v0_1) (Val.mk 0 0 (⟨#[]⟩ : ByteArray) [] [])).n 1) (List.getD v0_0 (Int.toNat v0_1) (Val.mk 0 0 (⟨#[]⟩ : ByteArray) [] [])).s (List.getD v0_0 (Int.toNat v0_1) (Val.mk 0 0 (⟨#[]⟩ : ByteArray) [] [])).list (List.getD v0_0 (Int.toNat v0_1) (Val.mk 0 0 (⟨#[]⟩ : ByteArray) [] [])).fields)))] (Q8l 2 5 true ((Val.rows v0_0).flatten) (Val.rows v0_0) (Val.rows (List.set v0_0 (Int.toNat v0_1) (Val.mk (List.getD v0_0 (Int.toNat v0_1) (Val.mk 0 0 (⟨#[]⟩ : ByteArray) [] [])).kind (Q86 (List.getD v0_0 (Int.toNat v0_1) (Val.mk 0 0 (⟨#[]⟩ : ByteArray) [] [])).n 1) (List.getD v0_0 (Int.toNat v0_1) (Val.mk 0 0 (⟨#[]⟩ : ByteArray) [] [])).s (List.getD v0_0 (Int.toNat v0_1) (Val.mk 0 0 (⟨#[]⟩ : ByteArray) [] [])).list (List.getD v0_0 (Int.toNat v0_1) (Val.mk 0 0 (⟨#[]⟩ : ByteArray) [] [])).fields))) 1 (Int.toNat v0_1) 1 ((Int.toNat v0_1) * 5 + 1) _ (.int .i64 (Q86 (List.getD v0_0 (Int.toNat v0_1) (Val.mk 0 0 (⟨#[]⟩ : ByteArray) [] [])).n 1)) rfl rfl (Val.Qj (Qu v0_0 (Int.toNat v0_1) (Val.mk 0 0 (⟨#[]⟩ : ByteArray) [] []) ((H.2.2.1 v0_0 v0_1 ho0_0 ho0_1 ho0_2 ho0_3 ho0_4 ho0_5) h0))) (Val.Qm v0_0) (by decide) rfl rfl (Val.Q34 v0_0 (Int.toNat v0_1) (Val.mk (List.getD v0_0 (Int.toNat v0_1) (Val.mk 0 0 (⟨#[]⟩ : ByteArray) [] [])).kind (Q86 (List.getD v0_0 (Int.toNat v0_1) (Val.mk 0 0 (⟨#[]⟩ : ByteArray) [] [])).n 1) (List.getD v0_0 (Int.toNat v0_1) (Val.mk 0 0 (⟨#[]⟩ : ByteArray) [] [])).s (List.getD v0_0 (Int.toNat v0_1) (Val.mk 0 0 (⟨#[]⟩ : ByteArray) [] [])).list (List.getD v0_0 (Int.toNat v0_1) (Val.mk 0 0 (⟨#[]⟩ : ByteArray) [] [])).fields))), hS 0 true (Val.Q0 (List.set v0_0 (Int.toNat v0_1) (Val.mk (List.getD v0_0 (Int.toNat v0_1) (Val.mk 0 0 (⟨#[]⟩ : ByteArray) [] [])).kind (Q86 (List.getD v0_0 (Int.toNat v0_1) (Val.mk 0 0 (⟨#[]⟩ : ByteArray) [] [])).n 1) (List.getD v0_0 (Int.toNat v0_1) (Val.mk 0 0 (⟨#[]⟩ : ByteArray) [] [])).s (List.getD v0_0 (Int.toNat v0_1) (Val.mk 0 0 (⟨#[]⟩ : ByteArray) [] [])).list (List.getD v0_0 (Int.toNat v0_1) (Val.mk 0 0 (⟨#[]⟩ : ByteArray) [] [])).fields)) 5 rfl), hP 1 (w_ok (v0_1 + 1) ((H.2.2.2.1 v0_0 v0_1 ho0_0 ho0_1 ho0_2 ho0_3 ho0_4 ho0_5) h0))] [] (by kernel_rfl) hr
def Qhl (p0 : List Val) (_p1 : List Fld) (_p2 : Int) (_p3 : ByteArray) (_p4 : Bool) (_v0_0 : List Val) (v0_1 : Int) : List PV :=
  nuns 11 ++ [.bx 0 0, .un, .int .i64 v0_1] ++ nuns 33 ++ [.int .i64 v0_1, .bx 0 3, .ms 2 5 0 (List.length ((Qg p0)).list), .int .i64 ((List.length ((Qg p0)).list) : Int), .bool false]
def Qdb (_p0 : List Val) (_p1 : List Fld) (_p2 : Int) (_p3 : ByteArray) (_p4 : Bool) (_v0_0 : List Val) (_v0_1 : Int) : List (Nat × List PV) :=
  []
theorem Qr4 (p0 : List Val) (p1 : List Fld) (p2 : Int) (p3 : ByteArray) (p4 : Bool) (_H : Qbp p0 p1 p2 p3 p4) (v0_0 : List Val) (v0_1 : Int) (_ho0_0 : (0 : Int) ≤ v0_1) (_ho0_1 : List.length v0_0 ≤ 1000) (_ho0_2 : List.length v0_0 = (List.length ((Qg p0)).list)) (_ho0_3 : List.length ((Qg p0)).fields = (List.length ((Qg p0)).fields)) (_ho0_4 : List.length ((Qd p1)).list = (List.length ((Qd p1)).list)) (_ho0_5 : List.length ((Qd p1)).fields = (List.length ((Qd p1)).fields)) (h0 : (decide (v0_1 < ((List.length ((Qg p0)).list) : Int))) = false) : Qgb p0 p1 p2 p3 p4 (Qa9 p0 p1 p2 p3 p4 v0_0 v0_1) v0_0 := by
 exact ⟨(envF (Qhl p0 p1 p2 p3 p4 v0_0 v0_1)), (zoF (Qdb p0 p1 p2 p3 p4 v0_0 v0_1)), Qn (Qoz p0 p1 p2 p3 p4 v0_0 v0_1) (x := ((.exit 0), Qal p0 p1 p2 p3 p4 v0_0 (envF (Qhl p0 p1 p2 p3 p4 v0_0 v0_1)) (zoF (Qdb p0 p1 p2 p3 p4 v0_0 v0_1)))) [hB 4 h0] [] (by kernel_rfl)⟩
theorem Qm7 (p0 : List Val) (p1 : List Fld) (p2 : Int) (p3 : ByteArray) (p4 : Bool) (H : Qbp p0 p1 p2 p3 p4) : ∀ (k0 : Nat) (v0_0 : List Val) (v0_1 : Int), (0 : Int) ≤ v0_1 → List.length v0_0 ≤ 1000 → List.length v0_0 = (List.length ((Qg p0)).list) → List.length ((Qg p0)).fields = (List.length ((Qg p0)).fields) → List.length ((Qd p1)).list = (List.length ((Qd p1)).list) → List.length ((Qd p1)).fields = (List.length ((Qd p1)).fields) → Int.toNat (((List.length v0_0) : Int) - v0_1) < k0 → Qgb p0 p1 p2 p3 p4 (Qa9 p0 p1 p2 p3 p4 v0_0 v0_1) (Q35 p0 p1 p2 p3 p4 k0 v0_0 v0_1)
 | 0, v0_0, v0_1, _, _, _, _, _, _, hm => absurd hm (Nat.not_lt_zero _)
 | k0 + 1, v0_0, v0_1, ho0_0, ho0_1, ho0_2, ho0_3, ho0_4, ho0_5, hm => by
  rw [Q35]
  cases h0 : (decide (v0_1 < ((List.length ((Qg p0)).list) : Int))) with
  | true =>
   have e0 := of_decide_eq_true h0
   exact Qhr p0 p1 p2 p3 p4 (fun r hr => Qra p0 p1 p2 p3 p4 H v0_0 v0_1 ho0_0 ho0_1 ho0_2 ho0_3 ho0_4 ho0_5 h0 hr) _ (Qm7 p0 p1 p2 p3 p4 H k0 (List.set v0_0 (Int.toNat v0_1) (Val.mk (List.getD v0_0 (Int.toNat v0_1) (Val.mk 0 0 (⟨#[]⟩ : ByteArray) [] [])).kind (Q86 (List.getD v0_0 (Int.toNat v0_1) (Val.mk 0 0 (⟨#[]⟩ : ByteArray) [] [])).n 1) (List.getD v0_0 (Int.toNat v0_1) (Val.mk 0 0 (⟨#[]⟩ : ByteArray) [] [])).s (List.getD v0_0 (Int.toNat v0_1) (Val.mk 0 0 (⟨#[]⟩ : ByteArray) [] [])).list (List.getD v0_0 (Int.toNat v0_1) (Val.mk 0 0 (⟨#[]⟩ : ByteArray) [] [])).fields)) (v0_1 + 1) ((H.2.2.2.2.1 v0_0 v0_1 ho0_0 ho0_1 ho0_2 ho0_3 ho0_4 ho0_5) h0) ((H.2.2.2.2.2.1 v0_0 v0_1 ho0_0 ho0_1 ho0_2 ho0_3 ho0_4 ho0_5) h0) (Qq ho0_2 (Int.toNat v0_1) (Val.mk (List.getD v0_0 (Int.toNat v0_1) (Val.mk 0 0 (⟨#[]⟩ : ByteArray) [] [])).kind (Q86 (List.getD v0_0 (Int.toNat v0_1) (Val.mk 0 0 (⟨#[]⟩ : ByteArray) [] [])).n 1) (List.getD v0_0 (Int.toNat v0_1) (Val.mk 0 0 (⟨#[]⟩ : ByteArray) [] [])).s (List.getD v0_0 (Int.toNat v0_1) (Val.mk 0 0 (⟨#[]⟩ : ByteArray) [] [])).list (List.getD v0_0 (Int.toNat v0_1) (Val.mk 0 0 (⟨#[]⟩ : ByteArray) [] [])).fields)) ho0_3 ho0_4 ho0_5 (by have f2 := (Qq ho0_2 (Int.toNat v0_1) (Val.mk (List.getD v0_0 (Int.toNat v0_1) (Val.mk 0 0 (⟨#[]⟩ : ByteArray) [] [])).kind (Q86 (List.getD v0_0 (Int.toNat v0_1) (Val.mk 0 0 (⟨#[]⟩ : ByteArray) [] [])).n 1) (List.getD v0_0 (Int.toNat v0_1) (Val.mk 0 0 (⟨#[]⟩ : ByteArray) [] [])).s (List.getD v0_0 (Int.toNat v0_1) (Val.mk 0 0 (⟨#[]⟩ : ByteArray) [] [])).list (List.getD v0_0 (Int.toNat v0_1) (Val.mk 0 0 (⟨#[]⟩ : ByteArray) [] [])).fields)); try simp only [List.length_set]; omega))
  | false =>
   exact Qr4 p0 p1 p2 p3 p4 H v0_0 v0_1 ho0_0 ho0_1 ho0_2 ho0_3 ho0_4 ho0_5 h0
def Q33 (p0 : List Val) (p1 : List Fld) (p2 : Int) (p3 : ByteArray) (p4 : Bool) : Nat → (List Fld) → Int → List Fld
 | 0, v1_0, _v1_1 => v1_0
 | k1 + 1, v1_0, v1_1 =>
  bif (decide (v1_1 < ((List.length ((Qd p1)).fields) : Int))) then
   Q33 p0 p1 p2 p3 p4 k1 (List.set v1_0 (Int.toNat v1_1) (Fld.mk ((List.getD v1_0 (Int.toNat v1_1) zF).name ++ (⟨#[120]⟩ : ByteArray)) (List.getD v1_0 (Int.toNat v1_1) zF).v)) (v1_1 + 1)
  else
   v1_0
def Qku (p0 : List Val) (p1 : List Fld) (p2 : Int) (p3 : ByteArray) (p4 : Bool) (_v1_0 : List Fld) (v1_1 : Int) : List PV :=
  [.sl (Val.rows p0), .sl (Fld.rows p1), .int .i64 p2, .str p3, .bool p4] ++ nuns 7 ++ [.bx 0 0, .un, .int .i64 v1_1] ++ nuns 106
def Qfs (_p0 : List Val) (p1 : List Fld) (_p2 : Int) (_p3 : ByteArray) (_p4 : Bool) (v1_0 : List Fld) (_v1_1 : Int) : List Ob :=
  [⟨5, 0, true, [.int .i64 ((Qd p1)).kind, .int .i64 ((Qd p1)).n, .str ((Qd p1)).s, .ms 1 5 0 (List.length ((Qd p1)).list), .ms 2 6 0 (List.length ((Qd p1)).fields)]⟩, ⟨5, 0, true, (Val.rows ((Qd p1)).list).flatten⟩, ⟨6, 0, true, (Fld.rows v1_0).flatten⟩]
def Qb3 (p0 : List Val) (p1 : List Fld) (p2 : Int) (p3 : ByteArray) (p4 : Bool) (v1_0 : List Fld) (v1_1 : Int) : En := .loop 0 Ir.Qel Ir.Qul (Qku p0 p1 p2 p3 p4 v1_0 v1_1) (Qfs p0 p1 p2 p3 p4 v1_0 v1_1)
def Qbn (p0 : List Val) (p1 : List Fld) (p2 : Int) (p3 : ByteArray) (p4 : Bool) (q0 : List Fld) (z : Nat → PV) (_zo : Nat → List PV) : St :=
  ⟨[.sl (Val.rows p0), .sl (Fld.rows p1), .int .i64 p2, .str p3, .bool p4] ++ zr z 5 116, [(0, ⟨5, 0, true, [.int .i64 ((Qd p1)).kind, .int .i64 ((Qd p1)).n, .str ((Qd p1)).s, .ms 1 5 0 (List.length ((Qd p1)).list), .ms 2 6 0 (List.length ((Qd p1)).fields)]⟩), (1, ⟨5, 0, true, (Val.rows ((Qd p1)).list).flatten⟩), (2, ⟨6, 0, true, (Fld.rows q0).flatten⟩)], 323⟩
theorem Qoj (p0 : List Val) (p1 : List Fld) (p2 : Int) (p3 : ByteArray) (p4 : Bool) (v1_0 : List Fld) (v1_1 : Int) : VOK (Go.Pv.look (number 0 (Qfs p0 p1 p2 p3 p4 v1_0 v1_1))) [(1, Val.rows ((Qd p1)).list), (2, Fld.rows v1_0)] := (VOK.cons (show Seen _ _ from Q2q (ob := ⟨5, 0, true, (Val.rows ((Qd p1)).list).flatten⟩) (Val.Q0 ((Qd p1)).list 5 rfl)) (VOK.cons (show Seen _ _ from Q2q (ob := ⟨6, 0, true, (Fld.rows v1_0).flatten⟩) (Fld.Q0 v1_0 6 rfl)) VOK.nil))
def Qfy (p0 : List Val) (p1 : List Fld) (p2 : Int) (p3 : ByteArray) (p4 : Bool) (e : En) (q : List Fld) : Prop := ∃ z zo, Qb G e (.st (.exit 2) (Qbn p0 p1 p2 p3 p4 q z zo))
theorem Qhd (p0 : List Val) (p1 : List Fld) (p2 : Int) (p3 : ByteArray) (p4 : Bool) {e e' : En} (h : ∀ r, Qb G e r → Qb G e' r) : ∀ q, Qfy p0 p1 p2 p3 p4 e q → Qfy p0 p1 p2 p3 p4 e' q
  | _, ⟨z, zo, hz⟩ => ⟨z, zo, h _ hz⟩
def Qbk (_p0 : List Val) (p1 : List Fld) (_p2 : Int) (_p3 : ByteArray) (_p4 : Bool) : Prop := (∀ (v1_0 : List Fld) (v1_1 : Int), (0 : Int) ≤ v1_1 → List.length v1_0 ≤ 1000 → (∀ f ∈ v1_0, ((ByteArray.size f.name : Nat) : Int) ≤ 5000000000000000000 + v1_1) → List.length ((Qd p1)).list = (List.length ((Qd p1)).list) → List.length v1_0 = (List.length ((Qd p1)).fields) → (decide (v1_1 < ((List.length ((Qd p1)).fields) : Int))) = true → 0 ≤ v1_1) ∧ (∀ (v1_0 : List Fld) (v1_1 : Int), (0 : Int) ≤ v1_1 → List.length v1_0 ≤ 1000 → (∀ f ∈ v1_0, ((ByteArray.size f.name : Nat) : Int) ≤ 5000000000000000000 + v1_1) → List.length ((Qd p1)).list = (List.length ((Qd p1)).list) → List.length v1_0 = (List.length ((Qd p1)).fields) → (decide (v1_1 < ((List.length ((Qd p1)).fields) : Int))) = true → v1_1 < (((List.length ((Qd p1)).fields) : Nat) : Int)) ∧ (∀ (v1_0 : List Fld) (v1_1 : Int), (0 : Int) ≤ v1_1 → List.length v1_0 ≤ 1000 → (∀ f ∈ v1_0, ((ByteArray.size f.name : Nat) : Int) ≤ 5000000000000000000 + v1_1) → List.length ((Qd p1)).list = (List.length ((Qd p1)).list) → List.length v1_0 = (List.length ((Qd p1)).fields) → (decide (v1_1 < ((List.length ((Qd p1)).fields) : Int))) = true → (Int.toNat v1_1) < List.length v1_0) ∧ (∀ (v1_0 : List Fld) (v1_1 : Int), (0 : Int) ≤ v1_1 → List.length v1_0 ≤ 1000 → (∀ f ∈ v1_0, ((ByteArray.size f.name : Nat) : Int) ≤ 5000000000000000000 + v1_1) → List.length ((Qd p1)).list = (List.length ((Qd p1)).list) → List.length v1_0 = (List.length ((Qd p1)).fields) → ByteArray.size (List.getD v1_0 (Int.toNat v1_1) zF).name + ByteArray.size (⟨#[120]⟩ : ByteArray) ≤ 9223372036854775807) ∧ (∀ (v1_0 : List Fld) (v1_1 : Int), (0 : Int) ≤ v1_1 → List.length v1_0 ≤ 1000 → (∀ f ∈ v1_0, ((ByteArray.size f.name : Nat) : Int) ≤ 5000000000000000000 + v1_1) → List.length ((Qd p1)).list = (List.length ((Qd p1)).list) → List.length v1_0 = (List.length ((Qd p1)).fields) → (decide (v1_1 < ((List.length ((Qd p1)).fields) : Int))) = true → -9223372036854775808 ≤ (v1_1 + 1) ∧ (v1_1 + 1) ≤ 9223372036854775807) ∧ (∀ (v1_0 : List Fld) (v1_1 : Int), (0 : Int) ≤ v1_1 → List.length v1_0 ≤ 1000 → (∀ f ∈ v1_0, ((ByteArray.size f.name : Nat) : Int) ≤ 5000000000000000000 + v1_1) → List.length ((Qd p1)).list = (List.length ((Qd p1)).list) → List.length v1_0 = (List.length ((Qd p1)).fields) → (decide (v1_1 < ((List.length ((Qd p1)).fields) : Int))) = true → (0 : Int) ≤ (v1_1 + 1)) ∧ (∀ (v1_0 : List Fld) (v1_1 : Int), (0 : Int) ≤ v1_1 → List.length v1_0 ≤ 1000 → (∀ f ∈ v1_0, ((ByteArray.size f.name : Nat) : Int) ≤ 5000000000000000000 + v1_1) → List.length ((Qd p1)).list = (List.length ((Qd p1)).list) → List.length v1_0 = (List.length ((Qd p1)).fields) → (decide (v1_1 < ((List.length ((Qd p1)).fields) : Int))) = true → List.length (List.set v1_0 (Int.toNat v1_1) (Fld.mk ((List.getD v1_0 (Int.toNat v1_1) zF).name ++ (⟨#[120]⟩ : ByteArray)) (List.getD v1_0 (Int.toNat v1_1) zF).v)) ≤ 1000) ∧ (∀ (v1_0 : List Fld) (v1_1 : Int), (0 : Int) ≤ v1_1 → List.length v1_0 ≤ 1000 → (∀ f ∈ v1_0, ((ByteArray.size f.name : Nat) : Int) ≤ 5000000000000000000 + v1_1) → List.length ((Qd p1)).list = (List.length ((Qd p1)).list) → List.length v1_0 = (List.length ((Qd p1)).fields) → (decide (v1_1 < ((List.length ((Qd p1)).fields) : Int))) = true → (∀ f ∈ (List.set v1_0 (Int.toNat v1_1) (Fld.mk ((List.getD v1_0 (Int.toNat v1_1) zF).name ++ (⟨#[120]⟩ : ByteArray)) (List.getD v1_0 (Int.toNat v1_1) zF).v)), ((ByteArray.size f.name : Nat) : Int) ≤ 5000000000000000000 + (v1_1 + 1))) ∧ True
theorem Qoo (p0 : List Val) (p1 : List Fld) (p2 : Int) (p3 : ByteArray) (p4 : Bool) (H : Qbk p0 p1 p2 p3 p4) (v1_0 : List Fld) (v1_1 : Int) (ho1_0 : (0 : Int) ≤ v1_1) (ho1_1 : List.length v1_0 ≤ 1000) (ho1_2 : (∀ f ∈ v1_0, ((ByteArray.size f.name : Nat) : Int) ≤ 5000000000000000000 + v1_1)) (ho1_3 : List.length ((Qd p1)).list = (List.length ((Qd p1)).list)) (ho1_4 : List.length v1_0 = (List.length ((Qd p1)).fields)) (h0 : (decide (v1_1 < ((List.length ((Qd p1)).fields) : Int))) = true) {r : Rs} (hr : Qb G (Qb3 p0 p1 p2 p3 p4 (List.set v1_0 (Int.toNat v1_1) (Fld.mk ((List.getD v1_0 (Int.toNat v1_1) zF).name ++ (⟨#[120]⟩ : ByteArray)) (List.getD v1_0 (Int.toNat v1_1) zF).v)) (v1_1 + 1)) r) : Qb G (Qb3 p0 p1 p2 p3 p4 v1_0 v1_1) r := by
 exact Qi (Qoj p0 p1 p2 p3 p4 v1_0 v1_1) (y := (Qku p0 p1 p2 p3 p4 (List.set v1_0 (Int.toNat v1_1) (Fld.mk ((List.getD v1_0 (Int.toNat v1_1) zF).name ++ (⟨#[120]⟩ : ByteArray)) (List.getD v1_0 (Int.toNat v1_1) zF).v)) (v1_1 + 1), Qfs p0 p1 p2 p3 p4 (List.set v1_0 (Int.toNat v1_1) (Fld.mk ((List.getD v1_0 (Int.toNat v1_1) zF).name ++ (⟨#[120]⟩ : ByteArray)) (List.getD v1_0 (Int.toNat v1_1) zF).v)) (v1_1 + 1))) [hB 4 h0, hP 6 (Q14 2 6 (List.length ((Qd p1)).fields) v1_1 (Int.toNat v1_1) rfl ((H.1 v1_0 v1_1 ho1_0 ho1_1 ho1_2 ho1_3 ho1_4) h0) ((H.2.1 v1_0 v1_1 ho1_0 ho1_1 ho1_2 ho1_3 ho1_4) h0)), hP 1 (Q2d 2 6 0 true ((Fld.rows v1_0).flatten) (Fld.rows v1_0) 1 false (Int.toNat v1_1) 0 ((Int.toNat v1_1) * 6) (Fld.cells (List.getD v1_0 (Int.toNat v1_1) zF)) (.str (List.getD v1_0 (Int.toNat v1_1) zF).name) rfl rfl (Fld.Qj (Qu v1_0 (Int.toNat v1_1) zF ((H.2.2.1 v1_0 v1_1 ho1_0 ho1_1 ho1_2 ho1_3 ho1_4) h0))) (Fld.Qm v1_0) (by decide) rfl), hP 0 (Qtk (List.getD v1_0 (Int.toNat v1_1) zF).name (⟨#[120]⟩ : ByteArray) (H.2.2.2.1 v1_0 v1_1 ho1_0 ho1_1 ho1_2 ho1_3 ho1_4)), hP 0 (Q14 2 6 (List.length ((Qd p1)).fields) v1_1 (Int.toNat v1_1) rfl ((H.1 v1_0 v1_1 ho1_0 ho1_1 ho1_2 ho1_3 ho1_4) h0) ((H.2.1 v1_0 v1_1 ho1_0 ho1_1 ho1_2 ho1_3 ho1_4) h0)), hV 1 [(2, Fld.rows (List.set v1_0 (Int.toNat v1_1) (Fld.mk ((List.getD v1_0 (Int.toNat v1_1) zF).name ++ (⟨#[120]⟩ : ByteArray)) (List.getD v1_0 (Int.toNat v1_1) zF).v)))] (Q8l 2 6 true ((Fld.rows v1_0).flatten) (Fld.rows v1_0) (Fld.rows (List.set v1_0 (Int.toNat v1_1) (Fld.mk ((List.getD v1_0 (Int.toNat v1_1) zF).name ++ (⟨#[120]⟩ : ByteArray)) (List.getD v1_0 (Int.toNat v1_1) zF).v))) 1 (Int.toNat v1_1) 0 ((Int.toNat v1_1) * 6) _ (.str ((List.getD v1_0 (Int.toNat v1_1) zF).name ++ (⟨#[120]⟩ : ByteArray))) rfl rfl (Fld.Qj (Qu v1_0 (Int.toNat v1_1) zF ((H.2.2.1 v1_0 v1_1 ho1_0 ho1_1 ho1_2 ho1_3 ho1_4) h0))) (Fld.Qm v1_0) (by decide) rfl rfl (Fld.Q34 v1_0 (Int.toNat v1_1) (Fld.mk ((List.getD v1_0 (Int.toNat v1_1) zF).name ++ (⟨#[120]⟩ : ByteArray)) (List.getD v1_0 (Int.toNat v1_1) zF).v))), hS 0 true (Fld.Q0 (List.set v1_0 (Int.toNat v1_1) (Fld.mk ((List.getD v1_0 (Int.toNat v1_1) zF).name ++ (⟨#[120]⟩ : ByteArray)) (List.getD v1_0 (Int.toNat v1_1) zF).v)) 6 rfl), hP 1 (w_ok (v1_1 + 1) ((H.2.2.2.2.1 v1_0 v1_1 ho1_0 ho1_1 ho1_2 ho1_3 ho1_4) h0))] [] (by kernel_rfl) hr
def Qjg (_p0 : List Val) (p1 : List Fld) (_p2 : Int) (_p3 : ByteArray) (_p4 : Bool) (_v1_0 : List Fld) (v1_1 : Int) : List PV :=
  nuns 12 ++ [.bx 0 0, .un, .int .i64 v1_1] ++ nuns 51 ++ [.int .i64 v1_1, .bx 0 4, .ms 2 6 0 (List.length ((Qd p1)).fields), .int .i64 ((List.length ((Qd p1)).fields) : Int), .bool false]
def Qd6 (_p0 : List Val) (_p1 : List Fld) (_p2 : Int) (_p3 : ByteArray) (_p4 : Bool) (_v1_0 : List Fld) (_v1_1 : Int) : List (Nat × List PV) :=
  []
theorem Qok (p0 : List Val) (p1 : List Fld) (p2 : Int) (p3 : ByteArray) (p4 : Bool) (_H : Qbk p0 p1 p2 p3 p4) (v1_0 : List Fld) (v1_1 : Int) (_ho1_0 : (0 : Int) ≤ v1_1) (_ho1_1 : List.length v1_0 ≤ 1000) (_ho1_2 : (∀ f ∈ v1_0, ((ByteArray.size f.name : Nat) : Int) ≤ 5000000000000000000 + v1_1)) (_ho1_3 : List.length ((Qd p1)).list = (List.length ((Qd p1)).list)) (_ho1_4 : List.length v1_0 = (List.length ((Qd p1)).fields)) (h0 : (decide (v1_1 < ((List.length ((Qd p1)).fields) : Int))) = false) : Qfy p0 p1 p2 p3 p4 (Qb3 p0 p1 p2 p3 p4 v1_0 v1_1) v1_0 := by
 exact ⟨(envF (Qjg p0 p1 p2 p3 p4 v1_0 v1_1)), (zoF (Qd6 p0 p1 p2 p3 p4 v1_0 v1_1)), Qn (Qoj p0 p1 p2 p3 p4 v1_0 v1_1) (x := ((.exit 2), Qbn p0 p1 p2 p3 p4 v1_0 (envF (Qjg p0 p1 p2 p3 p4 v1_0 v1_1)) (zoF (Qd6 p0 p1 p2 p3 p4 v1_0 v1_1)))) [hB 4 h0] [] (by kernel_rfl)⟩
theorem Qlb (p0 : List Val) (p1 : List Fld) (p2 : Int) (p3 : ByteArray) (p4 : Bool) (H : Qbk p0 p1 p2 p3 p4) : ∀ (k1 : Nat) (v1_0 : List Fld) (v1_1 : Int), (0 : Int) ≤ v1_1 → List.length v1_0 ≤ 1000 → (∀ f ∈ v1_0, ((ByteArray.size f.name : Nat) : Int) ≤ 5000000000000000000 + v1_1) → List.length ((Qd p1)).list = (List.length ((Qd p1)).list) → List.length v1_0 = (List.length ((Qd p1)).fields) → Int.toNat (((List.length v1_0) : Int) - v1_1) < k1 → Qfy p0 p1 p2 p3 p4 (Qb3 p0 p1 p2 p3 p4 v1_0 v1_1) (Q33 p0 p1 p2 p3 p4 k1 v1_0 v1_1)
 | 0, v1_0, v1_1, _, _, _, _, _, hm => absurd hm (Nat.not_lt_zero _)
 | k1 + 1, v1_0, v1_1, ho1_0, ho1_1, ho1_2, ho1_3, ho1_4, hm => by
  rw [Q33]
  cases h0 : (decide (v1_1 < ((List.length ((Qd p1)).fields) : Int))) with
  | true =>
   have e0 := of_decide_eq_true h0
   exact Qhd p0 p1 p2 p3 p4 (fun r hr => Qoo p0 p1 p2 p3 p4 H v1_0 v1_1 ho1_0 ho1_1 ho1_2 ho1_3 ho1_4 h0 hr) _ (Qlb p0 p1 p2 p3 p4 H k1 (List.set v1_0 (Int.toNat v1_1) (Fld.mk ((List.getD v1_0 (Int.toNat v1_1) zF).name ++ (⟨#[120]⟩ : ByteArray)) (List.getD v1_0 (Int.toNat v1_1) zF).v)) (v1_1 + 1) ((H.2.2.2.2.2.1 v1_0 v1_1 ho1_0 ho1_1 ho1_2 ho1_3 ho1_4) h0) ((H.2.2.2.2.2.2.1 v1_0 v1_1 ho1_0 ho1_1 ho1_2 ho1_3 ho1_4) h0) ((H.2.2.2.2.2.2.2.1 v1_0 v1_1 ho1_0 ho1_1 ho1_2 ho1_3 ho1_4) h0) ho1_3 (Qq ho1_4 (Int.toNat v1_1) (Fld.mk ((List.getD v1_0 (Int.toNat v1_1) zF).name ++ (⟨#[120]⟩ : ByteArray)) (List.getD v1_0 (Int.toNat v1_1) zF).v)) (by have f2 := (Qq ho1_4 (Int.toNat v1_1) (Fld.mk ((List.getD v1_0 (Int.toNat v1_1) zF).name ++ (⟨#[120]⟩ : ByteArray)) (List.getD v1_0 (Int.toNat v1_1) zF).v)); try simp only [List.length_set]; omega))
  | false =>
   exact Qok p0 p1 p2 p3 p4 H v1_0 v1_1 ho1_0 ho1_1 ho1_2 ho1_3 ho1_4 h0
def s_K3 (p0 : List Val) (p1 : List Fld) (p2 : Int) (p3 : ByteArray) (p4 : Bool) : Bool :=
 bif (decide (40 < ((List.length p0) : Int))) then
  true
 else
  bif (decide (40 < ((List.length p1) : Int))) then
   true
  else
   bif (s_Ka (Val.mk 0 0 (⟨#[]⟩ : ByteArray) p0 p1)) then
    bif (s_Kf ((Qg p0)) (s_Ki p0)) then
     bif (s_Kf ((Qd p1)) (s_Kj p1)) then
      bif (s_Kf (Q7o p2) (s_Kh p2)) then
       bif (s_Kf (Qc8 p3) (s_Km p3)) then
        bif (s_Kf (Qfv p4) (s_Kb p4)) then
         true
        else
         false
       else
        false
      else
       false
     else
      false
    else
     false
   else
    true
def c_K3 (p0 : List Val) (p1 : List Fld) (p2 : Int) (p3 : ByteArray) (p4 : Bool) : En := .call 6 [.sl (Val.rows p0), .sl (Fld.rows p1), .int .i64 p2, .str p3, .bool p4] []
def a_K3 (p0 : List Val) (p1 : List Fld) (p2 : Int) (p3 : ByteArray) (p4 : Bool) : Rs := .ret (.bool (s_K3 p0 p1 p2 p3 p4)) []
def H_K3 (p0 : List Val) (p1 : List Fld) (p2 : Int) (p3 : ByteArray) (p4 : Bool) : Prop := ((decide (40 < ((List.length p0) : Int))) = false → (decide (40 < ((List.length p1) : Int))) = false → H_Ka (Val.mk 0 0 (⟨#[]⟩ : ByteArray) p0 p1)) ∧ ((decide (40 < ((List.length p0) : Int))) = false → (decide (40 < ((List.length p1) : Int))) = false → (s_Ka (Val.mk 0 0 (⟨#[]⟩ : ByteArray) p0 p1)) = true → Qrc p0) ∧ ((decide (40 < ((List.length p0) : Int))) = false → (decide (40 < ((List.length p1) : Int))) = false → (s_Ka (Val.mk 0 0 (⟨#[]⟩ : ByteArray) p0 p1)) = true → Qqe p1) ∧ ((decide (40 < ((List.length p0) : Int))) = false → (decide (40 < ((List.length p1) : Int))) = false → (s_Ka (Val.mk 0 0 (⟨#[]⟩ : ByteArray) p0 p1)) = true → H_Ki p0) ∧ ((decide (40 < ((List.length p0) : Int))) = false → (decide (40 < ((List.length p1) : Int))) = false → (s_Ka (Val.mk 0 0 (⟨#[]⟩ : ByteArray) p0 p1)) = true → H_Kf ((Qg p0)) (s_Ki p0)) ∧ ((decide (40 < ((List.length p0) : Int))) = false → (decide (40 < ((List.length p1) : Int))) = false → (s_Ka (Val.mk 0 0 (⟨#[]⟩ : ByteArray) p0 p1)) = true → (s_Kf ((Qg p0)) (s_Ki p0)) = true → H_Kj p1) ∧ ((decide (40 < ((List.length p0) : Int))) = false → (decide (40 < ((List.length p1) : Int))) = false → (s_Ka (Val.mk 0 0 (⟨#[]⟩ : ByteArray) p0 p1)) = true → (s_Kf ((Qg p0)) (s_Ki p0)) = true → H_Kf ((Qd p1)) (s_Kj p1)) ∧ ((decide (40 < ((List.length p0) : Int))) = false → (decide (40 < ((List.length p1) : Int))) = false → (s_Ka (Val.mk 0 0 (⟨#[]⟩ : ByteArray) p0 p1)) = true → (s_Kf ((Qg p0)) (s_Ki p0)) = true → (s_Kf ((Qd p1)) (s_Kj p1)) = true → Qbp p0 p1 p2 p3 p4) ∧ ((decide (40 < ((List.length p0) : Int))) = false → (decide (40 < ((List.length p1) : Int))) = false → (s_Ka (Val.mk 0 0 (⟨#[]⟩ : ByteArray) p0 p1)) = true → (s_Kf ((Qg p0)) (s_Ki p0)) = true → (s_Kf ((Qd p1)) (s_Kj p1)) = true → (0 : Int) ≤ 0) ∧ ((decide (40 < ((List.length p0) : Int))) = false → (decide (40 < ((List.length p1) : Int))) = false → (s_Ka (Val.mk 0 0 (⟨#[]⟩ : ByteArray) p0 p1)) = true → (s_Kf ((Qg p0)) (s_Ki p0)) = true → (s_Kf ((Qd p1)) (s_Kj p1)) = true → List.length ((Qg p0)).list ≤ 1000) ∧ ((decide (40 < ((List.length p0) : Int))) = false → (decide (40 < ((List.length p1) : Int))) = false → (s_Ka (Val.mk 0 0 (⟨#[]⟩ : ByteArray) p0 p1)) = true → (s_Kf ((Qg p0)) (s_Ki p0)) = true → (s_Kf ((Qd p1)) (s_Kj p1)) = true → Qbk p0 p1 p2 p3 p4) ∧ ((decide (40 < ((List.length p0) : Int))) = false → (decide (40 < ((List.length p1) : Int))) = false → (s_Ka (Val.mk 0 0 (⟨#[]⟩ : ByteArray) p0 p1)) = true → (s_Kf ((Qg p0)) (s_Ki p0)) = true → (s_Kf ((Qd p1)) (s_Kj p1)) = true → List.length ((Qd p1)).fields ≤ 1000) ∧ ((decide (40 < ((List.length p0) : Int))) = false → (decide (40 < ((List.length p1) : Int))) = false → (s_Ka (Val.mk 0 0 (⟨#[]⟩ : ByteArray) p0 p1)) = true → (s_Kf ((Qg p0)) (s_Ki p0)) = true → (s_Kf ((Qd p1)) (s_Kj p1)) = true → (∀ f ∈ ((Qd p1)).fields, ((ByteArray.size f.name : Nat) : Int) ≤ 5000000000000000000 + 0)) ∧ ((decide (40 < ((List.length p0) : Int))) = false → (decide (40 < ((List.length p1) : Int))) = false → (s_Ka (Val.mk 0 0 (⟨#[]⟩ : ByteArray) p0 p1)) = true → (s_Kf ((Qg p0)) (s_Ki p0)) = true → (s_Kf ((Qd p1)) (s_Kj p1)) = true → Qrc p0) ∧ ((decide (40 < ((List.length p0) : Int))) = false → (decide (40 < ((List.length p1) : Int))) = false → (s_Ka (Val.mk 0 0 (⟨#[]⟩ : ByteArray) p0 p1)) = true → (s_Kf ((Qg p0)) (s_Ki p0)) = true → (s_Kf ((Qd p1)) (s_Kj p1)) = true → H_Ki p0) ∧ ((decide (40 < ((List.length p0) : Int))) = false → (decide (40 < ((List.length p1) : Int))) = false → (s_Ka (Val.mk 0 0 (⟨#[]⟩ : ByteArray) p0 p1)) = true → (s_Kf ((Qg p0)) (s_Ki p0)) = true → (s_Kf ((Qd p1)) (s_Kj p1)) = true → H_Kf ((Qg p0)) (s_Ki p0)) ∧ ((decide (40 < ((List.length p0) : Int))) = false → (decide (40 < ((List.length p1) : Int))) = false → (s_Ka (Val.mk 0 0 (⟨#[]⟩ : ByteArray) p0 p1)) = true → (s_Kf ((Qg p0)) (s_Ki p0)) = true → (s_Kf ((Qd p1)) (s_Kj p1)) = true → Qqe p1) ∧ ((decide (40 < ((List.length p0) : Int))) = false → (decide (40 < ((List.length p1) : Int))) = false → (s_Ka (Val.mk 0 0 (⟨#[]⟩ : ByteArray) p0 p1)) = true → (s_Kf ((Qg p0)) (s_Ki p0)) = true → (s_Kf ((Qd p1)) (s_Kj p1)) = true → H_Kj p1) ∧ ((decide (40 < ((List.length p0) : Int))) = false → (decide (40 < ((List.length p1) : Int))) = false → (s_Ka (Val.mk 0 0 (⟨#[]⟩ : ByteArray) p0 p1)) = true → (s_Kf ((Qg p0)) (s_Ki p0)) = true → (s_Kf ((Qd p1)) (s_Kj p1)) = true → H_Kf ((Qd p1)) (s_Kj p1)) ∧ ((decide (40 < ((List.length p0) : Int))) = false → (decide (40 < ((List.length p1) : Int))) = false → (s_Ka (Val.mk 0 0 (⟨#[]⟩ : ByteArray) p0 p1)) = true → (s_Kf ((Qg p0)) (s_Ki p0)) = true → (s_Kf ((Qd p1)) (s_Kj p1)) = true → H_Kf (Q7o p2) (s_Kh p2)) ∧ ((decide (40 < ((List.length p0) : Int))) = false → (decide (40 < ((List.length p1) : Int))) = false → (s_Ka (Val.mk 0 0 (⟨#[]⟩ : ByteArray) p0 p1)) = true → (s_Kf ((Qg p0)) (s_Ki p0)) = true → (s_Kf ((Qd p1)) (s_Kj p1)) = true → (s_Kf (Q7o p2) (s_Kh p2)) = true → H_Kf (Qc8 p3) (s_Km p3)) ∧ ((decide (40 < ((List.length p0) : Int))) = false → (decide (40 < ((List.length p1) : Int))) = false → (s_Ka (Val.mk 0 0 (⟨#[]⟩ : ByteArray) p0 p1)) = true → (s_Kf ((Qg p0)) (s_Ki p0)) = true → (s_Kf ((Qd p1)) (s_Kj p1)) = true → (s_Kf (Q7o p2) (s_Kh p2)) = true → (s_Kf (Qc8 p3) (s_Km p3)) = true → H_Kf (Qfv p4) (s_Kb p4)) ∧ True
theorem Qv8 (p0 : List Val) (p1 : List Fld) (p2 : Int) (p3 : ByteArray) (p4 : Bool) (_H : H_K3 p0 p1 p2 p3 p4) (h0 : (decide (40 < ((List.length p0) : Int))) = true) : Qb G (c_K3 p0 p1 p2 p3 p4) (.ret (.bool (true)) []) := by
 exact Qc (fn := Ir.K3) rfl VOK.nil [hP 2 (Qk (Val.rows p0) (List.length p0) (Val.Q9 p0)), hB 0 h0] [aN (Q72 (G := G) (f := 10) rfl)] (by kernel_rfl)
theorem Quw (p0 : List Val) (p1 : List Fld) (p2 : Int) (p3 : ByteArray) (p4 : Bool) (_H : H_K3 p0 p1 p2 p3 p4) (h0 : (decide (40 < ((List.length p0) : Int))) = false) (h1 : (decide (40 < ((List.length p1) : Int))) = true) : Qb G (c_K3 p0 p1 p2 p3 p4) (.ret (.bool (true)) []) := by
 exact Qc (fn := Ir.K3) rfl VOK.nil [hP 2 (Qk (Val.rows p0) (List.length p0) (Val.Q9 p0)), hB 0 h0, hP 2 (Qk (Fld.rows p1) (List.length p1) (Fld.Q9 p1)), hB 0 h1] [aN (Q72 (G := G) (f := 10) rfl)] (by kernel_rfl)
theorem Qtz (p0 : List Val) (p1 : List Fld) (p2 : Int) (p3 : ByteArray) (p4 : Bool) (H : H_K3 p0 p1 p2 p3 p4) (h0 : (decide (40 < ((List.length p0) : Int))) = false) (h1 : (decide (40 < ((List.length p1) : Int))) = false) (h2 : (s_Ka (Val.mk 0 0 (⟨#[]⟩ : ByteArray) p0 p1)) = true) (h3 : (s_Kf ((Qg p0)) (s_Ki p0)) = true) (h4 : (s_Kf ((Qd p1)) (s_Kj p1)) = true) (z5 : Nat → PV) (zo5 : Nat → List PV) (hl5 : Qb G (Qa9 p0 p1 p2 p3 p4 ((Qg p0)).list 0) (.st (.exit 0) (Qal p0 p1 p2 p3 p4 (Q35 p0 p1 p2 p3 p4 ((Int.toNat (((List.length ((Qg p0)).list) : Int) - 0)) + 1) ((Qg p0)).list 0) z5 zo5))) (z6 : Nat → PV) (zo6 : Nat → List PV) (hl6 : Qb G (Qb3 p0 p1 p2 p3 p4 ((Qd p1)).fields 0) (.st (.exit 2) (Qbn p0 p1 p2 p3 p4 (Q33 p0 p1 p2 p3 p4 ((Int.toNat (((List.length ((Qd p1)).fields) : Int) - 0)) + 1) ((Qd p1)).fields 0) z6 zo6))) : Qb G (c_K3 p0 p1 p2 p3 p4) (.ret (.bool (bif (s_Kf (Q7o p2) (s_Kh p2)) then
   bif (s_Kf (Qc8 p3) (s_Km p3)) then
     bif (s_Kf (Qfv p4) (s_Kb p4)) then
      true
     else
      false
   else
     false
 else
   false)) []) := by
 cases h5 : (s_Kf (Q7o p2) (s_Kh p2)) with
 | true =>
  cases h6 : (s_Kf (Qc8 p3) (s_Km p3)) with
  | true =>
   cases h7 : (s_Kf (Qfv p4) (s_Kb p4)) with
   | true =>
    exact Qc (fn := Ir.K3) rfl VOK.nil [hP 2 (Qk (Val.rows p0) (List.length p0) (Val.Q9 p0)), hB 0 h0, hP 2 (Qk (Fld.rows p1) (List.length p1) (Fld.Q9 p1)), hB 0 h1, hQ (Val.Q0 ((Qg p0)).list 5 rfl), hQ (Fld.Q0 ((Qg p0)).fields 6 rfl), hQ (Val.Q0 ((Qd p1)).list 5 rfl), hQ (Fld.Q0 ((Qd p1)).fields 6 rfl), hQ ((Val.Q9 ((Qg p0)).list).trans rfl).symm, hQ ((Fld.Q9 ((Qg p0)).fields).trans rfl).symm, hQ ((Val.Q9 ((Qd p1)).list).trans rfl).symm, hQ ((Fld.Q9 ((Qd p1)).fields).trans rfl).symm, hS 0 true (Val.Q0 (Q35 p0 p1 p2 p3 p4 ((Int.toNat (((List.length ((Qg p0)).list) : Int) - 0)) + 1) ((Qg p0)).list 0) 5 rfl), hS 0 true (Fld.Q0 ((Qg p0)).fields 6 rfl), hS 0 true (Val.Q0 ((Qd p1)).list 5 rfl), hS 0 true (Fld.Q0 ((Qd p1)).fields 6 rfl), hS 0 true (Val.Q0 ((Qd p1)).list 5 rfl), hS 0 true (Fld.Q0 (Q33 p0 p1 p2 p3 p4 ((Int.toNat (((List.length ((Qd p1)).fields) : Int) - 0)) + 1) ((Qd p1)).fields 0) 6 rfl), hQ (Val.Q0 ((Qg p0)).list 5 rfl), hQ (Fld.Q0 ((Qg p0)).fields 6 rfl), hQ ((Val.Q9 ((Qg p0)).list).trans rfl).symm, hQ ((Fld.Q9 ((Qg p0)).fields).trans rfl).symm, hQ (Val.Q0 ((Qd p1)).list 5 rfl), hQ (Fld.Q0 ((Qd p1)).fields 6 rfl), hQ ((Val.Q9 ((Qd p1)).list).trans rfl).symm, hQ ((Fld.Q9 ((Qd p1)).fields).trans rfl).symm] [aB (t_Ka (Val.mk 0 0 (⟨#[]⟩ : ByteArray) p0 p1) (H.1 h0 h1)) h2, aV [(0, Val.rows ((Qg p0)).list), (1, Fld.rows ((Qg p0)).fields)] (Qcg p0 (H.2.1 h0 h1 h2)), aV [(0, Val.rows ((Qd p1)).list), (1, Fld.rows ((Qd p1)).fields)] (Qci p1 (H.2.2.1 h0 h1 h2)), aN (t_Ki p0 (H.2.2.2.1 h0 h1 h2)), aB (t_Kf ((Qg p0)) (s_Ki p0) (H.2.2.2.2.1 h0 h1 h2)) h3, aN (t_Kj p1 (H.2.2.2.2.2.1 h0 h1 h2 h3)), aB (t_Kf ((Qd p1)) (s_Kj p1) (H.2.2.2.2.2.2.1 h0 h1 h2 h3)) h4, aV [(2, Val.rows (Q35 p0 p1 p2 p3 p4 ((Int.toNat (((List.length ((Qg p0)).list) : Int) - 0)) + 1) ((Qg p0)).list 0)), (3, Fld.rows ((Qg p0)).fields), (4, Val.rows ((Qd p1)).list), (5, Fld.rows ((Qd p1)).fields)] hl5, aV [(1, Val.rows ((Qd p1)).list), (2, Fld.rows (Q33 p0 p1 p2 p3 p4 ((Int.toNat (((List.length ((Qd p1)).fields) : Int) - 0)) + 1) ((Qd p1)).fields 0))] hl6, aV [(0, Val.rows ((Qg p0)).list), (1, Fld.rows ((Qg p0)).fields)] (Qcg p0 (H.2.2.2.2.2.2.2.2.2.2.2.2.2.1 h0 h1 h2 h3 h4)), aN (t_Ki p0 (H.2.2.2.2.2.2.2.2.2.2.2.2.2.2.1 h0 h1 h2 h3 h4)), aB (t_Kf ((Qg p0)) (s_Ki p0) (H.2.2.2.2.2.2.2.2.2.2.2.2.2.2.2.1 h0 h1 h2 h3 h4)) h3, aV [(0, Val.rows ((Qd p1)).list), (1, Fld.rows ((Qd p1)).fields)] (Qci p1 (H.2.2.2.2.2.2.2.2.2.2.2.2.2.2.2.2.1 h0 h1 h2 h3 h4)), aN (t_Kj p1 (H.2.2.2.2.2.2.2.2.2.2.2.2.2.2.2.2.2.1 h0 h1 h2 h3 h4)), aB (t_Kf ((Qd p1)) (s_Kj p1) (H.2.2.2.2.2.2.2.2.2.2.2.2.2.2.2.2.2.2.1 h0 h1 h2 h3 h4)) h4, aN (Qrw p2), aN (t_Kh p2), aB (t_Kf (Q7o p2) (s_Kh p2) (H.2.2.2.2.2.2.2.2.2.2.2.2.2.2.2.2.2.2.2.1 h0 h1 h2 h3 h4)) h5, aN (Qt6 p3), aN (t_Km p3), aB (t_Kf (Qc8 p3) (s_Km p3) (H.2.2.2.2.2.2.2.2.2.2.2.2.2.2.2.2.2.2.2.2.1 h0 h1 h2 h3 h4 h5)) h6, aN (Quf p4), aN (t_Kb p4), aB (t_Kf (Qfv p4) (s_Kb p4) (H.2.2.2.2.2.2.2.2.2.2.2.2.2.2.2.2.2.2.2.2.2.1 h0 h1 h2 h3 h4 h5 h6)) h7, aN (Q72 (G := G) (f := 10) rfl)] (by kernel_rfl)
   | false =>
    exact Qc (fn := Ir.K3) rfl VOK.nil [hP 2 (Qk (Val.rows p0) (List.length p0) (Val.Q9 p0)), hB 0 h0, hP 2 (Qk (Fld.rows p1) (List.length p1) (Fld.Q9 p1)), hB 0 h1, hQ (Val.Q0 ((Qg p0)).list 5 rfl), hQ (Fld.Q0 ((Qg p0)).fields 6 rfl), hQ (Val.Q0 ((Qd p1)).list 5 rfl), hQ (Fld.Q0 ((Qd p1)).fields 6 rfl), hQ ((Val.Q9 ((Qg p0)).list).trans rfl).symm, hQ ((Fld.Q9 ((Qg p0)).fields).trans rfl).symm, hQ ((Val.Q9 ((Qd p1)).list).trans rfl).symm, hQ ((Fld.Q9 ((Qd p1)).fields).trans rfl).symm, hS 0 true (Val.Q0 (Q35 p0 p1 p2 p3 p4 ((Int.toNat (((List.length ((Qg p0)).list) : Int) - 0)) + 1) ((Qg p0)).list 0) 5 rfl), hS 0 true (Fld.Q0 ((Qg p0)).fields 6 rfl), hS 0 true (Val.Q0 ((Qd p1)).list 5 rfl), hS 0 true (Fld.Q0 ((Qd p1)).fields 6 rfl), hS 0 true (Val.Q0 ((Qd p1)).list 5 rfl), hS 0 true (Fld.Q0 (Q33 p0 p1 p2 p3 p4 ((Int.toNat (((List.length ((Qd p1)).fields) : Int) - 0)) + 1) ((Qd p1)).fields 0) 6 rfl), hQ (Val.Q0 ((Qg p0)).list 5 rfl), hQ (Fld.Q0 ((Qg p0)).fields 6 rfl), hQ ((Val.Q9 ((Qg p0)).list).trans rfl).symm, hQ ((Fld.Q9 ((Qg p0)).fields).trans rfl).symm, hQ (Val.Q0 ((Qd p1)).list 5 rfl), hQ (Fld.Q0 ((Qd p1)).fields 6 rfl), hQ ((Val.Q9 ((Qd p1)).list).trans rfl).symm, hQ ((Fld.Q9 ((Qd p1)).fields).trans rfl).symm] [aB (t_Ka (Val.mk 0 0 (⟨#[]⟩ : ByteArray) p0 p1) (H.1 h0 h1)) h2, aV [(0, Val.rows ((Qg p0)).list), (1, Fld.rows ((Qg p0)).fields)] (Qcg p0 (H.2.1 h0 h1 h2)), aV [(0, Val.rows ((Qd p1)).list), (1, Fld.rows ((Qd p1)).fields)] (Qci p1 (H.2.2.1 h0 h1 h2)), aN (t_Ki p0 (H.2.2.2.1 h0 h1 h2)), aB (t_Kf ((Qg p0)) (s_Ki p0) (H.2.2.2.2.1 h0 h1 h2)) h3, aN (t_Kj p1 (H.2.2.2.2.2.1 h0 h1 h2 h3)), aB (t_Kf ((Qd p1)) (s_Kj p1) (H.2.2.2.2.2.2.1 h0 h1 h2 h3)) h4, aV [(2, Val.rows (Q35 p0 p1 p2 p3 p4 ((Int.toNat (((List.length ((Qg p0)).list) : Int) - 0)) + 1) ((Qg p0)).list 0)), (3, Fld.rows ((Qg p0)).fields), (4, Val.rows ((Qd p1)).list), (5, Fld.rows ((Qd p1)).fields)] hl5, aV [(1, Val.rows ((Qd p1)).list), (2, Fld.rows (Q33 p0 p1 p2 p3 p4 ((Int.toNat (((List.length ((Qd p1)).fields) : Int) - 0)) + 1) ((Qd p1)).fields 0))] hl6, aV [(0, Val.rows ((Qg p0)).list), (1, Fld.rows ((Qg p0)).fields)] (Qcg p0 (H.2.2.2.2.2.2.2.2.2.2.2.2.2.1 h0 h1 h2 h3 h4)), aN (t_Ki p0 (H.2.2.2.2.2.2.2.2.2.2.2.2.2.2.1 h0 h1 h2 h3 h4)), aB (t_Kf ((Qg p0)) (s_Ki p0) (H.2.2.2.2.2.2.2.2.2.2.2.2.2.2.2.1 h0 h1 h2 h3 h4)) h3, aV [(0, Val.rows ((Qd p1)).list), (1, Fld.rows ((Qd p1)).fields)] (Qci p1 (H.2.2.2.2.2.2.2.2.2.2.2.2.2.2.2.2.1 h0 h1 h2 h3 h4)), aN (t_Kj p1 (H.2.2.2.2.2.2.2.2.2.2.2.2.2.2.2.2.2.1 h0 h1 h2 h3 h4)), aB (t_Kf ((Qd p1)) (s_Kj p1) (H.2.2.2.2.2.2.2.2.2.2.2.2.2.2.2.2.2.2.1 h0 h1 h2 h3 h4)) h4, aN (Qrw p2), aN (t_Kh p2), aB (t_Kf (Q7o p2) (s_Kh p2) (H.2.2.2.2.2.2.2.2.2.2.2.2.2.2.2.2.2.2.2.1 h0 h1 h2 h3 h4)) h5, aN (Qt6 p3), aN (t_Km p3), aB (t_Kf (Qc8 p3) (s_Km p3) (H.2.2.2.2.2.2.2.2.2.2.2.2.2.2.2.2.2.2.2.2.1 h0 h1 h2 h3 h4 h5)) h6, aN (Quf p4), aN (t_Kb p4), aB (t_Kf (Qfv p4) (s_Kb p4) (H.2.2.2.2.2.2.2.2.2.2.2.2.2.2.2.2.2.2.2.2.2.1 h0 h1 h2 h3 h4 h5 h6)) h7] (by kernel_rfl)
  | false =>
   exact Qc (fn := Ir.K3) rfl VOK.nil [hP 2 (Qk (Val.rows p0) (List.length p0) (Val.Q9 p0)), hB 0 h0, hP 2 (Qk (Fld.rows p1) (List.length p1) (Fld.Q9 p1)), hB 0 h1, hQ (Val.Q0 ((Qg p0)).list 5 rfl), hQ (Fld.Q0 ((Qg p0)).fields 6 rfl), hQ (Val.Q0 ((Qd p1)).list 5 rfl), hQ (Fld.Q0 ((Qd p1)).fields 6 rfl), hQ ((Val.Q9 ((Qg p0)).list).trans rfl).symm, hQ ((Fld.Q9 ((Qg p0)).fields).trans rfl).symm, hQ ((Val.Q9 ((Qd p1)).list).trans rfl).symm, hQ ((Fld.Q9 ((Qd p1)).fields).trans rfl).symm, hS 0 true (Val.Q0 (Q35 p0 p1 p2 p3 p4 ((Int.toNat (((List.length ((Qg p0)).list) : Int) - 0)) + 1) ((Qg p0)).list 0) 5 rfl), hS 0 true (Fld.Q0 ((Qg p0)).fields 6 rfl), hS 0 true (Val.Q0 ((Qd p1)).list 5 rfl), hS 0 true (Fld.Q0 ((Qd p1)).fields 6 rfl), hS 0 true (Val.Q0 ((Qd p1)).list 5 rfl), hS 0 true (Fld.Q0 (Q33 p0 p1 p2 p3 p4 ((Int.toNat (((List.length ((Qd p1)).fields) : Int) - 0)) + 1) ((Qd p1)).fields 0) 6 rfl), hQ (Val.Q0 ((Qg p0)).list 5 rfl), hQ (Fld.Q0 ((Qg p0)).fields 6 rfl), hQ ((Val.Q9 ((Qg p0)).list).trans rfl).symm, hQ ((Fld.Q9 ((Qg p0)).fields).trans rfl).symm, hQ (Val.Q0 ((Qd p1)).list 5 rfl), hQ (Fld.Q0 ((Qd p1)).fields 6 rfl), hQ ((Val.Q9 ((Qd p1)).list).trans rfl).symm, hQ ((Fld.Q9 ((Qd p1)).fields).trans rfl).symm] [aB (t_Ka (Val.mk 0 0 (⟨#[]⟩ : ByteArray) p0 p1) (H.1 h0 h1)) h2, aV [(0, Val.rows ((Qg p0)).list), (1, Fld.rows ((Qg p0)).fields)] (Qcg p0 (H.2.1 h0 h1 h2)), aV [(0, Val.rows ((Qd p1)).list), (1, Fld.rows ((Qd p1)).fields)] (Qci p1 (H.2.2.1 h0 h1 h2)), aN (t_Ki p0 (H.2.2.2.1 h0 h1 h2)), aB (t_Kf ((Qg p0)) (s_Ki p0) (H.2.2.2.2.1 h0 h1 h2)) h3, aN (t_Kj p1 (H.2.2.2.2.2.1 h0 h1 h2 h3)), aB (t_Kf ((Qd p1)) (s_Kj p1) (H.2.2.2.2.2.2.1 h0 h1 h2 h3)) h4, aV [(2, Val.rows (Q35 p0 p1 p2 p3 p4 ((Int.toNat (((List.length ((Qg p0)).list) : Int) - 0)) + 1) ((Qg p0)).list 0)), (3, Fld.rows ((Qg p0)).fields), (4, Val.rows ((Qd p1)).list), (5, Fld.rows ((Qd p1)).fields)] hl5, aV [(1, Val.rows ((Qd p1)).list), (2, Fld.rows (Q33 p0 p1 p2 p3 p4 ((Int.toNat (((List.length ((Qd p1)).fields) : Int) - 0)) + 1) ((Qd p1)).fields 0))] hl6, aV [(0, Val.rows ((Qg p0)).list), (1, Fld.rows ((Qg p0)).fields)] (Qcg p0 (H.2.2.2.2.2.2.2.2.2.2.2.2.2.1 h0 h1 h2 h3 h4)), aN (t_Ki p0 (H.2.2.2.2.2.2.2.2.2.2.2.2.2.2.1 h0 h1 h2 h3 h4)), aB (t_Kf ((Qg p0)) (s_Ki p0) (H.2.2.2.2.2.2.2.2.2.2.2.2.2.2.2.1 h0 h1 h2 h3 h4)) h3, aV [(0, Val.rows ((Qd p1)).list), (1, Fld.rows ((Qd p1)).fields)] (Qci p1 (H.2.2.2.2.2.2.2.2.2.2.2.2.2.2.2.2.1 h0 h1 h2 h3 h4)), aN (t_Kj p1 (H.2.2.2.2.2.2.2.2.2.2.2.2.2.2.2.2.2.1 h0 h1 h2 h3 h4)), aB (t_Kf ((Qd p1)) (s_Kj p1) (H.2.2.2.2.2.2.2.2.2.2.2.2.2.2.2.2.2.2.1 h0 h1 h2 h3 h4)) h4, aN (Qrw p2), aN (t_Kh p2), aB (t_Kf (Q7o p2) (s_Kh p2) (H.2.2.2.2.2.2.2.2.2.2.2.2.2.2.2.2.2.2.2.1 h0 h1 h2 h3 h4)) h5, aN (Qt6 p3), aN (t_Km p3), aB (t_Kf (Qc8 p3) (s_Km p3) (H.2.2.2.2.2.2.2.2.2.2.2.2.2.2.2.2.2.2.2.2.1 h0 h1 h2 h3 h4 h5)) h6] (by kernel_rfl)
 | false =>
  exact Qc (fn := Ir.K3) rfl VOK.nil [hP 2 (Qk (Val.rows p0) (List.length p0) (Val.Q9 p0)), hB 0 h0, hP 2 (Qk (Fld.rows p1) (List.length p1) (Fld.Q9 p1)), hB 0 h1, hQ (Val.Q0 ((Qg p0)).list 5 rfl), hQ (Fld.Q0 ((Qg p0)).fields 6 rfl), hQ (Val.Q0 ((Qd p1)).list 5 rfl), hQ (Fld.Q0 ((Qd p1)).fields 6 rfl), hQ ((Val.Q9 ((Qg p0)).list).trans rfl).symm, hQ ((Fld.Q9 ((Qg p0)).fields).trans rfl).symm, hQ ((Val.Q9 ((Qd p1)).list).trans rfl).symm, hQ ((Fld.Q9 ((Qd p1)).fields).trans rfl).symm, hS 0 true (Val.Q0 (Q35 p0 p1 p2 p3 p4 ((Int.toNat (((List.length ((Qg p0)).list) : Int) - 0)) + 1) ((Qg p0)).list 0) 5 rfl), hS 0 true (Fld.Q0 ((Qg p0)).fields 6 rfl), hS 0 true (Val.Q0 ((Qd p1)).list 5 rfl), hS 0 true (Fld.Q0 ((Qd p1)).fields 6 rfl), hS 0 true (Val.Q0 ((Qd p1)).list 5 rfl), hS 0 true (Fld.Q0 (Q33 p0 p1 p2 p3 p4 ((Int.toNat (((List.length ((Qd p1)).fields) : Int) - 0)) + 1) ((Qd p1)).fields 0) 6 rfl), hQ (Val.Q0 ((Qg p0)).list 5 rfl), hQ (Fld.Q0 ((Qg p0)).fields 6 rfl), hQ ((Val.Q9 ((Qg p0)).list).trans rfl).symm, hQ ((Fld.Q9 ((Qg p0)).fields).trans rfl).symm, hQ (Val.Q0 ((Qd p1)).list 5 rfl), hQ (Fld.Q0 ((Qd p1)).fields 6 rfl), hQ ((Val.Q9 ((Qd p1)).list).trans rfl).symm, hQ ((Fld.Q9 ((Qd p1)).fields).trans rfl).symm] [aB (t_Ka (Val.mk 0 0 (⟨#[]⟩ : ByteArray) p0 p1) (H.1 h0 h1)) h2, aV [(0, Val.rows ((Qg p0)).list), (1, Fld.rows ((Qg p0)).fields)] (Qcg p0 (H.2.1 h0 h1 h2)), aV [(0, Val.rows ((Qd p1)).list), (1, Fld.rows ((Qd p1)).fields)] (Qci p1 (H.2.2.1 h0 h1 h2)), aN (t_Ki p0 (H.2.2.2.1 h0 h1 h2)), aB (t_Kf ((Qg p0)) (s_Ki p0) (H.2.2.2.2.1 h0 h1 h2)) h3, aN (t_Kj p1 (H.2.2.2.2.2.1 h0 h1 h2 h3)), aB (t_Kf ((Qd p1)) (s_Kj p1) (H.2.2.2.2.2.2.1 h0 h1 h2 h3)) h4, aV [(2, Val.rows (Q35 p0 p1 p2 p3 p4 ((Int.toNat (((List.length ((Qg p0)).list) : Int) - 0)) + 1) ((Qg p0)).list 0)), (3, Fld.rows ((Qg p0)).fields), (4, Val.rows ((Qd p1)).list), (5, Fld.rows ((Qd p1)).fields)] hl5, aV [(1, Val.rows ((Qd p1)).list), (2, Fld.rows (Q33 p0 p1 p2 p3 p4 ((Int.toNat (((List.length ((Qd p1)).fields) : Int) - 0)) + 1) ((Qd p1)).fields 0))] hl6, aV [(0, Val.rows ((Qg p0)).list), (1, Fld.rows ((Qg p0)).fields)] (Qcg p0 (H.2.2.2.2.2.2.2.2.2.2.2.2.2.1 h0 h1 h2 h3 h4)), aN (t_Ki p0 (H.2.2.2.2.2.2.2.2.2.2.2.2.2.2.1 h0 h1 h2 h3 h4)), aB (t_Kf ((Qg p0)) (s_Ki p0) (H.2.2.2.2.2.2.2.2.2.2.2.2.2.2.2.1 h0 h1 h2 h3 h4)) h3, aV [(0, Val.rows ((Qd p1)).list), (1, Fld.rows ((Qd p1)).fields)] (Qci p1 (H.2.2.2.2.2.2.2.2.2.2.2.2.2.2.2.2.1 h0 h1 h2 h3 h4)), aN (t_Kj p1 (H.2.2.2.2.2.2.2.2.2.2.2.2.2.2.2.2.2.1 h0 h1 h2 h3 h4)), aB (t_Kf ((Qd p1)) (s_Kj p1) (H.2.2.2.2.2.2.2.2.2.2.2.2.2.2.2.2.2.2.1 h0 h1 h2 h3 h4)) h4, aN (Qrw p2), aN (t_Kh p2), aB (t_Kf (Q7o p2) (s_Kh p2) (H.2.2.2.2.2.2.2.2.2.2.2.2.2.2.2.2.2.2.2.1 h0 h1 h2 h3 h4)) h5] (by kernel_rfl)
theorem Qv2 (p0 : List Val) (p1 : List Fld) (p2 : Int) (p3 : ByteArray) (p4 : Bool) (H : H_K3 p0 p1 p2 p3 p4) (h0 : (decide (40 < ((List.length p0) : Int))) = false) (h1 : (decide (40 < ((List.length p1) : Int))) = false) (h2 : (s_Ka (Val.mk 0 0 (⟨#[]⟩ : ByteArray) p0 p1)) = true) (h3 : (s_Kf ((Qg p0)) (s_Ki p0)) = true) (h4 : (s_Kf ((Qd p1)) (s_Kj p1)) = false) : Qb G (c_K3 p0 p1 p2 p3 p4) (.ret (.bool (false)) []) := by
 exact Qc (fn := Ir.K3) rfl VOK.nil [hP 2 (Qk (Val.rows p0) (List.length p0) (Val.Q9 p0)), hB 0 h0, hP 2 (Qk (Fld.rows p1) (List.length p1) (Fld.Q9 p1)), hB 0 h1, hQ (Val.Q0 ((Qg p0)).list 5 rfl), hQ (Fld.Q0 ((Qg p0)).fields 6 rfl), hQ (Val.Q0 ((Qd p1)).list 5 rfl), hQ (Fld.Q0 ((Qd p1)).fields 6 rfl), hQ ((Val.Q9 ((Qg p0)).list).trans rfl).symm, hQ ((Fld.Q9 ((Qg p0)).fields).trans rfl).symm, hQ ((Val.Q9 ((Qd p1)).list).trans rfl).symm, hQ ((Fld.Q9 ((Qd p1)).fields).trans rfl).symm] [aB (t_Ka (Val.mk 0 0 (⟨#[]⟩ : ByteArray) p0 p1) (H.1 h0 h1)) h2, aV [(0, Val.rows ((Qg p0)).list), (1, Fld.rows ((Qg p0)).fields)] (Qcg p0 (H.2.1 h0 h1 h2)), aV [(0, Val.rows ((Qd p1)).list), (1, Fld.rows ((Qd p1)).fields)] (Qci p1 (H.2.2.1 h0 h1 h2)), aN (t_Ki p0 (H.2.2.2.1 h0 h1 h2)), aB (t_Kf ((Qg p0)) (s_Ki p0) (H.2.2.2.2.1 h0 h1 h2)) h3, aN (t_Kj p1 (H.2.2.2.2.2.1 h0 h1 h2 h3)), aB (t_Kf ((Qd p1)) (s_Kj p1) (H.2.2.2.2.2.2.1 h0 h1 h2 h3)) h4] (by kernel_rfl)
theorem Quh (p0 : List Val) (p1 : List Fld) (p2 : Int) (p3 : ByteArray) (p4 : Bool) (H : H_K3 p0 p1 p2 p3 p4) (h0 : (decide (40 < ((List.length p0) : Int))) = false) (h1 : (decide (40 < ((List.length p1) : Int))) = false) (h2 : (s_Ka (Val.mk 0 0 (⟨#[]⟩ : ByteArray) p0 p1)) = true) (h3 : (s_Kf ((Qg p0)) (s_Ki p0)) = false) : Qb G (c_K3 p0 p1 p2 p3 p4) (.ret (.bool (false)) []) := by
 exact Qc (fn := Ir.K3) rfl VOK.nil [hP 2 (Qk (Val.rows p0) (List.length p0) (Val.Q9 p0)), hB 0 h0, hP 2 (Qk (Fld.rows p1) (List.length p1) (Fld.Q9 p1)), hB 0 h1, hQ (Val.Q0 ((Qg p0)).list 5 rfl), hQ (Fld.Q0 ((Qg p0)).fields 6 rfl), hQ (Val.Q0 ((Qd p1)).list 5 rfl), hQ (Fld.Q0 ((Qd p1)).fields 6 rfl), hQ ((Val.Q9 ((Qg p0)).list).trans rfl).symm, hQ ((Fld.Q9 ((Qg p0)).fields).trans rfl).symm] [aB (t_Ka (Val.mk 0 0 (⟨#[]⟩ : ByteArray) p0 p1) (H.1 h0 h1)) h2, aV [(0, Val.rows ((Qg p0)).list), (1, Fld.rows ((Qg p0)).fields)] (Qcg p0 (H.2.1 h0 h1 h2)), aV [(0, Val.rows ((Qd p1)).list), (1, Fld.rows ((Qd p1)).fields)] (Qci p1 (H.2.2.1 h0 h1 h2)), aN (t_Ki p0 (H.2.2.2.1 h0 h1 h2)), aB (t_Kf ((Qg p0)) (s_Ki p0) (H.2.2.2.2.1 h0 h1 h2)) h3] (by kernel_rfl)
theorem Qtg (p0 : List Val) (p1 : List Fld) (p2 : Int) (p3 : ByteArray) (p4 : Bool) (H : H_K3 p0 p1 p2 p3 p4) (h0 : (decide (40 < ((List.length p0) : Int))) = false) (h1 : (decide (40 < ((List.length p1) : Int))) = false) (h2 : (s_Ka (Val.mk 0 0 (⟨#[]⟩ : ByteArray) p0 p1)) = false) : Qb G (c_K3 p0 p1 p2 p3 p4) (.ret (.bool (true)) []) := by
 exact Qc (fn := Ir.K3) rfl VOK.nil [hP 2 (Qk (Val.rows p0) (List.length p0) (Val.Q9 p0)), hB 0 h0, hP 2 (Qk (Fld.rows p1) (List.length p1) (Fld.Q9 p1)), hB 0 h1] [aB (t_Ka (Val.mk 0 0 (⟨#[]⟩ : ByteArray) p0 p1) (H.1 h0 h1)) h2, aN (Q72 (G := G) (f := 10) rfl)] (by kernel_rfl)
theorem t_K3 (p0 : List Val) (p1 : List Fld) (p2 : Int) (p3 : ByteArray) (p4 : Bool) (H : H_K3 p0 p1 p2 p3 p4) : Qb G (c_K3 p0 p1 p2 p3 p4) (a_K3 p0 p1 p2 p3 p4) := by
 unfold a_K3 s_K3
 cases h0 : (decide (40 < ((List.length p0) : Int))) with
 | true =>
  exact Qv8 p0 p1 p2 p3 p4 H h0
 | false =>
  have e0 := of_decide_eq_false h0
  cases h1 : (decide (40 < ((List.length p1) : Int))) with
  | true =>
   exact Quw p0 p1 p2 p3 p4 H h0 h1
  | false =>
   have e1 := of_decide_eq_false h1
   cases h2 : (s_Ka (Val.mk 0 0 (⟨#[]⟩ : ByteArray) p0 p1)) with
   | true =>
    cases h3 : (s_Kf ((Qg p0)) (s_Ki p0)) with
    | true =>
     cases h4 : (s_Kf ((Qd p1)) (s_Kj p1)) with
     | true =>
      have hl5 := Qm7 p0 p1 p2 p3 p4 (H.2.2.2.2.2.2.2.1 h0 h1 h2 h3 h4) ((Int.toNat (((List.length ((Qg p0)).list) : Int) - 0)) + 1) ((Qg p0)).list 0 (H.2.2.2.2.2.2.2.2.1 h0 h1 h2 h3 h4) (H.2.2.2.2.2.2.2.2.2.1 h0 h1 h2 h3 h4) rfl rfl rfl rfl (by omega)
      obtain ⟨z5, zo5, hl5⟩ := hl5
      have hl6 := Qlb p0 p1 p2 p3 p4 (H.2.2.2.2.2.2.2.2.2.2.1 h0 h1 h2 h3 h4) ((Int.toNat (((List.length ((Qd p1)).fields) : Int) - 0)) + 1) ((Qd p1)).fields 0 (H.2.2.2.2.2.2.2.2.1 h0 h1 h2 h3 h4) (H.2.2.2.2.2.2.2.2.2.2.2.1 h0 h1 h2 h3 h4) (H.2.2.2.2.2.2.2.2.2.2.2.2.1 h0 h1 h2 h3 h4) rfl rfl (by omega)
      obtain ⟨z6, zo6, hl6⟩ := hl6
      exact Qtz p0 p1 p2 p3 p4 H h0 h1 h2 h3 h4 z5 zo5 hl5 z6 zo6 hl6
     | false =>
      exact Qv2 p0 p1 p2 p3 p4 H h0 h1 h2 h3 h4
    | false =>
     exact Quh p0 p1 p2 p3 p4 H h0 h1 h2 h3
   | false =>
    exact Qtg p0 p1 p2 p3 p4 H h0 h1 h2
def tysValueBuilds : List Ty := [.sl 80 (.nm 25), .sl 96 (.st [.str, .nm 25]), .int .i64, .str, .bool]
theorem pureValueBuilds (hp : ∀ (p0 : List Val) (p1 : List Fld) (p2 : Int) (p3 : ByteArray) (p4 : Bool), (okL 80 Q36) p0 → (okL 96 Qh9) p1 → Qkg p2 → okS p3 → (fun _ : Bool => True) p4 → H_K3 p0 p1 p2 p3 p4 ∧ s_K3 p0 p1 p2 p3 p4 = true) : ∀ qs, Args Γ tysValueBuilds qs → ∃ n, runs G n (.call 6 qs []) = some (.ret (.bool true) []) := by
  intro qs h
  cases qs with
  | nil => cases h
  | cons q0 qs =>
  obtain ⟨h0, h⟩ := h
  cases qs with
  | nil => cases h
  | cons q1 qs =>
  obtain ⟨h1, h⟩ := h
  cases qs with
  | nil => cases h
  | cons q2 qs =>
  obtain ⟨h2, h⟩ := h
  cases qs with
  | nil => cases h
  | cons q3 qs =>
  obtain ⟨h3, h⟩ := h
  cases qs with
  | nil => cases h
  | cons q4 qs =>
  obtain ⟨h4, h⟩ := h
  cases qs with
  | cons _ _ => cases h
  | nil =>
  have g0 := h0.one rfl
  obtain ⟨p0, e0, k0⟩ := (g0.sl1 (f := Val.cells) (ok := Q36) fun r hr => (Qm0 (Qsr 25) hr))
  injection e0 with e0
  subst e0
  have g1 := h1.one rfl
  obtain ⟨p1, e1, k1⟩ := (g1.sl1 (f := Fld.cells) (ok := Qh9) fun r hr => (Qrk (Qsr 25) hr))
  injection e1 with e1
  subst e1
  have g2 := h2.one rfl
  obtain ⟨p2, e2, k2⟩ := g2.i64
  injection e2 with e2
  subst e2
  have g3 := h3.one rfl
  obtain ⟨p3, e3, k3⟩ := g3.str1
  injection e3 with e3
  subst e3
  have g4 := h4.one rfl
  obtain ⟨p4, e4, k4⟩ := g4.bool2
  injection e4 with e4
  subst e4
  have e := hp p0 p1 p2 p3 p4 k0 k1 k2 k3 k4
  have t := t_K3 p0 p1 p2 p3 p4 e.1
  unfold a_K3 at t
  rw [e.2] at t
  unfold c_K3 at t
  rw [Val.Q1y, Fld.Q1y] at t
  exact t
end Go.Proofs.Ytedohmdgbilicaa
end

section
/- Comparisons that answer -1, 0 or 1; the order of strings. -/
namespace Go.Pv
def R3 (a : Int) : Prop := a = -1 ∨ a = 0 ∨ a = 1
def T3 (a b e : Int) : Prop := (a = 0 → e = b) ∧ (b = 0 → e = a) ∧ (a = b → e = a)
def lx (a b : Int) : Int := if a = 0 then b else a
def icmp (a b : Int) : Int := if a < b then -1 else if b < a then 1 else 0
theorem Qu7 (a b : Int) : lx (-a) (-b) = -lx a b := by
  unfold lx
  split <;> split <;> omega
theorem Qw0 {a b e a' b' e' : Int} (_ha : R3 a) (_hb : R3 b) (_he : R3 e) (t : T3 a b e) (t' : T3 a' b' e') : T3 (lx a a') (lx b b') (lx e e') := by
  unfold T3 at *
  unfold lx R3 at *
  split <;> split <;> split <;> omega
theorem Qkm (a b : Int) : R3 (icmp a b) := by
  unfold icmp R3
  split
  · omega
  · split <;> omega
theorem Qrq (a b : Int) : icmp b a = -icmp a b := by
  unfold icmp
  split <;> split <;> first | omega | (split <;> omega) | skip
  all_goals omega
theorem Qtc (a b e : Int) : T3 (icmp a b) (icmp b e) (icmp a e) := by
  unfold T3 icmp
  split <;> split <;> split <;> (try split) <;> (try split) <;> (try split) <;> omega
theorem Qpn {a b : Int} : icmp a b = 0 ↔ a = b := by
  unfold icmp
  constructor
  · intro h
    split at h
    · omega
    · split at h <;> omega
  · intro h
    rw [if_neg (by omega), if_neg (by omega)]
theorem Qjq : ∀ a b : List UInt8, R3 (cmpL a b)
  | [], [] => Or.inr (Or.inl rfl)
  | [], _ :: _ => Or.inl rfl
  | _ :: _, [] => Or.inr (Or.inr rfl)
  | x :: a, y :: b => by
    rw [cmpL]
    split
    · exact Or.inl rfl
    · split
      · exact Or.inr (Or.inr rfl)
      · exact Qjq a b
theorem Q4d (x y : UInt8) (a b : List UInt8) : cmpL (x :: a) (y :: b) = lx (icmp (x.toNat : Int) (y.toNat : Int)) (cmpL a b) := by
  rw [cmpL]
  unfold lx icmp
  simp only [UInt8.lt_iff_toNat_lt]
  by_cases h1 : x.toNat < y.toNat
  · rw [if_pos h1, if_pos (show (x.toNat : Int) < (y.toNat : Int) by omega)]
    rfl
  · by_cases h2 : y.toNat < x.toNat
    · rw [if_neg h1, if_pos h2, if_neg (show ¬ (x.toNat : Int) < (y.toNat : Int) by omega), if_pos (show (y.toNat : Int) < (x.toNat : Int) by omega)]
      rfl
    · rw [if_neg h1, if_neg h2, if_neg (show ¬ (x.toNat : Int) < (y.toNat : Int) by omega), if_neg (show ¬ (y.toNat : Int) < (x.toNat : Int) by omega)]
      rfl
theorem Qex : ∀ a b : List UInt8, cmpL b a = -cmpL a b
  | [], [] => rfl
  | [], _ :: _ => rfl
  | _ :: _, [] => rfl
  | x :: a, y :: b => by rw [Q4d, Q4d, Qex a b, Qrq (x.toNat : Int) (y.toNat : Int), Qu7]
theorem Qp8 : ∀ a b d : List UInt8, T3 (cmpL a b) (cmpL b d) (cmpL a d)
  | [], [], [] => by simp [T3, cmpL]
  | [], [], _ :: _ => by simp [T3, cmpL]
  | [], _ :: _, [] => by simp [T3, cmpL]
  | [], _ :: _, _ :: _ => by simp [T3, cmpL]
  | _ :: _, [], [] => by simp [T3, cmpL]
  | _ :: _, [], _ :: _ => by simp [T3, cmpL]
  | x :: a, y :: b, [] => by
    have h := Qjq (x :: a) (y :: b)
    unfold R3 at h
    unfold T3
    rw [show cmpL (y :: b) [] = 1 from rfl, show cmpL (x :: a) [] = 1 from rfl]
    omega
  | x :: a, y :: b, w :: d => by
    rw [Q4d, Q4d, Q4d]
    exact Qw0 (Qkm _ _) (Qkm _ _) (Qkm _ _) (Qtc _ _ _) (Qp8 a b d)
theorem Qh8 : ∀ a b : List UInt8, cmpL a b = 0 → a = b
  | [], [], _ => rfl
  | [], _ :: _, h => by simp [cmpL] at h
  | _ :: _, [], h => by simp [cmpL] at h
  | x :: a, y :: b, h => by
    rw [Q4d] at h
    unfold lx at h
    split at h
    · rename_i e
      have := Qpn.1 e
      rw [UInt8.toNat_inj.1 (show x.toNat = y.toNat by omega), Qh8 a b h]
    · omega
theorem Qp1 (a : List UInt8) : cmpL a a = 0 := by
  have := Qex a a
  omega
theorem Qkt : ∀ a b : List UInt8, Op.bytesLess a b = decide (cmpL a b < 0)
  | [], [] => rfl
  | [], _ :: _ => rfl
  | _ :: _, [] => rfl
  | x :: a, y :: b => by
    have ih := Qkt a b
    rw [Op.bytesLess, cmpL, ih]
    by_cases h : x < y
    · simp [h]
    · by_cases h2 : y < x
      · have h3 : ¬ x = y := fun e => h (e ▸ h2)
        simp [h, h2, h3]
      · have h3 : x = y := by
          rw [UInt8.lt_iff_toNat_lt] at h h2
          exact UInt8.toNat_inj.1 (by omega)
        simp [h3]
theorem Q7t (a b : ByteArray) : R3 (sCmp a b) := Qjq _ _
theorem Q39 (a b : ByteArray) : sCmp b a = -sCmp a b := Qex _ _
theorem Qpr (a b d : ByteArray) : T3 (sCmp a b) (sCmp b d) (sCmp a d) := Qp8 _ _ _
theorem Qah {a b : ByteArray} : sCmp a b = 0 ↔ a = b := ⟨fun h => toList_inj (Qh8 _ _ h), fun h => by rw [h]; exact Qp1 _⟩
theorem Qg5 (a b : ByteArray) : sLt a b = decide (sCmp a b < 0) := Qkt _ _
theorem Qt2 (a b : ByteArray) : sEq a b = decide (sCmp a b = 0) := by
  rw [Qt5]
  simp only [Qah]
theorem Qss (a b : ByteArray) : (sLt a b || sEq a b) = !sLt b a := by
  rw [Qg5, Qt2, Qg5, Q39 a b]
  have := Q7t a b
  unfold R3 at this
  rcases this with h | h | h <;> rw [h] <;> rfl
end Go.Pv
end

section
/- Lists of fields: strictly sorted lists are known by their members; keeping the last field of each name of a sorted list; putting a field into a sorted list. -/
namespace Go.Pv
open Srt
theorem Q31 (a : ByteArray) : sCmp a a = 0 := Qah.2 rfl
theorem Qjl {a b d : ByteArray} (h : sCmp a b < 0) (g : sCmp b d < 0) : sCmp a d < 0 := by
  have t := Qpr a b d
  have h1 := Q7t a b
  have h2 := Q7t b d
  unfold R3 at h1 h2
  unfold T3 at t
  omega
theorem Qib {a b : ByteArray} : sEq a b = false ↔ a ≠ b := by
  cases h : sEq a b with
  | true => simp [Q84.1 h]
  | false => exact ⟨fun _ e => (by rw [Q84.2 e] at h; cases h), fun _ => rfl⟩
theorem Q6k (a b : ByteArray) : sCmp a b < 0 ∨ a = b ∨ sCmp b a < 0 := by
  have h1 := Q7t a b
  have h2 := Q39 a b
  have h3 : sCmp a b = 0 → a = b := Qah.1
  unfold R3 at h1
  by_cases e : sCmp a b = 0
  · exact .inr (.inl (h3 e))
  · omega
theorem Q5g {α : Type} (f : α → ByteArray) : Tot (fun x y : α => sCmp (f x) (f y)) := by
  refine ⟨fun x y h => ?_, fun x y w h g => ?_⟩
  · rw [Q39]
    omega
  · have t := Qpr (f w) (f y) (f x)
    have h1 := Q7t (f w) (f y)
    have h2 := Q7t (f y) (f x)
    rw [Q39] at h
    rw [Q39] at g
    have h3 := Q39 (f w) (f y)
    have h4 := Q39 (f y) (f x)
    have h5 := Q39 (f y) (f w)
    have h6 := Q39 (f x) (f y)
    unfold R3 at h1 h2
    unfold T3 at t
    omega
abbrev nlt (x y : Fld) : Prop := sCmp x.name y.name < 0
def SS (l : List Fld) : Prop := l.Pairwise nlt
theorem SS.cons {x : Fld} {l : List Fld} : SS (x :: l) ↔ (∀ y ∈ l, nlt x y) ∧ SS l := List.pairwise_cons
theorem SS.nil : SS [] := List.Pairwise.nil
theorem Qjt (x : Fld) : ¬ nlt x x := by unfold nlt; rw [Q31]; omega
theorem Qqm : ∀ {l r : List Fld}, SS l → SS r → (∀ f, f ∈ l ↔ f ∈ r) → l = r
  | [], [], _, _, _ => rfl
  | [], y :: r, _, _, h => by have := (h y).2 List.mem_cons_self; cases this
  | x :: l, [], _, _, h => by have := (h x).1 List.mem_cons_self; cases this
  | x :: l, y :: r, hl, hr, h => by
    obtain ⟨hx, hl'⟩ := SS.cons.1 hl
    obtain ⟨hy, hr'⟩ := SS.cons.1 hr
    have e : x = y := by
      rcases List.mem_cons.1 ((h x).1 List.mem_cons_self) with e | e
      · exact e
      · rcases List.mem_cons.1 ((h y).2 List.mem_cons_self) with e' | e'
        · exact e'.symm
        · exact absurd (Qjl (hx y e') (hy x e)) (Qjt x)
    subst e
    have k1 : ∀ f, f ∈ l → f ∈ r := fun f hf => by
      rcases List.mem_cons.1 ((h f).1 (List.mem_cons_of_mem _ hf)) with e | e
      · subst e; exact absurd (hx _ hf) (Qjt _)
      · exact e
    have k2 : ∀ f, f ∈ r → f ∈ l := fun f hf => by
      rcases List.mem_cons.1 ((h f).2 (List.mem_cons_of_mem _ hf)) with e | e
      · subst e; exact absurd (hy _ hf) (Qjt _)
      · exact e
    rw [Qqm hl' hr' fun f => ⟨k1 f, k2 f⟩]
theorem SS.filter {l : List Fld} (h : SS l) (p : Fld → Bool) : SS (l.filter p) := h.sublist List.filter_sublist
theorem SS.inj {l : List Fld} (h : SS l) {x y : Fld} (hx : x ∈ l) (hy : y ∈ l) (e : x.name = y.name) : x = y := by
  induction l with
  | nil => cases hx
  | cons z l ih =>
    obtain ⟨hz, hl⟩ := SS.cons.1 h
    rcases List.mem_cons.1 hx with e1 | hx' <;> rcases List.mem_cons.1 hy with e2 | hy'
    · rw [e1, e2]
    · subst e1; have := hz y hy'; unfold nlt at this; rw [e, Q31] at this; omega
    · subst e2; have := hz x hx'; unfold nlt at this; rw [e, Q31] at this; omega
    · exact ih hl hx' hy'
def lastOf (l : List Fld) (f : Fld) : Prop := (l.filter fun y => decide (y.name = f.name)).getLast? = some f
theorem Q7p (f : Fld) : ¬ lastOf [] f := by simp [lastOf]
theorem Qjr (l : List Fld) (x f : Fld) : lastOf (l ++ [x]) f ↔ f = x ∨ (lastOf l f ∧ f.name ≠ x.name) := by
  unfold lastOf
  rw [List.filter_append]
  by_cases h : x.name = f.name
  · rw [show ([x].filter fun y => decide (y.name = f.name)) = [x] by simp [h], List.getLast?_append]
    simp [h, eq_comm]
  · rw [show ([x].filter fun y => decide (y.name = f.name)) = [] by simp [h], List.append_nil]
    exact ⟨fun g => .inr ⟨g, fun e => h e.symm⟩, fun g => by
      rcases g with rfl | g
      · exact absurd rfl h
      · exact g.1⟩
theorem Q68 (x f : Fld) (l : List Fld) : lastOf (x :: l) f ↔ lastOf l f ∨ (f = x ∧ ∀ y ∈ l, y.name ≠ x.name) := by
  unfold lastOf
  by_cases h : x.name = f.name
  · rw [List.filter_cons_of_pos (by simpa using h)]
    cases e : l.filter fun y => decide (y.name = f.name) with
    | nil =>
      have := List.filter_eq_nil_iff.1 e
      simp only [List.getLast?_singleton, Option.some.injEq, List.getLast?_nil, reduceCtorEq, false_or]
      exact ⟨fun g => ⟨g.symm, fun y hy => by have := this y hy; rw [h]; simpa using this⟩, fun g => g.1.symm⟩
    | cons a r =>
      rw [List.getLast?_cons_cons]
      refine ⟨.inl, fun g => ?_⟩
      rcases g with g | g
      · exact g
      · have : a ∈ l.filter fun y => decide (y.name = f.name) := by rw [e]; exact List.mem_cons_self
        obtain ⟨h1, h2⟩ := List.mem_filter.1 this
        exact absurd ((of_decide_eq_true h2).trans (by rw [g.1])) (g.2 a h1)
  · rw [List.filter_cons_of_neg (by simpa using h)]
    exact ⟨.inl, fun g => by
      rcases g with g | g
      · exact g
      · exact absurd (by rw [g.1]) h⟩
theorem Qnl {l : List Fld} {f : Fld} (h : lastOf l f) : f ∈ l := (List.mem_filter.1 (List.mem_of_getLast? h)).1
theorem Qqn {l : List Fld} (h : SS l) (f : Fld) : lastOf l f ↔ f ∈ l := by
  induction l with
  | nil => exact ⟨fun g => absurd g (Q7p f), fun g => by cases g⟩
  | cons x l ih =>
    obtain ⟨hx, hl⟩ := SS.cons.1 h
    rw [Q68, ih hl, List.mem_cons]
    exact ⟨fun g => g.elim .inr fun g => .inl g.1, fun g => g.elim (fun g => .inr ⟨g, fun y hy e => by have := hx y hy; unfold nlt at this; rw [e, Q31] at this; omega⟩) .inl⟩
def lasts : List Fld → List Fld
  | [] => []
  | [x] => [x]
  | x :: y :: r => bif sEq y.name x.name then lasts (y :: r) else x :: lasts (y :: r)
abbrev cNm (x y : Fld) : Int := sCmp x.name y.name
theorem Qj4 : ∀ (l : List Fld), Up cNm l → ∀ f, f ∈ lasts l ↔ lastOf l f
  | [], _, f => ⟨fun g => (by cases g), fun g => absurd g (Q7p f)⟩
  | [x], _, f => by
    rw [Q68]
    simp [lasts, Q7p]
  | x :: y :: r, h, f => by
    have h' := List.pairwise_cons.1 h
    have ih := Qj4 (y :: r) h'.2 f
    rw [lasts, Q68]
    cases e : sEq y.name x.name with
    | true =>
      rw [cond_true, ih]
      exact ⟨.inl, fun g => g.elim id fun g => absurd (Q84.1 e) (g.2 y List.mem_cons_self)⟩
    | false =>
      rw [cond_false, List.mem_cons, ih]
      refine ⟨fun g => g.elim (fun g => .inr ⟨g, fun w hw hn => ?_⟩) .inl, fun g => g.elim .inr fun g => .inl g.1⟩
      have e := Qib.1 e
      rcases List.mem_cons.1 hw with rfl | hw
      · exact e hn
      · have h1 := (List.pairwise_cons.1 h'.2).1 w hw
        have h2 := h'.1 y List.mem_cons_self
        unfold le cNm at h1 h2
        rw [hn] at h1
        rcases Q6k x.name y.name with g | g | g
        · exact h1 g
        · exact e g.symm
        · exact h2 g
theorem Q6r : ∀ (l : List Fld), (lasts l).Sublist l
  | [] => List.Sublist.slnil
  | [x] => List.Sublist.refl _
  | x :: y :: r => by
    rw [lasts]
    cases sEq y.name x.name with
    | true => exact (Q6r (y :: r)).cons x
    | false => exact (Q6r (y :: r)).cons_cons x
theorem Qrg (l : List Fld) (h : Up cNm l) : SS (lasts l) := by
  induction l with
  | nil => exact SS.nil
  | cons x l ih =>
    cases l with
    | nil => exact SS.cons.2 ⟨fun _ g => (by cases g), SS.nil⟩
    | cons y r =>
      have h' := List.pairwise_cons.1 h
      rw [lasts]
      cases e : sEq y.name x.name with
      | true => exact ih h'.2
      | false =>
        rw [cond_false]
        refine SS.cons.2 ⟨fun w hw => ?_, ih h'.2⟩
        have e := Qib.1 e
        have h2 := h'.1 y List.mem_cons_self
        unfold le cNm at h2
        have hxy : sCmp x.name y.name < 0 := by
          rcases Q6k x.name y.name with g | g | g
          · exact g
          · exact absurd g.symm e
          · exact absurd g h2
        rcases List.mem_cons.1 ((Q6r _).mem hw) with rfl | hw
        · exact hxy
        · have h1 := (List.pairwise_cons.1 h'.2).1 w hw
          unfold le cNm at h1
          unfold nlt
          rcases Q6k y.name w.name with g | g | g
          · exact Qjl hxy g
          · rw [← g]; exact hxy
          · exact absurd g h1
theorem Qup (x y : Fld) : Srt.eqv cNm x y = decide (y.name = x.name) := by
  unfold Srt.eqv cNm
  have h1 : (y.name = x.name) ↔ (¬ sCmp x.name y.name < 0 ∧ ¬ sCmp y.name x.name < 0) := by
    constructor
    · intro e; rw [e, Q31]; omega
    · intro ⟨g1, g2⟩
      rcases Q6k x.name y.name with g | g | g
      · exact absurd g g1
      · exact g.symm
      · exact absurd g g2
  rw [← Bool.decide_and]
  exact decide_eq_decide.2 h1.symm
theorem Qrj {l r : List Fld} (h : F cNm l r) (f : Fld) : lastOf l f ↔ lastOf r f := by
  have := h.2 f
  unfold lastOf
  rw [show (fun y : Fld => decide (y.name = f.name)) = Srt.eqv cNm f from funext fun y => (Qup f y).symm, this]
def mapOf (l : List Fld) : List Fld := lasts (Q6c cNm l)
theorem Q95 (l : List Fld) : SS (mapOf l) := Qrg _ (Q7d (Q5g Fld.name) l)
theorem Q6l (l : List Fld) (f : Fld) : f ∈ mapOf l ↔ lastOf l f := by
  unfold mapOf
  rw [Qj4 _ (Q7d (Q5g Fld.name) l)]
  exact (Qrj (Q9i (Q5g Fld.name) l) f).symm
theorem Qk4 {l : List Fld} (h : SS l) : mapOf l = l := Qqm (Q95 l) h fun f => by rw [Q6l, Qqn h]
theorem Qs6 {l r : List Fld} (h : SS r) (g : ∀ f, f ∈ r ↔ lastOf l f) : mapOf l = r := Qqm (Q95 l) h fun f => by rw [Q6l, g]
theorem Qia {α : Type} (c : α → α → Int) (T : Tot c) (l : List α) : (Q6c c l).length = l.length := (Q9i T l).1.symm
theorem Qr5 (l : List Fld) : (mapOf l).length ≤ l.length := Nat.le_trans (Q6r _).length_le (Nat.le_of_eq (Qia _ (Q5g Fld.name) l))
theorem Qiv {l : List Fld} {f : Fld} (h : f ∈ mapOf l) : f ∈ l := Qnl ((Q6l l f).1 h)
def insF (x : Fld) : List Fld → List Fld
  | [] => [x]
  | y :: r => if sCmp y.name x.name < 0 then y :: insF x r else if y.name = x.name then x :: r else x :: y :: r
theorem Qft {x : Fld} : ∀ {l : List Fld}, SS l → ∀ f, f ∈ insF x l ↔ f = x ∨ (f ∈ l ∧ f.name ≠ x.name)
  | [], _, f => by simp [insF]
  | y :: r, h, f => by
    obtain ⟨hy, hr⟩ := SS.cons.1 h
    rw [insF]
    split
    · rename_i c
      rw [List.mem_cons, Qft hr, List.mem_cons]
      have : y.name ≠ x.name := fun e => by rw [e, Q31] at c; omega
      exact ⟨fun g => by
        rcases g with g | g | g
        · subst g; exact .inr ⟨.inl rfl, this⟩
        · exact .inl g
        · exact .inr ⟨.inr g.1, g.2⟩, fun g => by
        rcases g with g | ⟨g | g, g'⟩
        · exact .inr (.inl g)
        · exact .inl g
        · exact .inr (.inr ⟨g, g'⟩)⟩
    · rename_i c
      have ge : ∀ w ∈ r, w.name ≠ x.name := fun w hw e => by
        have := hy w hw
        unfold nlt at this
        rw [e] at this
        exact c this
      split
      · rename_i e
        rw [List.mem_cons, List.mem_cons]
        exact ⟨fun g => g.elim .inl fun g => .inr ⟨.inr g, ge f g⟩, fun g => g.elim .inl fun g => g.1.elim (fun g1 => by subst g1; exact absurd e g.2) .inr⟩
      · rename_i e
        rw [List.mem_cons, List.mem_cons]
        exact ⟨fun g => by
          rcases g with g | g | g
          · exact .inl g
          · subst g; exact .inr ⟨.inl rfl, e⟩
          · exact .inr ⟨.inr g, ge f g⟩, fun g => g.elim .inl fun g => .inr g.1⟩
theorem Qju {x : Fld} : ∀ {l : List Fld}, SS l → SS (insF x l)
  | [], _ => SS.cons.2 ⟨fun _ g => (by cases g), SS.nil⟩
  | y :: r, h => by
    obtain ⟨hy, hr⟩ := SS.cons.1 h
    rw [insF]
    split
    · rename_i c
      exact SS.cons.2 ⟨fun w hw => by
        rcases (Qft hr w).1 hw with g | g
        · rw [g]; exact c
        · exact hy w g.1, Qju hr⟩
    · rename_i c
      split
      · rename_i e
        exact SS.cons.2 ⟨fun w hw => by have := hy w hw; unfold nlt at this ⊢; rw [← e]; exact this, hr⟩
      · rename_i e
        have g : sCmp x.name y.name < 0 := by
          rcases Q6k x.name y.name with g | g | g
          · exact g
          · exact absurd g.symm e
          · exact absurd g c
        exact SS.cons.2 ⟨fun w hw => by
          rcases List.mem_cons.1 hw with e | hw
          · subst e; exact g
          · exact Qjl g (hy w hw), h⟩
theorem Qnk (l : List Fld) (x : Fld) : mapOf (l ++ [x]) = insF x (mapOf l) :=
  Qs6 (Qju (Q95 l)) fun f => by rw [Qft (Q95 l), Q6l, Qjr]
theorem Qq9 : mapOf [] = [] := Qk4 SS.nil
theorem Q9x : ∀ (l p : List Fld), l.foldl (fun a x => insF x a) (mapOf p) = mapOf (p ++ l)
  | [], p => by simp
  | x :: l, p => by
    rw [List.foldl_cons, ← Qnk, Q9x l]
    simp
end Go.Pv
end

section
/- Building lists and maps, in plain words. -/
namespace Go.Proofs.Ytedohmdgbilicaa
open Go.Pv Go.Pv.Srt
theorem vind {P : Val → Prop} (h : ∀ v : Val, (∀ x ∈ v.list, P x) → (∀ f ∈ v.fields, P f.v) → P v) : ∀ v, P v := by
  have key : ∀ (k : Nat) (v : Val), SizeOf.sizeOf v < k → P v := by
    intro k
    induction k with
    | zero => intro v hv; exact absurd hv (Nat.not_lt_zero _)
    | succ k ih => intro v hv; exact h v (fun x hx => ih x (by have := szM hx; omega)) (fun f hf => ih f.v (by have := szN hf; omega))
  exact fun v => key _ v (Nat.lt_succ_self _)
theorem Qkx (p : Val) (d : Int) : ∀ (l : List Val) (i : Nat) (a : Int), a ≤ 400 → (∀ x ∈ l, ∀ n d, n ≤ 400 → 0 ≤ s_Ks x n d → s_Ks x n d < n ∧ Val.Sm 400 x) → 0 ≤ Q25 p d l i a → Q25 p d l i a + l.length ≤ a ∧ ∀ x ∈ l, Val.Sm 400 x
  | [], i, a, _, _, h => by
    rw [Q25] at h ⊢
    exact ⟨by simp, fun _ g => by cases g⟩
  | x :: l, i, a, ha, hx, h => by
    rw [Q25] at h ⊢
    by_cases c : 0 ≤ a
    · rw [show decide (0 ≤ a) = true by simpa using c, cond_true] at h ⊢
      have key : 0 ≤ s_Ks x a (w64 (d - 1)) := by
        apply Decidable.byContradiction
        intro hn
        have e : ∀ (l : List Val) (i : Nat) (a : Int), ¬ 0 ≤ a → Q25 p d l i a = a := fun l i a hn => by
          cases l with
          | nil => rw [Q25]
          | cons y r => rw [Q25, show decide (0 ≤ a) = false by simpa using hn, cond_false]
        rw [e _ _ _ hn] at h
        exact hn h
      obtain ⟨h1, h2⟩ := hx x List.mem_cons_self a _ ha key
      obtain ⟨h3, h4⟩ := Qkx p d l (i + 1) _ (by omega) (fun y hy => hx y (List.mem_cons_of_mem _ hy)) h
      refine ⟨by rw [List.length_cons]; omega, fun y hy => ?_⟩
      rcases List.mem_cons.1 hy with e | hy
      · rw [e]; exact h2
      · exact h4 y hy
    · rw [show decide (0 ≤ a) = false by simpa using c, cond_false] at h
      exact absurd h c
def kC : Qkj → Int | .k0 y => y | .k1 => -1
theorem Qlp (p : Val) (d : Int) : ∀ (l : List Fld) (i : Nat) (a : Int), a ≤ 400 → (∀ x ∈ l, ∀ n d, n ≤ 400 → 0 ≤ s_Ks x.v n d → s_Ks x.v n d < n ∧ Val.Sm 400 x.v) → 0 ≤ kC (Q21 p d l i a) → kC (Q21 p d l i a) + l.length ≤ a ∧ ∀ x ∈ l, Val.Sm 400 x.v
  | [], i, a, _, _, h => by
    rw [Q21] at h ⊢
    exact ⟨by simp [kC], fun _ g => by cases g⟩
  | x :: l, i, a, ha, hx, h => by
    rw [Q21] at h ⊢
    by_cases c : 0 ≤ a
    · rw [show decide (0 ≤ a) = true by simpa using c, cond_true] at h ⊢
      cases hs : decide (1000 < (ByteArray.size x.name : Int)) with
      | true => rw [hs, cond_true] at h; exact absurd h (by simp [kC])
      | false =>
        rw [hs, cond_false] at h
        rw [cond_false]
        have key : 0 ≤ s_Ks x.v a (w64 (d - 1)) := by
          apply Decidable.byContradiction
          intro hn
          have e : ∀ (l : List Fld) (i : Nat) (a : Int), ¬ 0 ≤ a → kC (Q21 p d l i a) = a := fun l i a hn => by
            cases l with
            | nil => rw [Q21]; rfl
            | cons y r => rw [Q21, show decide (0 ≤ a) = false by simpa using hn, cond_false]; rfl
          rw [e _ _ _ hn] at h
          exact hn h
        obtain ⟨h1, h2⟩ := hx x List.mem_cons_self a _ ha key
        obtain ⟨h3, h4⟩ := Qlp p d l (i + 1) _ (by omega) (fun y hy => hx y (List.mem_cons_of_mem _ hy)) h
        refine ⟨by rw [List.length_cons]; omega, fun y hy => ?_⟩
        rcases List.mem_cons.1 hy with e | hy
        · rw [e]; exact h2
        · exact h4 y hy
    · rw [show decide (0 ≤ a) = false by simpa using c, cond_false] at h
      exact absurd h c
theorem Qrl : ∀ v : Val, ∀ n d, n ≤ 400 → 0 ≤ s_Ks v n d → s_Ks v n d < n ∧ Val.Sm 400 v := vind fun v h1 h2 n d hn h => by
  rw [s_Ks] at h ⊢
  cases a1 : decide (n ≤ 0) with
  | true => rw [a1] at h; exact absurd h (by simp)
  | false =>
    rw [a1, cond_false] at h
    rw [cond_false]
    cases a2 : decide (d ≤ 0) with
    | true => rw [a2] at h; exact absurd h (by simp)
    | false =>
      rw [a2, cond_false] at h
      rw [cond_false]
      cases a3 : decide (1000 < (ByteArray.size v.s : Int)) with
      | true => rw [a3] at h; exact absurd h (by simp)
      | false =>
        rw [a3, cond_false] at h
        rw [cond_false]
        have hp : 0 < n := by simpa using a1
        rw [Ql4 (by omega)] at h ⊢
        change 0 ≤ kC (Q21 v d v.fields 0 (Q25 v d v.list 0 (n - 1))) at h
        change kC (Q21 v d v.fields 0 (Q25 v d v.list 0 (n - 1))) < n ∧ _
        have hb : 0 ≤ Q25 v d v.list 0 (n - 1) := by
          apply Decidable.byContradiction
          intro hn'
          have e : ∀ (l : List Fld) (i : Nat) (a : Int), ¬ 0 ≤ a → kC (Q21 v d l i a) = a := fun l i a hn => by
            cases l with
            | nil => rw [Q21]; rfl
            | cons y r => rw [Q21, show decide (0 ≤ a) = false by simpa using hn, cond_false]; rfl
          rw [e _ _ _ hn'] at h
          exact hn' h
        obtain ⟨g1, g2⟩ := Qkx v d v.list 0 (n - 1) (by omega) (fun x hx => h1 x hx) hb
        obtain ⟨g3, g4⟩ := Qlp v d v.fields 0 _ (by omega) (fun x hx => h2 x hx) h
        exact ⟨by omega, .mk v (by omega) (by omega) g2 g4⟩
theorem Qrv {v : Val} (h : s_Ka v = true) : Val.Sm 400 v := by
  have h : decide (0 ≤ s_Ks v 400 400) = true := h
  exact (Qrl v 400 400 (by omega) (of_decide_eq_true h)).2
theorem Val.eta (v : Val) : Val.mk v.kind v.n v.s v.list v.fields = v := by cases v; rfl
theorem Fld.eta (f : Fld) : Fld.mk f.name f.v = f := by cases f; rfl
theorem Q85 (p : List Fld) : (Q6c cNm p).length = p.length := Qia _ (Q5g Fld.name) p
theorem Qom : ∀ v : Val, s_Kd v = v := vind fun v h1 h2 => by
  have e1 : ∀ (l : List Val), (∀ x ∈ l, s_Kd x = x) → ∀ (i : Nat) (a : List Val), Q1u v l i a = a ++ l := by
    intro l
    induction l with
    | nil => intro _ i a; rw [Q1u]; simp
    | cons x l ih => intro hx i a; rw [Q1u, ih (fun y hy => hx y (List.mem_cons_of_mem _ hy)), hx x List.mem_cons_self]; simp
  have e2 : ∀ (l : List Fld), (∀ x ∈ l, s_Kd x.v = x.v) → ∀ (i : Nat) (a : List Fld), Q3p v l i a = a ++ l := by
    intro l
    induction l with
    | nil => intro _ i a; rw [Q3p]; simp
    | cons x l ih => intro hx i a; rw [Q3p, ih (fun y hy => hx y (List.mem_cons_of_mem _ hy)), hx x List.mem_cons_self, Fld.eta]; simp
  rw [s_Kd, e1 _ h1, e2 _ h2, List.nil_append, List.nil_append, Val.eta]
theorem Qux : s_Kt false false = 0 := rfl
theorem Ql0 (s : ByteArray) : s_Kt (sLt s s) (!(sLt s s || sEq s s)) = 0 := by
  have h : sLt s s = false := by rw [Qg5, Q31]; rfl
  rw [h, Q84.2 rfl]
  rfl
theorem Qqz : ∀ v : Val, s_Kc v v = 0 := vind fun v h1 h2 => by
  have e1 : ∀ (l : List Val) (i : Nat), v.list.drop i = l → Qt v v l i 0 = 0 := by
    intro l
    induction l with
    | nil => intro i _; rw [Qt]
    | cons x l ih =>
      intro i hd
      obtain ⟨hx, hi, hd'⟩ := Q1s hd
      rw [Qt, show decide ((i : Int) < (List.length v.list : Int)) = true by simpa using hi, cond_true, show ((0 : Int) == 0) = true from rfl, cond_true, List.getD_eq_getElem?_getD, hx, Option.getD_some, h1 x (Q2l hx), ih _ hd']
  have e2 : ∀ (l : List Fld) (i : Nat), v.fields.drop i = l → Qx v v l i 0 = 0 := by
    intro l
    induction l with
    | nil => intro i _; rw [Qx]
    | cons x l ih =>
      intro i hd
      obtain ⟨hx, hi, hd'⟩ := Q1s hd
      rw [Qx, show decide ((i : Int) < (List.length v.fields : Int)) = true by simpa using hi, cond_true, show ((0 : Int) == 0) = true from rfl, cond_true, List.getD_eq_getElem?_getD, hx, Option.getD_some, Ql0, show ((0 : Int) == 0) = true from rfl, cond_true, h2 x (Q2l hx), ih _ hd']
  have lt : ∀ a : Int, decide (a < a) = false := fun a => decide_eq_false (Int.lt_irrefl a)
  have z : ((0 : Int) == 0) = true := rfl
  rw [s_Kc, lt, lt, lt, lt, Qux, z, cond_true, cond_true, Ql0, e1 v.list 0 rfl, z, cond_true, e2 v.fields 0 rfl, z, cond_true]
theorem Q3o (v : Val) : s_Kf v v = true := by
  unfold s_Kf
  rw [Qqz]
  rfl
theorem map1 : Q1m = cNm := rfl
theorem Qfd (l : List Fld) : Qh l.length l = Q6c cNm l := by
  have := Qmr (by rw [map1]; exact Q5g Fld.name) l
  rwa [map1] at this
theorem Qou (p : List Fld) : ∀ (r : List Fld) (i : Nat) (a : List Fld), (Q6c cNm p).drop i = r → Q1z p r i a = a ++ lasts r
  | [], i, a, _ => by rw [Q1z, lasts]; simp
  | [x], i, a, hd => by
    have hl := Q85 p
    have h := congrArg List.length hd
    rw [List.length_drop, List.length_singleton] at h
    rw [Q1z, show (((i + 1 : Nat) : Int) == (List.length p : Int)) = true by simp; omega, cond_true, Q1z]
    rfl
  | x :: y :: r, i, a, hd => by
    have hl := Q85 p
    have h := congrArg List.length hd
    rw [List.length_drop, List.length_cons, List.length_cons] at h
    obtain ⟨_, _, hd'⟩ := Q1s hd
    obtain ⟨hy, _, _⟩ := Q1s hd'
    rw [Q1z, show (((i + 1 : Nat) : Int) == (List.length p : Int)) = false by simp; omega, cond_false, Qfd, Int.toNat_natCast, List.getD_eq_getElem?_getD, hy, Option.getD_some, lasts]
    cases sEq y.name x.name with
    | true => rw [cond_true, cond_true, Qou p (y :: r) (i + 1) a hd']
    | false => rw [cond_false, cond_false, Qou p (y :: r) (i + 1) _ hd']; simp
theorem Qas (p : List Fld) : Q1z p (Qh p.length p) 0 [] = mapOf p := by
  rw [Qou p _ 0 [] (by rw [Qfd]; rfl), Qfd]
  rfl
theorem vmap (p : List Fld) : Qd p = .mk 5 0 ⟨#[]⟩ [] (mapOf p) := by
  unfold Qd
  rw [Qas]
theorem Q6s (p : List Fld) (f : Fld) : ∀ (l : List Fld) (i : Nat) (a : List Fld), Qy p f l i a true = (a ++ l.filter (fun y => !sEq y.name f.name), true)
  | [], i, a => by rw [Qy]; simp
  | x :: l, i, a => by
    rw [Qy, show (true == true) = true from rfl, cond_true, List.filter_cons]
    cases sEq x.name f.name with
    | true => rw [cond_true, Q6s]; rfl
    | false => rw [cond_false, Q6s]; simp
theorem Qsc (p : List Fld) (f : Fld) : ∀ (l : List Fld) (i : Nat) (a : List Fld), SS l → (bif (Qy p f l i a false).2 then (Qy p f l i a false).1 else (Qy p f l i a false).1 ++ [f]) = a ++ insF f l
  | [], i, a, _ => by rw [Qy]; rfl
  | x :: l, i, a, h => by
    obtain ⟨hx, hl⟩ := SS.cons.1 h
    have gt : ¬ sCmp x.name f.name < 0 → l.filter (fun y => !sEq y.name f.name) = l := fun c => List.filter_eq_self.2 fun y hy => by
      have g := hx y hy
      unfold nlt at g
      have : sEq y.name f.name = false := Qib.2 fun e => c (by rw [← e]; exact g)
      rw [this]
      rfl
    rw [Qy, show (false == true) = false from rfl, cond_false, Qss, Qg5, insF]
    by_cases c : sCmp x.name f.name < 0
    · have ne : sEq x.name f.name = false := Qib.2 fun e => by rw [e, Q31] at c; omega
      rw [show (!decide (sCmp x.name f.name < 0)) = false by simp [c], cond_false, ne, cond_false, Qsc p f l _ _ hl, if_pos c]
      simp
    · rw [show (!decide (sCmp x.name f.name < 0)) = true by simp [c], cond_true, if_neg c]
      cases e : sEq x.name f.name with
      | true => rw [cond_true, Q6s, if_pos (Q84.1 e), gt c]; simp
      | false => rw [cond_false, Q6s, if_neg (Qib.1 e), gt c]; simp
theorem put_eq {l : List Fld} (h : SS l) (f : Fld) : s_Kv l f = insF f l := by
  have := Qsc l f l 0 [] h
  exact this
theorem Qp2 (p : List Fld) : ∀ (l : List Fld) (i : Nat) (v : Val), SS v.fields → Q5d p l i v = .mk v.kind v.n v.s v.list (l.foldl (fun a x => insF x a) v.fields)
  | [], i, v, _ => by rw [Q5d]; exact (Val.eta v).symm
  | x :: l, i, v, h => by
    rw [Q5d, put_eq h, Qom, Fld.eta, Qp2 p l (i + 1) (.mk v.kind v.n v.s v.list (insF x v.fields)) (Qju h)]
    rfl
theorem rmap (p : List Fld) : s_Kj p = .mk 5 0 ⟨#[]⟩ [] (mapOf p) := by
  unfold s_Kj
  rw [Qp2 p p 0 (.mk 5 0 ⟨#[]⟩ [] []) SS.nil]
  have := Q9x p []
  rw [Qq9, List.nil_append] at this
  exact congrArg (Val.mk 5 0 ⟨#[]⟩ []) this
abbrev mp (l : List Fld) : Val := .mk 5 0 ⟨#[]⟩ [] (mapOf l)
theorem Qtn {B : Nat} {l : List Fld} (hl : l.length ≤ B) (h : ∀ f ∈ l, Val.Sm B f.v) : Val.Sm B (mp l) :=
  .mk _ (Nat.zero_le _) (Nat.le_trans (Qr5 l) hl) (fun _ g => by cases g) fun f hf => h f (Qiv hf)
theorem Qwa {l : List Fld} (hl : l.length ≤ 1000) (h : ∀ f ∈ l, Val.Sm 1000 f.v) : Qqe l := by
  refine ⟨by omega, by omega, ⟨?_, trivial⟩, ?_, trivial⟩
  · rw [Qfd, Q85]
    omega
  · rw [Qas]
    exact Qtn hl h
theorem Q7q (p : List Fld) (f : Fld) : ∀ (l : List Fld) (i : Nat) (a : List Fld) (d : Bool), (Qy p f l i a d).1.length + (bif (Qy p f l i a d).2 then 0 else 1) ≤ a.length + l.length + (bif d then 0 else 1)
  | [], i, a, d => by rw [Qy]; simp
  | x :: l, i, a, true => by
    rw [Q6s]
    have := List.length_filter_le (fun y : Fld => !sEq y.name f.name) (x :: l)
    simp only [List.length_append, cond_true]
    omega
  | x :: l, i, a, false => by
    have h1 := Q7q p f l (i + 1) (a ++ [f]) true
    have h2 := Q7q p f l (i + 1) ((a ++ [f]) ++ [x]) true
    have h3 := Q7q p f l (i + 1) a false
    have h4 := Q7q p f l (i + 1) (a ++ [x]) false
    rw [Qy, show (false == true) = false from rfl, cond_false]
    simp only [List.length_append, List.length_cons, List.length_nil, cond_true, cond_false] at h1 h2 h3 h4 ⊢
    cases sLt f.name x.name || sEq f.name x.name <;> cases sEq x.name f.name <;> simp only [cond_true, cond_false] <;> omega
theorem Qw3 {l : List Fld} (hl : l.length ≤ 1000) (h : ∀ f ∈ l, Val.Sm 1000 f.v) : H_Kj l := by
  refine ⟨⟨by omega, fun x hx => h x hx, fun i v x hx hv => ?_, fun i v x hx hv => ?_, trivial⟩, by simp [Val.fields], trivial⟩
  · have hi := (List.getElem?_eq_some_iff.1 hx).1
    refine ⟨⟨by omega, trivial⟩, fun _ => ?_, trivial⟩
    have := Q7q v.fields (.mk x.name (s_Kd x.v)) v.fields 0 [] false
    simp only [List.length_nil, cond_false] at this
    omega
  · have := Q7q v.fields (.mk x.name (s_Kd x.v)) v.fields 0 [] false
    change (s_Kv v.fields (.mk x.name (s_Kd x.v))).length ≤ i + 1
    unfold s_Kv
    cases e : (Qy v.fields (.mk x.name (s_Kd x.v)) v.fields 0 [] false).2 <;> rw [e] at this <;> simp only [List.length_nil, cond_false, cond_true, List.length_append, List.length_cons] at this ⊢ <;> omega
theorem Heq {v : Val} {B : Nat} (h : Val.Sm B v) (hB : B ≤ 4611686018427387904) (w : Val) : H_Kf v w := ⟨h.mono hB, trivial⟩
theorem Qlk (p : List Val) : ∀ (l : List Val) (i : Nat) (a : List Val), Q3j p l i a = a ++ l
  | [], i, a => by rw [Q3j]; simp
  | x :: l, i, a => by rw [Q3j, Qlk p l, Qom]; simp
theorem Qwi (p : List Val) : s_Ki p = .mk 4 0 ⟨#[]⟩ p [] := by
  unfold s_Ki
  rw [Qlk]
  rfl
theorem Qvr (p : List Val) : Qg p = .mk 4 0 ⟨#[]⟩ p [] := rfl
theorem Qpw (p0 : List Val) (p1 : List Fld) (p2 : Int) (p3 : ByteArray) (p4 : Bool) : Qbp p0 p1 p2 p3 p4 := by
  refine ⟨?_, ?_, ?_, ?_, ?_, ?_, trivial⟩ <;> intro v i h0 h1 h2 _ _ _ h6 <;> have h6 := of_decide_eq_true h6 <;> first | omega | (rw [List.length_set]; exact h1)
theorem Qpk (p0 : List Val) (p1 : List Fld) (p2 : Int) (p3 : ByteArray) (p4 : Bool) : Qbk p0 p1 p2 p3 p4 := by
  have nm : ∀ (v : List Fld) (i : Int), 0 ≤ i → List.length v ≤ 1000 → (∀ f ∈ v, ((ByteArray.size f.name : Nat) : Int) ≤ 5000000000000000000 + i) → (ByteArray.size (List.getD v (Int.toNat i) zF).name = 0 ∨ ((ByteArray.size (List.getD v (Int.toNat i) zF).name : Nat) : Int) ≤ 5000000000000000000 + i ∧ i < 1000) := fun v i h0 h1 hn => by
    by_cases c : Int.toNat i < v.length
    · rw [List.getD_eq_getElem?_getD, List.getElem?_eq_getElem c]
      exact .inr ⟨hn _ (List.getElem_mem c), by omega⟩
    · rw [List.getD_eq_getElem?_getD, List.getElem?_eq_none (by omega)]
      exact .inl rfl
  have sx : ByteArray.size (⟨#[120]⟩ : ByteArray) = 1 := rfl
  refine ⟨?_, ?_, ?_, ?_, ?_, ?_, ?_, ?_, trivial⟩
  · intro v i h0 h1 h2 _ _ h6; exact h0
  · intro v i h0 h1 h2 _ _ h6; exact of_decide_eq_true h6
  · intro v i h0 h1 h2 _ h5 h6; have := of_decide_eq_true h6; omega
  · intro v i h0 h1 h2 _ _; rw [sx]; have := nm v i h0 h1 h2; omega
  · intro v i h0 h1 h2 _ h5 h6; have := of_decide_eq_true h6; omega
  · intro v i h0 h1 h2 _ _ h6; omega
  · intro v i h0 h1 h2 _ _ h6; rw [List.length_set]; exact h1
  · intro v i h0 h1 h2 _ _ h6 f hf
    rcases List.mem_or_eq_of_mem_set hf with h | h
    · have := h2 f h; omega
    · have := nm v i h0 h1 h2
      rw [h]
      show ((ByteArray.size (_ ++ (⟨#[120]⟩ : ByteArray)) : Nat) : Int) ≤ _
      rw [ByteArray.size_append, sx]
      omega
theorem builds_holds (l : List Val) (f : List Fld) (n : Int) (s : ByteArray) (b : Bool) (hl : okL 80 Q36 l) (hf : okL 96 Qh9 f) : H_K3 l f n s b ∧ s_K3 l f n s b = true := by
  have hlen := hl.1
  have flen := hf.1
  have sm : Val.Sm 4611686018427387904 (.mk 0 0 ⟨#[]⟩ l f) := .mk _ (by show l.length ≤ _; omega) (by show f.length ≤ _; omega) (fun x hx => (hl.2 x hx).sm) (fun x hx => (hf.2 x hx).2.sm)
  have key : s_Ka (.mk 0 0 ⟨#[]⟩ l f) = true → l.length ≤ 400 ∧ f.length ≤ 400 ∧ (∀ x ∈ l, Val.Sm 1000 x) ∧ (∀ x ∈ f, Val.Sm 1000 x.v) := fun h => by
    obtain ⟨a, b, c, d⟩ := (Qrv h).all
    exact ⟨a, b, fun x hx => (c x hx).mono (by omega), fun x hx => (d x hx).mono (by omega)⟩
  have sl : s_Ka (.mk 0 0 ⟨#[]⟩ l f) = true → Val.Sm 1000 (.mk 4 0 ⟨#[]⟩ l []) := fun h => .mk _ (by have := (key h).1; show l.length ≤ _; omega) (Nat.zero_le _) (key h).2.2.1 (fun _ g => by cases g)
  have sf : s_Ka (.mk 0 0 ⟨#[]⟩ l f) = true → Val.Sm 1000 (mp f) := fun h => Qtn (by have := (key h).2.1; omega) (key h).2.2.2
  have hL : s_Ka (.mk 0 0 ⟨#[]⟩ l f) = true → Qrc l := fun h => ⟨sl h, trivial⟩
  have hM : s_Ka (.mk 0 0 ⟨#[]⟩ l f) = true → Qqe f := fun h => Qwa (by have := (key h).2.1; omega) (key h).2.2.2
  have hrM : s_Ka (.mk 0 0 ⟨#[]⟩ l f) = true → H_Kj f := fun h => Qw3 (by have := (key h).2.1; omega) (key h).2.2.2
  have hrL : s_Ka (.mk 0 0 ⟨#[]⟩ l f) = true → H_Ki l := fun h => ⟨⟨by have := (key h).1; omega, (key h).2.2.1, trivial⟩, trivial⟩
  have eL : s_Ka (.mk 0 0 ⟨#[]⟩ l f) = true → H_Kf (Qg l) (s_Ki l) := fun h => Heq (sl h) (by omega) _
  have eM : s_Ka (.mk 0 0 ⟨#[]⟩ l f) = true → H_Kf (Qd f) (s_Kj f) := fun h => by rw [vmap]; exact Heq (sf h) (by omega) _
  have none (v : Val) (h : v.list = []) (h' : v.fields = []) : Val.Sm 1000 v := .mk v (by rw [h]; exact Nat.zero_le _) (by rw [h']; exact Nat.zero_le _) (fun x hx => by rw [h] at hx; cases hx) (fun x hx => by rw [h'] at hx; cases hx)
  have lb : s_Ka (.mk 0 0 ⟨#[]⟩ l f) = true → List.length (Qg l).list ≤ 1000 := fun h => (sl h).all.1
  have fb : s_Ka (.mk 0 0 ⟨#[]⟩ l f) = true → List.length (Qd f).fields ≤ 1000 := fun h => by rw [vmap]; exact (sf h).all.2.1
  have nb : ∀ x ∈ (Qd f).fields, ((ByteArray.size x.name : Nat) : Int) ≤ 5000000000000000000 + 0 := fun x hx => by
    rw [vmap] at hx
    have := (hf.2 x (Qiv hx)).1
    unfold okS at this
    omega
  have eB : Qfv b = s_Kb b := by cases b <;> rfl
  refine ⟨⟨fun _ _ => ⟨⟨sm, trivial⟩, trivial⟩, fun _ _ h => hL h, fun _ _ h => hM h, fun _ _ h => hrL h, fun _ _ h => eL h, fun _ _ h _ => hrM h, fun _ _ h _ => eM h, fun _ _ _ _ _ => Qpw l f n s b, fun _ _ _ _ _ => Int.le_refl _, fun _ _ h _ _ => lb h, fun _ _ _ _ _ => Qpk l f n s b, fun _ _ h _ _ => fb h, fun _ _ _ _ _ => nb, fun _ _ h _ _ => hL h, fun _ _ h _ _ => hrL h, fun _ _ h _ _ => eL h, fun _ _ h _ _ => hM h, fun _ _ h _ _ => hrM h, fun _ _ h _ _ => eM h, fun _ _ _ _ _ => Heq (none _ rfl rfl) (by omega) _, fun _ _ _ _ _ _ => Heq (none _ rfl rfl) (by omega) _, fun _ _ _ _ _ _ _ => Heq (none _ (by cases b <;> rfl) (by cases b <;> rfl)) (by omega) _, trivial⟩, ?_⟩
  unfold s_K3
  rw [Qvr, Qwi, vmap, rmap, Q3o, Q3o, eB, Q3o, show Q7o n = s_Kh n from rfl, Q3o, show Qc8 s = s_Km s from rfl, Q3o]
  cases decide (40 < (List.length l : Int)) <;> cases decide (40 < (List.length f : Int)) <;> cases s_Ka (.mk 0 0 ⟨#[]⟩ l f) <;> rfl
end Go.Proofs.Ytedohmdgbilicaa
end

section
/- The library's comparison of two strings, walked: it answers as the evaluator's cmpL. -/
namespace Go.Proofs.Ytedohmdgbilicaa
open Go.Pv
theorem cmpL_eq : ∀ (a b : List UInt8), cmpL a b = Lib.compareBytes a b
  | [], [] => rfl
  | [], _ :: _ => rfl
  | _ :: _, [] => rfl
  | a :: x, b :: y => by
    rw [Lib.compareBytes, ← cmpL_eq x y]
    rfl
set_option maxHeartbeats 1000000 in
set_option maxRecDepth 100000 in
theorem comparing (a b : ByteArray) (w : World) :
    Calls Try.prog 62 #[.string a, .string b] w fun e w' => e = .returned (.int .i64 (Lib.compareBytes a.data.toList b.data.toList)) ∧ w' = w := by
  go_enter Try.func62, Try.ntmps62
  go_wp2
  rw [run_callFunc_extern Try.func69 (by kernel_rfl) (by kernel_rfl) (by kernel_rfl) (e := Extern.BytealgCompare.compare) (by kernel_rfl), Lib.run_compareString]
  simp only [Result.andThen]
  rw [Oper.upon_value]
  go_wp2
  go_ret
  exact ⟨rfl, rfl⟩
theorem Qt8 : Qri Try.prog 62 := by
  refine ⟨⟨_, Try.func62, by kernel_rfl, by kernel_rfl⟩, fun x y w => ?_⟩
  have h := comparing x y w
  rw [← cmpL_eq, ← toList_data, ← toList_data] at h
  exact h
end Go.Proofs.Ytedohmdgbilicaa
end

section
/- The table in which a copy's rows are the caller's own is the machine's, too. -/
namespace Go.Proofs.Ytedohmdgbilicaa
open Go.Pv
theorem Qmi : Qb G0 (.call 10 [] []) (.ret (.bool true) []) := ⟨200, by kernel_rfl⟩
theorem Qtr : Q19 Try.prog Try.f48 { Ir.K1p with keep := true } = true := by kernel_rfl
theorem copies : AxOK Try.prog 48 (Qjn 1000) := axK fun v h => by
  have := Qos mixed (tie Qt8) (f := 48) (fn := { Ir.K1p with keep := true }) Try.func48 Qtr (Qvd v h)
  cases v
  simp only [Val.cells, ownV, Val.Q9, Fld.Q9]
  exact this
theorem tieG : Tie Try.prog G := Qpx (Qpx (tie Qt8) (Qw4 mixed (tie Qt8) Qmi)) copies
end Go.Proofs.Ytedohmdgbilicaa
end

