/- Texts of the claim, merged by a program; what the statement does not reach is left out. -/
import Derived.Test.YtimjjohlpnkacaaGreatBWorkcodecDecodes6

section
/- What the reference's encoders compute (printed by a program). -/
namespace Go.Proofs.YtimjjohlpnkacaaGreat
open Go.Pv
abbrev zF : Fld := (Fld.mk eB (Val.mk 0 0 eB [] []))
def Q1b (p0 : List Fld) (i0 : Nat) (ah : List Fld) : Nat → Int → Int
 | 0, bT => bT
 | k1 + 1, bT =>
  bif (decide (bT < ((List.length ah) : Int))) then
   bif (sLt (List.getD ah (Int.toNat bT) zF).name (List.getD p0 i0 zF).name) then
    Q1b p0 i0 ah k1 (bT + 1)
   else
    bT
  else
   bT
def Q1fd (p0 : List Fld) (i0 : Nat) (ah : List Fld) (bT : Int) : List PV :=
  [.sl (Fld.rows p0), .un, .bx 0 0, .ms 1 6 0 (List.length ah), iN (i0 : Int), iN bT] ++ nuns 46
def Qzl (_p0 : List Fld) (_i0 : Nat) (ah : List Fld) (_bT : Int) : List Ob :=
  [⟨5, 0, true, [iN 0, iN 0, .str eB, .ms 2 5 0 0, .ms 3 6 0 0]⟩, ⟨6, 0, true, (Fld.rows ah).flatten⟩, ⟨5, 0, true, []⟩, ⟨6, 0, true, []⟩]
def Qa0 (p0 : List Fld) (i0 : Nat) (ah : List Fld) (bT : Int) : En := .loop 0 Ir.Ql7 Ir.Q1ns (Q1fd p0 i0 ah bT) (Qzl p0 i0 ah bT)
def Q9p (p0 : List Fld) (i0 : Nat) (ah : List Fld) (q0 : Int) (z : Nat → PV) (_zo : Nat → List PV) : St :=
  ⟨[.sl (Fld.rows p0), z 1, .bx 0 0, .ms 1 6 0 (List.length ah), iN (i0 : Int), iN q0] ++ zr z 6 46, [(0, ⟨5, 0, true, [iN 0, iN 0, .str eB, .ms 2 5 0 0, .ms 3 6 0 0]⟩), (1, ⟨6, 0, true, (Fld.rows ah).flatten⟩), (2, ⟨5, 0, true, []⟩), (3, ⟨6, 0, true, []⟩)], 1092⟩
theorem Qy0 (p0 : List Fld) (i0 : Nat) (ah : List Fld) (bT : Int) : VOK (Go.Pv.look (number 0 (Qzl p0 i0 ah bT))) [(1, Fld.rows ah)] := (VOK.cons (show Seen _ _ from Q4a (ob := ⟨6, 0, true, (Fld.rows ah).flatten⟩) (Fld.Q8 ah 6 rfl)) VOK.nil)
def Qec (p0 : List Fld) (i0 : Nat) (ah : List Fld) (e : En) (q : Int) : Prop := ∃ z zo, Q0 G e (.st (.exit 2) (Q9p p0 i0 ah q z zo))
theorem Qx0 (p0 : List Fld) (i0 : Nat) (ah : List Fld) {e e' : En} (h : ∀ r, Q0 G e r → Q0 G e' r) : ∀ q, Qec p0 i0 ah e q → Qec p0 i0 ah e' q
  | _, ⟨z, zo, hz⟩ => ⟨z, zo, h _ hz⟩
theorem Q1b6 (p0 : List Fld) (i0 : Nat) (ah : List Fld) (bT : Int) (fB : 0 ≤ bT) (_iE : bT ≤ (List.length ah : Int)) (iF : i0 < List.length p0) (iG : List.length (ah : List Fld) ≤ 137438953472) (h0 : (decide (bT < ((List.length ah) : Int))) = true) (h1 : (sLt (List.getD ah (Int.toNat bT) zF).name (List.getD p0 i0 zF).name) = true) {r : Rs} (hr : Q0 G (Qa0 p0 i0 ah (bT + 1)) r) : Q0 G (Qa0 p0 i0 ah bT) r := by
 have e0 := of_decide_eq_true h0
 exact Qc (Qy0 p0 i0 ah bT) [hB 3 h0, hP 3 (Qb4 1 6 (List.length ah) bT (Int.toNat bT) rfl (by omega) (by omega)), hP 1 (Q1hw 1 6 0 true ((Fld.rows ah).flatten) (Fld.rows ah) 1 false (Int.toNat bT) 0 ((Int.toNat bT) * 6) (Fld.cells (List.getD ah (Int.toNat bT) zF)) (.str (List.getD ah (Int.toNat bT) zF).name) rfl rfl (Fld.Qb (Qb3 ah (Int.toNat bT) zF (by omega))) (Fld.Qw ah) (by decide) rfl), hP 2 (Q1ow 6 (Fld.rows p0) (i0 : Int) _ (by omega) (Fld.Qb (Qb3 p0 (Int.toNat (i0 : Int)) zF (by omega))) rfl), hB 2 h1, hP 2 (w_ok (bT + 1) (by omega))] [] hr (by kernel_rfl)
def Qub (p0 : List Fld) (i0 : Nat) (ah : List Fld) (bT : Int) : List PV :=
  nuns 13 ++ [iN bT, .ms 1 6 0 (List.length ah), iN ((List.length ah) : Int), .bool true, .bool true, .ms 1 6 0 (List.length ah), iN bT, .bx 1 ((Int.toNat bT) * 6), .bx 1 ((Int.toNat bT) * 6), .str (List.getD ah (Int.toNat bT) zF).name, .sl (Fld.rows p0), iN (i0 : Int), .rf [.str (List.getD p0 i0 zF).name, iN (List.getD p0 i0 zF).v.kind, iN (List.getD p0 i0 zF).v.n, .str (List.getD p0 i0 zF).v.s, .sl (Val.rows (List.getD p0 i0 zF).v.list), .sl (Fld.rows (List.getD p0 i0 zF).v.fields)], .rf [.str (List.getD p0 i0 zF).name, iN (List.getD p0 i0 zF).v.kind, iN (List.getD p0 i0 zF).v.n, .str (List.getD p0 i0 zF).v.s, .sl (Val.rows (List.getD p0 i0 zF).v.list), .sl (Fld.rows (List.getD p0 i0 zF).v.fields)], .str (List.getD p0 i0 zF).name, .bool false, .bool false]
def Qmz (_p0 : List Fld) (_i0 : Nat) (_ah : List Fld) (_bT : Int) : List (Nat × List PV) :=
  []
theorem Q1dp (p0 : List Fld) (i0 : Nat) (ah : List Fld) (bT : Int) (fB : 0 ≤ bT) (_iE : bT ≤ (List.length ah : Int)) (iF : i0 < List.length p0) (iG : List.length (ah : List Fld) ≤ 137438953472) (h0 : (decide (bT < ((List.length ah) : Int))) = true) (h1 : (sLt (List.getD ah (Int.toNat bT) zF).name (List.getD p0 i0 zF).name) = false) : Qec p0 i0 ah (Qa0 p0 i0 ah bT) bT := by
 have e0 := of_decide_eq_true h0
 exact ⟨(envF (Qub p0 i0 ah bT)), (zoF (Qmz p0 i0 ah bT)), Qh (Qy0 p0 i0 ah bT) (x := ((.exit 2), Q9p p0 i0 ah bT (envF (Qub p0 i0 ah bT)) (zoF (Qmz p0 i0 ah bT)))) [hB 3 h0, hP 3 (Qb4 1 6 (List.length ah) bT (Int.toNat bT) rfl (by omega) (by omega)), hP 1 (Q1hw 1 6 0 true ((Fld.rows ah).flatten) (Fld.rows ah) 1 false (Int.toNat bT) 0 ((Int.toNat bT) * 6) (Fld.cells (List.getD ah (Int.toNat bT) zF)) (.str (List.getD ah (Int.toNat bT) zF).name) rfl rfl (Fld.Qb (Qb3 ah (Int.toNat bT) zF (by omega))) (Fld.Qw ah) (by decide) rfl), hP 2 (Q1ow 6 (Fld.rows p0) (i0 : Int) _ (by omega) (Fld.Qb (Qb3 p0 (Int.toNat (i0 : Int)) zF (by omega))) rfl), hB 2 h1] [] (by kernel_rfl)⟩
def Quc (_p0 : List Fld) (_i0 : Nat) (ah : List Fld) (bT : Int) : List PV :=
  nuns 13 ++ [iN bT, .ms 1 6 0 (List.length ah), iN ((List.length ah) : Int), .bool false, .bool false, .tup [], .tup [], .tup [], .tup [], .tup [], .tup [], .tup [], .tup [], .tup [], .tup [], .tup [], .bool false]
def Qn0 (_p0 : List Fld) (_i0 : Nat) (_ah : List Fld) (_bT : Int) : List (Nat × List PV) :=
  []
theorem Q1dq (p0 : List Fld) (i0 : Nat) (ah : List Fld) (bT : Int) (_fB : 0 ≤ bT) (_iE : bT ≤ (List.length ah : Int)) (_iF : i0 < List.length p0) (_iG : List.length (ah : List Fld) ≤ 137438953472) (h0 : (decide (bT < ((List.length ah) : Int))) = false) : Qec p0 i0 ah (Qa0 p0 i0 ah bT) bT := by
 exact ⟨(envF (Quc p0 i0 ah bT)), (zoF (Qn0 p0 i0 ah bT)), Qh (Qy0 p0 i0 ah bT) (x := ((.exit 2), Q9p p0 i0 ah bT (envF (Quc p0 i0 ah bT)) (zoF (Qn0 p0 i0 ah bT)))) [hB 3 h0] [] (by kernel_rfl)⟩
theorem Q12k (p0 : List Fld) (i0 : Nat) (ah : List Fld) : ∀ (k1 : Nat) (bT : Int), 0 ≤ bT → bT ≤ (List.length ah : Int) → i0 < List.length p0 → List.length (ah : List Fld) ≤ 137438953472 → Int.toNat ((List.length ah : Int) - bT) < k1 → Qec p0 i0 ah (Qa0 p0 i0 ah bT) (Q1b p0 i0 ah k1 bT)
 | 0, bT, _, _, _, _, hm => absurd hm (Nat.not_lt_zero _)
 | k1 + 1, bT, fB, iE, iF, iG, hm => by
  rw [Q1b]
  cases h0 : (decide (bT < ((List.length ah) : Int))) with
  | true =>
   have e0 := of_decide_eq_true h0
   cases h1 : (sLt (List.getD ah (Int.toNat bT) zF).name (List.getD p0 i0 zF).name) with
   | true =>
    exact Qx0 p0 i0 ah (fun r hr => Q1b6 p0 i0 ah bT fB iE iF iG h0 h1 hr) _ (Q12k p0 i0 ah k1 (bT + 1) (by omega) (by omega) (by omega) (by omega) (by omega))
   | false =>
    exact Q1dp p0 i0 ah bT fB iE iF iG h0 h1
  | false =>
   exact Q1dq p0 i0 ah bT fB iE iF iG h0
theorem Q4j (p0 : List Fld) (i0 : Nat) (ah : List Fld) : ∀ (k1 : Nat) (bT : Int), 0 ≤ bT → bT ≤ (List.length ah : Int) → i0 < List.length p0 → List.length (ah : List Fld) ≤ 137438953472 → Int.toNat ((List.length ah : Int) - bT) < k1 → 0 ≤ (Q1b p0 i0 ah k1 bT) ∧ (Q1b p0 i0 ah k1 bT) ≤ (List.length ah : Int)
 | 0, bT, _, _, _, _, hm => absurd hm (Nat.not_lt_zero _)
 | k1 + 1, bT, fB, iE, iF, iG, hm => by
  rw [Q1b]
  cases h0 : (decide (bT < ((List.length ah) : Int))) with
  | true =>
   have e0 := of_decide_eq_true h0
   cases h1 : (sLt (List.getD ah (Int.toNat bT) zF).name (List.getD p0 i0 zF).name) with
   | true =>
    exact Q4j p0 i0 ah k1 (bT + 1) (by omega) (by omega) (by omega) (by omega) (by omega)
   | false =>
    exact (show 0 ≤ bT ∧ bT ≤ (List.length ah : Int) from ⟨(by omega), (by omega)⟩)
  | false =>
   have e0 := of_decide_eq_false h0
   exact (show 0 ≤ bT ∧ bT ≤ (List.length ah : Int) from ⟨(by omega), (by omega)⟩)
def Q8d (p0 : List Fld) : List Fld → Nat → (List Fld) → List Fld
 | [], _i0, ah =>
  ah
 | x0 :: r0, i0, ah =>
  bif ((Int.toNat (Q1b p0 i0 ah ((Int.toNat ((List.length ah : Int) - 0)) + 1) 0)) == 0) then
   Q8d p0 r0 (i0 + 1) ([x0] ++ (List.take ((List.length ah) - (Int.toNat (Q1b p0 i0 ah ((Int.toNat ((List.length ah : Int) - 0)) + 1) 0))) (List.drop (Int.toNat (Q1b p0 i0 ah ((Int.toNat ((List.length ah : Int) - 0)) + 1) 0)) ah)))
  else
   Q8d p0 r0 (i0 + 1) (((List.take (Int.toNat (Q1b p0 i0 ah ((Int.toNat ((List.length ah : Int) - 0)) + 1) 0)) ah) ++ [x0]) ++ (List.take ((List.length ah) - (Int.toNat (Q1b p0 i0 ah ((Int.toNat ((List.length ah : Int) - 0)) + 1) 0))) (List.drop (Int.toNat (Q1b p0 i0 ah ((Int.toNat ((List.length ah : Int) - 0)) + 1) 0)) ah)))
def Q1fc (p0 : List Fld) (i0 : Nat) (ah : List Fld) : List PV :=
  [.sl (Fld.rows p0), .un, .bx 0 0, .ms 1 6 0 (List.length ah), iN (i0 : Int)] ++ nuns 47
def Qzk (_p0 : List Fld) (_i0 : Nat) (ah : List Fld) : List Ob :=
  [⟨5, 0, true, [iN 0, iN 0, .str eB, .ms 2 5 0 0, .ms 3 6 0 0]⟩, ⟨6, 0, true, (Fld.rows ah).flatten⟩, ⟨5, 0, true, []⟩, ⟨6, 0, true, []⟩]
def Qbf (p0 : List Fld) (i0 : Nat) (ah : List Fld) : En := .loop 0 Ir.Ql6 Ir.Q1nr (Q1fc p0 i0 ah) (Qzk p0 i0 ah)
def Qsa (_p0 : List Fld) (q0 : List Fld) (z : Nat → PV) (_zo : Nat → List PV) : St :=
  ⟨[z 0, z 1, .bx 0 0, .ms 1 6 0 (List.length q0)] ++ zr z 4 48, [(0, ⟨5, 0, true, [iN 0, iN 0, .str eB, .ms 2 5 0 0, .ms 3 6 0 0]⟩), (1, ⟨6, 0, true, (Fld.rows q0).flatten⟩), (2, ⟨5, 0, true, []⟩), (3, ⟨6, 0, true, []⟩)], 260⟩
theorem Qxz (p0 : List Fld) (i0 : Nat) (ah : List Fld) : VOK (Go.Pv.look (number 0 (Qzk p0 i0 ah))) [(1, Fld.rows ah)] := (VOK.cons (show Seen _ _ from Q4a (ob := ⟨6, 0, true, (Fld.rows ah).flatten⟩) (Fld.Q8 ah 6 rfl)) VOK.nil)
def Qj2 (p0 : List Fld) (e : En) (q : List Fld) : Prop := ∃ z zo, Q0 G e (.st (.exit 0) (Qsa p0 q z zo))
theorem Qeb (p0 : List Fld) {e e' : En} (h : ∀ r, Q0 G e r → Q0 G e' r) : ∀ q, Qj2 p0 e q → Qj2 p0 e' q
  | _, ⟨z, zo, hz⟩ => ⟨z, zo, h _ hz⟩
def Qdu (p0 : List Fld) : Prop := (List.length p0 ≤ 137438953472) ∧ (∀ (i0 : Nat) (ah : List Fld) (x0 : Fld), p0[i0]? = some x0 → List.length ah ≤ i0 → List.length (ah : List Fld) ≤ i0 → ((Int.toNat (Q1b p0 i0 ah ((Int.toNat ((List.length ah : Int) - 0)) + 1) 0)) == 0) = false → ((List.length (List.take (Int.toNat (Q1b p0 i0 ah ((Int.toNat ((List.length ah : Int) - 0)) + 1) 0)) ah)) + 1) * 96 ≤ 140737488355328) ∧ (∀ (i0 : Nat) (ah : List Fld) (x0 : Fld), p0[i0]? = some x0 → List.length ah ≤ i0 → List.length (ah : List Fld) ≤ i0 → ((Int.toNat (Q1b p0 i0 ah ((Int.toNat ((List.length ah : Int) - 0)) + 1) 0)) == 0) = true → List.length (([x0] ++ (List.take ((List.length ah) - (Int.toNat (Q1b p0 i0 ah ((Int.toNat ((List.length ah : Int) - 0)) + 1) 0))) (List.drop (Int.toNat (Q1b p0 i0 ah ((Int.toNat ((List.length ah : Int) - 0)) + 1) 0)) ah))) : List Fld) ≤ (i0 + 1)) ∧ (∀ (i0 : Nat) (ah : List Fld) (x0 : Fld), p0[i0]? = some x0 → List.length ah ≤ i0 → List.length (ah : List Fld) ≤ i0 → ((Int.toNat (Q1b p0 i0 ah ((Int.toNat ((List.length ah : Int) - 0)) + 1) 0)) == 0) = false → List.length ((((List.take (Int.toNat (Q1b p0 i0 ah ((Int.toNat ((List.length ah : Int) - 0)) + 1) 0)) ah) ++ [x0]) ++ (List.take ((List.length ah) - (Int.toNat (Q1b p0 i0 ah ((Int.toNat ((List.length ah : Int) - 0)) + 1) 0))) (List.drop (Int.toNat (Q1b p0 i0 ah ((Int.toNat ((List.length ah : Int) - 0)) + 1) 0)) ah))) : List Fld) ≤ (i0 + 1)) ∧ True
def Qu9 (p0 : List Fld) (i0 : Nat) (_ah : List Fld) : List PV :=
  [.sl (Fld.rows p0), .un, .un, .un, iN (i0 : Int), .un, .un, iN (i0 : Int), .sl (Fld.rows p0), iN ((List.length p0) : Int), .bool false]
def Qmy (_p0 : List Fld) (_i0 : Nat) (_ah : List Fld) : List (Nat × List PV) :=
  []
theorem Q1do (p0 : List Fld) (_H : Qdu p0) (i0 : Nat) (ah : List Fld) (_aP : List.length ah ≤ i0) (_dA : List.length (ah : List Fld) ≤ i0) (bC : (decide ((i0 : Int) < ((List.length p0) : Int))) = false) : Qj2 p0 (Qbf p0 i0 ah) ah := by
 exact ⟨(envF (Qu9 p0 i0 ah)), (zoF (Qmy p0 i0 ah)), Qh (Qxz p0 i0 ah) (x := ((.exit 0), Qsa p0 ah (envF (Qu9 p0 i0 ah)) (zoF (Qmy p0 i0 ah)))) [hP 2 (Qs _ _ (Fld.Q5 p0)), hB 0 bC] [] (by kernel_rfl)⟩
theorem Q1b4 (p0 : List Fld) (H : Qdu p0) (x0 : Fld) (i0 : Nat) (ah : List Fld) (bF : p0[i0]? = some x0) (bR : i0 < List.length p0) (aP : List.length ah ≤ i0) (_dA : List.length (ah : List Fld) ≤ i0) (bC : (decide ((i0 : Int) < ((List.length p0) : Int))) = true) (z0 : Nat → PV) (fA : Nat → List PV) (hl0 : Q0 G (Qa0 p0 i0 ah 0) (.st (.exit 2) (Q9p p0 i0 ah (Q1b p0 i0 ah ((Int.toNat ((List.length ah : Int) - 0)) + 1) 0) z0 fA))) (h0 : ((Int.toNat (Q1b p0 i0 ah ((Int.toNat ((List.length ah : Int) - 0)) + 1) 0)) == 0) = true) {r : Rs} (hr : Q0 G (Qbf p0 (i0 + 1) ([x0] ++ (List.take ((List.length ah) - (Int.toNat (Q1b p0 i0 ah ((Int.toNat ((List.length ah : Int) - 0)) + 1) 0))) (List.drop (Int.toNat (Q1b p0 i0 ah ((Int.toNat ((List.length ah : Int) - 0)) + 1) 0)) ah)))) r) : Q0 G (Qbf p0 i0 ah) r := by
 have hB0 := H.1; have e0 := eq_of_beq h0
 exact Qc (Qxz p0 i0 ah) [hP 2 (Qs _ _ (Fld.Q5 p0)), hB 0 bC, hS 0 true (Fld.Q8 ah 6 rfl), hP 5 (Q19v 1 6 (List.length ah) (Q1b p0 i0 ah ((Int.toNat ((List.length ah : Int) - 0)) + 1) 0) (by have g0 := Q4j p0 i0 ah ((Int.toNat ((List.length ah : Int) - 0)) + 1) 0 (by omega) (by omega) (by omega) (by omega) (by omega); omega) (by have g0 := Q4j p0 i0 ah ((Int.toNat ((List.length ah : Int) - 0)) + 1) 0 (by omega) (by omega) (by omega) (by omega) (by omega); omega)), hP 0 (Q1l1 1 1412 6 96 0 true (Fld.rows ah) 0 (Int.toNat (Q1b p0 i0 ah ((Int.toNat ((List.length ah : Int) - 0)) + 1) 0)) (Fld.Qw ah) (by rw [Fld.Q5]; exact (by have g0 := Q4j p0 i0 ah ((Int.toNat ((List.length ah : Int) - 0)) + 1) 0 (by omega) (by omega) (by omega) (by omega) (by omega); omega)) (eq_of_beq h0)), hP 4 (Q1l 6 _ i0 _ (Fld.Qb bF) rfl), hP 7 (Q172 1 6 (List.length ah) (Q1b p0 i0 ah ((Int.toNat ((List.length ah : Int) - 0)) + 1) 0) (by have g0 := Q4j p0 i0 ah ((Int.toNat ((List.length ah : Int) - 0)) + 1) 0 (by omega) (by omega) (by omega) (by omega) (by omega); omega) (by have g0 := Q4j p0 i0 ah ((Int.toNat ((List.length ah : Int) - 0)) + 1) 0 (by omega) (by omega) (by omega) (by omega) (by omega); omega)), hV 0 [(2308, Fld.rows ([x0] ++ (List.take ((List.length ah) - (Int.toNat (Q1b p0 i0 ah ((Int.toNat ((List.length ah : Int) - 0)) + 1) 0))) (List.drop (Int.toNat (Q1b p0 i0 ah ((Int.toNat ((List.length ah : Int) - 0)) + 1) 0)) ah))))] (Q1h6 1924 1 2308 6 96 0 [.str x0.name, iN x0.v.kind, iN x0.v.n, .str x0.v.s, .sl (Val.rows x0.v.list), .sl (Fld.rows x0.v.fields)] (Fld.rows [x0]) 0 true (Fld.rows ah) (Fld.rows ([x0] ++ (List.take ((List.length ah) - (Int.toNat (Q1b p0 i0 ah ((Int.toNat ((List.length ah : Int) - 0)) + 1) 0))) (List.drop (Int.toNat (Q1b p0 i0 ah ((Int.toNat ((List.length ah : Int) - 0)) + 1) 0)) ah)))) 1 (Int.toNat (Q1b p0 i0 ah ((Int.toNat ((List.length ah : Int) - 0)) + 1) 0)) ((List.length ah) - (Int.toNat (Q1b p0 i0 ah ((Int.toNat ((List.length ah : Int) - 0)) + 1) 0))) (List.length ([x0] ++ (List.take ((List.length ah) - (Int.toNat (Q1b p0 i0 ah ((Int.toNat ((List.length ah : Int) - 0)) + 1) 0))) (List.drop (Int.toNat (Q1b p0 i0 ah ((Int.toNat ((List.length ah : Int) - 0)) + 1) 0)) ah)))) rfl (by simp only [Fld.Q20, Fld.Q2k]; rfl) (Fld.Q5 [x0]).symm (Fld.Q5 ([x0] ++ (List.take ((List.length ah) - (Int.toNat (Q1b p0 i0 ah ((Int.toNat ((List.length ah : Int) - 0)) + 1) 0))) (List.drop (Int.toNat (Q1b p0 i0 ah ((Int.toNat ((List.length ah : Int) - 0)) + 1) 0)) ah)))).symm (by rw [Fld.Q153, Fld.Qk3, Fld.Qyy]) (Fld.Qw [x0]) (Fld.Qw ah) (by rw [Fld.Q5]; exact (by have g0 := Q4j p0 i0 ah ((Int.toNat ((List.length ah : Int) - 0)) + 1) 0 (by omega) (by omega) (by omega) (by omega) (by omega); omega)) (by have g0 := Q4j p0 i0 ah ((Int.toNat ((List.length ah : Int) - 0)) + 1) 0 (by omega) (by omega) (by omega) (by omega) (by omega); omega)), hS 0 true (Fld.Q8 ([x0] ++ (List.take ((List.length ah) - (Int.toNat (Q1b p0 i0 ah ((Int.toNat ((List.length ah : Int) - 0)) + 1) 0))) (List.drop (Int.toNat (Q1b p0 i0 ah ((Int.toNat ((List.length ah : Int) - 0)) + 1) 0)) ah))) 6 rfl), hP 4 (Q26 i0 (by omega))] [aV [(1, Fld.rows ah)] hl0] hr (by kernel_rfl)
theorem Q1b5 (p0 : List Fld) (H : Qdu p0) (x0 : Fld) (i0 : Nat) (ah : List Fld) (bF : p0[i0]? = some x0) (bR : i0 < List.length p0) (aP : List.length ah ≤ i0) (dA : List.length (ah : List Fld) ≤ i0) (bC : (decide ((i0 : Int) < ((List.length p0) : Int))) = true) (z0 : Nat → PV) (fA : Nat → List PV) (hl0 : Q0 G (Qa0 p0 i0 ah 0) (.st (.exit 2) (Q9p p0 i0 ah (Q1b p0 i0 ah ((Int.toNat ((List.length ah : Int) - 0)) + 1) 0) z0 fA))) (h0 : ((Int.toNat (Q1b p0 i0 ah ((Int.toNat ((List.length ah : Int) - 0)) + 1) 0)) == 0) = false) {r : Rs} (hr : Q0 G (Qbf p0 (i0 + 1) (((List.take (Int.toNat (Q1b p0 i0 ah ((Int.toNat ((List.length ah : Int) - 0)) + 1) 0)) ah) ++ [x0]) ++ (List.take ((List.length ah) - (Int.toNat (Q1b p0 i0 ah ((Int.toNat ((List.length ah : Int) - 0)) + 1) 0))) (List.drop (Int.toNat (Q1b p0 i0 ah ((Int.toNat ((List.length ah : Int) - 0)) + 1) 0)) ah)))) r) : Q0 G (Qbf p0 i0 ah) r := by
 have hB0 := H.1; have e0 := beq_eq_false_iff_ne.1 h0
 exact Qc (Qxz p0 i0 ah) [hP 2 (Qs _ _ (Fld.Q5 p0)), hB 0 bC, hS 0 true (Fld.Q8 ah 6 rfl), hP 5 (Q19v 1 6 (List.length ah) (Q1b p0 i0 ah ((Int.toNat ((List.length ah : Int) - 0)) + 1) 0) (by have g0 := Q4j p0 i0 ah ((Int.toNat ((List.length ah : Int) - 0)) + 1) 0 (by omega) (by omega) (by omega) (by omega) (by omega); omega) (by have g0 := Q4j p0 i0 ah ((Int.toNat ((List.length ah : Int) - 0)) + 1) 0 (by omega) (by omega) (by omega) (by omega) (by omega); omega)), hV 0 [(1412, Fld.rows (List.take (Int.toNat (Q1b p0 i0 ah ((Int.toNat ((List.length ah : Int) - 0)) + 1) 0)) ah))] (Q1zh 1 1412 6 96 0 true (Fld.rows ah) (Fld.rows (List.take (Int.toNat (Q1b p0 i0 ah ((Int.toNat ((List.length ah : Int) - 0)) + 1) 0)) ah)) 0 (Int.toNat (Q1b p0 i0 ah ((Int.toNat ((List.length ah : Int) - 0)) + 1) 0)) (List.length (List.take (Int.toNat (Q1b p0 i0 ah ((Int.toNat ((List.length ah : Int) - 0)) + 1) 0)) ah)) (Fld.Qw ah) (by rw [Fld.Q5]; exact (by have g0 := Q4j p0 i0 ah ((Int.toNat ((List.length ah : Int) - 0)) + 1) 0 (by omega) (by omega) (by omega) (by omega) (by omega); omega)) (beq_eq_false_iff_ne.1 h0) (by rw [Fld.Qk3]; rfl) (by have g0 := Q4j p0 i0 ah ((Int.toNat ((List.length ah : Int) - 0)) + 1) 0 (by omega) (by omega) (by omega) (by omega) (by omega); try simp only [List.length_take]; omega) (by have g0 := Q4j p0 i0 ah ((Int.toNat ((List.length ah : Int) - 0)) + 1) 0 (by omega) (by omega) (by omega) (by omega) (by omega); omega)), hS 0 true (Fld.Q8 (List.take (Int.toNat (Q1b p0 i0 ah ((Int.toNat ((List.length ah : Int) - 0)) + 1) 0)) ah) 6 rfl), hP 4 (Q1l 6 _ i0 _ (Fld.Qb bF) rfl), hA 2 1412 1860 1924 6 96 0 0 true Fld.Q5 Fld.Q1n (List.take (Int.toNat (Q1b p0 i0 ah ((Int.toNat ((List.length ah : Int) - 0)) + 1) 0)) ah) x0 (Fld.Qw (List.take (Int.toNat (Q1b p0 i0 ah ((Int.toNat ((List.length ah : Int) - 0)) + 1) 0)) ah)) rfl rfl ((H.2.1 i0 ah x0 bF aP dA) h0), hS 0 true (Fld.Q8 ((List.take (Int.toNat (Q1b p0 i0 ah ((Int.toNat ((List.length ah : Int) - 0)) + 1) 0)) ah) ++ [x0]) 6 rfl), hP 4 (Q172 1 6 (List.length ah) (Q1b p0 i0 ah ((Int.toNat ((List.length ah : Int) - 0)) + 1) 0) (by have g0 := Q4j p0 i0 ah ((Int.toNat ((List.length ah : Int) - 0)) + 1) 0 (by omega) (by omega) (by omega) (by omega) (by omega); omega) (by have g0 := Q4j p0 i0 ah ((Int.toNat ((List.length ah : Int) - 0)) + 1) 0 (by omega) (by omega) (by omega) (by omega) (by omega); omega)), hV 0 [(2308, Fld.rows (((List.take (Int.toNat (Q1b p0 i0 ah ((Int.toNat ((List.length ah : Int) - 0)) + 1) 0)) ah) ++ [x0]) ++ (List.take ((List.length ah) - (Int.toNat (Q1b p0 i0 ah ((Int.toNat ((List.length ah : Int) - 0)) + 1) 0))) (List.drop (Int.toNat (Q1b p0 i0 ah ((Int.toNat ((List.length ah : Int) - 0)) + 1) 0)) ah))))] (Q1h6 1924 1 2308 6 96 0 ((Fld.rows ((List.take (Int.toNat (Q1b p0 i0 ah ((Int.toNat ((List.length ah : Int) - 0)) + 1) 0)) ah) ++ [x0])).flatten) (Fld.rows ((List.take (Int.toNat (Q1b p0 i0 ah ((Int.toNat ((List.length ah : Int) - 0)) + 1) 0)) ah) ++ [x0])) 0 true (Fld.rows ah) (Fld.rows (((List.take (Int.toNat (Q1b p0 i0 ah ((Int.toNat ((List.length ah : Int) - 0)) + 1) 0)) ah) ++ [x0]) ++ (List.take ((List.length ah) - (Int.toNat (Q1b p0 i0 ah ((Int.toNat ((List.length ah : Int) - 0)) + 1) 0))) (List.drop (Int.toNat (Q1b p0 i0 ah ((Int.toNat ((List.length ah : Int) - 0)) + 1) 0)) ah)))) (List.length ((List.take (Int.toNat (Q1b p0 i0 ah ((Int.toNat ((List.length ah : Int) - 0)) + 1) 0)) ah) ++ [x0])) (Int.toNat (Q1b p0 i0 ah ((Int.toNat ((List.length ah : Int) - 0)) + 1) 0)) ((List.length ah) - (Int.toNat (Q1b p0 i0 ah ((Int.toNat ((List.length ah : Int) - 0)) + 1) 0))) (List.length (((List.take (Int.toNat (Q1b p0 i0 ah ((Int.toNat ((List.length ah : Int) - 0)) + 1) 0)) ah) ++ [x0]) ++ (List.take ((List.length ah) - (Int.toNat (Q1b p0 i0 ah ((Int.toNat ((List.length ah : Int) - 0)) + 1) 0))) (List.drop (Int.toNat (Q1b p0 i0 ah ((Int.toNat ((List.length ah : Int) - 0)) + 1) 0)) ah)))) rfl rfl (Fld.Q5 ((List.take (Int.toNat (Q1b p0 i0 ah ((Int.toNat ((List.length ah : Int) - 0)) + 1) 0)) ah) ++ [x0])).symm (Fld.Q5 (((List.take (Int.toNat (Q1b p0 i0 ah ((Int.toNat ((List.length ah : Int) - 0)) + 1) 0)) ah) ++ [x0]) ++ (List.take ((List.length ah) - (Int.toNat (Q1b p0 i0 ah ((Int.toNat ((List.length ah : Int) - 0)) + 1) 0))) (List.drop (Int.toNat (Q1b p0 i0 ah ((Int.toNat ((List.length ah : Int) - 0)) + 1) 0)) ah)))).symm (by rw [Fld.Q153, Fld.Qk3, Fld.Qyy]) (Fld.Qw ((List.take (Int.toNat (Q1b p0 i0 ah ((Int.toNat ((List.length ah : Int) - 0)) + 1) 0)) ah) ++ [x0])) (Fld.Qw ah) (by rw [Fld.Q5]; exact (by have g0 := Q4j p0 i0 ah ((Int.toNat ((List.length ah : Int) - 0)) + 1) 0 (by omega) (by omega) (by omega) (by omega) (by omega); omega)) (by have g0 := Q4j p0 i0 ah ((Int.toNat ((List.length ah : Int) - 0)) + 1) 0 (by omega) (by omega) (by omega) (by omega) (by omega); try simp only [List.length_append, List.length_cons, List.length_nil, List.length_take]; omega)), hS 0 true (Fld.Q8 (((List.take (Int.toNat (Q1b p0 i0 ah ((Int.toNat ((List.length ah : Int) - 0)) + 1) 0)) ah) ++ [x0]) ++ (List.take ((List.length ah) - (Int.toNat (Q1b p0 i0 ah ((Int.toNat ((List.length ah : Int) - 0)) + 1) 0))) (List.drop (Int.toNat (Q1b p0 i0 ah ((Int.toNat ((List.length ah : Int) - 0)) + 1) 0)) ah))) 6 rfl), hP 4 (Q26 i0 (by omega))] [aV [(1, Fld.rows ah)] hl0] hr (by kernel_rfl)
theorem Qoo (p0 : List Fld) (H : Qdu p0) : ∀ (r0 : List Fld) (i0 : Nat) (ah : List Fld), List.drop i0 p0 = r0 → List.length ah ≤ i0 → List.length (ah : List Fld) ≤ i0 → Qj2 p0 (Qbf p0 i0 ah) (Q8d p0 r0 i0 ah)
 | [], i0, ah, hd, aP, dA => by
  have bC : (decide ((i0 : Int) < ((List.length p0) : Int))) = false := by have := Q1o hd; simp; omega
  rw [Q8d]
  exact Q1do p0 H i0 ah aP dA bC
 | x0 :: r0, i0, ah, hd, aP, dA => by
  obtain ⟨bF, bR, hd'⟩ := Q1p hd
  have hB0 := H.1
  have bC : (decide ((i0 : Int) < ((List.length p0) : Int))) = true := by simp; omega
  rw [Q8d]
  have hl0 := Q12k p0 i0 ah ((Int.toNat ((List.length ah : Int) - 0)) + 1) 0 (by omega) (by omega) (by omega) (by omega) (by omega)
  obtain ⟨z0, fA, hl0⟩ := hl0
  cases h0 : ((Int.toNat (Q1b p0 i0 ah ((Int.toNat ((List.length ah : Int) - 0)) + 1) 0)) == 0) with
  | true =>
   have e0 := eq_of_beq h0
   exact Qeb p0 (fun r hr => Q1b4 p0 H x0 i0 ah bF bR aP dA bC z0 fA hl0 h0 hr) _ (Qoo p0 H r0 _ _ hd' (by first | omega | (simp; omega)) ((H.2.2.1 i0 ah x0 bF aP dA) h0))
  | false =>
   have e0 := beq_eq_false_iff_ne.1 h0
   exact Qeb p0 (fun r hr => Q1b5 p0 H x0 i0 ah bF bR aP dA bC z0 fA hl0 h0 hr) _ (Qoo p0 H r0 _ _ hd' (by first | omega | (simp; omega)) ((H.2.2.2.1 i0 ah x0 bF aP dA) h0))
def Q3o (p0 : List Fld) : Val :=
 (Val.mk 5 0 eB [] (Q8d p0 p0 0 []))
def Q7x (p0 : List Fld) : En := .call 163 [.sl (Fld.rows p0)] []
def Q1wq (p0 : List Fld) : Rs := .ret (.agg (Val.cells (Q3o p0))) []
def Q1vd (p0 : List Fld) : Prop := List.length p0 ≤ 20
theorem Q17d (p0 : List Fld) (H : Q1vd p0) : (Qdu p0) ∧ (List.length ([] : List Fld) ≤ 0) ∧ True := by
  have H' : p0.length ≤ 20 := H
  have hl : ∀ (i : Nat) (x : Fld), p0[i]? = some x → i < 20 := fun i x h => Nat.lt_of_lt_of_le (List.getElem?_eq_some_iff.1 h).1 H'
  refine ⟨⟨by omega, fun i v x hx a _ _ => ?_, fun i v x hx a _ _ => ?_, fun i v x hx a _ _ => ?_, trivial⟩, by simp, trivial⟩ <;>
  · have := hl i x hx
    simp only [List.length_append, List.length_take, List.length_drop, List.length_cons, List.length_nil]
    omega
theorem Q8g (p0 : List Fld) (H : Q1vd p0) : Q0 G (Q7x p0) (Q1wq p0) := by
 unfold Q1wq Q3o
 have hl0 := Qoo p0 ((Q17d p0 H).1) p0 0 [] (by simp) (by simp) ((Q17d p0 H).2.1)
 obtain ⟨z0, fA, hl0⟩ := hl0
 exact Q7 (fn := Ir.K2h) (by kernel_rfl) VOK.nil [hS 0 true (Fld.Q8 (Q8d p0 p0 0 []) 6 rfl), hQ (Fld.Q5 (Q8d p0 p0 0 [])).symm] [aV [(1, Fld.rows (Q8d p0 p0 0 []))] hl0] (by kernel_rfl)
def Qz (p0 : Int) : Val :=
 (Val.mk 2 p0 eB [] [])
def Q27f (p0 : Int) : En := .call 164 [iN p0] []
def Q1wl (p0 : Int) : Rs := .ret (.agg (Val.cells (Qz p0))) []
theorem Q46 (p0 : Int) : Q0 G (Q27f p0) (Q1wl p0) := by
 unfold Q1wl Qz
 exact Q7 (fn := Ir.K2c) (by kernel_rfl) VOK.nil [] [] (by kernel_rfl)
def Q2q (p0 : BA) : Val :=
 (Val.mk 3 0 p0 [] [])
def Q27r (p0 : BA) : En := .call 169 [.str p0] []
def Q1wy (p0 : BA) : Rs := .ret (.agg (Val.cells (Q2q p0))) []
theorem Qch (p0 : BA) : Q0 G (Q27r p0) (Q1wy p0) := by
 unfold Q1wy Q2q
 exact Q7 (fn := Ir.K2w) (by kernel_rfl) VOK.nil [] [] (by kernel_rfl)
def Q7e (p0 : List ByteArray) : List ByteArray → Nat → (List Val) → List Val
 | [], _i0, ah =>
  ah
 | x0 :: r0, i0, ah =>
  Q7e p0 r0 (i0 + 1) (ah ++ [(Q2q x0)])
theorem Q19b (p0 : List ByteArray) : ∀ (l : List ByteArray) (i : Nat) (a : List Val), Q7e p0 l i a = a ++ l.map (fun x0 => (Q2q x0))
  | [], _, _ => by simp [Q7e]
  | x :: r, i, a => by rw [Q7e, Q19b p0 r]; simp
def Q1fj (p0 : List ByteArray) (i0 : Nat) (ah : List Val) : List PV :=
  [.sl (Q15 p0), .un, .bx 0 0, .ms 1 5 0 (List.length ah), iN (i0 : Int)] ++ nuns 16
def Qzr (_p0 : List ByteArray) (_i0 : Nat) (ah : List Val) : List Ob :=
  [⟨5, 0, true, [iN 0, iN 0, .str eB, .ms 2 5 0 0, .ms 3 6 0 0]⟩, ⟨5, 0, true, (Val.rows ah).flatten⟩, ⟨5, 0, true, []⟩, ⟨6, 0, true, []⟩]
def Qhk (p0 : List ByteArray) (i0 : Nat) (ah : List Val) : En := .loop 0 Ir.Qld Ir.Q1ny (Q1fj p0 i0 ah) (Qzr p0 i0 ah)
def Qsg (_p0 : List ByteArray) (q0 : List Val) (z : Nat → PV) (_zo : Nat → List PV) : St :=
  ⟨[z 0, z 1, .bx 0 0, .ms 1 5 0 (List.length q0)] ++ zr z 4 17, [(0, ⟨5, 0, true, [iN 0, iN 0, .str eB, .ms 2 5 0 0, .ms 3 6 0 0]⟩), (1, ⟨5, 0, true, (Val.rows q0).flatten⟩), (2, ⟨5, 0, true, []⟩), (3, ⟨6, 0, true, []⟩)], 260⟩
theorem Q16d (p0 : List ByteArray) (i0 : Nat) (ah : List Val) : VOK (Go.Pv.look (number 0 (Qzr p0 i0 ah))) [(1, Val.rows ah)] := (VOK.cons (show Seen _ _ from Q4a (ob := ⟨5, 0, true, (Val.rows ah).flatten⟩) (Val.Q8 ah 5 rfl)) VOK.nil)
def Qj8 (p0 : List ByteArray) (e : En) (q : List Val) : Prop := ∃ z zo, Q0 G e (.st (.exit 0) (Qsg p0 q z zo))
theorem Qx6 (p0 : List ByteArray) {e e' : En} (h : ∀ r, Q0 G e r → Q0 G e' r) : ∀ q, Qj8 p0 e q → Qj8 p0 e' q
  | _, ⟨z, zo, hz⟩ => ⟨z, zo, h _ hz⟩
def Qil (p0 : List ByteArray) : Prop := (List.length p0 ≤ 137438953472) ∧ True
def Qui (p0 : List ByteArray) (i0 : Nat) (_ah : List Val) : List PV :=
  [.sl (Q15 p0), .un, .un, .un, iN (i0 : Int), iN (i0 : Int), .sl (Q15 p0), iN ((List.length p0) : Int), .bool false]
def Qn6 (_p0 : List ByteArray) (_i0 : Nat) (_ah : List Val) : List (Nat × List PV) :=
  []
theorem Q1dw (p0 : List ByteArray) (_H : Qil p0) (i0 : Nat) (ah : List Val) (_aP : List.length ah ≤ i0) (bC : (decide ((i0 : Int) < ((List.length p0) : Int))) = false) : Qj8 p0 (Qhk p0 i0 ah) ah := by
 exact ⟨(envF (Qui p0 i0 ah)), (zoF (Qn6 p0 i0 ah)), Qh (Q16d p0 i0 ah) (x := ((.exit 0), Qsg p0 ah (envF (Qui p0 i0 ah)) (zoF (Qn6 p0 i0 ah)))) [hP 2 (Qs _ _ (Q2d p0)), hB 0 bC] [] (by kernel_rfl)⟩
theorem Q1bc (p0 : List ByteArray) (H : Qil p0) (x0 : BA) (i0 : Nat) (ah : List Val) (bF : p0[i0]? = some x0) (bR : i0 < List.length p0) (aP : List.length ah ≤ i0) (bC : (decide ((i0 : Int) < ((List.length p0) : Int))) = true) {r : Rs} (hr : Q0 G (Qhk p0 (i0 + 1) (ah ++ [(Q2q x0)])) r) : Q0 G (Qhk p0 i0 ah) r := by
 have hB0 := H.1
 exact Qc (Q16d p0 i0 ah) [hP 2 (Qs _ _ (Q2d p0)), hB 0 bC, hP 3 (Q1l 1 _ i0 _ (Q8m bF) rfl), hA 3 1 644 708 5 80 0 0 true Val.Q5 Val.Q1n ah (Q2q x0) (Val.Qw ah) rfl rfl (by omega), hS 0 true (Val.Q8 (ah ++ [(Q2q x0)]) 5 rfl), hP 2 (Q26 i0 (by omega))] [aN (Qch x0)] hr (by kernel_rfl)
theorem Q12q (p0 : List ByteArray) (H : Qil p0) : ∀ (r0 : List ByteArray) (i0 : Nat) (ah : List Val), List.drop i0 p0 = r0 → List.length ah ≤ i0 → Qj8 p0 (Qhk p0 i0 ah) (Q7e p0 r0 i0 ah)
 | [], i0, ah, hd, aP => by
  have bC : (decide ((i0 : Int) < ((List.length p0) : Int))) = false := by have := Q1o hd; simp; omega
  rw [Q7e]
  exact Q1dw p0 H i0 ah aP bC
 | x0 :: r0, i0, ah, hd, aP => by
  obtain ⟨bF, bR, hd'⟩ := Q1p hd
  have bC : (decide ((i0 : Int) < ((List.length p0) : Int))) = true := by simp; omega
  rw [Q7e]
  exact Qx6 p0 (fun r hr => Q1bc p0 H x0 i0 ah bF bR aP bC hr) _ (Q12q p0 H r0 _ _ hd' (by first | omega | (simp; omega)))
def Qz1 (p0 : List ByteArray) : Val := vL (p0.map vS)
theorem Q2av (p0 : List ByteArray) : Qz1 p0 = ((Val.mk 4 0 eB (Q7e p0 p0 0 []) [])) := by
  rw [Q19b]
  kernel_rfl
def Q27s (p0 : List ByteArray) : En := .call 212 [.sl (Q15 p0)] []
def Q1wz (p0 : List ByteArray) : Rs := .ret (.agg (Val.cells (Qz1 p0))) []
def Q1pq (p0 : List ByteArray) : Prop := LSm (fun _ : ByteArray => True) p0
theorem Q1lu (p0 : List ByteArray) (H : Q1pq p0) : (Qil p0) ∧ True := by
  exact ⟨⟨Nat.le_trans H.1 (Nat.le_of_ble_eq_true rfl), trivial⟩, trivial⟩
theorem Q2fp (p0 : List ByteArray) (H : Q1pq p0) : Q0 G (Q27s p0) (Q1wz p0) := by
 unfold Q1wz
 rw [Q2av]
 have hl0 := Q12q p0 ((Q1lu p0 H).1) p0 0 [] (by simp) (by simp)
 obtain ⟨z0, fA, hl0⟩ := hl0
 exact Q7 (fn := Ir.K2x) (by kernel_rfl) VOK.nil [hS 0 true (Val.Q8 (Q7e p0 p0 0 []) 5 rfl), hQ (Val.Q5 (Q7e p0 p0 0 [])).symm] [aV [(1, Val.rows (Q7e p0 p0 0 []))] hl0] (by kernel_rfl)
def Q7c (p0 : List au) : List au → Nat → (List Val) → List Val
 | [], _i0, ah =>
  ah
 | x0 :: r0, i0, ah =>
  Q7c p0 r0 (i0 + 1) (ah ++ [(Q3o ([(Fld.mk Q12 (Q2q x0.key)), (Fld.mk Q5i (Qz x0.op)), (Fld.mk Q28 (Qz1 x0.dV))]))])
theorem Q199 (p0 : List au) : ∀ (l : List au) (i : Nat) (a : List Val), Q7c p0 l i a = a ++ l.map (fun x0 => (Q3o ([(Fld.mk Q12 (Q2q x0.key)), (Fld.mk Q5i (Qz x0.op)), (Fld.mk Q28 (Qz1 x0.dV))])))
  | [], _, _ => by simp [Q7c]
  | x :: r, i, a => by rw [Q7c, Q199 p0 r]; simp
def Q1fh (p0 : List au) (i0 : Nat) (ah : List Val) : List PV :=
  [.sl (au.rows p0), .un, .bx 0 0, .ms 1 5 0 (List.length ah), iN (i0 : Int)] ++ nuns 34
def Qzp (_p0 : List au) (_i0 : Nat) (ah : List Val) : List Ob :=
  [⟨5, 0, true, [iN 0, iN 0, .str eB, .ms 2 5 0 0, .ms 3 6 0 0]⟩, ⟨5, 0, true, (Val.rows ah).flatten⟩, ⟨5, 0, true, []⟩, ⟨6, 0, true, []⟩]
def Qhi (p0 : List au) (i0 : Nat) (ah : List Val) : En := .loop 0 Ir.Qlb Ir.Q1nw (Q1fh p0 i0 ah) (Qzp p0 i0 ah)
def Qse (_p0 : List au) (q0 : List Val) (z : Nat → PV) (_zo : Nat → List PV) : St :=
  ⟨[z 0, z 1, .bx 0 0, .ms 1 5 0 (List.length q0)] ++ zr z 4 35, [(0, ⟨5, 0, true, [iN 0, iN 0, .str eB, .ms 2 5 0 0, .ms 3 6 0 0]⟩), (1, ⟨5, 0, true, (Val.rows q0).flatten⟩), (2, ⟨5, 0, true, []⟩), (3, ⟨6, 0, true, []⟩)], 260⟩
theorem Q16b (p0 : List au) (i0 : Nat) (ah : List Val) : VOK (Go.Pv.look (number 0 (Qzp p0 i0 ah))) [(1, Val.rows ah)] := (VOK.cons (show Seen _ _ from Q4a (ob := ⟨5, 0, true, (Val.rows ah).flatten⟩) (Val.Q8 ah 5 rfl)) VOK.nil)
def Qj6 (p0 : List au) (e : En) (q : List Val) : Prop := ∃ z zo, Q0 G e (.st (.exit 0) (Qse p0 q z zo))
theorem Qx4 (p0 : List au) {e e' : En} (h : ∀ r, Q0 G e r → Q0 G e' r) : ∀ q, Qj6 p0 e q → Qj6 p0 e' q
  | _, ⟨z, zo, hz⟩ => ⟨z, zo, h _ hz⟩
def Qij (p0 : List au) : Prop := (List.length p0 ≤ 137438953472) ∧ (∀ x0 ∈ p0, Q1pq x0.dV) ∧ True
def Qug (p0 : List au) (i0 : Nat) (_ah : List Val) : List PV :=
  [.sl (au.rows p0), .un, .un, .un, iN (i0 : Int), iN (i0 : Int), .sl (au.rows p0), iN ((List.length p0) : Int), .bool false]
def Qn4 (_p0 : List au) (_i0 : Nat) (_ah : List Val) : List (Nat × List PV) :=
  []
theorem Q1du (p0 : List au) (_H : Qij p0) (i0 : Nat) (ah : List Val) (_aP : List.length ah ≤ i0) (bC : (decide ((i0 : Int) < ((List.length p0) : Int))) = false) : Qj6 p0 (Qhi p0 i0 ah) ah := by
 exact ⟨(envF (Qug p0 i0 ah)), (zoF (Qn4 p0 i0 ah)), Qh (Q16b p0 i0 ah) (x := ((.exit 0), Qse p0 ah (envF (Qug p0 i0 ah)) (zoF (Qn4 p0 i0 ah)))) [hP 2 (Qs _ _ (au.Q5 p0)), hB 0 bC] [] (by kernel_rfl)⟩
theorem Q1ba (p0 : List au) (H : Qij p0) (x0 : au) (i0 : Nat) (ah : List Val) (bF : p0[i0]? = some x0) (bR : i0 < List.length p0) (aP : List.length ah ≤ i0) (bC : (decide ((i0 : Int) < ((List.length p0) : Int))) = true) {r : Rs} (hr : Q0 G (Qhi p0 (i0 + 1) (ah ++ [(Q3o ([(Fld.mk Q12 (Q2q x0.key)), (Fld.mk Q5i (Qz x0.op)), (Fld.mk Q28 (Qz1 x0.dV))]))])) r) : Q0 G (Qhi p0 i0 ah) r := by
 have hB0 := H.1
 exact Qc (Q16b p0 i0 ah) [hP 2 (Qs _ _ (au.Q5 p0)), hB 0 bC, hP 3 (Q1l 3 _ i0 _ (au.Qb bF) rfl), hP 6 (Q1l 3 _ i0 _ (au.Qb bF) rfl), hP 6 (Q1l 3 _ i0 _ (au.Qb bF) rfl), hA 7 1 1796 1860 5 80 0 0 true Val.Q5 Val.Q1n ah (Q3o ([(Fld.mk Q12 (Q2q x0.key)), (Fld.mk Q5i (Qz x0.op)), (Fld.mk Q28 (Qz1 x0.dV))])) (Val.Qw ah) rfl rfl (by omega), hS 0 true (Val.Q8 (ah ++ [(Q3o ([(Fld.mk Q12 (Q2q x0.key)), (Fld.mk Q5i (Qz x0.op)), (Fld.mk Q28 (Qz1 x0.dV))]))]) 5 rfl), hP 2 (Q26 i0 (by omega))] [aN (Qch x0.key), aN (Q46 x0.op), aN (Q2fp x0.dV (H.2.1 x0 (Q1i bF))), aN (Q87 (e' := .call 163 [.sl [(Fld.cells (Fld.mk Q12 (Q2q x0.key))), (Fld.cells (Fld.mk Q5i (Qz x0.op))), (Fld.cells (Fld.mk Q28 (Qz1 x0.dV)))]] []) (Q8g ([(Fld.mk Q12 (Q2q x0.key)), (Fld.mk Q5i (Qz x0.op)), (Fld.mk Q28 (Qz1 x0.dV))]) (Nat.le_of_ble_eq_true rfl)) (by simp only [Q7x, Fld.Q20, Fld.Q2k]))] hr (by kernel_rfl)
theorem Q12o (p0 : List au) (H : Qij p0) : ∀ (r0 : List au) (i0 : Nat) (ah : List Val), List.drop i0 p0 = r0 → List.length ah ≤ i0 → Qj6 p0 (Qhi p0 i0 ah) (Q7c p0 r0 i0 ah)
 | [], i0, ah, hd, aP => by
  have bC : (decide ((i0 : Int) < ((List.length p0) : Int))) = false := by have := Q1o hd; simp; omega
  rw [Q7c]
  exact Q1du p0 H i0 ah aP bC
 | x0 :: r0, i0, ah, hd, aP => by
  obtain ⟨bF, bR, hd'⟩ := Q1p hd
  have bC : (decide ((i0 : Int) < ((List.length p0) : Int))) = true := by simp; omega
  rw [Q7c]
  exact Qx4 p0 (fun r hr => Q1ba p0 H x0 i0 ah bF bR aP bC hr) _ (Q12o p0 H r0 _ _ hd' (by first | omega | (simp; omega)))
def Q6g (p0 : List au) : Val := vL (p0.map au.enc)
theorem Q2at (p0 : List au) : Q6g p0 = ((Val.mk 4 0 eB (Q7c p0 p0 0 []) [])) := by
  rw [Q199]
  kernel_rfl
def Q27p (p0 : List au) : En := .call 165 [.sl (au.rows p0)] []
def Q1ww (p0 : List au) : Rs := .ret (.agg (Val.cells (Q6g p0))) []
def Q10k (p0 : List au) : Prop := LSm au.sm p0
theorem Q1ls (p0 : List au) (H : Q10k p0) : (Qij p0) ∧ True := by
  exact ⟨⟨Nat.le_trans H.1 (Nat.le_of_ble_eq_true rfl), (by first | exact H.2 | exact fun x hx => (H.2 x hx).1 | exact fun x hx => (H.2 x hx).2.1 | exact fun x hx => (H.2 x hx).2.2.1 | exact fun x hx => (H.2 x hx).2.2.2.1 | exact fun x hx => (H.2 x hx).2.2.2.2.1), trivial⟩, trivial⟩
theorem Q1cu (p0 : List au) (H : Q10k p0) : Q0 G (Q27p p0) (Q1ww p0) := by
 unfold Q1ww
 rw [Q2at]
 have hl0 := Q12o p0 ((Q1ls p0 H).1) p0 0 [] (by simp) (by simp)
 obtain ⟨z0, fA, hl0⟩ := hl0
 exact Q7 (fn := Ir.K2s) (by kernel_rfl) VOK.nil [hS 0 true (Val.Q8 (Q7c p0 p0 0 []) 5 rfl), hQ (Val.Q5 (Q7c p0 p0 0 [])).symm] [aV [(1, Val.rows (Q7c p0 p0 0 []))] hl0] (by kernel_rfl)
def Q78 (p0 : List aU) : List aU → Nat → (List Val) → List Val
 | [], _i0, ah =>
  ah
 | x0 :: r0, i0, ah =>
  Q78 p0 r0 (i0 + 1) (ah ++ [(Q3o ([(Fld.mk Q12 (Q2q x0.key)), (Fld.mk Q1t (Q2q x0.value))]))])
theorem Q195 (p0 : List aU) : ∀ (l : List aU) (i : Nat) (a : List Val), Q78 p0 l i a = a ++ l.map (fun x0 => (Q3o ([(Fld.mk Q12 (Q2q x0.key)), (Fld.mk Q1t (Q2q x0.value))])))
  | [], _, _ => by simp [Q78]
  | x :: r, i, a => by rw [Q78, Q195 p0 r]; simp
def Q1fb (p0 : List aU) (i0 : Nat) (ah : List Val) : List PV :=
  [.sl (aU.rows p0), .un, .bx 0 0, .ms 1 5 0 (List.length ah), iN (i0 : Int)] ++ nuns 27
def Qzj (_p0 : List aU) (_i0 : Nat) (ah : List Val) : List Ob :=
  [⟨5, 0, true, [iN 0, iN 0, .str eB, .ms 2 5 0 0, .ms 3 6 0 0]⟩, ⟨5, 0, true, (Val.rows ah).flatten⟩, ⟨5, 0, true, []⟩, ⟨6, 0, true, []⟩]
def Qhe (p0 : List aU) (i0 : Nat) (ah : List Val) : En := .loop 0 Ir.Ql5 Ir.Q1nq (Q1fb p0 i0 ah) (Qzj p0 i0 ah)
def Qs9 (_p0 : List aU) (q0 : List Val) (z : Nat → PV) (_zo : Nat → List PV) : St :=
  ⟨[z 0, z 1, .bx 0 0, .ms 1 5 0 (List.length q0)] ++ zr z 4 28, [(0, ⟨5, 0, true, [iN 0, iN 0, .str eB, .ms 2 5 0 0, .ms 3 6 0 0]⟩), (1, ⟨5, 0, true, (Val.rows q0).flatten⟩), (2, ⟨5, 0, true, []⟩), (3, ⟨6, 0, true, []⟩)], 260⟩
theorem Q167 (p0 : List aU) (i0 : Nat) (ah : List Val) : VOK (Go.Pv.look (number 0 (Qzj p0 i0 ah))) [(1, Val.rows ah)] := (VOK.cons (show Seen _ _ from Q4a (ob := ⟨5, 0, true, (Val.rows ah).flatten⟩) (Val.Q8 ah 5 rfl)) VOK.nil)
def Qj1 (p0 : List aU) (e : En) (q : List Val) : Prop := ∃ z zo, Q0 G e (.st (.exit 0) (Qs9 p0 q z zo))
theorem Qwz (p0 : List aU) {e e' : En} (h : ∀ r, Q0 G e r → Q0 G e' r) : ∀ q, Qj1 p0 e q → Qj1 p0 e' q
  | _, ⟨z, zo, hz⟩ => ⟨z, zo, h _ hz⟩
def Qif (p0 : List aU) : Prop := (List.length p0 ≤ 137438953472) ∧ True
def Qu8 (p0 : List aU) (i0 : Nat) (_ah : List Val) : List PV :=
  [.sl (aU.rows p0), .un, .un, .un, iN (i0 : Int), iN (i0 : Int), .sl (aU.rows p0), iN ((List.length p0) : Int), .bool false]
def Qmx (_p0 : List aU) (_i0 : Nat) (_ah : List Val) : List (Nat × List PV) :=
  []
theorem Q1dn (p0 : List aU) (_H : Qif p0) (i0 : Nat) (ah : List Val) (_aP : List.length ah ≤ i0) (bC : (decide ((i0 : Int) < ((List.length p0) : Int))) = false) : Qj1 p0 (Qhe p0 i0 ah) ah := by
 exact ⟨(envF (Qu8 p0 i0 ah)), (zoF (Qmx p0 i0 ah)), Qh (Q167 p0 i0 ah) (x := ((.exit 0), Qs9 p0 ah (envF (Qu8 p0 i0 ah)) (zoF (Qmx p0 i0 ah)))) [hP 2 (Qs _ _ (aU.Q5 p0)), hB 0 bC] [] (by kernel_rfl)⟩
theorem Q1b3 (p0 : List aU) (H : Qif p0) (x0 : aU) (i0 : Nat) (ah : List Val) (bF : p0[i0]? = some x0) (bR : i0 < List.length p0) (aP : List.length ah ≤ i0) (bC : (decide ((i0 : Int) < ((List.length p0) : Int))) = true) {r : Rs} (hr : Q0 G (Qhe p0 (i0 + 1) (ah ++ [(Q3o ([(Fld.mk Q12 (Q2q x0.key)), (Fld.mk Q1t (Q2q x0.value))]))])) r) : Q0 G (Qhe p0 i0 ah) r := by
 have hB0 := H.1
 exact Qc (Q167 p0 i0 ah) [hP 2 (Qs _ _ (aU.Q5 p0)), hB 0 bC, hP 3 (Q1l 2 _ i0 _ (aU.Qb bF) rfl), hP 6 (Q1l 2 _ i0 _ (aU.Qb bF) rfl), hA 7 1 1348 1412 5 80 0 0 true Val.Q5 Val.Q1n ah (Q3o ([(Fld.mk Q12 (Q2q x0.key)), (Fld.mk Q1t (Q2q x0.value))])) (Val.Qw ah) rfl rfl (by omega), hS 0 true (Val.Q8 (ah ++ [(Q3o ([(Fld.mk Q12 (Q2q x0.key)), (Fld.mk Q1t (Q2q x0.value))]))]) 5 rfl), hP 2 (Q26 i0 (by omega))] [aN (Qch x0.key), aN (Qch x0.value), aN (Q87 (e' := .call 163 [.sl [(Fld.cells (Fld.mk Q12 (Q2q x0.key))), (Fld.cells (Fld.mk Q1t (Q2q x0.value)))]] []) (Q8g ([(Fld.mk Q12 (Q2q x0.key)), (Fld.mk Q1t (Q2q x0.value))]) (Nat.le_of_ble_eq_true rfl)) (by simp only [Q7x, Fld.Q20, Fld.Q2k]))] hr (by kernel_rfl)
theorem Q12j (p0 : List aU) (H : Qif p0) : ∀ (r0 : List aU) (i0 : Nat) (ah : List Val), List.drop i0 p0 = r0 → List.length ah ≤ i0 → Qj1 p0 (Qhe p0 i0 ah) (Q78 p0 r0 i0 ah)
 | [], i0, ah, hd, aP => by
  have bC : (decide ((i0 : Int) < ((List.length p0) : Int))) = false := by have := Q1o hd; simp; omega
  rw [Q78]
  exact Q1dn p0 H i0 ah aP bC
 | x0 :: r0, i0, ah, hd, aP => by
  obtain ⟨bF, bR, hd'⟩ := Q1p hd
  have bC : (decide ((i0 : Int) < ((List.length p0) : Int))) = true := by simp; omega
  rw [Q78]
  exact Qwz p0 (fun r hr => Q1b3 p0 H x0 i0 ah bF bR aP bC hr) _ (Q12j p0 H r0 _ _ hd' (by first | omega | (simp; omega)))
def Q1ix (p0 : List aU) : Val := vL (p0.map aU.enc)
theorem Q2an (p0 : List aU) : Q1ix p0 = ((Val.mk 4 0 eB (Q78 p0 p0 0 []) [])) := by
  rw [Q195]
  kernel_rfl
def Q27j (p0 : List aU) : En := .call 213 [.sl (aU.rows p0)] []
def Q1wp (p0 : List aU) : Rs := .ret (.agg (Val.cells (Q1ix p0))) []
def Q1pl (p0 : List aU) : Prop := LSm aU.sm p0
theorem Q1lo (p0 : List aU) (H : Q1pl p0) : (Qif p0) ∧ True := by
  exact ⟨⟨Nat.le_trans H.1 (Nat.le_of_ble_eq_true rfl), trivial⟩, trivial⟩
theorem Q2fk (p0 : List aU) (H : Q1pl p0) : Q0 G (Q27j p0) (Q1wp p0) := by
 unfold Q1wp
 rw [Q2an]
 have hl0 := Q12j p0 ((Q1lo p0 H).1) p0 0 [] (by simp) (by simp)
 obtain ⟨z0, fA, hl0⟩ := hl0
 exact Q7 (fn := Ir.K2g) (by kernel_rfl) VOK.nil [hS 0 true (Val.Q8 (Q78 p0 p0 0 []) 5 rfl), hQ (Val.Q5 (Q78 p0 p0 0 [])).symm] [aV [(1, Val.rows (Q78 p0 p0 0 []))] hl0] (by kernel_rfl)
def Qce (p0 : bq) : Val := bq.enc p0
theorem Q2as (p0 : bq) : Qce p0 = ((Q3o ([(Fld.mk Q5o (Qz p0.iU)), (Fld.mk Q4f (Qz p0.fE)), (Fld.mk Q5p (Qz p0.iI))]))) := by
  kernel_rfl
def Q27o (p0 : bq) : En := .call 211 [.agg (bq.cells p0)] []
def Q1wv (p0 : bq) : Rs := .ret (.agg (Val.cells (Qce p0))) []
theorem Q20g (p0 : bq) : Q0 G (Q27o p0) (Q1wv p0) := by
 unfold Q1wv
 rw [Q2as]
 exact Q7 (fn := Ir.K2r) (by kernel_rfl) VOK.nil [] [aN (Q46 p0.iU), aN (Q46 p0.fE), aN (Q46 p0.iI), aN (Q87 (e' := .call 163 [.sl [(Fld.cells (Fld.mk Q5o (Qz p0.iU))), (Fld.cells (Fld.mk Q4f (Qz p0.fE))), (Fld.cells (Fld.mk Q5p (Qz p0.iI)))]] []) (Q8g ([(Fld.mk Q5o (Qz p0.iU)), (Fld.mk Q4f (Qz p0.fE)), (Fld.mk Q5p (Qz p0.iI))]) (Nat.le_of_ble_eq_true rfl)) (by simp only [Q7x, Fld.Q20, Fld.Q2k]))] (by kernel_rfl)
def Q7b (p0 : List bg) : List bg → Nat → (List Val) → List Val
 | [], _i0, ah =>
  ah
 | x0 :: r0, i0, ah =>
  Q7b p0 r0 (i0 + 1) (ah ++ [(Q3o ([(Fld.mk Q3a (Qz x0.gW)), (Fld.mk Q1z (Qz x0.eH)), (Fld.mk Q3g (Qz x0.fM)), (Fld.mk Q35 (Qz x0.fI))]))])
theorem Q198 (p0 : List bg) : ∀ (l : List bg) (i : Nat) (a : List Val), Q7b p0 l i a = a ++ l.map (fun x0 => (Q3o ([(Fld.mk Q3a (Qz x0.gW)), (Fld.mk Q1z (Qz x0.eH)), (Fld.mk Q3g (Qz x0.fM)), (Fld.mk Q35 (Qz x0.fI))])))
  | [], _, _ => by simp [Q7b]
  | x :: r, i, a => by rw [Q7b, Q198 p0 r]; simp
def Q1fg (p0 : List bg) (i0 : Nat) (ah : List Val) : List PV :=
  [.sl (bg.rows p0), .un, .bx 0 0, .ms 1 5 0 (List.length ah), iN (i0 : Int)] ++ nuns 41
def Qzo (_p0 : List bg) (_i0 : Nat) (ah : List Val) : List Ob :=
  [⟨5, 0, true, [iN 0, iN 0, .str eB, .ms 2 5 0 0, .ms 3 6 0 0]⟩, ⟨5, 0, true, (Val.rows ah).flatten⟩, ⟨5, 0, true, []⟩, ⟨6, 0, true, []⟩]
def Qhh (p0 : List bg) (i0 : Nat) (ah : List Val) : En := .loop 0 Ir.Qla Ir.Q1nv (Q1fg p0 i0 ah) (Qzo p0 i0 ah)
def Qsd (_p0 : List bg) (q0 : List Val) (z : Nat → PV) (_zo : Nat → List PV) : St :=
  ⟨[z 0, z 1, .bx 0 0, .ms 1 5 0 (List.length q0)] ++ zr z 4 42, [(0, ⟨5, 0, true, [iN 0, iN 0, .str eB, .ms 2 5 0 0, .ms 3 6 0 0]⟩), (1, ⟨5, 0, true, (Val.rows q0).flatten⟩), (2, ⟨5, 0, true, []⟩), (3, ⟨6, 0, true, []⟩)], 260⟩
theorem Q16a (p0 : List bg) (i0 : Nat) (ah : List Val) : VOK (Go.Pv.look (number 0 (Qzo p0 i0 ah))) [(1, Val.rows ah)] := (VOK.cons (show Seen _ _ from Q4a (ob := ⟨5, 0, true, (Val.rows ah).flatten⟩) (Val.Q8 ah 5 rfl)) VOK.nil)
def Qj5 (p0 : List bg) (e : En) (q : List Val) : Prop := ∃ z zo, Q0 G e (.st (.exit 0) (Qsd p0 q z zo))
theorem Qx3 (p0 : List bg) {e e' : En} (h : ∀ r, Q0 G e r → Q0 G e' r) : ∀ q, Qj5 p0 e q → Qj5 p0 e' q
  | _, ⟨z, zo, hz⟩ => ⟨z, zo, h _ hz⟩
def Qii (p0 : List bg) : Prop := (List.length p0 ≤ 137438953472) ∧ True
def Quf (p0 : List bg) (i0 : Nat) (_ah : List Val) : List PV :=
  [.sl (bg.rows p0), .un, .un, .un, iN (i0 : Int), iN (i0 : Int), .sl (bg.rows p0), iN ((List.length p0) : Int), .bool false]
def Qn3 (_p0 : List bg) (_i0 : Nat) (_ah : List Val) : List (Nat × List PV) :=
  []
theorem Q1dt (p0 : List bg) (_H : Qii p0) (i0 : Nat) (ah : List Val) (_aP : List.length ah ≤ i0) (bC : (decide ((i0 : Int) < ((List.length p0) : Int))) = false) : Qj5 p0 (Qhh p0 i0 ah) ah := by
 exact ⟨(envF (Quf p0 i0 ah)), (zoF (Qn3 p0 i0 ah)), Qh (Q16a p0 i0 ah) (x := ((.exit 0), Qsd p0 ah (envF (Quf p0 i0 ah)) (zoF (Qn3 p0 i0 ah)))) [hP 2 (Qs _ _ (bg.Q5 p0)), hB 0 bC] [] (by kernel_rfl)⟩
theorem Q1b9 (p0 : List bg) (H : Qii p0) (x0 : bg) (i0 : Nat) (ah : List Val) (bF : p0[i0]? = some x0) (bR : i0 < List.length p0) (aP : List.length ah ≤ i0) (bC : (decide ((i0 : Int) < ((List.length p0) : Int))) = true) {r : Rs} (hr : Q0 G (Qhh p0 (i0 + 1) (ah ++ [(Q3o ([(Fld.mk Q3a (Qz x0.gW)), (Fld.mk Q1z (Qz x0.eH)), (Fld.mk Q3g (Qz x0.fM)), (Fld.mk Q35 (Qz x0.fI))]))])) r) : Q0 G (Qhh p0 i0 ah) r := by
 have hB0 := H.1
 exact Qc (Q16a p0 i0 ah) [hP 2 (Qs _ _ (bg.Q5 p0)), hB 0 bC, hP 3 (Q1l 4 _ i0 _ (bg.Qb bF) rfl), hP 6 (Q1l 4 _ i0 _ (bg.Qb bF) rfl), hP 6 (Q1l 4 _ i0 _ (bg.Qb bF) rfl), hP 6 (Q1l 4 _ i0 _ (bg.Qb bF) rfl), hA 7 1 2244 2308 5 80 0 0 true Val.Q5 Val.Q1n ah (Q3o ([(Fld.mk Q3a (Qz x0.gW)), (Fld.mk Q1z (Qz x0.eH)), (Fld.mk Q3g (Qz x0.fM)), (Fld.mk Q35 (Qz x0.fI))])) (Val.Qw ah) rfl rfl (by omega), hS 0 true (Val.Q8 (ah ++ [(Q3o ([(Fld.mk Q3a (Qz x0.gW)), (Fld.mk Q1z (Qz x0.eH)), (Fld.mk Q3g (Qz x0.fM)), (Fld.mk Q35 (Qz x0.fI))]))]) 5 rfl), hP 2 (Q26 i0 (by omega))] [aN (Q46 x0.gW), aN (Q46 x0.eH), aN (Q46 x0.fM), aN (Q46 x0.fI), aN (Q87 (e' := .call 163 [.sl [(Fld.cells (Fld.mk Q3a (Qz x0.gW))), (Fld.cells (Fld.mk Q1z (Qz x0.eH))), (Fld.cells (Fld.mk Q3g (Qz x0.fM))), (Fld.cells (Fld.mk Q35 (Qz x0.fI)))]] []) (Q8g ([(Fld.mk Q3a (Qz x0.gW)), (Fld.mk Q1z (Qz x0.eH)), (Fld.mk Q3g (Qz x0.fM)), (Fld.mk Q35 (Qz x0.fI))]) (Nat.le_of_ble_eq_true rfl)) (by simp only [Q7x, Fld.Q20, Fld.Q2k]))] hr (by kernel_rfl)
theorem Q12n (p0 : List bg) (H : Qii p0) : ∀ (r0 : List bg) (i0 : Nat) (ah : List Val), List.drop i0 p0 = r0 → List.length ah ≤ i0 → Qj5 p0 (Qhh p0 i0 ah) (Q7b p0 r0 i0 ah)
 | [], i0, ah, hd, aP => by
  have bC : (decide ((i0 : Int) < ((List.length p0) : Int))) = false := by have := Q1o hd; simp; omega
  rw [Q7b]
  exact Q1dt p0 H i0 ah aP bC
 | x0 :: r0, i0, ah, hd, aP => by
  obtain ⟨bF, bR, hd'⟩ := Q1p hd
  have bC : (decide ((i0 : Int) < ((List.length p0) : Int))) = true := by simp; omega
  rw [Q7b]
  exact Qx3 p0 (fun r hr => Q1b9 p0 H x0 i0 ah bF bR aP bC hr) _ (Q12n p0 H r0 _ _ hd' (by first | omega | (simp; omega)))
def Q8x (p0 : List bg) : Val := vL (p0.map bg.enc)
theorem Q2ar (p0 : List bg) : Q8x p0 = ((Val.mk 4 0 eB (Q7b p0 p0 0 []) [])) := by
  rw [Q198]
  kernel_rfl
def Q27n (p0 : List bg) : En := .call 274 [.sl (bg.rows p0)] []
def Q1wu (p0 : List bg) : Rs := .ret (.agg (Val.cells (Q8x p0))) []
def Q1go (p0 : List bg) : Prop := LSm bg.sm p0
theorem Q1lr (p0 : List bg) (H : Q1go p0) : (Qii p0) ∧ True := by
  exact ⟨⟨Nat.le_trans H.1 (Nat.le_of_ble_eq_true rfl), trivial⟩, trivial⟩
theorem Q1rb (p0 : List bg) (H : Q1go p0) : Q0 G (Q27n p0) (Q1wu p0) := by
 unfold Q1wu
 rw [Q2ar]
 have hl0 := Q12n p0 ((Q1lr p0 H).1) p0 0 [] (by simp) (by simp)
 obtain ⟨z0, fA, hl0⟩ := hl0
 exact Q7 (fn := Ir.K2n) (by kernel_rfl) VOK.nil [hS 0 true (Val.Q8 (Q7b p0 p0 0 []) 5 rfl), hQ (Val.Q5 (Q7b p0 p0 0 [])).symm] [aV [(1, Val.rows (Q7b p0 p0 0 []))] hl0] (by kernel_rfl)
def Q76 (p0 : List aH) : List aH → Nat → (List Val) → List Val
 | [], _i0, ah =>
  ah
 | x0 :: r0, i0, ah =>
  Q76 p0 r0 (i0 + 1) (ah ++ [(Q3o ([(Fld.mk Ql (Q2q x0.name)), (Fld.mk Qt (Q2q x0.gX)), (Fld.mk Qe (Qce x0.eO)), (Fld.mk Q1f (Qce x0.gG)), (Fld.mk Q2b (Q8x x0.live)), (Fld.mk Q14 (Q8x x0.ready)), (Fld.mk Q1m (Q8x x0.eY))]))])
theorem Q193 (p0 : List aH) : ∀ (l : List aH) (i : Nat) (a : List Val), Q76 p0 l i a = a ++ l.map (fun x0 => (Q3o ([(Fld.mk Ql (Q2q x0.name)), (Fld.mk Qt (Q2q x0.gX)), (Fld.mk Qe (Qce x0.eO)), (Fld.mk Q1f (Qce x0.gG)), (Fld.mk Q2b (Q8x x0.live)), (Fld.mk Q14 (Q8x x0.ready)), (Fld.mk Q1m (Q8x x0.eY))])))
  | [], _, _ => by simp [Q76]
  | x :: r, i, a => by rw [Q76, Q193 p0 r]; simp
def Q1f9 (p0 : List aH) (i0 : Nat) (ah : List Val) : List PV :=
  [.sl (aH.rows p0), .un, .bx 0 0, .ms 1 5 0 (List.length ah), iN (i0 : Int)] ++ nuns 46
def Qzh (_p0 : List aH) (_i0 : Nat) (ah : List Val) : List Ob :=
  [⟨5, 0, true, [iN 0, iN 0, .str eB, .ms 2 5 0 0, .ms 3 6 0 0]⟩, ⟨5, 0, true, (Val.rows ah).flatten⟩, ⟨5, 0, true, []⟩, ⟨6, 0, true, []⟩]
def Qhc (p0 : List aH) (i0 : Nat) (ah : List Val) : En := .loop 0 Ir.Ql3 Ir.Q1no (Q1f9 p0 i0 ah) (Qzh p0 i0 ah)
def Qs7 (_p0 : List aH) (q0 : List Val) (z : Nat → PV) (_zo : Nat → List PV) : St :=
  ⟨[z 0, z 1, .bx 0 0, .ms 1 5 0 (List.length q0)] ++ zr z 4 47, [(0, ⟨5, 0, true, [iN 0, iN 0, .str eB, .ms 2 5 0 0, .ms 3 6 0 0]⟩), (1, ⟨5, 0, true, (Val.rows q0).flatten⟩), (2, ⟨5, 0, true, []⟩), (3, ⟨6, 0, true, []⟩)], 260⟩
theorem Q165 (p0 : List aH) (i0 : Nat) (ah : List Val) : VOK (Go.Pv.look (number 0 (Qzh p0 i0 ah))) [(1, Val.rows ah)] := (VOK.cons (show Seen _ _ from Q4a (ob := ⟨5, 0, true, (Val.rows ah).flatten⟩) (Val.Q8 ah 5 rfl)) VOK.nil)
def Qiz (p0 : List aH) (e : En) (q : List Val) : Prop := ∃ z zo, Q0 G e (.st (.exit 0) (Qs7 p0 q z zo))
theorem Qwx (p0 : List aH) {e e' : En} (h : ∀ r, Q0 G e r → Q0 G e' r) : ∀ q, Qiz p0 e q → Qiz p0 e' q
  | _, ⟨z, zo, hz⟩ => ⟨z, zo, h _ hz⟩
def Qid (p0 : List aH) : Prop := (List.length p0 ≤ 137438953472) ∧ (∀ x0 ∈ p0, Q1go x0.live) ∧ (∀ x0 ∈ p0, Q1go x0.ready) ∧ (∀ x0 ∈ p0, Q1go x0.eY) ∧ True
def Qu6 (p0 : List aH) (i0 : Nat) (_ah : List Val) : List PV :=
  [.sl (aH.rows p0), .un, .un, .un, iN (i0 : Int), .un, iN (i0 : Int), .sl (aH.rows p0), iN ((List.length p0) : Int), .bool false]
def Qmv (_p0 : List aH) (_i0 : Nat) (_ah : List Val) : List (Nat × List PV) :=
  []
theorem Q1dl (p0 : List aH) (_H : Qid p0) (i0 : Nat) (ah : List Val) (_aP : List.length ah ≤ i0) (bC : (decide ((i0 : Int) < ((List.length p0) : Int))) = false) : Qiz p0 (Qhc p0 i0 ah) ah := by
 exact ⟨(envF (Qu6 p0 i0 ah)), (zoF (Qmv p0 i0 ah)), Qh (Q165 p0 i0 ah) (x := ((.exit 0), Qs7 p0 ah (envF (Qu6 p0 i0 ah)) (zoF (Qmv p0 i0 ah)))) [hP 2 (Qs _ _ (aH.Q5 p0)), hB 0 bC] [] (by kernel_rfl)⟩
theorem Q1b1 (p0 : List aH) (H : Qid p0) (x0 : aH) (i0 : Nat) (ah : List Val) (bF : p0[i0]? = some x0) (bR : i0 < List.length p0) (aP : List.length ah ≤ i0) (bC : (decide ((i0 : Int) < ((List.length p0) : Int))) = true) {r : Rs} (hr : Q0 G (Qhc p0 (i0 + 1) (ah ++ [(Q3o ([(Fld.mk Ql (Q2q x0.name)), (Fld.mk Qt (Q2q x0.gX)), (Fld.mk Qe (Qce x0.eO)), (Fld.mk Q1f (Qce x0.gG)), (Fld.mk Q2b (Q8x x0.live)), (Fld.mk Q14 (Q8x x0.ready)), (Fld.mk Q1m (Q8x x0.eY))]))])) r) : Q0 G (Qhc p0 i0 ah) r := by
 have hB0 := H.1
 exact Qc (Q165 p0 i0 ah) [hP 2 (Qs _ _ (aH.Q5 p0)), hB 0 bC, hP 2 (Q1l 11 _ i0 _ (aH.Qb bF) rfl), hA 35 1 2628 2692 5 80 0 0 true Val.Q5 Val.Q1n ah (Q3o ([(Fld.mk Ql (Q2q x0.name)), (Fld.mk Qt (Q2q x0.gX)), (Fld.mk Qe (Qce x0.eO)), (Fld.mk Q1f (Qce x0.gG)), (Fld.mk Q2b (Q8x x0.live)), (Fld.mk Q14 (Q8x x0.ready)), (Fld.mk Q1m (Q8x x0.eY))])) (Val.Qw ah) rfl rfl (by omega), hS 0 true (Val.Q8 (ah ++ [(Q3o ([(Fld.mk Ql (Q2q x0.name)), (Fld.mk Qt (Q2q x0.gX)), (Fld.mk Qe (Qce x0.eO)), (Fld.mk Q1f (Qce x0.gG)), (Fld.mk Q2b (Q8x x0.live)), (Fld.mk Q14 (Q8x x0.ready)), (Fld.mk Q1m (Q8x x0.eY))]))]) 5 rfl), hP 2 (Q26 i0 (by omega))] [aN (Qch x0.name), aN (Qch x0.gX), aN (Q20g x0.eO), aN (Q20g x0.gG), aN (Q1rb x0.live (H.2.1 x0 (Q1i bF))), aN (Q1rb x0.ready (H.2.2.1 x0 (Q1i bF))), aN (Q1rb x0.eY (H.2.2.2.1 x0 (Q1i bF))), aN (Q87 (e' := .call 163 [.sl [(Fld.cells (Fld.mk Ql (Q2q x0.name))), (Fld.cells (Fld.mk Qt (Q2q x0.gX))), (Fld.cells (Fld.mk Qe (Qce x0.eO))), (Fld.cells (Fld.mk Q1f (Qce x0.gG))), (Fld.cells (Fld.mk Q2b (Q8x x0.live))), (Fld.cells (Fld.mk Q14 (Q8x x0.ready))), (Fld.cells (Fld.mk Q1m (Q8x x0.eY)))]] []) (Q8g ([(Fld.mk Ql (Q2q x0.name)), (Fld.mk Qt (Q2q x0.gX)), (Fld.mk Qe (Qce x0.eO)), (Fld.mk Q1f (Qce x0.gG)), (Fld.mk Q2b (Q8x x0.live)), (Fld.mk Q14 (Q8x x0.ready)), (Fld.mk Q1m (Q8x x0.eY))]) (Nat.le_of_ble_eq_true rfl)) (by simp only [Q7x, Fld.Q20, Fld.Q2k]))] hr (by kernel_rfl)
theorem Q12h (p0 : List aH) (H : Qid p0) : ∀ (r0 : List aH) (i0 : Nat) (ah : List Val), List.drop i0 p0 = r0 → List.length ah ≤ i0 → Qiz p0 (Qhc p0 i0 ah) (Q76 p0 r0 i0 ah)
 | [], i0, ah, hd, aP => by
  have bC : (decide ((i0 : Int) < ((List.length p0) : Int))) = false := by have := Q1o hd; simp; omega
  rw [Q76]
  exact Q1dl p0 H i0 ah aP bC
 | x0 :: r0, i0, ah, hd, aP => by
  obtain ⟨bF, bR, hd'⟩ := Q1p hd
  have bC : (decide ((i0 : Int) < ((List.length p0) : Int))) = true := by simp; omega
  rw [Q76]
  exact Qwx p0 (fun r hr => Q1b1 p0 H x0 i0 ah bF bR aP bC hr) _ (Q12h p0 H r0 _ _ hd' (by first | omega | (simp; omega)))
def Q1iv (p0 : List aH) : Val := vL (p0.map aH.enc)
theorem Q2ah (p0 : List aH) : Q1iv p0 = ((Val.mk 4 0 eB (Q76 p0 p0 0 []) [])) := by
  rw [Q193]
  kernel_rfl
def Q27c (p0 : List aH) : En := .call 233 [.sl (aH.rows p0)] []
def Q1wi (p0 : List aH) : Rs := .ret (.agg (Val.cells (Q1iv p0))) []
def Q1pg (p0 : List aH) : Prop := LSm aH.sm p0
theorem Q1lj (p0 : List aH) (H : Q1pg p0) : (Qid p0) ∧ True := by
  exact ⟨⟨Nat.le_trans H.1 (Nat.le_of_ble_eq_true rfl), (by first | exact H.2 | exact fun x hx => (H.2 x hx).1 | exact fun x hx => (H.2 x hx).2.1 | exact fun x hx => (H.2 x hx).2.2.1 | exact fun x hx => (H.2 x hx).2.2.2.1 | exact fun x hx => (H.2 x hx).2.2.2.2.1), (by first | exact H.2 | exact fun x hx => (H.2 x hx).1 | exact fun x hx => (H.2 x hx).2.1 | exact fun x hx => (H.2 x hx).2.2.1 | exact fun x hx => (H.2 x hx).2.2.2.1 | exact fun x hx => (H.2 x hx).2.2.2.2.1), (by first | exact H.2 | exact fun x hx => (H.2 x hx).1 | exact fun x hx => (H.2 x hx).2.1 | exact fun x hx => (H.2 x hx).2.2.1 | exact fun x hx => (H.2 x hx).2.2.2.1 | exact fun x hx => (H.2 x hx).2.2.2.2.1), trivial⟩, trivial⟩
theorem Q2ff (p0 : List aH) (H : Q1pg p0) : Q0 G (Q27c p0) (Q1wi p0) := by
 unfold Q1wi
 rw [Q2ah]
 have hl0 := Q12h p0 ((Q1lj p0 H).1) p0 0 [] (by simp) (by simp)
 obtain ⟨z0, fA, hl0⟩ := hl0
 exact Q7 (fn := Ir.K27) (by kernel_rfl) VOK.nil [hS 0 true (Val.Q8 (Q76 p0 p0 0 []) 5 rfl), hQ (Val.Q5 (Q76 p0 p0 0 [])).symm] [aV [(1, Val.rows (Q76 p0 p0 0 []))] hl0] (by kernel_rfl)
def Q45 (p0 : Bool) : Val := vB p0
theorem Q2ae (p0 : Bool) : Q45 p0 = (bif p0 then
    (Val.mk 1 1 eB [] [])
  else
    (Val.mk 1 0 eB [] [])) := by
  cases p0 <;> rfl
def Q279 (p0 : Bool) : En := .call 167 [.bool p0] []
def Q1wf (p0 : Bool) : Rs := .ret (.agg (Val.cells (Q45 p0))) []
theorem Qgx (p0 : Bool) : Q0 G (Q279 p0) (Q1wf p0) := by
 unfold Q1wf
 rw [Q2ae]
 cases h0 : p0 with
 | true =>
  exact Q7 (fn := Ir.K24) (by kernel_rfl) VOK.nil [] [] (by kernel_rfl)
 | false =>
  exact Q7 (fn := Ir.K24) (by kernel_rfl) VOK.nil [] [] (by kernel_rfl)
def Q79 (p0 : List aK) : List aK → Nat → (List Val) → List Val
 | [], _i0, ah =>
  ah
 | x0 :: r0, i0, ah =>
  Q79 p0 r0 (i0 + 1) (ah ++ [(Q3o ([(Fld.mk Qa (Q45 x0.bV)), (Fld.mk Q6 (Q6g x0.bG)), (Fld.mk Q1j (Qz x0.dW))]))])
theorem Q196 (p0 : List aK) : ∀ (l : List aK) (i : Nat) (a : List Val), Q79 p0 l i a = a ++ l.map (fun x0 => (Q3o ([(Fld.mk Qa (Q45 x0.bV)), (Fld.mk Q6 (Q6g x0.bG)), (Fld.mk Q1j (Qz x0.dW))])))
  | [], _, _ => by simp [Q79]
  | x :: r, i, a => by rw [Q79, Q196 p0 r]; simp
def Q1fe (p0 : List aK) (i0 : Nat) (ah : List Val) : List PV :=
  [.sl (aK.rows p0), .un, .bx 0 0, .ms 1 5 0 (List.length ah), iN (i0 : Int)] ++ nuns 34
def Qzm (_p0 : List aK) (_i0 : Nat) (ah : List Val) : List Ob :=
  [⟨5, 0, true, [iN 0, iN 0, .str eB, .ms 2 5 0 0, .ms 3 6 0 0]⟩, ⟨5, 0, true, (Val.rows ah).flatten⟩, ⟨5, 0, true, []⟩, ⟨6, 0, true, []⟩]
def Qhf (p0 : List aK) (i0 : Nat) (ah : List Val) : En := .loop 0 Ir.Ql8 Ir.Q1nt (Q1fe p0 i0 ah) (Qzm p0 i0 ah)
def Qsb (_p0 : List aK) (q0 : List Val) (z : Nat → PV) (_zo : Nat → List PV) : St :=
  ⟨[z 0, z 1, .bx 0 0, .ms 1 5 0 (List.length q0)] ++ zr z 4 35, [(0, ⟨5, 0, true, [iN 0, iN 0, .str eB, .ms 2 5 0 0, .ms 3 6 0 0]⟩), (1, ⟨5, 0, true, (Val.rows q0).flatten⟩), (2, ⟨5, 0, true, []⟩), (3, ⟨6, 0, true, []⟩)], 260⟩
theorem Q168 (p0 : List aK) (i0 : Nat) (ah : List Val) : VOK (Go.Pv.look (number 0 (Qzm p0 i0 ah))) [(1, Val.rows ah)] := (VOK.cons (show Seen _ _ from Q4a (ob := ⟨5, 0, true, (Val.rows ah).flatten⟩) (Val.Q8 ah 5 rfl)) VOK.nil)
def Qj3 (p0 : List aK) (e : En) (q : List Val) : Prop := ∃ z zo, Q0 G e (.st (.exit 0) (Qsb p0 q z zo))
theorem Qx1 (p0 : List aK) {e e' : En} (h : ∀ r, Q0 G e r → Q0 G e' r) : ∀ q, Qj3 p0 e q → Qj3 p0 e' q
  | _, ⟨z, zo, hz⟩ => ⟨z, zo, h _ hz⟩
def Qig (p0 : List aK) : Prop := (List.length p0 ≤ 137438953472) ∧ (∀ x0 ∈ p0, Q10k x0.bG) ∧ True
def Qud (p0 : List aK) (i0 : Nat) (_ah : List Val) : List PV :=
  [.sl (aK.rows p0), .un, .un, .un, iN (i0 : Int), iN (i0 : Int), .sl (aK.rows p0), iN ((List.length p0) : Int), .bool false]
def Qn1 (_p0 : List aK) (_i0 : Nat) (_ah : List Val) : List (Nat × List PV) :=
  []
theorem Q1dr (p0 : List aK) (_H : Qig p0) (i0 : Nat) (ah : List Val) (_aP : List.length ah ≤ i0) (bC : (decide ((i0 : Int) < ((List.length p0) : Int))) = false) : Qj3 p0 (Qhf p0 i0 ah) ah := by
 exact ⟨(envF (Qud p0 i0 ah)), (zoF (Qn1 p0 i0 ah)), Qh (Q168 p0 i0 ah) (x := ((.exit 0), Qsb p0 ah (envF (Qud p0 i0 ah)) (zoF (Qn1 p0 i0 ah)))) [hP 2 (Qs _ _ (aK.Q5 p0)), hB 0 bC] [] (by kernel_rfl)⟩
theorem Q1b7 (p0 : List aK) (H : Qig p0) (x0 : aK) (i0 : Nat) (ah : List Val) (bF : p0[i0]? = some x0) (bR : i0 < List.length p0) (aP : List.length ah ≤ i0) (bC : (decide ((i0 : Int) < ((List.length p0) : Int))) = true) {r : Rs} (hr : Q0 G (Qhf p0 (i0 + 1) (ah ++ [(Q3o ([(Fld.mk Qa (Q45 x0.bV)), (Fld.mk Q6 (Q6g x0.bG)), (Fld.mk Q1j (Qz x0.dW))]))])) r) : Q0 G (Qhf p0 i0 ah) r := by
 have hB0 := H.1
 exact Qc (Q168 p0 i0 ah) [hP 2 (Qs _ _ (aK.Q5 p0)), hB 0 bC, hP 3 (Q1l 3 _ i0 _ (aK.Qb bF) rfl), hP 6 (Q1l 3 _ i0 _ (aK.Qb bF) rfl), hP 6 (Q1l 3 _ i0 _ (aK.Qb bF) rfl), hA 7 1 1796 1860 5 80 0 0 true Val.Q5 Val.Q1n ah (Q3o ([(Fld.mk Qa (Q45 x0.bV)), (Fld.mk Q6 (Q6g x0.bG)), (Fld.mk Q1j (Qz x0.dW))])) (Val.Qw ah) rfl rfl (by omega), hS 0 true (Val.Q8 (ah ++ [(Q3o ([(Fld.mk Qa (Q45 x0.bV)), (Fld.mk Q6 (Q6g x0.bG)), (Fld.mk Q1j (Qz x0.dW))]))]) 5 rfl), hP 2 (Q26 i0 (by omega))] [aN (Qgx x0.bV), aN (Q1cu x0.bG (H.2.1 x0 (Q1i bF))), aN (Q46 x0.dW), aN (Q87 (e' := .call 163 [.sl [(Fld.cells (Fld.mk Qa (Q45 x0.bV))), (Fld.cells (Fld.mk Q6 (Q6g x0.bG))), (Fld.cells (Fld.mk Q1j (Qz x0.dW)))]] []) (Q8g ([(Fld.mk Qa (Q45 x0.bV)), (Fld.mk Q6 (Q6g x0.bG)), (Fld.mk Q1j (Qz x0.dW))]) (Nat.le_of_ble_eq_true rfl)) (by simp only [Q7x, Fld.Q20, Fld.Q2k]))] hr (by kernel_rfl)
theorem Q12l (p0 : List aK) (H : Qig p0) : ∀ (r0 : List aK) (i0 : Nat) (ah : List Val), List.drop i0 p0 = r0 → List.length ah ≤ i0 → Qj3 p0 (Qhf p0 i0 ah) (Q79 p0 r0 i0 ah)
 | [], i0, ah, hd, aP => by
  have bC : (decide ((i0 : Int) < ((List.length p0) : Int))) = false := by have := Q1o hd; simp; omega
  rw [Q79]
  exact Q1dr p0 H i0 ah aP bC
 | x0 :: r0, i0, ah, hd, aP => by
  obtain ⟨bF, bR, hd'⟩ := Q1p hd
  have bC : (decide ((i0 : Int) < ((List.length p0) : Int))) = true := by simp; omega
  rw [Q79]
  exact Qx1 p0 (fun r hr => Q1b7 p0 H x0 i0 ah bF bR aP bC hr) _ (Q12l p0 H r0 _ _ hd' (by first | omega | (simp; omega)))
def Q1iy (p0 : List aK) : Val := vL (p0.map aK.enc)
theorem Q2ao (p0 : List aK) : Q1iy p0 = ((Val.mk 4 0 eB (Q79 p0 p0 0 []) [])) := by
  rw [Q196]
  kernel_rfl
def Q27k (p0 : List aK) : En := .call 234 [.sl (aK.rows p0)] []
def Q1wr (p0 : List aK) : Rs := .ret (.agg (Val.cells (Q1iy p0))) []
def Q1pm (p0 : List aK) : Prop := LSm aK.sm p0
theorem Q1lp (p0 : List aK) (H : Q1pm p0) : (Qig p0) ∧ True := by
  exact ⟨⟨Nat.le_trans H.1 (Nat.le_of_ble_eq_true rfl), (by first | exact H.2 | exact fun x hx => (H.2 x hx).1 | exact fun x hx => (H.2 x hx).2.1 | exact fun x hx => (H.2 x hx).2.2.1 | exact fun x hx => (H.2 x hx).2.2.2.1 | exact fun x hx => (H.2 x hx).2.2.2.2.1), trivial⟩, trivial⟩
theorem Q2fl (p0 : List aK) (H : Q1pm p0) : Q0 G (Q27k p0) (Q1wr p0) := by
 unfold Q1wr
 rw [Q2ao]
 have hl0 := Q12l p0 ((Q1lp p0 H).1) p0 0 [] (by simp) (by simp)
 obtain ⟨z0, fA, hl0⟩ := hl0
 exact Q7 (fn := Ir.K2j) (by kernel_rfl) VOK.nil [hS 0 true (Val.Q8 (Q79 p0 p0 0 []) 5 rfl), hQ (Val.Q5 (Q79 p0 p0 0 [])).symm] [aV [(1, Val.rows (Q79 p0 p0 0 []))] hl0] (by kernel_rfl)
def Q7a (p0 : List aQ) : List aQ → Nat → (List Val) → List Val
 | [], _i0, ah =>
  ah
 | x0 :: r0, i0, ah =>
  Q7a p0 r0 (i0 + 1) (ah ++ [(Q3o ([(Fld.mk Qa (Q45 x0.bV)), (Fld.mk Q2x (Q45 x0.iH)), (Fld.mk Q6 (Q6g x0.bG)), (Fld.mk Qo (Q2q x0.dw)), (Fld.mk Q1j (Qz x0.dW))]))])
theorem Q197 (p0 : List aQ) : ∀ (l : List aQ) (i : Nat) (a : List Val), Q7a p0 l i a = a ++ l.map (fun x0 => (Q3o ([(Fld.mk Qa (Q45 x0.bV)), (Fld.mk Q2x (Q45 x0.iH)), (Fld.mk Q6 (Q6g x0.bG)), (Fld.mk Qo (Q2q x0.dw)), (Fld.mk Q1j (Qz x0.dW))])))
  | [], _, _ => by simp [Q7a]
  | x :: r, i, a => by rw [Q7a, Q197 p0 r]; simp
def Q1ff (p0 : List aQ) (i0 : Nat) (ah : List Val) : List PV :=
  [.sl (aQ.rows p0), .un, .bx 0 0, .ms 1 5 0 (List.length ah), iN (i0 : Int)] ++ nuns 38
def Qzn (_p0 : List aQ) (_i0 : Nat) (ah : List Val) : List Ob :=
  [⟨5, 0, true, [iN 0, iN 0, .str eB, .ms 2 5 0 0, .ms 3 6 0 0]⟩, ⟨5, 0, true, (Val.rows ah).flatten⟩, ⟨5, 0, true, []⟩, ⟨6, 0, true, []⟩]
def Qhg (p0 : List aQ) (i0 : Nat) (ah : List Val) : En := .loop 0 Ir.Ql9 Ir.Q1nu (Q1ff p0 i0 ah) (Qzn p0 i0 ah)
def Qsc (_p0 : List aQ) (q0 : List Val) (z : Nat → PV) (_zo : Nat → List PV) : St :=
  ⟨[z 0, z 1, .bx 0 0, .ms 1 5 0 (List.length q0)] ++ zr z 4 39, [(0, ⟨5, 0, true, [iN 0, iN 0, .str eB, .ms 2 5 0 0, .ms 3 6 0 0]⟩), (1, ⟨5, 0, true, (Val.rows q0).flatten⟩), (2, ⟨5, 0, true, []⟩), (3, ⟨6, 0, true, []⟩)], 260⟩
theorem Q169 (p0 : List aQ) (i0 : Nat) (ah : List Val) : VOK (Go.Pv.look (number 0 (Qzn p0 i0 ah))) [(1, Val.rows ah)] := (VOK.cons (show Seen _ _ from Q4a (ob := ⟨5, 0, true, (Val.rows ah).flatten⟩) (Val.Q8 ah 5 rfl)) VOK.nil)
def Qj4 (p0 : List aQ) (e : En) (q : List Val) : Prop := ∃ z zo, Q0 G e (.st (.exit 0) (Qsc p0 q z zo))
theorem Qx2 (p0 : List aQ) {e e' : En} (h : ∀ r, Q0 G e r → Q0 G e' r) : ∀ q, Qj4 p0 e q → Qj4 p0 e' q
  | _, ⟨z, zo, hz⟩ => ⟨z, zo, h _ hz⟩
def Qih (p0 : List aQ) : Prop := (List.length p0 ≤ 137438953472) ∧ (∀ x0 ∈ p0, Q10k x0.bG) ∧ True
def Que (p0 : List aQ) (i0 : Nat) (_ah : List Val) : List PV :=
  [.sl (aQ.rows p0), .un, .un, .un, iN (i0 : Int), .un, iN (i0 : Int), .sl (aQ.rows p0), iN ((List.length p0) : Int), .bool false]
def Qn2 (_p0 : List aQ) (_i0 : Nat) (_ah : List Val) : List (Nat × List PV) :=
  []
theorem Q1ds (p0 : List aQ) (_H : Qih p0) (i0 : Nat) (ah : List Val) (_aP : List.length ah ≤ i0) (bC : (decide ((i0 : Int) < ((List.length p0) : Int))) = false) : Qj4 p0 (Qhg p0 i0 ah) ah := by
 exact ⟨(envF (Que p0 i0 ah)), (zoF (Qn2 p0 i0 ah)), Qh (Q169 p0 i0 ah) (x := ((.exit 0), Qsc p0 ah (envF (Que p0 i0 ah)) (zoF (Qn2 p0 i0 ah)))) [hP 2 (Qs _ _ (aQ.Q5 p0)), hB 0 bC] [] (by kernel_rfl)⟩
theorem Q1b8 (p0 : List aQ) (H : Qih p0) (x0 : aQ) (i0 : Nat) (ah : List Val) (bF : p0[i0]? = some x0) (bR : i0 < List.length p0) (aP : List.length ah ≤ i0) (bC : (decide ((i0 : Int) < ((List.length p0) : Int))) = true) {r : Rs} (hr : Q0 G (Qhg p0 (i0 + 1) (ah ++ [(Q3o ([(Fld.mk Qa (Q45 x0.bV)), (Fld.mk Q2x (Q45 x0.iH)), (Fld.mk Q6 (Q6g x0.bG)), (Fld.mk Qo (Q2q x0.dw)), (Fld.mk Q1j (Qz x0.dW))]))])) r) : Q0 G (Qhg p0 i0 ah) r := by
 have hB0 := H.1
 exact Qc (Q169 p0 i0 ah) [hP 2 (Qs _ _ (aQ.Q5 p0)), hB 0 bC, hP 2 (Q1l 5 _ i0 _ (aQ.Qb bF) rfl), hA 27 1 2116 2180 5 80 0 0 true Val.Q5 Val.Q1n ah (Q3o ([(Fld.mk Qa (Q45 x0.bV)), (Fld.mk Q2x (Q45 x0.iH)), (Fld.mk Q6 (Q6g x0.bG)), (Fld.mk Qo (Q2q x0.dw)), (Fld.mk Q1j (Qz x0.dW))])) (Val.Qw ah) rfl rfl (by omega), hS 0 true (Val.Q8 (ah ++ [(Q3o ([(Fld.mk Qa (Q45 x0.bV)), (Fld.mk Q2x (Q45 x0.iH)), (Fld.mk Q6 (Q6g x0.bG)), (Fld.mk Qo (Q2q x0.dw)), (Fld.mk Q1j (Qz x0.dW))]))]) 5 rfl), hP 2 (Q26 i0 (by omega))] [aN (Qgx x0.bV), aN (Qgx x0.iH), aN (Q1cu x0.bG (H.2.1 x0 (Q1i bF))), aN (Qch x0.dw), aN (Q46 x0.dW), aN (Q87 (e' := .call 163 [.sl [(Fld.cells (Fld.mk Qa (Q45 x0.bV))), (Fld.cells (Fld.mk Q2x (Q45 x0.iH))), (Fld.cells (Fld.mk Q6 (Q6g x0.bG))), (Fld.cells (Fld.mk Qo (Q2q x0.dw))), (Fld.cells (Fld.mk Q1j (Qz x0.dW)))]] []) (Q8g ([(Fld.mk Qa (Q45 x0.bV)), (Fld.mk Q2x (Q45 x0.iH)), (Fld.mk Q6 (Q6g x0.bG)), (Fld.mk Qo (Q2q x0.dw)), (Fld.mk Q1j (Qz x0.dW))]) (Nat.le_of_ble_eq_true rfl)) (by simp only [Q7x, Fld.Q20, Fld.Q2k]))] hr (by kernel_rfl)
theorem Q12m (p0 : List aQ) (H : Qih p0) : ∀ (r0 : List aQ) (i0 : Nat) (ah : List Val), List.drop i0 p0 = r0 → List.length ah ≤ i0 → Qj4 p0 (Qhg p0 i0 ah) (Q7a p0 r0 i0 ah)
 | [], i0, ah, hd, aP => by
  have bC : (decide ((i0 : Int) < ((List.length p0) : Int))) = false := by have := Q1o hd; simp; omega
  rw [Q7a]
  exact Q1ds p0 H i0 ah aP bC
 | x0 :: r0, i0, ah, hd, aP => by
  obtain ⟨bF, bR, hd'⟩ := Q1p hd
  have bC : (decide ((i0 : Int) < ((List.length p0) : Int))) = true := by simp; omega
  rw [Q7a]
  exact Qx2 p0 (fun r hr => Q1b8 p0 H x0 i0 ah bF bR aP bC hr) _ (Q12m p0 H r0 _ _ hd' (by first | omega | (simp; omega)))
def Q1j0 (p0 : List aQ) : Val := vL (p0.map aQ.enc)
theorem Q2aq (p0 : List aQ) : Q1j0 p0 = ((Val.mk 4 0 eB (Q7a p0 p0 0 []) [])) := by
  rw [Q197]
  kernel_rfl
def Q27m (p0 : List aQ) : En := .call 235 [.sl (aQ.rows p0)] []
def Q1wt (p0 : List aQ) : Rs := .ret (.agg (Val.cells (Q1j0 p0))) []
def Q1po (p0 : List aQ) : Prop := LSm aQ.sm p0
theorem Q1lq (p0 : List aQ) (H : Q1po p0) : (Qih p0) ∧ True := by
  exact ⟨⟨Nat.le_trans H.1 (Nat.le_of_ble_eq_true rfl), (by first | exact H.2 | exact fun x hx => (H.2 x hx).1 | exact fun x hx => (H.2 x hx).2.1 | exact fun x hx => (H.2 x hx).2.2.1 | exact fun x hx => (H.2 x hx).2.2.2.1 | exact fun x hx => (H.2 x hx).2.2.2.2.1), trivial⟩, trivial⟩
theorem Q2fn (p0 : List aQ) (H : Q1po p0) : Q0 G (Q27m p0) (Q1wt p0) := by
 unfold Q1wt
 rw [Q2aq]
 have hl0 := Q12m p0 ((Q1lq p0 H).1) p0 0 [] (by simp) (by simp)
 obtain ⟨z0, fA, hl0⟩ := hl0
 exact Q7 (fn := Ir.K2l) (by kernel_rfl) VOK.nil [hS 0 true (Val.Q8 (Q7a p0 p0 0 []) 5 rfl), hQ (Val.Q5 (Q7a p0 p0 0 [])).symm] [aV [(1, Val.rows (Q7a p0 p0 0 []))] hl0] (by kernel_rfl)
def Q7d (p0 : List aD) : List aD → Nat → (List Val) → List Val
 | [], _i0, ah =>
  ah
 | x0 :: r0, i0, ah =>
  Q7d p0 r0 (i0 + 1) (ah ++ [(Q3o ([(Fld.mk Q1v (Qz x0.fJ)), (Fld.mk Qo (Q2q x0.dw)), (Fld.mk Q6 (Q6g x0.bG)), (Fld.mk Qa (Q45 x0.bV))]))])
theorem Q19a (p0 : List aD) : ∀ (l : List aD) (i : Nat) (a : List Val), Q7d p0 l i a = a ++ l.map (fun x0 => (Q3o ([(Fld.mk Q1v (Qz x0.fJ)), (Fld.mk Qo (Q2q x0.dw)), (Fld.mk Q6 (Q6g x0.bG)), (Fld.mk Qa (Q45 x0.bV))])))
  | [], _, _ => by simp [Q7d]
  | x :: r, i, a => by rw [Q7d, Q19a p0 r]; simp
def Q1fi (p0 : List aD) (i0 : Nat) (ah : List Val) : List PV :=
  [.sl (aD.rows p0), .un, .bx 0 0, .ms 1 5 0 (List.length ah), iN (i0 : Int)] ++ nuns 34
def Qzq (_p0 : List aD) (_i0 : Nat) (ah : List Val) : List Ob :=
  [⟨5, 0, true, [iN 0, iN 0, .str eB, .ms 2 5 0 0, .ms 3 6 0 0]⟩, ⟨5, 0, true, (Val.rows ah).flatten⟩, ⟨5, 0, true, []⟩, ⟨6, 0, true, []⟩]
def Qhj (p0 : List aD) (i0 : Nat) (ah : List Val) : En := .loop 0 Ir.Qlc Ir.Q1nx (Q1fi p0 i0 ah) (Qzq p0 i0 ah)
def Qsf (_p0 : List aD) (q0 : List Val) (z : Nat → PV) (_zo : Nat → List PV) : St :=
  ⟨[z 0, z 1, .bx 0 0, .ms 1 5 0 (List.length q0)] ++ zr z 4 35, [(0, ⟨5, 0, true, [iN 0, iN 0, .str eB, .ms 2 5 0 0, .ms 3 6 0 0]⟩), (1, ⟨5, 0, true, (Val.rows q0).flatten⟩), (2, ⟨5, 0, true, []⟩), (3, ⟨6, 0, true, []⟩)], 260⟩
theorem Q16c (p0 : List aD) (i0 : Nat) (ah : List Val) : VOK (Go.Pv.look (number 0 (Qzq p0 i0 ah))) [(1, Val.rows ah)] := (VOK.cons (show Seen _ _ from Q4a (ob := ⟨5, 0, true, (Val.rows ah).flatten⟩) (Val.Q8 ah 5 rfl)) VOK.nil)
def Qj7 (p0 : List aD) (e : En) (q : List Val) : Prop := ∃ z zo, Q0 G e (.st (.exit 0) (Qsf p0 q z zo))
theorem Qx5 (p0 : List aD) {e e' : En} (h : ∀ r, Q0 G e r → Q0 G e' r) : ∀ q, Qj7 p0 e q → Qj7 p0 e' q
  | _, ⟨z, zo, hz⟩ => ⟨z, zo, h _ hz⟩
def Qik (p0 : List aD) : Prop := (List.length p0 ≤ 137438953472) ∧ (∀ x0 ∈ p0, Q10k x0.bG) ∧ True
def Quh (p0 : List aD) (i0 : Nat) (_ah : List Val) : List PV :=
  [.sl (aD.rows p0), .un, .un, .un, iN (i0 : Int), .un, iN (i0 : Int), .sl (aD.rows p0), iN ((List.length p0) : Int), .bool false]
def Qn5 (_p0 : List aD) (_i0 : Nat) (_ah : List Val) : List (Nat × List PV) :=
  []
theorem Q1dv (p0 : List aD) (_H : Qik p0) (i0 : Nat) (ah : List Val) (_aP : List.length ah ≤ i0) (bC : (decide ((i0 : Int) < ((List.length p0) : Int))) = false) : Qj7 p0 (Qhj p0 i0 ah) ah := by
 exact ⟨(envF (Quh p0 i0 ah)), (zoF (Qn5 p0 i0 ah)), Qh (Q16c p0 i0 ah) (x := ((.exit 0), Qsf p0 ah (envF (Quh p0 i0 ah)) (zoF (Qn5 p0 i0 ah)))) [hP 2 (Qs _ _ (aD.Q5 p0)), hB 0 bC] [] (by kernel_rfl)⟩
theorem Q1bb (p0 : List aD) (H : Qik p0) (x0 : aD) (i0 : Nat) (ah : List Val) (bF : p0[i0]? = some x0) (bR : i0 < List.length p0) (aP : List.length ah ≤ i0) (bC : (decide ((i0 : Int) < ((List.length p0) : Int))) = true) {r : Rs} (hr : Q0 G (Qhj p0 (i0 + 1) (ah ++ [(Q3o ([(Fld.mk Q1v (Qz x0.fJ)), (Fld.mk Qo (Q2q x0.dw)), (Fld.mk Q6 (Q6g x0.bG)), (Fld.mk Qa (Q45 x0.bV))]))])) r) : Q0 G (Qhj p0 i0 ah) r := by
 have hB0 := H.1
 exact Qc (Q16c p0 i0 ah) [hP 2 (Qs _ _ (aD.Q5 p0)), hB 0 bC, hP 2 (Q1l 4 _ i0 _ (aD.Qb bF) rfl), hA 23 1 1860 1924 5 80 0 0 true Val.Q5 Val.Q1n ah (Q3o ([(Fld.mk Q1v (Qz x0.fJ)), (Fld.mk Qo (Q2q x0.dw)), (Fld.mk Q6 (Q6g x0.bG)), (Fld.mk Qa (Q45 x0.bV))])) (Val.Qw ah) rfl rfl (by omega), hS 0 true (Val.Q8 (ah ++ [(Q3o ([(Fld.mk Q1v (Qz x0.fJ)), (Fld.mk Qo (Q2q x0.dw)), (Fld.mk Q6 (Q6g x0.bG)), (Fld.mk Qa (Q45 x0.bV))]))]) 5 rfl), hP 2 (Q26 i0 (by omega))] [aN (Q46 x0.fJ), aN (Qch x0.dw), aN (Q1cu x0.bG (H.2.1 x0 (Q1i bF))), aN (Qgx x0.bV), aN (Q87 (e' := .call 163 [.sl [(Fld.cells (Fld.mk Q1v (Qz x0.fJ))), (Fld.cells (Fld.mk Qo (Q2q x0.dw))), (Fld.cells (Fld.mk Q6 (Q6g x0.bG))), (Fld.cells (Fld.mk Qa (Q45 x0.bV)))]] []) (Q8g ([(Fld.mk Q1v (Qz x0.fJ)), (Fld.mk Qo (Q2q x0.dw)), (Fld.mk Q6 (Q6g x0.bG)), (Fld.mk Qa (Q45 x0.bV))]) (Nat.le_of_ble_eq_true rfl)) (by simp only [Q7x, Fld.Q20, Fld.Q2k]))] hr (by kernel_rfl)
theorem Q12p (p0 : List aD) (H : Qik p0) : ∀ (r0 : List aD) (i0 : Nat) (ah : List Val), List.drop i0 p0 = r0 → List.length ah ≤ i0 → Qj7 p0 (Qhj p0 i0 ah) (Q7d p0 r0 i0 ah)
 | [], i0, ah, hd, aP => by
  have bC : (decide ((i0 : Int) < ((List.length p0) : Int))) = false := by have := Q1o hd; simp; omega
  rw [Q7d]
  exact Q1dv p0 H i0 ah aP bC
 | x0 :: r0, i0, ah, hd, aP => by
  obtain ⟨bF, bR, hd'⟩ := Q1p hd
  have bC : (decide ((i0 : Int) < ((List.length p0) : Int))) = true := by simp; omega
  rw [Q7d]
  exact Qx5 p0 (fun r hr => Q1bb p0 H x0 i0 ah bF bR aP bC hr) _ (Q12p p0 H r0 _ _ hd' (by first | omega | (simp; omega)))
def Q1j1 (p0 : List aD) : Val := vL (p0.map aD.enc)
theorem Q2au (p0 : List aD) : Q1j1 p0 = ((Val.mk 4 0 eB (Q7d p0 p0 0 []) [])) := by
  rw [Q19a]
  kernel_rfl
def Q27q (p0 : List aD) : En := .call 236 [.sl (aD.rows p0)] []
def Q1wx (p0 : List aD) : Rs := .ret (.agg (Val.cells (Q1j1 p0))) []
def Q1pp (p0 : List aD) : Prop := LSm aD.sm p0
theorem Q1lt (p0 : List aD) (H : Q1pp p0) : (Qik p0) ∧ True := by
  exact ⟨⟨Nat.le_trans H.1 (Nat.le_of_ble_eq_true rfl), (by first | exact H.2 | exact fun x hx => (H.2 x hx).1 | exact fun x hx => (H.2 x hx).2.1 | exact fun x hx => (H.2 x hx).2.2.1 | exact fun x hx => (H.2 x hx).2.2.2.1 | exact fun x hx => (H.2 x hx).2.2.2.2.1), trivial⟩, trivial⟩
theorem Q2fo (p0 : List aD) (H : Q1pp p0) : Q0 G (Q27q p0) (Q1wx p0) := by
 unfold Q1wx
 rw [Q2au]
 have hl0 := Q12p p0 ((Q1lt p0 H).1) p0 0 [] (by simp) (by simp)
 obtain ⟨z0, fA, hl0⟩ := hl0
 exact Q7 (fn := Ir.K2u) (by kernel_rfl) VOK.nil [hS 0 true (Val.Q8 (Q7d p0 p0 0 []) 5 rfl), hQ (Val.Q5 (Q7d p0 p0 0 [])).symm] [aV [(1, Val.rows (Q7d p0 p0 0 []))] hl0] (by kernel_rfl)
def Q7f (p0 : List aG) : List aG → Nat → (List Val) → List Val
 | [], _i0, ah =>
  ah
 | x0 :: r0, i0, ah =>
  Q7f p0 r0 (i0 + 1) (ah ++ [(Q3o ([(Fld.mk Q12 (Q2q x0.key)), (Fld.mk Q1t (Q2q x0.value)), (Fld.mk Q2f (Q45 x0.fH)), (Fld.mk Q2e (Qz x0.gq)), (Fld.mk Q2l (Qz x0.fK))]))])
theorem Q19c (p0 : List aG) : ∀ (l : List aG) (i : Nat) (a : List Val), Q7f p0 l i a = a ++ l.map (fun x0 => (Q3o ([(Fld.mk Q12 (Q2q x0.key)), (Fld.mk Q1t (Q2q x0.value)), (Fld.mk Q2f (Q45 x0.fH)), (Fld.mk Q2e (Qz x0.gq)), (Fld.mk Q2l (Qz x0.fK))])))
  | [], _, _ => by simp [Q7f]
  | x :: r, i, a => by rw [Q7f, Q19c p0 r]; simp
def Q1fk (p0 : List aG) (i0 : Nat) (ah : List Val) : List PV :=
  [.sl (aG.rows p0), .un, .bx 0 0, .ms 1 5 0 (List.length ah), iN (i0 : Int)] ++ nuns 38
def Qzs (_p0 : List aG) (_i0 : Nat) (ah : List Val) : List Ob :=
  [⟨5, 0, true, [iN 0, iN 0, .str eB, .ms 2 5 0 0, .ms 3 6 0 0]⟩, ⟨5, 0, true, (Val.rows ah).flatten⟩, ⟨5, 0, true, []⟩, ⟨6, 0, true, []⟩]
def Qhl (p0 : List aG) (i0 : Nat) (ah : List Val) : En := .loop 0 Ir.Qle Ir.Q1nz (Q1fk p0 i0 ah) (Qzs p0 i0 ah)
def Qsh (_p0 : List aG) (q0 : List Val) (z : Nat → PV) (_zo : Nat → List PV) : St :=
  ⟨[z 0, z 1, .bx 0 0, .ms 1 5 0 (List.length q0)] ++ zr z 4 39, [(0, ⟨5, 0, true, [iN 0, iN 0, .str eB, .ms 2 5 0 0, .ms 3 6 0 0]⟩), (1, ⟨5, 0, true, (Val.rows q0).flatten⟩), (2, ⟨5, 0, true, []⟩), (3, ⟨6, 0, true, []⟩)], 260⟩
theorem Q16e (p0 : List aG) (i0 : Nat) (ah : List Val) : VOK (Go.Pv.look (number 0 (Qzs p0 i0 ah))) [(1, Val.rows ah)] := (VOK.cons (show Seen _ _ from Q4a (ob := ⟨5, 0, true, (Val.rows ah).flatten⟩) (Val.Q8 ah 5 rfl)) VOK.nil)
def Qj9 (p0 : List aG) (e : En) (q : List Val) : Prop := ∃ z zo, Q0 G e (.st (.exit 0) (Qsh p0 q z zo))
theorem Qx7 (p0 : List aG) {e e' : En} (h : ∀ r, Q0 G e r → Q0 G e' r) : ∀ q, Qj9 p0 e q → Qj9 p0 e' q
  | _, ⟨z, zo, hz⟩ => ⟨z, zo, h _ hz⟩
def Qim (p0 : List aG) : Prop := (List.length p0 ≤ 137438953472) ∧ True
def Quj (p0 : List aG) (i0 : Nat) (_ah : List Val) : List PV :=
  [.sl (aG.rows p0), .un, .un, .un, iN (i0 : Int), .un, iN (i0 : Int), .sl (aG.rows p0), iN ((List.length p0) : Int), .bool false]
def Qn7 (_p0 : List aG) (_i0 : Nat) (_ah : List Val) : List (Nat × List PV) :=
  []
theorem Q1dx (p0 : List aG) (_H : Qim p0) (i0 : Nat) (ah : List Val) (_aP : List.length ah ≤ i0) (bC : (decide ((i0 : Int) < ((List.length p0) : Int))) = false) : Qj9 p0 (Qhl p0 i0 ah) ah := by
 exact ⟨(envF (Quj p0 i0 ah)), (zoF (Qn7 p0 i0 ah)), Qh (Q16e p0 i0 ah) (x := ((.exit 0), Qsh p0 ah (envF (Quj p0 i0 ah)) (zoF (Qn7 p0 i0 ah)))) [hP 2 (Qs _ _ (aG.Q5 p0)), hB 0 bC] [] (by kernel_rfl)⟩
theorem Q1bd (p0 : List aG) (H : Qim p0) (x0 : aG) (i0 : Nat) (ah : List Val) (bF : p0[i0]? = some x0) (bR : i0 < List.length p0) (aP : List.length ah ≤ i0) (bC : (decide ((i0 : Int) < ((List.length p0) : Int))) = true) {r : Rs} (hr : Q0 G (Qhl p0 (i0 + 1) (ah ++ [(Q3o ([(Fld.mk Q12 (Q2q x0.key)), (Fld.mk Q1t (Q2q x0.value)), (Fld.mk Q2f (Q45 x0.fH)), (Fld.mk Q2e (Qz x0.gq)), (Fld.mk Q2l (Qz x0.fK))]))])) r) : Q0 G (Qhl p0 i0 ah) r := by
 have hB0 := H.1
 exact Qc (Q16e p0 i0 ah) [hP 2 (Qs _ _ (aG.Q5 p0)), hB 0 bC, hP 2 (Q1l 5 _ i0 _ (aG.Qb bF) rfl), hA 27 1 2116 2180 5 80 0 0 true Val.Q5 Val.Q1n ah (Q3o ([(Fld.mk Q12 (Q2q x0.key)), (Fld.mk Q1t (Q2q x0.value)), (Fld.mk Q2f (Q45 x0.fH)), (Fld.mk Q2e (Qz x0.gq)), (Fld.mk Q2l (Qz x0.fK))])) (Val.Qw ah) rfl rfl (by omega), hS 0 true (Val.Q8 (ah ++ [(Q3o ([(Fld.mk Q12 (Q2q x0.key)), (Fld.mk Q1t (Q2q x0.value)), (Fld.mk Q2f (Q45 x0.fH)), (Fld.mk Q2e (Qz x0.gq)), (Fld.mk Q2l (Qz x0.fK))]))]) 5 rfl), hP 2 (Q26 i0 (by omega))] [aN (Qch x0.key), aN (Qch x0.value), aN (Qgx x0.fH), aN (Q46 x0.gq), aN (Q46 x0.fK), aN (Q87 (e' := .call 163 [.sl [(Fld.cells (Fld.mk Q12 (Q2q x0.key))), (Fld.cells (Fld.mk Q1t (Q2q x0.value))), (Fld.cells (Fld.mk Q2f (Q45 x0.fH))), (Fld.cells (Fld.mk Q2e (Qz x0.gq))), (Fld.cells (Fld.mk Q2l (Qz x0.fK)))]] []) (Q8g ([(Fld.mk Q12 (Q2q x0.key)), (Fld.mk Q1t (Q2q x0.value)), (Fld.mk Q2f (Q45 x0.fH)), (Fld.mk Q2e (Qz x0.gq)), (Fld.mk Q2l (Qz x0.fK))]) (Nat.le_of_ble_eq_true rfl)) (by simp only [Q7x, Fld.Q20, Fld.Q2k]))] hr (by kernel_rfl)
theorem Q12r (p0 : List aG) (H : Qim p0) : ∀ (r0 : List aG) (i0 : Nat) (ah : List Val), List.drop i0 p0 = r0 → List.length ah ≤ i0 → Qj9 p0 (Qhl p0 i0 ah) (Q7f p0 r0 i0 ah)
 | [], i0, ah, hd, aP => by
  have bC : (decide ((i0 : Int) < ((List.length p0) : Int))) = false := by have := Q1o hd; simp; omega
  rw [Q7f]
  exact Q1dx p0 H i0 ah aP bC
 | x0 :: r0, i0, ah, hd, aP => by
  obtain ⟨bF, bR, hd'⟩ := Q1p hd
  have bC : (decide ((i0 : Int) < ((List.length p0) : Int))) = true := by simp; omega
  rw [Q7f]
  exact Qx7 p0 (fun r hr => Q1bd p0 H x0 i0 ah bF bR aP bC hr) _ (Q12r p0 H r0 _ _ hd' (by first | omega | (simp; omega)))
def Q1j2 (p0 : List aG) : Val := vL (p0.map aG.enc)
theorem Q2ax (p0 : List aG) : Q1j2 p0 = ((Val.mk 4 0 eB (Q7f p0 p0 0 []) [])) := by
  rw [Q19c]
  kernel_rfl
def Q27u (p0 : List aG) : En := .call 237 [.sl (aG.rows p0)] []
def Q1x1 (p0 : List aG) : Rs := .ret (.agg (Val.cells (Q1j2 p0))) []
def Q1pr (p0 : List aG) : Prop := LSm aG.sm p0
theorem Q1lv (p0 : List aG) (H : Q1pr p0) : (Qim p0) ∧ True := by
  exact ⟨⟨Nat.le_trans H.1 (Nat.le_of_ble_eq_true rfl), trivial⟩, trivial⟩
theorem Q2fq (p0 : List aG) (H : Q1pr p0) : Q0 G (Q27u p0) (Q1x1 p0) := by
 unfold Q1x1
 rw [Q2ax]
 have hl0 := Q12r p0 ((Q1lv p0 H).1) p0 0 [] (by simp) (by simp)
 obtain ⟨z0, fA, hl0⟩ := hl0
 exact Q7 (fn := Ir.K2z) (by kernel_rfl) VOK.nil [hS 0 true (Val.Q8 (Q7f p0 p0 0 []) 5 rfl), hQ (Val.Q5 (Q7f p0 p0 0 [])).symm] [aV [(1, Val.rows (Q7f p0 p0 0 []))] hl0] (by kernel_rfl)
def Q1iz (p0 : bn) : Val := bn.enc p0
theorem Q2ap (p0 : bn) : Q1iz p0 = ((Q3o ([(Fld.mk Q2w (Q2q p0.ig)), (Fld.mk Q1q (Qz p0.dY)), (Fld.mk Q21 (Qz p0.eP)), (Fld.mk Q2v (Qz p0.gB)), (Fld.mk Qq (Q1iv p0.dx)), (Fld.mk Q18 (Q6g p0.cu)), (Fld.mk Qv (Q1iy p0.dG)), (Fld.mk Q13 (Q1j0 p0.dP)), (Fld.mk Q1r (Q1j1 p0.eZ)), (Fld.mk Qm (Q1j2 p0.cO))]))) := by
  kernel_rfl
def Q27l (p0 : bn) : En := .call 214 [.agg (bn.cells p0)] []
def Q1ws (p0 : bn) : Rs := .ret (.agg (Val.cells (Q1iz p0))) []
def Q1pn (p0 : bn) : Prop := bn.sm p0
theorem Qc9 (p0 : bn) (H : Q1pn p0) : (Q1pg p0.dx) ∧ (Q10k p0.cu) ∧ (Q1pm p0.dG) ∧ (Q1po p0.dP) ∧ (Q1pp p0.eZ) ∧ (Q1pr p0.cO) ∧ True := by
  exact ⟨(by first | exact True.intro | exact H | exact H.1 | exact H.2.1 | exact H.2.2.1 | exact H.2.2.2.1 | exact H.2.2.2.2.1 | exact H.2.2.2.2.2.1 | exact ⟨H.1, trivial⟩ | exact ⟨H.2.1, trivial⟩), (by first | exact True.intro | exact H | exact H.1 | exact H.2.1 | exact H.2.2.1 | exact H.2.2.2.1 | exact H.2.2.2.2.1 | exact H.2.2.2.2.2.1 | exact ⟨H.1, trivial⟩ | exact ⟨H.2.1, trivial⟩), (by first | exact True.intro | exact H | exact H.1 | exact H.2.1 | exact H.2.2.1 | exact H.2.2.2.1 | exact H.2.2.2.2.1 | exact H.2.2.2.2.2.1 | exact ⟨H.1, trivial⟩ | exact ⟨H.2.1, trivial⟩), (by first | exact True.intro | exact H | exact H.1 | exact H.2.1 | exact H.2.2.1 | exact H.2.2.2.1 | exact H.2.2.2.2.1 | exact H.2.2.2.2.2.1 | exact ⟨H.1, trivial⟩ | exact ⟨H.2.1, trivial⟩), (by first | exact True.intro | exact H | exact H.1 | exact H.2.1 | exact H.2.2.1 | exact H.2.2.2.1 | exact H.2.2.2.2.1 | exact H.2.2.2.2.2.1 | exact ⟨H.1, trivial⟩ | exact ⟨H.2.1, trivial⟩), (by first | exact True.intro | exact H | exact H.1 | exact H.2.1 | exact H.2.2.1 | exact H.2.2.2.1 | exact H.2.2.2.2.1 | exact H.2.2.2.2.2.1 | exact ⟨H.1, trivial⟩ | exact ⟨H.2.1, trivial⟩), trivial⟩
theorem Q2fm (p0 : bn) (H : Q1pn p0) : Q0 G (Q27l p0) (Q1ws p0) := by
 unfold Q1ws
 rw [Q2ap]
 exact Q7 (fn := Ir.K2k) (by kernel_rfl) VOK.nil [] [aN (Qch p0.ig), aN (Q46 p0.dY), aN (Q46 p0.eP), aN (Q46 p0.gB), aN (Q2ff p0.dx (Qc9 p0 H).1), aN (Q1cu p0.cu (Qc9 p0 H).2.1), aN (Q2fl p0.dG (Qc9 p0 H).2.2.1), aN (Q2fn p0.dP (Qc9 p0 H).2.2.2.1), aN (Q2fo p0.eZ (Qc9 p0 H).2.2.2.2.1), aN (Q2fq p0.cO (Qc9 p0 H).2.2.2.2.2.1), aN (Q87 (e' := .call 163 [.sl [(Fld.cells (Fld.mk Q2w (Q2q p0.ig))), (Fld.cells (Fld.mk Q1q (Qz p0.dY))), (Fld.cells (Fld.mk Q21 (Qz p0.eP))), (Fld.cells (Fld.mk Q2v (Qz p0.gB))), (Fld.cells (Fld.mk Qq (Q1iv p0.dx))), (Fld.cells (Fld.mk Q18 (Q6g p0.cu))), (Fld.cells (Fld.mk Qv (Q1iy p0.dG))), (Fld.cells (Fld.mk Q13 (Q1j0 p0.dP))), (Fld.cells (Fld.mk Q1r (Q1j1 p0.eZ))), (Fld.cells (Fld.mk Qm (Q1j2 p0.cO)))]] []) (Q8g ([(Fld.mk Q2w (Q2q p0.ig)), (Fld.mk Q1q (Qz p0.dY)), (Fld.mk Q21 (Qz p0.eP)), (Fld.mk Q2v (Qz p0.gB)), (Fld.mk Qq (Q1iv p0.dx)), (Fld.mk Q18 (Q6g p0.cu)), (Fld.mk Qv (Q1iy p0.dG)), (Fld.mk Q13 (Q1j0 p0.dP)), (Fld.mk Q1r (Q1j1 p0.eZ)), (Fld.mk Qm (Q1j2 p0.cO))]) (Nat.le_of_ble_eq_true rfl)) (by simp only [Q7x, Fld.Q20, Fld.Q2k]))] (by kernel_rfl)
def Q13m (p0 : aY) : Val := aY.enc p0
theorem Q2aw (p0 : aY) : Q13m p0 = ((Q3o ([(Fld.mk Qk (Q1ix p0.bK)), (Fld.mk Q38 (Q1iz p0.aO))]))) := by
  kernel_rfl
def Q27t (p0 : aY) : En := .call 166 [.agg (aY.cells p0)] []
def Q1x0 (p0 : aY) : Rs := .ret (.agg (Val.cells (Q13m p0))) []
def Q1kb (p0 : aY) : Prop := aY.sm p0
theorem Q17e (p0 : aY) (H : Q1kb p0) : (Q1pl p0.bK) ∧ (Q1pn p0.aO) ∧ True := by
  exact ⟨(by first | exact True.intro | exact H | exact H.1 | exact H.2.1 | exact ⟨H.1, trivial⟩ | exact ⟨H.2.1, trivial⟩), (by first | exact True.intro | exact H | exact H.1 | exact H.2.1 | exact ⟨H.1, trivial⟩ | exact ⟨H.2.1, trivial⟩), trivial⟩
theorem Q20h (p0 : aY) (H : Q1kb p0) : Q0 G (Q27t p0) (Q1x0 p0) := by
 unfold Q1x0
 rw [Q2aw]
 exact Q7 (fn := Ir.K2y) (by kernel_rfl) VOK.nil [] [aN (Q2fk p0.bK (Q17e p0 H).1), aN (Q2fm p0.aO (Q17e p0 H).2.1), aN (Q87 (e' := .call 163 [.sl [(Fld.cells (Fld.mk Qk (Q1ix p0.bK))), (Fld.cells (Fld.mk Q38 (Q1iz p0.aO)))]] []) (Q8g ([(Fld.mk Qk (Q1ix p0.bK)), (Fld.mk Q38 (Q1iz p0.aO))]) (Nat.le_of_ble_eq_true rfl)) (by simp only [Q7x, Fld.Q20, Fld.Q2k]))] (by kernel_rfl)
def Qai (p0 : aL) : Val := aL.enc p0
theorem Q2aa (p0 : aL) : Qai p0 = ((Q3o ([(Fld.mk Q30 (Q45 p0.dM)), (Fld.mk kw_n (Qz p0.n))]))) := by
  kernel_rfl
def Q275 (p0 : aL) : En := .call 168 [.agg (aL.cells p0)] []
def Q1wb (p0 : aL) : Rs := .ret (.agg (Val.cells (Qai p0))) []
theorem Q1jc (p0 : aL) : Q0 G (Q275 p0) (Q1wb p0) := by
 unfold Q1wb
 rw [Q2aa]
 exact Q7 (fn := Ir.K20) (by kernel_rfl) VOK.nil [] [aN (Qgx p0.dM), aN (Q46 p0.n), aN (Q87 (e' := .call 163 [.sl [(Fld.cells (Fld.mk Q30 (Q45 p0.dM))), (Fld.cells (Fld.mk kw_n (Qz p0.n)))]] []) (Q8g ([(Fld.mk Q30 (Q45 p0.dM)), (Fld.mk kw_n (Qz p0.n))]) (Nat.le_of_ble_eq_true rfl)) (by simp only [Q7x, Fld.Q20, Fld.Q2k]))] (by kernel_rfl)
def Q1mu (p0 : aJ) : Val := aJ.encS p0
theorem Q2aj (p0 : aJ) : Q1mu p0 = ((Q3o ([(Fld.mk Qf (Qz p0.bU)), (Fld.mk Q3l (Qz p0.eD)), (Fld.mk Q3y (Qz p0.gV)), (Fld.mk Q16 (Qz p0.dz)), (Fld.mk Q6 (Q6g p0.bG)), (Fld.mk Q17 (Q13m p0.bA)), (Fld.mk Q3m (Q45 p0.gH)), (Fld.mk Q4g (Q45 p0.iy)), (Fld.mk Q4q (Qai p0.iD)), (Fld.mk Q2i (Qai p0.dK)), (Fld.mk Q5r (Qz p0.iQ))]))) := by
  kernel_rfl
def Q27e (p0 : aJ) : En := .call 59 [.agg (aJ.cells p0)] []
def Q1wk (p0 : aJ) : Rs := .ret (.agg (Val.cells (Q1mu p0))) []
def Q1pi (p0 : aJ) : Prop := aJ.sm p0
theorem Q17c (p0 : aJ) (H : Q1pi p0) : (Q10k p0.bG) ∧ (Q1kb p0.bA) ∧ True := by
  exact ⟨(by first | exact True.intro | exact H | exact H.1 | exact H.2.1 | exact H.2.2.1 | exact H.2.2.2.1 | exact H.2.2.2.2.1 | exact ⟨H.1, trivial⟩ | exact ⟨H.2.1, trivial⟩), (by first | exact True.intro | exact H | exact H.1 | exact H.2.1 | exact H.2.2.1 | exact H.2.2.2.1 | exact H.2.2.2.2.1 | exact ⟨H.1, trivial⟩ | exact ⟨H.2.1, trivial⟩), trivial⟩
theorem Q2fh (p0 : aJ) (H : Q1pi p0) : Q0 G (Q27e p0) (Q1wk p0) := by
 unfold Q1wk
 rw [Q2aj]
 exact Q7 (fn := Ir.K2a) (by kernel_rfl) VOK.nil [] [aN (Q46 p0.bU), aN (Q46 p0.eD), aN (Q46 p0.gV), aN (Q46 p0.dz), aN (Q1cu p0.bG (Q17c p0 H).1), aN (Q20h p0.bA (Q17c p0 H).2.1), aN (Qgx p0.gH), aN (Qgx p0.iy), aN (Q1jc p0.iD), aN (Q1jc p0.dK), aN (Q46 p0.iQ), aN (Q87 (e' := .call 163 [.sl [(Fld.cells (Fld.mk Qf (Qz p0.bU))), (Fld.cells (Fld.mk Q3l (Qz p0.eD))), (Fld.cells (Fld.mk Q3y (Qz p0.gV))), (Fld.cells (Fld.mk Q16 (Qz p0.dz))), (Fld.cells (Fld.mk Q6 (Q6g p0.bG))), (Fld.cells (Fld.mk Q17 (Q13m p0.bA))), (Fld.cells (Fld.mk Q3m (Q45 p0.gH))), (Fld.cells (Fld.mk Q4g (Q45 p0.iy))), (Fld.cells (Fld.mk Q4q (Qai p0.iD))), (Fld.cells (Fld.mk Q2i (Qai p0.dK))), (Fld.cells (Fld.mk Q5r (Qz p0.iQ)))]] []) (Q8g ([(Fld.mk Qf (Qz p0.bU)), (Fld.mk Q3l (Qz p0.eD)), (Fld.mk Q3y (Qz p0.gV)), (Fld.mk Q16 (Qz p0.dz)), (Fld.mk Q6 (Q6g p0.bG)), (Fld.mk Q17 (Q13m p0.bA)), (Fld.mk Q3m (Q45 p0.gH)), (Fld.mk Q4g (Q45 p0.iy)), (Fld.mk Q4q (Qai p0.iD)), (Fld.mk Q2i (Qai p0.dK)), (Fld.mk Q5r (Qz p0.iQ))]) (Nat.le_of_ble_eq_true rfl)) (by simp only [Q7x, Fld.Q20, Fld.Q2k]))] (by kernel_rfl)
def Q1mw (p0 : bf) : Val := bf.enc p0
theorem Q2ay (p0 : bf) : Q1mw p0 = ((Q3o ([(Fld.mk Qr (Qz p0.dJ)), (Fld.mk Qf (Qz p0.bU)), (Fld.mk Q27 (Qz p0.fO)), (Fld.mk Q14 (Qz p0.ready)), (Fld.mk Q2c (Qz p0.eF)), (Fld.mk Q31 (Qz p0.eT)), (Fld.mk Q2o (Q45 p0.bD))]))) := by
  kernel_rfl
def Q27v (p0 : bf) : En := .call 60 [.agg (bf.cells p0)] []
def Q1x2 (p0 : bf) : Rs := .ret (.agg (Val.cells (Q1mw p0))) []
theorem Q2fr (p0 : bf) : Q0 G (Q27v p0) (Q1x2 p0) := by
 unfold Q1x2
 rw [Q2ay]
 exact Q7 (fn := Ir.K30) (by kernel_rfl) VOK.nil [] [aN (Q46 p0.dJ), aN (Q46 p0.bU), aN (Q46 p0.fO), aN (Q46 p0.ready), aN (Q46 p0.eF), aN (Q46 p0.eT), aN (Qgx p0.bD), aN (Q87 (e' := .call 163 [.sl [(Fld.cells (Fld.mk Qr (Qz p0.dJ))), (Fld.cells (Fld.mk Qf (Qz p0.bU))), (Fld.cells (Fld.mk Q27 (Qz p0.fO))), (Fld.cells (Fld.mk Q14 (Qz p0.ready))), (Fld.cells (Fld.mk Q2c (Qz p0.eF))), (Fld.cells (Fld.mk Q31 (Qz p0.eT))), (Fld.cells (Fld.mk Q2o (Q45 p0.bD)))]] []) (Q8g ([(Fld.mk Qr (Qz p0.dJ)), (Fld.mk Qf (Qz p0.bU)), (Fld.mk Q27 (Qz p0.fO)), (Fld.mk Q14 (Qz p0.ready)), (Fld.mk Q2c (Qz p0.eF)), (Fld.mk Q31 (Qz p0.eT)), (Fld.mk Q2o (Q45 p0.bD))]) (Nat.le_of_ble_eq_true rfl)) (by simp only [Q7x, Fld.Q20, Fld.Q2k]))] (by kernel_rfl)
def Q157 (p0 : BA) (p1 : bJ) (p2 : Val) (p3 : Val) : aA :=
 (aA.mk (bJ.mk p0 p1.bM p1.name p1.gY p1.dn p1.bQ p1.cZ p1.bY p1.bX p1.bK p1.bO p1.bI p1.aW) p2 p3)
def Q28p (p0 : BA) (p1 : bJ) (p2 : Val) (p3 : Val) : En := .call 58 [.str p0, .agg (bJ.cells p1), .agg (Val.cells p2), .agg (Val.cells p3)] []
def Q1xx (p0 : BA) (p1 : bJ) (p2 : Val) (p3 : Val) : Rs := .ret (.agg (aA.cells (Q157 p0 p1 p2 p3))) []
theorem Q1je (p0 : BA) (p1 : bJ) (p2 : Val) (p3 : Val) : Q0 G (Q28p p0 p1 p2 p3) (Q1xx p0 p1 p2 p3) := by
 unfold Q1xx Q157
 exact Q7 (fn := Ir.K49) (by kernel_rfl) VOK.nil [] [] (by kernel_rfl)
def Q1cq (p0 : aJ) : aA := aJ.obj p0
theorem Q2bl (p0 : aJ) : Q1cq p0 = ((Q157 Q22 p0.aI (Q1mu p0) (Q1mw p0.aM))) := by
  first | rfl | kernel_rfl
def Q28h (p0 : aJ) : En := .call 9 [.agg (aJ.cells p0)] []
def Q1xp (p0 : aJ) : Rs := .ret (.agg (aA.cells (Q1cq p0))) []
def Q1kf (p0 : aJ) : Prop := aJ.sm p0
theorem Q1lx (p0 : aJ) (H : Q1kf p0) : (Q1pi p0) ∧ True := by
  exact ⟨(by first | exact True.intro | exact H | exact H.1 | exact H.2.1 | exact H.2.2.1 | exact H.2.2.2.1 | exact H.2.2.2.2.1 | exact ⟨H.1, trivial⟩ | exact ⟨H.2.1, trivial⟩), trivial⟩
theorem Q20r (p0 : aJ) (H : Q1kf p0) : Q0 G (Q28h p0) (Q1xp p0) := by
 unfold Q1xp
 rw [Q2bl]
 exact Q7 (fn := Ir.K3o) (by kernel_rfl) VOK.nil [] [aN (Q2fh p0 (Q1lx p0 H).1), aN (Q2fr p0.aM), aN (Q1je Q22 p0.aI (Q1mu p0) (Q1mw p0.aM))] (by kernel_rfl)
def Q5w (p0 : aF) : List aX → Nat → (List Val) → List Val
 | [], _i0, ah =>
  ah
 | x0 :: r0, i0, ah =>
  Q5w p0 r0 (i0 + 1) (ah ++ [(Q3o ([(Fld.mk Ql (Q2q x0.name)), (Fld.mk Q1w (Qz x0.target))]))])
theorem Q190 (p0 : aF) : ∀ (l : List aX) (i : Nat) (a : List Val), Q5w p0 l i a = a ++ l.map (fun x0 => (Q3o ([(Fld.mk Ql (Q2q x0.name)), (Fld.mk Q1w (Qz x0.target))])))
  | [], _, _ => by simp [Q5w]
  | x :: r, i, a => by rw [Q5w, Q190 p0 r]; simp
def Q1f6 (_p0 : aF) (i0 : Nat) (ah : List Val) : List PV :=
  [.un, .bx 0 0, .bx 1 0, .ms 2 5 0 (List.length ah), iN (i0 : Int)] ++ nuns 73
def Qze (p0 : aF) (_i0 : Nat) (ah : List Val) : List Ob :=
  [⟨28, 0, true, (aF.cells p0)⟩, ⟨5, 0, true, [iN 0, iN 0, .str eB, .ms 3 5 0 0, .ms 4 6 0 0]⟩, ⟨5, 0, true, (Val.rows ah).flatten⟩, ⟨5, 0, true, []⟩, ⟨6, 0, true, []⟩]
def Qh9 (p0 : aF) (i0 : Nat) (ah : List Val) : En := .loop 0 Ir.Ql0 Ir.Q1nl (Q1f6 p0 i0 ah) (Qze p0 i0 ah)
def Qs4 (p0 : aF) (q0 : List Val) (z : Nat → PV) (_zo : Nat → List PV) : St :=
  ⟨[z 0, .bx 0 0, .bx 1 0, .ms 2 5 0 (List.length q0)] ++ zr z 4 74, [(0, ⟨28, 0, true, (aF.cells p0)⟩), (1, ⟨5, 0, true, [iN 0, iN 0, .str eB, .ms 3 5 0 0, .ms 4 6 0 0]⟩), (2, ⟨5, 0, true, (Val.rows q0).flatten⟩), (3, ⟨5, 0, true, []⟩), (4, ⟨6, 0, true, []⟩)], 325⟩
theorem Q162 (p0 : aF) (i0 : Nat) (ah : List Val) : VOK (Go.Pv.look (number 0 (Qze p0 i0 ah))) [(2, Val.rows ah)] := (VOK.cons (show Seen _ _ from Q4a (ob := ⟨5, 0, true, (Val.rows ah).flatten⟩) (Val.Q8 ah 5 rfl)) VOK.nil)
def Qiw (p0 : aF) (e : En) (q : List Val) : Prop := ∃ z zo, Q0 G e (.st (.exit 0) (Qs4 p0 q z zo))
theorem Qwu (p0 : aF) {e e' : En} (h : ∀ r, Q0 G e r → Q0 G e' r) : ∀ q, Qiw p0 e q → Qiw p0 e' q
  | _, ⟨z, zo, hz⟩ => ⟨z, zo, h _ hz⟩
def Qia (p0 : aF) : Prop := (List.length p0.dF ≤ 137438953472) ∧ True
def Qu3 (p0 : aF) (i0 : Nat) (_ah : List Val) : List PV :=
  [.un, .un, .un, .un, iN (i0 : Int), iN (i0 : Int), .bx 0 17, .sl (aX.rows p0.dF), iN ((List.length p0.dF) : Int), .bool false]
def Qms (_p0 : aF) (_i0 : Nat) (_ah : List Val) : List (Nat × List PV) :=
  []
theorem Q1di (p0 : aF) (_H : Qia p0) (i0 : Nat) (ah : List Val) (_aP : List.length ah ≤ i0) (bC : (decide ((i0 : Int) < ((List.length p0.dF) : Int))) = false) : Qiw p0 (Qh9 p0 i0 ah) ah := by
 exact ⟨(envF (Qu3 p0 i0 ah)), (zoF (Qms p0 i0 ah)), Qh (Q162 p0 i0 ah) (x := ((.exit 0), Qs4 p0 ah (envF (Qu3 p0 i0 ah)) (zoF (Qms p0 i0 ah)))) [hP 3 (Qs _ _ (aX.Q5 p0.dF)), hB 0 bC] [] (by kernel_rfl)⟩
theorem Q1ay (p0 : aF) (H : Qia p0) (x0 : aX) (i0 : Nat) (ah : List Val) (bF : p0.dF[i0]? = some x0) (bR : i0 < List.length p0.dF) (aP : List.length ah ≤ i0) (bC : (decide ((i0 : Int) < ((List.length p0.dF) : Int))) = true) {r : Rs} (hr : Q0 G (Qh9 p0 (i0 + 1) (ah ++ [(Q3o ([(Fld.mk Ql (Q2q x0.name)), (Fld.mk Q1w (Qz x0.target))]))])) r) : Q0 G (Qh9 p0 i0 ah) r := by
 have hB0 := H.1
 exact Qc (Q162 p0 i0 ah) [hP 3 (Qs _ _ (aX.Q5 p0.dF)), hB 0 bC, hP 4 (Q1l 2 _ i0 _ (aX.Qb bF) rfl), hP 7 (Q1l 2 _ i0 _ (aX.Qb bF) rfl), hA 7 2 1541 1605 5 80 0 0 true Val.Q5 Val.Q1n ah (Q3o ([(Fld.mk Ql (Q2q x0.name)), (Fld.mk Q1w (Qz x0.target))])) (Val.Qw ah) rfl rfl (by omega), hS 0 true (Val.Q8 (ah ++ [(Q3o ([(Fld.mk Ql (Q2q x0.name)), (Fld.mk Q1w (Qz x0.target))]))]) 5 rfl), hP 2 (Q26 i0 (by omega))] [aN (Qch x0.name), aN (Q46 x0.target), aN (Q87 (e' := .call 163 [.sl [(Fld.cells (Fld.mk Ql (Q2q x0.name))), (Fld.cells (Fld.mk Q1w (Qz x0.target)))]] []) (Q8g ([(Fld.mk Ql (Q2q x0.name)), (Fld.mk Q1w (Qz x0.target))]) (Nat.le_of_ble_eq_true rfl)) (by simp only [Q7x, Fld.Q20, Fld.Q2k]))] hr (by kernel_rfl)
theorem Q12e (p0 : aF) (H : Qia p0) : ∀ (r0 : List aX) (i0 : Nat) (ah : List Val), List.drop i0 p0.dF = r0 → List.length ah ≤ i0 → Qiw p0 (Qh9 p0 i0 ah) (Q5w p0 r0 i0 ah)
 | [], i0, ah, hd, aP => by
  have bC : (decide ((i0 : Int) < ((List.length p0.dF) : Int))) = false := by have := Q1o hd; simp; omega
  rw [Q5w]
  exact Q1di p0 H i0 ah aP bC
 | x0 :: r0, i0, ah, hd, aP => by
  obtain ⟨bF, bR, hd'⟩ := Q1p hd
  have bC : (decide ((i0 : Int) < ((List.length p0.dF) : Int))) = true := by simp; omega
  rw [Q5w]
  exact Qwu p0 (fun r hr => Q1ay p0 H x0 i0 ah bF bR aP bC hr) _ (Q12e p0 H r0 _ _ hd' (by first | omega | (simp; omega)))
def Q1mp (p0 : aF) : Val := aF.encS p0
theorem Q2ac (p0 : aF) : Q1mp p0 = ((Q3o ([(Fld.mk Q2h (Q2q p0.fG)), (Fld.mk Q1w (Q2q p0.target)), (Fld.mk Q6e (Qz p0.min_)), (Fld.mk Q6d (Qz p0.max_)), (Fld.mk Qp (Val.mk 4 0 eB (Q5w p0 p0.dF 0 []) [])), (Fld.mk Q2p (Qz p0.fT)), (Fld.mk Q2y (Qz p0.gJ)), (Fld.mk Q2g (Qz p0.fD)), (Fld.mk Q44 (Qai p0.gL)), (Fld.mk Q36 (Qai p0.fP)), (Fld.mk Q1z (Qz p0.eH))]))) := by
  simp only [Q190]
  kernel_rfl
def Q277 (p0 : aF) : En := .call 61 [.agg (aF.cells p0)] []
def Q1wd (p0 : aF) : Rs := .ret (.agg (Val.cells (Q1mp p0))) []
def Q1pc (p0 : aF) : Prop := aF.sm p0
theorem Q1lg (p0 : aF) (H : Q1pc p0) : (Qia p0) ∧ True := by
  exact ⟨⟨Nat.le_trans H.1.1 (Nat.le_of_ble_eq_true rfl), trivial⟩, trivial⟩
theorem Q2fb (p0 : aF) (H : Q1pc p0) : Q0 G (Q277 p0) (Q1wd p0) := by
 unfold Q1wd
 rw [Q2ac]
 have hl0 := Q12e p0 ((Q1lg p0 H).1) p0.dF 0 [] (by simp) (by simp)
 obtain ⟨z0, fA, hl0⟩ := hl0
 exact Q7 (fn := Ir.K22) (by kernel_rfl) VOK.nil [hS 0 true (Val.Q8 (Q5w p0 p0.dF 0 []) 5 rfl), hQ (Val.Q5 (Q5w p0 p0.dF 0 [])).symm] [aV [(2, Val.rows (Q5w p0 p0.dF 0 []))] hl0, aN (Qch p0.fG), aN (Qch p0.target), aN (Q46 p0.min_), aN (Q46 p0.max_), aN (Q46 p0.fT), aN (Q46 p0.gJ), aN (Q46 p0.fD), aN (Q1jc p0.gL), aN (Q1jc p0.fP), aN (Q46 p0.eH), aN (Q87 (e' := .call 163 [.sl [(Fld.cells (Fld.mk Q2h (Q2q p0.fG))), (Fld.cells (Fld.mk Q1w (Q2q p0.target))), (Fld.cells (Fld.mk Q6e (Qz p0.min_))), (Fld.cells (Fld.mk Q6d (Qz p0.max_))), (Fld.cells (Fld.mk Qp (Val.mk 4 0 eB (Q5w p0 p0.dF 0 []) []))), (Fld.cells (Fld.mk Q2p (Qz p0.fT))), (Fld.cells (Fld.mk Q2y (Qz p0.gJ))), (Fld.cells (Fld.mk Q2g (Qz p0.fD))), (Fld.cells (Fld.mk Q44 (Qai p0.gL))), (Fld.cells (Fld.mk Q36 (Qai p0.fP))), (Fld.cells (Fld.mk Q1z (Qz p0.eH)))]] []) (Q8g ([(Fld.mk Q2h (Q2q p0.fG)), (Fld.mk Q1w (Q2q p0.target)), (Fld.mk Q6e (Qz p0.min_)), (Fld.mk Q6d (Qz p0.max_)), (Fld.mk Qp (Val.mk 4 0 eB (Q5w p0 p0.dF 0 []) [])), (Fld.mk Q2p (Qz p0.fT)), (Fld.mk Q2y (Qz p0.gJ)), (Fld.mk Q2g (Qz p0.fD)), (Fld.mk Q44 (Qai p0.gL)), (Fld.mk Q36 (Qai p0.fP)), (Fld.mk Q1z (Qz p0.eH))]) (Nat.le_of_ble_eq_true rfl)) (by simp only [Q7x, Fld.Q20, Fld.Q2k]))] (by kernel_rfl)
def Q5x (p0 : aF) : List aZ → Nat → (List Val) → List Val
 | [], _i0, ah =>
  ah
 | x0 :: r0, i0, ah =>
  Q5x p0 r0 (i0 + 1) (ah ++ [(Q3o ([(Fld.mk Q48 (Qz x0.at_)), (Fld.mk Qf (Qz x0.bU))]))])
theorem Q191 (p0 : aF) : ∀ (l : List aZ) (i : Nat) (a : List Val), Q5x p0 l i a = a ++ l.map (fun x0 => (Q3o ([(Fld.mk Q48 (Qz x0.at_)), (Fld.mk Qf (Qz x0.bU))])))
  | [], _, _ => by simp [Q5x]
  | x :: r, i, a => by rw [Q5x, Q191 p0 r]; simp
def Q1f7 (_p0 : aF) (i0 : Nat) (ah : List Val) : List PV :=
  [.un, .bx 0 0, .bx 1 0, .ms 2 5 0 (List.length ah), iN (i0 : Int)] ++ nuns 37
def Qzf (p0 : aF) (_i0 : Nat) (ah : List Val) : List Ob :=
  [⟨28, 0, true, (aF.cells p0)⟩, ⟨5, 0, true, [iN 0, iN 0, .str eB, .ms 3 5 0 0, .ms 4 6 0 0]⟩, ⟨5, 0, true, (Val.rows ah).flatten⟩, ⟨5, 0, true, []⟩, ⟨6, 0, true, []⟩]
def Qha (p0 : aF) (i0 : Nat) (ah : List Val) : En := .loop 0 Ir.Ql1 Ir.Q1nm (Q1f7 p0 i0 ah) (Qzf p0 i0 ah)
def Qs5 (p0 : aF) (q0 : List Val) (z : Nat → PV) (_zo : Nat → List PV) : St :=
  ⟨[z 0, .bx 0 0, .bx 1 0, .ms 2 5 0 (List.length q0)] ++ zr z 4 38, [(0, ⟨28, 0, true, (aF.cells p0)⟩), (1, ⟨5, 0, true, [iN 0, iN 0, .str eB, .ms 3 5 0 0, .ms 4 6 0 0]⟩), (2, ⟨5, 0, true, (Val.rows q0).flatten⟩), (3, ⟨5, 0, true, []⟩), (4, ⟨6, 0, true, []⟩)], 325⟩
theorem Q163 (p0 : aF) (i0 : Nat) (ah : List Val) : VOK (Go.Pv.look (number 0 (Qzf p0 i0 ah))) [(2, Val.rows ah)] := (VOK.cons (show Seen _ _ from Q4a (ob := ⟨5, 0, true, (Val.rows ah).flatten⟩) (Val.Q8 ah 5 rfl)) VOK.nil)
def Qix (p0 : aF) (e : En) (q : List Val) : Prop := ∃ z zo, Q0 G e (.st (.exit 0) (Qs5 p0 q z zo))
theorem Qwv (p0 : aF) {e e' : En} (h : ∀ r, Q0 G e r → Q0 G e' r) : ∀ q, Qix p0 e q → Qix p0 e' q
  | _, ⟨z, zo, hz⟩ => ⟨z, zo, h _ hz⟩
def Qib (p0 : aF) : Prop := (List.length p0.dQ ≤ 137438953472) ∧ True
def Qu4 (p0 : aF) (i0 : Nat) (_ah : List Val) : List PV :=
  [.un, .un, .un, .un, iN (i0 : Int), iN (i0 : Int), .bx 0 26, .sl (aZ.rows p0.dQ), iN ((List.length p0.dQ) : Int), .bool false]
def Qmt (_p0 : aF) (_i0 : Nat) (_ah : List Val) : List (Nat × List PV) :=
  []
theorem Q1dj (p0 : aF) (_H : Qib p0) (i0 : Nat) (ah : List Val) (_aP : List.length ah ≤ i0) (bC : (decide ((i0 : Int) < ((List.length p0.dQ) : Int))) = false) : Qix p0 (Qha p0 i0 ah) ah := by
 exact ⟨(envF (Qu4 p0 i0 ah)), (zoF (Qmt p0 i0 ah)), Qh (Q163 p0 i0 ah) (x := ((.exit 0), Qs5 p0 ah (envF (Qu4 p0 i0 ah)) (zoF (Qmt p0 i0 ah)))) [hP 3 (Qs _ _ (aZ.Q5 p0.dQ)), hB 0 bC] [] (by kernel_rfl)⟩
theorem Q1az (p0 : aF) (H : Qib p0) (x0 : aZ) (i0 : Nat) (ah : List Val) (bF : p0.dQ[i0]? = some x0) (bR : i0 < List.length p0.dQ) (aP : List.length ah ≤ i0) (bC : (decide ((i0 : Int) < ((List.length p0.dQ) : Int))) = true) {r : Rs} (hr : Q0 G (Qha p0 (i0 + 1) (ah ++ [(Q3o ([(Fld.mk Q48 (Qz x0.at_)), (Fld.mk Qf (Qz x0.bU))]))])) r) : Q0 G (Qha p0 i0 ah) r := by
 have hB0 := H.1
 exact Qc (Q163 p0 i0 ah) [hP 3 (Qs _ _ (aZ.Q5 p0.dQ)), hB 0 bC, hP 4 (Q1l 2 _ i0 _ (aZ.Qb bF) rfl), hP 7 (Q1l 2 _ i0 _ (aZ.Qb bF) rfl), hA 7 2 1541 1605 5 80 0 0 true Val.Q5 Val.Q1n ah (Q3o ([(Fld.mk Q48 (Qz x0.at_)), (Fld.mk Qf (Qz x0.bU))])) (Val.Qw ah) rfl rfl (by omega), hS 0 true (Val.Q8 (ah ++ [(Q3o ([(Fld.mk Q48 (Qz x0.at_)), (Fld.mk Qf (Qz x0.bU))]))]) 5 rfl), hP 2 (Q26 i0 (by omega))] [aN (Q46 x0.at_), aN (Q46 x0.bU), aN (Q87 (e' := .call 163 [.sl [(Fld.cells (Fld.mk Q48 (Qz x0.at_))), (Fld.cells (Fld.mk Qf (Qz x0.bU)))]] []) (Q8g ([(Fld.mk Q48 (Qz x0.at_)), (Fld.mk Qf (Qz x0.bU))]) (Nat.le_of_ble_eq_true rfl)) (by simp only [Q7x, Fld.Q20, Fld.Q2k]))] hr (by kernel_rfl)
theorem Q12f (p0 : aF) (H : Qib p0) : ∀ (r0 : List aZ) (i0 : Nat) (ah : List Val), List.drop i0 p0.dQ = r0 → List.length ah ≤ i0 → Qix p0 (Qha p0 i0 ah) (Q5x p0 r0 i0 ah)
 | [], i0, ah, hd, aP => by
  have bC : (decide ((i0 : Int) < ((List.length p0.dQ) : Int))) = false := by have := Q1o hd; simp; omega
  rw [Q5x]
  exact Q1dj p0 H i0 ah aP bC
 | x0 :: r0, i0, ah, hd, aP => by
  obtain ⟨bF, bR, hd'⟩ := Q1p hd
  have bC : (decide ((i0 : Int) < ((List.length p0.dQ) : Int))) = true := by simp; omega
  rw [Q5x]
  exact Qwv p0 (fun r hr => Q1az p0 H x0 i0 ah bF bR aP bC hr) _ (Q12f p0 H r0 _ _ hd' (by first | omega | (simp; omega)))
def Q1mq (p0 : aF) : Val := aF.encT p0
theorem Q2ad (p0 : aF) : Q1mq p0 = ((Q3o ([(Fld.mk Q1u (Val.mk 4 0 eB (Q5x p0 p0.dQ 0 []) [])), (Fld.mk Q3n (Qz p0.iB))]))) := by
  simp only [Q191]
  kernel_rfl
def Q278 (p0 : aF) : En := .call 62 [.agg (aF.cells p0)] []
def Q1we (p0 : aF) : Rs := .ret (.agg (Val.cells (Q1mq p0))) []
def Q1pd (p0 : aF) : Prop := aF.sm p0
theorem Q1lh (p0 : aF) (H : Q1pd p0) : (Qib p0) ∧ True := by
  exact ⟨⟨Nat.le_trans H.2.2.2.1.1 (Nat.le_of_ble_eq_true rfl), trivial⟩, trivial⟩
theorem Q2fc (p0 : aF) (H : Q1pd p0) : Q0 G (Q278 p0) (Q1we p0) := by
 unfold Q1we
 rw [Q2ad]
 have hl0 := Q12f p0 ((Q1lh p0 H).1) p0.dQ 0 [] (by simp) (by simp)
 obtain ⟨z0, fA, hl0⟩ := hl0
 exact Q7 (fn := Ir.K23) (by kernel_rfl) VOK.nil [hS 0 true (Val.Q8 (Q5x p0 p0.dQ 0 []) 5 rfl), hQ (Val.Q5 (Q5x p0 p0.dQ 0 [])).symm] [aV [(2, Val.rows (Q5x p0 p0.dQ 0 []))] hl0, aN (Q46 p0.iB), aN (Q87 (e' := .call 163 [.sl [(Fld.cells (Fld.mk Q1u (Val.mk 4 0 eB (Q5x p0 p0.dQ 0 []) []))), (Fld.cells (Fld.mk Q3n (Qz p0.iB)))]] []) (Q8g ([(Fld.mk Q1u (Val.mk 4 0 eB (Q5x p0 p0.dQ 0 []) [])), (Fld.mk Q3n (Qz p0.iB))]) (Nat.le_of_ble_eq_true rfl)) (by simp only [Q7x, Fld.Q20, Fld.Q2k]))] (by kernel_rfl)
def Q1cn (p0 : aF) : aA := aF.obj p0
theorem Q2bi (p0 : aF) : Q1cn p0 = ((Q157 Q1h p0.aI (Q1mp p0) (Q1mq p0))) := by
  first | rfl | kernel_rfl
def Q28e (p0 : aF) : En := .call 10 [.agg (aF.cells p0)] []
def Q1xm (p0 : aF) : Rs := .ret (.agg (aA.cells (Q1cn p0))) []
def Q1kc (p0 : aF) : Prop := aF.sm p0
theorem Q17q (p0 : aF) (H : Q1kc p0) : (Q1pc p0) ∧ (Q1pd p0) ∧ True := by
  exact ⟨(by first | exact True.intro | exact H | exact H.1 | exact H.2.1 | exact H.2.2.1 | exact H.2.2.2.1 | exact ⟨H.1, trivial⟩ | exact ⟨H.2.1, trivial⟩), (by first | exact True.intro | exact H | exact H.1 | exact H.2.1 | exact H.2.2.1 | exact H.2.2.2.1 | exact ⟨H.1, trivial⟩ | exact ⟨H.2.1, trivial⟩), trivial⟩
theorem Q20o (p0 : aF) (H : Q1kc p0) : Q0 G (Q28e p0) (Q1xm p0) := by
 unfold Q1xm
 rw [Q2bi]
 exact Q7 (fn := Ir.K3k) (by kernel_rfl) VOK.nil [] [aN (Q2fb p0 (Q17q p0 H).1), aN (Q2fc p0 (Q17q p0 H).2.1), aN (Q1je Q1h p0.aI (Q1mp p0) (Q1mq p0))] (by kernel_rfl)
def Q156 (p0 : bW) : Val := JobS.enc p0
theorem Q2al (p0 : bW) : Q156 p0 = ((Q3o ([(Fld.mk Qj (Qz p0.d9)), (Fld.mk Qu (Qz p0.dD)), (Fld.mk Q1x (Qz p0.eX)), (Fld.mk Q16 (Qz p0.dz)), (Fld.mk Q2j (Q45 p0.eU)), (Fld.mk Q19 (Q45 p0.dh)), (Fld.mk Q17 (Q13m p0.bA))]))) := by
  kernel_rfl
def Q27h (p0 : bW) : En := .call 100 [.agg (bW.cells p0)] []
def Q1wn (p0 : bW) : Rs := .ret (.agg (Val.cells (Q156 p0))) []
def Q1ka (p0 : bW) : Prop := JobS.sm p0
theorem Q1lm (p0 : bW) (H : Q1ka p0) : (Q1kb p0.bA) ∧ True := by
  exact ⟨(by first | exact True.intro | exact H | exact H.1 | exact ⟨H.1, trivial⟩ | exact ⟨H.2.1, trivial⟩), trivial⟩
theorem Q20f (p0 : bW) (H : Q1ka p0) : Q0 G (Q27h p0) (Q1wn p0) := by
 unfold Q1wn
 rw [Q2al]
 exact Q7 (fn := Ir.K2e) (by kernel_rfl) VOK.nil [] [aN (Q46 p0.d9), aN (Q46 p0.dD), aN (Q46 p0.eX), aN (Q46 p0.dz), aN (Qgx p0.eU), aN (Qgx p0.dh), aN (Q20h p0.bA (Q1lm p0 H).1), aN (Q87 (e' := .call 163 [.sl [(Fld.cells (Fld.mk Qj (Qz p0.d9))), (Fld.cells (Fld.mk Qu (Qz p0.dD))), (Fld.cells (Fld.mk Q1x (Qz p0.eX))), (Fld.cells (Fld.mk Q16 (Qz p0.dz))), (Fld.cells (Fld.mk Q2j (Q45 p0.eU))), (Fld.cells (Fld.mk Q19 (Q45 p0.dh))), (Fld.cells (Fld.mk Q17 (Q13m p0.bA)))]] []) (Q8g ([(Fld.mk Qj (Qz p0.d9)), (Fld.mk Qu (Qz p0.dD)), (Fld.mk Q1x (Qz p0.eX)), (Fld.mk Q16 (Qz p0.dz)), (Fld.mk Q2j (Q45 p0.eU)), (Fld.mk Q19 (Q45 p0.dh)), (Fld.mk Q17 (Q13m p0.bA))]) (Nat.le_of_ble_eq_true rfl)) (by simp only [Q7x, Fld.Q20, Fld.Q2k]))] (by kernel_rfl)
def Q77 (p0 : List Int) : List Int → Nat → (List Val) → List Val
 | [], _i0, ah =>
  ah
 | x0 :: r0, i0, ah =>
  Q77 p0 r0 (i0 + 1) (ah ++ [(Qz x0)])
theorem Q194 (p0 : List Int) : ∀ (l : List Int) (i : Nat) (a : List Val), Q77 p0 l i a = a ++ l.map (fun x0 => (Qz x0))
  | [], _, _ => by simp [Q77]
  | x :: r, i, a => by rw [Q77, Q194 p0 r]; simp
def Q1fa (p0 : List Int) (i0 : Nat) (ah : List Val) : List PV :=
  [.sl (Q43 p0), .un, .bx 0 0, .ms 1 5 0 (List.length ah), iN (i0 : Int)] ++ nuns 16
def Qzi (_p0 : List Int) (_i0 : Nat) (ah : List Val) : List Ob :=
  [⟨5, 0, true, [iN 0, iN 0, .str eB, .ms 2 5 0 0, .ms 3 6 0 0]⟩, ⟨5, 0, true, (Val.rows ah).flatten⟩, ⟨5, 0, true, []⟩, ⟨6, 0, true, []⟩]
def Qhd (p0 : List Int) (i0 : Nat) (ah : List Val) : En := .loop 0 Ir.Ql4 Ir.Q1np (Q1fa p0 i0 ah) (Qzi p0 i0 ah)
def Qs8 (_p0 : List Int) (q0 : List Val) (z : Nat → PV) (_zo : Nat → List PV) : St :=
  ⟨[z 0, z 1, .bx 0 0, .ms 1 5 0 (List.length q0)] ++ zr z 4 17, [(0, ⟨5, 0, true, [iN 0, iN 0, .str eB, .ms 2 5 0 0, .ms 3 6 0 0]⟩), (1, ⟨5, 0, true, (Val.rows q0).flatten⟩), (2, ⟨5, 0, true, []⟩), (3, ⟨6, 0, true, []⟩)], 260⟩
theorem Q166 (p0 : List Int) (i0 : Nat) (ah : List Val) : VOK (Go.Pv.look (number 0 (Qzi p0 i0 ah))) [(1, Val.rows ah)] := (VOK.cons (show Seen _ _ from Q4a (ob := ⟨5, 0, true, (Val.rows ah).flatten⟩) (Val.Q8 ah 5 rfl)) VOK.nil)
def Qj0 (p0 : List Int) (e : En) (q : List Val) : Prop := ∃ z zo, Q0 G e (.st (.exit 0) (Qs8 p0 q z zo))
theorem Qwy (p0 : List Int) {e e' : En} (h : ∀ r, Q0 G e r → Q0 G e' r) : ∀ q, Qj0 p0 e q → Qj0 p0 e' q
  | _, ⟨z, zo, hz⟩ => ⟨z, zo, h _ hz⟩
def Qie (p0 : List Int) : Prop := (List.length p0 ≤ 137438953472) ∧ True
def Qu7 (p0 : List Int) (i0 : Nat) (_ah : List Val) : List PV :=
  [.sl (Q43 p0), .un, .un, .un, iN (i0 : Int), iN (i0 : Int), .sl (Q43 p0), iN ((List.length p0) : Int), .bool false]
def Qmw (_p0 : List Int) (_i0 : Nat) (_ah : List Val) : List (Nat × List PV) :=
  []
theorem Q1dm (p0 : List Int) (_H : Qie p0) (i0 : Nat) (ah : List Val) (_aP : List.length ah ≤ i0) (bC : (decide ((i0 : Int) < ((List.length p0) : Int))) = false) : Qj0 p0 (Qhd p0 i0 ah) ah := by
 exact ⟨(envF (Qu7 p0 i0 ah)), (zoF (Qmw p0 i0 ah)), Qh (Q166 p0 i0 ah) (x := ((.exit 0), Qs8 p0 ah (envF (Qu7 p0 i0 ah)) (zoF (Qmw p0 i0 ah)))) [hP 2 (Qs _ _ (Q7j p0)), hB 0 bC] [] (by kernel_rfl)⟩
theorem Q1b2 (p0 : List Int) (H : Qie p0) (x0 : Int) (i0 : Nat) (ah : List Val) (bF : p0[i0]? = some x0) (bR : i0 < List.length p0) (aP : List.length ah ≤ i0) (bC : (decide ((i0 : Int) < ((List.length p0) : Int))) = true) {r : Rs} (hr : Q0 G (Qhd p0 (i0 + 1) (ah ++ [(Qz x0)])) r) : Q0 G (Qhd p0 i0 ah) r := by
 have hB0 := H.1
 exact Qc (Q166 p0 i0 ah) [hP 2 (Qs _ _ (Q7j p0)), hB 0 bC, hP 3 (Q1l 1 _ i0 _ (Q1aa bF) rfl), hA 3 1 644 708 5 80 0 0 true Val.Q5 Val.Q1n ah (Qz x0) (Val.Qw ah) rfl rfl (by omega), hS 0 true (Val.Q8 (ah ++ [(Qz x0)]) 5 rfl), hP 2 (Q26 i0 (by omega))] [aN (Q46 x0)] hr (by kernel_rfl)
theorem Q12i (p0 : List Int) (H : Qie p0) : ∀ (r0 : List Int) (i0 : Nat) (ah : List Val), List.drop i0 p0 = r0 → List.length ah ≤ i0 → Qj0 p0 (Qhd p0 i0 ah) (Q77 p0 r0 i0 ah)
 | [], i0, ah, hd, aP => by
  have bC : (decide ((i0 : Int) < ((List.length p0) : Int))) = false := by have := Q1o hd; simp; omega
  rw [Q77]
  exact Q1dm p0 H i0 ah aP bC
 | x0 :: r0, i0, ah, hd, aP => by
  obtain ⟨bF, bR, hd'⟩ := Q1p hd
  have bC : (decide ((i0 : Int) < ((List.length p0) : Int))) = true := by simp; omega
  rw [Q77]
  exact Qwy p0 (fun r hr => Q1b2 p0 H x0 i0 ah bF bR aP bC hr) _ (Q12i p0 H r0 _ _ hd' (by first | omega | (simp; omega)))
def Q1iw (p0 : List Int) : Val := vL (p0.map vN)
theorem Q2ak (p0 : List Int) : Q1iw p0 = ((Val.mk 4 0 eB (Q77 p0 p0 0 []) [])) := by
  rw [Q194]
  kernel_rfl
def Q27g (p0 : List Int) : En := .call 195 [.sl (Q43 p0)] []
def Q1wm (p0 : List Int) : Rs := .ret (.agg (Val.cells (Q1iw p0))) []
def Q1pj (p0 : List Int) : Prop := LSm (fun _ : Int => True) p0
theorem Q1ll (p0 : List Int) (H : Q1pj p0) : (Qie p0) ∧ True := by
  exact ⟨⟨Nat.le_trans H.1 (Nat.le_of_ble_eq_true rfl), trivial⟩, trivial⟩
theorem Q2fi (p0 : List Int) (H : Q1pj p0) : Q0 G (Q27g p0) (Q1wm p0) := by
 unfold Q1wm
 rw [Q2ak]
 have hl0 := Q12i p0 ((Q1ll p0 H).1) p0 0 [] (by simp) (by simp)
 obtain ⟨z0, fA, hl0⟩ := hl0
 exact Q7 (fn := Ir.K2d) (by kernel_rfl) VOK.nil [hS 0 true (Val.Q8 (Q77 p0 p0 0 []) 5 rfl), hQ (Val.Q5 (Q77 p0 p0 0 [])).symm] [aV [(1, Val.rows (Q77 p0 p0 0 []))] hl0] (by kernel_rfl)
def Q1mv (p0 : bW) : Val := bW.encT p0
theorem Q2am (p0 : bW) : Q1mv p0 = ((Q3o ([(Fld.mk Q4e (Qz p0.gZ)), (Fld.mk Q34 (Qz p0.fF)), (Fld.mk Q2o (Qz p0.bD)), (Fld.mk Q3z (Qz p0.started)), (Fld.mk Q3k (Qz p0.fU)), (Fld.mk Q5q (Q1iw p0.done)), (Fld.mk Q4h (Qz p0.iq))]))) := by
  kernel_rfl
def Q27i (p0 : bW) : En := .call 101 [.agg (bW.cells p0)] []
def Q1wo (p0 : bW) : Rs := .ret (.agg (Val.cells (Q1mv p0))) []
def Q1pk (p0 : bW) : Prop := bW.sm p0
theorem Q1ln (p0 : bW) (H : Q1pk p0) : (Q1pj p0.done) ∧ True := by
  exact ⟨(by first | exact True.intro | exact H | exact H.1 | exact H.2.1 | exact ⟨H.1, trivial⟩ | exact ⟨H.2.1, trivial⟩), trivial⟩
theorem Q2fj (p0 : bW) (H : Q1pk p0) : Q0 G (Q27i p0) (Q1wo p0) := by
 unfold Q1wo
 rw [Q2am]
 exact Q7 (fn := Ir.K2f) (by kernel_rfl) VOK.nil [] [aN (Q46 p0.gZ), aN (Q46 p0.fF), aN (Q46 p0.bD), aN (Q46 p0.started), aN (Q46 p0.fU), aN (Q2fi p0.done (Q1ln p0 H).1), aN (Q46 p0.iq), aN (Q87 (e' := .call 163 [.sl [(Fld.cells (Fld.mk Q4e (Qz p0.gZ))), (Fld.cells (Fld.mk Q34 (Qz p0.fF))), (Fld.cells (Fld.mk Q2o (Qz p0.bD))), (Fld.cells (Fld.mk Q3z (Qz p0.started))), (Fld.cells (Fld.mk Q3k (Qz p0.fU))), (Fld.cells (Fld.mk Q5q (Q1iw p0.done))), (Fld.cells (Fld.mk Q4h (Qz p0.iq)))]] []) (Q8g ([(Fld.mk Q4e (Qz p0.gZ)), (Fld.mk Q34 (Qz p0.fF)), (Fld.mk Q2o (Qz p0.bD)), (Fld.mk Q3z (Qz p0.started)), (Fld.mk Q3k (Qz p0.fU)), (Fld.mk Q5q (Q1iw p0.done)), (Fld.mk Q4h (Qz p0.iq))]) (Nat.le_of_ble_eq_true rfl)) (by simp only [Q7x, Fld.Q20, Fld.Q2k]))] (by kernel_rfl)
def Q1cr (p0 : bW) : aA := bW.obj p0
theorem Q2bm (p0 : bW) : Q1cr p0 = ((Q157 Q33 p0.aI (Q156 p0) (Q1mv p0))) := by
  first | rfl | kernel_rfl
def Q28i (p0 : bW) : En := .call 19 [.agg (bW.cells p0)] []
def Q1xq (p0 : bW) : Rs := .ret (.agg (aA.cells (Q1cr p0))) []
def Q1kg (p0 : bW) : Prop := bW.sm p0
theorem Q17t (p0 : bW) (H : Q1kg p0) : (Q1ka p0) ∧ (Q1pk p0) ∧ True := by
  exact ⟨(by first | exact True.intro | exact H | exact H.1 | exact H.2.1 | exact ⟨H.1, trivial⟩ | exact ⟨H.2.1, trivial⟩), (by first | exact True.intro | exact H | exact H.1 | exact H.2.1 | exact ⟨H.1, trivial⟩ | exact ⟨H.2.1, trivial⟩), trivial⟩
theorem Q20s (p0 : bW) (H : Q1kg p0) : Q0 G (Q28i p0) (Q1xq p0) := by
 unfold Q1xq
 rw [Q2bm]
 exact Q7 (fn := Ir.K3q) (by kernel_rfl) VOK.nil [] [aN (Q20f p0 (Q17t p0 H).1), aN (Q2fj p0 (Q17t p0 H).2.1), aN (Q1je Q33 p0.aI (Q156 p0) (Q1mv p0))] (by kernel_rfl)
def Q75 (p0 : List aL) : List aL → Nat → (List Val) → List Val
 | [], _i0, ah =>
  ah
 | x0 :: r0, i0, ah =>
  Q75 p0 r0 (i0 + 1) (ah ++ [(Qai x0)])
theorem Q18z (p0 : List aL) : ∀ (l : List aL) (i : Nat) (a : List Val), Q75 p0 l i a = a ++ l.map (fun x0 => (Qai x0))
  | [], _, _ => by simp [Q75]
  | x :: r, i, a => by rw [Q75, Q18z p0 r]; simp
def Q1f5 (p0 : List aL) (i0 : Nat) (ah : List Val) : List PV :=
  [.sl (aL.rows p0), .un, .bx 0 0, .ms 1 5 0 (List.length ah), iN (i0 : Int)] ++ nuns 16
def Qzd (_p0 : List aL) (_i0 : Nat) (ah : List Val) : List Ob :=
  [⟨5, 0, true, [iN 0, iN 0, .str eB, .ms 2 5 0 0, .ms 3 6 0 0]⟩, ⟨5, 0, true, (Val.rows ah).flatten⟩, ⟨5, 0, true, []⟩, ⟨6, 0, true, []⟩]
def Qh8 (p0 : List aL) (i0 : Nat) (ah : List Val) : En := .loop 0 Ir.Qkz Ir.Q1nk (Q1f5 p0 i0 ah) (Qzd p0 i0 ah)
def Qs3 (_p0 : List aL) (q0 : List Val) (z : Nat → PV) (_zo : Nat → List PV) : St :=
  ⟨[z 0, z 1, .bx 0 0, .ms 1 5 0 (List.length q0)] ++ zr z 4 17, [(0, ⟨5, 0, true, [iN 0, iN 0, .str eB, .ms 2 5 0 0, .ms 3 6 0 0]⟩), (1, ⟨5, 0, true, (Val.rows q0).flatten⟩), (2, ⟨5, 0, true, []⟩), (3, ⟨6, 0, true, []⟩)], 260⟩
theorem Q161 (p0 : List aL) (i0 : Nat) (ah : List Val) : VOK (Go.Pv.look (number 0 (Qzd p0 i0 ah))) [(1, Val.rows ah)] := (VOK.cons (show Seen _ _ from Q4a (ob := ⟨5, 0, true, (Val.rows ah).flatten⟩) (Val.Q8 ah 5 rfl)) VOK.nil)
def Qiv (p0 : List aL) (e : En) (q : List Val) : Prop := ∃ z zo, Q0 G e (.st (.exit 0) (Qs3 p0 q z zo))
theorem Qwt (p0 : List aL) {e e' : En} (h : ∀ r, Q0 G e r → Q0 G e' r) : ∀ q, Qiv p0 e q → Qiv p0 e' q
  | _, ⟨z, zo, hz⟩ => ⟨z, zo, h _ hz⟩
def Qi9 (p0 : List aL) : Prop := (List.length p0 ≤ 137438953472) ∧ True
def Qu2 (p0 : List aL) (i0 : Nat) (_ah : List Val) : List PV :=
  [.sl (aL.rows p0), .un, .un, .un, iN (i0 : Int), iN (i0 : Int), .sl (aL.rows p0), iN ((List.length p0) : Int), .bool false]
def Qmr (_p0 : List aL) (_i0 : Nat) (_ah : List Val) : List (Nat × List PV) :=
  []
theorem Q1dh (p0 : List aL) (_H : Qi9 p0) (i0 : Nat) (ah : List Val) (_aP : List.length ah ≤ i0) (bC : (decide ((i0 : Int) < ((List.length p0) : Int))) = false) : Qiv p0 (Qh8 p0 i0 ah) ah := by
 exact ⟨(envF (Qu2 p0 i0 ah)), (zoF (Qmr p0 i0 ah)), Qh (Q161 p0 i0 ah) (x := ((.exit 0), Qs3 p0 ah (envF (Qu2 p0 i0 ah)) (zoF (Qmr p0 i0 ah)))) [hP 2 (Qs _ _ (aL.Q5 p0)), hB 0 bC] [] (by kernel_rfl)⟩
theorem Q1ax (p0 : List aL) (H : Qi9 p0) (x0 : aL) (i0 : Nat) (ah : List Val) (bF : p0[i0]? = some x0) (bR : i0 < List.length p0) (aP : List.length ah ≤ i0) (bC : (decide ((i0 : Int) < ((List.length p0) : Int))) = true) {r : Rs} (hr : Q0 G (Qh8 p0 (i0 + 1) (ah ++ [(Qai x0)])) r) : Q0 G (Qh8 p0 i0 ah) r := by
 have hB0 := H.1
 exact Qc (Q161 p0 i0 ah) [hP 2 (Qs _ _ (aL.Q5 p0)), hB 0 bC, hP 3 (Q1l 2 _ i0 _ (aL.Qb bF) rfl), hA 3 1 644 708 5 80 0 0 true Val.Q5 Val.Q1n ah (Qai x0) (Val.Qw ah) rfl rfl (by omega), hS 0 true (Val.Q8 (ah ++ [(Qai x0)]) 5 rfl), hP 2 (Q26 i0 (by omega))] [aN (Q1jc x0)] hr (by kernel_rfl)
theorem Q12d (p0 : List aL) (H : Qi9 p0) : ∀ (r0 : List aL) (i0 : Nat) (ah : List Val), List.drop i0 p0 = r0 → List.length ah ≤ i0 → Qiv p0 (Qh8 p0 i0 ah) (Q75 p0 r0 i0 ah)
 | [], i0, ah, hd, aP => by
  have bC : (decide ((i0 : Int) < ((List.length p0) : Int))) = false := by have := Q1o hd; simp; omega
  rw [Q75]
  exact Q1dh p0 H i0 ah aP bC
 | x0 :: r0, i0, ah, hd, aP => by
  obtain ⟨bF, bR, hd'⟩ := Q1p hd
  have bC : (decide ((i0 : Int) < ((List.length p0) : Int))) = true := by simp; omega
  rw [Q75]
  exact Qwt p0 (fun r hr => Q1ax p0 H x0 i0 ah bF bR aP bC hr) _ (Q12d p0 H r0 _ _ hd' (by first | omega | (simp; omega)))
def Q13l (p0 : List aL) : Val := vL (p0.map aL.enc)
theorem Q2ab (p0 : List aL) : Q13l p0 = ((Val.mk 4 0 eB (Q75 p0 p0 0 []) [])) := by
  rw [Q18z]
  kernel_rfl
def Q276 (p0 : List aL) : En := .call 196 [.sl (aL.rows p0)] []
def Q1wc (p0 : List aL) : Rs := .ret (.agg (Val.cells (Q13l p0))) []
def Q1k9 (p0 : List aL) : Prop := LSm aL.sm p0
theorem Q1lf (p0 : List aL) (H : Q1k9 p0) : (Qi9 p0) ∧ True := by
  exact ⟨⟨Nat.le_trans H.1 (Nat.le_of_ble_eq_true rfl), trivial⟩, trivial⟩
theorem Q20e (p0 : List aL) (H : Q1k9 p0) : Q0 G (Q276 p0) (Q1wc p0) := by
 unfold Q1wc
 rw [Q2ab]
 have hl0 := Q12d p0 ((Q1lf p0 H).1) p0 0 [] (by simp) (by simp)
 obtain ⟨z0, fA, hl0⟩ := hl0
 exact Q7 (fn := Ir.K21) (by kernel_rfl) VOK.nil [hS 0 true (Val.Q8 (Q75 p0 p0 0 []) 5 rfl), hQ (Val.Q5 (Q75 p0 p0 0 [])).symm] [aV [(1, Val.rows (Q75 p0 p0 0 []))] hl0] (by kernel_rfl)
def Q1mr (p0 : aT) : Val := aT.encS p0
theorem Q2af (p0 : aT) : Q1mr p0 = ((Q3o ([(Fld.mk Q6 (Q6g p0.bG)), (Fld.mk Q29 (Q13l p0.dR)), (Fld.mk Q1s (Q13l p0.dI))]))) := by
  kernel_rfl
def Q27a (p0 : aT) : En := .call 102 [.agg (aT.cells p0)] []
def Q1wg (p0 : aT) : Rs := .ret (.agg (Val.cells (Q1mr p0))) []
def Q1pe (p0 : aT) : Prop := aT.sm p0
theorem Qye (p0 : aT) (H : Q1pe p0) : (Q10k p0.bG) ∧ (Q1k9 p0.dR) ∧ (Q1k9 p0.dI) ∧ True := by
  exact ⟨(by first | exact True.intro | exact H | exact H.1 | exact H.2.1 | exact H.2.2.1 | exact H.2.2.2.1 | exact ⟨H.1, trivial⟩ | exact ⟨H.2.1, trivial⟩), (by first | exact True.intro | exact H | exact H.1 | exact H.2.1 | exact H.2.2.1 | exact H.2.2.2.1 | exact ⟨H.1, trivial⟩ | exact ⟨H.2.1, trivial⟩), (by first | exact True.intro | exact H | exact H.1 | exact H.2.1 | exact H.2.2.1 | exact H.2.2.2.1 | exact ⟨H.1, trivial⟩ | exact ⟨H.2.1, trivial⟩), trivial⟩
theorem Q2fd (p0 : aT) (H : Q1pe p0) : Q0 G (Q27a p0) (Q1wg p0) := by
 unfold Q1wg
 rw [Q2af]
 exact Q7 (fn := Ir.K25) (by kernel_rfl) VOK.nil [] [aN (Q1cu p0.bG (Qye p0 H).1), aN (Q20e p0.dR (Qye p0 H).2.1), aN (Q20e p0.dI (Qye p0 H).2.2.1), aN (Q87 (e' := .call 163 [.sl [(Fld.cells (Fld.mk Q6 (Q6g p0.bG))), (Fld.cells (Fld.mk Q29 (Q13l p0.dR))), (Fld.cells (Fld.mk Q1s (Q13l p0.dI)))]] []) (Q8g ([(Fld.mk Q6 (Q6g p0.bG)), (Fld.mk Q29 (Q13l p0.dR)), (Fld.mk Q1s (Q13l p0.dI))]) (Nat.le_of_ble_eq_true rfl)) (by simp only [Q7x, Fld.Q20, Fld.Q2k]))] (by kernel_rfl)
def Q5y (p0 : aT) : List aR → Nat → (List Val) → List Val
 | [], _i0, ah =>
  ah
 | x0 :: r0, i0, ah =>
  Q5y p0 r0 (i0 + 1) (ah ++ [(Q3o ([(Fld.mk Q12 (Q2q x0.key)), (Fld.mk Q48 (Qz x0.at_))]))])
theorem Q192 (p0 : aT) : ∀ (l : List aR) (i : Nat) (a : List Val), Q5y p0 l i a = a ++ l.map (fun x0 => (Q3o ([(Fld.mk Q12 (Q2q x0.key)), (Fld.mk Q48 (Qz x0.at_))])))
  | [], _, _ => by simp [Q5y]
  | x :: r, i, a => by rw [Q5y, Q192 p0 r]; simp
def Q1f8 (_p0 : aT) (i0 : Nat) (ah : List Val) : List PV :=
  [.un, .bx 0 0, .bx 1 0, .ms 2 5 0 (List.length ah), iN (i0 : Int)] ++ nuns 53
def Qzg (p0 : aT) (_i0 : Nat) (ah : List Val) : List Ob :=
  [⟨22, 0, true, (aT.cells p0)⟩, ⟨5, 0, true, [iN 0, iN 0, .str eB, .ms 3 5 0 0, .ms 4 6 0 0]⟩, ⟨5, 0, true, (Val.rows ah).flatten⟩, ⟨5, 0, true, []⟩, ⟨6, 0, true, []⟩]
def Qhb (p0 : aT) (i0 : Nat) (ah : List Val) : En := .loop 0 Ir.Ql2 Ir.Q1nn (Q1f8 p0 i0 ah) (Qzg p0 i0 ah)
def Qs6 (p0 : aT) (q0 : List Val) (z : Nat → PV) (_zo : Nat → List PV) : St :=
  ⟨[z 0, .bx 0 0, .bx 1 0, .ms 2 5 0 (List.length q0)] ++ zr z 4 54, [(0, ⟨22, 0, true, (aT.cells p0)⟩), (1, ⟨5, 0, true, [iN 0, iN 0, .str eB, .ms 3 5 0 0, .ms 4 6 0 0]⟩), (2, ⟨5, 0, true, (Val.rows q0).flatten⟩), (3, ⟨5, 0, true, []⟩), (4, ⟨6, 0, true, []⟩)], 325⟩
theorem Q164 (p0 : aT) (i0 : Nat) (ah : List Val) : VOK (Go.Pv.look (number 0 (Qzg p0 i0 ah))) [(2, Val.rows ah)] := (VOK.cons (show Seen _ _ from Q4a (ob := ⟨5, 0, true, (Val.rows ah).flatten⟩) (Val.Q8 ah 5 rfl)) VOK.nil)
def Qiy (p0 : aT) (e : En) (q : List Val) : Prop := ∃ z zo, Q0 G e (.st (.exit 0) (Qs6 p0 q z zo))
theorem Qww (p0 : aT) {e e' : En} (h : ∀ r, Q0 G e r → Q0 G e' r) : ∀ q, Qiy p0 e q → Qiy p0 e' q
  | _, ⟨z, zo, hz⟩ => ⟨z, zo, h _ hz⟩
def Qic (p0 : aT) : Prop := (List.length p0.bZ ≤ 137438953472) ∧ True
def Qu5 (p0 : aT) (i0 : Nat) (_ah : List Val) : List PV :=
  [.un, .un, .un, .un, iN (i0 : Int), iN (i0 : Int), .bx 0 21, .sl (aR.rows p0.bZ), iN ((List.length p0.bZ) : Int), .bool false]
def Qmu (_p0 : aT) (_i0 : Nat) (_ah : List Val) : List (Nat × List PV) :=
  []
theorem Q1dk (p0 : aT) (_H : Qic p0) (i0 : Nat) (ah : List Val) (_aP : List.length ah ≤ i0) (bC : (decide ((i0 : Int) < ((List.length p0.bZ) : Int))) = false) : Qiy p0 (Qhb p0 i0 ah) ah := by
 exact ⟨(envF (Qu5 p0 i0 ah)), (zoF (Qmu p0 i0 ah)), Qh (Q164 p0 i0 ah) (x := ((.exit 0), Qs6 p0 ah (envF (Qu5 p0 i0 ah)) (zoF (Qmu p0 i0 ah)))) [hP 3 (Qs _ _ (aR.Q5 p0.bZ)), hB 0 bC] [] (by kernel_rfl)⟩
theorem Q1b0 (p0 : aT) (H : Qic p0) (x0 : aR) (i0 : Nat) (ah : List Val) (bF : p0.bZ[i0]? = some x0) (bR : i0 < List.length p0.bZ) (aP : List.length ah ≤ i0) (bC : (decide ((i0 : Int) < ((List.length p0.bZ) : Int))) = true) {r : Rs} (hr : Q0 G (Qhb p0 (i0 + 1) (ah ++ [(Q3o ([(Fld.mk Q12 (Q2q x0.key)), (Fld.mk Q48 (Qz x0.at_))]))])) r) : Q0 G (Qhb p0 i0 ah) r := by
 have hB0 := H.1
 exact Qc (Q164 p0 i0 ah) [hP 3 (Qs _ _ (aR.Q5 p0.bZ)), hB 0 bC, hP 4 (Q1l 2 _ i0 _ (aR.Qb bF) rfl), hP 7 (Q1l 2 _ i0 _ (aR.Qb bF) rfl), hA 7 2 1541 1605 5 80 0 0 true Val.Q5 Val.Q1n ah (Q3o ([(Fld.mk Q12 (Q2q x0.key)), (Fld.mk Q48 (Qz x0.at_))])) (Val.Qw ah) rfl rfl (by omega), hS 0 true (Val.Q8 (ah ++ [(Q3o ([(Fld.mk Q12 (Q2q x0.key)), (Fld.mk Q48 (Qz x0.at_))]))]) 5 rfl), hP 2 (Q26 i0 (by omega))] [aN (Qch x0.key), aN (Q46 x0.at_), aN (Q87 (e' := .call 163 [.sl [(Fld.cells (Fld.mk Q12 (Q2q x0.key))), (Fld.cells (Fld.mk Q48 (Qz x0.at_)))]] []) (Q8g ([(Fld.mk Q12 (Q2q x0.key)), (Fld.mk Q48 (Qz x0.at_))]) (Nat.le_of_ble_eq_true rfl)) (by simp only [Q7x, Fld.Q20, Fld.Q2k]))] hr (by kernel_rfl)
theorem Q12g (p0 : aT) (H : Qic p0) : ∀ (r0 : List aR) (i0 : Nat) (ah : List Val), List.drop i0 p0.bZ = r0 → List.length ah ≤ i0 → Qiy p0 (Qhb p0 i0 ah) (Q5y p0 r0 i0 ah)
 | [], i0, ah, hd, aP => by
  have bC : (decide ((i0 : Int) < ((List.length p0.bZ) : Int))) = false := by have := Q1o hd; simp; omega
  rw [Q5y]
  exact Q1dk p0 H i0 ah aP bC
 | x0 :: r0, i0, ah, hd, aP => by
  obtain ⟨bF, bR, hd'⟩ := Q1p hd
  have bC : (decide ((i0 : Int) < ((List.length p0.bZ) : Int))) = true := by simp; omega
  rw [Q5y]
  exact Qww p0 (fun r hr => Q1b0 p0 H x0 i0 ah bF bR aP bC hr) _ (Q12g p0 H r0 _ _ hd' (by first | omega | (simp; omega)))
def Q1ms (p0 : aT) : Val := aT.encT p0
theorem Q2ag (p0 : aT) : Q1ms p0 = ((Q3o ([(Fld.mk Qr (Qz p0.dJ)), (Fld.mk Q3r (Qz p0.gU)), (Fld.mk Q3q (Qz p0.gQ)), (Fld.mk Q37 (Qz p0.gy)), (Fld.mk Q3p (Qz p0.gN)), (Fld.mk Q11 (Val.mk 4 0 eB (Q5y p0 p0.bZ 0 []) []))]))) := by
  simp only [Q192]
  kernel_rfl
def Q27b (p0 : aT) : En := .call 103 [.agg (aT.cells p0)] []
def Q1wh (p0 : aT) : Rs := .ret (.agg (Val.cells (Q1ms p0))) []
def Q1pf (p0 : aT) : Prop := aT.sm p0
theorem Q1li (p0 : aT) (H : Q1pf p0) : (Qic p0) ∧ True := by
  exact ⟨⟨Nat.le_trans H.2.2.2.1.1 (Nat.le_of_ble_eq_true rfl), trivial⟩, trivial⟩
theorem Q2fe (p0 : aT) (H : Q1pf p0) : Q0 G (Q27b p0) (Q1wh p0) := by
 unfold Q1wh
 rw [Q2ag]
 have hl0 := Q12g p0 ((Q1li p0 H).1) p0.bZ 0 [] (by simp) (by simp)
 obtain ⟨z0, fA, hl0⟩ := hl0
 exact Q7 (fn := Ir.K26) (by kernel_rfl) VOK.nil [hS 0 true (Val.Q8 (Q5y p0 p0.bZ 0 []) 5 rfl), hQ (Val.Q5 (Q5y p0 p0.bZ 0 [])).symm] [aV [(2, Val.rows (Q5y p0 p0.bZ 0 []))] hl0, aN (Q46 p0.dJ), aN (Q46 p0.gU), aN (Q46 p0.gQ), aN (Q46 p0.gy), aN (Q46 p0.gN), aN (Q87 (e' := .call 163 [.sl [(Fld.cells (Fld.mk Qr (Qz p0.dJ))), (Fld.cells (Fld.mk Q3r (Qz p0.gU))), (Fld.cells (Fld.mk Q3q (Qz p0.gQ))), (Fld.cells (Fld.mk Q37 (Qz p0.gy))), (Fld.cells (Fld.mk Q3p (Qz p0.gN))), (Fld.cells (Fld.mk Q11 (Val.mk 4 0 eB (Q5y p0 p0.bZ 0 []) [])))]] []) (Q8g ([(Fld.mk Qr (Qz p0.dJ)), (Fld.mk Q3r (Qz p0.gU)), (Fld.mk Q3q (Qz p0.gQ)), (Fld.mk Q37 (Qz p0.gy)), (Fld.mk Q3p (Qz p0.gN)), (Fld.mk Q11 (Val.mk 4 0 eB (Q5y p0 p0.bZ 0 []) []))]) (Nat.le_of_ble_eq_true rfl)) (by simp only [Q7x, Fld.Q20, Fld.Q2k]))] (by kernel_rfl)
def Q1co (p0 : aT) : aA := aT.obj p0
theorem Q2bj (p0 : aT) : Q1co p0 = ((Q157 Q2u p0.aI (Q1mr p0) (Q1ms p0))) := by
  first | rfl | kernel_rfl
def Q28f (p0 : aT) : En := .call 20 [.agg (aT.cells p0)] []
def Q1xn (p0 : aT) : Rs := .ret (.agg (aA.cells (Q1co p0))) []
def Q1kd (p0 : aT) : Prop := aT.sm p0
theorem Q17r (p0 : aT) (H : Q1kd p0) : (Q1pe p0) ∧ (Q1pf p0) ∧ True := by
  exact ⟨(by first | exact True.intro | exact H | exact H.1 | exact H.2.1 | exact H.2.2.1 | exact H.2.2.2.1 | exact ⟨H.1, trivial⟩ | exact ⟨H.2.1, trivial⟩), (by first | exact True.intro | exact H | exact H.1 | exact H.2.1 | exact H.2.2.1 | exact H.2.2.2.1 | exact ⟨H.1, trivial⟩ | exact ⟨H.2.1, trivial⟩), trivial⟩
theorem Q20p (p0 : aT) (H : Q1kd p0) : Q0 G (Q28f p0) (Q1xn p0) := by
 unfold Q1xn
 rw [Q2bj]
 exact Q7 (fn := Ir.K3l) (by kernel_rfl) VOK.nil [] [aN (Q2fd p0 (Q17r p0 H).1), aN (Q2fe p0 (Q17r p0 H).2.1), aN (Q1je Q2u p0.aI (Q1mr p0) (Q1ms p0))] (by kernel_rfl)
def Q155 (p0 : Int) : Val :=
 (Val.mk 2 p0 eB [] [])
def Q26w (p0 : Int) : En := .call 67 [iN p0] []
def Q1w1 (p0 : Int) : Rs := .ret (.agg (Val.cells (Q155 p0))) []
theorem Q2f5 (p0 : Int) : Q0 G (Q26w p0) (Q1w1 p0) := by
 unfold Q1w1 Q155
 exact Q7 (fn := Ir.K1p) (by kernel_rfl) VOK.nil [] [] (by kernel_rfl)
def Q1r6 (p0 : Val) : Val := p0
def Q4l (p0 : Val) : List Val → Nat → (List Val) → List Val
 | [], _i0, ah =>
  ah
 | x0 :: r0, i0, ah =>
  Q4l p0 r0 (i0 + 1) (ah ++ [x0])
def Q1ev (_p0 : Val) (i0 : Nat) (_ah : List Val) : List PV :=
  [.un, .bx 0 0, .bx 1 0, .bx 2 0, iN (i0 : Int)] ++ nuns 53
def Qza (p0 : Val) (_i0 : Nat) (ah : List Val) : List Ob :=
  [⟨5, 0, true, (Val.cells p0)⟩, ⟨5, 0, true, [iN 0, iN 0, .str eB, .ms 3 5 0 0, .ms 4 6 0 0]⟩, ⟨5, 0, true, [iN p0.kind, iN p0.n, .str p0.s, .ms 5 5 0 (List.length ah), .ms 6 6 0 0]⟩, ⟨5, 0, true, []⟩, ⟨6, 0, true, []⟩, ⟨5, 0, true, (Val.rows ah).flatten⟩, ⟨6, 0, true, []⟩]
def Qh1 (p0 : Val) (i0 : Nat) (ah : List Val) : En := .loop 0 Ir.Qkp Ir.Q1na (Q1ev p0 i0 ah) (Qza p0 i0 ah)
def Qru (p0 : Val) (q0 : List Val) (z : Nat → PV) (_zo : Nat → List PV) : St :=
  ⟨[z 0, .bx 0 0, .bx 1 0, .bx 2 0] ++ zr z 4 54, [(0, ⟨5, 0, true, (Val.cells p0)⟩), (1, ⟨5, 0, true, [iN 0, iN 0, .str eB, .ms 3 5 0 0, .ms 4 6 0 0]⟩), (2, ⟨5, 0, true, [iN p0.kind, iN p0.n, .str p0.s, .ms 5 5 0 (List.length q0), .ms 6 6 0 0]⟩), (3, ⟨5, 0, true, []⟩), (4, ⟨6, 0, true, []⟩), (5, ⟨5, 0, true, (Val.rows q0).flatten⟩), (6, ⟨6, 0, true, []⟩)], 327⟩
theorem Q15z (p0 : Val) (i0 : Nat) (ah : List Val) : VOK (Go.Pv.look (number 0 (Qza p0 i0 ah))) [(5, Val.rows ah)] := (VOK.cons (show Seen _ _ from Q4a (ob := ⟨5, 0, true, (Val.rows ah).flatten⟩) (Val.Q8 ah 5 rfl)) VOK.nil)
def Qir (p0 : Val) (e : En) (q : List Val) : Prop := ∃ z zo, Q0 G e (.st (.exit 0) (Qru p0 q z zo))
theorem Qwk (p0 : Val) {e e' : En} (h : ∀ r, Q0 G e r → Q0 G e' r) : ∀ q, Qir p0 e q → Qir p0 e' q
  | _, ⟨z, zo, hz⟩ => ⟨z, zo, h _ hz⟩
def Q74 (p0 : Val) : List Fld → Nat → (List Fld) → List Fld
 | [], _i1, bL =>
  bL
 | x1 :: r1, i1, bL =>
  Q74 p0 r1 (i1 + 1) (bL ++ [x1])
def Q1ew (_p0 : Val) (i1 : Nat) (_bL : List Fld) : List PV :=
  [.un, .bx 0 0, .bx 1 0, .bx 2 0, .un, iN (i1 : Int)] ++ nuns 52
def Qzb (p0 : Val) (_i1 : Nat) (bL : List Fld) : List Ob :=
  [⟨5, 0, true, (Val.cells p0)⟩, ⟨5, 0, true, [iN 0, iN 0, .str eB, .ms 3 5 0 0, .ms 4 6 0 0]⟩, ⟨5, 0, true, [iN p0.kind, iN p0.n, .str p0.s, .ms 5 5 0 (List.length (Q4l p0 p0.list 0 [])), .ms 6 6 0 (List.length bL)]⟩, ⟨5, 0, true, []⟩, ⟨6, 0, true, []⟩, ⟨5, 0, true, (Val.rows (Q4l p0 p0.list 0 [])).flatten⟩, ⟨6, 0, true, (Fld.rows bL).flatten⟩]
def Qh2 (p0 : Val) (i1 : Nat) (bL : List Fld) : En := .loop 0 Ir.Qkq Ir.Q1nb (Q1ew p0 i1 bL) (Qzb p0 i1 bL)
def Qrv (p0 : Val) (q0 : List Fld) (z : Nat → PV) (_zo : Nat → List PV) : St :=
  ⟨[z 0, z 1, .bx 1 0, .bx 2 0] ++ zr z 4 54, [(0, ⟨5, 0, true, (Val.cells p0)⟩), (1, ⟨5, 0, true, [iN 0, iN 0, .str eB, .ms 3 5 0 0, .ms 4 6 0 0]⟩), (2, ⟨5, 0, true, [iN p0.kind, iN p0.n, .str p0.s, .ms 5 5 0 (List.length (Q4l p0 p0.list 0 [])), .ms 6 6 0 (List.length q0)]⟩), (3, ⟨5, 0, true, []⟩), (4, ⟨6, 0, true, []⟩), (5, ⟨5, 0, true, (Val.rows (Q4l p0 p0.list 0 [])).flatten⟩), (6, ⟨6, 0, true, (Fld.rows q0).flatten⟩)], 327⟩
theorem Q160 (p0 : Val) (i1 : Nat) (bL : List Fld) : VOK (Go.Pv.look (number 0 (Qzb p0 i1 bL))) [(5, Val.rows (Q4l p0 p0.list 0 [])), (6, Fld.rows bL)] := (VOK.cons (show Seen _ _ from Q4a (ob := ⟨5, 0, true, (Val.rows (Q4l p0 p0.list 0 [])).flatten⟩) (Val.Q8 (Q4l p0 p0.list 0 []) 5 rfl)) (VOK.cons (show Seen _ _ from Q4a (ob := ⟨6, 0, true, (Fld.rows bL).flatten⟩) (Fld.Q8 bL 6 rfl)) VOK.nil))
def Qis (p0 : Val) (e : En) (q : List Fld) : Prop := ∃ z zo, Q0 G e (.st (.exit 2) (Qrv p0 q z zo))
theorem Qwl (p0 : Val) {e e' : En} (h : ∀ r, Q0 G e r → Q0 G e' r) : ∀ q, Qis p0 e q → Qis p0 e' q
  | _, ⟨z, zo, hz⟩ => ⟨z, zo, h _ hz⟩
theorem Q1p0 (p0 : Val) : ∀ (l : List Val) (i : Nat) (a : List Val), Q4l p0 l i a = a ++ l
  | [], i, a => by rw [Q4l]; simp
  | x :: l, i, a => by rw [Q4l, Q1p0 p0 l]; simp
theorem Q1p1 (p0 : Val) : ∀ (l : List Fld) (i : Nat) (a : List Fld), Q74 p0 l i a = a ++ l
  | [], i, a => by rw [Q74]; simp
  | x :: l, i, a => by
    rw [Q74, Q1p1 p0 l]
    simp
theorem Q2a9 (p0 : Val) : Q1r6 p0 = ((Val.mk p0.kind p0.n p0.s (Q4l p0 p0.list 0 []) (Q74 p0 p0.fields 0 []))) := by
  rw [Q1p0, Q1p1]
  cases p0
  rfl
def Q1l5 (p0 : Val) : En := .call 172 [.agg (Val.cells p0)] []
def Q1h3 (p0 : Val) : Rs := .ret (.agg (Val.cells (Q1r6 p0))) []
abbrev Q10i (p0 : Val) : Prop := Val.Sm 1000000000 p0
def Qd0 (p0 : Val) : Prop := ∀ (q : Val), SizeOf.sizeOf q < SizeOf.sizeOf p0 → Q10i q → Q0 G (Q1l5 q) (Q1h3 q)
def Qi2 (p0 : Val) : Prop := (List.length p0.list ≤ 137438953472) ∧ (∀ x0 ∈ p0.list, Q10i x0) ∧ True
def Qi3 (p0 : Val) : Prop := (List.length p0.fields ≤ 137438953472) ∧ (∀ x1 ∈ p0.fields, Q10i x1.v) ∧ True
theorem Q179 (p0 : Val) (H : Q10i p0) : (Qi2 p0) ∧ (Qi3 p0) ∧ True := by
  obtain ⟨h1, h2, h3, h4⟩ := H.all
  exact ⟨⟨by omega, h3, trivial⟩, ⟨by omega, h4, trivial⟩, trivial⟩
def Qtp (p0 : Val) (i0 : Nat) (_ah : List Val) : List PV :=
  [.un, .un, .un, .un, iN (i0 : Int)] ++ nuns 8 ++ [iN (i0 : Int), .bx 0 3, .sl (Val.rows p0.list), iN ((List.length p0.list) : Int), .bool false]
def Qme (_p0 : Val) (_i0 : Nat) (_ah : List Val) : List (Nat × List PV) :=
  []
theorem Q1d4 (p0 : Val) (_H : Qi2 p0) (_rec : Qd0 p0) (i0 : Nat) (ah : List Val) (_aP : List.length ah ≤ i0) (bC : (decide ((i0 : Int) < ((List.length p0.list) : Int))) = false) : Qir p0 (Qh1 p0 i0 ah) ah := by
 exact ⟨(envF (Qtp p0 i0 ah)), (zoF (Qme p0 i0 ah)), Qh (Q15z p0 i0 ah) (x := ((.exit 0), Qru p0 ah (envF (Qtp p0 i0 ah)) (zoF (Qme p0 i0 ah)))) [hP 3 (Qs _ _ (Val.Q5 p0.list)), hB 0 bC] [] (by kernel_rfl)⟩
theorem Q1ai (p0 : Val) (H : Qi2 p0) (rec : Qd0 p0) (x0 : Val) (i0 : Nat) (ah : List Val) (bF : p0.list[i0]? = some x0) (bR : i0 < List.length p0.list) (aP : List.length ah ≤ i0) (bC : (decide ((i0 : Int) < ((List.length p0.list) : Int))) = true) {r : Rs} (hr : Q0 G (Qh1 p0 (i0 + 1) (ah ++ [x0])) r) : Q0 G (Qh1 p0 i0 ah) r := by
 have hB0 := H.1
 exact Qc (Q15z p0 i0 ah) [hP 3 (Qs _ _ (Val.Q5 p0.list)), hB 0 bC, hP 5 (Q1l 5 _ i0 _ (Val.Qb bF) rfl), hA 3 5 839 903 5 80 0 0 true Val.Q5 Val.Q1n ah x0 (Val.Qw ah) rfl rfl (by omega), hS 0 true (Val.Q8 (ah ++ [x0]) 5 rfl), hP 3 (Q26 i0 (by omega))] [aN (rec x0 (szL bF) (H.2.1 x0 (Q1i bF)))] hr (by kernel_rfl)
theorem Q124 (p0 : Val) (H : Qi2 p0) (rec : Qd0 p0) : ∀ (r0 : List Val) (i0 : Nat) (ah : List Val), List.drop i0 p0.list = r0 → List.length ah ≤ i0 → Qir p0 (Qh1 p0 i0 ah) (Q4l p0 r0 i0 ah)
 | [], i0, ah, hd, aP => by
  have bC : (decide ((i0 : Int) < ((List.length p0.list) : Int))) = false := by have := Q1o hd; simp; omega
  rw [Q4l]
  exact Q1d4 p0 H rec i0 ah aP bC
 | x0 :: r0, i0, ah, hd, aP => by
  obtain ⟨bF, bR, hd'⟩ := Q1p hd
  have bC : (decide ((i0 : Int) < ((List.length p0.list) : Int))) = true := by simp; omega
  rw [Q4l]
  exact Qwk p0 (fun r hr => Q1ai p0 H rec x0 i0 ah bF bR aP bC hr) _ (Q124 p0 H rec r0 _ _ hd' (by first | omega | (simp; omega)))
def Qtq (p0 : Val) (i1 : Nat) (_bL : List Fld) : List PV :=
  [.un, .bx 0 0, .un, .un, .un, iN (i1 : Int)] ++ nuns 25 ++ [iN (i1 : Int), .bx 0 4, .sl (Fld.rows p0.fields), iN ((List.length p0.fields) : Int), .bool false]
def Qmf (_p0 : Val) (_i1 : Nat) (_bL : List Fld) : List (Nat × List PV) :=
  []
theorem Q1d5 (p0 : Val) (_H : Qi3 p0) (_rec : Qd0 p0) (i1 : Nat) (bL : List Fld) (_fB : List.length bL ≤ i1) (hc1 : (decide ((i1 : Int) < ((List.length p0.fields) : Int))) = false) : Qis p0 (Qh2 p0 i1 bL) bL := by
 exact ⟨(envF (Qtq p0 i1 bL)), (zoF (Qmf p0 i1 bL)), Qh (Q160 p0 i1 bL) (x := ((.exit 2), Qrv p0 bL (envF (Qtq p0 i1 bL)) (zoF (Qmf p0 i1 bL)))) [hP 3 (Qs _ _ (Fld.Q5 p0.fields)), hB 0 hc1] [] (by kernel_rfl)⟩
theorem Q1aj (p0 : Val) (H : Qi3 p0) (rec : Qd0 p0) (x1 : Fld) (i1 : Nat) (bL : List Fld) (fQ : p0.fields[i1]? = some x1) (iJ : i1 < List.length p0.fields) (fB : List.length bL ≤ i1) (hc1 : (decide ((i1 : Int) < ((List.length p0.fields) : Int))) = true) {r : Rs} (hr : Q0 G (Qh2 p0 (i1 + 1) (bL ++ [x1])) r) : Q0 G (Qh2 p0 i1 bL) r := by
 have hB0 := H.1
 exact Qc (Q160 p0 i1 bL) [hP 3 (Qs _ _ (Fld.Q5 p0.fields)), hB 0 hc1, hP 5 (Q1l 6 _ i1 _ (Fld.Qb fQ) rfl), hP 5 (Q1l 6 _ i1 _ (Fld.Qb fQ) rfl), hA 5 6 1351 1415 6 96 0 0 true Fld.Q5 Fld.Q1n bL x1 (Fld.Qw bL) rfl rfl (by omega), hS 0 true (Fld.Q8 (bL ++ [x1]) 6 rfl), hP 3 (Q26 i1 (by omega))] [aN (rec x1.v (szF fQ) (H.2.1 x1 (Q1i fQ)))] hr (by kernel_rfl)
theorem Q125 (p0 : Val) (H : Qi3 p0) (rec : Qd0 p0) : ∀ (r1 : List Fld) (i1 : Nat) (bL : List Fld), List.drop i1 p0.fields = r1 → List.length bL ≤ i1 → Qis p0 (Qh2 p0 i1 bL) (Q74 p0 r1 i1 bL)
 | [], i1, bL, hd, fB => by
  have hc1 : (decide ((i1 : Int) < ((List.length p0.fields) : Int))) = false := by have := Q1o hd; simp; omega
  rw [Q74]
  exact Q1d5 p0 H rec i1 bL fB hc1
 | x1 :: r1, i1, bL, hd, fB => by
  obtain ⟨fQ, iJ, hd'⟩ := Q1p hd
  have hc1 : (decide ((i1 : Int) < ((List.length p0.fields) : Int))) = true := by simp; omega
  rw [Q74]
  exact Qwl p0 (fun r hr => Q1aj p0 H rec x1 i1 bL fQ iJ fB hc1 hr) _ (Q125 p0 H rec r1 _ _ hd' (by first | omega | (simp; omega)))
theorem Q2d8 (p0 : Val) (H : Q10i p0) (rec : Qd0 p0) : Q0 G (Q1l5 p0) (Q1h3 p0) := by
  unfold Q1h3
  rw [Q2a9]
  have hl0 := Q124 p0 ((Q179 p0 H).1) rec p0.list 0 [] (by simp) (by simp)
  obtain ⟨z0, fA, hl0⟩ := hl0
  have hl1 := Q125 p0 ((Q179 p0 H).2.1) rec p0.fields 0 [] (by simp) (by simp)
  obtain ⟨z1, jd, hl1⟩ := hl1
  exact Q7 (fn := Ir.K1m) (by kernel_rfl) VOK.nil [hS 0 true (Val.Q8 (Q4l p0 p0.list 0 []) 5 rfl), hS 0 true (Val.Q8 (Q4l p0 p0.list 0 []) 5 rfl), hS 0 true (Fld.Q8 (Q74 p0 p0.fields 0 []) 6 rfl), hQ (Val.Q5 (Q4l p0 p0.list 0 [])).symm, hQ (Fld.Q5 (Q74 p0 p0.fields 0 [])).symm] [aV [(5, Val.rows (Q4l p0 p0.list 0 []))] hl0, aV [(5, Val.rows (Q4l p0 p0.list 0 [])), (6, Fld.rows (Q74 p0 p0.fields 0 []))] hl1] (by kernel_rfl)
theorem Q1zo : ∀ (k : Nat) (p0 : Val), SizeOf.sizeOf p0 < k → Q10i p0 → Q0 G (Q1l5 p0) (Q1h3 p0)
  | 0, _, h, _ => absurd h (Nat.not_lt_zero _)
  | k + 1, p0, h, H => Q2d8 p0 H (fun q hq hH => Q1zo k q (by omega) hH)
theorem Q2f4 (p0 : Val) (H : Q10i p0) : Q0 G (Q1l5 p0) (Q1h3 p0) := Q1zo _ p0 (Nat.lt_succ_self _) H
def Q41 (p0 : List Fld) (p1 : Fld) : List Fld → Nat → (List Fld) → Bool → (List Fld) × Bool
 | [], _i0, ah, ay =>
  (ah, ay)
 | x0 :: r0, i0, ah, ay =>
  bif (ay == true) then
   bif (sEq x0.name p1.name) then
    Q41 p0 p1 r0 (i0 + 1) ah ay
   else
    Q41 p0 p1 r0 (i0 + 1) (ah ++ [x0]) ay
  else
   bif ((sLt p1.name x0.name) || (sEq p1.name x0.name)) then
    bif (sEq x0.name p1.name) then
     Q41 p0 p1 r0 (i0 + 1) (ah ++ [p1]) true
    else
     Q41 p0 p1 r0 (i0 + 1) ((ah ++ [p1]) ++ [x0]) true
   else
    bif (sEq x0.name p1.name) then
     Q41 p0 p1 r0 (i0 + 1) ah ay
    else
     Q41 p0 p1 r0 (i0 + 1) (ah ++ [x0]) ay
def Q1f0 (p0 : List Fld) (_p1 : Fld) (i0 : Nat) (ah : List Fld) (ay : Bool) : List PV :=
  [.sl (Fld.rows p0), .un, .un, .bx 0 0, .un, .ms 1 6 0 (List.length ah), .bool ay, iN (i0 : Int)] ++ nuns 44
def Qzc (_p0 : List Fld) (p1 : Fld) (_i0 : Nat) (ah : List Fld) (_ay : Bool) : List Ob :=
  [⟨6, 0, true, (Fld.cells p1)⟩, ⟨6, 0, true, (Fld.rows ah).flatten⟩]
def Q5k (p0 : List Fld) (p1 : Fld) (i0 : Nat) (ah : List Fld) (ay : Bool) : En := .loop 0 Ir.Qku Ir.Q1nf (Q1f0 p0 p1 i0 ah ay) (Qzc p0 p1 i0 ah ay)
def Qry (_p0 : List Fld) (p1 : Fld) (q0 : List Fld) (q1 : Bool) (z : Nat → PV) (_zo : Nat → List PV) : St :=
  ⟨[z 0, z 1, z 2, .bx 0 0, z 4, .ms 1 6 0 (List.length q0), .bool q1] ++ zr z 7 45, [(0, ⟨6, 0, true, (Fld.cells p1)⟩), (1, ⟨6, 0, true, (Fld.rows q0).flatten⟩)], 258⟩
theorem Qa3 (p0 : List Fld) (p1 : Fld) (i0 : Nat) (ah : List Fld) (ay : Bool) : VOK (Go.Pv.look (number 0 (Qzc p0 p1 i0 ah ay))) [(1, Fld.rows ah)] := (VOK.cons (show Seen _ _ from Q4a (ob := ⟨6, 0, true, (Fld.rows ah).flatten⟩) (Fld.Q8 ah 6 rfl)) VOK.nil)
def Qiu (p0 : List Fld) (p1 : Fld) (e : En) (q : (List Fld) × Bool) : Prop := ∃ z zo, Q0 G e (.st (.exit 0) (Qry p0 p1 q.1 q.2 z zo))
theorem Q5u (p0 : List Fld) (p1 : Fld) {e e' : En} (h : ∀ r, Q0 G e r → Q0 G e' r) : ∀ q, Qiu p0 p1 e q → Qiu p0 p1 e' q
  | _, ⟨z, zo, hz⟩ => ⟨z, zo, h _ hz⟩
def Q88 (p0 : List Fld) (_p1 : Fld) : Prop := (List.length p0 ≤ 137438953472) ∧ True
def Qtx (p0 : List Fld) (_p1 : Fld) (i0 : Nat) (_ah : List Fld) (_ay : Bool) : List PV :=
  [.sl (Fld.rows p0)] ++ nuns 6 ++ [iN (i0 : Int), iN (i0 : Int), .sl (Fld.rows p0), iN ((List.length p0) : Int), .bool false]
def Qmm (_p0 : List Fld) (_p1 : Fld) (_i0 : Nat) (_ah : List Fld) (_ay : Bool) : List (Nat × List PV) :=
  []
theorem Q1dc (p0 : List Fld) (p1 : Fld) (_H : Q88 p0 p1) (i0 : Nat) (ah : List Fld) (ay : Bool) (_aP : List.length ah ≤ 2 * i0) (bC : (decide ((i0 : Int) < ((List.length p0) : Int))) = false) : Qiu p0 p1 (Q5k p0 p1 i0 ah ay) (ah, ay) := by
 exact ⟨(envF (Qtx p0 p1 i0 ah ay)), (zoF (Qmm p0 p1 i0 ah ay)), Qh (Qa3 p0 p1 i0 ah ay) (x := ((.exit 0), Qry p0 p1 ah ay (envF (Qtx p0 p1 i0 ah ay)) (zoF (Qmm p0 p1 i0 ah ay)))) [hP 2 (Qs _ _ (Fld.Q5 p0)), hB 0 bC] [] (by kernel_rfl)⟩
theorem Q1an (p0 : List Fld) (p1 : Fld) (H : Q88 p0 p1) (x0 : Fld) (i0 : Nat) (ah : List Fld) (ay : Bool) (bF : p0[i0]? = some x0) (bR : i0 < List.length p0) (_aP : List.length ah ≤ 2 * i0) (bC : (decide ((i0 : Int) < ((List.length p0) : Int))) = true) (h0 : (ay == true) = true) (h1 : (sEq x0.name p1.name) = true) {r : Rs} (hr : Q0 G (Q5k p0 p1 (i0 + 1) ah ay) r) : Q0 G (Q5k p0 p1 i0 ah ay) r := by
 have hB0 := H.1
 exact Qc (Qa3 p0 p1 i0 ah ay) [hP 2 (Qs _ _ (Fld.Q5 p0)), hB 0 bC, hB 0 (beqT h0), hP 13 (Q1l 6 _ i0 _ (Fld.Qb bF) rfl), hP 4 (dec (!(sEq x0.name p1.name)) false (by rw [h1]; rfl)), hP 1 (Q26 i0 (by omega))] [] hr (by kernel_rfl)
theorem Q1ao (p0 : List Fld) (p1 : Fld) (H : Q88 p0 p1) (x0 : Fld) (i0 : Nat) (ah : List Fld) (ay : Bool) (bF : p0[i0]? = some x0) (bR : i0 < List.length p0) (aP : List.length ah ≤ 2 * i0) (bC : (decide ((i0 : Int) < ((List.length p0) : Int))) = true) (h0 : (ay == true) = true) (h1 : (sEq x0.name p1.name) = false) {r : Rs} (hr : Q0 G (Q5k p0 p1 (i0 + 1) (ah ++ [x0]) ay) r) : Q0 G (Q5k p0 p1 i0 ah ay) r := by
 have hB0 := H.1
 exact Qc (Qa3 p0 p1 i0 ah ay) [hP 2 (Qs _ _ (Fld.Q5 p0)), hB 0 bC, hB 0 (beqT h0), hP 13 (Q1l 6 _ i0 _ (Fld.Qb bF) rfl), hP 4 (dec (!(sEq x0.name p1.name)) true (by rw [h1]; rfl)), hP 3 (Q1l 6 _ i0 _ (Fld.Qb bF) rfl), hA 2 1 1858 1922 6 96 0 0 true Fld.Q5 Fld.Q1n ah x0 (Fld.Qw ah) rfl rfl (by omega), hS 0 true (Fld.Q8 (ah ++ [x0]) 6 rfl), hP 2 (Q26 i0 (by omega))] [] hr (by kernel_rfl)
theorem Q1ap (p0 : List Fld) (p1 : Fld) (H : Q88 p0 p1) (x0 : Fld) (i0 : Nat) (ah : List Fld) (ay : Bool) (bF : p0[i0]? = some x0) (bR : i0 < List.length p0) (aP : List.length ah ≤ 2 * i0) (bC : (decide ((i0 : Int) < ((List.length p0) : Int))) = true) (h0 : (ay == true) = false) (h1 : ((sLt p1.name x0.name) || (sEq p1.name x0.name)) = true) (h2 : (sEq x0.name p1.name) = true) {r : Rs} (hr : Q0 G (Q5k p0 p1 (i0 + 1) (ah ++ [p1]) true) r) : Q0 G (Q5k p0 p1 i0 ah ay) r := by
 have hB0 := H.1
 exact Qc (Qa3 p0 p1 i0 ah ay) [hP 2 (Qs _ _ (Fld.Q5 p0)), hB 0 bC, hB 0 (beqT h0), hP 6 (Q1l 6 _ i0 _ (Fld.Qb bF) rfl), hB 2 h1, hA 4 1 1154 1218 6 96 0 0 true Fld.Q5 Fld.Q1n ah p1 (Fld.Qw ah) rfl rfl (by omega), hS 0 true (Fld.Q8 (ah ++ [p1]) 6 rfl), hP 4 (Q1l 6 _ i0 _ (Fld.Qb bF) rfl), hP 4 (dec (!(sEq x0.name p1.name)) false (by rw [h2]; rfl)), hP 1 (Q26 i0 (by omega))] [] hr (by kernel_rfl)
theorem Q1aq (p0 : List Fld) (p1 : Fld) (H : Q88 p0 p1) (x0 : Fld) (i0 : Nat) (ah : List Fld) (ay : Bool) (bF : p0[i0]? = some x0) (bR : i0 < List.length p0) (aP : List.length ah ≤ 2 * i0) (bC : (decide ((i0 : Int) < ((List.length p0) : Int))) = true) (h0 : (ay == true) = false) (h1 : ((sLt p1.name x0.name) || (sEq p1.name x0.name)) = true) (h2 : (sEq x0.name p1.name) = false) {r : Rs} (hr : Q0 G (Q5k p0 p1 (i0 + 1) ((ah ++ [p1]) ++ [x0]) true) r) : Q0 G (Q5k p0 p1 i0 ah ay) r := by
 have hB0 := H.1
 exact Qc (Qa3 p0 p1 i0 ah ay) [hP 2 (Qs _ _ (Fld.Q5 p0)), hB 0 bC, hB 0 (beqT h0), hP 6 (Q1l 6 _ i0 _ (Fld.Qb bF) rfl), hB 2 h1, hA 4 1 1154 1218 6 96 0 0 true Fld.Q5 Fld.Q1n ah p1 (Fld.Qw ah) rfl rfl (by omega), hS 0 true (Fld.Q8 (ah ++ [p1]) 6 rfl), hP 4 (Q1l 6 _ i0 _ (Fld.Qb bF) rfl), hP 4 (dec (!(sEq x0.name p1.name)) true (by rw [h2]; rfl)), hP 3 (Q1l 6 _ i0 _ (Fld.Qb bF) rfl), hA 2 1218 2242 2306 6 96 0 0 true Fld.Q5 Fld.Q1n (ah ++ [p1]) x0 (Fld.Qw (ah ++ [p1])) rfl rfl (by try simp only [List.length_append, List.length_cons, List.length_nil]; omega), hS 0 true (Fld.Q8 ((ah ++ [p1]) ++ [x0]) 6 rfl), hP 2 (Q26 i0 (by omega))] [] hr (by kernel_rfl)
theorem Q1ar (p0 : List Fld) (p1 : Fld) (H : Q88 p0 p1) (x0 : Fld) (i0 : Nat) (ah : List Fld) (ay : Bool) (bF : p0[i0]? = some x0) (bR : i0 < List.length p0) (_aP : List.length ah ≤ 2 * i0) (bC : (decide ((i0 : Int) < ((List.length p0) : Int))) = true) (h0 : (ay == true) = false) (h1 : ((sLt p1.name x0.name) || (sEq p1.name x0.name)) = false) (h2 : (sEq x0.name p1.name) = true) {r : Rs} (hr : Q0 G (Q5k p0 p1 (i0 + 1) ah ay) r) : Q0 G (Q5k p0 p1 i0 ah ay) r := by
 have hB0 := H.1
 exact Qc (Qa3 p0 p1 i0 ah ay) [hP 2 (Qs _ _ (Fld.Q5 p0)), hB 0 bC, hB 0 (beqT h0), hP 6 (Q1l 6 _ i0 _ (Fld.Qb bF) rfl), hB 2 h1, hP 3 (Q1l 6 _ i0 _ (Fld.Qb bF) rfl), hP 4 (dec (!(sEq x0.name p1.name)) false (by rw [h2]; rfl)), hP 1 (Q26 i0 (by omega))] [] hr (by kernel_rfl)
theorem Q1as (p0 : List Fld) (p1 : Fld) (H : Q88 p0 p1) (x0 : Fld) (i0 : Nat) (ah : List Fld) (ay : Bool) (bF : p0[i0]? = some x0) (bR : i0 < List.length p0) (aP : List.length ah ≤ 2 * i0) (bC : (decide ((i0 : Int) < ((List.length p0) : Int))) = true) (h0 : (ay == true) = false) (h1 : ((sLt p1.name x0.name) || (sEq p1.name x0.name)) = false) (h2 : (sEq x0.name p1.name) = false) {r : Rs} (hr : Q0 G (Q5k p0 p1 (i0 + 1) (ah ++ [x0]) ay) r) : Q0 G (Q5k p0 p1 i0 ah ay) r := by
 have hB0 := H.1
 exact Qc (Qa3 p0 p1 i0 ah ay) [hP 2 (Qs _ _ (Fld.Q5 p0)), hB 0 bC, hB 0 (beqT h0), hP 6 (Q1l 6 _ i0 _ (Fld.Qb bF) rfl), hB 2 h1, hP 3 (Q1l 6 _ i0 _ (Fld.Qb bF) rfl), hP 4 (dec (!(sEq x0.name p1.name)) true (by rw [h2]; rfl)), hP 3 (Q1l 6 _ i0 _ (Fld.Qb bF) rfl), hA 2 1 1858 1922 6 96 0 0 true Fld.Q5 Fld.Q1n ah x0 (Fld.Qw ah) rfl rfl (by omega), hS 0 true (Fld.Q8 (ah ++ [x0]) 6 rfl), hP 2 (Q26 i0 (by omega))] [] hr (by kernel_rfl)
theorem Q8r (p0 : List Fld) (p1 : Fld) (H : Q88 p0 p1) : ∀ (r0 : List Fld) (i0 : Nat) (ah : List Fld) (ay : Bool), List.drop i0 p0 = r0 → List.length ah ≤ 2 * i0 → Qiu p0 p1 (Q5k p0 p1 i0 ah ay) (Q41 p0 p1 r0 i0 ah ay)
 | [], i0, ah, ay, hd, aP => by
  have bC : (decide ((i0 : Int) < ((List.length p0) : Int))) = false := by have := Q1o hd; simp; omega
  rw [Q41]
  exact Q1dc p0 p1 H i0 ah ay aP bC
 | x0 :: r0, i0, ah, ay, hd, aP => by
  obtain ⟨bF, bR, hd'⟩ := Q1p hd
  have bC : (decide ((i0 : Int) < ((List.length p0) : Int))) = true := by simp; omega
  rw [Q41]
  cases h0 : (ay == true) with
  | true =>
   cases h1 : (sEq x0.name p1.name) with
   | true =>
    exact Q5u p0 p1 (fun r hr => Q1an p0 p1 H x0 i0 ah ay bF bR aP bC h0 h1 hr) _ (Q8r p0 p1 H r0 _ _ _ hd' (by first | omega | (simp; omega)))
   | false =>
    exact Q5u p0 p1 (fun r hr => Q1ao p0 p1 H x0 i0 ah ay bF bR aP bC h0 h1 hr) _ (Q8r p0 p1 H r0 _ _ _ hd' (by first | omega | (simp; omega)))
  | false =>
   cases h1 : ((sLt p1.name x0.name) || (sEq p1.name x0.name)) with
   | true =>
    cases h2 : (sEq x0.name p1.name) with
    | true =>
     exact Q5u p0 p1 (fun r hr => Q1ap p0 p1 H x0 i0 ah ay bF bR aP bC h0 h1 h2 hr) _ (Q8r p0 p1 H r0 _ _ _ hd' (by first | omega | (simp; omega)))
    | false =>
     exact Q5u p0 p1 (fun r hr => Q1aq p0 p1 H x0 i0 ah ay bF bR aP bC h0 h1 h2 hr) _ (Q8r p0 p1 H r0 _ _ _ hd' (by first | omega | (simp; omega)))
   | false =>
    cases h2 : (sEq x0.name p1.name) with
    | true =>
     exact Q5u p0 p1 (fun r hr => Q1ar p0 p1 H x0 i0 ah ay bF bR aP bC h0 h1 h2 hr) _ (Q8r p0 p1 H r0 _ _ _ hd' (by first | omega | (simp; omega)))
    | false =>
     exact Q5u p0 p1 (fun r hr => Q1as p0 p1 H x0 i0 ah ay bF bR aP bC h0 h1 h2 hr) _ (Q8r p0 p1 H r0 _ _ _ hd' (by first | omega | (simp; omega)))
def Q1iu (p0 : List Fld) (p1 : Fld) : List Fld :=
 bif (Q41 p0 p1 p0 0 [] false).2 then
  (Q41 p0 p1 p0 0 [] false).1
 else
  ((Q41 p0 p1 p0 0 [] false).1 ++ [p1])
def Q26z (p0 : List Fld) (p1 : Fld) : En := .call 173 [.sl (Fld.rows p0), .agg (Fld.cells p1)] []
def Q1w5 (p0 : List Fld) (p1 : Fld) : Rs := .ret (.sl (Fld.rows (Q1iu p0 p1))) []
def Q1va (p0 : List Fld) (p1 : Fld) : Prop := (Q88 p0 p1) ∧ ((Q41 p0 p1 p0 0 [] false).2 = false → ((List.length (Q41 p0 p1 p0 0 [] false).1) + 1) * 96 ≤ 140737488355328) ∧ True
theorem Q2f8 (p0 : List Fld) (p1 : Fld) (H : Q1va p0 p1) : Q0 G (Q26z p0 p1) (Q1w5 p0 p1) := by
 unfold Q1w5 Q1iu
 have hl0 := Q8r p0 p1 (H.1) p0 0 [] false (by simp) (by simp)
 obtain ⟨z0, fA, hl0⟩ := hl0
 cases h0 : (Q41 p0 p1 p0 0 [] false).2 with
 | true =>
  exact Q7 (fn := Ir.K1u) (by kernel_rfl) VOK.nil [hS 0 true (Fld.Q8 (Q41 p0 p1 p0 0 [] false).1 6 rfl), hB 5 h0, hQ (Fld.Q5 (Q41 p0 p1 p0 0 [] false).1).symm] [aV [(1, Fld.rows (Q41 p0 p1 p0 0 [] false).1)] hl0] (by kernel_rfl)
 | false =>
  exact Q7 (fn := Ir.K1u) (by kernel_rfl) VOK.nil [hS 0 true (Fld.Q8 (Q41 p0 p1 p0 0 [] false).1 6 rfl), hB 5 h0, hA 4 1 514 578 6 96 0 0 true Fld.Q5 Fld.Q1n (Q41 p0 p1 p0 0 [] false).1 p1 (Fld.Qw (Q41 p0 p1 p0 0 [] false).1) rfl rfl (H.2.1 h0), hS 0 true (Fld.Q8 ((Q41 p0 p1 p0 0 [] false).1 ++ [p1]) 6 rfl), hQ (Fld.Q5 ((Q41 p0 p1 p0 0 [] false).1 ++ [p1])).symm] [aV [(1, Fld.rows (Q41 p0 p1 p0 0 [] false).1)] hl0] (by kernel_rfl)
def Qex (p0 : List Fld) : List Fld → Nat → Val → Val
 | [], _i0, ah =>
  ah
 | x0 :: r0, i0, ah =>
  Qex p0 r0 (i0 + 1) (Val.mk ah.kind ah.n ah.s ah.list (Q1iu ah.fields x0))
def Q1ex (p0 : List Fld) (i0 : Nat) (_ah : Val) : List PV :=
  [.sl (Fld.rows p0), .un, .bx 0 0, .bx 1 0, iN (i0 : Int)] ++ nuns 24
def Q1ge (_p0 : List Fld) (_i0 : Nat) (ah : Val) : List Ob :=
  [⟨5, 0, true, [iN 0, iN 0, .str eB, .sl [], .sl []]⟩, ⟨5, 0, true, (Val.cells ah)⟩]
def Qh3 (p0 : List Fld) (i0 : Nat) (ah : Val) : En := .loop 0 Ir.Qkr Ir.Q1nc (Q1ex p0 i0 ah) (Q1ge p0 i0 ah)
def Qrw (_p0 : List Fld) (q0 : Val) (z : Nat → PV) (_zo : Nat → List PV) : St :=
  ⟨[z 0, z 1, .bx 0 0, .bx 1 0] ++ zr z 4 25, [(0, ⟨5, 0, true, [iN 0, iN 0, .str eB, .sl [], .sl []]⟩), (1, ⟨5, 0, true, (Val.cells q0)⟩)], 258⟩
def Qit (p0 : List Fld) (e : En) (q : Val) : Prop := ∃ z zo, Q0 G e (.st (.exit 0) (Qrw p0 q z zo))
theorem Qwm (p0 : List Fld) {e e' : En} (h : ∀ r, Q0 G e r → Q0 G e' r) : ∀ q, Qit p0 e q → Qit p0 e' q
  | _, ⟨z, zo, hz⟩ => ⟨z, zo, h _ hz⟩
def Qi4 (p0 : List Fld) : Prop := (List.length p0 ≤ 137438953472) ∧ (∀ x0 ∈ p0, Q10i x0.v) ∧ (∀ (i0 : Nat) (ah : Val) (x0 : Fld), p0[i0]? = some x0 → List.length ah.fields ≤ i0 → Q1va ah.fields x0) ∧ (∀ (i0 : Nat) (ah : Val) (x0 : Fld), p0[i0]? = some x0 → List.length ah.fields ≤ i0 → List.length (Val.mk ah.kind ah.n ah.s ah.list (Q1iu ah.fields x0)).fields ≤ (i0 + 1)) ∧ True
def Qtr (p0 : List Fld) (i0 : Nat) (_ah : Val) : List PV :=
  [.sl (Fld.rows p0), .un, .un, .un, iN (i0 : Int), .un, iN (i0 : Int), .sl (Fld.rows p0), iN ((List.length p0) : Int), .bool false]
def Qmg (_p0 : List Fld) (_i0 : Nat) (_ah : Val) : List (Nat × List PV) :=
  []
theorem Q1d6 (p0 : List Fld) (_H : Qi4 p0) (i0 : Nat) (ah : Val) (_aP : List.length ah.fields ≤ i0) (bC : (decide ((i0 : Int) < ((List.length p0) : Int))) = false) : Qit p0 (Qh3 p0 i0 ah) ah := by
 exact ⟨(envF (Qtr p0 i0 ah)), (zoF (Qmg p0 i0 ah)), Qh VOK.nil (x := ((.exit 0), Qrw p0 ah (envF (Qtr p0 i0 ah)) (zoF (Qmg p0 i0 ah)))) [hP 2 (Qs _ _ (Fld.Q5 p0)), hB 0 bC] [] (by kernel_rfl)⟩
theorem Q1ak (p0 : List Fld) (H : Qi4 p0) (x0 : Fld) (i0 : Nat) (ah : Val) (bF : p0[i0]? = some x0) (bR : i0 < List.length p0) (aP : List.length ah.fields ≤ i0) (bC : (decide ((i0 : Int) < ((List.length p0) : Int))) = true) {r : Rs} (hr : Q0 G (Qh3 p0 (i0 + 1) (Val.mk ah.kind ah.n ah.s ah.list (Q1iu ah.fields x0))) r) : Q0 G (Qh3 p0 i0 ah) r := by
 have hB0 := H.1
 exact Qc VOK.nil [hP 2 (Qs _ _ (Fld.Q5 p0)), hB 0 bC, hP 4 (Q1l 6 _ i0 _ (Fld.Qb bF) rfl), hP 4 (Q1l 6 _ i0 _ (Fld.Qb bF) rfl), hP 8 (Q26 i0 (by omega))] [aN (Q2f4 x0.v (H.2.1 x0 (Q1i bF))), aN (Q2f8 ah.fields x0 (H.2.2.1 i0 ah x0 bF aP))] hr (by kernel_rfl)
theorem Q126 (p0 : List Fld) (H : Qi4 p0) : ∀ (r0 : List Fld) (i0 : Nat) (ah : Val), List.drop i0 p0 = r0 → List.length ah.fields ≤ i0 → Qit p0 (Qh3 p0 i0 ah) (Qex p0 r0 i0 ah)
 | [], i0, ah, hd, aP => by
  have bC : (decide ((i0 : Int) < ((List.length p0) : Int))) = false := by have := Q1o hd; simp; omega
  rw [Qex]
  exact Q1d6 p0 H i0 ah aP bC
 | x0 :: r0, i0, ah, hd, aP => by
  obtain ⟨bF, bR, hd'⟩ := Q1p hd
  have bC : (decide ((i0 : Int) < ((List.length p0) : Int))) = true := by simp; omega
  rw [Qex]
  exact Qwm p0 (fun r hr => Q1ak p0 H x0 i0 ah bF bR aP bC hr) _ (Q126 p0 H r0 _ _ hd' ((H.2.2.2.1 i0 ah x0 bF aP)))
def Q1mn (p0 : List Fld) : Val :=
 (Qex p0 p0 0 (Val.mk 5 0 eB [] []))
def Q1zk (p0 : List Fld) : En := .call 66 [.sl (Fld.rows p0)] []
def Q1w2 (p0 : List Fld) : Rs := .ret (.agg (Val.cells (Q1mn p0))) []
def Q1p8 (p0 : List Fld) : Prop := List.length p0 ≤ 1 ∧ ∀ f ∈ p0, Val.Sm 1000000000 f.v
theorem Q17a (p0 : List Fld) (H : Q1p8 p0) : (Qi4 p0) ∧ (List.length (Val.mk 5 0 eB [] []).fields ≤ 0) ∧ True := by
  have H' : p0.length ≤ 1 ∧ ∀ f ∈ p0, Val.Sm 1000000000 f.v := H
  have hz : ∀ (i : Nat) (v : Val) (x : Fld), p0[i]? = some x → v.fields.length ≤ i → v.fields = [] ∧ i = 0 := fun i v x h g => by
    have := (List.getElem?_eq_some_iff.1 h).1
    exact ⟨List.eq_nil_of_length_eq_zero (by omega), by omega⟩
  refine ⟨⟨by omega, H'.2, fun i v x h g => ?_, fun i v x h g => ?_, trivial⟩, Nat.le_refl 0, trivial⟩
  · rw [(hz i v x h g).1]
    exact ⟨⟨Nat.zero_le _, trivial⟩, fun _ => Nat.le_of_ble_eq_true rfl, trivial⟩
  · obtain ⟨e1, e2⟩ := hz i v x h g
    rw [e1, e2]
    exact Nat.le_of_ble_eq_true rfl
theorem Q2f6 (p0 : List Fld) (H : Q1p8 p0) : Q0 G (Q1zk p0) (Q1w2 p0) := by
 unfold Q1w2 Q1mn
 have hl0 := Q126 p0 ((Q17a p0 H).1) p0 0 (Val.mk 5 0 eB [] []) (by simp) ((Q17a p0 H).2.1)
 obtain ⟨z0, fA, hl0⟩ := hl0
 exact Q7 (fn := Ir.K1q) (by kernel_rfl) VOK.nil [] [aN hl0] (by kernel_rfl)
end Go.Proofs.YtimjjohlpnkacaaGreat
end

section
/- What the reference's encoders compute (printed by a program). -/
namespace Go.Proofs.YtimjjohlpnkacaaGreat
open Go.Pv
def Q1mt (p0 : aS) : Val := aS.encS p0
theorem Q2ai (p0 : aS) : Q1mt p0 = ((Q3o ([(Fld.mk Q3d (Q2q p0.gI)), (Fld.mk Q49 (Qz p0.iA)), (Fld.mk Q2m (Qz p0.fu)), (Fld.mk Q3c (Qz p0.gD)), (Fld.mk Q19 (Q45 p0.dh)), (Fld.mk Q72 (Q156 p0.fZ))]))) := by
  kernel_rfl
def Q27d (p0 : aS) : En := .call 161 [.agg (aS.cells p0)] []
def Q1wj (p0 : aS) : Rs := .ret (.agg (Val.cells (Q1mt p0))) []
def Q1ph (p0 : aS) : Prop := aS.sm p0
theorem Q1lk (p0 : aS) (H : Q1ph p0) : (Q1ka p0.fZ) ∧ True := by
  exact ⟨(by first | exact True.intro | exact H | exact H.1 | exact ⟨H.1, trivial⟩ | exact ⟨H.2.1, trivial⟩), trivial⟩
theorem Q2fg (p0 : aS) (H : Q1ph p0) : Q0 G (Q27d p0) (Q1wj p0) := by
 unfold Q1wj
 rw [Q2ai]
 exact Q7 (fn := Ir.K28) (by kernel_rfl) VOK.nil [] [aN (Qch p0.gI), aN (Q46 p0.iA), aN (Q46 p0.fu), aN (Q46 p0.gD), aN (Qgx p0.dh), aN (Q20f p0.fZ (Q1lk p0 H).1), aN (Q87 (e' := .call 163 [.sl [(Fld.cells (Fld.mk Q3d (Q2q p0.gI))), (Fld.cells (Fld.mk Q49 (Qz p0.iA))), (Fld.cells (Fld.mk Q2m (Qz p0.fu))), (Fld.cells (Fld.mk Q3c (Qz p0.gD))), (Fld.cells (Fld.mk Q19 (Q45 p0.dh))), (Fld.cells (Fld.mk Q72 (Q156 p0.fZ)))]] []) (Q8g ([(Fld.mk Q3d (Q2q p0.gI)), (Fld.mk Q49 (Qz p0.iA)), (Fld.mk Q2m (Qz p0.fu)), (Fld.mk Q3c (Qz p0.gD)), (Fld.mk Q19 (Q45 p0.dh)), (Fld.mk Q72 (Q156 p0.fZ))]) (Nat.le_of_ble_eq_true rfl)) (by simp only [Q7x, Fld.Q20, Fld.Q2k]))] (by kernel_rfl)
def Q1cp (p0 : aS) : aA := aS.obj p0
theorem Q2bk (p0 : aS) : Q1cp p0 = ((Q157 Q2a p0.aI (Q1mt p0) (Q1mn ([(Fld.mk Q5d (Q155 p0.last))])))) := by
  first | rfl | kernel_rfl
def Q28g (p0 : aS) : En := .call 51 [.agg (aS.cells p0)] []
def Q1xo (p0 : aS) : Rs := .ret (.agg (aA.cells (Q1cp p0))) []
def Q1ke (p0 : aS) : Prop := aS.sm p0
theorem Q17s (p0 : aS) (H : Q1ke p0) : (Q1ph p0) ∧ (Q1p8 ([(Fld.mk Q5d (Q155 p0.last))])) ∧ True := by
  exact ⟨(by first | exact True.intro | exact H | exact H.1 | exact ⟨H.1, trivial⟩ | exact ⟨H.2.1, trivial⟩), ⟨Nat.le_of_ble_eq_true rfl, List.forall_mem_cons.2 ⟨Val.Sm.leaf _ _ _, List.forall_mem_nil _⟩⟩, trivial⟩
theorem Q20q (p0 : aS) (H : Q1ke p0) : Q0 G (Q28g p0) (Q1xo p0) := by
 unfold Q1xo
 rw [Q2bk]
 exact Q7 (fn := Ir.K3m) (by kernel_rfl) VOK.nil [] [aN (Q2fg p0 (Q17s p0 H).1), aN (Q2f5 p0.last), aN (Q87 (e' := .call 66 [.sl [(Fld.cells (Fld.mk Q5d (Q155 p0.last)))]] []) (Q2f6 ([(Fld.mk Q5d (Q155 p0.last))]) (Q17s p0 H).2.1) (by simp only [Q1zk, Fld.Q20, Fld.Q2k])), aN (Q1je Q2a p0.aI (Q1mt p0) (Q1mn ([(Fld.mk Q5d (Q155 p0.last))])))] (by kernel_rfl)
end Go.Proofs.YtimjjohlpnkacaaGreat
end

section
/- Equality of metadata and objects that are the same; what is small (printed by a program). -/
namespace Go.Proofs.YtimjjohlpnkacaaGreat
open Go.Pv
def Q1r7 (p0 : BA) (p1 : BA) (p2 : BA) : ByteArray :=
 ((((p0 ++ (⟨#[47]⟩ : BA)) ++ p1) ++ (⟨#[47]⟩ : BA)) ++ p2)
def Q271 (p0 : BA) (p1 : BA) (p2 : BA) : En := .call 199 [.str p0, .str p1, .str p2] []
def Q1w7 (p0 : BA) (p1 : BA) (p2 : BA) : Rs := .ret (.str (Q1r7 p0 p1 p2)) []
def Q1vb (p0 : BA) (p1 : BA) (p2 : BA) : Prop := (ByteArray.size p0 + ByteArray.size (⟨#[47]⟩ : BA) ≤ 9223372036854775807) ∧ (ByteArray.size (p0 ++ (⟨#[47]⟩ : BA)) + ByteArray.size p1 ≤ 9223372036854775807) ∧ (ByteArray.size ((p0 ++ (⟨#[47]⟩ : BA)) ++ p1) + ByteArray.size (⟨#[47]⟩ : BA) ≤ 9223372036854775807) ∧ (ByteArray.size (((p0 ++ (⟨#[47]⟩ : BA)) ++ p1) ++ (⟨#[47]⟩ : BA)) + ByteArray.size p2 ≤ 9223372036854775807) ∧ True
theorem Q2f9 (p0 : BA) (p1 : BA) (p2 : BA) (H : Q1vb p0 p1 p2) : Q0 G (Q271 p0 p1 p2) (Q1w7 p0 p1 p2) := by
 unfold Q1w7 Q1r7
 exact Q7 (fn := Ir.K1w) (by kernel_rfl) VOK.nil [hP 2 (Q16w p0 (⟨#[47]⟩ : BA) H.1), hP 1 (Q16w (p0 ++ (⟨#[47]⟩ : BA)) p1 H.2.1), hP 0 (Q16w ((p0 ++ (⟨#[47]⟩ : BA)) ++ p1) (⟨#[47]⟩ : BA) H.2.2.1), hP 1 (Q16w (((p0 ++ (⟨#[47]⟩ : BA)) ++ p1) ++ (⟨#[47]⟩ : BA)) p2 H.2.2.2.1)] [] (by kernel_rfl)
def Q1mo (p0 : bJ) : ByteArray :=
 (Q1r7 p0.kind p0.bM p0.name)
def Q272 (p0 : bJ) : En := .call 119 [.agg (bJ.cells p0)] []
def Q1w8 (p0 : bJ) : Rs := .ret (.str (Q1mo p0)) []
def Q1vc (p0 : bJ) : Prop := (Q1vb p0.kind p0.bM p0.name) ∧ True
theorem Q20c (p0 : bJ) (H : Q1vc p0) : Q0 G (Q272 p0) (Q1w8 p0) := by
 unfold Q1w8 Q1mo
 exact Q7 (fn := Ir.K1x) (by kernel_rfl) VOK.nil [] [aN (Q2f9 p0.kind p0.bM p0.name H.1)] (by kernel_rfl)
def Q18f (p0 : bJ) : List aU → Nat → Unit
 | [], _i0 =>
  ()
 | _x0 :: r0, i0 =>
  Q18f p0 r0 (i0 + 1)
def Q1f1 (_p0 : bJ) (i0 : Nat) : List PV :=
  [.un, .un, .bx 0 0, .bx 1 0, .un, iN (i0 : Int)] ++ nuns 168
def Q1gh (p0 : bJ) (_i0 : Nat) : List Ob :=
  [⟨13, 0, true, (bJ.cells p0)⟩, ⟨13, 0, true, (bJ.cells p0)⟩]
def Qh4 (p0 : bJ) (i0 : Nat) : En := .loop 0 Ir.Qkv Ir.Q1ng (Q1f1 p0 i0) (Q1gh p0 i0)
def Qrz (p0 : bJ) (z : Nat → PV) (_zo : Nat → List PV) : St :=
  ⟨[z 0, z 1, .bx 0 0, .bx 1 0] ++ zr z 4 170, [(0, ⟨13, 0, true, (bJ.cells p0)⟩), (1, ⟨13, 0, true, (bJ.cells p0)⟩)], 322⟩
def Qbz (p0 : bJ) (e : En) (_q : Unit) : Prop := ∃ z zo, Q0 G e (.st (.exit 0) (Qrz p0 z zo))
theorem Qwp (p0 : bJ) {e e' : En} (h : ∀ r, Q0 G e r → Q0 G e' r) : ∀ q, Qbz p0 e q → Qbz p0 e' q
  | _, ⟨z, zo, hz⟩ => ⟨z, zo, h _ hz⟩
def Qi5 (p0 : bJ) : Prop := (List.length p0.bK ≤ 4611686018427387904) ∧ True
def Qty (p0 : bJ) (i0 : Nat) : List PV :=
  nuns 5 ++ [iN (i0 : Int)] ++ nuns 96 ++ [iN (i0 : Int), .bx 0 9, .sl (aU.rows p0.bK), iN ((List.length p0.bK) : Int), .bool false]
def Qmn (_p0 : bJ) (_i0 : Nat) : List (Nat × List PV) :=
  []
theorem Q1dd (p0 : bJ) (_H : Qi5 p0) (i0 : Nat) (bC : (decide ((i0 : Int) < ((List.length p0.bK) : Int))) = false) : Qbz p0 (Qh4 p0 i0) () := by
 exact ⟨(envF (Qty p0 i0)), (zoF (Qmn p0 i0)), Qh VOK.nil (x := ((.exit 0), Qrz p0 (envF (Qty p0 i0)) (zoF (Qmn p0 i0)))) [hP 3 (Qs _ _ (aU.Q5 p0.bK)), hB 0 bC] [] (by kernel_rfl)⟩
theorem Q1at (p0 : bJ) (H : Qi5 p0) (x0 : aU) (i0 : Nat) (bF : p0.bK[i0]? = some x0) (bR : i0 < List.length p0.bK) (bC : (decide ((i0 : Int) < ((List.length p0.bK) : Int))) = true) {r : Rs} (hr : Q0 G (Qh4 p0 (i0 + 1)) r) : Q0 G (Qh4 p0 i0) r := by
 have hB0 := H.1
 exact Qc VOK.nil [hP 3 (Qs _ _ (aU.Q5 p0.bK)), hB 0 bC, hP 3 (Q1l 2 _ i0 _ (aU.Qb bF) rfl), hP 4 (Q1l 2 _ i0 _ (aU.Qb bF) rfl), hP 1 (dec (!((sEq x0.key x0.key) && ((sEq x0.value x0.value) && true))) false (by rw [(and_tt (Q8w.2 rfl) (and_tt (Q8w.2 rfl) rfl))]; rfl)), hP 1 (Q26 i0 (by omega))] [] hr (by kernel_rfl)
theorem Q129 (p0 : bJ) (H : Qi5 p0) : ∀ (r0 : List aU) (i0 : Nat), List.drop i0 p0.bK = r0 → Qbz p0 (Qh4 p0 i0) (Q18f p0 r0 i0)
 | [], i0, hd => by
  have bC : (decide ((i0 : Int) < ((List.length p0.bK) : Int))) = false := by have := Q1o hd; simp; omega
  show Qbz p0 _ ()
  exact Q1dd p0 H i0 bC
 | x0 :: r0, i0, hd => by
  obtain ⟨bF, bR, hd'⟩ := Q1p hd
  have bC : (decide ((i0 : Int) < ((List.length p0.bK) : Int))) = true := by simp; omega
  show Qbz p0 _ ()
  exact Qwp p0 (fun r hr => Q1at p0 H x0 i0 bF bR bC hr) _ (Q129 p0 H r0 _ hd')
def Q18g (p0 : bJ) : List bS → Nat → Unit
 | [], _i1 =>
  ()
 | _x1 :: r1, i1 =>
  Q18g p0 r1 (i1 + 1)
def Q1f2 (_p0 : bJ) (i1 : Nat) : List PV :=
  [.un, .un, .bx 0 0, .bx 1 0, .un, .un, iN (i1 : Int)] ++ nuns 167
def Q1gi (p0 : bJ) (_i1 : Nat) : List Ob :=
  [⟨13, 0, true, (bJ.cells p0)⟩, ⟨13, 0, true, (bJ.cells p0)⟩]
def Qh5 (p0 : bJ) (i1 : Nat) : En := .loop 0 Ir.Qkw Ir.Q1nh (Q1f2 p0 i1) (Q1gi p0 i1)
def Qs0 (p0 : bJ) (z : Nat → PV) (_zo : Nat → List PV) : St :=
  ⟨[z 0, z 1, .bx 0 0, .bx 1 0] ++ zr z 4 170, [(0, ⟨13, 0, true, (bJ.cells p0)⟩), (1, ⟨13, 0, true, (bJ.cells p0)⟩)], 322⟩
def Qc0 (p0 : bJ) (e : En) (_q : Unit) : Prop := ∃ z zo, Q0 G e (.st (.exit 2) (Qs0 p0 z zo))
theorem Qwq (p0 : bJ) {e e' : En} (h : ∀ r, Q0 G e r → Q0 G e' r) : ∀ q, Qc0 p0 e q → Qc0 p0 e' q
  | _, ⟨z, zo, hz⟩ => ⟨z, zo, h _ hz⟩
def Qi6 (p0 : bJ) : Prop := (List.length p0.bO ≤ 4611686018427387904) ∧ True
def Qtz (p0 : bJ) (i1 : Nat) : List PV :=
  nuns 6 ++ [iN (i1 : Int)] ++ nuns 113 ++ [iN (i1 : Int), .bx 0 10, .sl (bS.rows p0.bO), iN ((List.length p0.bO) : Int), .bool false]
def Qmo (_p0 : bJ) (_i1 : Nat) : List (Nat × List PV) :=
  []
theorem Q1de (p0 : bJ) (_H : Qi6 p0) (i1 : Nat) (hc1 : (decide ((i1 : Int) < ((List.length p0.bO) : Int))) = false) : Qc0 p0 (Qh5 p0 i1) () := by
 exact ⟨(envF (Qtz p0 i1)), (zoF (Qmo p0 i1)), Qh VOK.nil (x := ((.exit 2), Qs0 p0 (envF (Qtz p0 i1)) (zoF (Qmo p0 i1)))) [hP 3 (Qs _ _ (bS.Q5 p0.bO)), hB 0 hc1] [] (by kernel_rfl)⟩
theorem Q1au (p0 : bJ) (H : Qi6 p0) (x1 : bS) (i1 : Nat) (fQ : p0.bO[i1]? = some x1) (iJ : i1 < List.length p0.bO) (hc1 : (decide ((i1 : Int) < ((List.length p0.bO) : Int))) = true) {r : Rs} (hr : Q0 G (Qh5 p0 (i1 + 1)) r) : Q0 G (Qh5 p0 i1) r := by
 have hB0 := H.1
 exact Qc VOK.nil [hP 3 (Qs _ _ (bS.Q5 p0.bO)), hB 0 hc1, hP 3 (Q1l 5 _ i1 _ (bS.Qb fQ) rfl), hP 4 (Q1l 5 _ i1 _ (bS.Qb fQ) rfl), hP 1 (dec (!((sEq x1.kind x1.kind) && ((sEq x1.name x1.name) && ((x1.gY == x1.gY) && ((x1.gK == x1.gK) && ((x1.block == x1.block) && true)))))) false (by rw [(and_tt (Q8w.2 rfl) (and_tt (Q8w.2 rfl) (and_tt (beq_self_eq_true _) (and_tt (beq_self_eq_true _) (and_tt (beq_self_eq_true _) rfl)))))]; rfl)), hP 1 (Q26 i1 (by omega))] [] hr (by kernel_rfl)
theorem Q12a (p0 : bJ) (H : Qi6 p0) : ∀ (r1 : List bS) (i1 : Nat), List.drop i1 p0.bO = r1 → Qc0 p0 (Qh5 p0 i1) (Q18g p0 r1 i1)
 | [], i1, hd => by
  have hc1 : (decide ((i1 : Int) < ((List.length p0.bO) : Int))) = false := by have := Q1o hd; simp; omega
  show Qc0 p0 _ ()
  exact Q1de p0 H i1 hc1
 | x1 :: r1, i1, hd => by
  obtain ⟨fQ, iJ, hd'⟩ := Q1p hd
  have hc1 : (decide ((i1 : Int) < ((List.length p0.bO) : Int))) = true := by simp; omega
  show Qc0 p0 _ ()
  exact Qwq p0 (fun r hr => Q1au p0 H x1 i1 fQ iJ hc1 hr) _ (Q12a p0 H r1 _ hd')
def Q18h (p0 : bJ) : List bB → Nat → Unit
 | [], _i2 =>
  ()
 | _x2 :: r2, i2 =>
  Q18h p0 r2 (i2 + 1)
def Q1f3 (_p0 : bJ) (i2 : Nat) : List PV :=
  [.un, .un, .bx 0 0, .bx 1 0, .un, .un, .un, iN (i2 : Int)] ++ nuns 166
def Q1gj (p0 : bJ) (_i2 : Nat) : List Ob :=
  [⟨13, 0, true, (bJ.cells p0)⟩, ⟨13, 0, true, (bJ.cells p0)⟩]
def Qh6 (p0 : bJ) (i2 : Nat) : En := .loop 0 Ir.Qkx Ir.Q1ni (Q1f3 p0 i2) (Q1gj p0 i2)
def Qs1 (p0 : bJ) (z : Nat → PV) (_zo : Nat → List PV) : St :=
  ⟨zr z 0 174, [(0, ⟨13, 0, true, (bJ.cells p0)⟩), (1, ⟨13, 0, true, (bJ.cells p0)⟩)], 322⟩
def Qc1 (p0 : bJ) (e : En) (_q : Unit) : Prop := ∃ z zo, Q0 G e (.st (.exit 4) (Qs1 p0 z zo))
theorem Qwr (p0 : bJ) {e e' : En} (h : ∀ r, Q0 G e r → Q0 G e' r) : ∀ q, Qc1 p0 e q → Qc1 p0 e' q
  | _, ⟨z, zo, hz⟩ => ⟨z, zo, h _ hz⟩
def Qi7 (p0 : bJ) : Prop := (List.length p0.aW ≤ 4611686018427387904) ∧ (∀ x2 ∈ p0.aW, Q1pb x2.fields) ∧ True
def Qu0 (p0 : bJ) (i2 : Nat) : List PV :=
  [.un, .un, .bx 0 0, .bx 1 0, .un, .un, .un, iN (i2 : Int)] ++ nuns 130 ++ [iN (i2 : Int), .bx 0 12, .sl (bB.rows p0.aW), iN ((List.length p0.aW) : Int), .bool false]
def Qmp (_p0 : bJ) (_i2 : Nat) : List (Nat × List PV) :=
  []
theorem Q1df (p0 : bJ) (_H : Qi7 p0) (i2 : Nat) (hc2 : (decide ((i2 : Int) < ((List.length p0.aW) : Int))) = false) : Qc1 p0 (Qh6 p0 i2) () := by
 exact ⟨(envF (Qu0 p0 i2)), (zoF (Qmp p0 i2)), Qh VOK.nil (x := ((.exit 4), Qs1 p0 (envF (Qu0 p0 i2)) (zoF (Qmp p0 i2)))) [hP 3 (Qs _ _ (bB.Q5 p0.aW)), hB 0 hc2] [] (by kernel_rfl)⟩
theorem Q1av (p0 : bJ) (H : Qi7 p0) (x2 : bB) (i2 : Nat) (iY : p0.aW[i2]? = some x2) (jo : i2 < List.length p0.aW) (hc2 : (decide ((i2 : Int) < ((List.length p0.aW) : Int))) = true) {r : Rs} (hr : Q0 G (Qh6 p0 (i2 + 1)) r) : Q0 G (Qh6 p0 i2) r := by
 have hB0 := H.1
 exact Qc VOK.nil [hP 3 (Qs _ _ (bB.Q5 p0.aW)), hB 0 hc2, hP 3 (Q1l 2 _ i2 _ (bB.Qb iY) rfl), hP 5 (Q1l 2 _ i2 _ (bB.Qb iY) rfl), hP 2 (dec (!(sEq x2.name x2.name)) false (by rw [(Q8w.2 rfl)]; rfl)), hP 4 (Q1l 2 _ i2 _ (bB.Qb iY) rfl), hP 5 (Q1l 2 _ i2 _ (bB.Qb iY) rfl), hP 6 (Q26 i2 (by omega))] [aN (Q8p (c := fun y => .call 120 [.sl (Q15 x2.fields), .sl (Q15 y)] []) rfl (Q20d x2.fields (H.2.1 x2 (Q1i iY))))] hr (by kernel_rfl)
theorem Q12b (p0 : bJ) (H : Qi7 p0) : ∀ (r2 : List bB) (i2 : Nat), List.drop i2 p0.aW = r2 → Qc1 p0 (Qh6 p0 i2) (Q18h p0 r2 i2)
 | [], i2, hd => by
  have hc2 : (decide ((i2 : Int) < ((List.length p0.aW) : Int))) = false := by have := Q1o hd; simp; omega
  show Qc1 p0 _ ()
  exact Q1df p0 H i2 hc2
 | x2 :: r2, i2, hd => by
  obtain ⟨iY, jo, hd'⟩ := Q1p hd
  have hc2 : (decide ((i2 : Int) < ((List.length p0.aW) : Int))) = true := by simp; omega
  show Qc1 p0 _ ()
  exact Qwr p0 (fun r hr => Q1av p0 H x2 i2 iY jo hc2 hr) _ (Q12b p0 H r2 _ hd')
def Q206 (_p0 : bJ) : Bool :=
 true
def Q273 (p0 : bJ) : En := .call 27 [.agg (bJ.cells p0), .agg (bJ.cells p0)] []
def Q1w9 (p0 : bJ) : Rs := .ret (.bool (Q206 p0)) []
def Q1pa (p0 : bJ) : Prop := (Q1vc p0) ∧ (Q1pb p0.bI) ∧ (Qi5 p0) ∧ (Qi6 p0) ∧ (Qi7 p0) ∧ True
theorem Q2fa (p0 : bJ) (H : Q1pa p0) : Q0 G (Q273 p0) (Q1w9 p0) := by
 unfold Q1w9 Q206
 have hl0 := Q129 p0 (H.2.2.1) p0.bK 0 (by simp)
 obtain ⟨z0, fA, hl0⟩ := hl0
 have hl1 := Q12a p0 (H.2.2.2.1) p0.bO 0 (by simp)
 obtain ⟨z1, jd, hl1⟩ := hl1
 have hl2 := Q12b p0 (H.2.2.2.2.1) p0.aW 0 (by simp)
 obtain ⟨z2, zo2, hl2⟩ := hl2
 exact Q7 (fn := Ir.K1y) (by kernel_rfl) VOK.nil [hP 7 (dec (!(sEq (Q1mo p0) (Q1mo p0))) false (by rw [(Q8w.2 rfl)]; rfl)), hP 5 (dec (!(sEq p0.kind p0.kind)) false (by rw [(Q8w.2 rfl)]; rfl)), hP 6 (dec (!(sEq p0.bM p0.bM)) false (by rw [(Q8w.2 rfl)]; rfl)), hP 6 (dec (!(p0.gY == p0.gY)) false (by rw [(beq_self_eq_true _)]; rfl)), hP 6 (dec (!(p0.dn == p0.dn)) false (by rw [(beq_self_eq_true _)]; rfl)), hP 6 (dec (!(p0.bQ == p0.bQ)) false (by rw [(beq_self_eq_true _)]; rfl)), hP 6 (dec (!(p0.cZ == p0.cZ)) false (by rw [(beq_self_eq_true _)]; rfl)), hP 6 (dec (!(p0.bY == p0.bY)) false (by rw [(beq_self_eq_true _)]; rfl)), hP 6 (dec (!(p0.bX == p0.bX)) false (by rw [(beq_self_eq_true _)]; rfl)), hP 3 (Qs _ _ (aU.Q5 p0.bK)), hP 2 (Qs _ _ (aU.Q5 p0.bK)), hP 0 (dec (!(((List.length p0.bK) : Int) == ((List.length p0.bK) : Int))) false (by rw [(beq_self_eq_true _)]; rfl)), hP 3 (Qs _ _ (bS.Q5 p0.bO)), hP 2 (Qs _ _ (bS.Q5 p0.bO)), hP 0 (dec (!(((List.length p0.bO) : Int) == ((List.length p0.bO) : Int))) false (by rw [(beq_self_eq_true _)]; rfl)), hP 4 (Qs _ _ (bB.Q5 p0.aW)), hP 2 (Qs _ _ (bB.Q5 p0.aW)), hP 0 (dec (!(((List.length p0.aW) : Int) == ((List.length p0.aW) : Int))) false (by rw [(beq_self_eq_true _)]; rfl))] [aN (Q20c p0 H.1), aN (Q20c p0 H.1), aN (Q8p (c := fun y => .call 120 [.sl (Q15 p0.bI), .sl (Q15 y)] []) rfl (Q20d p0.bI H.2.1)), aN hl0, aN hl1, aN hl2] (by kernel_rfl)
def Q205 (_p0 : aA) : Bool :=
 true
def Q270 (p0 : aA) : En := .call 17 [.agg (aA.cells p0), .agg (aA.cells p0)] []
def Q1w6 (p0 : aA) : Rs := .ret (.bool (Q205 p0)) []
def Qgn (p0 : aA) : Prop := (Q1pa p0.aI) ∧ (Q1p7 p0.aO) ∧ (Q1p7 p0.aM) ∧ True
theorem Q1jb (p0 : aA) (H : Qgn p0) : Q0 G (Q270 p0) (Q1w6 p0) := by
 unfold Q1w6 Q205
 exact Q7 (fn := Ir.K1v) (by kernel_rfl) VOK.nil [] [aN (Q8p (c := fun y => .call 27 [.agg (bJ.cells p0.aI), .agg (bJ.cells y)] []) rfl (Q2fa p0.aI H.1)), aN (Q8p (c := fun y => .call 98 [.agg (Val.cells p0.aO), .agg (Val.cells y)] []) rfl (Q20b p0.aO H.2.1)), aN (Q8p (c := fun y => .call 98 [.agg (Val.cells p0.aM), .agg (Val.cells y)] []) rfl (Q20b p0.aM H.2.2.1))] (by kernel_rfl)
inductive Q1gr where
  | k0
  | k1
def Qd5 (p0 : aA) : List bB → Nat → Q1gr
 | [], _i0 =>
  (.k0)
 | x0 :: r0, i0 =>
  bif (decide (60 < ((List.length x0.fields) : Int))) then
   (.k1)
  else
   Qd5 p0 r0 (i0 + 1)
def Q1jz (_p0 : aA) (i0 : Nat) : List PV :=
  [.un, .bx 0 0, .un, .bx 1 0, iN (i0 : Int)] ++ nuns 47
def Q1k8 (p0 : aA) (_i0 : Nat) : List Ob :=
  [⟨23, 0, true, (aA.cells p0)⟩, ⟨13, 0, true, (bJ.cells p0.aI)⟩]
def Qcy (p0 : aA) (i0 : Nat) : En := .loop 0 Ir.Qrh Ir.Q1vn (Q1jz p0 i0) (Q1k8 p0 i0)
def Qm8 (p0 : aA) (z : Nat → PV) (_zo : Nat → List PV) : St :=
  ⟨[z 0, .bx 0 0] ++ zr z 2 50, [(0, ⟨23, 0, true, (aA.cells p0)⟩), (1, ⟨13, 0, true, (bJ.cells p0.aI)⟩)], 322⟩
def Qm9 (_p0 : aA) (z : Nat → PV) (zo : Nat → List PV) : St :=
  ⟨[z 0, z 1, .bool false] ++ zr z 3 49, [(0, ⟨23, 0, true, zo 0⟩), (1, ⟨13, 0, true, zo 1⟩)], 898⟩
def Qm7 (p0 : aA) (e : En) : Q1gr → Prop
  | .k0 => ∃ z zo, Q0 G e (.st (.exit 0) (Qm8 p0 z zo))
  | .k1 => ∃ z zo, Q0 G e (.st .ret (Qm9 p0 z zo))
theorem Q10o (p0 : aA) {e e' : En} (h : ∀ r, Q0 G e r → Q0 G e' r) : ∀ q, Qm7 p0 e q → Qm7 p0 e' q
  | .k0, ⟨z, zo, hz⟩ => ⟨z, zo, h _ hz⟩
  | .k1, ⟨z, zo, hz⟩ => ⟨z, zo, h _ hz⟩
def Qkd (p0 : aA) : Prop := (List.length p0.aI.aW ≤ 4611686018427387904) ∧ True
def Q115 (p0 : aA) (i0 : Nat) : List PV :=
  [.un, .un, .un, .bx 1 0, iN (i0 : Int)] ++ nuns 24 ++ [iN (i0 : Int), .bx 1 12, .sl (bB.rows p0.aI.aW), iN ((List.length p0.aI.aW) : Int), .bool false]
def Qtc (_p0 : aA) (_i0 : Nat) : List (Nat × List PV) :=
  []
theorem Q1jm (p0 : aA) (_H : Qkd p0) (i0 : Nat) (bC : (decide ((i0 : Int) < ((List.length p0.aI.aW) : Int))) = false) : Qm7 p0 (Qcy p0 i0) (.k0) := by
 exact ⟨(envF (Q115 p0 i0)), (zoF (Qtc p0 i0)), Qh VOK.nil (x := ((.exit 0), Qm8 p0 (envF (Q115 p0 i0)) (zoF (Qtc p0 i0)))) [hP 3 (Qs _ _ (bB.Q5 p0.aI.aW)), hB 0 bC] [] (by kernel_rfl)⟩
def Q116 (p0 : aA) (i0 : Nat) (x0 : bB) : List PV :=
  [.un, .bx 0 0, .un, .bx 1 0, iN (i0 : Int)] ++ nuns 24 ++ [iN (i0 : Int), .bx 1 12, .sl (bB.rows p0.aI.aW), iN ((List.length p0.aI.aW) : Int), .bool true, .un, .un, .bx 1 12, .sl (bB.rows p0.aI.aW), iN (i0 : Int), .rf [.str x0.name, .sl (Q15 x0.fields)], .rf [.sl (Q15 x0.fields)], .sl (Q15 x0.fields), iN ((List.length x0.fields) : Int), .bool true]
def Qtd (p0 : aA) (_i0 : Nat) (_x0 : bB) : List (Nat × List PV) :=
  [(0, (aA.cells p0)), (1, (bJ.cells p0.aI))]
theorem Q1jn (p0 : aA) (_H : Qkd p0) (x0 : bB) (i0 : Nat) (bF : p0.aI.aW[i0]? = some x0) (_bR : i0 < List.length p0.aI.aW) (bC : (decide ((i0 : Int) < ((List.length p0.aI.aW) : Int))) = true) (h0 : (decide (60 < ((List.length x0.fields) : Int))) = true) : Qm7 p0 (Qcy p0 i0) (.k1) := by
 exact ⟨(envF (Q116 p0 i0 x0)), (zoF (Qtd p0 i0 x0)), Qh VOK.nil (x := (.ret, Qm9 p0 (envF (Q116 p0 i0 x0)) (zoF (Qtd p0 i0 x0)))) [hP 3 (Qs _ _ (bB.Q5 p0.aI.aW)), hB 0 bC, hP 3 (Q1l 2 _ i0 _ (bB.Qb bF) rfl), hP 2 (Qs _ _ (Q2d x0.fields)), hB 0 h0] [] (by kernel_rfl)⟩
theorem Q1i3 (p0 : aA) (H : Qkd p0) (x0 : bB) (i0 : Nat) (bF : p0.aI.aW[i0]? = some x0) (bR : i0 < List.length p0.aI.aW) (bC : (decide ((i0 : Int) < ((List.length p0.aI.aW) : Int))) = true) (h0 : (decide (60 < ((List.length x0.fields) : Int))) = false) {r : Rs} (hr : Q0 G (Qcy p0 (i0 + 1)) r) : Q0 G (Qcy p0 i0) r := by
 have hB0 := H.1; have e0 := of_decide_eq_false h0
 exact Qc VOK.nil [hP 3 (Qs _ _ (bB.Q5 p0.aI.aW)), hB 0 bC, hP 3 (Q1l 2 _ i0 _ (bB.Qb bF) rfl), hP 2 (Qs _ _ (Q2d x0.fields)), hB 0 h0, hP 1 (Q26 i0 (by omega))] [] hr (by kernel_rfl)
theorem Q18p (p0 : aA) (H : Qkd p0) : ∀ (r0 : List bB) (i0 : Nat), List.drop i0 p0.aI.aW = r0 → Qm7 p0 (Qcy p0 i0) (Qd5 p0 r0 i0)
 | [], i0, hd => by
  have bC : (decide ((i0 : Int) < ((List.length p0.aI.aW) : Int))) = false := by have := Q1o hd; simp; omega
  rw [Qd5]
  exact Q1jm p0 H i0 bC
 | x0 :: r0, i0, hd => by
  obtain ⟨bF, bR, hd'⟩ := Q1p hd
  have bC : (decide ((i0 : Int) < ((List.length p0.aI.aW) : Int))) = true := by simp; omega
  rw [Qd5]
  cases h0 : (decide (60 < ((List.length x0.fields) : Int))) with
  | true =>
   exact Q1jn p0 H x0 i0 bF bR bC h0
  | false =>
   exact Q10o p0 (fun r hr => Q1i3 p0 H x0 i0 bF bR bC h0 hr) _ (Q18p p0 H r0 _ hd')
def s_K8 (p0 : aA) : Bool :=
 bif (decide (40 < ((List.length p0.aI.bK) : Int))) then
  false
 else
  bif (decide (40 < ((List.length p0.aI.bO) : Int))) then
   false
  else
   bif (decide (40 < ((List.length p0.aI.bI) : Int))) then
    false
   else
    bif (decide (40 < ((List.length p0.aI.aW) : Int))) then
     false
    else
     (match (Qd5 p0 p0.aI.aW 0) with
     | .k0 => bif (Qz0 p0.aO 900) then
       (Qz0 p0.aM 300)
      else
       false
     | .k1 => false)
def c_K8 (p0 : aA) : En := .call 11 [.agg (aA.cells p0)] []
def a_K8 (p0 : aA) : Rs := .ret (.bool (s_K8 p0)) []
def H_K8 (p0 : aA) : Prop := (Qkd p0) ∧ (Q1p9 p0.aO 900) ∧ (Q1p9 p0.aM 300) ∧ True
theorem Q20z (p0 : aA) (_H : H_K8 p0) (h0 : (decide (40 < ((List.length p0.aI.bK) : Int))) = true) : Q0 G (c_K8 p0) (.ret (.bool (false)) []) := by
 exact Q7 (fn := Ir.K8) (by kernel_rfl) VOK.nil [hP 8 (Qs _ _ (aU.Q5 p0.aI.bK)), hB 0 h0] [] (by kernel_rfl)
theorem Q210 (p0 : aA) (_H : H_K8 p0) (h0 : (decide (40 < ((List.length p0.aI.bK) : Int))) = false) (h1 : (decide (40 < ((List.length p0.aI.bO) : Int))) = true) : Q0 G (c_K8 p0) (.ret (.bool (false)) []) := by
 exact Q7 (fn := Ir.K8) (by kernel_rfl) VOK.nil [hP 8 (Qs _ _ (aU.Q5 p0.aI.bK)), hB 0 h0, hP 3 (Qs _ _ (bS.Q5 p0.aI.bO)), hB 0 h1] [] (by kernel_rfl)
theorem Q211 (p0 : aA) (_H : H_K8 p0) (h0 : (decide (40 < ((List.length p0.aI.bK) : Int))) = false) (h1 : (decide (40 < ((List.length p0.aI.bO) : Int))) = false) (h2 : (decide (40 < ((List.length p0.aI.bI) : Int))) = true) : Q0 G (c_K8 p0) (.ret (.bool (false)) []) := by
 exact Q7 (fn := Ir.K8) (by kernel_rfl) VOK.nil [hP 8 (Qs _ _ (aU.Q5 p0.aI.bK)), hB 0 h0, hP 3 (Qs _ _ (bS.Q5 p0.aI.bO)), hB 0 h1, hP 4 (Qs _ _ (Q2d p0.aI.bI)), hB 0 h2] [] (by kernel_rfl)
theorem Q212 (p0 : aA) (_H : H_K8 p0) (h0 : (decide (40 < ((List.length p0.aI.bK) : Int))) = false) (h1 : (decide (40 < ((List.length p0.aI.bO) : Int))) = false) (h2 : (decide (40 < ((List.length p0.aI.bI) : Int))) = false) (h3 : (decide (40 < ((List.length p0.aI.aW) : Int))) = true) : Q0 G (c_K8 p0) (.ret (.bool (false)) []) := by
 exact Q7 (fn := Ir.K8) (by kernel_rfl) VOK.nil [hP 8 (Qs _ _ (aU.Q5 p0.aI.bK)), hB 0 h0, hP 3 (Qs _ _ (bS.Q5 p0.aI.bO)), hB 0 h1, hP 4 (Qs _ _ (Q2d p0.aI.bI)), hB 0 h2, hP 4 (Qs _ _ (bB.Q5 p0.aI.aW)), hB 0 h3] [] (by kernel_rfl)
theorem Q213 (p0 : aA) (H : H_K8 p0) (h0 : (decide (40 < ((List.length p0.aI.bK) : Int))) = false) (h1 : (decide (40 < ((List.length p0.aI.bO) : Int))) = false) (h2 : (decide (40 < ((List.length p0.aI.bI) : Int))) = false) (h3 : (decide (40 < ((List.length p0.aI.aW) : Int))) = false) (z4 : Nat → PV) (iW : Nat → List PV) (hl4 : Q0 G (Qcy p0 0) (.st (.exit 0) (Qm8 p0 z4 iW))) : Q0 G (c_K8 p0) (.ret (.bool (bif (Qz0 p0.aO 900) then
   (Qz0 p0.aM 300)
 else
   false)) []) := by
 cases h4 : (Qz0 p0.aO 900) with
 | true =>
  exact Q7 (fn := Ir.K8) (by kernel_rfl) VOK.nil [hP 8 (Qs _ _ (aU.Q5 p0.aI.bK)), hB 0 h0, hP 3 (Qs _ _ (bS.Q5 p0.aI.bO)), hB 0 h1, hP 4 (Qs _ _ (Q2d p0.aI.bI)), hB 0 h2, hP 4 (Qs _ _ (bB.Q5 p0.aI.aW)), hB 0 h3] [aN hl4, aB (Q1ra p0.aO 900 H.2.1) h4, aN (Q1ra p0.aM 300 H.2.2.1)] (by kernel_rfl)
 | false =>
  exact Q7 (fn := Ir.K8) (by kernel_rfl) VOK.nil [hP 8 (Qs _ _ (aU.Q5 p0.aI.bK)), hB 0 h0, hP 3 (Qs _ _ (bS.Q5 p0.aI.bO)), hB 0 h1, hP 4 (Qs _ _ (Q2d p0.aI.bI)), hB 0 h2, hP 4 (Qs _ _ (bB.Q5 p0.aI.aW)), hB 0 h3] [aN hl4, aB (Q1ra p0.aO 900 H.2.1) h4] (by kernel_rfl)
theorem Q214 (p0 : aA) (_H : H_K8 p0) (h0 : (decide (40 < ((List.length p0.aI.bK) : Int))) = false) (h1 : (decide (40 < ((List.length p0.aI.bO) : Int))) = false) (h2 : (decide (40 < ((List.length p0.aI.bI) : Int))) = false) (h3 : (decide (40 < ((List.length p0.aI.aW) : Int))) = false) (z4 : Nat → PV) (iW : Nat → List PV) (hl4 : Q0 G (Qcy p0 0) (.st .ret (Qm9 p0 z4 iW))) : Q0 G (c_K8 p0) (.ret (.bool (false)) []) := by
 exact Q7 (fn := Ir.K8) (by kernel_rfl) VOK.nil [hP 8 (Qs _ _ (aU.Q5 p0.aI.bK)), hB 0 h0, hP 3 (Qs _ _ (bS.Q5 p0.aI.bO)), hB 0 h1, hP 4 (Qs _ _ (Q2d p0.aI.bI)), hB 0 h2, hP 4 (Qs _ _ (bB.Q5 p0.aI.aW)), hB 0 h3] [aN hl4] (by kernel_rfl)
theorem t_K8 (p0 : aA) (H : H_K8 p0) : Q0 G (c_K8 p0) (a_K8 p0) := by
 unfold a_K8 s_K8
 cases h0 : (decide (40 < ((List.length p0.aI.bK) : Int))) with
 | true =>
  exact Q20z p0 H h0
 | false =>
  cases h1 : (decide (40 < ((List.length p0.aI.bO) : Int))) with
  | true =>
   exact Q210 p0 H h0 h1
  | false =>
   cases h2 : (decide (40 < ((List.length p0.aI.bI) : Int))) with
   | true =>
    exact Q211 p0 H h0 h1 h2
   | false =>
    cases h3 : (decide (40 < ((List.length p0.aI.aW) : Int))) with
    | true =>
     exact Q212 p0 H h0 h1 h2 h3
    | false =>
     have hl4 := Q18p p0 (H.1) p0.aI.aW 0 (by simp)
     cases hr4 : (Qd5 p0 p0.aI.aW 0) with
     | k0 =>
      rw [hr4] at hl4
      obtain ⟨z4, iW, hl4⟩ := hl4
      try dsimp only
      exact Q213 p0 H h0 h1 h2 h3 z4 iW hl4
     | k1 =>
      rw [hr4] at hl4
      obtain ⟨z4, iW, hl4⟩ := hl4
      exact Q214 p0 H h0 h1 h2 h3 z4 iW hl4
end Go.Proofs.YtimjjohlpnkacaaGreat
end

section
/- The chapter's examples (printed by a program). -/
namespace Go.Proofs.YtimjjohlpnkacaaGreat
open Go.Pv
theorem t_K6 : Q0 G (.call 12 [] []) (.ret (.bool true) []) := ⟨400, by kernel_rfl⟩
end Go.Proofs.YtimjjohlpnkacaaGreat
end

section
/- What the laws ask of their arguments (printed by a program). -/
namespace Go.Proofs.YtimjjohlpnkacaaGreat
open Go.Pv
def Q15t : Ty := .st [.str, .str]
def Qwe (x : aU) : Prop := okS x.key ∧ okS x.value
theorem Q1a1 {c : List PV} (h : Of Γ Q15t c) : ∃ x : aU, c = x.cells ∧ Qwe x := by
  have g0 := h.st1
  obtain ⟨a0, b0, rfl, h0, g1⟩ := g0.Q4k
  obtain ⟨x0, rfl, k0⟩ := h0.str1
  obtain ⟨a1, b1, rfl, h1, g2⟩ := g1.Q4k
  obtain ⟨x1, rfl, k1⟩ := h1.str1
  have e := g2.empty
  subst e
  exact ⟨⟨x0, x1⟩, rfl, ⟨k0, k1⟩⟩
def Q15u : Ty := .st [.str, .str, .int .i64, .bool, .bool]
def Qwg (x : bS) : Prop := okS x.kind ∧ okS x.name ∧ Qf3 x.gY ∧ (fun _ : Bool => True) x.gK ∧ (fun _ : Bool => True) x.block
theorem Q1a2 {c : List PV} (h : Of Γ Q15u c) : ∃ x : bS, c = x.cells ∧ Qwg x := by
  have g0 := h.st1
  obtain ⟨a0, b0, rfl, h0, g1⟩ := g0.Q4k
  obtain ⟨x0, rfl, k0⟩ := h0.str1
  obtain ⟨a1, b1, rfl, h1, g2⟩ := g1.Q4k
  obtain ⟨x1, rfl, k1⟩ := h1.str1
  obtain ⟨a2, b2, rfl, h2, g3⟩ := g2.Q4k
  obtain ⟨x2, rfl, k2⟩ := h2.i64
  obtain ⟨a3, b3, rfl, h3, g4⟩ := g3.Q4k
  obtain ⟨x3, rfl, k3⟩ := h3.bool2
  obtain ⟨a4, b4, rfl, h4, g5⟩ := g4.Q4k
  obtain ⟨x4, rfl, k4⟩ := h4.bool2
  have e := g5.empty
  subst e
  exact ⟨⟨x0, x1, x2, x3, x4⟩, rfl, ⟨k0, k1, k2, k3, k4⟩⟩
def Qrq : Ty := .st [.str, .sl 16 .str]
def Qfr (x : bB) : Prop := okS x.name ∧ (okL 16 okS) x.fields
theorem Q10m {c : List PV} (h : Of Γ Qrq c) : ∃ x : bB, c = x.cells ∧ Qfr x := by
  have g0 := h.st1
  obtain ⟨a0, b0, rfl, h0, g1⟩ := g0.Q4k
  obtain ⟨x0, rfl, k0⟩ := h0.str1
  obtain ⟨a1, b1, rfl, h1, g2⟩ := g1.Q4k
  obtain ⟨x1, rfl, k1⟩ := (h1.sl1 (f := (fun s : ByteArray => [.str s])) (ok := okS) fun r hr => hr.str1)
  have e := g2.empty
  subst e
  exact ⟨⟨x0, x1⟩, rfl, ⟨k0, k1⟩⟩
def Q1gq : Ty := .st [.str, .str, .str, .int .i64, .int .i64, .int .i64, .int .i64, .bool, .int .i64, .sl 32 Q15t, .sl 48 Q15u, .sl 16 .str, .sl 40 Qrq]
def Q4s (x : bJ) : Prop := okS x.kind ∧ okS x.bM ∧ okS x.name ∧ Qf3 x.gY ∧ Qf3 x.dn ∧ Qf3 x.bQ ∧ Qf3 x.cZ ∧ (fun _ : Bool => True) x.bY ∧ Qf3 x.bX ∧ (okL 32 Qwe) x.bK ∧ (okL 48 Qwg) x.bO ∧ (okL 16 okS) x.bI ∧ (okL 40 Qfr) x.aW
theorem Q1gp {c : List PV} (h : Of Γ Q1gq c) : ∃ x : bJ, c = x.cells ∧ Q4s x := by
  have g0 := h.st1
  obtain ⟨a0, b0, rfl, h0, g1⟩ := g0.Q4k
  obtain ⟨x0, rfl, k0⟩ := h0.str1
  obtain ⟨a1, b1, rfl, h1, g2⟩ := g1.Q4k
  obtain ⟨x1, rfl, k1⟩ := h1.str1
  obtain ⟨a2, b2, rfl, h2, g3⟩ := g2.Q4k
  obtain ⟨x2, rfl, k2⟩ := h2.str1
  obtain ⟨a3, b3, rfl, h3, g4⟩ := g3.Q4k
  obtain ⟨x3, rfl, k3⟩ := h3.i64
  obtain ⟨a4, b4, rfl, h4, g5⟩ := g4.Q4k
  obtain ⟨x4, rfl, k4⟩ := h4.i64
  obtain ⟨a5, b5, rfl, h5, g6⟩ := g5.Q4k
  obtain ⟨x5, rfl, k5⟩ := h5.i64
  obtain ⟨a6, b6, rfl, h6, g7⟩ := g6.Q4k
  obtain ⟨x6, rfl, k6⟩ := h6.i64
  obtain ⟨a7, b7, rfl, h7, g8⟩ := g7.Q4k
  obtain ⟨x7, rfl, k7⟩ := h7.bool2
  obtain ⟨a8, b8, rfl, h8, g9⟩ := g8.Q4k
  obtain ⟨x8, rfl, k8⟩ := h8.i64
  obtain ⟨a9, b9, rfl, h9, g10⟩ := g9.Q4k
  obtain ⟨x9, rfl, k9⟩ := (h9.sl1 (f := aU.cells) (ok := Qwe) fun r hr => (Q1a1 hr))
  obtain ⟨a10, b10, rfl, h10, g11⟩ := g10.Q4k
  obtain ⟨x10, rfl, k10⟩ := (h10.sl1 (f := bS.cells) (ok := Qwg) fun r hr => (Q1a2 hr))
  obtain ⟨a11, b11, rfl, h11, g12⟩ := g11.Q4k
  obtain ⟨x11, rfl, k11⟩ := (h11.sl1 (f := (fun s : ByteArray => [.str s])) (ok := okS) fun r hr => hr.str1)
  obtain ⟨a12, b12, rfl, h12, g13⟩ := g12.Q4k
  obtain ⟨x12, rfl, k12⟩ := (h12.sl1 (f := bB.cells) (ok := Qfr) fun r hr => (Q10m hr))
  have e := g13.empty
  subst e
  exact ⟨⟨x0, x1, x2, x3, x4, x5, x6, x7, x8, x9, x10, x11, x12⟩, rfl, ⟨k0, k1, k2, k3, k4, k5, k6, k7, k8, k9, k10, k11, k12⟩⟩
def Q10n : Ty := .st [Q1gq, .nm 51, .nm 51]
def Qm6 (x : aA) : Prop := Q4s x.aI ∧ Q8o x.aO ∧ Q8o x.aM
theorem Q14g {c : List PV} (h : Of Γ Q10n c) : ∃ x : aA, c = x.cells ∧ Qm6 x := by
  have g0 := h.st1
  obtain ⟨a0, b0, rfl, h0, g1⟩ := g0.Q4k
  obtain ⟨x0, rfl, k0⟩ := (Q1gp h0)
  obtain ⟨a1, b1, rfl, h1, g2⟩ := g1.Q4k
  obtain ⟨x1, rfl, k1⟩ := (Q16v (Q1ou 51) h1)
  obtain ⟨a2, b2, rfl, h2, g3⟩ := g2.Q4k
  obtain ⟨x2, rfl, k2⟩ := (Q16v (Q1ou 51) h2)
  have e := g3.empty
  subst e
  exact ⟨⟨x0, x1, x2⟩, rfl, ⟨k0, k1, k2⟩⟩
end Go.Proofs.YtimjjohlpnkacaaGreat
end

