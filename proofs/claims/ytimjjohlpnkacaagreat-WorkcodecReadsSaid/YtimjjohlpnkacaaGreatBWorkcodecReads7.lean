/- Texts of the claim, merged by a program; what the statement does not reach is left out. -/
import Derived.Test.YtimjjohlpnkacaaGreatBWorkcodecReads6

section
/- What the reference's encoders compute (printed by a program). -/
namespace Go.Proofs.YtimjjohlpnkacaaGreat
open Go.Pv
abbrev zF : Fld := (Fld.mk eB (Val.mk 0 0 eB [] []))
def Q14 (p0 : List Fld) (i0 : Nat) (ah : List Fld) : Nat → Int → Int
 | 0, bV => bV
 | k1 + 1, bV =>
  bif (decide (bV < ((List.length ah) : Int))) then
   bif (sLt (List.getD ah (Int.toNat bV) zF).name (List.getD p0 i0 zF).name) then
    Q14 p0 i0 ah k1 (bV + 1)
   else
    bV
  else
   bV
def Q1ej (p0 : List Fld) (i0 : Nat) (ah : List Fld) (bV : Int) : List PV :=
  [.sl (Fld.rows p0), .un, .bx 0 0, .ms 1 6 0 (List.length ah), iN (i0 : Int), iN bV] ++ nuns 46
def Qyv (_p0 : List Fld) (_i0 : Nat) (ah : List Fld) (_bV : Int) : List Ob :=
  [⟨5, 0, true, [iN 0, iN 0, .str eB, .ms 2 5 0 0, .ms 3 6 0 0]⟩, ⟨6, 0, true, (Fld.rows ah).flatten⟩, ⟨5, 0, true, []⟩, ⟨6, 0, true, []⟩]
def Q9k (p0 : List Fld) (i0 : Nat) (ah : List Fld) (bV : Int) : En := .loop 0 Ir.Qkl Ir.Q1my (Q1ej p0 i0 ah bV) (Qyv p0 i0 ah bV)
def Q94 (p0 : List Fld) (i0 : Nat) (ah : List Fld) (q0 : Int) (z : Nat → PV) (_zo : Nat → List PV) : St :=
  ⟨[.sl (Fld.rows p0), z 1, .bx 0 0, .ms 1 6 0 (List.length ah), iN (i0 : Int), iN q0] ++ zr z 6 46, [(0, ⟨5, 0, true, [iN 0, iN 0, .str eB, .ms 2 5 0 0, .ms 3 6 0 0]⟩), (1, ⟨6, 0, true, (Fld.rows ah).flatten⟩), (2, ⟨5, 0, true, []⟩), (3, ⟨6, 0, true, []⟩)], 1092⟩
theorem Qx6 (p0 : List Fld) (i0 : Nat) (ah : List Fld) (bV : Int) : VOK (Go.Pv.look (number 0 (Qyv p0 i0 ah bV))) [(1, Fld.rows ah)] := (VOK.cons (show Seen _ _ from Q3r (ob := ⟨6, 0, true, (Fld.rows ah).flatten⟩) (Fld.Q8 ah 6 rfl)) VOK.nil)
def Qdo (p0 : List Fld) (i0 : Nat) (ah : List Fld) (e : En) (q : Int) : Prop := ∃ z zo, Q5 G e (.st (.exit 2) (Q94 p0 i0 ah q z zo))
theorem Qw3 (p0 : List Fld) (i0 : Nat) (ah : List Fld) {e e' : En} (h : ∀ r, Q5 G e r → Q5 G e' r) : ∀ q, Qdo p0 i0 ah e q → Qdo p0 i0 ah e' q
  | _, ⟨z, zo, hz⟩ => ⟨z, zo, h _ hz⟩
theorem Q1ab (p0 : List Fld) (i0 : Nat) (ah : List Fld) (bV : Int) (eT : 0 ≤ bV) (_gH : bV ≤ (List.length ah : Int)) (gI : i0 < List.length p0) (gJ : List.length (ah : List Fld) ≤ 137438953472) (h0 : (decide (bV < ((List.length ah) : Int))) = true) (h1 : (sLt (List.getD ah (Int.toNat bV) zF).name (List.getD p0 i0 zF).name) = true) {r : Rs} (hr : Q5 G (Q9k p0 i0 ah (bV + 1)) r) : Q5 G (Q9k p0 i0 ah bV) r := by
 have e0 := of_decide_eq_true h0
 exact Qc (Qx6 p0 i0 ah bV) [hB 3 h0, hP 3 (Qaq 1 6 (List.length ah) bV (Int.toNat bV) rfl (by omega) (by omega)), hP 1 (Q1ha 1 6 0 true ((Fld.rows ah).flatten) (Fld.rows ah) 1 false (Int.toNat bV) 0 ((Int.toNat bV) * 6) (Fld.cells (List.getD ah (Int.toNat bV) zF)) (.str (List.getD ah (Int.toNat bV) zF).name) rfl rfl (Fld.Qb (Qap ah (Int.toNat bV) zF (by omega))) (Fld.Qt ah) (by decide) rfl), hP 2 (Q1o5 6 (Fld.rows p0) (i0 : Int) _ (by omega) (Fld.Qb (Qap p0 (Int.toNat (i0 : Int)) zF (by omega))) rfl), hB 2 h1, hP 2 (w_ok (bV + 1) (by omega))] [] hr (by kernel_rfl)
def Qtf (p0 : List Fld) (i0 : Nat) (ah : List Fld) (bV : Int) : List PV :=
  nuns 13 ++ [iN bV, .ms 1 6 0 (List.length ah), iN ((List.length ah) : Int), .bool true, .bool true, .ms 1 6 0 (List.length ah), iN bV, .bx 1 ((Int.toNat bV) * 6), .bx 1 ((Int.toNat bV) * 6), .str (List.getD ah (Int.toNat bV) zF).name, .sl (Fld.rows p0), iN (i0 : Int), .rf [.str (List.getD p0 i0 zF).name, iN (List.getD p0 i0 zF).v.kind, iN (List.getD p0 i0 zF).v.n, .str (List.getD p0 i0 zF).v.s, .sl (Val.rows (List.getD p0 i0 zF).v.list), .sl (Fld.rows (List.getD p0 i0 zF).v.fields)], .rf [.str (List.getD p0 i0 zF).name, iN (List.getD p0 i0 zF).v.kind, iN (List.getD p0 i0 zF).v.n, .str (List.getD p0 i0 zF).v.s, .sl (Val.rows (List.getD p0 i0 zF).v.list), .sl (Fld.rows (List.getD p0 i0 zF).v.fields)], .str (List.getD p0 i0 zF).name, .bool false, .bool false]
def Qmd (_p0 : List Fld) (_i0 : Nat) (_ah : List Fld) (_bV : Int) : List (Nat × List PV) :=
  []
theorem Q1cv (p0 : List Fld) (i0 : Nat) (ah : List Fld) (bV : Int) (eT : 0 ≤ bV) (_gH : bV ≤ (List.length ah : Int)) (gI : i0 < List.length p0) (gJ : List.length (ah : List Fld) ≤ 137438953472) (h0 : (decide (bV < ((List.length ah) : Int))) = true) (h1 : (sLt (List.getD ah (Int.toNat bV) zF).name (List.getD p0 i0 zF).name) = false) : Qdo p0 i0 ah (Q9k p0 i0 ah bV) bV := by
 have e0 := of_decide_eq_true h0
 exact ⟨(envF (Qtf p0 i0 ah bV)), (zoF (Qmd p0 i0 ah bV)), Qg (Qx6 p0 i0 ah bV) (x := ((.exit 2), Q94 p0 i0 ah bV (envF (Qtf p0 i0 ah bV)) (zoF (Qmd p0 i0 ah bV)))) [hB 3 h0, hP 3 (Qaq 1 6 (List.length ah) bV (Int.toNat bV) rfl (by omega) (by omega)), hP 1 (Q1ha 1 6 0 true ((Fld.rows ah).flatten) (Fld.rows ah) 1 false (Int.toNat bV) 0 ((Int.toNat bV) * 6) (Fld.cells (List.getD ah (Int.toNat bV) zF)) (.str (List.getD ah (Int.toNat bV) zF).name) rfl rfl (Fld.Qb (Qap ah (Int.toNat bV) zF (by omega))) (Fld.Qt ah) (by decide) rfl), hP 2 (Q1o5 6 (Fld.rows p0) (i0 : Int) _ (by omega) (Fld.Qb (Qap p0 (Int.toNat (i0 : Int)) zF (by omega))) rfl), hB 2 h1] [] (by kernel_rfl)⟩
def Qtg (_p0 : List Fld) (_i0 : Nat) (ah : List Fld) (bV : Int) : List PV :=
  nuns 13 ++ [iN bV, .ms 1 6 0 (List.length ah), iN ((List.length ah) : Int), .bool false, .bool false, .tup [], .tup [], .tup [], .tup [], .tup [], .tup [], .tup [], .tup [], .tup [], .tup [], .tup [], .bool false]
def Qme (_p0 : List Fld) (_i0 : Nat) (_ah : List Fld) (_bV : Int) : List (Nat × List PV) :=
  []
theorem Q1cw (p0 : List Fld) (i0 : Nat) (ah : List Fld) (bV : Int) (_eT : 0 ≤ bV) (_gH : bV ≤ (List.length ah : Int)) (_gI : i0 < List.length p0) (_gJ : List.length (ah : List Fld) ≤ 137438953472) (h0 : (decide (bV < ((List.length ah) : Int))) = false) : Qdo p0 i0 ah (Q9k p0 i0 ah bV) bV := by
 exact ⟨(envF (Qtg p0 i0 ah bV)), (zoF (Qme p0 i0 ah bV)), Qg (Qx6 p0 i0 ah bV) (x := ((.exit 2), Q94 p0 i0 ah bV (envF (Qtg p0 i0 ah bV)) (zoF (Qme p0 i0 ah bV)))) [hB 3 h0] [] (by kernel_rfl)⟩
theorem Q11t (p0 : List Fld) (i0 : Nat) (ah : List Fld) : ∀ (k1 : Nat) (bV : Int), 0 ≤ bV → bV ≤ (List.length ah : Int) → i0 < List.length p0 → List.length (ah : List Fld) ≤ 137438953472 → Int.toNat ((List.length ah : Int) - bV) < k1 → Qdo p0 i0 ah (Q9k p0 i0 ah bV) (Q14 p0 i0 ah k1 bV)
 | 0, bV, _, _, _, _, hm => absurd hm (Nat.not_lt_zero _)
 | k1 + 1, bV, eT, gH, gI, gJ, hm => by
  rw [Q14]
  cases h0 : (decide (bV < ((List.length ah) : Int))) with
  | true =>
   have e0 := of_decide_eq_true h0
   cases h1 : (sLt (List.getD ah (Int.toNat bV) zF).name (List.getD p0 i0 zF).name) with
   | true =>
    exact Qw3 p0 i0 ah (fun r hr => Q1ab p0 i0 ah bV eT gH gI gJ h0 h1 hr) _ (Q11t p0 i0 ah k1 (bV + 1) (by omega) (by omega) (by omega) (by omega) (by omega))
   | false =>
    exact Q1cv p0 i0 ah bV eT gH gI gJ h0 h1
  | false =>
   exact Q1cw p0 i0 ah bV eT gH gI gJ h0
theorem Q3x (p0 : List Fld) (i0 : Nat) (ah : List Fld) : ∀ (k1 : Nat) (bV : Int), 0 ≤ bV → bV ≤ (List.length ah : Int) → i0 < List.length p0 → List.length (ah : List Fld) ≤ 137438953472 → Int.toNat ((List.length ah : Int) - bV) < k1 → 0 ≤ (Q14 p0 i0 ah k1 bV) ∧ (Q14 p0 i0 ah k1 bV) ≤ (List.length ah : Int)
 | 0, bV, _, _, _, _, hm => absurd hm (Nat.not_lt_zero _)
 | k1 + 1, bV, eT, gH, gI, gJ, hm => by
  rw [Q14]
  cases h0 : (decide (bV < ((List.length ah) : Int))) with
  | true =>
   have e0 := of_decide_eq_true h0
   cases h1 : (sLt (List.getD ah (Int.toNat bV) zF).name (List.getD p0 i0 zF).name) with
   | true =>
    exact Q3x p0 i0 ah k1 (bV + 1) (by omega) (by omega) (by omega) (by omega) (by omega)
   | false =>
    exact (show 0 ≤ bV ∧ bV ≤ (List.length ah : Int) from ⟨(by omega), (by omega)⟩)
  | false =>
   have e0 := of_decide_eq_false h0
   exact (show 0 ≤ bV ∧ bV ≤ (List.length ah : Int) from ⟨(by omega), (by omega)⟩)
def Q7q (p0 : List Fld) : List Fld → Nat → (List Fld) → List Fld
 | [], _i0, ah =>
  ah
 | x0 :: r0, i0, ah =>
  bif ((Int.toNat (Q14 p0 i0 ah ((Int.toNat ((List.length ah : Int) - 0)) + 1) 0)) == 0) then
   Q7q p0 r0 (i0 + 1) ([x0] ++ (List.take ((List.length ah) - (Int.toNat (Q14 p0 i0 ah ((Int.toNat ((List.length ah : Int) - 0)) + 1) 0))) (List.drop (Int.toNat (Q14 p0 i0 ah ((Int.toNat ((List.length ah : Int) - 0)) + 1) 0)) ah)))
  else
   Q7q p0 r0 (i0 + 1) (((List.take (Int.toNat (Q14 p0 i0 ah ((Int.toNat ((List.length ah : Int) - 0)) + 1) 0)) ah) ++ [x0]) ++ (List.take ((List.length ah) - (Int.toNat (Q14 p0 i0 ah ((Int.toNat ((List.length ah : Int) - 0)) + 1) 0))) (List.drop (Int.toNat (Q14 p0 i0 ah ((Int.toNat ((List.length ah : Int) - 0)) + 1) 0)) ah)))
def Q1ei (p0 : List Fld) (i0 : Nat) (ah : List Fld) : List PV :=
  [.sl (Fld.rows p0), .un, .bx 0 0, .ms 1 6 0 (List.length ah), iN (i0 : Int)] ++ nuns 47
def Qyu (_p0 : List Fld) (_i0 : Nat) (ah : List Fld) : List Ob :=
  [⟨5, 0, true, [iN 0, iN 0, .str eB, .ms 2 5 0 0, .ms 3 6 0 0]⟩, ⟨6, 0, true, (Fld.rows ah).flatten⟩, ⟨5, 0, true, []⟩, ⟨6, 0, true, []⟩]
def Qaz (p0 : List Fld) (i0 : Nat) (ah : List Fld) : En := .loop 0 Ir.Qkk Ir.Q1mx (Q1ei p0 i0 ah) (Qyu p0 i0 ah)
def Qrg (_p0 : List Fld) (q0 : List Fld) (z : Nat → PV) (_zo : Nat → List PV) : St :=
  ⟨[z 0, z 1, .bx 0 0, .ms 1 6 0 (List.length q0)] ++ zr z 4 48, [(0, ⟨5, 0, true, [iN 0, iN 0, .str eB, .ms 2 5 0 0, .ms 3 6 0 0]⟩), (1, ⟨6, 0, true, (Fld.rows q0).flatten⟩), (2, ⟨5, 0, true, []⟩), (3, ⟨6, 0, true, []⟩)], 260⟩
theorem Qx5 (p0 : List Fld) (i0 : Nat) (ah : List Fld) : VOK (Go.Pv.look (number 0 (Qyu p0 i0 ah))) [(1, Fld.rows ah)] := (VOK.cons (show Seen _ _ from Q3r (ob := ⟨6, 0, true, (Fld.rows ah).flatten⟩) (Fld.Q8 ah 6 rfl)) VOK.nil)
def Qi8 (p0 : List Fld) (e : En) (q : List Fld) : Prop := ∃ z zo, Q5 G e (.st (.exit 0) (Qrg p0 q z zo))
theorem Qdn (p0 : List Fld) {e e' : En} (h : ∀ r, Q5 G e r → Q5 G e' r) : ∀ q, Qi8 p0 e q → Qi8 p0 e' q
  | _, ⟨z, zo, hz⟩ => ⟨z, zo, h _ hz⟩
def Qd5 (p0 : List Fld) : Prop := (List.length p0 ≤ 137438953472) ∧ (∀ (i0 : Nat) (ah : List Fld) (x0 : Fld), p0[i0]? = some x0 → List.length ah ≤ i0 → List.length (ah : List Fld) ≤ i0 → ((Int.toNat (Q14 p0 i0 ah ((Int.toNat ((List.length ah : Int) - 0)) + 1) 0)) == 0) = false → ((List.length (List.take (Int.toNat (Q14 p0 i0 ah ((Int.toNat ((List.length ah : Int) - 0)) + 1) 0)) ah)) + 1) * 96 ≤ 140737488355328) ∧ (∀ (i0 : Nat) (ah : List Fld) (x0 : Fld), p0[i0]? = some x0 → List.length ah ≤ i0 → List.length (ah : List Fld) ≤ i0 → ((Int.toNat (Q14 p0 i0 ah ((Int.toNat ((List.length ah : Int) - 0)) + 1) 0)) == 0) = true → List.length (([x0] ++ (List.take ((List.length ah) - (Int.toNat (Q14 p0 i0 ah ((Int.toNat ((List.length ah : Int) - 0)) + 1) 0))) (List.drop (Int.toNat (Q14 p0 i0 ah ((Int.toNat ((List.length ah : Int) - 0)) + 1) 0)) ah))) : List Fld) ≤ (i0 + 1)) ∧ (∀ (i0 : Nat) (ah : List Fld) (x0 : Fld), p0[i0]? = some x0 → List.length ah ≤ i0 → List.length (ah : List Fld) ≤ i0 → ((Int.toNat (Q14 p0 i0 ah ((Int.toNat ((List.length ah : Int) - 0)) + 1) 0)) == 0) = false → List.length ((((List.take (Int.toNat (Q14 p0 i0 ah ((Int.toNat ((List.length ah : Int) - 0)) + 1) 0)) ah) ++ [x0]) ++ (List.take ((List.length ah) - (Int.toNat (Q14 p0 i0 ah ((Int.toNat ((List.length ah : Int) - 0)) + 1) 0))) (List.drop (Int.toNat (Q14 p0 i0 ah ((Int.toNat ((List.length ah : Int) - 0)) + 1) 0)) ah))) : List Fld) ≤ (i0 + 1)) ∧ True
def Qte (p0 : List Fld) (i0 : Nat) (_ah : List Fld) : List PV :=
  [.sl (Fld.rows p0), .un, .un, .un, iN (i0 : Int), .un, .un, iN (i0 : Int), .sl (Fld.rows p0), iN ((List.length p0) : Int), .bool false]
def Qmc (_p0 : List Fld) (_i0 : Nat) (_ah : List Fld) : List (Nat × List PV) :=
  []
theorem Q1cu (p0 : List Fld) (_H : Qd5 p0) (i0 : Nat) (ah : List Fld) (_aR : List.length ah ≤ i0) (_cZ : List.length (ah : List Fld) ≤ i0) (bF : (decide ((i0 : Int) < ((List.length p0) : Int))) = false) : Qi8 p0 (Qaz p0 i0 ah) ah := by
 exact ⟨(envF (Qte p0 i0 ah)), (zoF (Qmc p0 i0 ah)), Qg (Qx5 p0 i0 ah) (x := ((.exit 0), Qrg p0 ah (envF (Qte p0 i0 ah)) (zoF (Qmc p0 i0 ah)))) [hP 2 (Qq _ _ (Fld.Q7 p0)), hB 0 bF] [] (by kernel_rfl)⟩
theorem Q1a9 (p0 : List Fld) (H : Qd5 p0) (x0 : Fld) (i0 : Nat) (ah : List Fld) (bH : p0[i0]? = some x0) (bT : i0 < List.length p0) (aR : List.length ah ≤ i0) (_cZ : List.length (ah : List Fld) ≤ i0) (bF : (decide ((i0 : Int) < ((List.length p0) : Int))) = true) (z0 : Nat → PV) (eG : Nat → List PV) (hl0 : Q5 G (Q9k p0 i0 ah 0) (.st (.exit 2) (Q94 p0 i0 ah (Q14 p0 i0 ah ((Int.toNat ((List.length ah : Int) - 0)) + 1) 0) z0 eG))) (h0 : ((Int.toNat (Q14 p0 i0 ah ((Int.toNat ((List.length ah : Int) - 0)) + 1) 0)) == 0) = true) {r : Rs} (hr : Q5 G (Qaz p0 (i0 + 1) ([x0] ++ (List.take ((List.length ah) - (Int.toNat (Q14 p0 i0 ah ((Int.toNat ((List.length ah : Int) - 0)) + 1) 0))) (List.drop (Int.toNat (Q14 p0 i0 ah ((Int.toNat ((List.length ah : Int) - 0)) + 1) 0)) ah)))) r) : Q5 G (Qaz p0 i0 ah) r := by
 have hB0 := H.1; have e0 := eq_of_beq h0
 exact Qc (Qx5 p0 i0 ah) [hP 2 (Qq _ _ (Fld.Q7 p0)), hB 0 bF, hS 0 true (Fld.Q8 ah 6 rfl), hP 5 (Q190 1 6 (List.length ah) (Q14 p0 i0 ah ((Int.toNat ((List.length ah : Int) - 0)) + 1) 0) (by have g0 := Q3x p0 i0 ah ((Int.toNat ((List.length ah : Int) - 0)) + 1) 0 (by omega) (by omega) (by omega) (by omega) (by omega); omega) (by have g0 := Q3x p0 i0 ah ((Int.toNat ((List.length ah : Int) - 0)) + 1) 0 (by omega) (by omega) (by omega) (by omega) (by omega); omega)), hP 0 (Q1kb 1 1412 6 96 0 true (Fld.rows ah) 0 (Int.toNat (Q14 p0 i0 ah ((Int.toNat ((List.length ah : Int) - 0)) + 1) 0)) (Fld.Qt ah) (by rw [Fld.Q7]; exact (by have g0 := Q3x p0 i0 ah ((Int.toNat ((List.length ah : Int) - 0)) + 1) 0 (by omega) (by omega) (by omega) (by omega) (by omega); omega)) (eq_of_beq h0)), hP 4 (Q1f 6 _ i0 _ (Fld.Qb bH) rfl), hP 7 (Q166 1 6 (List.length ah) (Q14 p0 i0 ah ((Int.toNat ((List.length ah : Int) - 0)) + 1) 0) (by have g0 := Q3x p0 i0 ah ((Int.toNat ((List.length ah : Int) - 0)) + 1) 0 (by omega) (by omega) (by omega) (by omega) (by omega); omega) (by have g0 := Q3x p0 i0 ah ((Int.toNat ((List.length ah : Int) - 0)) + 1) 0 (by omega) (by omega) (by omega) (by omega) (by omega); omega)), hV 0 [(2308, Fld.rows ([x0] ++ (List.take ((List.length ah) - (Int.toNat (Q14 p0 i0 ah ((Int.toNat ((List.length ah : Int) - 0)) + 1) 0))) (List.drop (Int.toNat (Q14 p0 i0 ah ((Int.toNat ((List.length ah : Int) - 0)) + 1) 0)) ah))))] (Q1gl 1924 1 2308 6 96 0 [.str x0.name, iN x0.v.kind, iN x0.v.n, .str x0.v.s, .sl (Val.rows x0.v.list), .sl (Fld.rows x0.v.fields)] (Fld.rows [x0]) 0 true (Fld.rows ah) (Fld.rows ([x0] ++ (List.take ((List.length ah) - (Int.toNat (Q14 p0 i0 ah ((Int.toNat ((List.length ah : Int) - 0)) + 1) 0))) (List.drop (Int.toNat (Q14 p0 i0 ah ((Int.toNat ((List.length ah : Int) - 0)) + 1) 0)) ah)))) 1 (Int.toNat (Q14 p0 i0 ah ((Int.toNat ((List.length ah : Int) - 0)) + 1) 0)) ((List.length ah) - (Int.toNat (Q14 p0 i0 ah ((Int.toNat ((List.length ah : Int) - 0)) + 1) 0))) (List.length ([x0] ++ (List.take ((List.length ah) - (Int.toNat (Q14 p0 i0 ah ((Int.toNat ((List.length ah : Int) - 0)) + 1) 0))) (List.drop (Int.toNat (Q14 p0 i0 ah ((Int.toNat ((List.length ah : Int) - 0)) + 1) 0)) ah)))) rfl (by simp only [Fld.Q1w, Fld.Q2h]; rfl) (Fld.Q7 [x0]).symm (Fld.Q7 ([x0] ++ (List.take ((List.length ah) - (Int.toNat (Q14 p0 i0 ah ((Int.toNat ((List.length ah : Int) - 0)) + 1) 0))) (List.drop (Int.toNat (Q14 p0 i0 ah ((Int.toNat ((List.length ah : Int) - 0)) + 1) 0)) ah)))).symm (by rw [Fld.Q140, Fld.Qje, Fld.Qy9]) (Fld.Qt [x0]) (Fld.Qt ah) (by rw [Fld.Q7]; exact (by have g0 := Q3x p0 i0 ah ((Int.toNat ((List.length ah : Int) - 0)) + 1) 0 (by omega) (by omega) (by omega) (by omega) (by omega); omega)) (by have g0 := Q3x p0 i0 ah ((Int.toNat ((List.length ah : Int) - 0)) + 1) 0 (by omega) (by omega) (by omega) (by omega) (by omega); omega)), hS 0 true (Fld.Q8 ([x0] ++ (List.take ((List.length ah) - (Int.toNat (Q14 p0 i0 ah ((Int.toNat ((List.length ah : Int) - 0)) + 1) 0))) (List.drop (Int.toNat (Q14 p0 i0 ah ((Int.toNat ((List.length ah : Int) - 0)) + 1) 0)) ah))) 6 rfl), hP 4 (Q26 i0 (by omega))] [aV [(1, Fld.rows ah)] hl0] hr (by kernel_rfl)
theorem Q1aa (p0 : List Fld) (H : Qd5 p0) (x0 : Fld) (i0 : Nat) (ah : List Fld) (bH : p0[i0]? = some x0) (bT : i0 < List.length p0) (aR : List.length ah ≤ i0) (cZ : List.length (ah : List Fld) ≤ i0) (bF : (decide ((i0 : Int) < ((List.length p0) : Int))) = true) (z0 : Nat → PV) (eG : Nat → List PV) (hl0 : Q5 G (Q9k p0 i0 ah 0) (.st (.exit 2) (Q94 p0 i0 ah (Q14 p0 i0 ah ((Int.toNat ((List.length ah : Int) - 0)) + 1) 0) z0 eG))) (h0 : ((Int.toNat (Q14 p0 i0 ah ((Int.toNat ((List.length ah : Int) - 0)) + 1) 0)) == 0) = false) {r : Rs} (hr : Q5 G (Qaz p0 (i0 + 1) (((List.take (Int.toNat (Q14 p0 i0 ah ((Int.toNat ((List.length ah : Int) - 0)) + 1) 0)) ah) ++ [x0]) ++ (List.take ((List.length ah) - (Int.toNat (Q14 p0 i0 ah ((Int.toNat ((List.length ah : Int) - 0)) + 1) 0))) (List.drop (Int.toNat (Q14 p0 i0 ah ((Int.toNat ((List.length ah : Int) - 0)) + 1) 0)) ah)))) r) : Q5 G (Qaz p0 i0 ah) r := by
 have hB0 := H.1; have e0 := beq_eq_false_iff_ne.1 h0
 exact Qc (Qx5 p0 i0 ah) [hP 2 (Qq _ _ (Fld.Q7 p0)), hB 0 bF, hS 0 true (Fld.Q8 ah 6 rfl), hP 5 (Q190 1 6 (List.length ah) (Q14 p0 i0 ah ((Int.toNat ((List.length ah : Int) - 0)) + 1) 0) (by have g0 := Q3x p0 i0 ah ((Int.toNat ((List.length ah : Int) - 0)) + 1) 0 (by omega) (by omega) (by omega) (by omega) (by omega); omega) (by have g0 := Q3x p0 i0 ah ((Int.toNat ((List.length ah : Int) - 0)) + 1) 0 (by omega) (by omega) (by omega) (by omega) (by omega); omega)), hV 0 [(1412, Fld.rows (List.take (Int.toNat (Q14 p0 i0 ah ((Int.toNat ((List.length ah : Int) - 0)) + 1) 0)) ah))] (Q1z3 1 1412 6 96 0 true (Fld.rows ah) (Fld.rows (List.take (Int.toNat (Q14 p0 i0 ah ((Int.toNat ((List.length ah : Int) - 0)) + 1) 0)) ah)) 0 (Int.toNat (Q14 p0 i0 ah ((Int.toNat ((List.length ah : Int) - 0)) + 1) 0)) (List.length (List.take (Int.toNat (Q14 p0 i0 ah ((Int.toNat ((List.length ah : Int) - 0)) + 1) 0)) ah)) (Fld.Qt ah) (by rw [Fld.Q7]; exact (by have g0 := Q3x p0 i0 ah ((Int.toNat ((List.length ah : Int) - 0)) + 1) 0 (by omega) (by omega) (by omega) (by omega) (by omega); omega)) (beq_eq_false_iff_ne.1 h0) (by rw [Fld.Qje]; rfl) (by have g0 := Q3x p0 i0 ah ((Int.toNat ((List.length ah : Int) - 0)) + 1) 0 (by omega) (by omega) (by omega) (by omega) (by omega); try simp only [List.length_take]; omega) (by have g0 := Q3x p0 i0 ah ((Int.toNat ((List.length ah : Int) - 0)) + 1) 0 (by omega) (by omega) (by omega) (by omega) (by omega); omega)), hS 0 true (Fld.Q8 (List.take (Int.toNat (Q14 p0 i0 ah ((Int.toNat ((List.length ah : Int) - 0)) + 1) 0)) ah) 6 rfl), hP 4 (Q1f 6 _ i0 _ (Fld.Qb bH) rfl), hA 2 1412 1860 1924 6 96 0 0 true Fld.Q7 Fld.Q1l (List.take (Int.toNat (Q14 p0 i0 ah ((Int.toNat ((List.length ah : Int) - 0)) + 1) 0)) ah) x0 (Fld.Qt (List.take (Int.toNat (Q14 p0 i0 ah ((Int.toNat ((List.length ah : Int) - 0)) + 1) 0)) ah)) rfl rfl ((H.2.1 i0 ah x0 bH aR cZ) h0), hS 0 true (Fld.Q8 ((List.take (Int.toNat (Q14 p0 i0 ah ((Int.toNat ((List.length ah : Int) - 0)) + 1) 0)) ah) ++ [x0]) 6 rfl), hP 4 (Q166 1 6 (List.length ah) (Q14 p0 i0 ah ((Int.toNat ((List.length ah : Int) - 0)) + 1) 0) (by have g0 := Q3x p0 i0 ah ((Int.toNat ((List.length ah : Int) - 0)) + 1) 0 (by omega) (by omega) (by omega) (by omega) (by omega); omega) (by have g0 := Q3x p0 i0 ah ((Int.toNat ((List.length ah : Int) - 0)) + 1) 0 (by omega) (by omega) (by omega) (by omega) (by omega); omega)), hV 0 [(2308, Fld.rows (((List.take (Int.toNat (Q14 p0 i0 ah ((Int.toNat ((List.length ah : Int) - 0)) + 1) 0)) ah) ++ [x0]) ++ (List.take ((List.length ah) - (Int.toNat (Q14 p0 i0 ah ((Int.toNat ((List.length ah : Int) - 0)) + 1) 0))) (List.drop (Int.toNat (Q14 p0 i0 ah ((Int.toNat ((List.length ah : Int) - 0)) + 1) 0)) ah))))] (Q1gl 1924 1 2308 6 96 0 ((Fld.rows ((List.take (Int.toNat (Q14 p0 i0 ah ((Int.toNat ((List.length ah : Int) - 0)) + 1) 0)) ah) ++ [x0])).flatten) (Fld.rows ((List.take (Int.toNat (Q14 p0 i0 ah ((Int.toNat ((List.length ah : Int) - 0)) + 1) 0)) ah) ++ [x0])) 0 true (Fld.rows ah) (Fld.rows (((List.take (Int.toNat (Q14 p0 i0 ah ((Int.toNat ((List.length ah : Int) - 0)) + 1) 0)) ah) ++ [x0]) ++ (List.take ((List.length ah) - (Int.toNat (Q14 p0 i0 ah ((Int.toNat ((List.length ah : Int) - 0)) + 1) 0))) (List.drop (Int.toNat (Q14 p0 i0 ah ((Int.toNat ((List.length ah : Int) - 0)) + 1) 0)) ah)))) (List.length ((List.take (Int.toNat (Q14 p0 i0 ah ((Int.toNat ((List.length ah : Int) - 0)) + 1) 0)) ah) ++ [x0])) (Int.toNat (Q14 p0 i0 ah ((Int.toNat ((List.length ah : Int) - 0)) + 1) 0)) ((List.length ah) - (Int.toNat (Q14 p0 i0 ah ((Int.toNat ((List.length ah : Int) - 0)) + 1) 0))) (List.length (((List.take (Int.toNat (Q14 p0 i0 ah ((Int.toNat ((List.length ah : Int) - 0)) + 1) 0)) ah) ++ [x0]) ++ (List.take ((List.length ah) - (Int.toNat (Q14 p0 i0 ah ((Int.toNat ((List.length ah : Int) - 0)) + 1) 0))) (List.drop (Int.toNat (Q14 p0 i0 ah ((Int.toNat ((List.length ah : Int) - 0)) + 1) 0)) ah)))) rfl rfl (Fld.Q7 ((List.take (Int.toNat (Q14 p0 i0 ah ((Int.toNat ((List.length ah : Int) - 0)) + 1) 0)) ah) ++ [x0])).symm (Fld.Q7 (((List.take (Int.toNat (Q14 p0 i0 ah ((Int.toNat ((List.length ah : Int) - 0)) + 1) 0)) ah) ++ [x0]) ++ (List.take ((List.length ah) - (Int.toNat (Q14 p0 i0 ah ((Int.toNat ((List.length ah : Int) - 0)) + 1) 0))) (List.drop (Int.toNat (Q14 p0 i0 ah ((Int.toNat ((List.length ah : Int) - 0)) + 1) 0)) ah)))).symm (by rw [Fld.Q140, Fld.Qje, Fld.Qy9]) (Fld.Qt ((List.take (Int.toNat (Q14 p0 i0 ah ((Int.toNat ((List.length ah : Int) - 0)) + 1) 0)) ah) ++ [x0])) (Fld.Qt ah) (by rw [Fld.Q7]; exact (by have g0 := Q3x p0 i0 ah ((Int.toNat ((List.length ah : Int) - 0)) + 1) 0 (by omega) (by omega) (by omega) (by omega) (by omega); omega)) (by have g0 := Q3x p0 i0 ah ((Int.toNat ((List.length ah : Int) - 0)) + 1) 0 (by omega) (by omega) (by omega) (by omega) (by omega); try simp only [List.length_append, List.length_cons, List.length_nil, List.length_take]; omega)), hS 0 true (Fld.Q8 (((List.take (Int.toNat (Q14 p0 i0 ah ((Int.toNat ((List.length ah : Int) - 0)) + 1) 0)) ah) ++ [x0]) ++ (List.take ((List.length ah) - (Int.toNat (Q14 p0 i0 ah ((Int.toNat ((List.length ah : Int) - 0)) + 1) 0))) (List.drop (Int.toNat (Q14 p0 i0 ah ((Int.toNat ((List.length ah : Int) - 0)) + 1) 0)) ah))) 6 rfl), hP 4 (Q26 i0 (by omega))] [aV [(1, Fld.rows ah)] hl0] hr (by kernel_rfl)
theorem Qo5 (p0 : List Fld) (H : Qd5 p0) : ∀ (r0 : List Fld) (i0 : Nat) (ah : List Fld), List.drop i0 p0 = r0 → List.length ah ≤ i0 → List.length (ah : List Fld) ≤ i0 → Qi8 p0 (Qaz p0 i0 ah) (Q7q p0 r0 i0 ah)
 | [], i0, ah, hd, aR, cZ => by
  have bF : (decide ((i0 : Int) < ((List.length p0) : Int))) = false := by have := Q1n hd; simp; omega
  rw [Q7q]
  exact Q1cu p0 H i0 ah aR cZ bF
 | x0 :: r0, i0, ah, hd, aR, cZ => by
  obtain ⟨bH, bT, hd'⟩ := Q1o hd
  have hB0 := H.1
  have bF : (decide ((i0 : Int) < ((List.length p0) : Int))) = true := by simp; omega
  rw [Q7q]
  have hl0 := Q11t p0 i0 ah ((Int.toNat ((List.length ah : Int) - 0)) + 1) 0 (by omega) (by omega) (by omega) (by omega) (by omega)
  obtain ⟨z0, eG, hl0⟩ := hl0
  cases h0 : ((Int.toNat (Q14 p0 i0 ah ((Int.toNat ((List.length ah : Int) - 0)) + 1) 0)) == 0) with
  | true =>
   have e0 := eq_of_beq h0
   exact Qdn p0 (fun r hr => Q1a9 p0 H x0 i0 ah bH bT aR cZ bF z0 eG hl0 h0 hr) _ (Qo5 p0 H r0 _ _ hd' (by first | omega | (simp; omega)) ((H.2.2.1 i0 ah x0 bH aR cZ) h0))
  | false =>
   have e0 := beq_eq_false_iff_ne.1 h0
   exact Qdn p0 (fun r hr => Q1aa p0 H x0 i0 ah bH bT aR cZ bF z0 eG hl0 h0 hr) _ (Qo5 p0 H r0 _ _ hd' (by first | omega | (simp; omega)) ((H.2.2.2.1 i0 ah x0 bH aR cZ) h0))
def Q37 (p0 : List Fld) : Val :=
 (Val.mk 5 0 eB [] (Q7q p0 p0 0 []))
def Q74 (p0 : List Fld) : En := .call 163 [.sl (Fld.rows p0)] []
def Q1vv (p0 : List Fld) : Rs := .ret (.agg (Val.cells (Q37 p0))) []
def Q1uq (p0 : List Fld) : Prop := List.length p0 ≤ 20
theorem Q16i (p0 : List Fld) (H : Q1uq p0) : (Qd5 p0) ∧ (List.length ([] : List Fld) ≤ 0) ∧ True := by
  have H' : p0.length ≤ 20 := H
  have hl : ∀ (i : Nat) (x : Fld), p0[i]? = some x → i < 20 := fun i x h => Nat.lt_of_lt_of_le (List.getElem?_eq_some_iff.1 h).1 H'
  refine ⟨⟨by omega, fun i v x hx a _ _ => ?_, fun i v x hx a _ _ => ?_, fun i v x hx a _ _ => ?_, trivial⟩, by simp, trivial⟩ <;>
  · have := hl i x hx
    simp only [List.length_append, List.length_take, List.length_drop, List.length_cons, List.length_nil]
    omega
theorem Q7l (p0 : List Fld) (H : Q1uq p0) : Q5 G (Q74 p0) (Q1vv p0) := by
 unfold Q1vv Q37
 have hl0 := Qo5 p0 ((Q16i p0 H).1) p0 0 [] (by simp) (by simp) ((Q16i p0 H).2.1)
 obtain ⟨z0, eG, hl0⟩ := hl0
 exact Q6 (fn := Ir.K2h) (by kernel_rfl) VOK.nil [hS 0 true (Fld.Q8 (Q7q p0 p0 0 []) 6 rfl), hQ (Fld.Q7 (Q7q p0 p0 0 [])).symm] [aV [(1, Fld.rows (Q7q p0 p0 0 []))] hl0] (by kernel_rfl)
def Q1m (p0 : Int) : Val :=
 (Val.mk 2 p0 eB [] [])
def Q26s (p0 : Int) : En := .call 164 [iN p0] []
def Q1vs (p0 : Int) : Rs := .ret (.agg (Val.cells (Q1m p0))) []
theorem Q50 (p0 : Int) : Q5 G (Q26s p0) (Q1vs p0) := by
 unfold Q1vs Q1m
 exact Q6 (fn := Ir.K2c) (by kernel_rfl) VOK.nil [] [] (by kernel_rfl)
def Q2l (p0 : BA) : Val :=
 (Val.mk 3 0 p0 [] [])
def Q279 (p0 : BA) : En := .call 169 [.str p0] []
def Q1wa (p0 : BA) : Rs := .ret (.agg (Val.cells (Q2l p0))) []
theorem Qcr (p0 : BA) : Q5 G (Q279 p0) (Q1wa p0) := by
 unfold Q1wa Q2l
 exact Q6 (fn := Ir.K2w) (by kernel_rfl) VOK.nil [] [] (by kernel_rfl)
def Q6l (p0 : List ByteArray) : List ByteArray → Nat → (List Val) → List Val
 | [], _i0, ah =>
  ah
 | x0 :: r0, i0, ah =>
  Q6l p0 r0 (i0 + 1) (ah ++ [(Q2l x0)])
theorem Q18f (p0 : List ByteArray) : ∀ (l : List ByteArray) (i : Nat) (a : List Val), Q6l p0 l i a = a ++ l.map (fun x0 => (Q2l x0))
  | [], _, _ => by simp [Q6l]
  | x :: r, i, a => by rw [Q6l, Q18f p0 r]; simp
def Q1es (p0 : List ByteArray) (i0 : Nat) (ah : List Val) : List PV :=
  [.sl (Qz p0), .un, .bx 0 0, .ms 1 5 0 (List.length ah), iN (i0 : Int)] ++ nuns 16
def Qz4 (_p0 : List ByteArray) (_i0 : Nat) (ah : List Val) : List Ob :=
  [⟨5, 0, true, [iN 0, iN 0, .str eB, .ms 2 5 0 0, .ms 3 6 0 0]⟩, ⟨5, 0, true, (Val.rows ah).flatten⟩, ⟨5, 0, true, []⟩, ⟨6, 0, true, []⟩]
def Qgt (p0 : List ByteArray) (i0 : Nat) (ah : List Val) : En := .loop 0 Ir.Qku Ir.Q1n7 (Q1es p0 i0 ah) (Qz4 p0 i0 ah)
def Qro (_p0 : List ByteArray) (q0 : List Val) (z : Nat → PV) (_zo : Nat → List PV) : St :=
  ⟨[z 0, z 1, .bx 0 0, .ms 1 5 0 (List.length q0)] ++ zr z 4 17, [(0, ⟨5, 0, true, [iN 0, iN 0, .str eB, .ms 2 5 0 0, .ms 3 6 0 0]⟩), (1, ⟨5, 0, true, (Val.rows q0).flatten⟩), (2, ⟨5, 0, true, []⟩), (3, ⟨6, 0, true, []⟩)], 260⟩
theorem Q15h (p0 : List ByteArray) (i0 : Nat) (ah : List Val) : VOK (Go.Pv.look (number 0 (Qz4 p0 i0 ah))) [(1, Val.rows ah)] := (VOK.cons (show Seen _ _ from Q3r (ob := ⟨5, 0, true, (Val.rows ah).flatten⟩) (Val.Q8 ah 5 rfl)) VOK.nil)
def Qih (p0 : List ByteArray) (e : En) (q : List Val) : Prop := ∃ z zo, Q5 G e (.st (.exit 0) (Qro p0 q z zo))
theorem Qwc (p0 : List ByteArray) {e e' : En} (h : ∀ r, Q5 G e r → Q5 G e' r) : ∀ q, Qih p0 e q → Qih p0 e' q
  | _, ⟨z, zo, hz⟩ => ⟨z, zo, h _ hz⟩
def Qhu (p0 : List ByteArray) : Prop := (List.length p0 ≤ 137438953472) ∧ True
def Qtp (p0 : List ByteArray) (i0 : Nat) (_ah : List Val) : List PV :=
  [.sl (Qz p0), .un, .un, .un, iN (i0 : Int), iN (i0 : Int), .sl (Qz p0), iN ((List.length p0) : Int), .bool false]
def Qmn (_p0 : List ByteArray) (_i0 : Nat) (_ah : List Val) : List (Nat × List PV) :=
  []
theorem Q1d5 (p0 : List ByteArray) (_H : Qhu p0) (i0 : Nat) (ah : List Val) (_aR : List.length ah ≤ i0) (bF : (decide ((i0 : Int) < ((List.length p0) : Int))) = false) : Qih p0 (Qgt p0 i0 ah) ah := by
 exact ⟨(envF (Qtp p0 i0 ah)), (zoF (Qmn p0 i0 ah)), Qg (Q15h p0 i0 ah) (x := ((.exit 0), Qro p0 ah (envF (Qtp p0 i0 ah)) (zoF (Qmn p0 i0 ah)))) [hP 2 (Qq _ _ (Q2d p0)), hB 0 bF] [] (by kernel_rfl)⟩
theorem Q1ak (p0 : List ByteArray) (H : Qhu p0) (x0 : BA) (i0 : Nat) (ah : List Val) (bH : p0[i0]? = some x0) (bT : i0 < List.length p0) (aR : List.length ah ≤ i0) (bF : (decide ((i0 : Int) < ((List.length p0) : Int))) = true) {r : Rs} (hr : Q5 G (Qgt p0 (i0 + 1) (ah ++ [(Q2l x0)])) r) : Q5 G (Qgt p0 i0 ah) r := by
 have hB0 := H.1
 exact Qc (Q15h p0 i0 ah) [hP 2 (Qq _ _ (Q2d p0)), hB 0 bF, hP 3 (Q1f 1 _ i0 _ (Q83 bH) rfl), hA 3 1 644 708 5 80 0 0 true Val.Q7 Val.Q1l ah (Q2l x0) (Val.Qt ah) rfl rfl (by omega), hS 0 true (Val.Q8 (ah ++ [(Q2l x0)]) 5 rfl), hP 2 (Q26 i0 (by omega))] [aN (Qcr x0)] hr (by kernel_rfl)
theorem Q122 (p0 : List ByteArray) (H : Qhu p0) : ∀ (r0 : List ByteArray) (i0 : Nat) (ah : List Val), List.drop i0 p0 = r0 → List.length ah ≤ i0 → Qih p0 (Qgt p0 i0 ah) (Q6l p0 r0 i0 ah)
 | [], i0, ah, hd, aR => by
  have bF : (decide ((i0 : Int) < ((List.length p0) : Int))) = false := by have := Q1n hd; simp; omega
  rw [Q6l]
  exact Q1d5 p0 H i0 ah aR bF
 | x0 :: r0, i0, ah, hd, aR => by
  obtain ⟨bH, bT, hd'⟩ := Q1o hd
  have bF : (decide ((i0 : Int) < ((List.length p0) : Int))) = true := by simp; omega
  rw [Q6l]
  exact Qwc p0 (fun r hr => Q1ak p0 H x0 i0 ah bH bT aR bF hr) _ (Q122 p0 H r0 _ _ hd' (by first | omega | (simp; omega)))
def Qyd (p0 : List ByteArray) : Val := vL (p0.map vS)
theorem Q2an (p0 : List ByteArray) : Qyd p0 = ((Val.mk 4 0 eB (Q6l p0 p0 0 []) [])) := by
  rw [Q18f]
  kernel_rfl
def Q27a (p0 : List ByteArray) : En := .call 212 [.sl (Qz p0)] []
def Q1wb (p0 : List ByteArray) : Rs := .ret (.agg (Val.cells (Qyd p0))) []
def Q1ov (p0 : List ByteArray) : Prop := LSm (fun _ : ByteArray => True) p0
theorem Q1ky (p0 : List ByteArray) (H : Q1ov p0) : (Qhu p0) ∧ True := by
  exact ⟨⟨Nat.le_trans H.1 (Nat.le_of_ble_eq_true rfl), trivial⟩, trivial⟩
theorem Q2fc (p0 : List ByteArray) (H : Q1ov p0) : Q5 G (Q27a p0) (Q1wb p0) := by
 unfold Q1wb
 rw [Q2an]
 have hl0 := Q122 p0 ((Q1ky p0 H).1) p0 0 [] (by simp) (by simp)
 obtain ⟨z0, eG, hl0⟩ := hl0
 exact Q6 (fn := Ir.K2x) (by kernel_rfl) VOK.nil [hS 0 true (Val.Q8 (Q6l p0 p0 0 []) 5 rfl), hQ (Val.Q7 (Q6l p0 p0 0 [])).symm] [aV [(1, Val.rows (Q6l p0 p0 0 []))] hl0] (by kernel_rfl)
def Q6j (p0 : List aj) : List aj → Nat → (List Val) → List Val
 | [], _i0, ah =>
  ah
 | x0 :: r0, i0, ah =>
  Q6j p0 r0 (i0 + 1) (ah ++ [(Q37 ([(Fld.mk Q1c (Q2l x0.key)), (Fld.mk Q4t (Q1m x0.op)), (Fld.mk Q29 (Qyd x0.dK))]))])
theorem Q18d (p0 : List aj) : ∀ (l : List aj) (i : Nat) (a : List Val), Q6j p0 l i a = a ++ l.map (fun x0 => (Q37 ([(Fld.mk Q1c (Q2l x0.key)), (Fld.mk Q4t (Q1m x0.op)), (Fld.mk Q29 (Qyd x0.dK))])))
  | [], _, _ => by simp [Q6j]
  | x :: r, i, a => by rw [Q6j, Q18d p0 r]; simp
def Q1eq (p0 : List aj) (i0 : Nat) (ah : List Val) : List PV :=
  [.sl (aj.rows p0), .un, .bx 0 0, .ms 1 5 0 (List.length ah), iN (i0 : Int)] ++ nuns 34
def Qz2 (_p0 : List aj) (_i0 : Nat) (ah : List Val) : List Ob :=
  [⟨5, 0, true, [iN 0, iN 0, .str eB, .ms 2 5 0 0, .ms 3 6 0 0]⟩, ⟨5, 0, true, (Val.rows ah).flatten⟩, ⟨5, 0, true, []⟩, ⟨6, 0, true, []⟩]
def Qgr (p0 : List aj) (i0 : Nat) (ah : List Val) : En := .loop 0 Ir.Qks Ir.Q1n5 (Q1eq p0 i0 ah) (Qz2 p0 i0 ah)
def Qrm (_p0 : List aj) (q0 : List Val) (z : Nat → PV) (_zo : Nat → List PV) : St :=
  ⟨[z 0, z 1, .bx 0 0, .ms 1 5 0 (List.length q0)] ++ zr z 4 35, [(0, ⟨5, 0, true, [iN 0, iN 0, .str eB, .ms 2 5 0 0, .ms 3 6 0 0]⟩), (1, ⟨5, 0, true, (Val.rows q0).flatten⟩), (2, ⟨5, 0, true, []⟩), (3, ⟨6, 0, true, []⟩)], 260⟩
theorem Q15f (p0 : List aj) (i0 : Nat) (ah : List Val) : VOK (Go.Pv.look (number 0 (Qz2 p0 i0 ah))) [(1, Val.rows ah)] := (VOK.cons (show Seen _ _ from Q3r (ob := ⟨5, 0, true, (Val.rows ah).flatten⟩) (Val.Q8 ah 5 rfl)) VOK.nil)
def Qif (p0 : List aj) (e : En) (q : List Val) : Prop := ∃ z zo, Q5 G e (.st (.exit 0) (Qrm p0 q z zo))
theorem Qwa (p0 : List aj) {e e' : En} (h : ∀ r, Q5 G e r → Q5 G e' r) : ∀ q, Qif p0 e q → Qif p0 e' q
  | _, ⟨z, zo, hz⟩ => ⟨z, zo, h _ hz⟩
def Qhs (p0 : List aj) : Prop := (List.length p0 ≤ 137438953472) ∧ (∀ x0 ∈ p0, Q1ov x0.dK) ∧ True
def Qtn (p0 : List aj) (i0 : Nat) (_ah : List Val) : List PV :=
  [.sl (aj.rows p0), .un, .un, .un, iN (i0 : Int), iN (i0 : Int), .sl (aj.rows p0), iN ((List.length p0) : Int), .bool false]
def Qml (_p0 : List aj) (_i0 : Nat) (_ah : List Val) : List (Nat × List PV) :=
  []
theorem Q1d3 (p0 : List aj) (_H : Qhs p0) (i0 : Nat) (ah : List Val) (_aR : List.length ah ≤ i0) (bF : (decide ((i0 : Int) < ((List.length p0) : Int))) = false) : Qif p0 (Qgr p0 i0 ah) ah := by
 exact ⟨(envF (Qtn p0 i0 ah)), (zoF (Qml p0 i0 ah)), Qg (Q15f p0 i0 ah) (x := ((.exit 0), Qrm p0 ah (envF (Qtn p0 i0 ah)) (zoF (Qml p0 i0 ah)))) [hP 2 (Qq _ _ (aj.Q7 p0)), hB 0 bF] [] (by kernel_rfl)⟩
theorem Q1ai (p0 : List aj) (H : Qhs p0) (x0 : aj) (i0 : Nat) (ah : List Val) (bH : p0[i0]? = some x0) (bT : i0 < List.length p0) (aR : List.length ah ≤ i0) (bF : (decide ((i0 : Int) < ((List.length p0) : Int))) = true) {r : Rs} (hr : Q5 G (Qgr p0 (i0 + 1) (ah ++ [(Q37 ([(Fld.mk Q1c (Q2l x0.key)), (Fld.mk Q4t (Q1m x0.op)), (Fld.mk Q29 (Qyd x0.dK))]))])) r) : Q5 G (Qgr p0 i0 ah) r := by
 have hB0 := H.1
 exact Qc (Q15f p0 i0 ah) [hP 2 (Qq _ _ (aj.Q7 p0)), hB 0 bF, hP 3 (Q1f 3 _ i0 _ (aj.Qb bH) rfl), hP 6 (Q1f 3 _ i0 _ (aj.Qb bH) rfl), hP 6 (Q1f 3 _ i0 _ (aj.Qb bH) rfl), hA 7 1 1796 1860 5 80 0 0 true Val.Q7 Val.Q1l ah (Q37 ([(Fld.mk Q1c (Q2l x0.key)), (Fld.mk Q4t (Q1m x0.op)), (Fld.mk Q29 (Qyd x0.dK))])) (Val.Qt ah) rfl rfl (by omega), hS 0 true (Val.Q8 (ah ++ [(Q37 ([(Fld.mk Q1c (Q2l x0.key)), (Fld.mk Q4t (Q1m x0.op)), (Fld.mk Q29 (Qyd x0.dK))]))]) 5 rfl), hP 2 (Q26 i0 (by omega))] [aN (Qcr x0.key), aN (Q50 x0.op), aN (Q2fc x0.dK (H.2.1 x0 (Q15 bH))), aN (Q79 (e' := .call 163 [.sl [(Fld.cells (Fld.mk Q1c (Q2l x0.key))), (Fld.cells (Fld.mk Q4t (Q1m x0.op))), (Fld.cells (Fld.mk Q29 (Qyd x0.dK)))]] []) (Q7l ([(Fld.mk Q1c (Q2l x0.key)), (Fld.mk Q4t (Q1m x0.op)), (Fld.mk Q29 (Qyd x0.dK))]) (Nat.le_of_ble_eq_true rfl)) (by simp only [Q74, Fld.Q1w, Fld.Q2h]))] hr (by kernel_rfl)
theorem Q120 (p0 : List aj) (H : Qhs p0) : ∀ (r0 : List aj) (i0 : Nat) (ah : List Val), List.drop i0 p0 = r0 → List.length ah ≤ i0 → Qif p0 (Qgr p0 i0 ah) (Q6j p0 r0 i0 ah)
 | [], i0, ah, hd, aR => by
  have bF : (decide ((i0 : Int) < ((List.length p0) : Int))) = false := by have := Q1n hd; simp; omega
  rw [Q6j]
  exact Q1d3 p0 H i0 ah aR bF
 | x0 :: r0, i0, ah, hd, aR => by
  obtain ⟨bH, bT, hd'⟩ := Q1o hd
  have bF : (decide ((i0 : Int) < ((List.length p0) : Int))) = true := by simp; omega
  rw [Q6j]
  exact Qwa p0 (fun r hr => Q1ai p0 H x0 i0 ah bH bT aR bF hr) _ (Q120 p0 H r0 _ _ hd' (by first | omega | (simp; omega)))
def Q47 (p0 : List aj) : Val := vL (p0.map aj.enc)
theorem Q2aj (p0 : List aj) : Q47 p0 = ((Val.mk 4 0 eB (Q6j p0 p0 0 []) [])) := by
  rw [Q18d]
  kernel_rfl
def Q275 (p0 : List aj) : En := .call 165 [.sl (aj.rows p0)] []
def Q1w6 (p0 : List aj) : Rs := .ret (.agg (Val.cells (Q47 p0))) []
def Qft (p0 : List aj) : Prop := LSm aj.sm p0
theorem Q1kw (p0 : List aj) (H : Qft p0) : (Qhs p0) ∧ True := by
  exact ⟨⟨Nat.le_trans H.1 (Nat.le_of_ble_eq_true rfl), (by first | exact H.2 | exact fun x hx => (H.2 x hx).1 | exact fun x hx => (H.2 x hx).2.1 | exact fun x hx => (H.2 x hx).2.2.1 | exact fun x hx => (H.2 x hx).2.2.2.1 | exact fun x hx => (H.2 x hx).2.2.2.2.1), trivial⟩, trivial⟩
theorem Qpk (p0 : List aj) (H : Qft p0) : Q5 G (Q275 p0) (Q1w6 p0) := by
 unfold Q1w6
 rw [Q2aj]
 have hl0 := Q120 p0 ((Q1kw p0 H).1) p0 0 [] (by simp) (by simp)
 obtain ⟨z0, eG, hl0⟩ := hl0
 exact Q6 (fn := Ir.K2s) (by kernel_rfl) VOK.nil [hS 0 true (Val.Q8 (Q6j p0 p0 0 []) 5 rfl), hQ (Val.Q7 (Q6j p0 p0 0 [])).symm] [aV [(1, Val.rows (Q6j p0 p0 0 []))] hl0] (by kernel_rfl)
def Q6e (p0 : List bf) : List bf → Nat → (List Val) → List Val
 | [], _i0, ah =>
  ah
 | x0 :: r0, i0, ah =>
  Q6e p0 r0 (i0 + 1) (ah ++ [(Q37 ([(Fld.mk Q1c (Q2l x0.key)), (Fld.mk Q1s (Q2l x0.value))]))])
theorem Q187 (p0 : List bf) : ∀ (l : List bf) (i : Nat) (a : List Val), Q6e p0 l i a = a ++ l.map (fun x0 => (Q37 ([(Fld.mk Q1c (Q2l x0.key)), (Fld.mk Q1s (Q2l x0.value))])))
  | [], _, _ => by simp [Q6e]
  | x :: r, i, a => by rw [Q6e, Q187 p0 r]; simp
def Q1eh (p0 : List bf) (i0 : Nat) (ah : List Val) : List PV :=
  [.sl (bf.rows p0), .un, .bx 0 0, .ms 1 5 0 (List.length ah), iN (i0 : Int)] ++ nuns 27
def Qyt (_p0 : List bf) (_i0 : Nat) (ah : List Val) : List Ob :=
  [⟨5, 0, true, [iN 0, iN 0, .str eB, .ms 2 5 0 0, .ms 3 6 0 0]⟩, ⟨5, 0, true, (Val.rows ah).flatten⟩, ⟨5, 0, true, []⟩, ⟨6, 0, true, []⟩]
def Qgl (p0 : List bf) (i0 : Nat) (ah : List Val) : En := .loop 0 Ir.Qkj Ir.Q1mw (Q1eh p0 i0 ah) (Qyt p0 i0 ah)
def Qrf (_p0 : List bf) (q0 : List Val) (z : Nat → PV) (_zo : Nat → List PV) : St :=
  ⟨[z 0, z 1, .bx 0 0, .ms 1 5 0 (List.length q0)] ++ zr z 4 28, [(0, ⟨5, 0, true, [iN 0, iN 0, .str eB, .ms 2 5 0 0, .ms 3 6 0 0]⟩), (1, ⟨5, 0, true, (Val.rows q0).flatten⟩), (2, ⟨5, 0, true, []⟩), (3, ⟨6, 0, true, []⟩)], 260⟩
theorem Q158 (p0 : List bf) (i0 : Nat) (ah : List Val) : VOK (Go.Pv.look (number 0 (Qyt p0 i0 ah))) [(1, Val.rows ah)] := (VOK.cons (show Seen _ _ from Q3r (ob := ⟨5, 0, true, (Val.rows ah).flatten⟩) (Val.Q8 ah 5 rfl)) VOK.nil)
def Qi7 (p0 : List bf) (e : En) (q : List Val) : Prop := ∃ z zo, Q5 G e (.st (.exit 0) (Qrf p0 q z zo))
theorem Qw2 (p0 : List bf) {e e' : En} (h : ∀ r, Q5 G e r → Q5 G e' r) : ∀ q, Qi7 p0 e q → Qi7 p0 e' q
  | _, ⟨z, zo, hz⟩ => ⟨z, zo, h _ hz⟩
def Qhl (p0 : List bf) : Prop := (List.length p0 ≤ 137438953472) ∧ True
def Qtd (p0 : List bf) (i0 : Nat) (_ah : List Val) : List PV :=
  [.sl (bf.rows p0), .un, .un, .un, iN (i0 : Int), iN (i0 : Int), .sl (bf.rows p0), iN ((List.length p0) : Int), .bool false]
def Qmb (_p0 : List bf) (_i0 : Nat) (_ah : List Val) : List (Nat × List PV) :=
  []
theorem Q1ct (p0 : List bf) (_H : Qhl p0) (i0 : Nat) (ah : List Val) (_aR : List.length ah ≤ i0) (bF : (decide ((i0 : Int) < ((List.length p0) : Int))) = false) : Qi7 p0 (Qgl p0 i0 ah) ah := by
 exact ⟨(envF (Qtd p0 i0 ah)), (zoF (Qmb p0 i0 ah)), Qg (Q158 p0 i0 ah) (x := ((.exit 0), Qrf p0 ah (envF (Qtd p0 i0 ah)) (zoF (Qmb p0 i0 ah)))) [hP 2 (Qq _ _ (bf.Q7 p0)), hB 0 bF] [] (by kernel_rfl)⟩
theorem Q1a8 (p0 : List bf) (H : Qhl p0) (x0 : bf) (i0 : Nat) (ah : List Val) (bH : p0[i0]? = some x0) (bT : i0 < List.length p0) (aR : List.length ah ≤ i0) (bF : (decide ((i0 : Int) < ((List.length p0) : Int))) = true) {r : Rs} (hr : Q5 G (Qgl p0 (i0 + 1) (ah ++ [(Q37 ([(Fld.mk Q1c (Q2l x0.key)), (Fld.mk Q1s (Q2l x0.value))]))])) r) : Q5 G (Qgl p0 i0 ah) r := by
 have hB0 := H.1
 exact Qc (Q158 p0 i0 ah) [hP 2 (Qq _ _ (bf.Q7 p0)), hB 0 bF, hP 3 (Q1f 2 _ i0 _ (bf.Qb bH) rfl), hP 6 (Q1f 2 _ i0 _ (bf.Qb bH) rfl), hA 7 1 1348 1412 5 80 0 0 true Val.Q7 Val.Q1l ah (Q37 ([(Fld.mk Q1c (Q2l x0.key)), (Fld.mk Q1s (Q2l x0.value))])) (Val.Qt ah) rfl rfl (by omega), hS 0 true (Val.Q8 (ah ++ [(Q37 ([(Fld.mk Q1c (Q2l x0.key)), (Fld.mk Q1s (Q2l x0.value))]))]) 5 rfl), hP 2 (Q26 i0 (by omega))] [aN (Qcr x0.key), aN (Qcr x0.value), aN (Q79 (e' := .call 163 [.sl [(Fld.cells (Fld.mk Q1c (Q2l x0.key))), (Fld.cells (Fld.mk Q1s (Q2l x0.value)))]] []) (Q7l ([(Fld.mk Q1c (Q2l x0.key)), (Fld.mk Q1s (Q2l x0.value))]) (Nat.le_of_ble_eq_true rfl)) (by simp only [Q74, Fld.Q1w, Fld.Q2h]))] hr (by kernel_rfl)
theorem Q11s (p0 : List bf) (H : Qhl p0) : ∀ (r0 : List bf) (i0 : Nat) (ah : List Val), List.drop i0 p0 = r0 → List.length ah ≤ i0 → Qi7 p0 (Qgl p0 i0 ah) (Q6e p0 r0 i0 ah)
 | [], i0, ah, hd, aR => by
  have bF : (decide ((i0 : Int) < ((List.length p0) : Int))) = false := by have := Q1n hd; simp; omega
  rw [Q6e]
  exact Q1ct p0 H i0 ah aR bF
 | x0 :: r0, i0, ah, hd, aR => by
  obtain ⟨bH, bT, hd'⟩ := Q1o hd
  have bF : (decide ((i0 : Int) < ((List.length p0) : Int))) = true := by simp; omega
  rw [Q6e]
  exact Qw2 p0 (fun r hr => Q1a8 p0 H x0 i0 ah bH bT aR bF hr) _ (Q11s p0 H r0 _ _ hd' (by first | omega | (simp; omega)))
def Q1ic (p0 : List bf) : Val := vL (p0.map bf.enc)
theorem Q2a8 (p0 : List bf) : Q1ic p0 = ((Val.mk 4 0 eB (Q6e p0 p0 0 []) [])) := by
  rw [Q187]
  kernel_rfl
def Q26u (p0 : List bf) : En := .call 213 [.sl (bf.rows p0)] []
def Q1vu (p0 : List bf) : Rs := .ret (.agg (Val.cells (Q1ic p0))) []
def Q1om (p0 : List bf) : Prop := LSm bf.sm p0
theorem Q1kr (p0 : List bf) (H : Q1om p0) : (Qhl p0) ∧ True := by
  exact ⟨⟨Nat.le_trans H.1 (Nat.le_of_ble_eq_true rfl), trivial⟩, trivial⟩
theorem Q2f1 (p0 : List bf) (H : Q1om p0) : Q5 G (Q26u p0) (Q1vu p0) := by
 unfold Q1vu
 rw [Q2a8]
 have hl0 := Q11s p0 ((Q1kr p0 H).1) p0 0 [] (by simp) (by simp)
 obtain ⟨z0, eG, hl0⟩ := hl0
 exact Q6 (fn := Ir.K2g) (by kernel_rfl) VOK.nil [hS 0 true (Val.Q8 (Q6e p0 p0 0 []) 5 rfl), hQ (Val.Q7 (Q6e p0 p0 0 [])).symm] [aV [(1, Val.rows (Q6e p0 p0 0 []))] hl0] (by kernel_rfl)
def Q8h (p0 : aW) : Val := aW.enc p0
theorem Q2ai (p0 : aW) : Q8h p0 = ((Q37 ([(Fld.mk Q3k (Q1m p0.iP)), (Fld.mk Q2p (Q1m p0.eX)), (Fld.mk Q42 (Q1m p0.gN))]))) := by
  kernel_rfl
def Q274 (p0 : aW) : En := .call 211 [.agg (aW.cells p0)] []
def Q1w5 (p0 : aW) : Rs := .ret (.agg (Val.cells (Q8h p0))) []
theorem Q1ma (p0 : aW) : Q5 G (Q274 p0) (Q1w5 p0) := by
 unfold Q1w5
 rw [Q2ai]
 exact Q6 (fn := Ir.K2r) (by kernel_rfl) VOK.nil [] [aN (Q50 p0.iP), aN (Q50 p0.eX), aN (Q50 p0.gN), aN (Q79 (e' := .call 163 [.sl [(Fld.cells (Fld.mk Q3k (Q1m p0.iP))), (Fld.cells (Fld.mk Q2p (Q1m p0.eX))), (Fld.cells (Fld.mk Q42 (Q1m p0.gN)))]] []) (Q7l ([(Fld.mk Q3k (Q1m p0.iP)), (Fld.mk Q2p (Q1m p0.eX)), (Fld.mk Q42 (Q1m p0.gN))]) (Nat.le_of_ble_eq_true rfl)) (by simp only [Q74, Fld.Q1w, Fld.Q2h]))] (by kernel_rfl)
def Q6i (p0 : List bA) : List bA → Nat → (List Val) → List Val
 | [], _i0, ah =>
  ah
 | x0 :: r0, i0, ah =>
  Q6i p0 r0 (i0 + 1) (ah ++ [(Q37 ([(Fld.mk Q35 (Q1m x0.fU)), (Fld.mk Q38 (Q1m x0.fC)), (Fld.mk Q39 (Q1m x0.fA)), (Fld.mk Q30 (Q1m x0.eZ))]))])
theorem Q18c (p0 : List bA) : ∀ (l : List bA) (i : Nat) (a : List Val), Q6i p0 l i a = a ++ l.map (fun x0 => (Q37 ([(Fld.mk Q35 (Q1m x0.fU)), (Fld.mk Q38 (Q1m x0.fC)), (Fld.mk Q39 (Q1m x0.fA)), (Fld.mk Q30 (Q1m x0.eZ))])))
  | [], _, _ => by simp [Q6i]
  | x :: r, i, a => by rw [Q6i, Q18c p0 r]; simp
def Q1ep (p0 : List bA) (i0 : Nat) (ah : List Val) : List PV :=
  [.sl (bA.rows p0), .un, .bx 0 0, .ms 1 5 0 (List.length ah), iN (i0 : Int)] ++ nuns 41
def Qz1 (_p0 : List bA) (_i0 : Nat) (ah : List Val) : List Ob :=
  [⟨5, 0, true, [iN 0, iN 0, .str eB, .ms 2 5 0 0, .ms 3 6 0 0]⟩, ⟨5, 0, true, (Val.rows ah).flatten⟩, ⟨5, 0, true, []⟩, ⟨6, 0, true, []⟩]
def Qgq (p0 : List bA) (i0 : Nat) (ah : List Val) : En := .loop 0 Ir.Qkr Ir.Q1n4 (Q1ep p0 i0 ah) (Qz1 p0 i0 ah)
def Qrl (_p0 : List bA) (q0 : List Val) (z : Nat → PV) (_zo : Nat → List PV) : St :=
  ⟨[z 0, z 1, .bx 0 0, .ms 1 5 0 (List.length q0)] ++ zr z 4 42, [(0, ⟨5, 0, true, [iN 0, iN 0, .str eB, .ms 2 5 0 0, .ms 3 6 0 0]⟩), (1, ⟨5, 0, true, (Val.rows q0).flatten⟩), (2, ⟨5, 0, true, []⟩), (3, ⟨6, 0, true, []⟩)], 260⟩
theorem Q15e (p0 : List bA) (i0 : Nat) (ah : List Val) : VOK (Go.Pv.look (number 0 (Qz1 p0 i0 ah))) [(1, Val.rows ah)] := (VOK.cons (show Seen _ _ from Q3r (ob := ⟨5, 0, true, (Val.rows ah).flatten⟩) (Val.Q8 ah 5 rfl)) VOK.nil)
def Qie (p0 : List bA) (e : En) (q : List Val) : Prop := ∃ z zo, Q5 G e (.st (.exit 0) (Qrl p0 q z zo))
theorem Qw9 (p0 : List bA) {e e' : En} (h : ∀ r, Q5 G e r → Q5 G e' r) : ∀ q, Qie p0 e q → Qie p0 e' q
  | _, ⟨z, zo, hz⟩ => ⟨z, zo, h _ hz⟩
def Qhr (p0 : List bA) : Prop := (List.length p0 ≤ 137438953472) ∧ True
def Qtm (p0 : List bA) (i0 : Nat) (_ah : List Val) : List PV :=
  [.sl (bA.rows p0), .un, .un, .un, iN (i0 : Int), iN (i0 : Int), .sl (bA.rows p0), iN ((List.length p0) : Int), .bool false]
def Qmk (_p0 : List bA) (_i0 : Nat) (_ah : List Val) : List (Nat × List PV) :=
  []
theorem Q1d2 (p0 : List bA) (_H : Qhr p0) (i0 : Nat) (ah : List Val) (_aR : List.length ah ≤ i0) (bF : (decide ((i0 : Int) < ((List.length p0) : Int))) = false) : Qie p0 (Qgq p0 i0 ah) ah := by
 exact ⟨(envF (Qtm p0 i0 ah)), (zoF (Qmk p0 i0 ah)), Qg (Q15e p0 i0 ah) (x := ((.exit 0), Qrl p0 ah (envF (Qtm p0 i0 ah)) (zoF (Qmk p0 i0 ah)))) [hP 2 (Qq _ _ (bA.Q7 p0)), hB 0 bF] [] (by kernel_rfl)⟩
theorem Q1ah (p0 : List bA) (H : Qhr p0) (x0 : bA) (i0 : Nat) (ah : List Val) (bH : p0[i0]? = some x0) (bT : i0 < List.length p0) (aR : List.length ah ≤ i0) (bF : (decide ((i0 : Int) < ((List.length p0) : Int))) = true) {r : Rs} (hr : Q5 G (Qgq p0 (i0 + 1) (ah ++ [(Q37 ([(Fld.mk Q35 (Q1m x0.fU)), (Fld.mk Q38 (Q1m x0.fC)), (Fld.mk Q39 (Q1m x0.fA)), (Fld.mk Q30 (Q1m x0.eZ))]))])) r) : Q5 G (Qgq p0 i0 ah) r := by
 have hB0 := H.1
 exact Qc (Q15e p0 i0 ah) [hP 2 (Qq _ _ (bA.Q7 p0)), hB 0 bF, hP 3 (Q1f 4 _ i0 _ (bA.Qb bH) rfl), hP 6 (Q1f 4 _ i0 _ (bA.Qb bH) rfl), hP 6 (Q1f 4 _ i0 _ (bA.Qb bH) rfl), hP 6 (Q1f 4 _ i0 _ (bA.Qb bH) rfl), hA 7 1 2244 2308 5 80 0 0 true Val.Q7 Val.Q1l ah (Q37 ([(Fld.mk Q35 (Q1m x0.fU)), (Fld.mk Q38 (Q1m x0.fC)), (Fld.mk Q39 (Q1m x0.fA)), (Fld.mk Q30 (Q1m x0.eZ))])) (Val.Qt ah) rfl rfl (by omega), hS 0 true (Val.Q8 (ah ++ [(Q37 ([(Fld.mk Q35 (Q1m x0.fU)), (Fld.mk Q38 (Q1m x0.fC)), (Fld.mk Q39 (Q1m x0.fA)), (Fld.mk Q30 (Q1m x0.eZ))]))]) 5 rfl), hP 2 (Q26 i0 (by omega))] [aN (Q50 x0.fU), aN (Q50 x0.fC), aN (Q50 x0.fA), aN (Q50 x0.eZ), aN (Q79 (e' := .call 163 [.sl [(Fld.cells (Fld.mk Q35 (Q1m x0.fU))), (Fld.cells (Fld.mk Q38 (Q1m x0.fC))), (Fld.cells (Fld.mk Q39 (Q1m x0.fA))), (Fld.cells (Fld.mk Q30 (Q1m x0.eZ)))]] []) (Q7l ([(Fld.mk Q35 (Q1m x0.fU)), (Fld.mk Q38 (Q1m x0.fC)), (Fld.mk Q39 (Q1m x0.fA)), (Fld.mk Q30 (Q1m x0.eZ))]) (Nat.le_of_ble_eq_true rfl)) (by simp only [Q74, Fld.Q1w, Fld.Q2h]))] hr (by kernel_rfl)
theorem Q11z (p0 : List bA) (H : Qhr p0) : ∀ (r0 : List bA) (i0 : Nat) (ah : List Val), List.drop i0 p0 = r0 → List.length ah ≤ i0 → Qie p0 (Qgq p0 i0 ah) (Q6i p0 r0 i0 ah)
 | [], i0, ah, hd, aR => by
  have bF : (decide ((i0 : Int) < ((List.length p0) : Int))) = false := by have := Q1n hd; simp; omega
  rw [Q6i]
  exact Q1d2 p0 H i0 ah aR bF
 | x0 :: r0, i0, ah, hd, aR => by
  obtain ⟨bH, bT, hd'⟩ := Q1o hd
  have bF : (decide ((i0 : Int) < ((List.length p0) : Int))) = true := by simp; omega
  rw [Q6i]
  exact Qw9 p0 (fun r hr => Q1ah p0 H x0 i0 ah bH bT aR bF hr) _ (Q11z p0 H r0 _ _ hd' (by first | omega | (simp; omega)))
def Q8e (p0 : List bA) : Val := vL (p0.map bA.enc)
theorem Q2ae (p0 : List bA) : Q8e p0 = ((Val.mk 4 0 eB (Q6i p0 p0 0 []) [])) := by
  rw [Q18c]
  kernel_rfl
def Q270 (p0 : List bA) : En := .call 274 [.sl (bA.rows p0)] []
def Q1w1 (p0 : List bA) : Rs := .ret (.agg (Val.cells (Q8e p0))) []
def Q1fy (p0 : List bA) : Prop := LSm bA.sm p0
theorem Q1kv (p0 : List bA) (H : Q1fy p0) : (Qhr p0) ∧ True := by
  exact ⟨⟨Nat.le_trans H.1 (Nat.le_of_ble_eq_true rfl), trivial⟩, trivial⟩
theorem Q1qd (p0 : List bA) (H : Q1fy p0) : Q5 G (Q270 p0) (Q1w1 p0) := by
 unfold Q1w1
 rw [Q2ae]
 have hl0 := Q11z p0 ((Q1kv p0 H).1) p0 0 [] (by simp) (by simp)
 obtain ⟨z0, eG, hl0⟩ := hl0
 exact Q6 (fn := Ir.K2n) (by kernel_rfl) VOK.nil [hS 0 true (Val.Q8 (Q6i p0 p0 0 []) 5 rfl), hQ (Val.Q7 (Q6i p0 p0 0 [])).symm] [aV [(1, Val.rows (Q6i p0 p0 0 []))] hl0] (by kernel_rfl)
def Q6c (p0 : List aK) : List aK → Nat → (List Val) → List Val
 | [], _i0, ah =>
  ah
 | x0 :: r0, i0, ah =>
  Q6c p0 r0 (i0 + 1) (ah ++ [(Q37 ([(Fld.mk Qi (Q2l x0.name)), (Fld.mk Qr (Q2l x0.fV)), (Fld.mk Qe (Q8h x0.eu)), (Fld.mk Q18 (Q8h x0.fI)), (Fld.mk Q2a (Q8e x0.live)), (Fld.mk Qh (Q8e x0.ready)), (Fld.mk Q1j (Q8e x0.eO))]))])
theorem Q184 (p0 : List aK) : ∀ (l : List aK) (i : Nat) (a : List Val), Q6c p0 l i a = a ++ l.map (fun x0 => (Q37 ([(Fld.mk Qi (Q2l x0.name)), (Fld.mk Qr (Q2l x0.fV)), (Fld.mk Qe (Q8h x0.eu)), (Fld.mk Q18 (Q8h x0.fI)), (Fld.mk Q2a (Q8e x0.live)), (Fld.mk Qh (Q8e x0.ready)), (Fld.mk Q1j (Q8e x0.eO))])))
  | [], _, _ => by simp [Q6c]
  | x :: r, i, a => by rw [Q6c, Q184 p0 r]; simp
def Q1ee (p0 : List aK) (i0 : Nat) (ah : List Val) : List PV :=
  [.sl (aK.rows p0), .un, .bx 0 0, .ms 1 5 0 (List.length ah), iN (i0 : Int)] ++ nuns 46
def Qyq (_p0 : List aK) (_i0 : Nat) (ah : List Val) : List Ob :=
  [⟨5, 0, true, [iN 0, iN 0, .str eB, .ms 2 5 0 0, .ms 3 6 0 0]⟩, ⟨5, 0, true, (Val.rows ah).flatten⟩, ⟨5, 0, true, []⟩, ⟨6, 0, true, []⟩]
def Qgi (p0 : List aK) (i0 : Nat) (ah : List Val) : En := .loop 0 Ir.Qkg Ir.Q1mt (Q1ee p0 i0 ah) (Qyq p0 i0 ah)
def Qrc (_p0 : List aK) (q0 : List Val) (z : Nat → PV) (_zo : Nat → List PV) : St :=
  ⟨[z 0, z 1, .bx 0 0, .ms 1 5 0 (List.length q0)] ++ zr z 4 47, [(0, ⟨5, 0, true, [iN 0, iN 0, .str eB, .ms 2 5 0 0, .ms 3 6 0 0]⟩), (1, ⟨5, 0, true, (Val.rows q0).flatten⟩), (2, ⟨5, 0, true, []⟩), (3, ⟨6, 0, true, []⟩)], 260⟩
theorem Q155 (p0 : List aK) (i0 : Nat) (ah : List Val) : VOK (Go.Pv.look (number 0 (Qyq p0 i0 ah))) [(1, Val.rows ah)] := (VOK.cons (show Seen _ _ from Q3r (ob := ⟨5, 0, true, (Val.rows ah).flatten⟩) (Val.Q8 ah 5 rfl)) VOK.nil)
def Qi4 (p0 : List aK) (e : En) (q : List Val) : Prop := ∃ z zo, Q5 G e (.st (.exit 0) (Qrc p0 q z zo))
theorem Qvz (p0 : List aK) {e e' : En} (h : ∀ r, Q5 G e r → Q5 G e' r) : ∀ q, Qi4 p0 e q → Qi4 p0 e' q
  | _, ⟨z, zo, hz⟩ => ⟨z, zo, h _ hz⟩
def Qhi (p0 : List aK) : Prop := (List.length p0 ≤ 137438953472) ∧ (∀ x0 ∈ p0, Q1fy x0.live) ∧ (∀ x0 ∈ p0, Q1fy x0.ready) ∧ (∀ x0 ∈ p0, Q1fy x0.eO) ∧ True
def Qta (p0 : List aK) (i0 : Nat) (_ah : List Val) : List PV :=
  [.sl (aK.rows p0), .un, .un, .un, iN (i0 : Int), .un, iN (i0 : Int), .sl (aK.rows p0), iN ((List.length p0) : Int), .bool false]
def Qm8 (_p0 : List aK) (_i0 : Nat) (_ah : List Val) : List (Nat × List PV) :=
  []
theorem Q1cq (p0 : List aK) (_H : Qhi p0) (i0 : Nat) (ah : List Val) (_aR : List.length ah ≤ i0) (bF : (decide ((i0 : Int) < ((List.length p0) : Int))) = false) : Qi4 p0 (Qgi p0 i0 ah) ah := by
 exact ⟨(envF (Qta p0 i0 ah)), (zoF (Qm8 p0 i0 ah)), Qg (Q155 p0 i0 ah) (x := ((.exit 0), Qrc p0 ah (envF (Qta p0 i0 ah)) (zoF (Qm8 p0 i0 ah)))) [hP 2 (Qq _ _ (aK.Q7 p0)), hB 0 bF] [] (by kernel_rfl)⟩
theorem Q1a5 (p0 : List aK) (H : Qhi p0) (x0 : aK) (i0 : Nat) (ah : List Val) (bH : p0[i0]? = some x0) (bT : i0 < List.length p0) (aR : List.length ah ≤ i0) (bF : (decide ((i0 : Int) < ((List.length p0) : Int))) = true) {r : Rs} (hr : Q5 G (Qgi p0 (i0 + 1) (ah ++ [(Q37 ([(Fld.mk Qi (Q2l x0.name)), (Fld.mk Qr (Q2l x0.fV)), (Fld.mk Qe (Q8h x0.eu)), (Fld.mk Q18 (Q8h x0.fI)), (Fld.mk Q2a (Q8e x0.live)), (Fld.mk Qh (Q8e x0.ready)), (Fld.mk Q1j (Q8e x0.eO))]))])) r) : Q5 G (Qgi p0 i0 ah) r := by
 have hB0 := H.1
 exact Qc (Q155 p0 i0 ah) [hP 2 (Qq _ _ (aK.Q7 p0)), hB 0 bF, hP 2 (Q1f 11 _ i0 _ (aK.Qb bH) rfl), hA 35 1 2628 2692 5 80 0 0 true Val.Q7 Val.Q1l ah (Q37 ([(Fld.mk Qi (Q2l x0.name)), (Fld.mk Qr (Q2l x0.fV)), (Fld.mk Qe (Q8h x0.eu)), (Fld.mk Q18 (Q8h x0.fI)), (Fld.mk Q2a (Q8e x0.live)), (Fld.mk Qh (Q8e x0.ready)), (Fld.mk Q1j (Q8e x0.eO))])) (Val.Qt ah) rfl rfl (by omega), hS 0 true (Val.Q8 (ah ++ [(Q37 ([(Fld.mk Qi (Q2l x0.name)), (Fld.mk Qr (Q2l x0.fV)), (Fld.mk Qe (Q8h x0.eu)), (Fld.mk Q18 (Q8h x0.fI)), (Fld.mk Q2a (Q8e x0.live)), (Fld.mk Qh (Q8e x0.ready)), (Fld.mk Q1j (Q8e x0.eO))]))]) 5 rfl), hP 2 (Q26 i0 (by omega))] [aN (Qcr x0.name), aN (Qcr x0.fV), aN (Q1ma x0.eu), aN (Q1ma x0.fI), aN (Q1qd x0.live (H.2.1 x0 (Q15 bH))), aN (Q1qd x0.ready (H.2.2.1 x0 (Q15 bH))), aN (Q1qd x0.eO (H.2.2.2.1 x0 (Q15 bH))), aN (Q79 (e' := .call 163 [.sl [(Fld.cells (Fld.mk Qi (Q2l x0.name))), (Fld.cells (Fld.mk Qr (Q2l x0.fV))), (Fld.cells (Fld.mk Qe (Q8h x0.eu))), (Fld.cells (Fld.mk Q18 (Q8h x0.fI))), (Fld.cells (Fld.mk Q2a (Q8e x0.live))), (Fld.cells (Fld.mk Qh (Q8e x0.ready))), (Fld.cells (Fld.mk Q1j (Q8e x0.eO)))]] []) (Q7l ([(Fld.mk Qi (Q2l x0.name)), (Fld.mk Qr (Q2l x0.fV)), (Fld.mk Qe (Q8h x0.eu)), (Fld.mk Q18 (Q8h x0.fI)), (Fld.mk Q2a (Q8e x0.live)), (Fld.mk Qh (Q8e x0.ready)), (Fld.mk Q1j (Q8e x0.eO))]) (Nat.le_of_ble_eq_true rfl)) (by simp only [Q74, Fld.Q1w, Fld.Q2h]))] hr (by kernel_rfl)
theorem Q11p (p0 : List aK) (H : Qhi p0) : ∀ (r0 : List aK) (i0 : Nat) (ah : List Val), List.drop i0 p0 = r0 → List.length ah ≤ i0 → Qi4 p0 (Qgi p0 i0 ah) (Q6c p0 r0 i0 ah)
 | [], i0, ah, hd, aR => by
  have bF : (decide ((i0 : Int) < ((List.length p0) : Int))) = false := by have := Q1n hd; simp; omega
  rw [Q6c]
  exact Q1cq p0 H i0 ah aR bF
 | x0 :: r0, i0, ah, hd, aR => by
  obtain ⟨bH, bT, hd'⟩ := Q1o hd
  have bF : (decide ((i0 : Int) < ((List.length p0) : Int))) = true := by simp; omega
  rw [Q6c]
  exact Qvz p0 (fun r hr => Q1a5 p0 H x0 i0 ah bH bT aR bF hr) _ (Q11p p0 H r0 _ _ hd' (by first | omega | (simp; omega)))
def Q1ib (p0 : List aK) : Val := vL (p0.map aK.enc)
theorem Q2a4 (p0 : List aK) : Q1ib p0 = ((Val.mk 4 0 eB (Q6c p0 p0 0 []) [])) := by
  rw [Q184]
  kernel_rfl
def Q26p (p0 : List aK) : En := .call 233 [.sl (aK.rows p0)] []
def Q1vp (p0 : List aK) : Rs := .ret (.agg (Val.cells (Q1ib p0))) []
def Q1oi (p0 : List aK) : Prop := LSm aK.sm p0
theorem Q1kp (p0 : List aK) (H : Q1oi p0) : (Qhi p0) ∧ True := by
  exact ⟨⟨Nat.le_trans H.1 (Nat.le_of_ble_eq_true rfl), (by first | exact H.2 | exact fun x hx => (H.2 x hx).1 | exact fun x hx => (H.2 x hx).2.1 | exact fun x hx => (H.2 x hx).2.2.1 | exact fun x hx => (H.2 x hx).2.2.2.1 | exact fun x hx => (H.2 x hx).2.2.2.2.1), (by first | exact H.2 | exact fun x hx => (H.2 x hx).1 | exact fun x hx => (H.2 x hx).2.1 | exact fun x hx => (H.2 x hx).2.2.1 | exact fun x hx => (H.2 x hx).2.2.2.1 | exact fun x hx => (H.2 x hx).2.2.2.2.1), (by first | exact H.2 | exact fun x hx => (H.2 x hx).1 | exact fun x hx => (H.2 x hx).2.1 | exact fun x hx => (H.2 x hx).2.2.1 | exact fun x hx => (H.2 x hx).2.2.2.1 | exact fun x hx => (H.2 x hx).2.2.2.2.1), trivial⟩, trivial⟩
theorem Q2ex (p0 : List aK) (H : Q1oi p0) : Q5 G (Q26p p0) (Q1vp p0) := by
 unfold Q1vp
 rw [Q2a4]
 have hl0 := Q11p p0 ((Q1kp p0 H).1) p0 0 [] (by simp) (by simp)
 obtain ⟨z0, eG, hl0⟩ := hl0
 exact Q6 (fn := Ir.K27) (by kernel_rfl) VOK.nil [hS 0 true (Val.Q8 (Q6c p0 p0 0 []) 5 rfl), hQ (Val.Q7 (Q6c p0 p0 0 [])).symm] [aV [(1, Val.rows (Q6c p0 p0 0 []))] hl0] (by kernel_rfl)
def Q36 (p0 : Bool) : Val := vB p0
theorem Q2a3 (p0 : Bool) : Q36 p0 = (bif p0 then
    (Val.mk 1 1 eB [] [])
  else
    (Val.mk 1 0 eB [] [])) := by
  cases p0 <;> rfl
def Q26o (p0 : Bool) : En := .call 167 [.bool p0] []
def Q1vo (p0 : Bool) : Rs := .ret (.agg (Val.cells (Q36 p0))) []
theorem Qeu (p0 : Bool) : Q5 G (Q26o p0) (Q1vo p0) := by
 unfold Q1vo
 rw [Q2a3]
 cases h0 : p0 with
 | true =>
  exact Q6 (fn := Ir.K24) (by kernel_rfl) VOK.nil [] [] (by kernel_rfl)
 | false =>
  exact Q6 (fn := Ir.K24) (by kernel_rfl) VOK.nil [] [] (by kernel_rfl)
def Q6f (p0 : List aP) : List aP → Nat → (List Val) → List Val
 | [], _i0, ah =>
  ah
 | x0 :: r0, i0, ah =>
  Q6f p0 r0 (i0 + 1) (ah ++ [(Q37 ([(Fld.mk Qa (Q36 x0.bX)), (Fld.mk Q0 (Q47 x0.bq)), (Fld.mk Q1d (Q1m x0.dM))]))])
theorem Q189 (p0 : List aP) : ∀ (l : List aP) (i : Nat) (a : List Val), Q6f p0 l i a = a ++ l.map (fun x0 => (Q37 ([(Fld.mk Qa (Q36 x0.bX)), (Fld.mk Q0 (Q47 x0.bq)), (Fld.mk Q1d (Q1m x0.dM))])))
  | [], _, _ => by simp [Q6f]
  | x :: r, i, a => by rw [Q6f, Q189 p0 r]; simp
def Q1em (p0 : List aP) (i0 : Nat) (ah : List Val) : List PV :=
  [.sl (aP.rows p0), .un, .bx 0 0, .ms 1 5 0 (List.length ah), iN (i0 : Int)] ++ nuns 34
def Qyy (_p0 : List aP) (_i0 : Nat) (ah : List Val) : List Ob :=
  [⟨5, 0, true, [iN 0, iN 0, .str eB, .ms 2 5 0 0, .ms 3 6 0 0]⟩, ⟨5, 0, true, (Val.rows ah).flatten⟩, ⟨5, 0, true, []⟩, ⟨6, 0, true, []⟩]
def Qgn (p0 : List aP) (i0 : Nat) (ah : List Val) : En := .loop 0 Ir.Qko Ir.Q1n1 (Q1em p0 i0 ah) (Qyy p0 i0 ah)
def Qri (_p0 : List aP) (q0 : List Val) (z : Nat → PV) (_zo : Nat → List PV) : St :=
  ⟨[z 0, z 1, .bx 0 0, .ms 1 5 0 (List.length q0)] ++ zr z 4 35, [(0, ⟨5, 0, true, [iN 0, iN 0, .str eB, .ms 2 5 0 0, .ms 3 6 0 0]⟩), (1, ⟨5, 0, true, (Val.rows q0).flatten⟩), (2, ⟨5, 0, true, []⟩), (3, ⟨6, 0, true, []⟩)], 260⟩
theorem Q15b (p0 : List aP) (i0 : Nat) (ah : List Val) : VOK (Go.Pv.look (number 0 (Qyy p0 i0 ah))) [(1, Val.rows ah)] := (VOK.cons (show Seen _ _ from Q3r (ob := ⟨5, 0, true, (Val.rows ah).flatten⟩) (Val.Q8 ah 5 rfl)) VOK.nil)
def Qib (p0 : List aP) (e : En) (q : List Val) : Prop := ∃ z zo, Q5 G e (.st (.exit 0) (Qri p0 q z zo))
theorem Qw6 (p0 : List aP) {e e' : En} (h : ∀ r, Q5 G e r → Q5 G e' r) : ∀ q, Qib p0 e q → Qib p0 e' q
  | _, ⟨z, zo, hz⟩ => ⟨z, zo, h _ hz⟩
def Qho (p0 : List aP) : Prop := (List.length p0 ≤ 137438953472) ∧ (∀ x0 ∈ p0, Qft x0.bq) ∧ True
def Qtj (p0 : List aP) (i0 : Nat) (_ah : List Val) : List PV :=
  [.sl (aP.rows p0), .un, .un, .un, iN (i0 : Int), iN (i0 : Int), .sl (aP.rows p0), iN ((List.length p0) : Int), .bool false]
def Qmh (_p0 : List aP) (_i0 : Nat) (_ah : List Val) : List (Nat × List PV) :=
  []
theorem Q1cz (p0 : List aP) (_H : Qho p0) (i0 : Nat) (ah : List Val) (_aR : List.length ah ≤ i0) (bF : (decide ((i0 : Int) < ((List.length p0) : Int))) = false) : Qib p0 (Qgn p0 i0 ah) ah := by
 exact ⟨(envF (Qtj p0 i0 ah)), (zoF (Qmh p0 i0 ah)), Qg (Q15b p0 i0 ah) (x := ((.exit 0), Qri p0 ah (envF (Qtj p0 i0 ah)) (zoF (Qmh p0 i0 ah)))) [hP 2 (Qq _ _ (aP.Q7 p0)), hB 0 bF] [] (by kernel_rfl)⟩
theorem Q1ae (p0 : List aP) (H : Qho p0) (x0 : aP) (i0 : Nat) (ah : List Val) (bH : p0[i0]? = some x0) (bT : i0 < List.length p0) (aR : List.length ah ≤ i0) (bF : (decide ((i0 : Int) < ((List.length p0) : Int))) = true) {r : Rs} (hr : Q5 G (Qgn p0 (i0 + 1) (ah ++ [(Q37 ([(Fld.mk Qa (Q36 x0.bX)), (Fld.mk Q0 (Q47 x0.bq)), (Fld.mk Q1d (Q1m x0.dM))]))])) r) : Q5 G (Qgn p0 i0 ah) r := by
 have hB0 := H.1
 exact Qc (Q15b p0 i0 ah) [hP 2 (Qq _ _ (aP.Q7 p0)), hB 0 bF, hP 3 (Q1f 3 _ i0 _ (aP.Qb bH) rfl), hP 6 (Q1f 3 _ i0 _ (aP.Qb bH) rfl), hP 6 (Q1f 3 _ i0 _ (aP.Qb bH) rfl), hA 7 1 1796 1860 5 80 0 0 true Val.Q7 Val.Q1l ah (Q37 ([(Fld.mk Qa (Q36 x0.bX)), (Fld.mk Q0 (Q47 x0.bq)), (Fld.mk Q1d (Q1m x0.dM))])) (Val.Qt ah) rfl rfl (by omega), hS 0 true (Val.Q8 (ah ++ [(Q37 ([(Fld.mk Qa (Q36 x0.bX)), (Fld.mk Q0 (Q47 x0.bq)), (Fld.mk Q1d (Q1m x0.dM))]))]) 5 rfl), hP 2 (Q26 i0 (by omega))] [aN (Qeu x0.bX), aN (Qpk x0.bq (H.2.1 x0 (Q15 bH))), aN (Q50 x0.dM), aN (Q79 (e' := .call 163 [.sl [(Fld.cells (Fld.mk Qa (Q36 x0.bX))), (Fld.cells (Fld.mk Q0 (Q47 x0.bq))), (Fld.cells (Fld.mk Q1d (Q1m x0.dM)))]] []) (Q7l ([(Fld.mk Qa (Q36 x0.bX)), (Fld.mk Q0 (Q47 x0.bq)), (Fld.mk Q1d (Q1m x0.dM))]) (Nat.le_of_ble_eq_true rfl)) (by simp only [Q74, Fld.Q1w, Fld.Q2h]))] hr (by kernel_rfl)
theorem Q11w (p0 : List aP) (H : Qho p0) : ∀ (r0 : List aP) (i0 : Nat) (ah : List Val), List.drop i0 p0 = r0 → List.length ah ≤ i0 → Qib p0 (Qgn p0 i0 ah) (Q6f p0 r0 i0 ah)
 | [], i0, ah, hd, aR => by
  have bF : (decide ((i0 : Int) < ((List.length p0) : Int))) = false := by have := Q1n hd; simp; omega
  rw [Q6f]
  exact Q1cz p0 H i0 ah aR bF
 | x0 :: r0, i0, ah, hd, aR => by
  obtain ⟨bH, bT, hd'⟩ := Q1o hd
  have bF : (decide ((i0 : Int) < ((List.length p0) : Int))) = true := by simp; omega
  rw [Q6f]
  exact Qw6 p0 (fun r hr => Q1ae p0 H x0 i0 ah bH bT aR bF hr) _ (Q11w p0 H r0 _ _ hd' (by first | omega | (simp; omega)))
def Q1id (p0 : List aP) : Val := vL (p0.map aP.enc)
theorem Q2aa (p0 : List aP) : Q1id p0 = ((Val.mk 4 0 eB (Q6f p0 p0 0 []) [])) := by
  rw [Q189]
  kernel_rfl
def Q26w (p0 : List aP) : En := .call 234 [.sl (aP.rows p0)] []
def Q1vx (p0 : List aP) : Rs := .ret (.agg (Val.cells (Q1id p0))) []
def Q1oo (p0 : List aP) : Prop := LSm aP.sm p0
theorem Q1ks (p0 : List aP) (H : Q1oo p0) : (Qho p0) ∧ True := by
  exact ⟨⟨Nat.le_trans H.1 (Nat.le_of_ble_eq_true rfl), (by first | exact H.2 | exact fun x hx => (H.2 x hx).1 | exact fun x hx => (H.2 x hx).2.1 | exact fun x hx => (H.2 x hx).2.2.1 | exact fun x hx => (H.2 x hx).2.2.2.1 | exact fun x hx => (H.2 x hx).2.2.2.2.1), trivial⟩, trivial⟩
theorem Q2f3 (p0 : List aP) (H : Q1oo p0) : Q5 G (Q26w p0) (Q1vx p0) := by
 unfold Q1vx
 rw [Q2aa]
 have hl0 := Q11w p0 ((Q1ks p0 H).1) p0 0 [] (by simp) (by simp)
 obtain ⟨z0, eG, hl0⟩ := hl0
 exact Q6 (fn := Ir.K2j) (by kernel_rfl) VOK.nil [hS 0 true (Val.Q8 (Q6f p0 p0 0 []) 5 rfl), hQ (Val.Q7 (Q6f p0 p0 0 [])).symm] [aV [(1, Val.rows (Q6f p0 p0 0 []))] hl0] (by kernel_rfl)
def Q6g (p0 : List aS) : List aS → Nat → (List Val) → List Val
 | [], _i0, ah =>
  ah
 | x0 :: r0, i0, ah =>
  Q6g p0 r0 (i0 + 1) (ah ++ [(Q37 ([(Fld.mk Qa (Q36 x0.bX)), (Fld.mk Q2t (Q36 x0.gL)), (Fld.mk Q0 (Q47 x0.bq)), (Fld.mk Qm (Q2l x0.dn)), (Fld.mk Q1d (Q1m x0.dM))]))])
theorem Q18a (p0 : List aS) : ∀ (l : List aS) (i : Nat) (a : List Val), Q6g p0 l i a = a ++ l.map (fun x0 => (Q37 ([(Fld.mk Qa (Q36 x0.bX)), (Fld.mk Q2t (Q36 x0.gL)), (Fld.mk Q0 (Q47 x0.bq)), (Fld.mk Qm (Q2l x0.dn)), (Fld.mk Q1d (Q1m x0.dM))])))
  | [], _, _ => by simp [Q6g]
  | x :: r, i, a => by rw [Q6g, Q18a p0 r]; simp
def Q1en (p0 : List aS) (i0 : Nat) (ah : List Val) : List PV :=
  [.sl (aS.rows p0), .un, .bx 0 0, .ms 1 5 0 (List.length ah), iN (i0 : Int)] ++ nuns 38
def Qyz (_p0 : List aS) (_i0 : Nat) (ah : List Val) : List Ob :=
  [⟨5, 0, true, [iN 0, iN 0, .str eB, .ms 2 5 0 0, .ms 3 6 0 0]⟩, ⟨5, 0, true, (Val.rows ah).flatten⟩, ⟨5, 0, true, []⟩, ⟨6, 0, true, []⟩]
def Qgo (p0 : List aS) (i0 : Nat) (ah : List Val) : En := .loop 0 Ir.Qkp Ir.Q1n2 (Q1en p0 i0 ah) (Qyz p0 i0 ah)
def Qrj (_p0 : List aS) (q0 : List Val) (z : Nat → PV) (_zo : Nat → List PV) : St :=
  ⟨[z 0, z 1, .bx 0 0, .ms 1 5 0 (List.length q0)] ++ zr z 4 39, [(0, ⟨5, 0, true, [iN 0, iN 0, .str eB, .ms 2 5 0 0, .ms 3 6 0 0]⟩), (1, ⟨5, 0, true, (Val.rows q0).flatten⟩), (2, ⟨5, 0, true, []⟩), (3, ⟨6, 0, true, []⟩)], 260⟩
theorem Q15c (p0 : List aS) (i0 : Nat) (ah : List Val) : VOK (Go.Pv.look (number 0 (Qyz p0 i0 ah))) [(1, Val.rows ah)] := (VOK.cons (show Seen _ _ from Q3r (ob := ⟨5, 0, true, (Val.rows ah).flatten⟩) (Val.Q8 ah 5 rfl)) VOK.nil)
def Qic (p0 : List aS) (e : En) (q : List Val) : Prop := ∃ z zo, Q5 G e (.st (.exit 0) (Qrj p0 q z zo))
theorem Qw7 (p0 : List aS) {e e' : En} (h : ∀ r, Q5 G e r → Q5 G e' r) : ∀ q, Qic p0 e q → Qic p0 e' q
  | _, ⟨z, zo, hz⟩ => ⟨z, zo, h _ hz⟩
def Qhp (p0 : List aS) : Prop := (List.length p0 ≤ 137438953472) ∧ (∀ x0 ∈ p0, Qft x0.bq) ∧ True
def Qtk (p0 : List aS) (i0 : Nat) (_ah : List Val) : List PV :=
  [.sl (aS.rows p0), .un, .un, .un, iN (i0 : Int), .un, iN (i0 : Int), .sl (aS.rows p0), iN ((List.length p0) : Int), .bool false]
def Qmi (_p0 : List aS) (_i0 : Nat) (_ah : List Val) : List (Nat × List PV) :=
  []
theorem Q1d0 (p0 : List aS) (_H : Qhp p0) (i0 : Nat) (ah : List Val) (_aR : List.length ah ≤ i0) (bF : (decide ((i0 : Int) < ((List.length p0) : Int))) = false) : Qic p0 (Qgo p0 i0 ah) ah := by
 exact ⟨(envF (Qtk p0 i0 ah)), (zoF (Qmi p0 i0 ah)), Qg (Q15c p0 i0 ah) (x := ((.exit 0), Qrj p0 ah (envF (Qtk p0 i0 ah)) (zoF (Qmi p0 i0 ah)))) [hP 2 (Qq _ _ (aS.Q7 p0)), hB 0 bF] [] (by kernel_rfl)⟩
theorem Q1af (p0 : List aS) (H : Qhp p0) (x0 : aS) (i0 : Nat) (ah : List Val) (bH : p0[i0]? = some x0) (bT : i0 < List.length p0) (aR : List.length ah ≤ i0) (bF : (decide ((i0 : Int) < ((List.length p0) : Int))) = true) {r : Rs} (hr : Q5 G (Qgo p0 (i0 + 1) (ah ++ [(Q37 ([(Fld.mk Qa (Q36 x0.bX)), (Fld.mk Q2t (Q36 x0.gL)), (Fld.mk Q0 (Q47 x0.bq)), (Fld.mk Qm (Q2l x0.dn)), (Fld.mk Q1d (Q1m x0.dM))]))])) r) : Q5 G (Qgo p0 i0 ah) r := by
 have hB0 := H.1
 exact Qc (Q15c p0 i0 ah) [hP 2 (Qq _ _ (aS.Q7 p0)), hB 0 bF, hP 2 (Q1f 5 _ i0 _ (aS.Qb bH) rfl), hA 27 1 2116 2180 5 80 0 0 true Val.Q7 Val.Q1l ah (Q37 ([(Fld.mk Qa (Q36 x0.bX)), (Fld.mk Q2t (Q36 x0.gL)), (Fld.mk Q0 (Q47 x0.bq)), (Fld.mk Qm (Q2l x0.dn)), (Fld.mk Q1d (Q1m x0.dM))])) (Val.Qt ah) rfl rfl (by omega), hS 0 true (Val.Q8 (ah ++ [(Q37 ([(Fld.mk Qa (Q36 x0.bX)), (Fld.mk Q2t (Q36 x0.gL)), (Fld.mk Q0 (Q47 x0.bq)), (Fld.mk Qm (Q2l x0.dn)), (Fld.mk Q1d (Q1m x0.dM))]))]) 5 rfl), hP 2 (Q26 i0 (by omega))] [aN (Qeu x0.bX), aN (Qeu x0.gL), aN (Qpk x0.bq (H.2.1 x0 (Q15 bH))), aN (Qcr x0.dn), aN (Q50 x0.dM), aN (Q79 (e' := .call 163 [.sl [(Fld.cells (Fld.mk Qa (Q36 x0.bX))), (Fld.cells (Fld.mk Q2t (Q36 x0.gL))), (Fld.cells (Fld.mk Q0 (Q47 x0.bq))), (Fld.cells (Fld.mk Qm (Q2l x0.dn))), (Fld.cells (Fld.mk Q1d (Q1m x0.dM)))]] []) (Q7l ([(Fld.mk Qa (Q36 x0.bX)), (Fld.mk Q2t (Q36 x0.gL)), (Fld.mk Q0 (Q47 x0.bq)), (Fld.mk Qm (Q2l x0.dn)), (Fld.mk Q1d (Q1m x0.dM))]) (Nat.le_of_ble_eq_true rfl)) (by simp only [Q74, Fld.Q1w, Fld.Q2h]))] hr (by kernel_rfl)
theorem Q11x (p0 : List aS) (H : Qhp p0) : ∀ (r0 : List aS) (i0 : Nat) (ah : List Val), List.drop i0 p0 = r0 → List.length ah ≤ i0 → Qic p0 (Qgo p0 i0 ah) (Q6g p0 r0 i0 ah)
 | [], i0, ah, hd, aR => by
  have bF : (decide ((i0 : Int) < ((List.length p0) : Int))) = false := by have := Q1n hd; simp; omega
  rw [Q6g]
  exact Q1d0 p0 H i0 ah aR bF
 | x0 :: r0, i0, ah, hd, aR => by
  obtain ⟨bH, bT, hd'⟩ := Q1o hd
  have bF : (decide ((i0 : Int) < ((List.length p0) : Int))) = true := by simp; omega
  rw [Q6g]
  exact Qw7 p0 (fun r hr => Q1af p0 H x0 i0 ah bH bT aR bF hr) _ (Q11x p0 H r0 _ _ hd' (by first | omega | (simp; omega)))
def Q1if (p0 : List aS) : Val := vL (p0.map aS.enc)
theorem Q2ac (p0 : List aS) : Q1if p0 = ((Val.mk 4 0 eB (Q6g p0 p0 0 []) [])) := by
  rw [Q18a]
  kernel_rfl
def Q26y (p0 : List aS) : En := .call 235 [.sl (aS.rows p0)] []
def Q1vz (p0 : List aS) : Rs := .ret (.agg (Val.cells (Q1if p0))) []
def Q1oq (p0 : List aS) : Prop := LSm aS.sm p0
theorem Q1kt (p0 : List aS) (H : Q1oq p0) : (Qhp p0) ∧ True := by
  exact ⟨⟨Nat.le_trans H.1 (Nat.le_of_ble_eq_true rfl), (by first | exact H.2 | exact fun x hx => (H.2 x hx).1 | exact fun x hx => (H.2 x hx).2.1 | exact fun x hx => (H.2 x hx).2.2.1 | exact fun x hx => (H.2 x hx).2.2.2.1 | exact fun x hx => (H.2 x hx).2.2.2.2.1), trivial⟩, trivial⟩
theorem Q2f5 (p0 : List aS) (H : Q1oq p0) : Q5 G (Q26y p0) (Q1vz p0) := by
 unfold Q1vz
 rw [Q2ac]
 have hl0 := Q11x p0 ((Q1kt p0 H).1) p0 0 [] (by simp) (by simp)
 obtain ⟨z0, eG, hl0⟩ := hl0
 exact Q6 (fn := Ir.K2l) (by kernel_rfl) VOK.nil [hS 0 true (Val.Q8 (Q6g p0 p0 0 []) 5 rfl), hQ (Val.Q7 (Q6g p0 p0 0 [])).symm] [aV [(1, Val.rows (Q6g p0 p0 0 []))] hl0] (by kernel_rfl)
def Q6k (p0 : List aF) : List aF → Nat → (List Val) → List Val
 | [], _i0, ah =>
  ah
 | x0 :: r0, i0, ah =>
  Q6k p0 r0 (i0 + 1) (ah ++ [(Q37 ([(Fld.mk Q1t (Q1m x0.fq)), (Fld.mk Qm (Q2l x0.dn)), (Fld.mk Q0 (Q47 x0.bq)), (Fld.mk Qa (Q36 x0.bX))]))])
theorem Q18e (p0 : List aF) : ∀ (l : List aF) (i : Nat) (a : List Val), Q6k p0 l i a = a ++ l.map (fun x0 => (Q37 ([(Fld.mk Q1t (Q1m x0.fq)), (Fld.mk Qm (Q2l x0.dn)), (Fld.mk Q0 (Q47 x0.bq)), (Fld.mk Qa (Q36 x0.bX))])))
  | [], _, _ => by simp [Q6k]
  | x :: r, i, a => by rw [Q6k, Q18e p0 r]; simp
def Q1er (p0 : List aF) (i0 : Nat) (ah : List Val) : List PV :=
  [.sl (aF.rows p0), .un, .bx 0 0, .ms 1 5 0 (List.length ah), iN (i0 : Int)] ++ nuns 34
def Qz3 (_p0 : List aF) (_i0 : Nat) (ah : List Val) : List Ob :=
  [⟨5, 0, true, [iN 0, iN 0, .str eB, .ms 2 5 0 0, .ms 3 6 0 0]⟩, ⟨5, 0, true, (Val.rows ah).flatten⟩, ⟨5, 0, true, []⟩, ⟨6, 0, true, []⟩]
def Qgs (p0 : List aF) (i0 : Nat) (ah : List Val) : En := .loop 0 Ir.Qkt Ir.Q1n6 (Q1er p0 i0 ah) (Qz3 p0 i0 ah)
def Qrn (_p0 : List aF) (q0 : List Val) (z : Nat → PV) (_zo : Nat → List PV) : St :=
  ⟨[z 0, z 1, .bx 0 0, .ms 1 5 0 (List.length q0)] ++ zr z 4 35, [(0, ⟨5, 0, true, [iN 0, iN 0, .str eB, .ms 2 5 0 0, .ms 3 6 0 0]⟩), (1, ⟨5, 0, true, (Val.rows q0).flatten⟩), (2, ⟨5, 0, true, []⟩), (3, ⟨6, 0, true, []⟩)], 260⟩
theorem Q15g (p0 : List aF) (i0 : Nat) (ah : List Val) : VOK (Go.Pv.look (number 0 (Qz3 p0 i0 ah))) [(1, Val.rows ah)] := (VOK.cons (show Seen _ _ from Q3r (ob := ⟨5, 0, true, (Val.rows ah).flatten⟩) (Val.Q8 ah 5 rfl)) VOK.nil)
def Qig (p0 : List aF) (e : En) (q : List Val) : Prop := ∃ z zo, Q5 G e (.st (.exit 0) (Qrn p0 q z zo))
theorem Qwb (p0 : List aF) {e e' : En} (h : ∀ r, Q5 G e r → Q5 G e' r) : ∀ q, Qig p0 e q → Qig p0 e' q
  | _, ⟨z, zo, hz⟩ => ⟨z, zo, h _ hz⟩
def Qht (p0 : List aF) : Prop := (List.length p0 ≤ 137438953472) ∧ (∀ x0 ∈ p0, Qft x0.bq) ∧ True
def Qto (p0 : List aF) (i0 : Nat) (_ah : List Val) : List PV :=
  [.sl (aF.rows p0), .un, .un, .un, iN (i0 : Int), .un, iN (i0 : Int), .sl (aF.rows p0), iN ((List.length p0) : Int), .bool false]
def Qmm (_p0 : List aF) (_i0 : Nat) (_ah : List Val) : List (Nat × List PV) :=
  []
theorem Q1d4 (p0 : List aF) (_H : Qht p0) (i0 : Nat) (ah : List Val) (_aR : List.length ah ≤ i0) (bF : (decide ((i0 : Int) < ((List.length p0) : Int))) = false) : Qig p0 (Qgs p0 i0 ah) ah := by
 exact ⟨(envF (Qto p0 i0 ah)), (zoF (Qmm p0 i0 ah)), Qg (Q15g p0 i0 ah) (x := ((.exit 0), Qrn p0 ah (envF (Qto p0 i0 ah)) (zoF (Qmm p0 i0 ah)))) [hP 2 (Qq _ _ (aF.Q7 p0)), hB 0 bF] [] (by kernel_rfl)⟩
theorem Q1aj (p0 : List aF) (H : Qht p0) (x0 : aF) (i0 : Nat) (ah : List Val) (bH : p0[i0]? = some x0) (bT : i0 < List.length p0) (aR : List.length ah ≤ i0) (bF : (decide ((i0 : Int) < ((List.length p0) : Int))) = true) {r : Rs} (hr : Q5 G (Qgs p0 (i0 + 1) (ah ++ [(Q37 ([(Fld.mk Q1t (Q1m x0.fq)), (Fld.mk Qm (Q2l x0.dn)), (Fld.mk Q0 (Q47 x0.bq)), (Fld.mk Qa (Q36 x0.bX))]))])) r) : Q5 G (Qgs p0 i0 ah) r := by
 have hB0 := H.1
 exact Qc (Q15g p0 i0 ah) [hP 2 (Qq _ _ (aF.Q7 p0)), hB 0 bF, hP 2 (Q1f 4 _ i0 _ (aF.Qb bH) rfl), hA 23 1 1860 1924 5 80 0 0 true Val.Q7 Val.Q1l ah (Q37 ([(Fld.mk Q1t (Q1m x0.fq)), (Fld.mk Qm (Q2l x0.dn)), (Fld.mk Q0 (Q47 x0.bq)), (Fld.mk Qa (Q36 x0.bX))])) (Val.Qt ah) rfl rfl (by omega), hS 0 true (Val.Q8 (ah ++ [(Q37 ([(Fld.mk Q1t (Q1m x0.fq)), (Fld.mk Qm (Q2l x0.dn)), (Fld.mk Q0 (Q47 x0.bq)), (Fld.mk Qa (Q36 x0.bX))]))]) 5 rfl), hP 2 (Q26 i0 (by omega))] [aN (Q50 x0.fq), aN (Qcr x0.dn), aN (Qpk x0.bq (H.2.1 x0 (Q15 bH))), aN (Qeu x0.bX), aN (Q79 (e' := .call 163 [.sl [(Fld.cells (Fld.mk Q1t (Q1m x0.fq))), (Fld.cells (Fld.mk Qm (Q2l x0.dn))), (Fld.cells (Fld.mk Q0 (Q47 x0.bq))), (Fld.cells (Fld.mk Qa (Q36 x0.bX)))]] []) (Q7l ([(Fld.mk Q1t (Q1m x0.fq)), (Fld.mk Qm (Q2l x0.dn)), (Fld.mk Q0 (Q47 x0.bq)), (Fld.mk Qa (Q36 x0.bX))]) (Nat.le_of_ble_eq_true rfl)) (by simp only [Q74, Fld.Q1w, Fld.Q2h]))] hr (by kernel_rfl)
theorem Q121 (p0 : List aF) (H : Qht p0) : ∀ (r0 : List aF) (i0 : Nat) (ah : List Val), List.drop i0 p0 = r0 → List.length ah ≤ i0 → Qig p0 (Qgs p0 i0 ah) (Q6k p0 r0 i0 ah)
 | [], i0, ah, hd, aR => by
  have bF : (decide ((i0 : Int) < ((List.length p0) : Int))) = false := by have := Q1n hd; simp; omega
  rw [Q6k]
  exact Q1d4 p0 H i0 ah aR bF
 | x0 :: r0, i0, ah, hd, aR => by
  obtain ⟨bH, bT, hd'⟩ := Q1o hd
  have bF : (decide ((i0 : Int) < ((List.length p0) : Int))) = true := by simp; omega
  rw [Q6k]
  exact Qwb p0 (fun r hr => Q1aj p0 H x0 i0 ah bH bT aR bF hr) _ (Q121 p0 H r0 _ _ hd' (by first | omega | (simp; omega)))
def Q1ig (p0 : List aF) : Val := vL (p0.map aF.enc)
theorem Q2al (p0 : List aF) : Q1ig p0 = ((Val.mk 4 0 eB (Q6k p0 p0 0 []) [])) := by
  rw [Q18e]
  kernel_rfl
def Q277 (p0 : List aF) : En := .call 236 [.sl (aF.rows p0)] []
def Q1w8 (p0 : List aF) : Rs := .ret (.agg (Val.cells (Q1ig p0))) []
def Q1ot (p0 : List aF) : Prop := LSm aF.sm p0
theorem Q1kx (p0 : List aF) (H : Q1ot p0) : (Qht p0) ∧ True := by
  exact ⟨⟨Nat.le_trans H.1 (Nat.le_of_ble_eq_true rfl), (by first | exact H.2 | exact fun x hx => (H.2 x hx).1 | exact fun x hx => (H.2 x hx).2.1 | exact fun x hx => (H.2 x hx).2.2.1 | exact fun x hx => (H.2 x hx).2.2.2.1 | exact fun x hx => (H.2 x hx).2.2.2.2.1), trivial⟩, trivial⟩
theorem Q2fa (p0 : List aF) (H : Q1ot p0) : Q5 G (Q277 p0) (Q1w8 p0) := by
 unfold Q1w8
 rw [Q2al]
 have hl0 := Q121 p0 ((Q1kx p0 H).1) p0 0 [] (by simp) (by simp)
 obtain ⟨z0, eG, hl0⟩ := hl0
 exact Q6 (fn := Ir.K2u) (by kernel_rfl) VOK.nil [hS 0 true (Val.Q8 (Q6k p0 p0 0 []) 5 rfl), hQ (Val.Q7 (Q6k p0 p0 0 [])).symm] [aV [(1, Val.rows (Q6k p0 p0 0 []))] hl0] (by kernel_rfl)
def Q6m (p0 : List aI) : List aI → Nat → (List Val) → List Val
 | [], _i0, ah =>
  ah
 | x0 :: r0, i0, ah =>
  Q6m p0 r0 (i0 + 1) (ah ++ [(Q37 ([(Fld.mk Q1c (Q2l x0.key)), (Fld.mk Q1s (Q2l x0.value)), (Fld.mk Q2f (Q36 x0.eY)), (Fld.mk Q2e (Q1m x0.fG)), (Fld.mk Q2i (Q1m x0.fu))]))])
theorem Q18g (p0 : List aI) : ∀ (l : List aI) (i : Nat) (a : List Val), Q6m p0 l i a = a ++ l.map (fun x0 => (Q37 ([(Fld.mk Q1c (Q2l x0.key)), (Fld.mk Q1s (Q2l x0.value)), (Fld.mk Q2f (Q36 x0.eY)), (Fld.mk Q2e (Q1m x0.fG)), (Fld.mk Q2i (Q1m x0.fu))])))
  | [], _, _ => by simp [Q6m]
  | x :: r, i, a => by rw [Q6m, Q18g p0 r]; simp
def Q1et (p0 : List aI) (i0 : Nat) (ah : List Val) : List PV :=
  [.sl (aI.rows p0), .un, .bx 0 0, .ms 1 5 0 (List.length ah), iN (i0 : Int)] ++ nuns 38
def Qz5 (_p0 : List aI) (_i0 : Nat) (ah : List Val) : List Ob :=
  [⟨5, 0, true, [iN 0, iN 0, .str eB, .ms 2 5 0 0, .ms 3 6 0 0]⟩, ⟨5, 0, true, (Val.rows ah).flatten⟩, ⟨5, 0, true, []⟩, ⟨6, 0, true, []⟩]
def Qgu (p0 : List aI) (i0 : Nat) (ah : List Val) : En := .loop 0 Ir.Qkv Ir.Q1n8 (Q1et p0 i0 ah) (Qz5 p0 i0 ah)
def Qrp (_p0 : List aI) (q0 : List Val) (z : Nat → PV) (_zo : Nat → List PV) : St :=
  ⟨[z 0, z 1, .bx 0 0, .ms 1 5 0 (List.length q0)] ++ zr z 4 39, [(0, ⟨5, 0, true, [iN 0, iN 0, .str eB, .ms 2 5 0 0, .ms 3 6 0 0]⟩), (1, ⟨5, 0, true, (Val.rows q0).flatten⟩), (2, ⟨5, 0, true, []⟩), (3, ⟨6, 0, true, []⟩)], 260⟩
theorem Q15i (p0 : List aI) (i0 : Nat) (ah : List Val) : VOK (Go.Pv.look (number 0 (Qz5 p0 i0 ah))) [(1, Val.rows ah)] := (VOK.cons (show Seen _ _ from Q3r (ob := ⟨5, 0, true, (Val.rows ah).flatten⟩) (Val.Q8 ah 5 rfl)) VOK.nil)
def Qii (p0 : List aI) (e : En) (q : List Val) : Prop := ∃ z zo, Q5 G e (.st (.exit 0) (Qrp p0 q z zo))
theorem Qwd (p0 : List aI) {e e' : En} (h : ∀ r, Q5 G e r → Q5 G e' r) : ∀ q, Qii p0 e q → Qii p0 e' q
  | _, ⟨z, zo, hz⟩ => ⟨z, zo, h _ hz⟩
def Qhv (p0 : List aI) : Prop := (List.length p0 ≤ 137438953472) ∧ True
def Qtq (p0 : List aI) (i0 : Nat) (_ah : List Val) : List PV :=
  [.sl (aI.rows p0), .un, .un, .un, iN (i0 : Int), .un, iN (i0 : Int), .sl (aI.rows p0), iN ((List.length p0) : Int), .bool false]
def Qmo (_p0 : List aI) (_i0 : Nat) (_ah : List Val) : List (Nat × List PV) :=
  []
theorem Q1d6 (p0 : List aI) (_H : Qhv p0) (i0 : Nat) (ah : List Val) (_aR : List.length ah ≤ i0) (bF : (decide ((i0 : Int) < ((List.length p0) : Int))) = false) : Qii p0 (Qgu p0 i0 ah) ah := by
 exact ⟨(envF (Qtq p0 i0 ah)), (zoF (Qmo p0 i0 ah)), Qg (Q15i p0 i0 ah) (x := ((.exit 0), Qrp p0 ah (envF (Qtq p0 i0 ah)) (zoF (Qmo p0 i0 ah)))) [hP 2 (Qq _ _ (aI.Q7 p0)), hB 0 bF] [] (by kernel_rfl)⟩
theorem Q1al (p0 : List aI) (H : Qhv p0) (x0 : aI) (i0 : Nat) (ah : List Val) (bH : p0[i0]? = some x0) (bT : i0 < List.length p0) (aR : List.length ah ≤ i0) (bF : (decide ((i0 : Int) < ((List.length p0) : Int))) = true) {r : Rs} (hr : Q5 G (Qgu p0 (i0 + 1) (ah ++ [(Q37 ([(Fld.mk Q1c (Q2l x0.key)), (Fld.mk Q1s (Q2l x0.value)), (Fld.mk Q2f (Q36 x0.eY)), (Fld.mk Q2e (Q1m x0.fG)), (Fld.mk Q2i (Q1m x0.fu))]))])) r) : Q5 G (Qgu p0 i0 ah) r := by
 have hB0 := H.1
 exact Qc (Q15i p0 i0 ah) [hP 2 (Qq _ _ (aI.Q7 p0)), hB 0 bF, hP 2 (Q1f 5 _ i0 _ (aI.Qb bH) rfl), hA 27 1 2116 2180 5 80 0 0 true Val.Q7 Val.Q1l ah (Q37 ([(Fld.mk Q1c (Q2l x0.key)), (Fld.mk Q1s (Q2l x0.value)), (Fld.mk Q2f (Q36 x0.eY)), (Fld.mk Q2e (Q1m x0.fG)), (Fld.mk Q2i (Q1m x0.fu))])) (Val.Qt ah) rfl rfl (by omega), hS 0 true (Val.Q8 (ah ++ [(Q37 ([(Fld.mk Q1c (Q2l x0.key)), (Fld.mk Q1s (Q2l x0.value)), (Fld.mk Q2f (Q36 x0.eY)), (Fld.mk Q2e (Q1m x0.fG)), (Fld.mk Q2i (Q1m x0.fu))]))]) 5 rfl), hP 2 (Q26 i0 (by omega))] [aN (Qcr x0.key), aN (Qcr x0.value), aN (Qeu x0.eY), aN (Q50 x0.fG), aN (Q50 x0.fu), aN (Q79 (e' := .call 163 [.sl [(Fld.cells (Fld.mk Q1c (Q2l x0.key))), (Fld.cells (Fld.mk Q1s (Q2l x0.value))), (Fld.cells (Fld.mk Q2f (Q36 x0.eY))), (Fld.cells (Fld.mk Q2e (Q1m x0.fG))), (Fld.cells (Fld.mk Q2i (Q1m x0.fu)))]] []) (Q7l ([(Fld.mk Q1c (Q2l x0.key)), (Fld.mk Q1s (Q2l x0.value)), (Fld.mk Q2f (Q36 x0.eY)), (Fld.mk Q2e (Q1m x0.fG)), (Fld.mk Q2i (Q1m x0.fu))]) (Nat.le_of_ble_eq_true rfl)) (by simp only [Q74, Fld.Q1w, Fld.Q2h]))] hr (by kernel_rfl)
theorem Q123 (p0 : List aI) (H : Qhv p0) : ∀ (r0 : List aI) (i0 : Nat) (ah : List Val), List.drop i0 p0 = r0 → List.length ah ≤ i0 → Qii p0 (Qgu p0 i0 ah) (Q6m p0 r0 i0 ah)
 | [], i0, ah, hd, aR => by
  have bF : (decide ((i0 : Int) < ((List.length p0) : Int))) = false := by have := Q1n hd; simp; omega
  rw [Q6m]
  exact Q1d6 p0 H i0 ah aR bF
 | x0 :: r0, i0, ah, hd, aR => by
  obtain ⟨bH, bT, hd'⟩ := Q1o hd
  have bF : (decide ((i0 : Int) < ((List.length p0) : Int))) = true := by simp; omega
  rw [Q6m]
  exact Qwd p0 (fun r hr => Q1al p0 H x0 i0 ah bH bT aR bF hr) _ (Q123 p0 H r0 _ _ hd' (by first | omega | (simp; omega)))
def Q1ih (p0 : List aI) : Val := vL (p0.map aI.enc)
theorem Q2ap (p0 : List aI) : Q1ih p0 = ((Val.mk 4 0 eB (Q6m p0 p0 0 []) [])) := by
  rw [Q18g]
  kernel_rfl
def Q27c (p0 : List aI) : En := .call 237 [.sl (aI.rows p0)] []
def Q1wd (p0 : List aI) : Rs := .ret (.agg (Val.cells (Q1ih p0))) []
def Q1ow (p0 : List aI) : Prop := LSm aI.sm p0
theorem Q1kz (p0 : List aI) (H : Q1ow p0) : (Qhv p0) ∧ True := by
  exact ⟨⟨Nat.le_trans H.1 (Nat.le_of_ble_eq_true rfl), trivial⟩, trivial⟩
theorem Q2fd (p0 : List aI) (H : Q1ow p0) : Q5 G (Q27c p0) (Q1wd p0) := by
 unfold Q1wd
 rw [Q2ap]
 have hl0 := Q123 p0 ((Q1kz p0 H).1) p0 0 [] (by simp) (by simp)
 obtain ⟨z0, eG, hl0⟩ := hl0
 exact Q6 (fn := Ir.K2z) (by kernel_rfl) VOK.nil [hS 0 true (Val.Q8 (Q6m p0 p0 0 []) 5 rfl), hQ (Val.Q7 (Q6m p0 p0 0 [])).symm] [aV [(1, Val.rows (Q6m p0 p0 0 []))] hl0] (by kernel_rfl)
def Q1ie (p0 : bC) : Val := bC.enc p0
theorem Q2ab (p0 : bC) : Q1ie p0 = ((Q37 ([(Fld.mk Q1b (Q2l p0.fD)), (Fld.mk Q1p (Q1m p0.dQ)), (Fld.mk Q1z (Q1m p0.eD)), (Fld.mk Q2s (Q1m p0.fH)), (Fld.mk Qo (Q1ib p0.dz)), (Fld.mk Q13 (Q47 p0.bZ)), (Fld.mk Qs (Q1id p0.d9)), (Fld.mk Qy (Q1if p0.dI)), (Fld.mk Q1q (Q1ig p0.eP)), (Fld.mk Ql (Q1ih p0.cO))]))) := by
  kernel_rfl
def Q26x (p0 : bC) : En := .call 214 [.agg (bC.cells p0)] []
def Q1vy (p0 : bC) : Rs := .ret (.agg (Val.cells (Q1ie p0))) []
def Q1op (p0 : bC) : Prop := bC.sm p0
theorem Qbt (p0 : bC) (H : Q1op p0) : (Q1oi p0.dz) ∧ (Qft p0.bZ) ∧ (Q1oo p0.d9) ∧ (Q1oq p0.dI) ∧ (Q1ot p0.eP) ∧ (Q1ow p0.cO) ∧ True := by
  exact ⟨(by first | exact True.intro | exact H | exact H.1 | exact H.2.1 | exact H.2.2.1 | exact H.2.2.2.1 | exact H.2.2.2.2.1 | exact H.2.2.2.2.2.1 | exact ⟨H.1, trivial⟩ | exact ⟨H.2.1, trivial⟩), (by first | exact True.intro | exact H | exact H.1 | exact H.2.1 | exact H.2.2.1 | exact H.2.2.2.1 | exact H.2.2.2.2.1 | exact H.2.2.2.2.2.1 | exact ⟨H.1, trivial⟩ | exact ⟨H.2.1, trivial⟩), (by first | exact True.intro | exact H | exact H.1 | exact H.2.1 | exact H.2.2.1 | exact H.2.2.2.1 | exact H.2.2.2.2.1 | exact H.2.2.2.2.2.1 | exact ⟨H.1, trivial⟩ | exact ⟨H.2.1, trivial⟩), (by first | exact True.intro | exact H | exact H.1 | exact H.2.1 | exact H.2.2.1 | exact H.2.2.2.1 | exact H.2.2.2.2.1 | exact H.2.2.2.2.2.1 | exact ⟨H.1, trivial⟩ | exact ⟨H.2.1, trivial⟩), (by first | exact True.intro | exact H | exact H.1 | exact H.2.1 | exact H.2.2.1 | exact H.2.2.2.1 | exact H.2.2.2.2.1 | exact H.2.2.2.2.2.1 | exact ⟨H.1, trivial⟩ | exact ⟨H.2.1, trivial⟩), (by first | exact True.intro | exact H | exact H.1 | exact H.2.1 | exact H.2.2.1 | exact H.2.2.2.1 | exact H.2.2.2.2.1 | exact H.2.2.2.2.2.1 | exact ⟨H.1, trivial⟩ | exact ⟨H.2.1, trivial⟩), trivial⟩
theorem Q2f4 (p0 : bC) (H : Q1op p0) : Q5 G (Q26x p0) (Q1vy p0) := by
 unfold Q1vy
 rw [Q2ab]
 exact Q6 (fn := Ir.K2k) (by kernel_rfl) VOK.nil [] [aN (Qcr p0.fD), aN (Q50 p0.dQ), aN (Q50 p0.eD), aN (Q50 p0.fH), aN (Q2ex p0.dz (Qbt p0 H).1), aN (Qpk p0.bZ (Qbt p0 H).2.1), aN (Q2f3 p0.d9 (Qbt p0 H).2.2.1), aN (Q2f5 p0.dI (Qbt p0 H).2.2.2.1), aN (Q2fa p0.eP (Qbt p0 H).2.2.2.2.1), aN (Q2fd p0.cO (Qbt p0 H).2.2.2.2.2.1), aN (Q79 (e' := .call 163 [.sl [(Fld.cells (Fld.mk Q1b (Q2l p0.fD))), (Fld.cells (Fld.mk Q1p (Q1m p0.dQ))), (Fld.cells (Fld.mk Q1z (Q1m p0.eD))), (Fld.cells (Fld.mk Q2s (Q1m p0.fH))), (Fld.cells (Fld.mk Qo (Q1ib p0.dz))), (Fld.cells (Fld.mk Q13 (Q47 p0.bZ))), (Fld.cells (Fld.mk Qs (Q1id p0.d9))), (Fld.cells (Fld.mk Qy (Q1if p0.dI))), (Fld.cells (Fld.mk Q1q (Q1ig p0.eP))), (Fld.cells (Fld.mk Ql (Q1ih p0.cO)))]] []) (Q7l ([(Fld.mk Q1b (Q2l p0.fD)), (Fld.mk Q1p (Q1m p0.dQ)), (Fld.mk Q1z (Q1m p0.eD)), (Fld.mk Q2s (Q1m p0.fH)), (Fld.mk Qo (Q1ib p0.dz)), (Fld.mk Q13 (Q47 p0.bZ)), (Fld.mk Qs (Q1id p0.d9)), (Fld.mk Qy (Q1if p0.dI)), (Fld.mk Q1q (Q1ig p0.eP)), (Fld.mk Ql (Q1ih p0.cO))]) (Nat.le_of_ble_eq_true rfl)) (by simp only [Q74, Fld.Q1w, Fld.Q2h]))] (by kernel_rfl)
def Qou (p0 : bn) : Val := bn.enc p0
theorem Q2ao (p0 : bn) : Qou p0 = ((Q37 ([(Fld.mk Qj (Q1ic p0.bP)), (Fld.mk Q31 (Q1ie p0.aU))]))) := by
  kernel_rfl
def Q27b (p0 : bn) : En := .call 166 [.agg (bn.cells p0)] []
def Q1wc (p0 : bn) : Rs := .ret (.agg (Val.cells (Qou p0))) []
def Q1fz (p0 : bn) : Prop := bn.sm p0
theorem Q16m (p0 : bn) (H : Q1fz p0) : (Q1om p0.bP) ∧ (Q1op p0.aU) ∧ True := by
  exact ⟨(by first | exact True.intro | exact H | exact H.1 | exact H.2.1 | exact ⟨H.1, trivial⟩ | exact ⟨H.2.1, trivial⟩), (by first | exact True.intro | exact H | exact H.1 | exact H.2.1 | exact ⟨H.1, trivial⟩ | exact ⟨H.2.1, trivial⟩), trivial⟩
theorem Q1qe (p0 : bn) (H : Q1fz p0) : Q5 G (Q27b p0) (Q1wc p0) := by
 unfold Q1wc
 rw [Q2ao]
 exact Q6 (fn := Ir.K2y) (by kernel_rfl) VOK.nil [] [aN (Q2f1 p0.bP (Q16m p0 H).1), aN (Q2f4 p0.aU (Q16m p0 H).2.1), aN (Q79 (e' := .call 163 [.sl [(Fld.cells (Fld.mk Qj (Q1ic p0.bP))), (Fld.cells (Fld.mk Q31 (Q1ie p0.aU)))]] []) (Q7l ([(Fld.mk Qj (Q1ic p0.bP)), (Fld.mk Q31 (Q1ie p0.aU))]) (Nat.le_of_ble_eq_true rfl)) (by simp only [Q74, Fld.Q1w, Fld.Q2h]))] (by kernel_rfl)
def Q1ia (p0 : bK) : Val := bK.enc p0
theorem Q2a2 (p0 : bK) : Q1ia p0 = ((Q37 ([(Fld.mk Q2w (Q36 p0.eU)), (Fld.mk kw_n (Q1m p0.n))]))) := by
  kernel_rfl
def Q26n (p0 : bK) : En := .call 168 [.agg (bK.cells p0)] []
def Q1vn (p0 : bK) : Rs := .ret (.agg (Val.cells (Q1ia p0))) []
theorem Q2ew (p0 : bK) : Q5 G (Q26n p0) (Q1vn p0) := by
 unfold Q1vn
 rw [Q2a2]
 exact Q6 (fn := Ir.K20) (by kernel_rfl) VOK.nil [] [aN (Qeu p0.eU), aN (Q50 p0.n), aN (Q79 (e' := .call 163 [.sl [(Fld.cells (Fld.mk Q2w (Q36 p0.eU))), (Fld.cells (Fld.mk kw_n (Q1m p0.n)))]] []) (Q7l ([(Fld.mk Q2w (Q36 p0.eU)), (Fld.mk kw_n (Q1m p0.n))]) (Nat.le_of_ble_eq_true rfl)) (by simp only [Q74, Fld.Q1w, Fld.Q2h]))] (by kernel_rfl)
def Q12y (p0 : aX) : Val := aX.enc p0
theorem Q2aq (p0 : aX) : Q12y p0 = ((Q37 ([(Fld.mk Q17 (Q1m p0.dR)), (Fld.mk Qf (Q1m p0.bY)), (Fld.mk Q27 (Q1m p0.fB)), (Fld.mk Qh (Q1m p0.ready)), (Fld.mk Q2c (Q1m p0.dU)), (Fld.mk Q2x (Q1m p0.eH)), (Fld.mk Q4a (Q36 p0.bG))]))) := by
  kernel_rfl
def Q27d (p0 : aX) : En := .call 60 [.agg (aX.cells p0)] []
def Q1we (p0 : aX) : Rs := .ret (.agg (Val.cells (Q12y p0))) []
theorem Q1qf (p0 : aX) : Q5 G (Q27d p0) (Q1we p0) := by
 unfold Q1we
 rw [Q2aq]
 exact Q6 (fn := Ir.K30) (by kernel_rfl) VOK.nil [] [aN (Q50 p0.dR), aN (Q50 p0.bY), aN (Q50 p0.fB), aN (Q50 p0.ready), aN (Q50 p0.dU), aN (Q50 p0.eH), aN (Qeu p0.bG), aN (Q79 (e' := .call 163 [.sl [(Fld.cells (Fld.mk Q17 (Q1m p0.dR))), (Fld.cells (Fld.mk Qf (Q1m p0.bY))), (Fld.cells (Fld.mk Q27 (Q1m p0.fB))), (Fld.cells (Fld.mk Qh (Q1m p0.ready))), (Fld.cells (Fld.mk Q2c (Q1m p0.dU))), (Fld.cells (Fld.mk Q2x (Q1m p0.eH))), (Fld.cells (Fld.mk Q4a (Q36 p0.bG)))]] []) (Q7l ([(Fld.mk Q17 (Q1m p0.dR)), (Fld.mk Qf (Q1m p0.bY)), (Fld.mk Q27 (Q1m p0.fB)), (Fld.mk Qh (Q1m p0.ready)), (Fld.mk Q2c (Q1m p0.dU)), (Fld.mk Q2x (Q1m p0.eH)), (Fld.mk Q4a (Q36 p0.bG))]) (Nat.le_of_ble_eq_true rfl)) (by simp only [Q74, Fld.Q1w, Fld.Q2h]))] (by kernel_rfl)
def Qye (p0 : BA) (p1 : bN) (p2 : Val) (p3 : Val) : aD :=
 (aD.mk (bN.mk p0 p1.bO p1.name p1.fZ p1.dx p1.bU p1.dw p1.cB p1.cu p1.bP p1.bS p1.bL p1.bg) p2 p3)
def Q28b (p0 : BA) (p1 : bN) (p2 : Val) (p3 : Val) : En := .call 58 [.str p0, .agg (bN.cells p1), .agg (Val.cells p2), .agg (Val.cells p3)] []
def Q1xd (p0 : BA) (p1 : bN) (p2 : Val) (p3 : Val) : Rs := .ret (.agg (aD.cells (Qye p0 p1 p2 p3))) []
theorem Q148 (p0 : BA) (p1 : bN) (p2 : Val) (p3 : Val) : Q5 G (Q28b p0 p1 p2 p3) (Q1xd p0 p1 p2 p3) := by
 unfold Q1xd Qye
 exact Q6 (fn := Ir.K49) (by kernel_rfl) VOK.nil [] [] (by kernel_rfl)
def Q1lz (p0 : aO) : Val := aO.encS p0
theorem Q2ah (p0 : aO) : Q1lz p0 = ((Q37 ([(Fld.mk Qf (Q1m p0.bY)), (Fld.mk Q11 (Q1m p0.dh)), (Fld.mk Q3d (Q1m p0.fK)), (Fld.mk Q0 (Q47 p0.bq)), (Fld.mk Qv (Qou p0.bB))]))) := by
  kernel_rfl
def Q273 (p0 : aO) : En := .call 99 [.agg (aO.cells p0)] []
def Q1w4 (p0 : aO) : Rs := .ret (.agg (Val.cells (Q1lz p0))) []
def Q1or (p0 : aO) : Prop := aO.sm p0
theorem Q16j (p0 : aO) (H : Q1or p0) : (Qft p0.bq) ∧ (Q1fz p0.bB) ∧ True := by
  exact ⟨(by first | exact True.intro | exact H | exact H.1 | exact H.2.1 | exact H.2.2.1 | exact ⟨H.1, trivial⟩ | exact ⟨H.2.1, trivial⟩), (by first | exact True.intro | exact H | exact H.1 | exact H.2.1 | exact H.2.2.1 | exact ⟨H.1, trivial⟩ | exact ⟨H.2.1, trivial⟩), trivial⟩
theorem Q2f8 (p0 : aO) (H : Q1or p0) : Q5 G (Q273 p0) (Q1w4 p0) := by
 unfold Q1w4
 rw [Q2ah]
 exact Q6 (fn := Ir.K2q) (by kernel_rfl) VOK.nil [] [aN (Q50 p0.bY), aN (Q50 p0.dh), aN (Q50 p0.fK), aN (Qpk p0.bq (Q16j p0 H).1), aN (Q1qe p0.bB (Q16j p0 H).2.1), aN (Q79 (e' := .call 163 [.sl [(Fld.cells (Fld.mk Qf (Q1m p0.bY))), (Fld.cells (Fld.mk Q11 (Q1m p0.dh))), (Fld.cells (Fld.mk Q3d (Q1m p0.fK))), (Fld.cells (Fld.mk Q0 (Q47 p0.bq))), (Fld.cells (Fld.mk Qv (Qou p0.bB)))]] []) (Q7l ([(Fld.mk Qf (Q1m p0.bY)), (Fld.mk Q11 (Q1m p0.dh)), (Fld.mk Q3d (Q1m p0.fK)), (Fld.mk Q0 (Q47 p0.bq)), (Fld.mk Qv (Qou p0.bB))]) (Nat.le_of_ble_eq_true rfl)) (by simp only [Q74, Fld.Q1w, Fld.Q2h]))] (by kernel_rfl)
def Q1bx (p0 : aO) : aD := aO.obj p0
theorem Q2be (p0 : aO) : Q1bx p0 = ((Qye Q22 p0.aM (Q1lz p0) (Q12y p0.aZ))) := by
  first | rfl | kernel_rfl
def Q280 (p0 : aO) : En := .call 18 [.agg (aO.cells p0)] []
def Q1x2 (p0 : aO) : Rs := .ret (.agg (aD.cells (Q1bx p0))) []
def Q1jm (p0 : aO) : Prop := aO.sm p0
theorem Q1l2 (p0 : aO) (H : Q1jm p0) : (Q1or p0) ∧ True := by
  exact ⟨(by first | exact True.intro | exact H | exact H.1 | exact H.2.1 | exact H.2.2.1 | exact ⟨H.1, trivial⟩ | exact ⟨H.2.1, trivial⟩), trivial⟩
theorem Q20b (p0 : aO) (H : Q1jm p0) : Q5 G (Q280 p0) (Q1x2 p0) := by
 unfold Q1x2
 rw [Q2be]
 exact Q6 (fn := Ir.K3t) (by kernel_rfl) VOK.nil [] [aN (Q2f8 p0 (Q1l2 p0 H).1), aN (Q1qf p0.aZ), aN (Q148 Q22 p0.aM (Q1lz p0) (Q12y p0.aZ))] (by kernel_rfl)
def Q6d (p0 : List Int) : List Int → Nat → (List Val) → List Val
 | [], _i0, ah =>
  ah
 | x0 :: r0, i0, ah =>
  Q6d p0 r0 (i0 + 1) (ah ++ [(Q1m x0)])
theorem Q186 (p0 : List Int) : ∀ (l : List Int) (i : Nat) (a : List Val), Q6d p0 l i a = a ++ l.map (fun x0 => (Q1m x0))
  | [], _, _ => by simp [Q6d]
  | x :: r, i, a => by rw [Q6d, Q186 p0 r]; simp
def Q1eg (p0 : List Int) (i0 : Nat) (ah : List Val) : List PV :=
  [.sl (Q3h p0), .un, .bx 0 0, .ms 1 5 0 (List.length ah), iN (i0 : Int)] ++ nuns 16
def Qys (_p0 : List Int) (_i0 : Nat) (ah : List Val) : List Ob :=
  [⟨5, 0, true, [iN 0, iN 0, .str eB, .ms 2 5 0 0, .ms 3 6 0 0]⟩, ⟨5, 0, true, (Val.rows ah).flatten⟩, ⟨5, 0, true, []⟩, ⟨6, 0, true, []⟩]
def Qgk (p0 : List Int) (i0 : Nat) (ah : List Val) : En := .loop 0 Ir.Qki Ir.Q1mv (Q1eg p0 i0 ah) (Qys p0 i0 ah)
def Qre (_p0 : List Int) (q0 : List Val) (z : Nat → PV) (_zo : Nat → List PV) : St :=
  ⟨[z 0, z 1, .bx 0 0, .ms 1 5 0 (List.length q0)] ++ zr z 4 17, [(0, ⟨5, 0, true, [iN 0, iN 0, .str eB, .ms 2 5 0 0, .ms 3 6 0 0]⟩), (1, ⟨5, 0, true, (Val.rows q0).flatten⟩), (2, ⟨5, 0, true, []⟩), (3, ⟨6, 0, true, []⟩)], 260⟩
theorem Q157 (p0 : List Int) (i0 : Nat) (ah : List Val) : VOK (Go.Pv.look (number 0 (Qys p0 i0 ah))) [(1, Val.rows ah)] := (VOK.cons (show Seen _ _ from Q3r (ob := ⟨5, 0, true, (Val.rows ah).flatten⟩) (Val.Q8 ah 5 rfl)) VOK.nil)
def Qi6 (p0 : List Int) (e : En) (q : List Val) : Prop := ∃ z zo, Q5 G e (.st (.exit 0) (Qre p0 q z zo))
theorem Qw1 (p0 : List Int) {e e' : En} (h : ∀ r, Q5 G e r → Q5 G e' r) : ∀ q, Qi6 p0 e q → Qi6 p0 e' q
  | _, ⟨z, zo, hz⟩ => ⟨z, zo, h _ hz⟩
def Qhk (p0 : List Int) : Prop := (List.length p0 ≤ 137438953472) ∧ True
def Qtc (p0 : List Int) (i0 : Nat) (_ah : List Val) : List PV :=
  [.sl (Q3h p0), .un, .un, .un, iN (i0 : Int), iN (i0 : Int), .sl (Q3h p0), iN ((List.length p0) : Int), .bool false]
def Qma (_p0 : List Int) (_i0 : Nat) (_ah : List Val) : List (Nat × List PV) :=
  []
theorem Q1cs (p0 : List Int) (_H : Qhk p0) (i0 : Nat) (ah : List Val) (_aR : List.length ah ≤ i0) (bF : (decide ((i0 : Int) < ((List.length p0) : Int))) = false) : Qi6 p0 (Qgk p0 i0 ah) ah := by
 exact ⟨(envF (Qtc p0 i0 ah)), (zoF (Qma p0 i0 ah)), Qg (Q157 p0 i0 ah) (x := ((.exit 0), Qre p0 ah (envF (Qtc p0 i0 ah)) (zoF (Qma p0 i0 ah)))) [hP 2 (Qq _ _ (Q6u p0)), hB 0 bF] [] (by kernel_rfl)⟩
theorem Q1a7 (p0 : List Int) (H : Qhk p0) (x0 : Int) (i0 : Nat) (ah : List Val) (bH : p0[i0]? = some x0) (bT : i0 < List.length p0) (aR : List.length ah ≤ i0) (bF : (decide ((i0 : Int) < ((List.length p0) : Int))) = true) {r : Rs} (hr : Q5 G (Qgk p0 (i0 + 1) (ah ++ [(Q1m x0)])) r) : Q5 G (Qgk p0 i0 ah) r := by
 have hB0 := H.1
 exact Qc (Q157 p0 i0 ah) [hP 2 (Qq _ _ (Q6u p0)), hB 0 bF, hP 3 (Q1f 1 _ i0 _ (Q19h bH) rfl), hA 3 1 644 708 5 80 0 0 true Val.Q7 Val.Q1l ah (Q1m x0) (Val.Qt ah) rfl rfl (by omega), hS 0 true (Val.Q8 (ah ++ [(Q1m x0)]) 5 rfl), hP 2 (Q26 i0 (by omega))] [aN (Q50 x0)] hr (by kernel_rfl)
theorem Q11r (p0 : List Int) (H : Qhk p0) : ∀ (r0 : List Int) (i0 : Nat) (ah : List Val), List.drop i0 p0 = r0 → List.length ah ≤ i0 → Qi6 p0 (Qgk p0 i0 ah) (Q6d p0 r0 i0 ah)
 | [], i0, ah, hd, aR => by
  have bF : (decide ((i0 : Int) < ((List.length p0) : Int))) = false := by have := Q1n hd; simp; omega
  rw [Q6d]
  exact Q1cs p0 H i0 ah aR bF
 | x0 :: r0, i0, ah, hd, aR => by
  obtain ⟨bH, bT, hd'⟩ := Q1o hd
  have bF : (decide ((i0 : Int) < ((List.length p0) : Int))) = true := by simp; omega
  rw [Q6d]
  exact Qw1 p0 (fun r hr => Q1a7 p0 H x0 i0 ah bH bT aR bF hr) _ (Q11r p0 H r0 _ _ hd' (by first | omega | (simp; omega)))
def Qyc (p0 : List Int) : Val := vL (p0.map vN)
theorem Q2a7 (p0 : List Int) : Qyc p0 = ((Val.mk 4 0 eB (Q6d p0 p0 0 []) [])) := by
  rw [Q186]
  kernel_rfl
def Q26t (p0 : List Int) : En := .call 195 [.sl (Q3h p0)] []
def Q1vt (p0 : List Int) : Rs := .ret (.agg (Val.cells (Qyc p0))) []
def Q1ol (p0 : List Int) : Prop := LSm (fun _ : Int => True) p0
theorem Q1kq (p0 : List Int) (H : Q1ol p0) : (Qhk p0) ∧ True := by
  exact ⟨⟨Nat.le_trans H.1 (Nat.le_of_ble_eq_true rfl), trivial⟩, trivial⟩
theorem Q2f0 (p0 : List Int) (H : Q1ol p0) : Q5 G (Q26t p0) (Q1vt p0) := by
 unfold Q1vt
 rw [Q2a7]
 have hl0 := Q11r p0 ((Q1kq p0 H).1) p0 0 [] (by simp) (by simp)
 obtain ⟨z0, eG, hl0⟩ := hl0
 exact Q6 (fn := Ir.K2d) (by kernel_rfl) VOK.nil [hS 0 true (Val.Q8 (Q6d p0 p0 0 []) 5 rfl), hQ (Val.Q7 (Q6d p0 p0 0 [])).symm] [aV [(1, Val.rows (Q6d p0 p0 0 []))] hl0] (by kernel_rfl)
def Q1m1 (p0 : aL) : Val := aL.encS p0
theorem Q2am (p0 : aL) : Q1m1 p0 = ((Q37 ([(Fld.mk Qf (Q1m p0.bY)), (Fld.mk Q2z (Q1m p0.fE)), (Fld.mk Q11 (Q1m p0.dh)), (Fld.mk Q3c (Q36 p0.fJ)), (Fld.mk Q0 (Q47 p0.bq)), (Fld.mk Qv (Qou p0.bB))]))) := by
  kernel_rfl
def Q278 (p0 : aL) : En := .call 132 [.agg (aL.cells p0)] []
def Q1w9 (p0 : aL) : Rs := .ret (.agg (Val.cells (Q1m1 p0))) []
def Q1ou (p0 : aL) : Prop := aL.sm p0
theorem Q16l (p0 : aL) (H : Q1ou p0) : (Qft p0.bq) ∧ (Q1fz p0.bB) ∧ True := by
  exact ⟨(by first | exact True.intro | exact H | exact H.1 | exact H.2.1 | exact H.2.2.1 | exact ⟨H.1, trivial⟩ | exact ⟨H.2.1, trivial⟩), (by first | exact True.intro | exact H | exact H.1 | exact H.2.1 | exact H.2.2.1 | exact ⟨H.1, trivial⟩ | exact ⟨H.2.1, trivial⟩), trivial⟩
theorem Q2fb (p0 : aL) (H : Q1ou p0) : Q5 G (Q278 p0) (Q1w9 p0) := by
 unfold Q1w9
 rw [Q2am]
 exact Q6 (fn := Ir.K2v) (by kernel_rfl) VOK.nil [] [aN (Q50 p0.bY), aN (Q50 p0.fE), aN (Q50 p0.dh), aN (Qeu p0.fJ), aN (Qpk p0.bq (Q16l p0 H).1), aN (Q1qe p0.bB (Q16l p0 H).2.1), aN (Q79 (e' := .call 163 [.sl [(Fld.cells (Fld.mk Qf (Q1m p0.bY))), (Fld.cells (Fld.mk Q2z (Q1m p0.fE))), (Fld.cells (Fld.mk Q11 (Q1m p0.dh))), (Fld.cells (Fld.mk Q3c (Q36 p0.fJ))), (Fld.cells (Fld.mk Q0 (Q47 p0.bq))), (Fld.cells (Fld.mk Qv (Qou p0.bB)))]] []) (Q7l ([(Fld.mk Qf (Q1m p0.bY)), (Fld.mk Q2z (Q1m p0.fE)), (Fld.mk Q11 (Q1m p0.dh)), (Fld.mk Q3c (Q36 p0.fJ)), (Fld.mk Q0 (Q47 p0.bq)), (Fld.mk Qv (Qou p0.bB))]) (Nat.le_of_ble_eq_true rfl)) (by simp only [Q74, Fld.Q1w, Fld.Q2h]))] (by kernel_rfl)
def Q1bz (p0 : aL) : aD := aL.obj p0
theorem Q2bg (p0 : aL) : Q1bz p0 = ((Qye Q1u p0.aM (Q1m1 p0) (Q12y p0.aZ))) := by
  first | rfl | kernel_rfl
def Q282 (p0 : aL) : En := .call 33 [.agg (aL.cells p0)] []
def Q1x4 (p0 : aL) : Rs := .ret (.agg (aD.cells (Q1bz p0))) []
def Q1jo (p0 : aL) : Prop := aL.sm p0
theorem Q1l3 (p0 : aL) (H : Q1jo p0) : (Q1ou p0) ∧ True := by
  exact ⟨(by first | exact True.intro | exact H | exact H.1 | exact H.2.1 | exact H.2.2.1 | exact ⟨H.1, trivial⟩ | exact ⟨H.2.1, trivial⟩), trivial⟩
theorem Q20d (p0 : aL) (H : Q1jo p0) : Q5 G (Q282 p0) (Q1x4 p0) := by
 unfold Q1x4
 rw [Q2bg]
 exact Q6 (fn := Ir.K3v) (by kernel_rfl) VOK.nil [] [aN (Q2fb p0 (Q1l3 p0 H).1), aN (Q1qf p0.aZ), aN (Q148 Q1u p0.aM (Q1m1 p0) (Q12y p0.aZ))] (by kernel_rfl)
def Q1lu (p0 : aQ) : Val := aQ.encS p0
theorem Q2a5 (p0 : aQ) : Q1lu p0 = ((Q37 ([(Fld.mk Q11 (Q1m p0.dh)), (Fld.mk Q2g (Q1ia p0.dD)), (Fld.mk Q0 (Q47 p0.bq)), (Fld.mk Qv (Qou p0.bB))]))) := by
  kernel_rfl
def Q26q (p0 : aQ) : En := .call 133 [.agg (aQ.cells p0)] []
def Q1vq (p0 : aQ) : Rs := .ret (.agg (Val.cells (Q1lu p0))) []
def Q1oj (p0 : aQ) : Prop := aQ.sm p0
theorem Q16g (p0 : aQ) (H : Q1oj p0) : (Qft p0.bq) ∧ (Q1fz p0.bB) ∧ True := by
  exact ⟨(by first | exact True.intro | exact H | exact H.1 | exact H.2.1 | exact H.2.2.1 | exact H.2.2.2.1 | exact ⟨H.1, trivial⟩ | exact ⟨H.2.1, trivial⟩), (by first | exact True.intro | exact H | exact H.1 | exact H.2.1 | exact H.2.2.1 | exact H.2.2.2.1 | exact ⟨H.1, trivial⟩ | exact ⟨H.2.1, trivial⟩), trivial⟩
theorem Q2ey (p0 : aQ) (H : Q1oj p0) : Q5 G (Q26q p0) (Q1vq p0) := by
 unfold Q1vq
 rw [Q2a5]
 exact Q6 (fn := Ir.K29) (by kernel_rfl) VOK.nil [] [aN (Q50 p0.dh), aN (Q2ew p0.dD), aN (Qpk p0.bq (Q16g p0 H).1), aN (Q1qe p0.bB (Q16g p0 H).2.1), aN (Q79 (e' := .call 163 [.sl [(Fld.cells (Fld.mk Q11 (Q1m p0.dh))), (Fld.cells (Fld.mk Q2g (Q1ia p0.dD))), (Fld.cells (Fld.mk Q0 (Q47 p0.bq))), (Fld.cells (Fld.mk Qv (Qou p0.bB)))]] []) (Q7l ([(Fld.mk Q11 (Q1m p0.dh)), (Fld.mk Q2g (Q1ia p0.dD)), (Fld.mk Q0 (Q47 p0.bq)), (Fld.mk Qv (Qou p0.bB))]) (Nat.le_of_ble_eq_true rfl)) (by simp only [Q74, Fld.Q1w, Fld.Q2h]))] (by kernel_rfl)
def Q1bt (p0 : aQ) : aD := aQ.obj p0
theorem Q2ba (p0 : aQ) : Q1bt p0 = ((Qye Q2b p0.aM (Q1lu p0) (Q12y p0.aZ))) := by
  first | rfl | kernel_rfl
def Q27w (p0 : aQ) : En := .call 34 [.agg (aQ.cells p0)] []
def Q1wy (p0 : aQ) : Rs := .ret (.agg (aD.cells (Q1bt p0))) []
def Q1jj (p0 : aQ) : Prop := aQ.sm p0
theorem Q1l1 (p0 : aQ) (H : Q1jj p0) : (Q1oj p0) ∧ True := by
  exact ⟨(by first | exact True.intro | exact H | exact H.1 | exact H.2.1 | exact H.2.2.1 | exact H.2.2.2.1 | exact ⟨H.1, trivial⟩ | exact ⟨H.2.1, trivial⟩), trivial⟩
theorem Q207 (p0 : aQ) (H : Q1jj p0) : Q5 G (Q27w p0) (Q1wy p0) := by
 unfold Q1wy
 rw [Q2ba]
 exact Q6 (fn := Ir.K3n) (by kernel_rfl) VOK.nil [] [aN (Q2ey p0 (Q1l1 p0 H).1), aN (Q1qf p0.aZ), aN (Q148 Q2b p0.aM (Q1lu p0) (Q12y p0.aZ))] (by kernel_rfl)
def Q6h (p0 : List aC) : List aC → Nat → (List Val) → List Val
 | [], _i0, ah =>
  ah
 | x0 :: r0, i0, ah =>
  Q6h p0 r0 (i0 + 1) (ah ++ [(Q37 ([(Fld.mk Qi (Q2l x0.name)), (Fld.mk Q3i (Q1m x0.gU)), (Fld.mk Q2y (Q1m x0.target))]))])
theorem Q18b (p0 : List aC) : ∀ (l : List aC) (i : Nat) (a : List Val), Q6h p0 l i a = a ++ l.map (fun x0 => (Q37 ([(Fld.mk Qi (Q2l x0.name)), (Fld.mk Q3i (Q1m x0.gU)), (Fld.mk Q2y (Q1m x0.target))])))
  | [], _, _ => by simp [Q6h]
  | x :: r, i, a => by rw [Q6h, Q18b p0 r]; simp
def Q1eo (p0 : List aC) (i0 : Nat) (ah : List Val) : List PV :=
  [.sl (aC.rows p0), .un, .bx 0 0, .ms 1 5 0 (List.length ah), iN (i0 : Int)] ++ nuns 34
def Qz0 (_p0 : List aC) (_i0 : Nat) (ah : List Val) : List Ob :=
  [⟨5, 0, true, [iN 0, iN 0, .str eB, .ms 2 5 0 0, .ms 3 6 0 0]⟩, ⟨5, 0, true, (Val.rows ah).flatten⟩, ⟨5, 0, true, []⟩, ⟨6, 0, true, []⟩]
def Qgp (p0 : List aC) (i0 : Nat) (ah : List Val) : En := .loop 0 Ir.Qkq Ir.Q1n3 (Q1eo p0 i0 ah) (Qz0 p0 i0 ah)
def Qrk (_p0 : List aC) (q0 : List Val) (z : Nat → PV) (_zo : Nat → List PV) : St :=
  ⟨[z 0, z 1, .bx 0 0, .ms 1 5 0 (List.length q0)] ++ zr z 4 35, [(0, ⟨5, 0, true, [iN 0, iN 0, .str eB, .ms 2 5 0 0, .ms 3 6 0 0]⟩), (1, ⟨5, 0, true, (Val.rows q0).flatten⟩), (2, ⟨5, 0, true, []⟩), (3, ⟨6, 0, true, []⟩)], 260⟩
theorem Q15d (p0 : List aC) (i0 : Nat) (ah : List Val) : VOK (Go.Pv.look (number 0 (Qz0 p0 i0 ah))) [(1, Val.rows ah)] := (VOK.cons (show Seen _ _ from Q3r (ob := ⟨5, 0, true, (Val.rows ah).flatten⟩) (Val.Q8 ah 5 rfl)) VOK.nil)
def Qid (p0 : List aC) (e : En) (q : List Val) : Prop := ∃ z zo, Q5 G e (.st (.exit 0) (Qrk p0 q z zo))
theorem Qw8 (p0 : List aC) {e e' : En} (h : ∀ r, Q5 G e r → Q5 G e' r) : ∀ q, Qid p0 e q → Qid p0 e' q
  | _, ⟨z, zo, hz⟩ => ⟨z, zo, h _ hz⟩
def Qhq (p0 : List aC) : Prop := (List.length p0 ≤ 137438953472) ∧ True
def Qtl (p0 : List aC) (i0 : Nat) (_ah : List Val) : List PV :=
  [.sl (aC.rows p0), .un, .un, .un, iN (i0 : Int), iN (i0 : Int), .sl (aC.rows p0), iN ((List.length p0) : Int), .bool false]
def Qmj (_p0 : List aC) (_i0 : Nat) (_ah : List Val) : List (Nat × List PV) :=
  []
theorem Q1d1 (p0 : List aC) (_H : Qhq p0) (i0 : Nat) (ah : List Val) (_aR : List.length ah ≤ i0) (bF : (decide ((i0 : Int) < ((List.length p0) : Int))) = false) : Qid p0 (Qgp p0 i0 ah) ah := by
 exact ⟨(envF (Qtl p0 i0 ah)), (zoF (Qmj p0 i0 ah)), Qg (Q15d p0 i0 ah) (x := ((.exit 0), Qrk p0 ah (envF (Qtl p0 i0 ah)) (zoF (Qmj p0 i0 ah)))) [hP 2 (Qq _ _ (aC.Q7 p0)), hB 0 bF] [] (by kernel_rfl)⟩
theorem Q1ag (p0 : List aC) (H : Qhq p0) (x0 : aC) (i0 : Nat) (ah : List Val) (bH : p0[i0]? = some x0) (bT : i0 < List.length p0) (aR : List.length ah ≤ i0) (bF : (decide ((i0 : Int) < ((List.length p0) : Int))) = true) {r : Rs} (hr : Q5 G (Qgp p0 (i0 + 1) (ah ++ [(Q37 ([(Fld.mk Qi (Q2l x0.name)), (Fld.mk Q3i (Q1m x0.gU)), (Fld.mk Q2y (Q1m x0.target))]))])) r) : Q5 G (Qgp p0 i0 ah) r := by
 have hB0 := H.1
 exact Qc (Q15d p0 i0 ah) [hP 2 (Qq _ _ (aC.Q7 p0)), hB 0 bF, hP 3 (Q1f 3 _ i0 _ (aC.Qb bH) rfl), hP 6 (Q1f 3 _ i0 _ (aC.Qb bH) rfl), hP 6 (Q1f 3 _ i0 _ (aC.Qb bH) rfl), hA 7 1 1796 1860 5 80 0 0 true Val.Q7 Val.Q1l ah (Q37 ([(Fld.mk Qi (Q2l x0.name)), (Fld.mk Q3i (Q1m x0.gU)), (Fld.mk Q2y (Q1m x0.target))])) (Val.Qt ah) rfl rfl (by omega), hS 0 true (Val.Q8 (ah ++ [(Q37 ([(Fld.mk Qi (Q2l x0.name)), (Fld.mk Q3i (Q1m x0.gU)), (Fld.mk Q2y (Q1m x0.target))]))]) 5 rfl), hP 2 (Q26 i0 (by omega))] [aN (Qcr x0.name), aN (Q50 x0.gU), aN (Q50 x0.target), aN (Q79 (e' := .call 163 [.sl [(Fld.cells (Fld.mk Qi (Q2l x0.name))), (Fld.cells (Fld.mk Q3i (Q1m x0.gU))), (Fld.cells (Fld.mk Q2y (Q1m x0.target)))]] []) (Q7l ([(Fld.mk Qi (Q2l x0.name)), (Fld.mk Q3i (Q1m x0.gU)), (Fld.mk Q2y (Q1m x0.target))]) (Nat.le_of_ble_eq_true rfl)) (by simp only [Q74, Fld.Q1w, Fld.Q2h]))] hr (by kernel_rfl)
theorem Q11y (p0 : List aC) (H : Qhq p0) : ∀ (r0 : List aC) (i0 : Nat) (ah : List Val), List.drop i0 p0 = r0 → List.length ah ≤ i0 → Qid p0 (Qgp p0 i0 ah) (Q6h p0 r0 i0 ah)
 | [], i0, ah, hd, aR => by
  have bF : (decide ((i0 : Int) < ((List.length p0) : Int))) = false := by have := Q1n hd; simp; omega
  rw [Q6h]
  exact Q1d1 p0 H i0 ah aR bF
 | x0 :: r0, i0, ah, hd, aR => by
  obtain ⟨bH, bT, hd'⟩ := Q1o hd
  have bF : (decide ((i0 : Int) < ((List.length p0) : Int))) = true := by simp; omega
  rw [Q6h]
  exact Qw8 p0 (fun r hr => Q1ag p0 H x0 i0 ah bH bT aR bF hr) _ (Q11y p0 H r0 _ _ hd' (by first | omega | (simp; omega)))
def Q12x (p0 : List aC) : Val := vL (p0.map aC.enc)
theorem Q2ad (p0 : List aC) : Q12x p0 = ((Val.mk 4 0 eB (Q6h p0 p0 0 []) [])) := by
  rw [Q18b]
  kernel_rfl
def Q26z (p0 : List aC) : En := .call 210 [.sl (aC.rows p0)] []
def Q1w0 (p0 : List aC) : Rs := .ret (.agg (Val.cells (Q12x p0))) []
def Q1ji (p0 : List aC) : Prop := LSm aC.sm p0
theorem Q1ku (p0 : List aC) (H : Q1ji p0) : (Qhq p0) ∧ True := by
  exact ⟨⟨Nat.le_trans H.1 (Nat.le_of_ble_eq_true rfl), trivial⟩, trivial⟩
theorem Q200 (p0 : List aC) (H : Q1ji p0) : Q5 G (Q26z p0) (Q1w0 p0) := by
 unfold Q1w0
 rw [Q2ad]
 have hl0 := Q11y p0 ((Q1ku p0 H).1) p0 0 [] (by simp) (by simp)
 obtain ⟨z0, eG, hl0⟩ := hl0
 exact Q6 (fn := Ir.K2m) (by kernel_rfl) VOK.nil [hS 0 true (Val.Q8 (Q6h p0 p0 0 []) 5 rfl), hQ (Val.Q7 (Q6h p0 p0 0 [])).symm] [aV [(1, Val.rows (Q6h p0 p0 0 []))] hl0] (by kernel_rfl)
def Q1m0 (p0 : aY) : Val := aY.encS p0
theorem Q2ak (p0 : aY) : Q1m0 p0 = ((Q37 ([(Fld.mk Q0 (Q47 p0.bq)), (Fld.mk Qn (Q12x p0.dG)), (Fld.mk Q3v (Q36 p0.gB))]))) := by
  kernel_rfl
def Q276 (p0 : aY) : En := .call 144 [.agg (aY.cells p0)] []
def Q1w7 (p0 : aY) : Rs := .ret (.agg (Val.cells (Q1m0 p0))) []
def Q1os (p0 : aY) : Prop := aY.sm p0
theorem Q16k (p0 : aY) (H : Q1os p0) : (Qft p0.bq) ∧ (Q1ji p0.dG) ∧ True := by
  exact ⟨(by first | exact True.intro | exact H | exact H.1 | exact H.2.1 | exact ⟨H.1, trivial⟩ | exact ⟨H.2.1, trivial⟩), (by first | exact True.intro | exact H | exact H.1 | exact H.2.1 | exact ⟨H.1, trivial⟩ | exact ⟨H.2.1, trivial⟩), trivial⟩
theorem Q2f9 (p0 : aY) (H : Q1os p0) : Q5 G (Q276 p0) (Q1w7 p0) := by
 unfold Q1w7
 rw [Q2ak]
 exact Q6 (fn := Ir.K2t) (by kernel_rfl) VOK.nil [] [aN (Qpk p0.bq (Q16k p0 H).1), aN (Q200 p0.dG (Q16k p0 H).2.1), aN (Qeu p0.gB), aN (Q79 (e' := .call 163 [.sl [(Fld.cells (Fld.mk Q0 (Q47 p0.bq))), (Fld.cells (Fld.mk Qn (Q12x p0.dG))), (Fld.cells (Fld.mk Q3v (Q36 p0.gB)))]] []) (Q7l ([(Fld.mk Q0 (Q47 p0.bq)), (Fld.mk Qn (Q12x p0.dG)), (Fld.mk Q3v (Q36 p0.gB))]) (Nat.le_of_ble_eq_true rfl)) (by simp only [Q74, Fld.Q1w, Fld.Q2h]))] (by kernel_rfl)
def Q142 (p0 : Int) : Val :=
 (Val.mk 2 p0 eB [] [])
def Q26e (p0 : Int) : En := .call 67 [iN p0] []
def Q1vd (p0 : Int) : Rs := .ret (.agg (Val.cells (Q142 p0))) []
theorem Q2er (p0 : Int) : Q5 G (Q26e p0) (Q1vd p0) := by
 unfold Q1vd Q142
 exact Q6 (fn := Ir.K1p) (by kernel_rfl) VOK.nil [] [] (by kernel_rfl)
def Q1q7 (p0 : Val) : Val := p0
def Q40 (p0 : Val) : List Val → Nat → (List Val) → List Val
 | [], _i0, ah =>
  ah
 | x0 :: r0, i0, ah =>
  Q40 p0 r0 (i0 + 1) (ah ++ [x0])
def Q1e4 (_p0 : Val) (i0 : Nat) (_ah : List Val) : List PV :=
  [.un, .bx 0 0, .bx 1 0, .bx 2 0, iN (i0 : Int)] ++ nuns 53
def Qyn (p0 : Val) (_i0 : Nat) (ah : List Val) : List Ob :=
  [⟨5, 0, true, (Val.cells p0)⟩, ⟨5, 0, true, [iN 0, iN 0, .str eB, .ms 3 5 0 0, .ms 4 6 0 0]⟩, ⟨5, 0, true, [iN p0.kind, iN p0.n, .str p0.s, .ms 5 5 0 (List.length ah), .ms 6 6 0 0]⟩, ⟨5, 0, true, []⟩, ⟨6, 0, true, []⟩, ⟨5, 0, true, (Val.rows ah).flatten⟩, ⟨6, 0, true, []⟩]
def Qgb (p0 : Val) (i0 : Nat) (ah : List Val) : En := .loop 0 Ir.Qk6 Ir.Q1mj (Q1e4 p0 i0 ah) (Qyn p0 i0 ah)
def Qr3 (p0 : Val) (q0 : List Val) (z : Nat → PV) (_zo : Nat → List PV) : St :=
  ⟨[z 0, .bx 0 0, .bx 1 0, .bx 2 0] ++ zr z 4 54, [(0, ⟨5, 0, true, (Val.cells p0)⟩), (1, ⟨5, 0, true, [iN 0, iN 0, .str eB, .ms 3 5 0 0, .ms 4 6 0 0]⟩), (2, ⟨5, 0, true, [iN p0.kind, iN p0.n, .str p0.s, .ms 5 5 0 (List.length q0), .ms 6 6 0 0]⟩), (3, ⟨5, 0, true, []⟩), (4, ⟨6, 0, true, []⟩), (5, ⟨5, 0, true, (Val.rows q0).flatten⟩), (6, ⟨6, 0, true, []⟩)], 327⟩
theorem Q153 (p0 : Val) (i0 : Nat) (ah : List Val) : VOK (Go.Pv.look (number 0 (Qyn p0 i0 ah))) [(5, Val.rows ah)] := (VOK.cons (show Seen _ _ from Q3r (ob := ⟨5, 0, true, (Val.rows ah).flatten⟩) (Val.Q8 ah 5 rfl)) VOK.nil)
def Qi0 (p0 : Val) (e : En) (q : List Val) : Prop := ∃ z zo, Q5 G e (.st (.exit 0) (Qr3 p0 q z zo))
theorem Qvq (p0 : Val) {e e' : En} (h : ∀ r, Q5 G e r → Q5 G e' r) : ∀ q, Qi0 p0 e q → Qi0 p0 e' q
  | _, ⟨z, zo, hz⟩ => ⟨z, zo, h _ hz⟩
def Q6b (p0 : Val) : List Fld → Nat → (List Fld) → List Fld
 | [], _i1, bQ =>
  bQ
 | x1 :: r1, i1, bQ =>
  Q6b p0 r1 (i1 + 1) (bQ ++ [x1])
def Q1e5 (_p0 : Val) (i1 : Nat) (_bQ : List Fld) : List PV :=
  [.un, .bx 0 0, .bx 1 0, .bx 2 0, .un, iN (i1 : Int)] ++ nuns 52
def Qyo (p0 : Val) (_i1 : Nat) (bQ : List Fld) : List Ob :=
  [⟨5, 0, true, (Val.cells p0)⟩, ⟨5, 0, true, [iN 0, iN 0, .str eB, .ms 3 5 0 0, .ms 4 6 0 0]⟩, ⟨5, 0, true, [iN p0.kind, iN p0.n, .str p0.s, .ms 5 5 0 (List.length (Q40 p0 p0.list 0 [])), .ms 6 6 0 (List.length bQ)]⟩, ⟨5, 0, true, []⟩, ⟨6, 0, true, []⟩, ⟨5, 0, true, (Val.rows (Q40 p0 p0.list 0 [])).flatten⟩, ⟨6, 0, true, (Fld.rows bQ).flatten⟩]
def Qgc (p0 : Val) (i1 : Nat) (bQ : List Fld) : En := .loop 0 Ir.Qk7 Ir.Q1mk (Q1e5 p0 i1 bQ) (Qyo p0 i1 bQ)
def Qr4 (p0 : Val) (q0 : List Fld) (z : Nat → PV) (_zo : Nat → List PV) : St :=
  ⟨[z 0, z 1, .bx 1 0, .bx 2 0] ++ zr z 4 54, [(0, ⟨5, 0, true, (Val.cells p0)⟩), (1, ⟨5, 0, true, [iN 0, iN 0, .str eB, .ms 3 5 0 0, .ms 4 6 0 0]⟩), (2, ⟨5, 0, true, [iN p0.kind, iN p0.n, .str p0.s, .ms 5 5 0 (List.length (Q40 p0 p0.list 0 [])), .ms 6 6 0 (List.length q0)]⟩), (3, ⟨5, 0, true, []⟩), (4, ⟨6, 0, true, []⟩), (5, ⟨5, 0, true, (Val.rows (Q40 p0 p0.list 0 [])).flatten⟩), (6, ⟨6, 0, true, (Fld.rows q0).flatten⟩)], 327⟩
theorem Q154 (p0 : Val) (i1 : Nat) (bQ : List Fld) : VOK (Go.Pv.look (number 0 (Qyo p0 i1 bQ))) [(5, Val.rows (Q40 p0 p0.list 0 [])), (6, Fld.rows bQ)] := (VOK.cons (show Seen _ _ from Q3r (ob := ⟨5, 0, true, (Val.rows (Q40 p0 p0.list 0 [])).flatten⟩) (Val.Q8 (Q40 p0 p0.list 0 []) 5 rfl)) (VOK.cons (show Seen _ _ from Q3r (ob := ⟨6, 0, true, (Fld.rows bQ).flatten⟩) (Fld.Q8 bQ 6 rfl)) VOK.nil))
def Qi1 (p0 : Val) (e : En) (q : List Fld) : Prop := ∃ z zo, Q5 G e (.st (.exit 2) (Qr4 p0 q z zo))
theorem Qvr (p0 : Val) {e e' : En} (h : ∀ r, Q5 G e r → Q5 G e' r) : ∀ q, Qi1 p0 e q → Qi1 p0 e' q
  | _, ⟨z, zo, hz⟩ => ⟨z, zo, h _ hz⟩
theorem Q1o9 (p0 : Val) : ∀ (l : List Val) (i : Nat) (a : List Val), Q40 p0 l i a = a ++ l
  | [], i, a => by rw [Q40]; simp
  | x :: l, i, a => by rw [Q40, Q1o9 p0 l]; simp
theorem Q1oa (p0 : Val) : ∀ (l : List Fld) (i : Nat) (a : List Fld), Q6b p0 l i a = a ++ l
  | [], i, a => by rw [Q6b]; simp
  | x :: l, i, a => by
    rw [Q6b, Q1oa p0 l]
    simp
theorem Q2a1 (p0 : Val) : Q1q7 p0 = ((Val.mk p0.kind p0.n p0.s (Q40 p0 p0.list 0 []) (Q6b p0 p0.fields 0 []))) := by
  rw [Q1o9, Q1oa]
  cases p0
  rfl
def Q1kf (p0 : Val) : En := .call 172 [.agg (Val.cells p0)] []
def Q1gi (p0 : Val) : Rs := .ret (.agg (Val.cells (Q1q7 p0))) []
abbrev Qzv (p0 : Val) : Prop := Val.Sm 1000000000 p0
def Qcc (p0 : Val) : Prop := ∀ (q : Val), SizeOf.sizeOf q < SizeOf.sizeOf p0 → Qzv q → Q5 G (Q1kf q) (Q1gi q)
def Qhb (p0 : Val) : Prop := (List.length p0.list ≤ 137438953472) ∧ (∀ x0 ∈ p0.list, Qzv x0) ∧ True
def Qhc (p0 : Val) : Prop := (List.length p0.fields ≤ 137438953472) ∧ (∀ x1 ∈ p0.fields, Qzv x1.v) ∧ True
theorem Q16d (p0 : Val) (H : Qzv p0) : (Qhb p0) ∧ (Qhc p0) ∧ True := by
  obtain ⟨h1, h2, h3, h4⟩ := H.all
  exact ⟨⟨by omega, h3, trivial⟩, ⟨by omega, h4, trivial⟩, trivial⟩
def Qsx (p0 : Val) (i0 : Nat) (_ah : List Val) : List PV :=
  [.un, .un, .un, .un, iN (i0 : Int)] ++ nuns 8 ++ [iN (i0 : Int), .bx 0 3, .sl (Val.rows p0.list), iN ((List.length p0.list) : Int), .bool false]
def Qlv (_p0 : Val) (_i0 : Nat) (_ah : List Val) : List (Nat × List PV) :=
  []
theorem Q1cd (p0 : Val) (_H : Qhb p0) (_rec : Qcc p0) (i0 : Nat) (ah : List Val) (_aR : List.length ah ≤ i0) (bF : (decide ((i0 : Int) < ((List.length p0.list) : Int))) = false) : Qi0 p0 (Qgb p0 i0 ah) ah := by
 exact ⟨(envF (Qsx p0 i0 ah)), (zoF (Qlv p0 i0 ah)), Qg (Q153 p0 i0 ah) (x := ((.exit 0), Qr3 p0 ah (envF (Qsx p0 i0 ah)) (zoF (Qlv p0 i0 ah)))) [hP 3 (Qq _ _ (Val.Q7 p0.list)), hB 0 bF] [] (by kernel_rfl)⟩
theorem Q19q (p0 : Val) (H : Qhb p0) (rec : Qcc p0) (x0 : Val) (i0 : Nat) (ah : List Val) (bH : p0.list[i0]? = some x0) (bT : i0 < List.length p0.list) (aR : List.length ah ≤ i0) (bF : (decide ((i0 : Int) < ((List.length p0.list) : Int))) = true) {r : Rs} (hr : Q5 G (Qgb p0 (i0 + 1) (ah ++ [x0])) r) : Q5 G (Qgb p0 i0 ah) r := by
 have hB0 := H.1
 exact Qc (Q153 p0 i0 ah) [hP 3 (Qq _ _ (Val.Q7 p0.list)), hB 0 bF, hP 5 (Q1f 5 _ i0 _ (Val.Qb bH) rfl), hA 3 5 839 903 5 80 0 0 true Val.Q7 Val.Q1l ah x0 (Val.Qt ah) rfl rfl (by omega), hS 0 true (Val.Q8 (ah ++ [x0]) 5 rfl), hP 3 (Q26 i0 (by omega))] [aN (rec x0 (szL bH) (H.2.1 x0 (Q15 bH)))] hr (by kernel_rfl)
theorem Q11g (p0 : Val) (H : Qhb p0) (rec : Qcc p0) : ∀ (r0 : List Val) (i0 : Nat) (ah : List Val), List.drop i0 p0.list = r0 → List.length ah ≤ i0 → Qi0 p0 (Qgb p0 i0 ah) (Q40 p0 r0 i0 ah)
 | [], i0, ah, hd, aR => by
  have bF : (decide ((i0 : Int) < ((List.length p0.list) : Int))) = false := by have := Q1n hd; simp; omega
  rw [Q40]
  exact Q1cd p0 H rec i0 ah aR bF
 | x0 :: r0, i0, ah, hd, aR => by
  obtain ⟨bH, bT, hd'⟩ := Q1o hd
  have bF : (decide ((i0 : Int) < ((List.length p0.list) : Int))) = true := by simp; omega
  rw [Q40]
  exact Qvq p0 (fun r hr => Q19q p0 H rec x0 i0 ah bH bT aR bF hr) _ (Q11g p0 H rec r0 _ _ hd' (by first | omega | (simp; omega)))
def Qsy (p0 : Val) (i1 : Nat) (_bQ : List Fld) : List PV :=
  [.un, .bx 0 0, .un, .un, .un, iN (i1 : Int)] ++ nuns 25 ++ [iN (i1 : Int), .bx 0 4, .sl (Fld.rows p0.fields), iN ((List.length p0.fields) : Int), .bool false]
def Qlw (_p0 : Val) (_i1 : Nat) (_bQ : List Fld) : List (Nat × List PV) :=
  []
theorem Q1ce (p0 : Val) (_H : Qhc p0) (_rec : Qcc p0) (i1 : Nat) (bQ : List Fld) (_eT : List.length bQ ≤ i1) (hc1 : (decide ((i1 : Int) < ((List.length p0.fields) : Int))) = false) : Qi1 p0 (Qgc p0 i1 bQ) bQ := by
 exact ⟨(envF (Qsy p0 i1 bQ)), (zoF (Qlw p0 i1 bQ)), Qg (Q154 p0 i1 bQ) (x := ((.exit 2), Qr4 p0 bQ (envF (Qsy p0 i1 bQ)) (zoF (Qlw p0 i1 bQ)))) [hP 3 (Qq _ _ (Fld.Q7 p0.fields)), hB 0 hc1] [] (by kernel_rfl)⟩
theorem Q19r (p0 : Val) (H : Qhc p0) (rec : Qcc p0) (x1 : Fld) (i1 : Nat) (bQ : List Fld) (fF : p0.fields[i1]? = some x1) (gQ : i1 < List.length p0.fields) (eT : List.length bQ ≤ i1) (hc1 : (decide ((i1 : Int) < ((List.length p0.fields) : Int))) = true) {r : Rs} (hr : Q5 G (Qgc p0 (i1 + 1) (bQ ++ [x1])) r) : Q5 G (Qgc p0 i1 bQ) r := by
 have hB0 := H.1
 exact Qc (Q154 p0 i1 bQ) [hP 3 (Qq _ _ (Fld.Q7 p0.fields)), hB 0 hc1, hP 5 (Q1f 6 _ i1 _ (Fld.Qb fF) rfl), hP 5 (Q1f 6 _ i1 _ (Fld.Qb fF) rfl), hA 5 6 1351 1415 6 96 0 0 true Fld.Q7 Fld.Q1l bQ x1 (Fld.Qt bQ) rfl rfl (by omega), hS 0 true (Fld.Q8 (bQ ++ [x1]) 6 rfl), hP 3 (Q26 i1 (by omega))] [aN (rec x1.v (szF fF) (H.2.1 x1 (Q15 fF)))] hr (by kernel_rfl)
theorem Q11h (p0 : Val) (H : Qhc p0) (rec : Qcc p0) : ∀ (r1 : List Fld) (i1 : Nat) (bQ : List Fld), List.drop i1 p0.fields = r1 → List.length bQ ≤ i1 → Qi1 p0 (Qgc p0 i1 bQ) (Q6b p0 r1 i1 bQ)
 | [], i1, bQ, hd, eT => by
  have hc1 : (decide ((i1 : Int) < ((List.length p0.fields) : Int))) = false := by have := Q1n hd; simp; omega
  rw [Q6b]
  exact Q1ce p0 H rec i1 bQ eT hc1
 | x1 :: r1, i1, bQ, hd, eT => by
  obtain ⟨fF, gQ, hd'⟩ := Q1o hd
  have hc1 : (decide ((i1 : Int) < ((List.length p0.fields) : Int))) = true := by simp; omega
  rw [Q6b]
  exact Qvr p0 (fun r hr => Q19r p0 H rec x1 i1 bQ fF gQ eT hc1 hr) _ (Q11h p0 H rec r1 _ _ hd' (by first | omega | (simp; omega)))
theorem Q2d7 (p0 : Val) (H : Qzv p0) (rec : Qcc p0) : Q5 G (Q1kf p0) (Q1gi p0) := by
  unfold Q1gi
  rw [Q2a1]
  have hl0 := Q11g p0 ((Q16d p0 H).1) rec p0.list 0 [] (by simp) (by simp)
  obtain ⟨z0, eG, hl0⟩ := hl0
  have hl1 := Q11h p0 ((Q16d p0 H).2.1) rec p0.fields 0 [] (by simp) (by simp)
  obtain ⟨z1, jk, hl1⟩ := hl1
  exact Q6 (fn := Ir.K1m) (by kernel_rfl) VOK.nil [hS 0 true (Val.Q8 (Q40 p0 p0.list 0 []) 5 rfl), hS 0 true (Val.Q8 (Q40 p0 p0.list 0 []) 5 rfl), hS 0 true (Fld.Q8 (Q6b p0 p0.fields 0 []) 6 rfl), hQ (Val.Q7 (Q40 p0 p0.list 0 [])).symm, hQ (Fld.Q7 (Q6b p0 p0.fields 0 [])).symm] [aV [(5, Val.rows (Q40 p0 p0.list 0 []))] hl0, aV [(5, Val.rows (Q40 p0 p0.list 0 [])), (6, Fld.rows (Q6b p0 p0.fields 0 []))] hl1] (by kernel_rfl)
theorem Q1za : ∀ (k : Nat) (p0 : Val), SizeOf.sizeOf p0 < k → Qzv p0 → Q5 G (Q1kf p0) (Q1gi p0)
  | 0, _, h, _ => absurd h (Nat.not_lt_zero _)
  | k + 1, p0, h, H => Q2d7 p0 H (fun q hq hH => Q1za k q (by omega) hH)
theorem Q2eq (p0 : Val) (H : Qzv p0) : Q5 G (Q1kf p0) (Q1gi p0) := Q1za _ p0 (Nat.lt_succ_self _) H
def Q3m (p0 : List Fld) (p1 : Fld) : List Fld → Nat → (List Fld) → Bool → (List Fld) × Bool
 | [], _i0, ah, ay =>
  (ah, ay)
 | x0 :: r0, i0, ah, ay =>
  bif (ay == true) then
   bif (sEq x0.name p1.name) then
    Q3m p0 p1 r0 (i0 + 1) ah ay
   else
    Q3m p0 p1 r0 (i0 + 1) (ah ++ [x0]) ay
  else
   bif ((sLt p1.name x0.name) || (sEq p1.name x0.name)) then
    bif (sEq x0.name p1.name) then
     Q3m p0 p1 r0 (i0 + 1) (ah ++ [p1]) true
    else
     Q3m p0 p1 r0 (i0 + 1) ((ah ++ [p1]) ++ [x0]) true
   else
    bif (sEq x0.name p1.name) then
     Q3m p0 p1 r0 (i0 + 1) ah ay
    else
     Q3m p0 p1 r0 (i0 + 1) (ah ++ [x0]) ay
def Q1e9 (p0 : List Fld) (_p1 : Fld) (i0 : Nat) (ah : List Fld) (ay : Bool) : List PV :=
  [.sl (Fld.rows p0), .un, .un, .bx 0 0, .un, .ms 1 6 0 (List.length ah), .bool ay, iN (i0 : Int)] ++ nuns 44
def Qyp (_p0 : List Fld) (p1 : Fld) (_i0 : Nat) (ah : List Fld) (_ay : Bool) : List Ob :=
  [⟨6, 0, true, (Fld.cells p1)⟩, ⟨6, 0, true, (Fld.rows ah).flatten⟩]
def Q4v (p0 : List Fld) (p1 : Fld) (i0 : Nat) (ah : List Fld) (ay : Bool) : En := .loop 0 Ir.Qkb Ir.Q1mo (Q1e9 p0 p1 i0 ah ay) (Qyp p0 p1 i0 ah ay)
def Qr7 (_p0 : List Fld) (p1 : Fld) (q0 : List Fld) (q1 : Bool) (z : Nat → PV) (_zo : Nat → List PV) : St :=
  ⟨[z 0, z 1, z 2, .bx 0 0, z 4, .ms 1 6 0 (List.length q0), .bool q1] ++ zr z 7 45, [(0, ⟨6, 0, true, (Fld.cells p1)⟩), (1, ⟨6, 0, true, (Fld.rows q0).flatten⟩)], 258⟩
theorem Q9n (p0 : List Fld) (p1 : Fld) (i0 : Nat) (ah : List Fld) (ay : Bool) : VOK (Go.Pv.look (number 0 (Qyp p0 p1 i0 ah ay))) [(1, Fld.rows ah)] := (VOK.cons (show Seen _ _ from Q3r (ob := ⟨6, 0, true, (Fld.rows ah).flatten⟩) (Fld.Q8 ah 6 rfl)) VOK.nil)
def Qi3 (p0 : List Fld) (p1 : Fld) (e : En) (q : (List Fld) × Bool) : Prop := ∃ z zo, Q5 G e (.st (.exit 0) (Qr7 p0 p1 q.1 q.2 z zo))
theorem Q54 (p0 : List Fld) (p1 : Fld) {e e' : En} (h : ∀ r, Q5 G e r → Q5 G e' r) : ∀ q, Qi3 p0 p1 e q → Qi3 p0 p1 e' q
  | _, ⟨z, zo, hz⟩ => ⟨z, zo, h _ hz⟩
def Q7m (p0 : List Fld) (_p1 : Fld) : Prop := (List.length p0 ≤ 137438953472) ∧ True
def Qt5 (p0 : List Fld) (_p1 : Fld) (i0 : Nat) (_ah : List Fld) (_ay : Bool) : List PV :=
  [.sl (Fld.rows p0)] ++ nuns 6 ++ [iN (i0 : Int), iN (i0 : Int), .sl (Fld.rows p0), iN ((List.length p0) : Int), .bool false]
def Qm3 (_p0 : List Fld) (_p1 : Fld) (_i0 : Nat) (_ah : List Fld) (_ay : Bool) : List (Nat × List PV) :=
  []
theorem Q1cl (p0 : List Fld) (p1 : Fld) (_H : Q7m p0 p1) (i0 : Nat) (ah : List Fld) (ay : Bool) (_aR : List.length ah ≤ 2 * i0) (bF : (decide ((i0 : Int) < ((List.length p0) : Int))) = false) : Qi3 p0 p1 (Q4v p0 p1 i0 ah ay) (ah, ay) := by
 exact ⟨(envF (Qt5 p0 p1 i0 ah ay)), (zoF (Qm3 p0 p1 i0 ah ay)), Qg (Q9n p0 p1 i0 ah ay) (x := ((.exit 0), Qr7 p0 p1 ah ay (envF (Qt5 p0 p1 i0 ah ay)) (zoF (Qm3 p0 p1 i0 ah ay)))) [hP 2 (Qq _ _ (Fld.Q7 p0)), hB 0 bF] [] (by kernel_rfl)⟩
theorem Q19v (p0 : List Fld) (p1 : Fld) (H : Q7m p0 p1) (x0 : Fld) (i0 : Nat) (ah : List Fld) (ay : Bool) (bH : p0[i0]? = some x0) (bT : i0 < List.length p0) (_aR : List.length ah ≤ 2 * i0) (bF : (decide ((i0 : Int) < ((List.length p0) : Int))) = true) (h0 : (ay == true) = true) (h1 : (sEq x0.name p1.name) = true) {r : Rs} (hr : Q5 G (Q4v p0 p1 (i0 + 1) ah ay) r) : Q5 G (Q4v p0 p1 i0 ah ay) r := by
 have hB0 := H.1
 exact Qc (Q9n p0 p1 i0 ah ay) [hP 2 (Qq _ _ (Fld.Q7 p0)), hB 0 bF, hB 0 (beqT h0), hP 13 (Q1f 6 _ i0 _ (Fld.Qb bH) rfl), hP 4 (dec (!(sEq x0.name p1.name)) false (by rw [h1]; rfl)), hP 1 (Q26 i0 (by omega))] [] hr (by kernel_rfl)
theorem Q19w (p0 : List Fld) (p1 : Fld) (H : Q7m p0 p1) (x0 : Fld) (i0 : Nat) (ah : List Fld) (ay : Bool) (bH : p0[i0]? = some x0) (bT : i0 < List.length p0) (aR : List.length ah ≤ 2 * i0) (bF : (decide ((i0 : Int) < ((List.length p0) : Int))) = true) (h0 : (ay == true) = true) (h1 : (sEq x0.name p1.name) = false) {r : Rs} (hr : Q5 G (Q4v p0 p1 (i0 + 1) (ah ++ [x0]) ay) r) : Q5 G (Q4v p0 p1 i0 ah ay) r := by
 have hB0 := H.1
 exact Qc (Q9n p0 p1 i0 ah ay) [hP 2 (Qq _ _ (Fld.Q7 p0)), hB 0 bF, hB 0 (beqT h0), hP 13 (Q1f 6 _ i0 _ (Fld.Qb bH) rfl), hP 4 (dec (!(sEq x0.name p1.name)) true (by rw [h1]; rfl)), hP 3 (Q1f 6 _ i0 _ (Fld.Qb bH) rfl), hA 2 1 1858 1922 6 96 0 0 true Fld.Q7 Fld.Q1l ah x0 (Fld.Qt ah) rfl rfl (by omega), hS 0 true (Fld.Q8 (ah ++ [x0]) 6 rfl), hP 2 (Q26 i0 (by omega))] [] hr (by kernel_rfl)
theorem Q19x (p0 : List Fld) (p1 : Fld) (H : Q7m p0 p1) (x0 : Fld) (i0 : Nat) (ah : List Fld) (ay : Bool) (bH : p0[i0]? = some x0) (bT : i0 < List.length p0) (aR : List.length ah ≤ 2 * i0) (bF : (decide ((i0 : Int) < ((List.length p0) : Int))) = true) (h0 : (ay == true) = false) (h1 : ((sLt p1.name x0.name) || (sEq p1.name x0.name)) = true) (h2 : (sEq x0.name p1.name) = true) {r : Rs} (hr : Q5 G (Q4v p0 p1 (i0 + 1) (ah ++ [p1]) true) r) : Q5 G (Q4v p0 p1 i0 ah ay) r := by
 have hB0 := H.1
 exact Qc (Q9n p0 p1 i0 ah ay) [hP 2 (Qq _ _ (Fld.Q7 p0)), hB 0 bF, hB 0 (beqT h0), hP 6 (Q1f 6 _ i0 _ (Fld.Qb bH) rfl), hB 2 h1, hA 4 1 1154 1218 6 96 0 0 true Fld.Q7 Fld.Q1l ah p1 (Fld.Qt ah) rfl rfl (by omega), hS 0 true (Fld.Q8 (ah ++ [p1]) 6 rfl), hP 4 (Q1f 6 _ i0 _ (Fld.Qb bH) rfl), hP 4 (dec (!(sEq x0.name p1.name)) false (by rw [h2]; rfl)), hP 1 (Q26 i0 (by omega))] [] hr (by kernel_rfl)
theorem Q19y (p0 : List Fld) (p1 : Fld) (H : Q7m p0 p1) (x0 : Fld) (i0 : Nat) (ah : List Fld) (ay : Bool) (bH : p0[i0]? = some x0) (bT : i0 < List.length p0) (aR : List.length ah ≤ 2 * i0) (bF : (decide ((i0 : Int) < ((List.length p0) : Int))) = true) (h0 : (ay == true) = false) (h1 : ((sLt p1.name x0.name) || (sEq p1.name x0.name)) = true) (h2 : (sEq x0.name p1.name) = false) {r : Rs} (hr : Q5 G (Q4v p0 p1 (i0 + 1) ((ah ++ [p1]) ++ [x0]) true) r) : Q5 G (Q4v p0 p1 i0 ah ay) r := by
 have hB0 := H.1
 exact Qc (Q9n p0 p1 i0 ah ay) [hP 2 (Qq _ _ (Fld.Q7 p0)), hB 0 bF, hB 0 (beqT h0), hP 6 (Q1f 6 _ i0 _ (Fld.Qb bH) rfl), hB 2 h1, hA 4 1 1154 1218 6 96 0 0 true Fld.Q7 Fld.Q1l ah p1 (Fld.Qt ah) rfl rfl (by omega), hS 0 true (Fld.Q8 (ah ++ [p1]) 6 rfl), hP 4 (Q1f 6 _ i0 _ (Fld.Qb bH) rfl), hP 4 (dec (!(sEq x0.name p1.name)) true (by rw [h2]; rfl)), hP 3 (Q1f 6 _ i0 _ (Fld.Qb bH) rfl), hA 2 1218 2242 2306 6 96 0 0 true Fld.Q7 Fld.Q1l (ah ++ [p1]) x0 (Fld.Qt (ah ++ [p1])) rfl rfl (by try simp only [List.length_append, List.length_cons, List.length_nil]; omega), hS 0 true (Fld.Q8 ((ah ++ [p1]) ++ [x0]) 6 rfl), hP 2 (Q26 i0 (by omega))] [] hr (by kernel_rfl)
theorem Q19z (p0 : List Fld) (p1 : Fld) (H : Q7m p0 p1) (x0 : Fld) (i0 : Nat) (ah : List Fld) (ay : Bool) (bH : p0[i0]? = some x0) (bT : i0 < List.length p0) (_aR : List.length ah ≤ 2 * i0) (bF : (decide ((i0 : Int) < ((List.length p0) : Int))) = true) (h0 : (ay == true) = false) (h1 : ((sLt p1.name x0.name) || (sEq p1.name x0.name)) = false) (h2 : (sEq x0.name p1.name) = true) {r : Rs} (hr : Q5 G (Q4v p0 p1 (i0 + 1) ah ay) r) : Q5 G (Q4v p0 p1 i0 ah ay) r := by
 have hB0 := H.1
 exact Qc (Q9n p0 p1 i0 ah ay) [hP 2 (Qq _ _ (Fld.Q7 p0)), hB 0 bF, hB 0 (beqT h0), hP 6 (Q1f 6 _ i0 _ (Fld.Qb bH) rfl), hB 2 h1, hP 3 (Q1f 6 _ i0 _ (Fld.Qb bH) rfl), hP 4 (dec (!(sEq x0.name p1.name)) false (by rw [h2]; rfl)), hP 1 (Q26 i0 (by omega))] [] hr (by kernel_rfl)
theorem Q1a0 (p0 : List Fld) (p1 : Fld) (H : Q7m p0 p1) (x0 : Fld) (i0 : Nat) (ah : List Fld) (ay : Bool) (bH : p0[i0]? = some x0) (bT : i0 < List.length p0) (aR : List.length ah ≤ 2 * i0) (bF : (decide ((i0 : Int) < ((List.length p0) : Int))) = true) (h0 : (ay == true) = false) (h1 : ((sLt p1.name x0.name) || (sEq p1.name x0.name)) = false) (h2 : (sEq x0.name p1.name) = false) {r : Rs} (hr : Q5 G (Q4v p0 p1 (i0 + 1) (ah ++ [x0]) ay) r) : Q5 G (Q4v p0 p1 i0 ah ay) r := by
 have hB0 := H.1
 exact Qc (Q9n p0 p1 i0 ah ay) [hP 2 (Qq _ _ (Fld.Q7 p0)), hB 0 bF, hB 0 (beqT h0), hP 6 (Q1f 6 _ i0 _ (Fld.Qb bH) rfl), hB 2 h1, hP 3 (Q1f 6 _ i0 _ (Fld.Qb bH) rfl), hP 4 (dec (!(sEq x0.name p1.name)) true (by rw [h2]; rfl)), hP 3 (Q1f 6 _ i0 _ (Fld.Qb bH) rfl), hA 2 1 1858 1922 6 96 0 0 true Fld.Q7 Fld.Q1l ah x0 (Fld.Qt ah) rfl rfl (by omega), hS 0 true (Fld.Q8 (ah ++ [x0]) 6 rfl), hP 2 (Q26 i0 (by omega))] [] hr (by kernel_rfl)
theorem Q88 (p0 : List Fld) (p1 : Fld) (H : Q7m p0 p1) : ∀ (r0 : List Fld) (i0 : Nat) (ah : List Fld) (ay : Bool), List.drop i0 p0 = r0 → List.length ah ≤ 2 * i0 → Qi3 p0 p1 (Q4v p0 p1 i0 ah ay) (Q3m p0 p1 r0 i0 ah ay)
 | [], i0, ah, ay, hd, aR => by
  have bF : (decide ((i0 : Int) < ((List.length p0) : Int))) = false := by have := Q1n hd; simp; omega
  rw [Q3m]
  exact Q1cl p0 p1 H i0 ah ay aR bF
 | x0 :: r0, i0, ah, ay, hd, aR => by
  obtain ⟨bH, bT, hd'⟩ := Q1o hd
  have bF : (decide ((i0 : Int) < ((List.length p0) : Int))) = true := by simp; omega
  rw [Q3m]
  cases h0 : (ay == true) with
  | true =>
   cases h1 : (sEq x0.name p1.name) with
   | true =>
    exact Q54 p0 p1 (fun r hr => Q19v p0 p1 H x0 i0 ah ay bH bT aR bF h0 h1 hr) _ (Q88 p0 p1 H r0 _ _ _ hd' (by first | omega | (simp; omega)))
   | false =>
    exact Q54 p0 p1 (fun r hr => Q19w p0 p1 H x0 i0 ah ay bH bT aR bF h0 h1 hr) _ (Q88 p0 p1 H r0 _ _ _ hd' (by first | omega | (simp; omega)))
  | false =>
   cases h1 : ((sLt p1.name x0.name) || (sEq p1.name x0.name)) with
   | true =>
    cases h2 : (sEq x0.name p1.name) with
    | true =>
     exact Q54 p0 p1 (fun r hr => Q19x p0 p1 H x0 i0 ah ay bH bT aR bF h0 h1 h2 hr) _ (Q88 p0 p1 H r0 _ _ _ hd' (by first | omega | (simp; omega)))
    | false =>
     exact Q54 p0 p1 (fun r hr => Q19y p0 p1 H x0 i0 ah ay bH bT aR bF h0 h1 h2 hr) _ (Q88 p0 p1 H r0 _ _ _ hd' (by first | omega | (simp; omega)))
   | false =>
    cases h2 : (sEq x0.name p1.name) with
    | true =>
     exact Q54 p0 p1 (fun r hr => Q19z p0 p1 H x0 i0 ah ay bH bT aR bF h0 h1 h2 hr) _ (Q88 p0 p1 H r0 _ _ _ hd' (by first | omega | (simp; omega)))
    | false =>
     exact Q54 p0 p1 (fun r hr => Q1a0 p0 p1 H x0 i0 ah ay bH bT aR bF h0 h1 h2 hr) _ (Q88 p0 p1 H r0 _ _ _ hd' (by first | omega | (simp; omega)))
def Q1i9 (p0 : List Fld) (p1 : Fld) : List Fld :=
 bif (Q3m p0 p1 p0 0 [] false).2 then
  (Q3m p0 p1 p0 0 [] false).1
 else
  ((Q3m p0 p1 p0 0 [] false).1 ++ [p1])
def Q26h (p0 : List Fld) (p1 : Fld) : En := .call 173 [.sl (Fld.rows p0), .agg (Fld.cells p1)] []
def Q1vh (p0 : List Fld) (p1 : Fld) : Rs := .ret (.sl (Fld.rows (Q1i9 p0 p1))) []
def Q1un (p0 : List Fld) (p1 : Fld) : Prop := (Q7m p0 p1) ∧ ((Q3m p0 p1 p0 0 [] false).2 = false → ((List.length (Q3m p0 p1 p0 0 [] false).1) + 1) * 96 ≤ 140737488355328) ∧ True
theorem Q2et (p0 : List Fld) (p1 : Fld) (H : Q1un p0 p1) : Q5 G (Q26h p0 p1) (Q1vh p0 p1) := by
 unfold Q1vh Q1i9
 have hl0 := Q88 p0 p1 (H.1) p0 0 [] false (by simp) (by simp)
 obtain ⟨z0, eG, hl0⟩ := hl0
 cases h0 : (Q3m p0 p1 p0 0 [] false).2 with
 | true =>
  exact Q6 (fn := Ir.K1u) (by kernel_rfl) VOK.nil [hS 0 true (Fld.Q8 (Q3m p0 p1 p0 0 [] false).1 6 rfl), hB 5 h0, hQ (Fld.Q7 (Q3m p0 p1 p0 0 [] false).1).symm] [aV [(1, Fld.rows (Q3m p0 p1 p0 0 [] false).1)] hl0] (by kernel_rfl)
 | false =>
  exact Q6 (fn := Ir.K1u) (by kernel_rfl) VOK.nil [hS 0 true (Fld.Q8 (Q3m p0 p1 p0 0 [] false).1 6 rfl), hB 5 h0, hA 4 1 514 578 6 96 0 0 true Fld.Q7 Fld.Q1l (Q3m p0 p1 p0 0 [] false).1 p1 (Fld.Qt (Q3m p0 p1 p0 0 [] false).1) rfl rfl (H.2.1 h0), hS 0 true (Fld.Q8 ((Q3m p0 p1 p0 0 [] false).1 ++ [p1]) 6 rfl), hQ (Fld.Q7 ((Q3m p0 p1 p0 0 [] false).1 ++ [p1])).symm] [aV [(1, Fld.rows (Q3m p0 p1 p0 0 [] false).1)] hl0] (by kernel_rfl)
def Qeb (p0 : List Fld) : List Fld → Nat → Val → Val
 | [], _i0, ah =>
  ah
 | x0 :: r0, i0, ah =>
  Qeb p0 r0 (i0 + 1) (Val.mk ah.kind ah.n ah.s ah.list (Q1i9 ah.fields x0))
def Q1e6 (p0 : List Fld) (i0 : Nat) (_ah : Val) : List PV :=
  [.sl (Fld.rows p0), .un, .bx 0 0, .bx 1 0, iN (i0 : Int)] ++ nuns 24
def Q1fn (_p0 : List Fld) (_i0 : Nat) (ah : Val) : List Ob :=
  [⟨5, 0, true, [iN 0, iN 0, .str eB, .sl [], .sl []]⟩, ⟨5, 0, true, (Val.cells ah)⟩]
def Qgd (p0 : List Fld) (i0 : Nat) (ah : Val) : En := .loop 0 Ir.Qk8 Ir.Q1ml (Q1e6 p0 i0 ah) (Q1fn p0 i0 ah)
def Qr5 (_p0 : List Fld) (q0 : Val) (z : Nat → PV) (_zo : Nat → List PV) : St :=
  ⟨[z 0, z 1, .bx 0 0, .bx 1 0] ++ zr z 4 25, [(0, ⟨5, 0, true, [iN 0, iN 0, .str eB, .sl [], .sl []]⟩), (1, ⟨5, 0, true, (Val.cells q0)⟩)], 258⟩
def Qi2 (p0 : List Fld) (e : En) (q : Val) : Prop := ∃ z zo, Q5 G e (.st (.exit 0) (Qr5 p0 q z zo))
theorem Qvs (p0 : List Fld) {e e' : En} (h : ∀ r, Q5 G e r → Q5 G e' r) : ∀ q, Qi2 p0 e q → Qi2 p0 e' q
  | _, ⟨z, zo, hz⟩ => ⟨z, zo, h _ hz⟩
def Qhd (p0 : List Fld) : Prop := (List.length p0 ≤ 137438953472) ∧ (∀ x0 ∈ p0, Qzv x0.v) ∧ (∀ (i0 : Nat) (ah : Val) (x0 : Fld), p0[i0]? = some x0 → List.length ah.fields ≤ i0 → Q1un ah.fields x0) ∧ (∀ (i0 : Nat) (ah : Val) (x0 : Fld), p0[i0]? = some x0 → List.length ah.fields ≤ i0 → List.length (Val.mk ah.kind ah.n ah.s ah.list (Q1i9 ah.fields x0)).fields ≤ (i0 + 1)) ∧ True
def Qsz (p0 : List Fld) (i0 : Nat) (_ah : Val) : List PV :=
  [.sl (Fld.rows p0), .un, .un, .un, iN (i0 : Int), .un, iN (i0 : Int), .sl (Fld.rows p0), iN ((List.length p0) : Int), .bool false]
def Qlx (_p0 : List Fld) (_i0 : Nat) (_ah : Val) : List (Nat × List PV) :=
  []
theorem Q1cf (p0 : List Fld) (_H : Qhd p0) (i0 : Nat) (ah : Val) (_aR : List.length ah.fields ≤ i0) (bF : (decide ((i0 : Int) < ((List.length p0) : Int))) = false) : Qi2 p0 (Qgd p0 i0 ah) ah := by
 exact ⟨(envF (Qsz p0 i0 ah)), (zoF (Qlx p0 i0 ah)), Qg VOK.nil (x := ((.exit 0), Qr5 p0 ah (envF (Qsz p0 i0 ah)) (zoF (Qlx p0 i0 ah)))) [hP 2 (Qq _ _ (Fld.Q7 p0)), hB 0 bF] [] (by kernel_rfl)⟩
theorem Q19s (p0 : List Fld) (H : Qhd p0) (x0 : Fld) (i0 : Nat) (ah : Val) (bH : p0[i0]? = some x0) (bT : i0 < List.length p0) (aR : List.length ah.fields ≤ i0) (bF : (decide ((i0 : Int) < ((List.length p0) : Int))) = true) {r : Rs} (hr : Q5 G (Qgd p0 (i0 + 1) (Val.mk ah.kind ah.n ah.s ah.list (Q1i9 ah.fields x0))) r) : Q5 G (Qgd p0 i0 ah) r := by
 have hB0 := H.1
 exact Qc VOK.nil [hP 2 (Qq _ _ (Fld.Q7 p0)), hB 0 bF, hP 4 (Q1f 6 _ i0 _ (Fld.Qb bH) rfl), hP 4 (Q1f 6 _ i0 _ (Fld.Qb bH) rfl), hP 8 (Q26 i0 (by omega))] [aN (Q2eq x0.v (H.2.1 x0 (Q15 bH))), aN (Q2et ah.fields x0 (H.2.2.1 i0 ah x0 bH aR))] hr (by kernel_rfl)
theorem Q11i (p0 : List Fld) (H : Qhd p0) : ∀ (r0 : List Fld) (i0 : Nat) (ah : Val), List.drop i0 p0 = r0 → List.length ah.fields ≤ i0 → Qi2 p0 (Qgd p0 i0 ah) (Qeb p0 r0 i0 ah)
 | [], i0, ah, hd, aR => by
  have bF : (decide ((i0 : Int) < ((List.length p0) : Int))) = false := by have := Q1n hd; simp; omega
  rw [Qeb]
  exact Q1cf p0 H i0 ah aR bF
 | x0 :: r0, i0, ah, hd, aR => by
  obtain ⟨bH, bT, hd'⟩ := Q1o hd
  have bF : (decide ((i0 : Int) < ((List.length p0) : Int))) = true := by simp; omega
  rw [Qeb]
  exact Qvs p0 (fun r hr => Q19s p0 H x0 i0 ah bH bT aR bF hr) _ (Q11i p0 H r0 _ _ hd' ((H.2.2.2.1 i0 ah x0 bH aR)))
def Q12w (p0 : List Fld) : Val :=
 (Qeb p0 p0 0 (Val.mk 5 0 eB [] []))
def Q1z6 (p0 : List Fld) : En := .call 66 [.sl (Fld.rows p0)] []
def Q1ve (p0 : List Fld) : Rs := .ret (.agg (Val.cells (Q12w p0))) []
def Q1fx (p0 : List Fld) : Prop := List.length p0 ≤ 1 ∧ ∀ f ∈ p0, Val.Sm 1000000000 f.v
theorem Q16e (p0 : List Fld) (H : Q1fx p0) : (Qhd p0) ∧ (List.length (Val.mk 5 0 eB [] []).fields ≤ 0) ∧ True := by
  have H' : p0.length ≤ 1 ∧ ∀ f ∈ p0, Val.Sm 1000000000 f.v := H
  have hz : ∀ (i : Nat) (v : Val) (x : Fld), p0[i]? = some x → v.fields.length ≤ i → v.fields = [] ∧ i = 0 := fun i v x h g => by
    have := (List.getElem?_eq_some_iff.1 h).1
    exact ⟨List.eq_nil_of_length_eq_zero (by omega), by omega⟩
  refine ⟨⟨by omega, H'.2, fun i v x h g => ?_, fun i v x h g => ?_, trivial⟩, Nat.le_refl 0, trivial⟩
  · rw [(hz i v x h g).1]
    exact ⟨⟨Nat.zero_le _, trivial⟩, fun _ => Nat.le_of_ble_eq_true rfl, trivial⟩
  · obtain ⟨e1, e2⟩ := hz i v x h g
    rw [e1, e2]
    exact Nat.le_of_ble_eq_true rfl
theorem Q1qb (p0 : List Fld) (H : Q1fx p0) : Q5 G (Q1z6 p0) (Q1ve p0) := by
 unfold Q1ve Q12w
 have hl0 := Q11i p0 ((Q16e p0 H).1) p0 0 (Val.mk 5 0 eB [] []) (by simp) ((Q16e p0 H).2.1)
 obtain ⟨z0, eG, hl0⟩ := hl0
 exact Q6 (fn := Ir.K1q) (by kernel_rfl) VOK.nil [] [aN hl0] (by kernel_rfl)
def Q1by (p0 : aY) : aD := aY.obj p0
theorem Q2bf (p0 : aY) : Q1by p0 = ((Qye Q2r p0.aM (Q1m0 p0) (Q12w ([(Fld.mk Q10 (Q142 p0.dF))])))) := by
  first | rfl | kernel_rfl
def Q281 (p0 : aY) : En := .call 39 [.agg (aY.cells p0)] []
def Q1x3 (p0 : aY) : Rs := .ret (.agg (aD.cells (Q1by p0))) []
def Q1jn (p0 : aY) : Prop := aY.sm p0
theorem Q170 (p0 : aY) (H : Q1jn p0) : (Q1os p0) ∧ (Q1fx ([(Fld.mk Q10 (Q142 p0.dF))])) ∧ True := by
  exact ⟨(by first | exact True.intro | exact H | exact H.1 | exact H.2.1 | exact ⟨H.1, trivial⟩ | exact ⟨H.2.1, trivial⟩), ⟨Nat.le_of_ble_eq_true rfl, List.forall_mem_cons.2 ⟨Val.Sm.leaf _ _ _, List.forall_mem_nil _⟩⟩, trivial⟩
theorem Q20c (p0 : aY) (H : Q1jn p0) : Q5 G (Q281 p0) (Q1x3 p0) := by
 unfold Q1x3
 rw [Q2bf]
 exact Q6 (fn := Ir.K3u) (by kernel_rfl) VOK.nil [] [aN (Q2f9 p0 (Q170 p0 H).1), aN (Q2er p0.dF), aN (Q79 (e' := .call 66 [.sl [(Fld.cells (Fld.mk Q10 (Q142 p0.dF)))]] []) (Q1qb ([(Fld.mk Q10 (Q142 p0.dF))]) (Q170 p0 H).2.1) (by simp only [Q1z6, Fld.Q1w, Fld.Q2h])), aN (Q148 Q2r p0.aM (Q1m0 p0) (Q12w ([(Fld.mk Q10 (Q142 p0.dF))])))] (by kernel_rfl)
def Q56 (p0 : aH) : List aT → Nat → (List Val) → List Val
 | [], _i0, ah =>
  ah
 | x0 :: r0, i0, ah =>
  Q56 p0 r0 (i0 + 1) (ah ++ [(Q37 ([(Fld.mk Q2v (Q2l x0.iQ)), (Fld.mk Q1b (Q2l x0.fD)), (Fld.mk Q10 (Q1m x0.dF)), (Fld.mk Qh (Q36 x0.ready)), (Fld.mk Q1y (Q36 x0.dH))]))])
theorem Q185 (p0 : aH) : ∀ (l : List aT) (i : Nat) (a : List Val), Q56 p0 l i a = a ++ l.map (fun x0 => (Q37 ([(Fld.mk Q2v (Q2l x0.iQ)), (Fld.mk Q1b (Q2l x0.fD)), (Fld.mk Q10 (Q1m x0.dF)), (Fld.mk Qh (Q36 x0.ready)), (Fld.mk Q1y (Q36 x0.dH))])))
  | [], _, _ => by simp [Q56]
  | x :: r, i, a => by rw [Q56, Q185 p0 r]; simp
def Q1ef (_p0 : aH) (i0 : Nat) (ah : List Val) : List PV :=
  [.un, .bx 0 0, .bx 1 0, .ms 2 5 0 (List.length ah), iN (i0 : Int)] ++ nuns 47
def Qyr (p0 : aH) (_i0 : Nat) (ah : List Val) : List Ob :=
  [⟨15, 0, true, (aH.cells p0)⟩, ⟨5, 0, true, [iN 0, iN 0, .str eB, .ms 3 5 0 0, .ms 4 6 0 0]⟩, ⟨5, 0, true, (Val.rows ah).flatten⟩, ⟨5, 0, true, []⟩, ⟨6, 0, true, []⟩]
def Qgj (p0 : aH) (i0 : Nat) (ah : List Val) : En := .loop 0 Ir.Qkh Ir.Q1mu (Q1ef p0 i0 ah) (Qyr p0 i0 ah)
def Qrd (p0 : aH) (q0 : List Val) (z : Nat → PV) (_zo : Nat → List PV) : St :=
  ⟨[z 0, .bx 0 0, .bx 1 0, .ms 2 5 0 (List.length q0)] ++ zr z 4 48, [(0, ⟨15, 0, true, (aH.cells p0)⟩), (1, ⟨5, 0, true, [iN 0, iN 0, .str eB, .ms 3 5 0 0, .ms 4 6 0 0]⟩), (2, ⟨5, 0, true, (Val.rows q0).flatten⟩), (3, ⟨5, 0, true, []⟩), (4, ⟨6, 0, true, []⟩)], 325⟩
theorem Q156 (p0 : aH) (i0 : Nat) (ah : List Val) : VOK (Go.Pv.look (number 0 (Qyr p0 i0 ah))) [(2, Val.rows ah)] := (VOK.cons (show Seen _ _ from Q3r (ob := ⟨5, 0, true, (Val.rows ah).flatten⟩) (Val.Q8 ah 5 rfl)) VOK.nil)
def Qi5 (p0 : aH) (e : En) (q : List Val) : Prop := ∃ z zo, Q5 G e (.st (.exit 0) (Qrd p0 q z zo))
theorem Qw0 (p0 : aH) {e e' : En} (h : ∀ r, Q5 G e r → Q5 G e' r) : ∀ q, Qi5 p0 e q → Qi5 p0 e' q
  | _, ⟨z, zo, hz⟩ => ⟨z, zo, h _ hz⟩
def Qhj (p0 : aH) : Prop := (List.length p0.eF ≤ 137438953472) ∧ True
def Qtb (p0 : aH) (i0 : Nat) (_ah : List Val) : List PV :=
  [.un, .un, .un, .un, iN (i0 : Int), .un, iN (i0 : Int), .bx 0 14, .sl (aT.rows p0.eF), iN ((List.length p0.eF) : Int), .bool false]
def Qm9 (_p0 : aH) (_i0 : Nat) (_ah : List Val) : List (Nat × List PV) :=
  []
theorem Q1cr (p0 : aH) (_H : Qhj p0) (i0 : Nat) (ah : List Val) (_aR : List.length ah ≤ i0) (bF : (decide ((i0 : Int) < ((List.length p0.eF) : Int))) = false) : Qi5 p0 (Qgj p0 i0 ah) ah := by
 exact ⟨(envF (Qtb p0 i0 ah)), (zoF (Qm9 p0 i0 ah)), Qg (Q156 p0 i0 ah) (x := ((.exit 0), Qrd p0 ah (envF (Qtb p0 i0 ah)) (zoF (Qm9 p0 i0 ah)))) [hP 3 (Qq _ _ (aT.Q7 p0.eF)), hB 0 bF] [] (by kernel_rfl)⟩
theorem Q1a6 (p0 : aH) (H : Qhj p0) (x0 : aT) (i0 : Nat) (ah : List Val) (bH : p0.eF[i0]? = some x0) (bT : i0 < List.length p0.eF) (aR : List.length ah ≤ i0) (bF : (decide ((i0 : Int) < ((List.length p0.eF) : Int))) = true) {r : Rs} (hr : Q5 G (Qgj p0 (i0 + 1) (ah ++ [(Q37 ([(Fld.mk Q2v (Q2l x0.iQ)), (Fld.mk Q1b (Q2l x0.fD)), (Fld.mk Q10 (Q1m x0.dF)), (Fld.mk Qh (Q36 x0.ready)), (Fld.mk Q1y (Q36 x0.dH))]))])) r) : Q5 G (Qgj p0 i0 ah) r := by
 have hB0 := H.1
 exact Qc (Q156 p0 i0 ah) [hP 3 (Qq _ _ (aT.Q7 p0.eF)), hB 0 bF, hP 3 (Q1f 5 _ i0 _ (aT.Qb bH) rfl), hA 27 2 2245 2309 5 80 0 0 true Val.Q7 Val.Q1l ah (Q37 ([(Fld.mk Q2v (Q2l x0.iQ)), (Fld.mk Q1b (Q2l x0.fD)), (Fld.mk Q10 (Q1m x0.dF)), (Fld.mk Qh (Q36 x0.ready)), (Fld.mk Q1y (Q36 x0.dH))])) (Val.Qt ah) rfl rfl (by omega), hS 0 true (Val.Q8 (ah ++ [(Q37 ([(Fld.mk Q2v (Q2l x0.iQ)), (Fld.mk Q1b (Q2l x0.fD)), (Fld.mk Q10 (Q1m x0.dF)), (Fld.mk Qh (Q36 x0.ready)), (Fld.mk Q1y (Q36 x0.dH))]))]) 5 rfl), hP 2 (Q26 i0 (by omega))] [aN (Qcr x0.iQ), aN (Qcr x0.fD), aN (Q50 x0.dF), aN (Qeu x0.ready), aN (Qeu x0.dH), aN (Q79 (e' := .call 163 [.sl [(Fld.cells (Fld.mk Q2v (Q2l x0.iQ))), (Fld.cells (Fld.mk Q1b (Q2l x0.fD))), (Fld.cells (Fld.mk Q10 (Q1m x0.dF))), (Fld.cells (Fld.mk Qh (Q36 x0.ready))), (Fld.cells (Fld.mk Q1y (Q36 x0.dH)))]] []) (Q7l ([(Fld.mk Q2v (Q2l x0.iQ)), (Fld.mk Q1b (Q2l x0.fD)), (Fld.mk Q10 (Q1m x0.dF)), (Fld.mk Qh (Q36 x0.ready)), (Fld.mk Q1y (Q36 x0.dH))]) (Nat.le_of_ble_eq_true rfl)) (by simp only [Q74, Fld.Q1w, Fld.Q2h]))] hr (by kernel_rfl)
theorem Q11q (p0 : aH) (H : Qhj p0) : ∀ (r0 : List aT) (i0 : Nat) (ah : List Val), List.drop i0 p0.eF = r0 → List.length ah ≤ i0 → Qi5 p0 (Qgj p0 i0 ah) (Q56 p0 r0 i0 ah)
 | [], i0, ah, hd, aR => by
  have bF : (decide ((i0 : Int) < ((List.length p0.eF) : Int))) = false := by have := Q1n hd; simp; omega
  rw [Q56]
  exact Q1cr p0 H i0 ah aR bF
 | x0 :: r0, i0, ah, hd, aR => by
  obtain ⟨bH, bT, hd'⟩ := Q1o hd
  have bF : (decide ((i0 : Int) < ((List.length p0.eF) : Int))) = true := by simp; omega
  rw [Q56]
  exact Qw0 p0 (fun r hr => Q1a6 p0 H x0 i0 ah bH bT aR bF hr) _ (Q11q p0 H r0 _ _ hd' (by first | omega | (simp; omega)))
def Q1lv (p0 : aH) : Val := aH.encS p0
theorem Q2a6 (p0 : aH) : Q1lv p0 = ((Q37 ([(Fld.mk Qn (Q12x p0.dG)), (Fld.mk Q20 (Val.mk 4 0 eB (Q56 p0 p0.eF 0 []) []))]))) := by
  simp only [Q185]
  kernel_rfl
def Q26r (p0 : aH) : En := .call 145 [.agg (aH.cells p0)] []
def Q1vr (p0 : aH) : Rs := .ret (.agg (Val.cells (Q1lv p0))) []
def Q1ok (p0 : aH) : Prop := aH.sm p0
theorem Q16h (p0 : aH) (H : Q1ok p0) : (Qhj p0) ∧ (Q1ji p0.dG) ∧ True := by
  exact ⟨⟨Nat.le_trans H.2.1.1 (Nat.le_of_ble_eq_true rfl), trivial⟩, (by first | exact True.intro | exact H | exact H.1 | exact H.2.1 | exact ⟨H.1, trivial⟩ | exact ⟨H.2.1, trivial⟩), trivial⟩
theorem Q2ez (p0 : aH) (H : Q1ok p0) : Q5 G (Q26r p0) (Q1vr p0) := by
 unfold Q1vr
 rw [Q2a6]
 have hl0 := Q11q p0 ((Q16h p0 H).1) p0.eF 0 [] (by simp) (by simp)
 obtain ⟨z0, eG, hl0⟩ := hl0
 exact Q6 (fn := Ir.K2b) (by kernel_rfl) VOK.nil [hS 0 true (Val.Q8 (Q56 p0 p0.eF 0 []) 5 rfl), hQ (Val.Q7 (Q56 p0 p0.eF 0 [])).symm] [aV [(2, Val.rows (Q56 p0 p0.eF 0 []))] hl0, aN (Q200 p0.dG (Q16h p0 H).2.1), aN (Q79 (e' := .call 163 [.sl [(Fld.cells (Fld.mk Qn (Q12x p0.dG))), (Fld.cells (Fld.mk Q20 (Val.mk 4 0 eB (Q56 p0 p0.eF 0 []) [])))]] []) (Q7l ([(Fld.mk Qn (Q12x p0.dG)), (Fld.mk Q20 (Val.mk 4 0 eB (Q56 p0 p0.eF 0 []) []))]) (Nat.le_of_ble_eq_true rfl)) (by simp only [Q74, Fld.Q1w, Fld.Q2h]))] (by kernel_rfl)
def Q1bu (p0 : aH) : aD := aH.obj p0
theorem Q2bb (p0 : aH) : Q1bu p0 = ((Qye Q1k p0.aM (Q1lv p0) (Q12w []))) := by
  first | rfl | kernel_rfl
def Q27x (p0 : aH) : En := .call 40 [.agg (aH.cells p0)] []
def Q1wz (p0 : aH) : Rs := .ret (.agg (aD.cells (Q1bu p0))) []
def Q1jk (p0 : aH) : Prop := aH.sm p0
theorem Q16y (p0 : aH) (H : Q1jk p0) : (Q1ok p0) ∧ (Q1fx []) ∧ True := by
  exact ⟨(by first | exact True.intro | exact H | exact H.1 | exact H.2.1 | exact ⟨H.1, trivial⟩ | exact ⟨H.2.1, trivial⟩), ⟨Nat.le_of_ble_eq_true rfl, List.forall_mem_nil _⟩, trivial⟩
theorem Q208 (p0 : aH) (H : Q1jk p0) : Q5 G (Q27x p0) (Q1wz p0) := by
 unfold Q1wz
 rw [Q2bb]
 exact Q6 (fn := Ir.K3p) (by kernel_rfl) VOK.nil [] [aN (Q2ez p0 (Q16y p0 H).1), aN (Q1qb [] (Q16y p0 H).2.1), aN (Q148 Q1k p0.aM (Q1lv p0) (Q12w []))] (by kernel_rfl)
end Go.Proofs.YtimjjohlpnkacaaGreat
end

section
/- What the reference's encoders compute (printed by a program). -/
namespace Go.Proofs.YtimjjohlpnkacaaGreat
open Go.Pv
def Q4c (p0 : aA) (i0 : Nat) (ah : List Val) (x0 : aG) : List bM → Nat → (List Val) → List Val
 | [], _i1, bQ =>
  bQ
 | x1 :: r1, i1, bQ =>
  Q4c p0 i0 ah x0 r1 (i1 + 1) (bQ ++ [(Q37 ([(Fld.mk Q1r (Q2l x1.bO)), (Fld.mk Q0 (Q47 x1.bq))]))])
theorem Q188 (p0 : aA) (i0 : Nat) (ah : List Val) (x0 : aG) : ∀ (l : List bM) (i : Nat) (a : List Val), Q4c p0 i0 ah x0 l i a = a ++ l.map (fun x1 => (Q37 ([(Fld.mk Q1r (Q2l x1.bO)), (Fld.mk Q0 (Q47 x1.bq))])))
  | [], _, _ => by simp [Q4c]
  | x :: r, i, a => by rw [Q4c, Q188 p0 i0 ah x0 r]; simp
def Q1el (_p0 : aA) (i0 : Nat) (ah : List Val) (_x0 : aG) (i1 : Nat) (bQ : List Val) : List PV :=
  [.un, .bx 0 0, .bx 1 0, .ms 2 5 0 (List.length ah), iN (i0 : Int), .ms 3 5 0 (List.length bQ), iN (i1 : Int)] ++ nuns 82
def Qyx (p0 : aA) (_i0 : Nat) (ah : List Val) (_x0 : aG) (_i1 : Nat) (bQ : List Val) : List Ob :=
  [⟨17, 0, true, (aA.cells p0)⟩, ⟨5, 0, true, [iN 0, iN 0, .str eB, .ms 4 5 0 0, .ms 5 6 0 0]⟩, ⟨5, 0, true, (Val.rows ah).flatten⟩, ⟨5, 0, true, (Val.rows bQ).flatten⟩, ⟨5, 0, true, []⟩, ⟨6, 0, true, []⟩]
def Qcz (p0 : aA) (i0 : Nat) (ah : List Val) (x0 : aG) (i1 : Nat) (bQ : List Val) : En := .loop 0 Ir.Qkn Ir.Q1n0 (Q1el p0 i0 ah x0 i1 bQ) (Qyx p0 i0 ah x0 i1 bQ)
def Qf1 (p0 : aA) (i0 : Nat) (ah : List Val) (_x0 : aG) (q0 : List Val) (z : Nat → PV) (_zo : Nat → List PV) : St :=
  ⟨[z 0, .bx 0 0, .bx 1 0, .ms 2 5 0 (List.length ah), iN (i0 : Int), .ms 3 5 0 (List.length q0)] ++ zr z 6 83, [(0, ⟨17, 0, true, (aA.cells p0)⟩), (1, ⟨5, 0, true, [iN 0, iN 0, .str eB, .ms 4 5 0 0, .ms 5 6 0 0]⟩), (2, ⟨5, 0, true, (Val.rows ah).flatten⟩), (3, ⟨5, 0, true, (Val.rows q0).flatten⟩), (4, ⟨5, 0, true, []⟩), (5, ⟨6, 0, true, []⟩)], 582⟩
theorem Q15a (p0 : aA) (i0 : Nat) (ah : List Val) (x0 : aG) (i1 : Nat) (bQ : List Val) : VOK (Go.Pv.look (number 0 (Qyx p0 i0 ah x0 i1 bQ))) [(2, Val.rows ah), (3, Val.rows bQ)] := (VOK.cons (show Seen _ _ from Q3r (ob := ⟨5, 0, true, (Val.rows ah).flatten⟩) (Val.Q8 ah 5 rfl)) (VOK.cons (show Seen _ _ from Q3r (ob := ⟨5, 0, true, (Val.rows bQ).flatten⟩) (Val.Q8 bQ 5 rfl)) VOK.nil))
def Qia (p0 : aA) (i0 : Nat) (ah : List Val) (x0 : aG) (e : En) (q : List Val) : Prop := ∃ z zo, Q5 G e (.st (.exit 2) (Qf1 p0 i0 ah x0 q z zo))
theorem Qw5 (p0 : aA) (i0 : Nat) (ah : List Val) (x0 : aG) {e e' : En} (h : ∀ r, Q5 G e r → Q5 G e' r) : ∀ q, Qia p0 i0 ah x0 e q → Qia p0 i0 ah x0 e' q
  | _, ⟨z, zo, hz⟩ => ⟨z, zo, h _ hz⟩
def Qhn (p0 : aA) (i0 : Nat) (_ah : List Val) (x0 : aG) : Prop := (List.length x0.dJ ≤ 137438953472) ∧ (∀ x1 ∈ x0.dJ, Qft x1.bq) ∧ (p0.dO[i0]? = some x0) ∧ True
def Qti (p0 : aA) (i0 : Nat) (_ah : List Val) (x0 : aG) (i1 : Nat) (_bQ : List Val) : List PV :=
  nuns 6 ++ [iN (i1 : Int)] ++ nuns 8 ++ [iN (i1 : Int), .bx 0 16, .sl (aG.rows p0.dO), iN (i0 : Int), .rf [.bool x0.dV, .sl (bM.rows x0.dJ), .sl (Q3h x0.dG)], .rf [.sl (bM.rows x0.dJ), .sl (Q3h x0.dG)], .sl (bM.rows x0.dJ), iN ((List.length x0.dJ) : Int), .bool false]
def Qmg (_p0 : aA) (_i0 : Nat) (_ah : List Val) (_x0 : aG) (_i1 : Nat) (_bQ : List Val) : List (Nat × List PV) :=
  []
theorem Q1cy (p0 : aA) (i0 : Nat) (ah : List Val) (x0 : aG) (H : Qhn p0 i0 ah x0) (i1 : Nat) (bQ : List Val) (_eT : List.length bQ ≤ i1) (hc1 : (decide ((i1 : Int) < ((List.length x0.dJ) : Int))) = false) : Qia p0 i0 ah x0 (Qcz p0 i0 ah x0 i1 bQ) bQ := by
 exact ⟨(envF (Qti p0 i0 ah x0 i1 bQ)), (zoF (Qmg p0 i0 ah x0 i1 bQ)), Qg (Q15a p0 i0 ah x0 i1 bQ) (x := ((.exit 2), Qf1 p0 i0 ah x0 bQ (envF (Qti p0 i0 ah x0 i1 bQ)) (zoF (Qmg p0 i0 ah x0 i1 bQ)))) [hP 4 (Q1f 3 _ i0 _ (aG.Qb (H.2.2.1)) rfl), hP 2 (Qq _ _ (bM.Q7 x0.dJ)), hB 0 hc1] [] (by kernel_rfl)⟩
theorem Q1ad (p0 : aA) (i0 : Nat) (ah : List Val) (x0 : aG) (H : Qhn p0 i0 ah x0) (x1 : bM) (i1 : Nat) (bQ : List Val) (fF : x0.dJ[i1]? = some x1) (gQ : i1 < List.length x0.dJ) (eT : List.length bQ ≤ i1) (hc1 : (decide ((i1 : Int) < ((List.length x0.dJ) : Int))) = true) {r : Rs} (hr : Q5 G (Qcz p0 i0 ah x0 (i1 + 1) (bQ ++ [(Q37 ([(Fld.mk Q1r (Q2l x1.bO)), (Fld.mk Q0 (Q47 x1.bq))]))])) r) : Q5 G (Qcz p0 i0 ah x0 i1 bQ) r := by
 have hB0 := H.1
 exact Qc (Q15a p0 i0 ah x0 i1 bQ) [hP 4 (Q1f 3 _ i0 _ (aG.Qb (H.2.2.1)) rfl), hP 2 (Qq _ _ (bM.Q7 x0.dJ)), hB 0 hc1, hP 3 (Q1f 3 _ i0 _ (aG.Qb (H.2.2.1)) rfl), hP 3 (Q1f 2 _ i1 _ (bM.Qb fF) rfl), hA 15 3 1990 2054 5 80 0 0 true Val.Q7 Val.Q1l bQ (Q37 ([(Fld.mk Q1r (Q2l x1.bO)), (Fld.mk Q0 (Q47 x1.bq))])) (Val.Qt bQ) rfl rfl (by omega), hS 0 true (Val.Q8 (bQ ++ [(Q37 ([(Fld.mk Q1r (Q2l x1.bO)), (Fld.mk Q0 (Q47 x1.bq))]))]) 5 rfl), hP 2 (Q26 i1 (by omega))] [aN (Qcr x1.bO), aN (Qpk x1.bq (H.2.1 x1 (Q15 fF))), aN (Q79 (e' := .call 163 [.sl [(Fld.cells (Fld.mk Q1r (Q2l x1.bO))), (Fld.cells (Fld.mk Q0 (Q47 x1.bq)))]] []) (Q7l ([(Fld.mk Q1r (Q2l x1.bO)), (Fld.mk Q0 (Q47 x1.bq))]) (Nat.le_of_ble_eq_true rfl)) (by simp only [Q74, Fld.Q1w, Fld.Q2h]))] hr (by kernel_rfl)
theorem Q11v (p0 : aA) (i0 : Nat) (ah : List Val) (x0 : aG) (H : Qhn p0 i0 ah x0) : ∀ (r1 : List bM) (i1 : Nat) (bQ : List Val), List.drop i1 x0.dJ = r1 → List.length bQ ≤ i1 → Qia p0 i0 ah x0 (Qcz p0 i0 ah x0 i1 bQ) (Q4c p0 i0 ah x0 r1 i1 bQ)
 | [], i1, bQ, hd, eT => by
  have hc1 : (decide ((i1 : Int) < ((List.length x0.dJ) : Int))) = false := by have := Q1n hd; simp; omega
  rw [Q4c]
  exact Q1cy p0 i0 ah x0 H i1 bQ eT hc1
 | x1 :: r1, i1, bQ, hd, eT => by
  obtain ⟨fF, gQ, hd'⟩ := Q1o hd
  have hc1 : (decide ((i1 : Int) < ((List.length x0.dJ) : Int))) = true := by simp; omega
  rw [Q4c]
  exact Qw5 p0 i0 ah x0 (fun r hr => Q1ad p0 i0 ah x0 H x1 i1 bQ fF gQ eT hc1 hr) _ (Q11v p0 i0 ah x0 H r1 _ _ hd' (by first | omega | (simp; omega)))
def Q57 (p0 : aA) : List aG → Nat → (List Val) → List Val
 | [], _i0, ah =>
  ah
 | x0 :: r0, i0, ah =>
  Q57 p0 r0 (i0 + 1) (ah ++ [(Q37 ([(Fld.mk Qw (Q36 x0.dV)), (Fld.mk Q21 (Val.mk 4 0 eB (Q4c p0 i0 ah x0 x0.dJ 0 []) [])), (Fld.mk Qn (Qyc x0.dG))]))])
def Q1ek (_p0 : aA) (i0 : Nat) (ah : List Val) : List PV :=
  [.un, .bx 0 0, .bx 1 0, .ms 2 5 0 (List.length ah), iN (i0 : Int)] ++ nuns 84
def Qyw (p0 : aA) (_i0 : Nat) (ah : List Val) : List Ob :=
  [⟨17, 0, true, (aA.cells p0)⟩, ⟨5, 0, true, [iN 0, iN 0, .str eB, .ms 3 5 0 0, .ms 4 6 0 0]⟩, ⟨5, 0, true, (Val.rows ah).flatten⟩, ⟨5, 0, true, []⟩, ⟨6, 0, true, []⟩]
def Qgm (p0 : aA) (i0 : Nat) (ah : List Val) : En := .loop 0 Ir.Qkm Ir.Q1mz (Q1ek p0 i0 ah) (Qyw p0 i0 ah)
def Qrh (p0 : aA) (q0 : List Val) (z : Nat → PV) (_zo : Nat → List PV) : St :=
  ⟨[z 0, .bx 0 0, .bx 1 0, .ms 2 5 0 (List.length q0)] ++ zr z 4 85, [(0, ⟨17, 0, true, (aA.cells p0)⟩), (1, ⟨5, 0, true, [iN 0, iN 0, .str eB, .ms 3 5 0 0, .ms 4 6 0 0]⟩), (2, ⟨5, 0, true, (Val.rows q0).flatten⟩), (3, ⟨5, 0, true, []⟩), (4, ⟨6, 0, true, []⟩)], 325⟩
theorem Q159 (p0 : aA) (i0 : Nat) (ah : List Val) : VOK (Go.Pv.look (number 0 (Qyw p0 i0 ah))) [(2, Val.rows ah)] := (VOK.cons (show Seen _ _ from Q3r (ob := ⟨5, 0, true, (Val.rows ah).flatten⟩) (Val.Q8 ah 5 rfl)) VOK.nil)
def Qi9 (p0 : aA) (e : En) (q : List Val) : Prop := ∃ z zo, Q5 G e (.st (.exit 0) (Qrh p0 q z zo))
theorem Qw4 (p0 : aA) {e e' : En} (h : ∀ r, Q5 G e r → Q5 G e' r) : ∀ q, Qi9 p0 e q → Qi9 p0 e' q
  | _, ⟨z, zo, hz⟩ => ⟨z, zo, h _ hz⟩
def Qhm (p0 : aA) : Prop := (List.length p0.dO ≤ 137438953472) ∧ (∀ (i0 : Nat) (ah : List Val) (x0 : aG), p0.dO[i0]? = some x0 → List.length ah ≤ i0 → List.length (ah : List Val) ≤ i0 → Qhn p0 i0 ah x0) ∧ (∀ x0 ∈ p0.dO, Q1ol x0.dG) ∧ (∀ (i0 : Nat) (ah : List Val) (x0 : aG), p0.dO[i0]? = some x0 → List.length ah ≤ i0 → List.length (ah : List Val) ≤ i0 → List.length ((ah ++ [(Q37 ([(Fld.mk Qw (Q36 x0.dV)), (Fld.mk Q21 (Val.mk 4 0 eB (Q4c p0 i0 ah x0 x0.dJ 0 []) [])), (Fld.mk Qn (Qyc x0.dG))]))]) : List Val) ≤ (i0 + 1)) ∧ True
def Qth (p0 : aA) (i0 : Nat) (_ah : List Val) : List PV :=
  [.un, .un, .un, .un, iN (i0 : Int), .un, .un, .un, iN (i0 : Int), .bx 0 16, .sl (aG.rows p0.dO), iN ((List.length p0.dO) : Int), .bool false]
def Qmf (_p0 : aA) (_i0 : Nat) (_ah : List Val) : List (Nat × List PV) :=
  []
theorem Q1cx (p0 : aA) (_H : Qhm p0) (i0 : Nat) (ah : List Val) (_aR : List.length ah ≤ i0) (_cZ : List.length (ah : List Val) ≤ i0) (bF : (decide ((i0 : Int) < ((List.length p0.dO) : Int))) = false) : Qi9 p0 (Qgm p0 i0 ah) ah := by
 exact ⟨(envF (Qth p0 i0 ah)), (zoF (Qmf p0 i0 ah)), Qg (Q159 p0 i0 ah) (x := ((.exit 0), Qrh p0 ah (envF (Qth p0 i0 ah)) (zoF (Qmf p0 i0 ah)))) [hP 3 (Qq _ _ (aG.Q7 p0.dO)), hB 0 bF] [] (by kernel_rfl)⟩
theorem Q1ac (p0 : aA) (H : Qhm p0) (x0 : aG) (i0 : Nat) (ah : List Val) (bH : p0.dO[i0]? = some x0) (bT : i0 < List.length p0.dO) (aR : List.length ah ≤ i0) (_cZ : List.length (ah : List Val) ≤ i0) (bF : (decide ((i0 : Int) < ((List.length p0.dO) : Int))) = true) (z0 : Nat → PV) (eG : Nat → List PV) (hl0 : Q5 G (Qcz p0 i0 ah x0 0 []) (.st (.exit 2) (Qf1 p0 i0 ah x0 (Q4c p0 i0 ah x0 x0.dJ 0 []) z0 eG))) {r : Rs} (hr : Q5 G (Qgm p0 (i0 + 1) (ah ++ [(Q37 ([(Fld.mk Qw (Q36 x0.dV)), (Fld.mk Q21 (Val.mk 4 0 eB (Q4c p0 i0 ah x0 x0.dJ 0 []) [])), (Fld.mk Qn (Qyc x0.dG))]))])) r) : Q5 G (Qgm p0 i0 ah) r := by
 have hB0 := H.1
 exact Qc (Q159 p0 i0 ah) [hP 3 (Qq _ _ (aG.Q7 p0.dO)), hB 0 bF, hS 0 true (Val.Q8 ah 5 rfl), hS 0 true (Val.Q8 (Q4c p0 i0 ah x0 x0.dJ 0 []) 5 rfl), hP 6 (Q1f 3 _ i0 _ (aG.Qb bH) rfl), hP 10 (Q1f 3 _ i0 _ (aG.Qb bH) rfl), hQ (Val.Q7 (Q4c p0 i0 ah x0 x0.dJ 0 [])).symm, hA 7 2 1990 2054 5 80 0 0 true Val.Q7 Val.Q1l ah (Q37 ([(Fld.mk Qw (Q36 x0.dV)), (Fld.mk Q21 (Val.mk 4 0 eB (Q4c p0 i0 ah x0 x0.dJ 0 []) [])), (Fld.mk Qn (Qyc x0.dG))])) (Val.Qt ah) rfl rfl (by omega), hS 0 true (Val.Q8 (ah ++ [(Q37 ([(Fld.mk Qw (Q36 x0.dV)), (Fld.mk Q21 (Val.mk 4 0 eB (Q4c p0 i0 ah x0 x0.dJ 0 []) [])), (Fld.mk Qn (Qyc x0.dG))]))]) 5 rfl), hP 2 (Q26 i0 (by omega))] [aV [(2, Val.rows ah), (3, Val.rows (Q4c p0 i0 ah x0 x0.dJ 0 []))] hl0, aN (Qeu x0.dV), aN (Q2f0 x0.dG (H.2.2.1 x0 (Q15 bH))), aN (Q79 (e' := .call 163 [.sl [(Fld.cells (Fld.mk Qw (Q36 x0.dV))), (Fld.cells (Fld.mk Q21 (Val.mk 4 0 eB (Q4c p0 i0 ah x0 x0.dJ 0 []) []))), (Fld.cells (Fld.mk Qn (Qyc x0.dG)))]] []) (Q7l ([(Fld.mk Qw (Q36 x0.dV)), (Fld.mk Q21 (Val.mk 4 0 eB (Q4c p0 i0 ah x0 x0.dJ 0 []) [])), (Fld.mk Qn (Qyc x0.dG))]) (Nat.le_of_ble_eq_true rfl)) (by simp only [Q74, Fld.Q1w, Fld.Q2h]))] hr (by kernel_rfl)
theorem Q11u (p0 : aA) (H : Qhm p0) : ∀ (r0 : List aG) (i0 : Nat) (ah : List Val), List.drop i0 p0.dO = r0 → List.length ah ≤ i0 → List.length (ah : List Val) ≤ i0 → Qi9 p0 (Qgm p0 i0 ah) (Q57 p0 r0 i0 ah)
 | [], i0, ah, hd, aR, cZ => by
  have bF : (decide ((i0 : Int) < ((List.length p0.dO) : Int))) = false := by have := Q1n hd; simp; omega
  rw [Q57]
  exact Q1cx p0 H i0 ah aR cZ bF
 | x0 :: r0, i0, ah, hd, aR, cZ => by
  obtain ⟨bH, bT, hd'⟩ := Q1o hd
  have bF : (decide ((i0 : Int) < ((List.length p0.dO) : Int))) = true := by simp; omega
  rw [Q57]
  have hl0 := Q11v p0 i0 ah x0 ((H.2.1 i0 ah x0 bH aR cZ)) x0.dJ 0 [] (by simp) (by simp)
  obtain ⟨z0, eG, hl0⟩ := hl0
  exact Qw4 p0 (fun r hr => Q1ac p0 H x0 i0 ah bH bT aR cZ bF z0 eG hl0 hr) _ (Q11u p0 H r0 _ _ hd' (by first | omega | (simp; omega)) ((H.2.2.2.1 i0 ah x0 bH aR cZ)))
def Q1lw (p0 : aA) : Val := aA.encS p0
theorem Q18k (p0 : aA) : ∀ (l : List aG) (i : Nat) (a : List Val), Q57 p0 l i a = a ++ l.map aG.enc
  | [], _, _ => by rw [Q57]; simp
  | x :: l, i, a => by
    rw [Q57]
    simp only [Q188, List.nil_append]
    refine (Q18k p0 l (i + 1) _).trans ?_
    rw [List.append_assoc]
    refine congrArg (fun z => a ++ z) (congrArg (fun z => z :: l.map aG.enc) ?_)
    kernel_rfl
theorem Q2a9 (p0 : aA) : Q1lw p0 = ((Q37 ([(Fld.mk Q0 (Q47 p0.bq)), (Fld.mk Q3e (Q36 p0.fQ)), (Fld.mk Qw (Q36 p0.dV)), (Fld.mk Q28 (Val.mk 4 0 eB (Q57 p0 p0.dO 0 []) []))]))) := by
  rw [Q18k]
  kernel_rfl
def Q26v (p0 : aA) : En := .call 155 [.agg (aA.cells p0)] []
def Q1vw (p0 : aA) : Rs := .ret (.agg (Val.cells (Q1lw p0))) []
def Q1on (p0 : aA) : Prop := aA.sm p0
theorem Qxk (p0 : aA) (H : Q1on p0) : (Qhm p0) ∧ (List.length ([] : List Val) ≤ 0) ∧ (Qft p0.bq) ∧ True := by
  have H' : aA.sm p0 := H
  have hm : ∀ (i : Nat) (x : aG), p0.dO[i]? = some x → aG.sm x := fun i x h => H'.2.1.2 x (List.mem_of_getElem? h)
  exact ⟨⟨Nat.le_trans H'.2.1.1 (Nat.le_of_ble_eq_true rfl), fun i v x h _ _ => ⟨Nat.le_trans (hm i x h).1.1 (Nat.le_of_ble_eq_true rfl), fun y hy => ((hm i x h).1.2 y hy).1, h, trivial⟩, fun x hx => (H'.2.1.2 x hx).2.1, fun i v x h g _ => by rw [List.length_append]; exact Nat.add_le_add_right g 1, trivial⟩, Nat.le_refl 0, H'.1, trivial⟩
theorem Q2f2 (p0 : aA) (H : Q1on p0) : Q5 G (Q26v p0) (Q1vw p0) := by
 unfold Q1vw
 rw [Q2a9]
 have hl0 := Q11u p0 ((Qxk p0 H).1) p0.dO 0 [] (by simp) (by simp) ((Qxk p0 H).2.1)
 obtain ⟨z0, eG, hl0⟩ := hl0
 exact Q6 (fn := Ir.K2i) (by kernel_rfl) VOK.nil [hS 0 true (Val.Q8 (Q57 p0 p0.dO 0 []) 5 rfl), hQ (Val.Q7 (Q57 p0 p0.dO 0 [])).symm] [aV [(2, Val.rows (Q57 p0 p0.dO 0 []))] hl0, aN (Qpk p0.bq (Qxk p0 H).2.2.1), aN (Qeu p0.fQ), aN (Qeu p0.dV), aN (Q79 (e' := .call 163 [.sl [(Fld.cells (Fld.mk Q0 (Q47 p0.bq))), (Fld.cells (Fld.mk Q3e (Q36 p0.fQ))), (Fld.cells (Fld.mk Qw (Q36 p0.dV))), (Fld.cells (Fld.mk Q28 (Val.mk 4 0 eB (Q57 p0 p0.dO 0 []) [])))]] []) (Q7l ([(Fld.mk Q0 (Q47 p0.bq)), (Fld.mk Q3e (Q36 p0.fQ)), (Fld.mk Qw (Q36 p0.dV)), (Fld.mk Q28 (Val.mk 4 0 eB (Q57 p0 p0.dO 0 []) []))]) (Nat.le_of_ble_eq_true rfl)) (by simp only [Q74, Fld.Q1w, Fld.Q2h]))] (by kernel_rfl)
def Q1bv (p0 : aA) : aD := aA.obj p0
theorem Q2bc (p0 : aA) : Q1bv p0 = ((Qye Q12 p0.aM (Q1lw p0) (Q12w []))) := by
  first | rfl | kernel_rfl
def Q27y (p0 : aA) : En := .call 45 [.agg (aA.cells p0)] []
def Q1x0 (p0 : aA) : Rs := .ret (.agg (aD.cells (Q1bv p0))) []
def Q1jl (p0 : aA) : Prop := aA.sm p0
theorem Q16z (p0 : aA) (H : Q1jl p0) : (Q1on p0) ∧ (Q1fx []) ∧ True := by
  exact ⟨(by first | exact True.intro | exact H | exact H.1 | exact H.2.1 | exact ⟨H.1, trivial⟩ | exact ⟨H.2.1, trivial⟩), ⟨Nat.le_of_ble_eq_true rfl, List.forall_mem_nil _⟩, trivial⟩
theorem Q209 (p0 : aA) (H : Q1jl p0) : Q5 G (Q27y p0) (Q1x0 p0) := by
 unfold Q1x0
 rw [Q2bc]
 exact Q6 (fn := Ir.K3r) (by kernel_rfl) VOK.nil [] [aN (Q2f2 p0 (Q16z p0 H).1), aN (Q1qb [] (Q16z p0 H).2.1), aN (Q148 Q12 p0.aM (Q1lw p0) (Q12w []))] (by kernel_rfl)
def Q1lx (p0 : bI) : Val := bI.encS p0
theorem Q2af (p0 : bI) : Q1lx p0 = ((Q37 ([(Fld.mk Q4m (Q8h p0.gW)), (Fld.mk Q51 (Q1m p0.iE))]))) := by
  kernel_rfl
def Q271 (p0 : bI) : En := .call 156 [.agg (bI.cells p0)] []
def Q1w2 (p0 : bI) : Rs := .ret (.agg (Val.cells (Q1lx p0))) []
theorem Q2f6 (p0 : bI) : Q5 G (Q271 p0) (Q1w2 p0) := by
 unfold Q1w2
 rw [Q2af]
 exact Q6 (fn := Ir.K2o) (by kernel_rfl) VOK.nil [] [aN (Q1ma p0.gW), aN (Q50 p0.iE), aN (Q79 (e' := .call 163 [.sl [(Fld.cells (Fld.mk Q4m (Q8h p0.gW))), (Fld.cells (Fld.mk Q51 (Q1m p0.iE)))]] []) (Q7l ([(Fld.mk Q4m (Q8h p0.gW)), (Fld.mk Q51 (Q1m p0.iE))]) (Nat.le_of_ble_eq_true rfl)) (by simp only [Q74, Fld.Q1w, Fld.Q2h]))] (by kernel_rfl)
def Q1ly (p0 : bI) : Val := bI.encT p0
theorem Q2ag (p0 : bI) : Q1ly p0 = ((Q37 ([(Fld.mk Q4n (Q8h p0.gY)), (Fld.mk Q76 (Q1m p0.has))]))) := by
  kernel_rfl
def Q272 (p0 : bI) : En := .call 157 [.agg (bI.cells p0)] []
def Q1w3 (p0 : bI) : Rs := .ret (.agg (Val.cells (Q1ly p0))) []
theorem Q2f7 (p0 : bI) : Q5 G (Q272 p0) (Q1w3 p0) := by
 unfold Q1w3
 rw [Q2ag]
 exact Q6 (fn := Ir.K2p) (by kernel_rfl) VOK.nil [] [aN (Q1ma p0.gY), aN (Q50 p0.has), aN (Q79 (e' := .call 163 [.sl [(Fld.cells (Fld.mk Q4n (Q8h p0.gY))), (Fld.cells (Fld.mk Q76 (Q1m p0.has)))]] []) (Q7l ([(Fld.mk Q4n (Q8h p0.gY)), (Fld.mk Q76 (Q1m p0.has))]) (Nat.le_of_ble_eq_true rfl)) (by simp only [Q74, Fld.Q1w, Fld.Q2h]))] (by kernel_rfl)
def Q1bw (p0 : bI) : aD := bI.obj p0
theorem Q2bd (p0 : bI) : Q1bw p0 = ((Qye Q3a p0.aM (Q1lx p0) (Q1ly p0))) := by
  first | rfl | kernel_rfl
def Q27z (p0 : bI) : En := .call 46 [.agg (bI.cells p0)] []
def Q1x1 (p0 : bI) : Rs := .ret (.agg (aD.cells (Q1bw p0))) []
def Q221 (p0 : bI) : Prop := bI.sm p0
theorem Q20a (p0 : bI) : Q5 G (Q27z p0) (Q1x1 p0) := by
 unfold Q1x1
 rw [Q2bd]
 exact Q6 (fn := Ir.K3s) (by kernel_rfl) VOK.nil [] [aN (Q2f6 p0), aN (Q2f7 p0), aN (Q148 Q3a p0.aM (Q1lx p0) (Q1ly p0))] (by kernel_rfl)
end Go.Proofs.YtimjjohlpnkacaaGreat
end

section
/- Equality of metadata and objects that are the same; what is small (printed by a program). -/
namespace Go.Proofs.YtimjjohlpnkacaaGreat
open Go.Pv
def Q1q8 (p0 : BA) (p1 : BA) (p2 : BA) : ByteArray :=
 ((((p0 ++ (⟨#[47]⟩ : BA)) ++ p1) ++ (⟨#[47]⟩ : BA)) ++ p2)
def Q26j (p0 : BA) (p1 : BA) (p2 : BA) : En := .call 199 [.str p0, .str p1, .str p2] []
def Q1vj (p0 : BA) (p1 : BA) (p2 : BA) : Rs := .ret (.str (Q1q8 p0 p1 p2)) []
def Q1uo (p0 : BA) (p1 : BA) (p2 : BA) : Prop := (ByteArray.size p0 + ByteArray.size (⟨#[47]⟩ : BA) ≤ 9223372036854775807) ∧ (ByteArray.size (p0 ++ (⟨#[47]⟩ : BA)) + ByteArray.size p1 ≤ 9223372036854775807) ∧ (ByteArray.size ((p0 ++ (⟨#[47]⟩ : BA)) ++ p1) + ByteArray.size (⟨#[47]⟩ : BA) ≤ 9223372036854775807) ∧ (ByteArray.size (((p0 ++ (⟨#[47]⟩ : BA)) ++ p1) ++ (⟨#[47]⟩ : BA)) + ByteArray.size p2 ≤ 9223372036854775807) ∧ True
theorem Q2eu (p0 : BA) (p1 : BA) (p2 : BA) (H : Q1uo p0 p1 p2) : Q5 G (Q26j p0 p1 p2) (Q1vj p0 p1 p2) := by
 unfold Q1vj Q1q8
 exact Q6 (fn := Ir.K1w) (by kernel_rfl) VOK.nil [hP 2 (Q160 p0 (⟨#[47]⟩ : BA) H.1), hP 1 (Q160 (p0 ++ (⟨#[47]⟩ : BA)) p1 H.2.1), hP 0 (Q160 ((p0 ++ (⟨#[47]⟩ : BA)) ++ p1) (⟨#[47]⟩ : BA) H.2.2.1), hP 1 (Q160 (((p0 ++ (⟨#[47]⟩ : BA)) ++ p1) ++ (⟨#[47]⟩ : BA)) p2 H.2.2.2.1)] [] (by kernel_rfl)
def Q1lt (p0 : bN) : ByteArray :=
 (Q1q8 p0.kind p0.bO p0.name)
def Q26k (p0 : bN) : En := .call 119 [.agg (bN.cells p0)] []
def Q1vk (p0 : bN) : Rs := .ret (.str (Q1lt p0)) []
def Q1up (p0 : bN) : Prop := (Q1uo p0.kind p0.bO p0.name) ∧ True
theorem Q1zy (p0 : bN) (H : Q1up p0) : Q5 G (Q26k p0) (Q1vk p0) := by
 unfold Q1vk Q1lt
 exact Q6 (fn := Ir.K1x) (by kernel_rfl) VOK.nil [] [aN (Q2eu p0.kind p0.bO p0.name H.1)] (by kernel_rfl)
def Q17k (p0 : bN) : List bf → Nat → Unit
 | [], _i0 =>
  ()
 | _x0 :: r0, i0 =>
  Q17k p0 r0 (i0 + 1)
def Q1ea (_p0 : bN) (i0 : Nat) : List PV :=
  [.un, .un, .bx 0 0, .bx 1 0, .un, iN (i0 : Int)] ++ nuns 168
def Q1fq (p0 : bN) (_i0 : Nat) : List Ob :=
  [⟨13, 0, true, (bN.cells p0)⟩, ⟨13, 0, true, (bN.cells p0)⟩]
def Qge (p0 : bN) (i0 : Nat) : En := .loop 0 Ir.Qkc Ir.Q1mp (Q1ea p0 i0) (Q1fq p0 i0)
def Qr8 (p0 : bN) (z : Nat → PV) (_zo : Nat → List PV) : St :=
  ⟨[z 0, z 1, .bx 0 0, .bx 1 0] ++ zr z 4 170, [(0, ⟨13, 0, true, (bN.cells p0)⟩), (1, ⟨13, 0, true, (bN.cells p0)⟩)], 322⟩
def Qbj (p0 : bN) (e : En) (_q : Unit) : Prop := ∃ z zo, Q5 G e (.st (.exit 0) (Qr8 p0 z zo))
theorem Qvv (p0 : bN) {e e' : En} (h : ∀ r, Q5 G e r → Q5 G e' r) : ∀ q, Qbj p0 e q → Qbj p0 e' q
  | _, ⟨z, zo, hz⟩ => ⟨z, zo, h _ hz⟩
def Qhe (p0 : bN) : Prop := (List.length p0.bP ≤ 4611686018427387904) ∧ True
def Qt6 (p0 : bN) (i0 : Nat) : List PV :=
  nuns 5 ++ [iN (i0 : Int)] ++ nuns 96 ++ [iN (i0 : Int), .bx 0 9, .sl (bf.rows p0.bP), iN ((List.length p0.bP) : Int), .bool false]
def Qm4 (_p0 : bN) (_i0 : Nat) : List (Nat × List PV) :=
  []
theorem Q1cm (p0 : bN) (_H : Qhe p0) (i0 : Nat) (bF : (decide ((i0 : Int) < ((List.length p0.bP) : Int))) = false) : Qbj p0 (Qge p0 i0) () := by
 exact ⟨(envF (Qt6 p0 i0)), (zoF (Qm4 p0 i0)), Qg VOK.nil (x := ((.exit 0), Qr8 p0 (envF (Qt6 p0 i0)) (zoF (Qm4 p0 i0)))) [hP 3 (Qq _ _ (bf.Q7 p0.bP)), hB 0 bF] [] (by kernel_rfl)⟩
theorem Q1a1 (p0 : bN) (H : Qhe p0) (x0 : bf) (i0 : Nat) (bH : p0.bP[i0]? = some x0) (bT : i0 < List.length p0.bP) (bF : (decide ((i0 : Int) < ((List.length p0.bP) : Int))) = true) {r : Rs} (hr : Q5 G (Qge p0 (i0 + 1)) r) : Q5 G (Qge p0 i0) r := by
 have hB0 := H.1
 exact Qc VOK.nil [hP 3 (Qq _ _ (bf.Q7 p0.bP)), hB 0 bF, hP 3 (Q1f 2 _ i0 _ (bf.Qb bH) rfl), hP 4 (Q1f 2 _ i0 _ (bf.Qb bH) rfl), hP 1 (dec (!((sEq x0.key x0.key) && ((sEq x0.value x0.value) && true))) false (by rw [(and_tt (Q8d.2 rfl) (and_tt (Q8d.2 rfl) rfl))]; rfl)), hP 1 (Q26 i0 (by omega))] [] hr (by kernel_rfl)
theorem Q11l (p0 : bN) (H : Qhe p0) : ∀ (r0 : List bf) (i0 : Nat), List.drop i0 p0.bP = r0 → Qbj p0 (Qge p0 i0) (Q17k p0 r0 i0)
 | [], i0, hd => by
  have bF : (decide ((i0 : Int) < ((List.length p0.bP) : Int))) = false := by have := Q1n hd; simp; omega
  show Qbj p0 _ ()
  exact Q1cm p0 H i0 bF
 | x0 :: r0, i0, hd => by
  obtain ⟨bH, bT, hd'⟩ := Q1o hd
  have bF : (decide ((i0 : Int) < ((List.length p0.bP) : Int))) = true := by simp; omega
  show Qbj p0 _ ()
  exact Qvv p0 (fun r hr => Q1a1 p0 H x0 i0 bH bT bF hr) _ (Q11l p0 H r0 _ hd')
def Q17l (p0 : bN) : List bW → Nat → Unit
 | [], _i1 =>
  ()
 | _x1 :: r1, i1 =>
  Q17l p0 r1 (i1 + 1)
def Q1eb (_p0 : bN) (i1 : Nat) : List PV :=
  [.un, .un, .bx 0 0, .bx 1 0, .un, .un, iN (i1 : Int)] ++ nuns 167
def Q1fr (p0 : bN) (_i1 : Nat) : List Ob :=
  [⟨13, 0, true, (bN.cells p0)⟩, ⟨13, 0, true, (bN.cells p0)⟩]
def Qgf (p0 : bN) (i1 : Nat) : En := .loop 0 Ir.Qkd Ir.Q1mq (Q1eb p0 i1) (Q1fr p0 i1)
def Qr9 (p0 : bN) (z : Nat → PV) (_zo : Nat → List PV) : St :=
  ⟨[z 0, z 1, .bx 0 0, .bx 1 0] ++ zr z 4 170, [(0, ⟨13, 0, true, (bN.cells p0)⟩), (1, ⟨13, 0, true, (bN.cells p0)⟩)], 322⟩
def Qbk (p0 : bN) (e : En) (_q : Unit) : Prop := ∃ z zo, Q5 G e (.st (.exit 2) (Qr9 p0 z zo))
theorem Qvw (p0 : bN) {e e' : En} (h : ∀ r, Q5 G e r → Q5 G e' r) : ∀ q, Qbk p0 e q → Qbk p0 e' q
  | _, ⟨z, zo, hz⟩ => ⟨z, zo, h _ hz⟩
def Qhf (p0 : bN) : Prop := (List.length p0.bS ≤ 4611686018427387904) ∧ True
def Qt7 (p0 : bN) (i1 : Nat) : List PV :=
  nuns 6 ++ [iN (i1 : Int)] ++ nuns 113 ++ [iN (i1 : Int), .bx 0 10, .sl (bW.rows p0.bS), iN ((List.length p0.bS) : Int), .bool false]
def Qm5 (_p0 : bN) (_i1 : Nat) : List (Nat × List PV) :=
  []
theorem Q1cn (p0 : bN) (_H : Qhf p0) (i1 : Nat) (hc1 : (decide ((i1 : Int) < ((List.length p0.bS) : Int))) = false) : Qbk p0 (Qgf p0 i1) () := by
 exact ⟨(envF (Qt7 p0 i1)), (zoF (Qm5 p0 i1)), Qg VOK.nil (x := ((.exit 2), Qr9 p0 (envF (Qt7 p0 i1)) (zoF (Qm5 p0 i1)))) [hP 3 (Qq _ _ (bW.Q7 p0.bS)), hB 0 hc1] [] (by kernel_rfl)⟩
theorem Q1a2 (p0 : bN) (H : Qhf p0) (x1 : bW) (i1 : Nat) (fF : p0.bS[i1]? = some x1) (gQ : i1 < List.length p0.bS) (hc1 : (decide ((i1 : Int) < ((List.length p0.bS) : Int))) = true) {r : Rs} (hr : Q5 G (Qgf p0 (i1 + 1)) r) : Q5 G (Qgf p0 i1) r := by
 have hB0 := H.1
 exact Qc VOK.nil [hP 3 (Qq _ _ (bW.Q7 p0.bS)), hB 0 hc1, hP 3 (Q1f 5 _ i1 _ (bW.Qb fF) rfl), hP 4 (Q1f 5 _ i1 _ (bW.Qb fF) rfl), hP 1 (dec (!((sEq x1.kind x1.kind) && ((sEq x1.name x1.name) && ((x1.fZ == x1.fZ) && ((x1.fM == x1.fM) && ((x1.block == x1.block) && true)))))) false (by rw [(and_tt (Q8d.2 rfl) (and_tt (Q8d.2 rfl) (and_tt (beq_self_eq_true _) (and_tt (beq_self_eq_true _) (and_tt (beq_self_eq_true _) rfl)))))]; rfl)), hP 1 (Q26 i1 (by omega))] [] hr (by kernel_rfl)
theorem Q11m (p0 : bN) (H : Qhf p0) : ∀ (r1 : List bW) (i1 : Nat), List.drop i1 p0.bS = r1 → Qbk p0 (Qgf p0 i1) (Q17l p0 r1 i1)
 | [], i1, hd => by
  have hc1 : (decide ((i1 : Int) < ((List.length p0.bS) : Int))) = false := by have := Q1n hd; simp; omega
  show Qbk p0 _ ()
  exact Q1cn p0 H i1 hc1
 | x1 :: r1, i1, hd => by
  obtain ⟨fF, gQ, hd'⟩ := Q1o hd
  have hc1 : (decide ((i1 : Int) < ((List.length p0.bS) : Int))) = true := by simp; omega
  show Qbk p0 _ ()
  exact Qvw p0 (fun r hr => Q1a2 p0 H x1 i1 fF gQ hc1 hr) _ (Q11m p0 H r1 _ hd')
def Q17m (p0 : bN) : List bD → Nat → Unit
 | [], _i2 =>
  ()
 | _x2 :: r2, i2 =>
  Q17m p0 r2 (i2 + 1)
def Q1ec (_p0 : bN) (i2 : Nat) : List PV :=
  [.un, .un, .bx 0 0, .bx 1 0, .un, .un, .un, iN (i2 : Int)] ++ nuns 166
def Q1fs (p0 : bN) (_i2 : Nat) : List Ob :=
  [⟨13, 0, true, (bN.cells p0)⟩, ⟨13, 0, true, (bN.cells p0)⟩]
def Qgg (p0 : bN) (i2 : Nat) : En := .loop 0 Ir.Qke Ir.Q1mr (Q1ec p0 i2) (Q1fs p0 i2)
def Qra (p0 : bN) (z : Nat → PV) (_zo : Nat → List PV) : St :=
  ⟨zr z 0 174, [(0, ⟨13, 0, true, (bN.cells p0)⟩), (1, ⟨13, 0, true, (bN.cells p0)⟩)], 322⟩
def Qbl (p0 : bN) (e : En) (_q : Unit) : Prop := ∃ z zo, Q5 G e (.st (.exit 4) (Qra p0 z zo))
theorem Qvx (p0 : bN) {e e' : En} (h : ∀ r, Q5 G e r → Q5 G e' r) : ∀ q, Qbl p0 e q → Qbl p0 e' q
  | _, ⟨z, zo, hz⟩ => ⟨z, zo, h _ hz⟩
def Qhg (p0 : bN) : Prop := (List.length p0.bg ≤ 4611686018427387904) ∧ (∀ x2 ∈ p0.bg, Q1oh x2.fields) ∧ True
def Qt8 (p0 : bN) (i2 : Nat) : List PV :=
  [.un, .un, .bx 0 0, .bx 1 0, .un, .un, .un, iN (i2 : Int)] ++ nuns 130 ++ [iN (i2 : Int), .bx 0 12, .sl (bD.rows p0.bg), iN ((List.length p0.bg) : Int), .bool false]
def Qm6 (_p0 : bN) (_i2 : Nat) : List (Nat × List PV) :=
  []
theorem Q1co (p0 : bN) (_H : Qhg p0) (i2 : Nat) (hc2 : (decide ((i2 : Int) < ((List.length p0.bg) : Int))) = false) : Qbl p0 (Qgg p0 i2) () := by
 exact ⟨(envF (Qt8 p0 i2)), (zoF (Qm6 p0 i2)), Qg VOK.nil (x := ((.exit 4), Qra p0 (envF (Qt8 p0 i2)) (zoF (Qm6 p0 i2)))) [hP 3 (Qq _ _ (bD.Q7 p0.bg)), hB 0 hc2] [] (by kernel_rfl)⟩
theorem Q1a3 (p0 : bN) (H : Qhg p0) (x2 : bD) (i2 : Nat) (jc : p0.bg[i2]? = some x2) (jm : i2 < List.length p0.bg) (hc2 : (decide ((i2 : Int) < ((List.length p0.bg) : Int))) = true) {r : Rs} (hr : Q5 G (Qgg p0 (i2 + 1)) r) : Q5 G (Qgg p0 i2) r := by
 have hB0 := H.1
 exact Qc VOK.nil [hP 3 (Qq _ _ (bD.Q7 p0.bg)), hB 0 hc2, hP 3 (Q1f 2 _ i2 _ (bD.Qb jc) rfl), hP 5 (Q1f 2 _ i2 _ (bD.Qb jc) rfl), hP 2 (dec (!(sEq x2.name x2.name)) false (by rw [(Q8d.2 rfl)]; rfl)), hP 4 (Q1f 2 _ i2 _ (bD.Qb jc) rfl), hP 5 (Q1f 2 _ i2 _ (bD.Qb jc) rfl), hP 6 (Q26 i2 (by omega))] [aN (Q6t (c := fun y => .call 120 [.sl (Qz x2.fields), .sl (Qz y)] []) rfl (Q1zz x2.fields (H.2.1 x2 (Q15 jc))))] hr (by kernel_rfl)
theorem Q11n (p0 : bN) (H : Qhg p0) : ∀ (r2 : List bD) (i2 : Nat), List.drop i2 p0.bg = r2 → Qbl p0 (Qgg p0 i2) (Q17m p0 r2 i2)
 | [], i2, hd => by
  have hc2 : (decide ((i2 : Int) < ((List.length p0.bg) : Int))) = false := by have := Q1n hd; simp; omega
  show Qbl p0 _ ()
  exact Q1co p0 H i2 hc2
 | x2 :: r2, i2, hd => by
  obtain ⟨jc, jm, hd'⟩ := Q1o hd
  have hc2 : (decide ((i2 : Int) < ((List.length p0.bg) : Int))) = true := by simp; omega
  show Qbl p0 _ ()
  exact Qvx p0 (fun r hr => Q1a3 p0 H x2 i2 jc jm hc2 hr) _ (Q11n p0 H r2 _ hd')
def Q1zs (_p0 : bN) : Bool :=
 true
def Q26l (p0 : bN) : En := .call 27 [.agg (bN.cells p0), .agg (bN.cells p0)] []
def Q1vl (p0 : bN) : Rs := .ret (.bool (Q1zs p0)) []
def Q1og (p0 : bN) : Prop := (Q1up p0) ∧ (Q1oh p0.bL) ∧ (Qhe p0) ∧ (Qhf p0) ∧ (Qhg p0) ∧ True
theorem Q2ev (p0 : bN) (H : Q1og p0) : Q5 G (Q26l p0) (Q1vl p0) := by
 unfold Q1vl Q1zs
 have hl0 := Q11l p0 (H.2.2.1) p0.bP 0 (by simp)
 obtain ⟨z0, eG, hl0⟩ := hl0
 have hl1 := Q11m p0 (H.2.2.2.1) p0.bS 0 (by simp)
 obtain ⟨z1, jk, hl1⟩ := hl1
 have hl2 := Q11n p0 (H.2.2.2.2.1) p0.bg 0 (by simp)
 obtain ⟨z2, zo2, hl2⟩ := hl2
 exact Q6 (fn := Ir.K1y) (by kernel_rfl) VOK.nil [hP 7 (dec (!(sEq (Q1lt p0) (Q1lt p0))) false (by rw [(Q8d.2 rfl)]; rfl)), hP 5 (dec (!(sEq p0.kind p0.kind)) false (by rw [(Q8d.2 rfl)]; rfl)), hP 6 (dec (!(sEq p0.bO p0.bO)) false (by rw [(Q8d.2 rfl)]; rfl)), hP 6 (dec (!(p0.fZ == p0.fZ)) false (by rw [(beq_self_eq_true _)]; rfl)), hP 6 (dec (!(p0.dx == p0.dx)) false (by rw [(beq_self_eq_true _)]; rfl)), hP 6 (dec (!(p0.bU == p0.bU)) false (by rw [(beq_self_eq_true _)]; rfl)), hP 6 (dec (!(p0.dw == p0.dw)) false (by rw [(beq_self_eq_true _)]; rfl)), hP 6 (dec (!(p0.cB == p0.cB)) false (by rw [(beq_self_eq_true _)]; rfl)), hP 6 (dec (!(p0.cu == p0.cu)) false (by rw [(beq_self_eq_true _)]; rfl)), hP 3 (Qq _ _ (bf.Q7 p0.bP)), hP 2 (Qq _ _ (bf.Q7 p0.bP)), hP 0 (dec (!(((List.length p0.bP) : Int) == ((List.length p0.bP) : Int))) false (by rw [(beq_self_eq_true _)]; rfl)), hP 3 (Qq _ _ (bW.Q7 p0.bS)), hP 2 (Qq _ _ (bW.Q7 p0.bS)), hP 0 (dec (!(((List.length p0.bS) : Int) == ((List.length p0.bS) : Int))) false (by rw [(beq_self_eq_true _)]; rfl)), hP 4 (Qq _ _ (bD.Q7 p0.bg)), hP 2 (Qq _ _ (bD.Q7 p0.bg)), hP 0 (dec (!(((List.length p0.bg) : Int) == ((List.length p0.bg) : Int))) false (by rw [(beq_self_eq_true _)]; rfl))] [aN (Q1zy p0 H.1), aN (Q1zy p0 H.1), aN (Q6t (c := fun y => .call 120 [.sl (Qz p0.bL), .sl (Qz y)] []) rfl (Q1zz p0.bL H.2.1)), aN hl0, aN hl1, aN hl2] (by kernel_rfl)
def Q1zr (_p0 : aD) : Bool :=
 true
def Q26i (p0 : aD) : En := .call 17 [.agg (aD.cells p0), .agg (aD.cells p0)] []
def Q1vi (p0 : aD) : Rs := .ret (.bool (Q1zr p0)) []
def Qby (p0 : aD) : Prop := (Q1og p0.aM) ∧ (Q1oe p0.aU) ∧ (Q1oe p0.aZ) ∧ True
theorem Q147 (p0 : aD) (H : Qby p0) : Q5 G (Q26i p0) (Q1vi p0) := by
 unfold Q1vi Q1zr
 exact Q6 (fn := Ir.K1v) (by kernel_rfl) VOK.nil [] [aN (Q6t (c := fun y => .call 27 [.agg (bN.cells p0.aM), .agg (bN.cells y)] []) rfl (Q2ev p0.aM H.1)), aN (Q6t (c := fun y => .call 98 [.agg (Val.cells p0.aU), .agg (Val.cells y)] []) rfl (Q1zx p0.aU H.2.1)), aN (Q6t (c := fun y => .call 98 [.agg (Val.cells p0.aZ), .agg (Val.cells y)] []) rfl (Q1zx p0.aZ H.2.2.1))] (by kernel_rfl)
inductive Q1g6 where
  | k0
  | k1
def Qch (p0 : aD) : List bD → Nat → Q1g6
 | [], _i0 =>
  (.k0)
 | x0 :: r0, i0 =>
  bif (decide (60 < ((List.length x0.fields) : Int))) then
   (.k1)
  else
   Qch p0 r0 (i0 + 1)
def Q1j8 (_p0 : aD) (i0 : Nat) : List PV :=
  [.un, .bx 0 0, .un, .bx 1 0, iN (i0 : Int)] ++ nuns 47
def Q1jh (p0 : aD) (_i0 : Nat) : List Ob :=
  [⟨23, 0, true, (aD.cells p0)⟩, ⟨13, 0, true, (bN.cells p0.aM)⟩]
def Qca (p0 : aD) (i0 : Nat) : En := .loop 0 Ir.Qqq Ir.Q1uz (Q1j8 p0 i0) (Q1jh p0 i0)
def Qlp (p0 : aD) (z : Nat → PV) (_zo : Nat → List PV) : St :=
  ⟨[z 0, .bx 0 0] ++ zr z 2 50, [(0, ⟨23, 0, true, (aD.cells p0)⟩), (1, ⟨13, 0, true, (bN.cells p0.aM)⟩)], 322⟩
def Qlq (_p0 : aD) (z : Nat → PV) (zo : Nat → List PV) : St :=
  ⟨[z 0, z 1, .bool false] ++ zr z 3 49, [(0, ⟨23, 0, true, zo 0⟩), (1, ⟨13, 0, true, zo 1⟩)], 898⟩
def Qlo (p0 : aD) (e : En) : Q1g6 → Prop
  | .k0 => ∃ z zo, Q5 G e (.st (.exit 0) (Qlp p0 z zo))
  | .k1 => ∃ z zo, Q5 G e (.st .ret (Qlq p0 z zo))
theorem Q102 (p0 : aD) {e e' : En} (h : ∀ r, Q5 G e r → Q5 G e' r) : ∀ q, Qlo p0 e q → Qlo p0 e' q
  | .k0, ⟨z, zo, hz⟩ => ⟨z, zo, h _ hz⟩
  | .k1, ⟨z, zo, hz⟩ => ⟨z, zo, h _ hz⟩
def Qju (p0 : aD) : Prop := (List.length p0.aM.bg ≤ 4611686018427387904) ∧ True
def Q10j (p0 : aD) (i0 : Nat) : List PV :=
  [.un, .un, .un, .bx 1 0, iN (i0 : Int)] ++ nuns 24 ++ [iN (i0 : Int), .bx 1 12, .sl (bD.rows p0.aM.bg), iN ((List.length p0.aM.bg) : Int), .bool false]
def Qsk (_p0 : aD) (_i0 : Nat) : List (Nat × List PV) :=
  []
theorem Q1iw (p0 : aD) (_H : Qju p0) (i0 : Nat) (bF : (decide ((i0 : Int) < ((List.length p0.aM.bg) : Int))) = false) : Qlo p0 (Qca p0 i0) (.k0) := by
 exact ⟨(envF (Q10j p0 i0)), (zoF (Qsk p0 i0)), Qg VOK.nil (x := ((.exit 0), Qlp p0 (envF (Q10j p0 i0)) (zoF (Qsk p0 i0)))) [hP 3 (Qq _ _ (bD.Q7 p0.aM.bg)), hB 0 bF] [] (by kernel_rfl)⟩
def Q10k (p0 : aD) (i0 : Nat) (x0 : bD) : List PV :=
  [.un, .bx 0 0, .un, .bx 1 0, iN (i0 : Int)] ++ nuns 24 ++ [iN (i0 : Int), .bx 1 12, .sl (bD.rows p0.aM.bg), iN ((List.length p0.aM.bg) : Int), .bool true, .un, .un, .bx 1 12, .sl (bD.rows p0.aM.bg), iN (i0 : Int), .rf [.str x0.name, .sl (Qz x0.fields)], .rf [.sl (Qz x0.fields)], .sl (Qz x0.fields), iN ((List.length x0.fields) : Int), .bool true]
def Qsl (p0 : aD) (_i0 : Nat) (_x0 : bD) : List (Nat × List PV) :=
  [(0, (aD.cells p0)), (1, (bN.cells p0.aM))]
theorem Q1ix (p0 : aD) (_H : Qju p0) (x0 : bD) (i0 : Nat) (bH : p0.aM.bg[i0]? = some x0) (_bT : i0 < List.length p0.aM.bg) (bF : (decide ((i0 : Int) < ((List.length p0.aM.bg) : Int))) = true) (h0 : (decide (60 < ((List.length x0.fields) : Int))) = true) : Qlo p0 (Qca p0 i0) (.k1) := by
 exact ⟨(envF (Q10k p0 i0 x0)), (zoF (Qsl p0 i0 x0)), Qg VOK.nil (x := (.ret, Qlq p0 (envF (Q10k p0 i0 x0)) (zoF (Qsl p0 i0 x0)))) [hP 3 (Qq _ _ (bD.Q7 p0.aM.bg)), hB 0 bF, hP 3 (Q1f 2 _ i0 _ (bD.Qb bH) rfl), hP 2 (Qq _ _ (Q2d x0.fields)), hB 0 h0] [] (by kernel_rfl)⟩
theorem Q1hh (p0 : aD) (H : Qju p0) (x0 : bD) (i0 : Nat) (bH : p0.aM.bg[i0]? = some x0) (bT : i0 < List.length p0.aM.bg) (bF : (decide ((i0 : Int) < ((List.length p0.aM.bg) : Int))) = true) (h0 : (decide (60 < ((List.length x0.fields) : Int))) = false) {r : Rs} (hr : Q5 G (Qca p0 (i0 + 1)) r) : Q5 G (Qca p0 i0) r := by
 have hB0 := H.1; have e0 := of_decide_eq_false h0
 exact Qc VOK.nil [hP 3 (Qq _ _ (bD.Q7 p0.aM.bg)), hB 0 bF, hP 3 (Q1f 2 _ i0 _ (bD.Qb bH) rfl), hP 2 (Qq _ _ (Q2d x0.fields)), hB 0 h0, hP 1 (Q26 i0 (by omega))] [] hr (by kernel_rfl)
theorem Q17u (p0 : aD) (H : Qju p0) : ∀ (r0 : List bD) (i0 : Nat), List.drop i0 p0.aM.bg = r0 → Qlo p0 (Qca p0 i0) (Qch p0 r0 i0)
 | [], i0, hd => by
  have bF : (decide ((i0 : Int) < ((List.length p0.aM.bg) : Int))) = false := by have := Q1n hd; simp; omega
  rw [Qch]
  exact Q1iw p0 H i0 bF
 | x0 :: r0, i0, hd => by
  obtain ⟨bH, bT, hd'⟩ := Q1o hd
  have bF : (decide ((i0 : Int) < ((List.length p0.aM.bg) : Int))) = true := by simp; omega
  rw [Qch]
  cases h0 : (decide (60 < ((List.length x0.fields) : Int))) with
  | true =>
   exact Q1ix p0 H x0 i0 bH bT bF h0
  | false =>
   exact Q102 p0 (fun r hr => Q1hh p0 H x0 i0 bH bT bF h0 hr) _ (Q17u p0 H r0 _ hd')
def s_K8 (p0 : aD) : Bool :=
 bif (decide (40 < ((List.length p0.aM.bP) : Int))) then
  false
 else
  bif (decide (40 < ((List.length p0.aM.bS) : Int))) then
   false
  else
   bif (decide (40 < ((List.length p0.aM.bL) : Int))) then
    false
   else
    bif (decide (40 < ((List.length p0.aM.bg) : Int))) then
     false
    else
     (match (Qch p0 p0.aM.bg 0) with
     | .k0 => bif (Qyb p0.aU 900) then
       (Qyb p0.aZ 300)
      else
       false
     | .k1 => false)
def c_K8 (p0 : aD) : En := .call 11 [.agg (aD.cells p0)] []
def a_K8 (p0 : aD) : Rs := .ret (.bool (s_K8 p0)) []
def H_K8 (p0 : aD) : Prop := (Qju p0) ∧ (Q1of p0.aU 900) ∧ (Q1of p0.aZ 300) ∧ True
theorem Q20h (p0 : aD) (_H : H_K8 p0) (h0 : (decide (40 < ((List.length p0.aM.bP) : Int))) = true) : Q5 G (c_K8 p0) (.ret (.bool (false)) []) := by
 exact Q6 (fn := Ir.K8) (by kernel_rfl) VOK.nil [hP 8 (Qq _ _ (bf.Q7 p0.aM.bP)), hB 0 h0] [] (by kernel_rfl)
theorem Q20i (p0 : aD) (_H : H_K8 p0) (h0 : (decide (40 < ((List.length p0.aM.bP) : Int))) = false) (h1 : (decide (40 < ((List.length p0.aM.bS) : Int))) = true) : Q5 G (c_K8 p0) (.ret (.bool (false)) []) := by
 exact Q6 (fn := Ir.K8) (by kernel_rfl) VOK.nil [hP 8 (Qq _ _ (bf.Q7 p0.aM.bP)), hB 0 h0, hP 3 (Qq _ _ (bW.Q7 p0.aM.bS)), hB 0 h1] [] (by kernel_rfl)
theorem Q20j (p0 : aD) (_H : H_K8 p0) (h0 : (decide (40 < ((List.length p0.aM.bP) : Int))) = false) (h1 : (decide (40 < ((List.length p0.aM.bS) : Int))) = false) (h2 : (decide (40 < ((List.length p0.aM.bL) : Int))) = true) : Q5 G (c_K8 p0) (.ret (.bool (false)) []) := by
 exact Q6 (fn := Ir.K8) (by kernel_rfl) VOK.nil [hP 8 (Qq _ _ (bf.Q7 p0.aM.bP)), hB 0 h0, hP 3 (Qq _ _ (bW.Q7 p0.aM.bS)), hB 0 h1, hP 4 (Qq _ _ (Q2d p0.aM.bL)), hB 0 h2] [] (by kernel_rfl)
theorem Q20k (p0 : aD) (_H : H_K8 p0) (h0 : (decide (40 < ((List.length p0.aM.bP) : Int))) = false) (h1 : (decide (40 < ((List.length p0.aM.bS) : Int))) = false) (h2 : (decide (40 < ((List.length p0.aM.bL) : Int))) = false) (h3 : (decide (40 < ((List.length p0.aM.bg) : Int))) = true) : Q5 G (c_K8 p0) (.ret (.bool (false)) []) := by
 exact Q6 (fn := Ir.K8) (by kernel_rfl) VOK.nil [hP 8 (Qq _ _ (bf.Q7 p0.aM.bP)), hB 0 h0, hP 3 (Qq _ _ (bW.Q7 p0.aM.bS)), hB 0 h1, hP 4 (Qq _ _ (Q2d p0.aM.bL)), hB 0 h2, hP 4 (Qq _ _ (bD.Q7 p0.aM.bg)), hB 0 h3] [] (by kernel_rfl)
theorem Q20l (p0 : aD) (H : H_K8 p0) (h0 : (decide (40 < ((List.length p0.aM.bP) : Int))) = false) (h1 : (decide (40 < ((List.length p0.aM.bS) : Int))) = false) (h2 : (decide (40 < ((List.length p0.aM.bL) : Int))) = false) (h3 : (decide (40 < ((List.length p0.aM.bg) : Int))) = false) (z4 : Nat → PV) (iX : Nat → List PV) (hl4 : Q5 G (Qca p0 0) (.st (.exit 0) (Qlp p0 z4 iX))) : Q5 G (c_K8 p0) (.ret (.bool (bif (Qyb p0.aU 900) then
   (Qyb p0.aZ 300)
 else
   false)) []) := by
 cases h4 : (Qyb p0.aU 900) with
 | true =>
  exact Q6 (fn := Ir.K8) (by kernel_rfl) VOK.nil [hP 8 (Qq _ _ (bf.Q7 p0.aM.bP)), hB 0 h0, hP 3 (Qq _ _ (bW.Q7 p0.aM.bS)), hB 0 h1, hP 4 (Qq _ _ (Q2d p0.aM.bL)), hB 0 h2, hP 4 (Qq _ _ (bD.Q7 p0.aM.bg)), hB 0 h3] [aN hl4, aB (Q1qc p0.aU 900 H.2.1) h4, aN (Q1qc p0.aZ 300 H.2.2.1)] (by kernel_rfl)
 | false =>
  exact Q6 (fn := Ir.K8) (by kernel_rfl) VOK.nil [hP 8 (Qq _ _ (bf.Q7 p0.aM.bP)), hB 0 h0, hP 3 (Qq _ _ (bW.Q7 p0.aM.bS)), hB 0 h1, hP 4 (Qq _ _ (Q2d p0.aM.bL)), hB 0 h2, hP 4 (Qq _ _ (bD.Q7 p0.aM.bg)), hB 0 h3] [aN hl4, aB (Q1qc p0.aU 900 H.2.1) h4] (by kernel_rfl)
theorem Q20m (p0 : aD) (_H : H_K8 p0) (h0 : (decide (40 < ((List.length p0.aM.bP) : Int))) = false) (h1 : (decide (40 < ((List.length p0.aM.bS) : Int))) = false) (h2 : (decide (40 < ((List.length p0.aM.bL) : Int))) = false) (h3 : (decide (40 < ((List.length p0.aM.bg) : Int))) = false) (z4 : Nat → PV) (iX : Nat → List PV) (hl4 : Q5 G (Qca p0 0) (.st .ret (Qlq p0 z4 iX))) : Q5 G (c_K8 p0) (.ret (.bool (false)) []) := by
 exact Q6 (fn := Ir.K8) (by kernel_rfl) VOK.nil [hP 8 (Qq _ _ (bf.Q7 p0.aM.bP)), hB 0 h0, hP 3 (Qq _ _ (bW.Q7 p0.aM.bS)), hB 0 h1, hP 4 (Qq _ _ (Q2d p0.aM.bL)), hB 0 h2, hP 4 (Qq _ _ (bD.Q7 p0.aM.bg)), hB 0 h3] [aN hl4] (by kernel_rfl)
theorem t_K8 (p0 : aD) (H : H_K8 p0) : Q5 G (c_K8 p0) (a_K8 p0) := by
 unfold a_K8 s_K8
 cases h0 : (decide (40 < ((List.length p0.aM.bP) : Int))) with
 | true =>
  exact Q20h p0 H h0
 | false =>
  cases h1 : (decide (40 < ((List.length p0.aM.bS) : Int))) with
  | true =>
   exact Q20i p0 H h0 h1
  | false =>
   cases h2 : (decide (40 < ((List.length p0.aM.bL) : Int))) with
   | true =>
    exact Q20j p0 H h0 h1 h2
   | false =>
    cases h3 : (decide (40 < ((List.length p0.aM.bg) : Int))) with
    | true =>
     exact Q20k p0 H h0 h1 h2 h3
    | false =>
     have hl4 := Q17u p0 (H.1) p0.aM.bg 0 (by simp)
     cases hr4 : (Qch p0 p0.aM.bg 0) with
     | k0 =>
      rw [hr4] at hl4
      obtain ⟨z4, iX, hl4⟩ := hl4
      try dsimp only
      exact Q20l p0 H h0 h1 h2 h3 z4 iX hl4
     | k1 =>
      rw [hr4] at hl4
      obtain ⟨z4, iX, hl4⟩ := hl4
      exact Q20m p0 H h0 h1 h2 h3 z4 iX hl4
end Go.Proofs.YtimjjohlpnkacaaGreat
end

section
/- The chapter's examples (printed by a program). -/
namespace Go.Proofs.YtimjjohlpnkacaaGreat
open Go.Pv
theorem t_K6 : Q5 G (.call 12 [] []) (.ret (.bool true) []) := ⟨400, by kernel_rfl⟩
end Go.Proofs.YtimjjohlpnkacaaGreat
end

section
/- What the laws ask of their arguments (printed by a program). -/
namespace Go.Proofs.YtimjjohlpnkacaaGreat
open Go.Pv
def Q14x : Ty := .st [.str, .str]
def Qvk (x : bf) : Prop := okS x.key ∧ okS x.value
theorem Q198 {c : List PV} (h : Of Γ Q14x c) : ∃ x : bf, c = x.cells ∧ Qvk x := by
  have g0 := h.st1
  obtain ⟨a0, b0, rfl, h0, g1⟩ := g0.Q3z
  obtain ⟨x0, rfl, k0⟩ := h0.str1
  obtain ⟨a1, b1, rfl, h1, g2⟩ := g1.Q3z
  obtain ⟨x1, rfl, k1⟩ := h1.str1
  have e := g2.empty
  subst e
  exact ⟨⟨x0, x1⟩, rfl, ⟨k0, k1⟩⟩
def Q14y : Ty := .st [.str, .str, .int .i64, .bool, .bool]
def Qvm (x : bW) : Prop := okS x.kind ∧ okS x.name ∧ Qed x.fZ ∧ (fun _ : Bool => True) x.fM ∧ (fun _ : Bool => True) x.block
theorem Q199 {c : List PV} (h : Of Γ Q14y c) : ∃ x : bW, c = x.cells ∧ Qvm x := by
  have g0 := h.st1
  obtain ⟨a0, b0, rfl, h0, g1⟩ := g0.Q3z
  obtain ⟨x0, rfl, k0⟩ := h0.str1
  obtain ⟨a1, b1, rfl, h1, g2⟩ := g1.Q3z
  obtain ⟨x1, rfl, k1⟩ := h1.str1
  obtain ⟨a2, b2, rfl, h2, g3⟩ := g2.Q3z
  obtain ⟨x2, rfl, k2⟩ := h2.i64
  obtain ⟨a3, b3, rfl, h3, g4⟩ := g3.Q3z
  obtain ⟨x3, rfl, k3⟩ := h3.bool2
  obtain ⟨a4, b4, rfl, h4, g5⟩ := g4.Q3z
  obtain ⟨x4, rfl, k4⟩ := h4.bool2
  have e := g5.empty
  subst e
  exact ⟨⟨x0, x1, x2, x3, x4⟩, rfl, ⟨k0, k1, k2, k3, k4⟩⟩
def Qqz : Ty := .st [.str, .sl 16 .str]
def Qey (x : bD) : Prop := okS x.name ∧ (okL 16 okS) x.fields
theorem Q100 {c : List PV} (h : Of Γ Qqz c) : ∃ x : bD, c = x.cells ∧ Qey x := by
  have g0 := h.st1
  obtain ⟨a0, b0, rfl, h0, g1⟩ := g0.Q3z
  obtain ⟨x0, rfl, k0⟩ := h0.str1
  obtain ⟨a1, b1, rfl, h1, g2⟩ := g1.Q3z
  obtain ⟨x1, rfl, k1⟩ := (h1.sl1 (f := (fun s : ByteArray => [.str s])) (ok := okS) fun r hr => hr.str1)
  have e := g2.empty
  subst e
  exact ⟨⟨x0, x1⟩, rfl, ⟨k0, k1⟩⟩
def Q1g5 : Ty := .st [.str, .str, .str, .int .i64, .int .i64, .int .i64, .int .i64, .bool, .int .i64, .sl 32 Q14x, .sl 48 Q14y, .sl 16 .str, .sl 40 Qqz]
def Q3p (x : bN) : Prop := okS x.kind ∧ okS x.bO ∧ okS x.name ∧ Qed x.fZ ∧ Qed x.dx ∧ Qed x.bU ∧ Qed x.dw ∧ (fun _ : Bool => True) x.cB ∧ Qed x.cu ∧ (okL 32 Qvk) x.bP ∧ (okL 48 Qvm) x.bS ∧ (okL 16 okS) x.bL ∧ (okL 40 Qey) x.bg
theorem Q1g4 {c : List PV} (h : Of Γ Q1g5 c) : ∃ x : bN, c = x.cells ∧ Q3p x := by
  have g0 := h.st1
  obtain ⟨a0, b0, rfl, h0, g1⟩ := g0.Q3z
  obtain ⟨x0, rfl, k0⟩ := h0.str1
  obtain ⟨a1, b1, rfl, h1, g2⟩ := g1.Q3z
  obtain ⟨x1, rfl, k1⟩ := h1.str1
  obtain ⟨a2, b2, rfl, h2, g3⟩ := g2.Q3z
  obtain ⟨x2, rfl, k2⟩ := h2.str1
  obtain ⟨a3, b3, rfl, h3, g4⟩ := g3.Q3z
  obtain ⟨x3, rfl, k3⟩ := h3.i64
  obtain ⟨a4, b4, rfl, h4, g5⟩ := g4.Q3z
  obtain ⟨x4, rfl, k4⟩ := h4.i64
  obtain ⟨a5, b5, rfl, h5, g6⟩ := g5.Q3z
  obtain ⟨x5, rfl, k5⟩ := h5.i64
  obtain ⟨a6, b6, rfl, h6, g7⟩ := g6.Q3z
  obtain ⟨x6, rfl, k6⟩ := h6.i64
  obtain ⟨a7, b7, rfl, h7, g8⟩ := g7.Q3z
  obtain ⟨x7, rfl, k7⟩ := h7.bool2
  obtain ⟨a8, b8, rfl, h8, g9⟩ := g8.Q3z
  obtain ⟨x8, rfl, k8⟩ := h8.i64
  obtain ⟨a9, b9, rfl, h9, g10⟩ := g9.Q3z
  obtain ⟨x9, rfl, k9⟩ := (h9.sl1 (f := bf.cells) (ok := Qvk) fun r hr => (Q198 hr))
  obtain ⟨a10, b10, rfl, h10, g11⟩ := g10.Q3z
  obtain ⟨x10, rfl, k10⟩ := (h10.sl1 (f := bW.cells) (ok := Qvm) fun r hr => (Q199 hr))
  obtain ⟨a11, b11, rfl, h11, g12⟩ := g11.Q3z
  obtain ⟨x11, rfl, k11⟩ := (h11.sl1 (f := (fun s : ByteArray => [.str s])) (ok := okS) fun r hr => hr.str1)
  obtain ⟨a12, b12, rfl, h12, g13⟩ := g12.Q3z
  obtain ⟨x12, rfl, k12⟩ := (h12.sl1 (f := bD.cells) (ok := Qey) fun r hr => (Q100 hr))
  have e := g13.empty
  subst e
  exact ⟨⟨x0, x1, x2, x3, x4, x5, x6, x7, x8, x9, x10, x11, x12⟩, rfl, ⟨k0, k1, k2, k3, k4, k5, k6, k7, k8, k9, k10, k11, k12⟩⟩
def Q101 : Ty := .st [Q1g5, .nm 51, .nm 51]
def Qln (x : aD) : Prop := Q3p x.aM ∧ Q85 x.aU ∧ Q85 x.aZ
theorem Q13g {c : List PV} (h : Of Γ Q101 c) : ∃ x : aD, c = x.cells ∧ Qln x := by
  have g0 := h.st1
  obtain ⟨a0, b0, rfl, h0, g1⟩ := g0.Q3z
  obtain ⟨x0, rfl, k0⟩ := (Q1g4 h0)
  obtain ⟨a1, b1, rfl, h1, g2⟩ := g1.Q3z
  obtain ⟨x1, rfl, k1⟩ := (Q15z (Q1o3 51) h1)
  obtain ⟨a2, b2, rfl, h2, g3⟩ := g2.Q3z
  obtain ⟨x2, rfl, k2⟩ := (Q15z (Q1o3 51) h2)
  have e := g3.empty
  subst e
  exact ⟨⟨x0, x1, x2⟩, rfl, ⟨k0, k1, k2⟩⟩
end Go.Proofs.YtimjjohlpnkacaaGreat
end

