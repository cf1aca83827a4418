/- Texts of the claim, merged by a program; what the statement does not reach is left out. -/
import Derived.Test.YtimjjohlpnkacaaGreatBWorkcodecBack7
import Derived.Lib.Strings
import Derived.Lib.Slices
import Derived.Lib.Walk
import Derived.Lib.Bytealg
import Derived.Test.YtimjjohlpnkacaaGreatRows

section
/- What the reference's encoders compute (printed by a program). -/
namespace Go.Proofs.YtimjjohlpnkacaaGreat
open Go.Pv
def Qp (p0 : List Fld) (i0 : Nat) (ah : List Fld) : Nat → Int → Int
 | 0, bg => bg
 | k1 + 1, bg =>
  bif (decide (bg < ((List.length ah) : Int))) then
   bif (sLt (List.getD ah (Int.toNat bg) zF).name (List.getD p0 i0 zF).name) then
    Qp p0 i0 ah k1 (bg + 1)
   else
    bg
  else
   bg
def Q1fk (p0 : List Fld) (i0 : Nat) (ah : List Fld) (bg : Int) : List PV :=
  [.sl (Fld.rows p0), .un, .bx 0 0, .ms 1 6 0 (List.length ah), iN (i0 : Int), iN bg] ++ nuns 46
def Qz8 (_p0 : List Fld) (_i0 : Nat) (ah : List Fld) (_bg : Int) : List Ob :=
  [⟨5, 0, true, [iN 0, iN 0, .str eB, .ms 2 5 0 0, .ms 3 6 0 0]⟩, ⟨6, 0, true, (Fld.rows ah).flatten⟩, ⟨5, 0, true, []⟩, ⟨6, 0, true, []⟩]
def Q9r (p0 : List Fld) (i0 : Nat) (ah : List Fld) (bg : Int) : En := .loop 0 Ir.Qkw Ir.Q1ou (Q1fk p0 i0 ah bg) (Qz8 p0 i0 ah bg)
def Q95 (p0 : List Fld) (i0 : Nat) (ah : List Fld) (q0 : Int) (z : Nat → PV) (_zo : Nat → List PV) : St :=
  ⟨[.sl (Fld.rows p0), z 1, .bx 0 0, .ms 1 6 0 (List.length ah), iN (i0 : Int), iN q0] ++ zr z 6 46, [(0, ⟨5, 0, true, [iN 0, iN 0, .str eB, .ms 2 5 0 0, .ms 3 6 0 0]⟩), (1, ⟨6, 0, true, (Fld.rows ah).flatten⟩), (2, ⟨5, 0, true, []⟩), (3, ⟨6, 0, true, []⟩)], 1092⟩
theorem Qx4 (p0 : List Fld) (i0 : Nat) (ah : List Fld) (bg : Int) : VOK (Go.Pv.look (number 0 (Qz8 p0 i0 ah bg))) [(1, Fld.rows ah)] := (VOK.cons (show Seen _ _ from Q3o (ob := ⟨6, 0, true, (Fld.rows ah).flatten⟩) (Fld.Q7 ah 6 rfl)) VOK.nil)
def Qdi (p0 : List Fld) (i0 : Nat) (ah : List Fld) (e : En) (q : Int) : Prop := ∃ z zo, Q0 G e (.st (.exit 2) (Q95 p0 i0 ah q z zo))
theorem Qw3 (p0 : List Fld) (i0 : Nat) (ah : List Fld) {e e' : En} (h : ∀ r, Q0 G e r → Q0 G e' r) : ∀ q, Qdi p0 i0 ah e q → Qdi p0 i0 ah e' q
  | _, ⟨z, zo, hz⟩ => ⟨z, zo, h _ hz⟩
theorem Q1be (p0 : List Fld) (i0 : Nat) (ah : List Fld) (bg : Int) (gB : 0 ≤ bg) (_gD : bg ≤ (List.length ah : Int)) (fQ : i0 < List.length p0) (gH : List.length (ah : List Fld) ≤ 137438953472) (h0 : (decide (bg < ((List.length ah) : Int))) = true) (h1 : (sLt (List.getD ah (Int.toNat bg) zF).name (List.getD p0 i0 zF).name) = true) {r : Rs} (hr : Q0 G (Q9r p0 i0 ah (bg + 1)) r) : Q0 G (Q9r p0 i0 ah bg) r := by
 have e0 := of_decide_eq_true h0
 exact Qc (Qx4 p0 i0 ah bg) [hB 3 h0, hP 3 (Q5k 1 6 (List.length ah) bg (Int.toNat bg) rfl (by omega) (by omega)), hP 1 (Qc4 1 6 0 true ((Fld.rows ah).flatten) (Fld.rows ah) 1 false (Int.toNat bg) 0 ((Int.toNat bg) * 6) (Fld.cells (List.getD ah (Int.toNat bg) zF)) (.str (List.getD ah (Int.toNat bg) zF).name) rfl rfl (Fld.Qg (Q5x ah (Int.toNat bg) zF (by omega))) (Fld.Qh ah) (by decide) rfl), hP 2 (Q1po 6 (Fld.rows p0) (i0 : Int) _ (by omega) (Fld.Qg (Q5x p0 (Int.toNat (i0 : Int)) zF (by omega))) rfl), hB 2 h1, hP 2 (w_ok (bg + 1) (by omega))] [] hr (by kernel_rfl)
def Qsz (p0 : List Fld) (i0 : Nat) (ah : List Fld) (bg : Int) : List PV :=
  nuns 13 ++ [iN bg, .ms 1 6 0 (List.length ah), iN ((List.length ah) : Int), .bool true, .bool true, .ms 1 6 0 (List.length ah), iN bg, .bx 1 ((Int.toNat bg) * 6), .bx 1 ((Int.toNat bg) * 6), .str (List.getD ah (Int.toNat bg) zF).name, .sl (Fld.rows p0), iN (i0 : Int), .rf [.str (List.getD p0 i0 zF).name, iN (List.getD p0 i0 zF).v.kind, iN (List.getD p0 i0 zF).v.n, .str (List.getD p0 i0 zF).v.s, .sl (Val.rows (List.getD p0 i0 zF).v.list), .sl (Fld.rows (List.getD p0 i0 zF).v.fields)], .rf [.str (List.getD p0 i0 zF).name, iN (List.getD p0 i0 zF).v.kind, iN (List.getD p0 i0 zF).v.n, .str (List.getD p0 i0 zF).v.s, .sl (Val.rows (List.getD p0 i0 zF).v.list), .sl (Fld.rows (List.getD p0 i0 zF).v.fields)], .str (List.getD p0 i0 zF).name, .bool false, .bool false]
def Qmp (_p0 : List Fld) (_i0 : Nat) (_ah : List Fld) (_bg : Int) : List (Nat × List PV) :=
  []
theorem Q1e1 (p0 : List Fld) (i0 : Nat) (ah : List Fld) (bg : Int) (gB : 0 ≤ bg) (_gD : bg ≤ (List.length ah : Int)) (fQ : i0 < List.length p0) (gH : List.length (ah : List Fld) ≤ 137438953472) (h0 : (decide (bg < ((List.length ah) : Int))) = true) (h1 : (sLt (List.getD ah (Int.toNat bg) zF).name (List.getD p0 i0 zF).name) = false) : Qdi p0 i0 ah (Q9r p0 i0 ah bg) bg := by
 have e0 := of_decide_eq_true h0
 exact ⟨(envF (Qsz p0 i0 ah bg)), (zoF (Qmp p0 i0 ah bg)), Qd (Qx4 p0 i0 ah bg) (x := ((.exit 2), Q95 p0 i0 ah bg (envF (Qsz p0 i0 ah bg)) (zoF (Qmp p0 i0 ah bg)))) [hB 3 h0, hP 3 (Q5k 1 6 (List.length ah) bg (Int.toNat bg) rfl (by omega) (by omega)), hP 1 (Qc4 1 6 0 true ((Fld.rows ah).flatten) (Fld.rows ah) 1 false (Int.toNat bg) 0 ((Int.toNat bg) * 6) (Fld.cells (List.getD ah (Int.toNat bg) zF)) (.str (List.getD ah (Int.toNat bg) zF).name) rfl rfl (Fld.Qg (Q5x ah (Int.toNat bg) zF (by omega))) (Fld.Qh ah) (by decide) rfl), hP 2 (Q1po 6 (Fld.rows p0) (i0 : Int) _ (by omega) (Fld.Qg (Q5x p0 (Int.toNat (i0 : Int)) zF (by omega))) rfl), hB 2 h1] [] (by kernel_rfl)⟩
def Qt0 (_p0 : List Fld) (_i0 : Nat) (ah : List Fld) (bg : Int) : List PV :=
  nuns 13 ++ [iN bg, .ms 1 6 0 (List.length ah), iN ((List.length ah) : Int), .bool false, .bool false, .tup [], .tup [], .tup [], .tup [], .tup [], .tup [], .tup [], .tup [], .tup [], .tup [], .tup [], .bool false]
def Qmq (_p0 : List Fld) (_i0 : Nat) (_ah : List Fld) (_bg : Int) : List (Nat × List PV) :=
  []
theorem Q1e2 (p0 : List Fld) (i0 : Nat) (ah : List Fld) (bg : Int) (_gB : 0 ≤ bg) (_gD : bg ≤ (List.length ah : Int)) (_fQ : i0 < List.length p0) (_gH : List.length (ah : List Fld) ≤ 137438953472) (h0 : (decide (bg < ((List.length ah) : Int))) = false) : Qdi p0 i0 ah (Q9r p0 i0 ah bg) bg := by
 exact ⟨(envF (Qt0 p0 i0 ah bg)), (zoF (Qmq p0 i0 ah bg)), Qd (Qx4 p0 i0 ah bg) (x := ((.exit 2), Q95 p0 i0 ah bg (envF (Qt0 p0 i0 ah bg)) (zoF (Qmq p0 i0 ah bg)))) [hB 3 h0] [] (by kernel_rfl)⟩
theorem Q125 (p0 : List Fld) (i0 : Nat) (ah : List Fld) : ∀ (k1 : Nat) (bg : Int), 0 ≤ bg → bg ≤ (List.length ah : Int) → i0 < List.length p0 → List.length (ah : List Fld) ≤ 137438953472 → Int.toNat ((List.length ah : Int) - bg) < k1 → Qdi p0 i0 ah (Q9r p0 i0 ah bg) (Qp p0 i0 ah k1 bg)
 | 0, bg, _, _, _, _, hm => absurd hm (Nat.not_lt_zero _)
 | k1 + 1, bg, gB, gD, fQ, gH, hm => by
  rw [Qp]
  cases h0 : (decide (bg < ((List.length ah) : Int))) with
  | true =>
   have e0 := of_decide_eq_true h0
   cases h1 : (sLt (List.getD ah (Int.toNat bg) zF).name (List.getD p0 i0 zF).name) with
   | true =>
    exact Qw3 p0 i0 ah (fun r hr => Q1be p0 i0 ah bg gB gD fQ gH h0 h1 hr) _ (Q125 p0 i0 ah k1 (bg + 1) (by omega) (by omega) (by omega) (by omega) (by omega))
   | false =>
    exact Q1e1 p0 i0 ah bg gB gD fQ gH h0 h1
  | false =>
   exact Q1e2 p0 i0 ah bg gB gD fQ gH h0
theorem Q3t (p0 : List Fld) (i0 : Nat) (ah : List Fld) : ∀ (k1 : Nat) (bg : Int), 0 ≤ bg → bg ≤ (List.length ah : Int) → i0 < List.length p0 → List.length (ah : List Fld) ≤ 137438953472 → Int.toNat ((List.length ah : Int) - bg) < k1 → 0 ≤ (Qp p0 i0 ah k1 bg) ∧ (Qp p0 i0 ah k1 bg) ≤ (List.length ah : Int)
 | 0, bg, _, _, _, _, hm => absurd hm (Nat.not_lt_zero _)
 | k1 + 1, bg, gB, gD, fQ, gH, hm => by
  rw [Qp]
  cases h0 : (decide (bg < ((List.length ah) : Int))) with
  | true =>
   have e0 := of_decide_eq_true h0
   cases h1 : (sLt (List.getD ah (Int.toNat bg) zF).name (List.getD p0 i0 zF).name) with
   | true =>
    exact Q3t p0 i0 ah k1 (bg + 1) (by omega) (by omega) (by omega) (by omega) (by omega)
   | false =>
    exact (show 0 ≤ bg ∧ bg ≤ (List.length ah : Int) from ⟨(by omega), (by omega)⟩)
  | false =>
   have e0 := of_decide_eq_false h0
   exact (show 0 ≤ bg ∧ bg ≤ (List.length ah : Int) from ⟨(by omega), (by omega)⟩)
def Q7t (p0 : List Fld) : List Fld → Nat → (List Fld) → List Fld
 | [], _i0, ah =>
  ah
 | x0 :: r0, i0, ah =>
  bif ((Int.toNat (Qp p0 i0 ah ((Int.toNat ((List.length ah : Int) - 0)) + 1) 0)) == 0) then
   Q7t p0 r0 (i0 + 1) ([x0] ++ (List.take ((List.length ah) - (Int.toNat (Qp p0 i0 ah ((Int.toNat ((List.length ah : Int) - 0)) + 1) 0))) (List.drop (Int.toNat (Qp p0 i0 ah ((Int.toNat ((List.length ah : Int) - 0)) + 1) 0)) ah)))
  else
   Q7t p0 r0 (i0 + 1) (((List.take (Int.toNat (Qp p0 i0 ah ((Int.toNat ((List.length ah : Int) - 0)) + 1) 0)) ah) ++ [x0]) ++ (List.take ((List.length ah) - (Int.toNat (Qp p0 i0 ah ((Int.toNat ((List.length ah : Int) - 0)) + 1) 0))) (List.drop (Int.toNat (Qp p0 i0 ah ((Int.toNat ((List.length ah : Int) - 0)) + 1) 0)) ah)))
def Q1fj (p0 : List Fld) (i0 : Nat) (ah : List Fld) : List PV :=
  [.sl (Fld.rows p0), .un, .bx 0 0, .ms 1 6 0 (List.length ah), iN (i0 : Int)] ++ nuns 47
def Qz7 (_p0 : List Fld) (_i0 : Nat) (ah : List Fld) : List Ob :=
  [⟨5, 0, true, [iN 0, iN 0, .str eB, .ms 2 5 0 0, .ms 3 6 0 0]⟩, ⟨6, 0, true, (Fld.rows ah).flatten⟩, ⟨5, 0, true, []⟩, ⟨6, 0, true, []⟩]
def Qbg (p0 : List Fld) (i0 : Nat) (ah : List Fld) : En := .loop 0 Ir.Qkv Ir.Q1ot (Q1fj p0 i0 ah) (Qz7 p0 i0 ah)
def Qr7 (_p0 : List Fld) (q0 : List Fld) (z : Nat → PV) (_zo : Nat → List PV) : St :=
  ⟨[z 0, z 1, .bx 0 0, .ms 1 6 0 (List.length q0)] ++ zr z 4 48, [(0, ⟨5, 0, true, [iN 0, iN 0, .str eB, .ms 2 5 0 0, .ms 3 6 0 0]⟩), (1, ⟨6, 0, true, (Fld.rows q0).flatten⟩), (2, ⟨5, 0, true, []⟩), (3, ⟨6, 0, true, []⟩)], 260⟩
theorem Qx3 (p0 : List Fld) (i0 : Nat) (ah : List Fld) : VOK (Go.Pv.look (number 0 (Qz7 p0 i0 ah))) [(1, Fld.rows ah)] := (VOK.cons (show Seen _ _ from Q3o (ob := ⟨6, 0, true, (Fld.rows ah).flatten⟩) (Fld.Q7 ah 6 rfl)) VOK.nil)
def Qix (p0 : List Fld) (e : En) (q : List Fld) : Prop := ∃ z zo, Q0 G e (.st (.exit 0) (Qr7 p0 q z zo))
theorem Qdh (p0 : List Fld) {e e' : En} (h : ∀ r, Q0 G e r → Q0 G e' r) : ∀ q, Qix p0 e q → Qix p0 e' q
  | _, ⟨z, zo, hz⟩ => ⟨z, zo, h _ hz⟩
def Qd4 (p0 : List Fld) : Prop := (List.length p0 ≤ 137438953472) ∧ (∀ (i0 : Nat) (ah : List Fld) (x0 : Fld), p0[i0]? = some x0 → List.length ah ≤ i0 → List.length (ah : List Fld) ≤ i0 → ((Int.toNat (Qp p0 i0 ah ((Int.toNat ((List.length ah : Int) - 0)) + 1) 0)) == 0) = false → ((List.length (List.take (Int.toNat (Qp p0 i0 ah ((Int.toNat ((List.length ah : Int) - 0)) + 1) 0)) ah)) + 1) * 96 ≤ 140737488355328) ∧ (∀ (i0 : Nat) (ah : List Fld) (x0 : Fld), p0[i0]? = some x0 → List.length ah ≤ i0 → List.length (ah : List Fld) ≤ i0 → ((Int.toNat (Qp p0 i0 ah ((Int.toNat ((List.length ah : Int) - 0)) + 1) 0)) == 0) = true → List.length (([x0] ++ (List.take ((List.length ah) - (Int.toNat (Qp p0 i0 ah ((Int.toNat ((List.length ah : Int) - 0)) + 1) 0))) (List.drop (Int.toNat (Qp p0 i0 ah ((Int.toNat ((List.length ah : Int) - 0)) + 1) 0)) ah))) : List Fld) ≤ (i0 + 1)) ∧ (∀ (i0 : Nat) (ah : List Fld) (x0 : Fld), p0[i0]? = some x0 → List.length ah ≤ i0 → List.length (ah : List Fld) ≤ i0 → ((Int.toNat (Qp p0 i0 ah ((Int.toNat ((List.length ah : Int) - 0)) + 1) 0)) == 0) = false → List.length ((((List.take (Int.toNat (Qp p0 i0 ah ((Int.toNat ((List.length ah : Int) - 0)) + 1) 0)) ah) ++ [x0]) ++ (List.take ((List.length ah) - (Int.toNat (Qp p0 i0 ah ((Int.toNat ((List.length ah : Int) - 0)) + 1) 0))) (List.drop (Int.toNat (Qp p0 i0 ah ((Int.toNat ((List.length ah : Int) - 0)) + 1) 0)) ah))) : List Fld) ≤ (i0 + 1)) ∧ True
def Qsy (p0 : List Fld) (i0 : Nat) (_ah : List Fld) : List PV :=
  [.sl (Fld.rows p0), .un, .un, .un, iN (i0 : Int), .un, .un, iN (i0 : Int), .sl (Fld.rows p0), iN ((List.length p0) : Int), .bool false]
def Qmo (_p0 : List Fld) (_i0 : Nat) (_ah : List Fld) : List (Nat × List PV) :=
  []
theorem Q1e0 (p0 : List Fld) (_H : Qd4 p0) (i0 : Nat) (ah : List Fld) (_aT : List.length ah ≤ i0) (_fP : List.length (ah : List Fld) ≤ i0) (bG : (decide ((i0 : Int) < ((List.length p0) : Int))) = false) : Qix p0 (Qbg p0 i0 ah) ah := by
 exact ⟨(envF (Qsy p0 i0 ah)), (zoF (Qmo p0 i0 ah)), Qd (Qx3 p0 i0 ah) (x := ((.exit 0), Qr7 p0 ah (envF (Qsy p0 i0 ah)) (zoF (Qmo p0 i0 ah)))) [hP 2 (Qw _ _ (Fld.Q8 p0)), hB 0 bG] [] (by kernel_rfl)⟩
theorem Q1bc (p0 : List Fld) (H : Qd4 p0) (x0 : Fld) (i0 : Nat) (ah : List Fld) (bU : p0[i0]? = some x0) (dG : i0 < List.length p0) (aT : List.length ah ≤ i0) (_fP : List.length (ah : List Fld) ≤ i0) (bG : (decide ((i0 : Int) < ((List.length p0) : Int))) = true) (z0 : Nat → PV) (gq : Nat → List PV) (hl0 : Q0 G (Q9r p0 i0 ah 0) (.st (.exit 2) (Q95 p0 i0 ah (Qp p0 i0 ah ((Int.toNat ((List.length ah : Int) - 0)) + 1) 0) z0 gq))) (h0 : ((Int.toNat (Qp p0 i0 ah ((Int.toNat ((List.length ah : Int) - 0)) + 1) 0)) == 0) = true) {r : Rs} (hr : Q0 G (Qbg p0 (i0 + 1) ([x0] ++ (List.take ((List.length ah) - (Int.toNat (Qp p0 i0 ah ((Int.toNat ((List.length ah : Int) - 0)) + 1) 0))) (List.drop (Int.toNat (Qp p0 i0 ah ((Int.toNat ((List.length ah : Int) - 0)) + 1) 0)) ah)))) r) : Q0 G (Qbg p0 i0 ah) r := by
 have hB0 := H.1; have e0 := eq_of_beq h0
 exact Qc (Qx3 p0 i0 ah) [hP 2 (Qw _ _ (Fld.Q8 p0)), hB 0 bG, hS 0 true (Fld.Q7 ah 6 rfl), hP 5 (Q19c 1 6 (List.length ah) (Qp p0 i0 ah ((Int.toNat ((List.length ah : Int) - 0)) + 1) 0) (by have g0 := Q3t p0 i0 ah ((Int.toNat ((List.length ah : Int) - 0)) + 1) 0 (by omega) (by omega) (by omega) (by omega) (by omega); omega) (by have g0 := Q3t p0 i0 ah ((Int.toNat ((List.length ah : Int) - 0)) + 1) 0 (by omega) (by omega) (by omega) (by omega) (by omega); omega)), hP 0 (Q1lq 1 1412 6 96 0 true (Fld.rows ah) 0 (Int.toNat (Qp p0 i0 ah ((Int.toNat ((List.length ah : Int) - 0)) + 1) 0)) (Fld.Qh ah) (by rw [Fld.Q8]; exact (by have g0 := Q3t p0 i0 ah ((Int.toNat ((List.length ah : Int) - 0)) + 1) 0 (by omega) (by omega) (by omega) (by omega) (by omega); omega)) (eq_of_beq h0)), hP 4 (Q2q 6 _ i0 _ (Fld.Qg bU) rfl), hP 7 (Q170 1 6 (List.length ah) (Qp p0 i0 ah ((Int.toNat ((List.length ah : Int) - 0)) + 1) 0) (by have g0 := Q3t p0 i0 ah ((Int.toNat ((List.length ah : Int) - 0)) + 1) 0 (by omega) (by omega) (by omega) (by omega) (by omega); omega) (by have g0 := Q3t p0 i0 ah ((Int.toNat ((List.length ah : Int) - 0)) + 1) 0 (by omega) (by omega) (by omega) (by omega) (by omega); omega)), hV 0 [(2308, Fld.rows ([x0] ++ (List.take ((List.length ah) - (Int.toNat (Qp p0 i0 ah ((Int.toNat ((List.length ah : Int) - 0)) + 1) 0))) (List.drop (Int.toNat (Qp p0 i0 ah ((Int.toNat ((List.length ah : Int) - 0)) + 1) 0)) ah))))] (Q1hd 1924 1 2308 6 96 0 [.str x0.name, iN x0.v.kind, iN x0.v.n, .str x0.v.s, .sl (Val.rows x0.v.list), .sl (Fld.rows x0.v.fields)] (Fld.rows [x0]) 0 true (Fld.rows ah) (Fld.rows ([x0] ++ (List.take ((List.length ah) - (Int.toNat (Qp p0 i0 ah ((Int.toNat ((List.length ah : Int) - 0)) + 1) 0))) (List.drop (Int.toNat (Qp p0 i0 ah ((Int.toNat ((List.length ah : Int) - 0)) + 1) 0)) ah)))) 1 (Int.toNat (Qp p0 i0 ah ((Int.toNat ((List.length ah : Int) - 0)) + 1) 0)) ((List.length ah) - (Int.toNat (Qp p0 i0 ah ((Int.toNat ((List.length ah : Int) - 0)) + 1) 0))) (List.length ([x0] ++ (List.take ((List.length ah) - (Int.toNat (Qp p0 i0 ah ((Int.toNat ((List.length ah : Int) - 0)) + 1) 0))) (List.drop (Int.toNat (Qp p0 i0 ah ((Int.toNat ((List.length ah : Int) - 0)) + 1) 0)) ah)))) rfl (by simp only [Fld.Qm, Fld.Q11]; rfl) (Fld.Q8 [x0]).symm (Fld.Q8 ([x0] ++ (List.take ((List.length ah) - (Int.toNat (Qp p0 i0 ah ((Int.toNat ((List.length ah : Int) - 0)) + 1) 0))) (List.drop (Int.toNat (Qp p0 i0 ah ((Int.toNat ((List.length ah : Int) - 0)) + 1) 0)) ah)))).symm (by rw [Fld.Q14r, Fld.Qjs, Fld.Qyb]) (Fld.Qh [x0]) (Fld.Qh ah) (by rw [Fld.Q8]; exact (by have g0 := Q3t p0 i0 ah ((Int.toNat ((List.length ah : Int) - 0)) + 1) 0 (by omega) (by omega) (by omega) (by omega) (by omega); omega)) (by have g0 := Q3t p0 i0 ah ((Int.toNat ((List.length ah : Int) - 0)) + 1) 0 (by omega) (by omega) (by omega) (by omega) (by omega); omega)), hS 0 true (Fld.Q7 ([x0] ++ (List.take ((List.length ah) - (Int.toNat (Qp p0 i0 ah ((Int.toNat ((List.length ah : Int) - 0)) + 1) 0))) (List.drop (Int.toNat (Qp p0 i0 ah ((Int.toNat ((List.length ah : Int) - 0)) + 1) 0)) ah))) 6 rfl), hP 4 (Q26 i0 (by omega))] [aV [(1, Fld.rows ah)] hl0] hr (by kernel_rfl)
theorem Q1bd (p0 : List Fld) (H : Qd4 p0) (x0 : Fld) (i0 : Nat) (ah : List Fld) (bU : p0[i0]? = some x0) (dG : i0 < List.length p0) (aT : List.length ah ≤ i0) (fP : List.length (ah : List Fld) ≤ i0) (bG : (decide ((i0 : Int) < ((List.length p0) : Int))) = true) (z0 : Nat → PV) (gq : Nat → List PV) (hl0 : Q0 G (Q9r p0 i0 ah 0) (.st (.exit 2) (Q95 p0 i0 ah (Qp p0 i0 ah ((Int.toNat ((List.length ah : Int) - 0)) + 1) 0) z0 gq))) (h0 : ((Int.toNat (Qp p0 i0 ah ((Int.toNat ((List.length ah : Int) - 0)) + 1) 0)) == 0) = false) {r : Rs} (hr : Q0 G (Qbg p0 (i0 + 1) (((List.take (Int.toNat (Qp p0 i0 ah ((Int.toNat ((List.length ah : Int) - 0)) + 1) 0)) ah) ++ [x0]) ++ (List.take ((List.length ah) - (Int.toNat (Qp p0 i0 ah ((Int.toNat ((List.length ah : Int) - 0)) + 1) 0))) (List.drop (Int.toNat (Qp p0 i0 ah ((Int.toNat ((List.length ah : Int) - 0)) + 1) 0)) ah)))) r) : Q0 G (Qbg p0 i0 ah) r := by
 have hB0 := H.1; have e0 := beq_eq_false_iff_ne.1 h0
 exact Qc (Qx3 p0 i0 ah) [hP 2 (Qw _ _ (Fld.Q8 p0)), hB 0 bG, hS 0 true (Fld.Q7 ah 6 rfl), hP 5 (Q19c 1 6 (List.length ah) (Qp p0 i0 ah ((Int.toNat ((List.length ah : Int) - 0)) + 1) 0) (by have g0 := Q3t p0 i0 ah ((Int.toNat ((List.length ah : Int) - 0)) + 1) 0 (by omega) (by omega) (by omega) (by omega) (by omega); omega) (by have g0 := Q3t p0 i0 ah ((Int.toNat ((List.length ah : Int) - 0)) + 1) 0 (by omega) (by omega) (by omega) (by omega) (by omega); omega)), hV 0 [(1412, Fld.rows (List.take (Int.toNat (Qp p0 i0 ah ((Int.toNat ((List.length ah : Int) - 0)) + 1) 0)) ah))] (Q1zr 1 1412 6 96 0 true (Fld.rows ah) (Fld.rows (List.take (Int.toNat (Qp p0 i0 ah ((Int.toNat ((List.length ah : Int) - 0)) + 1) 0)) ah)) 0 (Int.toNat (Qp p0 i0 ah ((Int.toNat ((List.length ah : Int) - 0)) + 1) 0)) (List.length (List.take (Int.toNat (Qp p0 i0 ah ((Int.toNat ((List.length ah : Int) - 0)) + 1) 0)) ah)) (Fld.Qh ah) (by rw [Fld.Q8]; exact (by have g0 := Q3t p0 i0 ah ((Int.toNat ((List.length ah : Int) - 0)) + 1) 0 (by omega) (by omega) (by omega) (by omega) (by omega); omega)) (beq_eq_false_iff_ne.1 h0) (by rw [Fld.Qjs]; rfl) (by have g0 := Q3t p0 i0 ah ((Int.toNat ((List.length ah : Int) - 0)) + 1) 0 (by omega) (by omega) (by omega) (by omega) (by omega); try simp only [List.length_take]; omega) (by have g0 := Q3t p0 i0 ah ((Int.toNat ((List.length ah : Int) - 0)) + 1) 0 (by omega) (by omega) (by omega) (by omega) (by omega); omega)), hS 0 true (Fld.Q7 (List.take (Int.toNat (Qp p0 i0 ah ((Int.toNat ((List.length ah : Int) - 0)) + 1) 0)) ah) 6 rfl), hP 4 (Q2q 6 _ i0 _ (Fld.Qg bU) rfl), hA 2 1412 1860 1924 6 96 0 0 true Fld.Q8 Fld.Q1g (List.take (Int.toNat (Qp p0 i0 ah ((Int.toNat ((List.length ah : Int) - 0)) + 1) 0)) ah) x0 (Fld.Qh (List.take (Int.toNat (Qp p0 i0 ah ((Int.toNat ((List.length ah : Int) - 0)) + 1) 0)) ah)) rfl rfl ((H.2.1 i0 ah x0 bU aT fP) h0), hS 0 true (Fld.Q7 ((List.take (Int.toNat (Qp p0 i0 ah ((Int.toNat ((List.length ah : Int) - 0)) + 1) 0)) ah) ++ [x0]) 6 rfl), hP 4 (Q170 1 6 (List.length ah) (Qp p0 i0 ah ((Int.toNat ((List.length ah : Int) - 0)) + 1) 0) (by have g0 := Q3t p0 i0 ah ((Int.toNat ((List.length ah : Int) - 0)) + 1) 0 (by omega) (by omega) (by omega) (by omega) (by omega); omega) (by have g0 := Q3t p0 i0 ah ((Int.toNat ((List.length ah : Int) - 0)) + 1) 0 (by omega) (by omega) (by omega) (by omega) (by omega); omega)), hV 0 [(2308, Fld.rows (((List.take (Int.toNat (Qp p0 i0 ah ((Int.toNat ((List.length ah : Int) - 0)) + 1) 0)) ah) ++ [x0]) ++ (List.take ((List.length ah) - (Int.toNat (Qp p0 i0 ah ((Int.toNat ((List.length ah : Int) - 0)) + 1) 0))) (List.drop (Int.toNat (Qp p0 i0 ah ((Int.toNat ((List.length ah : Int) - 0)) + 1) 0)) ah))))] (Q1hd 1924 1 2308 6 96 0 ((Fld.rows ((List.take (Int.toNat (Qp p0 i0 ah ((Int.toNat ((List.length ah : Int) - 0)) + 1) 0)) ah) ++ [x0])).flatten) (Fld.rows ((List.take (Int.toNat (Qp p0 i0 ah ((Int.toNat ((List.length ah : Int) - 0)) + 1) 0)) ah) ++ [x0])) 0 true (Fld.rows ah) (Fld.rows (((List.take (Int.toNat (Qp p0 i0 ah ((Int.toNat ((List.length ah : Int) - 0)) + 1) 0)) ah) ++ [x0]) ++ (List.take ((List.length ah) - (Int.toNat (Qp p0 i0 ah ((Int.toNat ((List.length ah : Int) - 0)) + 1) 0))) (List.drop (Int.toNat (Qp p0 i0 ah ((Int.toNat ((List.length ah : Int) - 0)) + 1) 0)) ah)))) (List.length ((List.take (Int.toNat (Qp p0 i0 ah ((Int.toNat ((List.length ah : Int) - 0)) + 1) 0)) ah) ++ [x0])) (Int.toNat (Qp p0 i0 ah ((Int.toNat ((List.length ah : Int) - 0)) + 1) 0)) ((List.length ah) - (Int.toNat (Qp p0 i0 ah ((Int.toNat ((List.length ah : Int) - 0)) + 1) 0))) (List.length (((List.take (Int.toNat (Qp p0 i0 ah ((Int.toNat ((List.length ah : Int) - 0)) + 1) 0)) ah) ++ [x0]) ++ (List.take ((List.length ah) - (Int.toNat (Qp p0 i0 ah ((Int.toNat ((List.length ah : Int) - 0)) + 1) 0))) (List.drop (Int.toNat (Qp p0 i0 ah ((Int.toNat ((List.length ah : Int) - 0)) + 1) 0)) ah)))) rfl rfl (Fld.Q8 ((List.take (Int.toNat (Qp p0 i0 ah ((Int.toNat ((List.length ah : Int) - 0)) + 1) 0)) ah) ++ [x0])).symm (Fld.Q8 (((List.take (Int.toNat (Qp p0 i0 ah ((Int.toNat ((List.length ah : Int) - 0)) + 1) 0)) ah) ++ [x0]) ++ (List.take ((List.length ah) - (Int.toNat (Qp p0 i0 ah ((Int.toNat ((List.length ah : Int) - 0)) + 1) 0))) (List.drop (Int.toNat (Qp p0 i0 ah ((Int.toNat ((List.length ah : Int) - 0)) + 1) 0)) ah)))).symm (by rw [Fld.Q14r, Fld.Qjs, Fld.Qyb]) (Fld.Qh ((List.take (Int.toNat (Qp p0 i0 ah ((Int.toNat ((List.length ah : Int) - 0)) + 1) 0)) ah) ++ [x0])) (Fld.Qh ah) (by rw [Fld.Q8]; exact (by have g0 := Q3t p0 i0 ah ((Int.toNat ((List.length ah : Int) - 0)) + 1) 0 (by omega) (by omega) (by omega) (by omega) (by omega); omega)) (by have g0 := Q3t p0 i0 ah ((Int.toNat ((List.length ah : Int) - 0)) + 1) 0 (by omega) (by omega) (by omega) (by omega) (by omega); try simp only [List.length_append, List.length_cons, List.length_nil, List.length_take]; omega)), hS 0 true (Fld.Q7 (((List.take (Int.toNat (Qp p0 i0 ah ((Int.toNat ((List.length ah : Int) - 0)) + 1) 0)) ah) ++ [x0]) ++ (List.take ((List.length ah) - (Int.toNat (Qp p0 i0 ah ((Int.toNat ((List.length ah : Int) - 0)) + 1) 0))) (List.drop (Int.toNat (Qp p0 i0 ah ((Int.toNat ((List.length ah : Int) - 0)) + 1) 0)) ah))) 6 rfl), hP 4 (Q26 i0 (by omega))] [aV [(1, Fld.rows ah)] hl0] hr (by kernel_rfl)
theorem Qo7 (p0 : List Fld) (H : Qd4 p0) : ∀ (r0 : List Fld) (i0 : Nat) (ah : List Fld), List.drop i0 p0 = r0 → List.length ah ≤ i0 → List.length (ah : List Fld) ≤ i0 → Qix p0 (Qbg p0 i0 ah) (Q7t p0 r0 i0 ah)
 | [], i0, ah, hd, aT, fP => by
  have bG : (decide ((i0 : Int) < ((List.length p0) : Int))) = false := by have := Q1c hd; simp; omega
  rw [Q7t]
  exact Q1e0 p0 H i0 ah aT fP bG
 | x0 :: r0, i0, ah, hd, aT, fP => by
  obtain ⟨bU, dG, hd'⟩ := Q19 hd
  have hB0 := H.1
  have bG : (decide ((i0 : Int) < ((List.length p0) : Int))) = true := by simp; omega
  rw [Q7t]
  have hl0 := Q125 p0 i0 ah ((Int.toNat ((List.length ah : Int) - 0)) + 1) 0 (by omega) (by omega) (by omega) (by omega) (by omega)
  obtain ⟨z0, gq, hl0⟩ := hl0
  cases h0 : ((Int.toNat (Qp p0 i0 ah ((Int.toNat ((List.length ah : Int) - 0)) + 1) 0)) == 0) with
  | true =>
   have e0 := eq_of_beq h0
   exact Qdh p0 (fun r hr => Q1bc p0 H x0 i0 ah bU dG aT fP bG z0 gq hl0 h0 hr) _ (Qo7 p0 H r0 _ _ hd' (by first | omega | (simp; omega)) ((H.2.2.1 i0 ah x0 bU aT fP) h0))
  | false =>
   have e0 := beq_eq_false_iff_ne.1 h0
   exact Qdh p0 (fun r hr => Q1bd p0 H x0 i0 ah bU dG aT fP bG z0 gq hl0 h0 hr) _ (Qo7 p0 H r0 _ _ hd' (by first | omega | (simp; omega)) ((H.2.2.2.1 i0 ah x0 bU aT fP) h0))
def Q3i (p0 : List Fld) : Val :=
 (Val.mk 5 0 eB [] (Q7t p0 p0 0 []))
def Q8w (p0 : List Fld) : En := .call 163 [.sl (Fld.rows p0)] []
def Q1xm (p0 : List Fld) : Rs := .ret (.agg (Val.cells (Q3i p0))) []
def Q1w4 (p0 : List Fld) : Prop := List.length p0 ≤ 20
theorem Q17e (p0 : List Fld) (H : Q1w4 p0) : (Qd4 p0) ∧ (List.length ([] : List Fld) ≤ 0) ∧ True := by
  have H' : p0.length ≤ 20 := H
  have hl : ∀ (i : Nat) (x : Fld), p0[i]? = some x → i < 20 := fun i x h => Nat.lt_of_lt_of_le (List.getElem?_eq_some_iff.1 h).1 H'
  refine ⟨⟨by omega, fun i v x hx a _ _ => ?_, fun i v x hx a _ _ => ?_, fun i v x hx a _ _ => ?_, trivial⟩, by simp, trivial⟩ <;>
  · have := hl i x hx
    simp only [List.length_append, List.length_take, List.length_drop, List.length_cons, List.length_nil]
    omega
theorem Q9l (p0 : List Fld) (H : Q1w4 p0) : Q0 G (Q8w p0) (Q1xm p0) := by
 unfold Q1xm Q3i
 have hl0 := Qo7 p0 ((Q17e p0 H).1) p0 0 [] (by simp) (by simp) ((Q17e p0 H).2.1)
 obtain ⟨z0, gq, hl0⟩ := hl0
 exact Q5 (fn := Ir.K2h) (by kernel_rfl) VOK.nil [hS 0 true (Fld.Q7 (Q7t p0 p0 0 []) 6 rfl), hQ (Fld.Q8 (Q7t p0 p0 0 [])).symm] [aV [(1, Fld.rows (Q7t p0 p0 0 []))] hl0] (by kernel_rfl)
def Qt (p0 : Int) : Val :=
 (Val.mk 2 p0 eB [] [])
def Q27i (p0 : Int) : En := .call 164 [iN p0] []
def Q1xh (p0 : Int) : Rs := .ret (.agg (Val.cells (Qt p0))) []
theorem Q45 (p0 : Int) : Q0 G (Q27i p0) (Q1xh p0) := by
 unfold Q1xh Qt
 exact Q5 (fn := Ir.K2c) (by kernel_rfl) VOK.nil [] [] (by kernel_rfl)
def Q2m (p0 : BA) : Val :=
 (Val.mk 3 0 p0 [] [])
def Q27v (p0 : BA) : En := .call 169 [.str p0] []
def Q1xv (p0 : BA) : Rs := .ret (.agg (Val.cells (Q2m p0))) []
theorem Qgc (p0 : BA) : Q0 G (Q27v p0) (Q1xv p0) := by
 unfold Q1xv Q2m
 exact Q5 (fn := Ir.K2w) (by kernel_rfl) VOK.nil [] [] (by kernel_rfl)
def Q6f (p0 : List ByteArray) : List ByteArray → Nat → (List Val) → List Val
 | [], _i0, ah =>
  ah
 | x0 :: r0, i0, ah =>
  Q6f p0 r0 (i0 + 1) (ah ++ [(Q2m x0)])
theorem Q18v (p0 : List ByteArray) : ∀ (l : List ByteArray) (i : Nat) (a : List Val), Q6f p0 l i a = a ++ l.map (fun x0 => (Q2m x0))
  | [], _, _ => by simp [Q6f]
  | x :: r, i, a => by rw [Q6f, Q18v p0 r]; simp
def Q1fq (p0 : List ByteArray) (i0 : Nat) (ah : List Val) : List PV :=
  [.sl (Q18 p0), .un, .bx 0 0, .ms 1 5 0 (List.length ah), iN (i0 : Int)] ++ nuns 16
def Qze (_p0 : List ByteArray) (_i0 : Nat) (ah : List Val) : List Ob :=
  [⟨5, 0, true, [iN 0, iN 0, .str eB, .ms 2 5 0 0, .ms 3 6 0 0]⟩, ⟨5, 0, true, (Val.rows ah).flatten⟩, ⟨5, 0, true, []⟩, ⟨6, 0, true, []⟩]
def Qh4 (p0 : List ByteArray) (i0 : Nat) (ah : List Val) : En := .loop 0 Ir.Ql2 Ir.Q1p0 (Q1fq p0 i0 ah) (Qze p0 i0 ah)
def Qrd (_p0 : List ByteArray) (q0 : List Val) (z : Nat → PV) (_zo : Nat → List PV) : St :=
  ⟨[z 0, z 1, .bx 0 0, .ms 1 5 0 (List.length q0)] ++ zr z 4 17, [(0, ⟨5, 0, true, [iN 0, iN 0, .str eB, .ms 2 5 0 0, .ms 3 6 0 0]⟩), (1, ⟨5, 0, true, (Val.rows q0).flatten⟩), (2, ⟨5, 0, true, []⟩), (3, ⟨6, 0, true, []⟩)], 260⟩
theorem Q16d (p0 : List ByteArray) (i0 : Nat) (ah : List Val) : VOK (Go.Pv.look (number 0 (Qze p0 i0 ah))) [(1, Val.rows ah)] := (VOK.cons (show Seen _ _ from Q3o (ob := ⟨5, 0, true, (Val.rows ah).flatten⟩) (Val.Q7 ah 5 rfl)) VOK.nil)
def Qj3 (p0 : List ByteArray) (e : En) (q : List Val) : Prop := ∃ z zo, Q0 G e (.st (.exit 0) (Qrd p0 q z zo))
theorem Qw9 (p0 : List ByteArray) {e e' : En} (h : ∀ r, Q0 G e r → Q0 G e' r) : ∀ q, Qj3 p0 e q → Qj3 p0 e' q
  | _, ⟨z, zo, hz⟩ => ⟨z, zo, h _ hz⟩
def Qi8 (p0 : List ByteArray) : Prop := (List.length p0 ≤ 137438953472) ∧ True
def Qt6 (p0 : List ByteArray) (i0 : Nat) (_ah : List Val) : List PV :=
  [.sl (Q18 p0), .un, .un, .un, iN (i0 : Int), iN (i0 : Int), .sl (Q18 p0), iN ((List.length p0) : Int), .bool false]
def Qmw (_p0 : List ByteArray) (_i0 : Nat) (_ah : List Val) : List (Nat × List PV) :=
  []
theorem Q1e8 (p0 : List ByteArray) (_H : Qi8 p0) (i0 : Nat) (ah : List Val) (_aT : List.length ah ≤ i0) (bG : (decide ((i0 : Int) < ((List.length p0) : Int))) = false) : Qj3 p0 (Qh4 p0 i0 ah) ah := by
 exact ⟨(envF (Qt6 p0 i0 ah)), (zoF (Qmw p0 i0 ah)), Qd (Q16d p0 i0 ah) (x := ((.exit 0), Qrd p0 ah (envF (Qt6 p0 i0 ah)) (zoF (Qmw p0 i0 ah)))) [hP 2 (Qw _ _ (Q2s p0)), hB 0 bG] [] (by kernel_rfl)⟩
theorem Q1bk (p0 : List ByteArray) (H : Qi8 p0) (x0 : BA) (i0 : Nat) (ah : List Val) (bU : p0[i0]? = some x0) (dG : i0 < List.length p0) (aT : List.length ah ≤ i0) (bG : (decide ((i0 : Int) < ((List.length p0) : Int))) = true) {r : Rs} (hr : Q0 G (Qh4 p0 (i0 + 1) (ah ++ [(Q2m x0)])) r) : Q0 G (Qh4 p0 i0 ah) r := by
 have hB0 := H.1
 exact Qc (Q16d p0 i0 ah) [hP 2 (Qw _ _ (Q2s p0)), hB 0 bG, hP 3 (Q2q 1 _ i0 _ (Q9k bU) rfl), hA 3 1 644 708 5 80 0 0 true Val.Q8 Val.Q1g ah (Q2m x0) (Val.Qh ah) rfl rfl (by omega), hS 0 true (Val.Q7 (ah ++ [(Q2m x0)]) 5 rfl), hP 2 (Q26 i0 (by omega))] [aN (Qgc x0)] hr (by kernel_rfl)
theorem Q12b (p0 : List ByteArray) (H : Qi8 p0) : ∀ (r0 : List ByteArray) (i0 : Nat) (ah : List Val), List.drop i0 p0 = r0 → List.length ah ≤ i0 → Qj3 p0 (Qh4 p0 i0 ah) (Q6f p0 r0 i0 ah)
 | [], i0, ah, hd, aT => by
  have bG : (decide ((i0 : Int) < ((List.length p0) : Int))) = false := by have := Q1c hd; simp; omega
  rw [Q6f]
  exact Q1e8 p0 H i0 ah aT bG
 | x0 :: r0, i0, ah, hd, aT => by
  obtain ⟨bU, dG, hd'⟩ := Q19 hd
  have bG : (decide ((i0 : Int) < ((List.length p0) : Int))) = true := by simp; omega
  rw [Q6f]
  exact Qw9 p0 (fun r hr => Q1bk p0 H x0 i0 ah bU dG aT bG hr) _ (Q12b p0 H r0 _ _ hd' (by first | omega | (simp; omega)))
def Qyf (p0 : List ByteArray) : Val := vL (p0.map vS)
theorem Q2aj (p0 : List ByteArray) : Qyf p0 = ((Val.mk 4 0 eB (Q6f p0 p0 0 []) [])) := by
  rw [Q18v]
  kernel_rfl
def Q27w (p0 : List ByteArray) : En := .call 212 [.sl (Q18 p0)] []
def Q1xw (p0 : List ByteArray) : Rs := .ret (.agg (Val.cells (Qyf p0))) []
def Q1qv (p0 : List ByteArray) : Prop := LSm (fun _ : ByteArray => True) p0
theorem Q1mj (p0 : List ByteArray) (H : Q1qv p0) : (Qi8 p0) ∧ True := by
  exact ⟨⟨Nat.le_trans H.1 (Nat.le_of_ble_eq_true rfl), trivial⟩, trivial⟩
theorem Q2do (p0 : List ByteArray) (H : Q1qv p0) : Q0 G (Q27w p0) (Q1xw p0) := by
 unfold Q1xw
 rw [Q2aj]
 have hl0 := Q12b p0 ((Q1mj p0 H).1) p0 0 [] (by simp) (by simp)
 obtain ⟨z0, gq, hl0⟩ := hl0
 exact Q5 (fn := Ir.K2x) (by kernel_rfl) VOK.nil [hS 0 true (Val.Q7 (Q6f p0 p0 0 []) 5 rfl), hQ (Val.Q8 (Q6f p0 p0 0 [])).symm] [aV [(1, Val.rows (Q6f p0 p0 0 []))] hl0] (by kernel_rfl)
def Q6d (p0 : List aj) : List aj → Nat → (List Val) → List Val
 | [], _i0, ah =>
  ah
 | x0 :: r0, i0, ah =>
  Q6d p0 r0 (i0 + 1) (ah ++ [(Q3i ([(Fld.mk Q13 (Q2m x0.key)), (Fld.mk Q5l (Qt x0.op)), (Fld.mk Q1w (Qyf x0.dF))]))])
theorem Q18t (p0 : List aj) : ∀ (l : List aj) (i : Nat) (a : List Val), Q6d p0 l i a = a ++ l.map (fun x0 => (Q3i ([(Fld.mk Q13 (Q2m x0.key)), (Fld.mk Q5l (Qt x0.op)), (Fld.mk Q1w (Qyf x0.dF))])))
  | [], _, _ => by simp [Q6d]
  | x :: r, i, a => by rw [Q6d, Q18t p0 r]; simp
def Q1fo (p0 : List aj) (i0 : Nat) (ah : List Val) : List PV :=
  [.sl (aj.rows p0), .un, .bx 0 0, .ms 1 5 0 (List.length ah), iN (i0 : Int)] ++ nuns 34
def Qzc (_p0 : List aj) (_i0 : Nat) (ah : List Val) : List Ob :=
  [⟨5, 0, true, [iN 0, iN 0, .str eB, .ms 2 5 0 0, .ms 3 6 0 0]⟩, ⟨5, 0, true, (Val.rows ah).flatten⟩, ⟨5, 0, true, []⟩, ⟨6, 0, true, []⟩]
def Qh2 (p0 : List aj) (i0 : Nat) (ah : List Val) : En := .loop 0 Ir.Ql0 Ir.Q1oy (Q1fo p0 i0 ah) (Qzc p0 i0 ah)
def Qrb (_p0 : List aj) (q0 : List Val) (z : Nat → PV) (_zo : Nat → List PV) : St :=
  ⟨[z 0, z 1, .bx 0 0, .ms 1 5 0 (List.length q0)] ++ zr z 4 35, [(0, ⟨5, 0, true, [iN 0, iN 0, .str eB, .ms 2 5 0 0, .ms 3 6 0 0]⟩), (1, ⟨5, 0, true, (Val.rows q0).flatten⟩), (2, ⟨5, 0, true, []⟩), (3, ⟨6, 0, true, []⟩)], 260⟩
theorem Q16b (p0 : List aj) (i0 : Nat) (ah : List Val) : VOK (Go.Pv.look (number 0 (Qzc p0 i0 ah))) [(1, Val.rows ah)] := (VOK.cons (show Seen _ _ from Q3o (ob := ⟨5, 0, true, (Val.rows ah).flatten⟩) (Val.Q7 ah 5 rfl)) VOK.nil)
def Qj1 (p0 : List aj) (e : En) (q : List Val) : Prop := ∃ z zo, Q0 G e (.st (.exit 0) (Qrb p0 q z zo))
theorem Qw7 (p0 : List aj) {e e' : En} (h : ∀ r, Q0 G e r → Q0 G e' r) : ∀ q, Qj1 p0 e q → Qj1 p0 e' q
  | _, ⟨z, zo, hz⟩ => ⟨z, zo, h _ hz⟩
def Qi6 (p0 : List aj) : Prop := (List.length p0 ≤ 137438953472) ∧ (∀ x0 ∈ p0, Q1qv x0.dF) ∧ True
def Qt4 (p0 : List aj) (i0 : Nat) (_ah : List Val) : List PV :=
  [.sl (aj.rows p0), .un, .un, .un, iN (i0 : Int), iN (i0 : Int), .sl (aj.rows p0), iN ((List.length p0) : Int), .bool false]
def Qmu (_p0 : List aj) (_i0 : Nat) (_ah : List Val) : List (Nat × List PV) :=
  []
theorem Q1e6 (p0 : List aj) (_H : Qi6 p0) (i0 : Nat) (ah : List Val) (_aT : List.length ah ≤ i0) (bG : (decide ((i0 : Int) < ((List.length p0) : Int))) = false) : Qj1 p0 (Qh2 p0 i0 ah) ah := by
 exact ⟨(envF (Qt4 p0 i0 ah)), (zoF (Qmu p0 i0 ah)), Qd (Q16b p0 i0 ah) (x := ((.exit 0), Qrb p0 ah (envF (Qt4 p0 i0 ah)) (zoF (Qmu p0 i0 ah)))) [hP 2 (Qw _ _ (aj.Q8 p0)), hB 0 bG] [] (by kernel_rfl)⟩
theorem Q1bi (p0 : List aj) (H : Qi6 p0) (x0 : aj) (i0 : Nat) (ah : List Val) (bU : p0[i0]? = some x0) (dG : i0 < List.length p0) (aT : List.length ah ≤ i0) (bG : (decide ((i0 : Int) < ((List.length p0) : Int))) = true) {r : Rs} (hr : Q0 G (Qh2 p0 (i0 + 1) (ah ++ [(Q3i ([(Fld.mk Q13 (Q2m x0.key)), (Fld.mk Q5l (Qt x0.op)), (Fld.mk Q1w (Qyf x0.dF))]))])) r) : Q0 G (Qh2 p0 i0 ah) r := by
 have hB0 := H.1
 exact Qc (Q16b p0 i0 ah) [hP 2 (Qw _ _ (aj.Q8 p0)), hB 0 bG, hP 3 (Q2q 3 _ i0 _ (aj.Qg bU) rfl), hP 6 (Q2q 3 _ i0 _ (aj.Qg bU) rfl), hP 6 (Q2q 3 _ i0 _ (aj.Qg bU) rfl), hA 7 1 1796 1860 5 80 0 0 true Val.Q8 Val.Q1g ah (Q3i ([(Fld.mk Q13 (Q2m x0.key)), (Fld.mk Q5l (Qt x0.op)), (Fld.mk Q1w (Qyf x0.dF))])) (Val.Qh ah) rfl rfl (by omega), hS 0 true (Val.Q7 (ah ++ [(Q3i ([(Fld.mk Q13 (Q2m x0.key)), (Fld.mk Q5l (Qt x0.op)), (Fld.mk Q1w (Qyf x0.dF))]))]) 5 rfl), hP 2 (Q26 i0 (by omega))] [aN (Qgc x0.key), aN (Q45 x0.op), aN (Q2do x0.dF (H.2.1 x0 (Q2l bU))), aN (Q4o (e' := .call 163 [.sl [(Fld.cells (Fld.mk Q13 (Q2m x0.key))), (Fld.cells (Fld.mk Q5l (Qt x0.op))), (Fld.cells (Fld.mk Q1w (Qyf x0.dF)))]] []) (Q9l ([(Fld.mk Q13 (Q2m x0.key)), (Fld.mk Q5l (Qt x0.op)), (Fld.mk Q1w (Qyf x0.dF))]) (Nat.le_of_ble_eq_true rfl)) (by simp only [Q8w, Fld.Qm, Fld.Q11]))] hr (by kernel_rfl)
theorem Q129 (p0 : List aj) (H : Qi6 p0) : ∀ (r0 : List aj) (i0 : Nat) (ah : List Val), List.drop i0 p0 = r0 → List.length ah ≤ i0 → Qj1 p0 (Qh2 p0 i0 ah) (Q6d p0 r0 i0 ah)
 | [], i0, ah, hd, aT => by
  have bG : (decide ((i0 : Int) < ((List.length p0) : Int))) = false := by have := Q1c hd; simp; omega
  rw [Q6d]
  exact Q1e6 p0 H i0 ah aT bG
 | x0 :: r0, i0, ah, hd, aT => by
  obtain ⟨bU, dG, hd'⟩ := Q19 hd
  have bG : (decide ((i0 : Int) < ((List.length p0) : Int))) = true := by simp; omega
  rw [Q6d]
  exact Qw7 p0 (fun r hr => Q1bi p0 H x0 i0 ah bU dG aT bG hr) _ (Q129 p0 H r0 _ _ hd' (by first | omega | (simp; omega)))
def Q4x (p0 : List aj) : Val := vL (p0.map aj.enc)
theorem Q2ah (p0 : List aj) : Q4x p0 = ((Val.mk 4 0 eB (Q6d p0 p0 0 []) [])) := by
  rw [Q18t]
  kernel_rfl
def Q27t (p0 : List aj) : En := .call 165 [.sl (aj.rows p0)] []
def Q1xt (p0 : List aj) : Rs := .ret (.agg (Val.cells (Q4x p0))) []
def Qv9 (p0 : List aj) : Prop := LSm aj.sm p0
theorem Q1mh (p0 : List aj) (H : Qv9 p0) : (Qi6 p0) ∧ True := by
  exact ⟨⟨Nat.le_trans H.1 (Nat.le_of_ble_eq_true rfl), (by first | exact H.2 | exact fun x hx => (H.2 x hx).1 | exact fun x hx => (H.2 x hx).2.1 | exact fun x hx => (H.2 x hx).2.2.1 | exact fun x hx => (H.2 x hx).2.2.2.1 | exact fun x hx => (H.2 x hx).2.2.2.2.1), trivial⟩, trivial⟩
theorem Q159 (p0 : List aj) (H : Qv9 p0) : Q0 G (Q27t p0) (Q1xt p0) := by
 unfold Q1xt
 rw [Q2ah]
 have hl0 := Q129 p0 ((Q1mh p0 H).1) p0 0 [] (by simp) (by simp)
 obtain ⟨z0, gq, hl0⟩ := hl0
 exact Q5 (fn := Ir.K2s) (by kernel_rfl) VOK.nil [hS 0 true (Val.Q7 (Q6d p0 p0 0 []) 5 rfl), hQ (Val.Q8 (Q6d p0 p0 0 [])).symm] [aV [(1, Val.rows (Q6d p0 p0 0 []))] hl0] (by kernel_rfl)
def Q69 (p0 : List aX) : List aX → Nat → (List Val) → List Val
 | [], _i0, ah =>
  ah
 | x0 :: r0, i0, ah =>
  Q69 p0 r0 (i0 + 1) (ah ++ [(Q3i ([(Fld.mk Q13 (Q2m x0.key)), (Fld.mk Q1p (Q2m x0.value))]))])
theorem Q18p (p0 : List aX) : ∀ (l : List aX) (i : Nat) (a : List Val), Q69 p0 l i a = a ++ l.map (fun x0 => (Q3i ([(Fld.mk Q13 (Q2m x0.key)), (Fld.mk Q1p (Q2m x0.value))])))
  | [], _, _ => by simp [Q69]
  | x :: r, i, a => by rw [Q69, Q18p p0 r]; simp
def Q1fi (p0 : List aX) (i0 : Nat) (ah : List Val) : List PV :=
  [.sl (aX.rows p0), .un, .bx 0 0, .ms 1 5 0 (List.length ah), iN (i0 : Int)] ++ nuns 27
def Qz6 (_p0 : List aX) (_i0 : Nat) (ah : List Val) : List Ob :=
  [⟨5, 0, true, [iN 0, iN 0, .str eB, .ms 2 5 0 0, .ms 3 6 0 0]⟩, ⟨5, 0, true, (Val.rows ah).flatten⟩, ⟨5, 0, true, []⟩, ⟨6, 0, true, []⟩]
def Qgy (p0 : List aX) (i0 : Nat) (ah : List Val) : En := .loop 0 Ir.Qku Ir.Q1os (Q1fi p0 i0 ah) (Qz6 p0 i0 ah)
def Qr6 (_p0 : List aX) (q0 : List Val) (z : Nat → PV) (_zo : Nat → List PV) : St :=
  ⟨[z 0, z 1, .bx 0 0, .ms 1 5 0 (List.length q0)] ++ zr z 4 28, [(0, ⟨5, 0, true, [iN 0, iN 0, .str eB, .ms 2 5 0 0, .ms 3 6 0 0]⟩), (1, ⟨5, 0, true, (Val.rows q0).flatten⟩), (2, ⟨5, 0, true, []⟩), (3, ⟨6, 0, true, []⟩)], 260⟩
theorem Q167 (p0 : List aX) (i0 : Nat) (ah : List Val) : VOK (Go.Pv.look (number 0 (Qz6 p0 i0 ah))) [(1, Val.rows ah)] := (VOK.cons (show Seen _ _ from Q3o (ob := ⟨5, 0, true, (Val.rows ah).flatten⟩) (Val.Q7 ah 5 rfl)) VOK.nil)
def Qiw (p0 : List aX) (e : En) (q : List Val) : Prop := ∃ z zo, Q0 G e (.st (.exit 0) (Qr6 p0 q z zo))
theorem Qw2 (p0 : List aX) {e e' : En} (h : ∀ r, Q0 G e r → Q0 G e' r) : ∀ q, Qiw p0 e q → Qiw p0 e' q
  | _, ⟨z, zo, hz⟩ => ⟨z, zo, h _ hz⟩
def Qi2 (p0 : List aX) : Prop := (List.length p0 ≤ 137438953472) ∧ True
def Qsx (p0 : List aX) (i0 : Nat) (_ah : List Val) : List PV :=
  [.sl (aX.rows p0), .un, .un, .un, iN (i0 : Int), iN (i0 : Int), .sl (aX.rows p0), iN ((List.length p0) : Int), .bool false]
def Qmn (_p0 : List aX) (_i0 : Nat) (_ah : List Val) : List (Nat × List PV) :=
  []
theorem Q1dz (p0 : List aX) (_H : Qi2 p0) (i0 : Nat) (ah : List Val) (_aT : List.length ah ≤ i0) (bG : (decide ((i0 : Int) < ((List.length p0) : Int))) = false) : Qiw p0 (Qgy p0 i0 ah) ah := by
 exact ⟨(envF (Qsx p0 i0 ah)), (zoF (Qmn p0 i0 ah)), Qd (Q167 p0 i0 ah) (x := ((.exit 0), Qr6 p0 ah (envF (Qsx p0 i0 ah)) (zoF (Qmn p0 i0 ah)))) [hP 2 (Qw _ _ (aX.Q8 p0)), hB 0 bG] [] (by kernel_rfl)⟩
theorem Q1bb (p0 : List aX) (H : Qi2 p0) (x0 : aX) (i0 : Nat) (ah : List Val) (bU : p0[i0]? = some x0) (dG : i0 < List.length p0) (aT : List.length ah ≤ i0) (bG : (decide ((i0 : Int) < ((List.length p0) : Int))) = true) {r : Rs} (hr : Q0 G (Qgy p0 (i0 + 1) (ah ++ [(Q3i ([(Fld.mk Q13 (Q2m x0.key)), (Fld.mk Q1p (Q2m x0.value))]))])) r) : Q0 G (Qgy p0 i0 ah) r := by
 have hB0 := H.1
 exact Qc (Q167 p0 i0 ah) [hP 2 (Qw _ _ (aX.Q8 p0)), hB 0 bG, hP 3 (Q2q 2 _ i0 _ (aX.Qg bU) rfl), hP 6 (Q2q 2 _ i0 _ (aX.Qg bU) rfl), hA 7 1 1348 1412 5 80 0 0 true Val.Q8 Val.Q1g ah (Q3i ([(Fld.mk Q13 (Q2m x0.key)), (Fld.mk Q1p (Q2m x0.value))])) (Val.Qh ah) rfl rfl (by omega), hS 0 true (Val.Q7 (ah ++ [(Q3i ([(Fld.mk Q13 (Q2m x0.key)), (Fld.mk Q1p (Q2m x0.value))]))]) 5 rfl), hP 2 (Q26 i0 (by omega))] [aN (Qgc x0.key), aN (Qgc x0.value), aN (Q4o (e' := .call 163 [.sl [(Fld.cells (Fld.mk Q13 (Q2m x0.key))), (Fld.cells (Fld.mk Q1p (Q2m x0.value)))]] []) (Q9l ([(Fld.mk Q13 (Q2m x0.key)), (Fld.mk Q1p (Q2m x0.value))]) (Nat.le_of_ble_eq_true rfl)) (by simp only [Q8w, Fld.Qm, Fld.Q11]))] hr (by kernel_rfl)
theorem Q124 (p0 : List aX) (H : Qi2 p0) : ∀ (r0 : List aX) (i0 : Nat) (ah : List Val), List.drop i0 p0 = r0 → List.length ah ≤ i0 → Qiw p0 (Qgy p0 i0 ah) (Q69 p0 r0 i0 ah)
 | [], i0, ah, hd, aT => by
  have bG : (decide ((i0 : Int) < ((List.length p0) : Int))) = false := by have := Q1c hd; simp; omega
  rw [Q69]
  exact Q1dz p0 H i0 ah aT bG
 | x0 :: r0, i0, ah, hd, aT => by
  obtain ⟨bU, dG, hd'⟩ := Q19 hd
  have bG : (decide ((i0 : Int) < ((List.length p0) : Int))) = true := by simp; omega
  rw [Q69]
  exact Qw2 p0 (fun r hr => Q1bb p0 H x0 i0 ah bU dG aT bG hr) _ (Q124 p0 H r0 _ _ hd' (by first | omega | (simp; omega)))
def Q1ju (p0 : List aX) : Val := vL (p0.map aX.enc)
theorem Q2aa (p0 : List aX) : Q1ju p0 = ((Val.mk 4 0 eB (Q69 p0 p0 0 []) [])) := by
  rw [Q18p]
  kernel_rfl
def Q27m (p0 : List aX) : En := .call 213 [.sl (aX.rows p0)] []
def Q1xl (p0 : List aX) : Rs := .ret (.agg (Val.cells (Q1ju p0))) []
def Q1qp (p0 : List aX) : Prop := LSm aX.sm p0
theorem Q1md (p0 : List aX) (H : Q1qp p0) : (Qi2 p0) ∧ True := by
  exact ⟨⟨Nat.le_trans H.1 (Nat.le_of_ble_eq_true rfl), trivial⟩, trivial⟩
theorem Q2di (p0 : List aX) (H : Q1qp p0) : Q0 G (Q27m p0) (Q1xl p0) := by
 unfold Q1xl
 rw [Q2aa]
 have hl0 := Q124 p0 ((Q1md p0 H).1) p0 0 [] (by simp) (by simp)
 obtain ⟨z0, gq, hl0⟩ := hl0
 exact Q5 (fn := Ir.K2g) (by kernel_rfl) VOK.nil [hS 0 true (Val.Q7 (Q69 p0 p0 0 []) 5 rfl), hQ (Val.Q8 (Q69 p0 p0 0 [])).symm] [aV [(1, Val.rows (Q69 p0 p0 0 []))] hl0] (by kernel_rfl)
def Qc5 (p0 : bf) : Val := bf.enc p0
theorem Q2ag (p0 : bf) : Qc5 p0 = ((Q3i ([(Fld.mk Q61 (Qt p0.gZ)), (Fld.mk Q3j (Qt p0.eU)), (Fld.mk Q5f (Qt p0.gI))]))) := by
  kernel_rfl
def Q27s (p0 : bf) : En := .call 211 [.agg (bf.cells p0)] []
def Q1xs (p0 : bf) : Rs := .ret (.agg (Val.cells (Qc5 p0))) []
theorem Q210 (p0 : bf) : Q0 G (Q27s p0) (Q1xs p0) := by
 unfold Q1xs
 rw [Q2ag]
 exact Q5 (fn := Ir.K2r) (by kernel_rfl) VOK.nil [] [aN (Q45 p0.gZ), aN (Q45 p0.eU), aN (Q45 p0.gI), aN (Q4o (e' := .call 163 [.sl [(Fld.cells (Fld.mk Q61 (Qt p0.gZ))), (Fld.cells (Fld.mk Q3j (Qt p0.eU))), (Fld.cells (Fld.mk Q5f (Qt p0.gI)))]] []) (Q9l ([(Fld.mk Q61 (Qt p0.gZ)), (Fld.mk Q3j (Qt p0.eU)), (Fld.mk Q5f (Qt p0.gI))]) (Nat.le_of_ble_eq_true rfl)) (by simp only [Q8w, Fld.Qm, Fld.Q11]))] (by kernel_rfl)
def Q6c (p0 : List bn) : List bn → Nat → (List Val) → List Val
 | [], _i0, ah =>
  ah
 | x0 :: r0, i0, ah =>
  Q6c p0 r0 (i0 + 1) (ah ++ [(Q3i ([(Fld.mk Q3a (Qt x0.fZ)), (Fld.mk Q2y (Qt x0.fA)), (Fld.mk Q2n (Qt x0.eY)), (Fld.mk Q31 (Qt x0.eH))]))])
theorem Q18s (p0 : List bn) : ∀ (l : List bn) (i : Nat) (a : List Val), Q6c p0 l i a = a ++ l.map (fun x0 => (Q3i ([(Fld.mk Q3a (Qt x0.fZ)), (Fld.mk Q2y (Qt x0.fA)), (Fld.mk Q2n (Qt x0.eY)), (Fld.mk Q31 (Qt x0.eH))])))
  | [], _, _ => by simp [Q6c]
  | x :: r, i, a => by rw [Q6c, Q18s p0 r]; simp
def Q1fn (p0 : List bn) (i0 : Nat) (ah : List Val) : List PV :=
  [.sl (bn.rows p0), .un, .bx 0 0, .ms 1 5 0 (List.length ah), iN (i0 : Int)] ++ nuns 41
def Qzb (_p0 : List bn) (_i0 : Nat) (ah : List Val) : List Ob :=
  [⟨5, 0, true, [iN 0, iN 0, .str eB, .ms 2 5 0 0, .ms 3 6 0 0]⟩, ⟨5, 0, true, (Val.rows ah).flatten⟩, ⟨5, 0, true, []⟩, ⟨6, 0, true, []⟩]
def Qh1 (p0 : List bn) (i0 : Nat) (ah : List Val) : En := .loop 0 Ir.Qkz Ir.Q1ox (Q1fn p0 i0 ah) (Qzb p0 i0 ah)
def Qra (_p0 : List bn) (q0 : List Val) (z : Nat → PV) (_zo : Nat → List PV) : St :=
  ⟨[z 0, z 1, .bx 0 0, .ms 1 5 0 (List.length q0)] ++ zr z 4 42, [(0, ⟨5, 0, true, [iN 0, iN 0, .str eB, .ms 2 5 0 0, .ms 3 6 0 0]⟩), (1, ⟨5, 0, true, (Val.rows q0).flatten⟩), (2, ⟨5, 0, true, []⟩), (3, ⟨6, 0, true, []⟩)], 260⟩
theorem Q16a (p0 : List bn) (i0 : Nat) (ah : List Val) : VOK (Go.Pv.look (number 0 (Qzb p0 i0 ah))) [(1, Val.rows ah)] := (VOK.cons (show Seen _ _ from Q3o (ob := ⟨5, 0, true, (Val.rows ah).flatten⟩) (Val.Q7 ah 5 rfl)) VOK.nil)
def Qj0 (p0 : List bn) (e : En) (q : List Val) : Prop := ∃ z zo, Q0 G e (.st (.exit 0) (Qra p0 q z zo))
theorem Qw6 (p0 : List bn) {e e' : En} (h : ∀ r, Q0 G e r → Q0 G e' r) : ∀ q, Qj0 p0 e q → Qj0 p0 e' q
  | _, ⟨z, zo, hz⟩ => ⟨z, zo, h _ hz⟩
def Qi5 (p0 : List bn) : Prop := (List.length p0 ≤ 137438953472) ∧ True
def Qt3 (p0 : List bn) (i0 : Nat) (_ah : List Val) : List PV :=
  [.sl (bn.rows p0), .un, .un, .un, iN (i0 : Int), iN (i0 : Int), .sl (bn.rows p0), iN ((List.length p0) : Int), .bool false]
def Qmt (_p0 : List bn) (_i0 : Nat) (_ah : List Val) : List (Nat × List PV) :=
  []
theorem Q1e5 (p0 : List bn) (_H : Qi5 p0) (i0 : Nat) (ah : List Val) (_aT : List.length ah ≤ i0) (bG : (decide ((i0 : Int) < ((List.length p0) : Int))) = false) : Qj0 p0 (Qh1 p0 i0 ah) ah := by
 exact ⟨(envF (Qt3 p0 i0 ah)), (zoF (Qmt p0 i0 ah)), Qd (Q16a p0 i0 ah) (x := ((.exit 0), Qra p0 ah (envF (Qt3 p0 i0 ah)) (zoF (Qmt p0 i0 ah)))) [hP 2 (Qw _ _ (bn.Q8 p0)), hB 0 bG] [] (by kernel_rfl)⟩
theorem Q1bh (p0 : List bn) (H : Qi5 p0) (x0 : bn) (i0 : Nat) (ah : List Val) (bU : p0[i0]? = some x0) (dG : i0 < List.length p0) (aT : List.length ah ≤ i0) (bG : (decide ((i0 : Int) < ((List.length p0) : Int))) = true) {r : Rs} (hr : Q0 G (Qh1 p0 (i0 + 1) (ah ++ [(Q3i ([(Fld.mk Q3a (Qt x0.fZ)), (Fld.mk Q2y (Qt x0.fA)), (Fld.mk Q2n (Qt x0.eY)), (Fld.mk Q31 (Qt x0.eH))]))])) r) : Q0 G (Qh1 p0 i0 ah) r := by
 have hB0 := H.1
 exact Qc (Q16a p0 i0 ah) [hP 2 (Qw _ _ (bn.Q8 p0)), hB 0 bG, hP 3 (Q2q 4 _ i0 _ (bn.Qg bU) rfl), hP 6 (Q2q 4 _ i0 _ (bn.Qg bU) rfl), hP 6 (Q2q 4 _ i0 _ (bn.Qg bU) rfl), hP 6 (Q2q 4 _ i0 _ (bn.Qg bU) rfl), hA 7 1 2244 2308 5 80 0 0 true Val.Q8 Val.Q1g ah (Q3i ([(Fld.mk Q3a (Qt x0.fZ)), (Fld.mk Q2y (Qt x0.fA)), (Fld.mk Q2n (Qt x0.eY)), (Fld.mk Q31 (Qt x0.eH))])) (Val.Qh ah) rfl rfl (by omega), hS 0 true (Val.Q7 (ah ++ [(Q3i ([(Fld.mk Q3a (Qt x0.fZ)), (Fld.mk Q2y (Qt x0.fA)), (Fld.mk Q2n (Qt x0.eY)), (Fld.mk Q31 (Qt x0.eH))]))]) 5 rfl), hP 2 (Q26 i0 (by omega))] [aN (Q45 x0.fZ), aN (Q45 x0.fA), aN (Q45 x0.eY), aN (Q45 x0.eH), aN (Q4o (e' := .call 163 [.sl [(Fld.cells (Fld.mk Q3a (Qt x0.fZ))), (Fld.cells (Fld.mk Q2y (Qt x0.fA))), (Fld.cells (Fld.mk Q2n (Qt x0.eY))), (Fld.cells (Fld.mk Q31 (Qt x0.eH)))]] []) (Q9l ([(Fld.mk Q3a (Qt x0.fZ)), (Fld.mk Q2y (Qt x0.fA)), (Fld.mk Q2n (Qt x0.eY)), (Fld.mk Q31 (Qt x0.eH))]) (Nat.le_of_ble_eq_true rfl)) (by simp only [Q8w, Fld.Qm, Fld.Q11]))] hr (by kernel_rfl)
theorem Q128 (p0 : List bn) (H : Qi5 p0) : ∀ (r0 : List bn) (i0 : Nat) (ah : List Val), List.drop i0 p0 = r0 → List.length ah ≤ i0 → Qj0 p0 (Qh1 p0 i0 ah) (Q6c p0 r0 i0 ah)
 | [], i0, ah, hd, aT => by
  have bG : (decide ((i0 : Int) < ((List.length p0) : Int))) = false := by have := Q1c hd; simp; omega
  rw [Q6c]
  exact Q1e5 p0 H i0 ah aT bG
 | x0 :: r0, i0, ah, hd, aT => by
  obtain ⟨bU, dG, hd'⟩ := Q19 hd
  have bG : (decide ((i0 : Int) < ((List.length p0) : Int))) = true := by simp; omega
  rw [Q6c]
  exact Qw6 p0 (fun r hr => Q1bh p0 H x0 i0 ah bU dG aT bG hr) _ (Q128 p0 H r0 _ _ hd' (by first | omega | (simp; omega)))
def Q88 (p0 : List bn) : Val := vL (p0.map bn.enc)
theorem Q2ae (p0 : List bn) : Q88 p0 = ((Val.mk 4 0 eB (Q6c p0 p0 0 []) [])) := by
  rw [Q18s]
  kernel_rfl
def Q27q (p0 : List bn) : En := .call 274 [.sl (bn.rows p0)] []
def Q1xq (p0 : List bn) : Rs := .ret (.agg (Val.cells (Q88 p0))) []
def Q1gk (p0 : List bn) : Prop := LSm bn.sm p0
theorem Q1mg (p0 : List bn) (H : Q1gk p0) : (Qi5 p0) ∧ True := by
  exact ⟨⟨Nat.le_trans H.1 (Nat.le_of_ble_eq_true rfl), trivial⟩, trivial⟩
theorem Q1s5 (p0 : List bn) (H : Q1gk p0) : Q0 G (Q27q p0) (Q1xq p0) := by
 unfold Q1xq
 rw [Q2ae]
 have hl0 := Q128 p0 ((Q1mg p0 H).1) p0 0 [] (by simp) (by simp)
 obtain ⟨z0, gq, hl0⟩ := hl0
 exact Q5 (fn := Ir.K2n) (by kernel_rfl) VOK.nil [hS 0 true (Val.Q7 (Q6c p0 p0 0 []) 5 rfl), hQ (Val.Q8 (Q6c p0 p0 0 [])).symm] [aV [(1, Val.rows (Q6c p0 p0 0 []))] hl0] (by kernel_rfl)
def Q67 (p0 : List aD) : List aD → Nat → (List Val) → List Val
 | [], _i0, ah =>
  ah
 | x0 :: r0, i0, ah =>
  Q67 p0 r0 (i0 + 1) (ah ++ [(Q3i ([(Fld.mk Q1b (Q2m x0.name)), (Fld.mk Q14 (Q2m x0.fT)), (Fld.mk Qj (Qc5 x0.dM)), (Fld.mk Q27 (Qc5 x0.fC)), (Fld.mk Q3z (Q88 x0.live)), (Fld.mk Q1o (Q88 x0.ready)), (Fld.mk Q34 (Q88 x0.dV))]))])
theorem Q18n (p0 : List aD) : ∀ (l : List aD) (i : Nat) (a : List Val), Q67 p0 l i a = a ++ l.map (fun x0 => (Q3i ([(Fld.mk Q1b (Q2m x0.name)), (Fld.mk Q14 (Q2m x0.fT)), (Fld.mk Qj (Qc5 x0.dM)), (Fld.mk Q27 (Qc5 x0.fC)), (Fld.mk Q3z (Q88 x0.live)), (Fld.mk Q1o (Q88 x0.ready)), (Fld.mk Q34 (Q88 x0.dV))])))
  | [], _, _ => by simp [Q67]
  | x :: r, i, a => by rw [Q67, Q18n p0 r]; simp
def Q1fg (p0 : List aD) (i0 : Nat) (ah : List Val) : List PV :=
  [.sl (aD.rows p0), .un, .bx 0 0, .ms 1 5 0 (List.length ah), iN (i0 : Int)] ++ nuns 46
def Qz4 (_p0 : List aD) (_i0 : Nat) (ah : List Val) : List Ob :=
  [⟨5, 0, true, [iN 0, iN 0, .str eB, .ms 2 5 0 0, .ms 3 6 0 0]⟩, ⟨5, 0, true, (Val.rows ah).flatten⟩, ⟨5, 0, true, []⟩, ⟨6, 0, true, []⟩]
def Qgw (p0 : List aD) (i0 : Nat) (ah : List Val) : En := .loop 0 Ir.Qks Ir.Q1oq (Q1fg p0 i0 ah) (Qz4 p0 i0 ah)
def Qr4 (_p0 : List aD) (q0 : List Val) (z : Nat → PV) (_zo : Nat → List PV) : St :=
  ⟨[z 0, z 1, .bx 0 0, .ms 1 5 0 (List.length q0)] ++ zr z 4 47, [(0, ⟨5, 0, true, [iN 0, iN 0, .str eB, .ms 2 5 0 0, .ms 3 6 0 0]⟩), (1, ⟨5, 0, true, (Val.rows q0).flatten⟩), (2, ⟨5, 0, true, []⟩), (3, ⟨6, 0, true, []⟩)], 260⟩
theorem Q165 (p0 : List aD) (i0 : Nat) (ah : List Val) : VOK (Go.Pv.look (number 0 (Qz4 p0 i0 ah))) [(1, Val.rows ah)] := (VOK.cons (show Seen _ _ from Q3o (ob := ⟨5, 0, true, (Val.rows ah).flatten⟩) (Val.Q7 ah 5 rfl)) VOK.nil)
def Qiu (p0 : List aD) (e : En) (q : List Val) : Prop := ∃ z zo, Q0 G e (.st (.exit 0) (Qr4 p0 q z zo))
theorem Qw0 (p0 : List aD) {e e' : En} (h : ∀ r, Q0 G e r → Q0 G e' r) : ∀ q, Qiu p0 e q → Qiu p0 e' q
  | _, ⟨z, zo, hz⟩ => ⟨z, zo, h _ hz⟩
def Qi0 (p0 : List aD) : Prop := (List.length p0 ≤ 137438953472) ∧ (∀ x0 ∈ p0, Q1gk x0.live) ∧ (∀ x0 ∈ p0, Q1gk x0.ready) ∧ (∀ x0 ∈ p0, Q1gk x0.dV) ∧ True
def Qsv (p0 : List aD) (i0 : Nat) (_ah : List Val) : List PV :=
  [.sl (aD.rows p0), .un, .un, .un, iN (i0 : Int), .un, iN (i0 : Int), .sl (aD.rows p0), iN ((List.length p0) : Int), .bool false]
def Qml (_p0 : List aD) (_i0 : Nat) (_ah : List Val) : List (Nat × List PV) :=
  []
theorem Q1dx (p0 : List aD) (_H : Qi0 p0) (i0 : Nat) (ah : List Val) (_aT : List.length ah ≤ i0) (bG : (decide ((i0 : Int) < ((List.length p0) : Int))) = false) : Qiu p0 (Qgw p0 i0 ah) ah := by
 exact ⟨(envF (Qsv p0 i0 ah)), (zoF (Qml p0 i0 ah)), Qd (Q165 p0 i0 ah) (x := ((.exit 0), Qr4 p0 ah (envF (Qsv p0 i0 ah)) (zoF (Qml p0 i0 ah)))) [hP 2 (Qw _ _ (aD.Q8 p0)), hB 0 bG] [] (by kernel_rfl)⟩
theorem Q1b9 (p0 : List aD) (H : Qi0 p0) (x0 : aD) (i0 : Nat) (ah : List Val) (bU : p0[i0]? = some x0) (dG : i0 < List.length p0) (aT : List.length ah ≤ i0) (bG : (decide ((i0 : Int) < ((List.length p0) : Int))) = true) {r : Rs} (hr : Q0 G (Qgw p0 (i0 + 1) (ah ++ [(Q3i ([(Fld.mk Q1b (Q2m x0.name)), (Fld.mk Q14 (Q2m x0.fT)), (Fld.mk Qj (Qc5 x0.dM)), (Fld.mk Q27 (Qc5 x0.fC)), (Fld.mk Q3z (Q88 x0.live)), (Fld.mk Q1o (Q88 x0.ready)), (Fld.mk Q34 (Q88 x0.dV))]))])) r) : Q0 G (Qgw p0 i0 ah) r := by
 have hB0 := H.1
 exact Qc (Q165 p0 i0 ah) [hP 2 (Qw _ _ (aD.Q8 p0)), hB 0 bG, hP 2 (Q2q 11 _ i0 _ (aD.Qg bU) rfl), hA 35 1 2628 2692 5 80 0 0 true Val.Q8 Val.Q1g ah (Q3i ([(Fld.mk Q1b (Q2m x0.name)), (Fld.mk Q14 (Q2m x0.fT)), (Fld.mk Qj (Qc5 x0.dM)), (Fld.mk Q27 (Qc5 x0.fC)), (Fld.mk Q3z (Q88 x0.live)), (Fld.mk Q1o (Q88 x0.ready)), (Fld.mk Q34 (Q88 x0.dV))])) (Val.Qh ah) rfl rfl (by omega), hS 0 true (Val.Q7 (ah ++ [(Q3i ([(Fld.mk Q1b (Q2m x0.name)), (Fld.mk Q14 (Q2m x0.fT)), (Fld.mk Qj (Qc5 x0.dM)), (Fld.mk Q27 (Qc5 x0.fC)), (Fld.mk Q3z (Q88 x0.live)), (Fld.mk Q1o (Q88 x0.ready)), (Fld.mk Q34 (Q88 x0.dV))]))]) 5 rfl), hP 2 (Q26 i0 (by omega))] [aN (Qgc x0.name), aN (Qgc x0.fT), aN (Q210 x0.dM), aN (Q210 x0.fC), aN (Q1s5 x0.live (H.2.1 x0 (Q2l bU))), aN (Q1s5 x0.ready (H.2.2.1 x0 (Q2l bU))), aN (Q1s5 x0.dV (H.2.2.2.1 x0 (Q2l bU))), aN (Q4o (e' := .call 163 [.sl [(Fld.cells (Fld.mk Q1b (Q2m x0.name))), (Fld.cells (Fld.mk Q14 (Q2m x0.fT))), (Fld.cells (Fld.mk Qj (Qc5 x0.dM))), (Fld.cells (Fld.mk Q27 (Qc5 x0.fC))), (Fld.cells (Fld.mk Q3z (Q88 x0.live))), (Fld.cells (Fld.mk Q1o (Q88 x0.ready))), (Fld.cells (Fld.mk Q34 (Q88 x0.dV)))]] []) (Q9l ([(Fld.mk Q1b (Q2m x0.name)), (Fld.mk Q14 (Q2m x0.fT)), (Fld.mk Qj (Qc5 x0.dM)), (Fld.mk Q27 (Qc5 x0.fC)), (Fld.mk Q3z (Q88 x0.live)), (Fld.mk Q1o (Q88 x0.ready)), (Fld.mk Q34 (Q88 x0.dV))]) (Nat.le_of_ble_eq_true rfl)) (by simp only [Q8w, Fld.Qm, Fld.Q11]))] hr (by kernel_rfl)
theorem Q122 (p0 : List aD) (H : Qi0 p0) : ∀ (r0 : List aD) (i0 : Nat) (ah : List Val), List.drop i0 p0 = r0 → List.length ah ≤ i0 → Qiu p0 (Qgw p0 i0 ah) (Q67 p0 r0 i0 ah)
 | [], i0, ah, hd, aT => by
  have bG : (decide ((i0 : Int) < ((List.length p0) : Int))) = false := by have := Q1c hd; simp; omega
  rw [Q67]
  exact Q1dx p0 H i0 ah aT bG
 | x0 :: r0, i0, ah, hd, aT => by
  obtain ⟨bU, dG, hd'⟩ := Q19 hd
  have bG : (decide ((i0 : Int) < ((List.length p0) : Int))) = true := by simp; omega
  rw [Q67]
  exact Qw0 p0 (fun r hr => Q1b9 p0 H x0 i0 ah bU dG aT bG hr) _ (Q122 p0 H r0 _ _ hd' (by first | omega | (simp; omega)))
def Q1js (p0 : List aD) : Val := vL (p0.map aD.enc)
theorem Q2a5 (p0 : List aD) : Q1js p0 = ((Val.mk 4 0 eB (Q67 p0 p0 0 []) [])) := by
  rw [Q18n]
  kernel_rfl
def Q27g (p0 : List aD) : En := .call 233 [.sl (aD.rows p0)] []
def Q1xf (p0 : List aD) : Rs := .ret (.agg (Val.cells (Q1js p0))) []
def Q1qk (p0 : List aD) : Prop := LSm aD.sm p0
theorem Q1m9 (p0 : List aD) (H : Q1qk p0) : (Qi0 p0) ∧ True := by
  exact ⟨⟨Nat.le_trans H.1 (Nat.le_of_ble_eq_true rfl), (by first | exact H.2 | exact fun x hx => (H.2 x hx).1 | exact fun x hx => (H.2 x hx).2.1 | exact fun x hx => (H.2 x hx).2.2.1 | exact fun x hx => (H.2 x hx).2.2.2.1 | exact fun x hx => (H.2 x hx).2.2.2.2.1), (by first | exact H.2 | exact fun x hx => (H.2 x hx).1 | exact fun x hx => (H.2 x hx).2.1 | exact fun x hx => (H.2 x hx).2.2.1 | exact fun x hx => (H.2 x hx).2.2.2.1 | exact fun x hx => (H.2 x hx).2.2.2.2.1), (by first | exact H.2 | exact fun x hx => (H.2 x hx).1 | exact fun x hx => (H.2 x hx).2.1 | exact fun x hx => (H.2 x hx).2.2.1 | exact fun x hx => (H.2 x hx).2.2.2.1 | exact fun x hx => (H.2 x hx).2.2.2.2.1), trivial⟩, trivial⟩
theorem Q2dd (p0 : List aD) (H : Q1qk p0) : Q0 G (Q27g p0) (Q1xf p0) := by
 unfold Q1xf
 rw [Q2a5]
 have hl0 := Q122 p0 ((Q1m9 p0 H).1) p0 0 [] (by simp) (by simp)
 obtain ⟨z0, gq, hl0⟩ := hl0
 exact Q5 (fn := Ir.K27) (by kernel_rfl) VOK.nil [hS 0 true (Val.Q7 (Q67 p0 p0 0 []) 5 rfl), hQ (Val.Q8 (Q67 p0 p0 0 [])).symm] [aV [(1, Val.rows (Q67 p0 p0 0 []))] hl0] (by kernel_rfl)
def Q3n (p0 : Bool) : Val := vB p0
theorem Q2a2 (p0 : Bool) : Q3n p0 = (bif p0 then
    (Val.mk 1 1 eB [] [])
  else
    (Val.mk 1 0 eB [] [])) := by
  cases p0 <;> rfl
def Q27d (p0 : Bool) : En := .call 167 [.bool p0] []
def Q1xc (p0 : Bool) : Rs := .ret (.agg (Val.cells (Q3n p0))) []
theorem Qos (p0 : Bool) : Q0 G (Q27d p0) (Q1xc p0) := by
 unfold Q1xc
 rw [Q2a2]
 cases h0 : p0 with
 | true =>
  exact Q5 (fn := Ir.K24) (by kernel_rfl) VOK.nil [] [] (by kernel_rfl)
 | false =>
  exact Q5 (fn := Ir.K24) (by kernel_rfl) VOK.nil [] [] (by kernel_rfl)
def Q6a (p0 : List aI) : List aI → Nat → (List Val) → List Val
 | [], _i0, ah =>
  ah
 | x0 :: r0, i0, ah =>
  Q6a p0 r0 (i0 + 1) (ah ++ [(Q3i ([(Fld.mk Qb (Q3n x0.bI)), (Fld.mk Q6 (Q4x x0.aR)), (Fld.mk Q1m (Qt x0.dI))]))])
theorem Q18q (p0 : List aI) : ∀ (l : List aI) (i : Nat) (a : List Val), Q6a p0 l i a = a ++ l.map (fun x0 => (Q3i ([(Fld.mk Qb (Q3n x0.bI)), (Fld.mk Q6 (Q4x x0.aR)), (Fld.mk Q1m (Qt x0.dI))])))
  | [], _, _ => by simp [Q6a]
  | x :: r, i, a => by rw [Q6a, Q18q p0 r]; simp
def Q1fl (p0 : List aI) (i0 : Nat) (ah : List Val) : List PV :=
  [.sl (aI.rows p0), .un, .bx 0 0, .ms 1 5 0 (List.length ah), iN (i0 : Int)] ++ nuns 34
def Qz9 (_p0 : List aI) (_i0 : Nat) (ah : List Val) : List Ob :=
  [⟨5, 0, true, [iN 0, iN 0, .str eB, .ms 2 5 0 0, .ms 3 6 0 0]⟩, ⟨5, 0, true, (Val.rows ah).flatten⟩, ⟨5, 0, true, []⟩, ⟨6, 0, true, []⟩]
def Qgz (p0 : List aI) (i0 : Nat) (ah : List Val) : En := .loop 0 Ir.Qkx Ir.Q1ov (Q1fl p0 i0 ah) (Qz9 p0 i0 ah)
def Qr8 (_p0 : List aI) (q0 : List Val) (z : Nat → PV) (_zo : Nat → List PV) : St :=
  ⟨[z 0, z 1, .bx 0 0, .ms 1 5 0 (List.length q0)] ++ zr z 4 35, [(0, ⟨5, 0, true, [iN 0, iN 0, .str eB, .ms 2 5 0 0, .ms 3 6 0 0]⟩), (1, ⟨5, 0, true, (Val.rows q0).flatten⟩), (2, ⟨5, 0, true, []⟩), (3, ⟨6, 0, true, []⟩)], 260⟩
theorem Q168 (p0 : List aI) (i0 : Nat) (ah : List Val) : VOK (Go.Pv.look (number 0 (Qz9 p0 i0 ah))) [(1, Val.rows ah)] := (VOK.cons (show Seen _ _ from Q3o (ob := ⟨5, 0, true, (Val.rows ah).flatten⟩) (Val.Q7 ah 5 rfl)) VOK.nil)
def Qiy (p0 : List aI) (e : En) (q : List Val) : Prop := ∃ z zo, Q0 G e (.st (.exit 0) (Qr8 p0 q z zo))
theorem Qw4 (p0 : List aI) {e e' : En} (h : ∀ r, Q0 G e r → Q0 G e' r) : ∀ q, Qiy p0 e q → Qiy p0 e' q
  | _, ⟨z, zo, hz⟩ => ⟨z, zo, h _ hz⟩
def Qi3 (p0 : List aI) : Prop := (List.length p0 ≤ 137438953472) ∧ (∀ x0 ∈ p0, Qv9 x0.aR) ∧ True
def Qt1 (p0 : List aI) (i0 : Nat) (_ah : List Val) : List PV :=
  [.sl (aI.rows p0), .un, .un, .un, iN (i0 : Int), iN (i0 : Int), .sl (aI.rows p0), iN ((List.length p0) : Int), .bool false]
def Qmr (_p0 : List aI) (_i0 : Nat) (_ah : List Val) : List (Nat × List PV) :=
  []
theorem Q1e3 (p0 : List aI) (_H : Qi3 p0) (i0 : Nat) (ah : List Val) (_aT : List.length ah ≤ i0) (bG : (decide ((i0 : Int) < ((List.length p0) : Int))) = false) : Qiy p0 (Qgz p0 i0 ah) ah := by
 exact ⟨(envF (Qt1 p0 i0 ah)), (zoF (Qmr p0 i0 ah)), Qd (Q168 p0 i0 ah) (x := ((.exit 0), Qr8 p0 ah (envF (Qt1 p0 i0 ah)) (zoF (Qmr p0 i0 ah)))) [hP 2 (Qw _ _ (aI.Q8 p0)), hB 0 bG] [] (by kernel_rfl)⟩
theorem Q1bf (p0 : List aI) (H : Qi3 p0) (x0 : aI) (i0 : Nat) (ah : List Val) (bU : p0[i0]? = some x0) (dG : i0 < List.length p0) (aT : List.length ah ≤ i0) (bG : (decide ((i0 : Int) < ((List.length p0) : Int))) = true) {r : Rs} (hr : Q0 G (Qgz p0 (i0 + 1) (ah ++ [(Q3i ([(Fld.mk Qb (Q3n x0.bI)), (Fld.mk Q6 (Q4x x0.aR)), (Fld.mk Q1m (Qt x0.dI))]))])) r) : Q0 G (Qgz p0 i0 ah) r := by
 have hB0 := H.1
 exact Qc (Q168 p0 i0 ah) [hP 2 (Qw _ _ (aI.Q8 p0)), hB 0 bG, hP 3 (Q2q 3 _ i0 _ (aI.Qg bU) rfl), hP 6 (Q2q 3 _ i0 _ (aI.Qg bU) rfl), hP 6 (Q2q 3 _ i0 _ (aI.Qg bU) rfl), hA 7 1 1796 1860 5 80 0 0 true Val.Q8 Val.Q1g ah (Q3i ([(Fld.mk Qb (Q3n x0.bI)), (Fld.mk Q6 (Q4x x0.aR)), (Fld.mk Q1m (Qt x0.dI))])) (Val.Qh ah) rfl rfl (by omega), hS 0 true (Val.Q7 (ah ++ [(Q3i ([(Fld.mk Qb (Q3n x0.bI)), (Fld.mk Q6 (Q4x x0.aR)), (Fld.mk Q1m (Qt x0.dI))]))]) 5 rfl), hP 2 (Q26 i0 (by omega))] [aN (Qos x0.bI), aN (Q159 x0.aR (H.2.1 x0 (Q2l bU))), aN (Q45 x0.dI), aN (Q4o (e' := .call 163 [.sl [(Fld.cells (Fld.mk Qb (Q3n x0.bI))), (Fld.cells (Fld.mk Q6 (Q4x x0.aR))), (Fld.cells (Fld.mk Q1m (Qt x0.dI)))]] []) (Q9l ([(Fld.mk Qb (Q3n x0.bI)), (Fld.mk Q6 (Q4x x0.aR)), (Fld.mk Q1m (Qt x0.dI))]) (Nat.le_of_ble_eq_true rfl)) (by simp only [Q8w, Fld.Qm, Fld.Q11]))] hr (by kernel_rfl)
theorem Q126 (p0 : List aI) (H : Qi3 p0) : ∀ (r0 : List aI) (i0 : Nat) (ah : List Val), List.drop i0 p0 = r0 → List.length ah ≤ i0 → Qiy p0 (Qgz p0 i0 ah) (Q6a p0 r0 i0 ah)
 | [], i0, ah, hd, aT => by
  have bG : (decide ((i0 : Int) < ((List.length p0) : Int))) = false := by have := Q1c hd; simp; omega
  rw [Q6a]
  exact Q1e3 p0 H i0 ah aT bG
 | x0 :: r0, i0, ah, hd, aT => by
  obtain ⟨bU, dG, hd'⟩ := Q19 hd
  have bG : (decide ((i0 : Int) < ((List.length p0) : Int))) = true := by simp; omega
  rw [Q6a]
  exact Qw4 p0 (fun r hr => Q1bf p0 H x0 i0 ah bU dG aT bG hr) _ (Q126 p0 H r0 _ _ hd' (by first | omega | (simp; omega)))
def Q1jv (p0 : List aI) : Val := vL (p0.map aI.enc)
theorem Q2ab (p0 : List aI) : Q1jv p0 = ((Val.mk 4 0 eB (Q6a p0 p0 0 []) [])) := by
  rw [Q18q]
  kernel_rfl
def Q27n (p0 : List aI) : En := .call 234 [.sl (aI.rows p0)] []
def Q1xn (p0 : List aI) : Rs := .ret (.agg (Val.cells (Q1jv p0))) []
def Q1qq (p0 : List aI) : Prop := LSm aI.sm p0
theorem Q1me (p0 : List aI) (H : Q1qq p0) : (Qi3 p0) ∧ True := by
  exact ⟨⟨Nat.le_trans H.1 (Nat.le_of_ble_eq_true rfl), (by first | exact H.2 | exact fun x hx => (H.2 x hx).1 | exact fun x hx => (H.2 x hx).2.1 | exact fun x hx => (H.2 x hx).2.2.1 | exact fun x hx => (H.2 x hx).2.2.2.1 | exact fun x hx => (H.2 x hx).2.2.2.2.1), trivial⟩, trivial⟩
theorem Q2dj (p0 : List aI) (H : Q1qq p0) : Q0 G (Q27n p0) (Q1xn p0) := by
 unfold Q1xn
 rw [Q2ab]
 have hl0 := Q126 p0 ((Q1me p0 H).1) p0 0 [] (by simp) (by simp)
 obtain ⟨z0, gq, hl0⟩ := hl0
 exact Q5 (fn := Ir.K2j) (by kernel_rfl) VOK.nil [hS 0 true (Val.Q7 (Q6a p0 p0 0 []) 5 rfl), hQ (Val.Q8 (Q6a p0 p0 0 [])).symm] [aV [(1, Val.rows (Q6a p0 p0 0 []))] hl0] (by kernel_rfl)
def Q6b (p0 : List aM) : List aM → Nat → (List Val) → List Val
 | [], _i0, ah =>
  ah
 | x0 :: r0, i0, ah =>
  Q6b p0 r0 (i0 + 1) (ah ++ [(Q3i ([(Fld.mk Qb (Q3n x0.bI)), (Fld.mk Q3r (Q3n x0.gK)), (Fld.mk Q6 (Q4x x0.aR)), (Fld.mk Qx (Q2m x0.bW)), (Fld.mk Q1m (Qt x0.dI))]))])
theorem Q18r (p0 : List aM) : ∀ (l : List aM) (i : Nat) (a : List Val), Q6b p0 l i a = a ++ l.map (fun x0 => (Q3i ([(Fld.mk Qb (Q3n x0.bI)), (Fld.mk Q3r (Q3n x0.gK)), (Fld.mk Q6 (Q4x x0.aR)), (Fld.mk Qx (Q2m x0.bW)), (Fld.mk Q1m (Qt x0.dI))])))
  | [], _, _ => by simp [Q6b]
  | x :: r, i, a => by rw [Q6b, Q18r p0 r]; simp
def Q1fm (p0 : List aM) (i0 : Nat) (ah : List Val) : List PV :=
  [.sl (aM.rows p0), .un, .bx 0 0, .ms 1 5 0 (List.length ah), iN (i0 : Int)] ++ nuns 38
def Qza (_p0 : List aM) (_i0 : Nat) (ah : List Val) : List Ob :=
  [⟨5, 0, true, [iN 0, iN 0, .str eB, .ms 2 5 0 0, .ms 3 6 0 0]⟩, ⟨5, 0, true, (Val.rows ah).flatten⟩, ⟨5, 0, true, []⟩, ⟨6, 0, true, []⟩]
def Qh0 (p0 : List aM) (i0 : Nat) (ah : List Val) : En := .loop 0 Ir.Qky Ir.Q1ow (Q1fm p0 i0 ah) (Qza p0 i0 ah)
def Qr9 (_p0 : List aM) (q0 : List Val) (z : Nat → PV) (_zo : Nat → List PV) : St :=
  ⟨[z 0, z 1, .bx 0 0, .ms 1 5 0 (List.length q0)] ++ zr z 4 39, [(0, ⟨5, 0, true, [iN 0, iN 0, .str eB, .ms 2 5 0 0, .ms 3 6 0 0]⟩), (1, ⟨5, 0, true, (Val.rows q0).flatten⟩), (2, ⟨5, 0, true, []⟩), (3, ⟨6, 0, true, []⟩)], 260⟩
theorem Q169 (p0 : List aM) (i0 : Nat) (ah : List Val) : VOK (Go.Pv.look (number 0 (Qza p0 i0 ah))) [(1, Val.rows ah)] := (VOK.cons (show Seen _ _ from Q3o (ob := ⟨5, 0, true, (Val.rows ah).flatten⟩) (Val.Q7 ah 5 rfl)) VOK.nil)
def Qiz (p0 : List aM) (e : En) (q : List Val) : Prop := ∃ z zo, Q0 G e (.st (.exit 0) (Qr9 p0 q z zo))
theorem Qw5 (p0 : List aM) {e e' : En} (h : ∀ r, Q0 G e r → Q0 G e' r) : ∀ q, Qiz p0 e q → Qiz p0 e' q
  | _, ⟨z, zo, hz⟩ => ⟨z, zo, h _ hz⟩
def Qi4 (p0 : List aM) : Prop := (List.length p0 ≤ 137438953472) ∧ (∀ x0 ∈ p0, Qv9 x0.aR) ∧ True
def Qt2 (p0 : List aM) (i0 : Nat) (_ah : List Val) : List PV :=
  [.sl (aM.rows p0), .un, .un, .un, iN (i0 : Int), .un, iN (i0 : Int), .sl (aM.rows p0), iN ((List.length p0) : Int), .bool false]
def Qms (_p0 : List aM) (_i0 : Nat) (_ah : List Val) : List (Nat × List PV) :=
  []
theorem Q1e4 (p0 : List aM) (_H : Qi4 p0) (i0 : Nat) (ah : List Val) (_aT : List.length ah ≤ i0) (bG : (decide ((i0 : Int) < ((List.length p0) : Int))) = false) : Qiz p0 (Qh0 p0 i0 ah) ah := by
 exact ⟨(envF (Qt2 p0 i0 ah)), (zoF (Qms p0 i0 ah)), Qd (Q169 p0 i0 ah) (x := ((.exit 0), Qr9 p0 ah (envF (Qt2 p0 i0 ah)) (zoF (Qms p0 i0 ah)))) [hP 2 (Qw _ _ (aM.Q8 p0)), hB 0 bG] [] (by kernel_rfl)⟩
theorem Q1bg (p0 : List aM) (H : Qi4 p0) (x0 : aM) (i0 : Nat) (ah : List Val) (bU : p0[i0]? = some x0) (dG : i0 < List.length p0) (aT : List.length ah ≤ i0) (bG : (decide ((i0 : Int) < ((List.length p0) : Int))) = true) {r : Rs} (hr : Q0 G (Qh0 p0 (i0 + 1) (ah ++ [(Q3i ([(Fld.mk Qb (Q3n x0.bI)), (Fld.mk Q3r (Q3n x0.gK)), (Fld.mk Q6 (Q4x x0.aR)), (Fld.mk Qx (Q2m x0.bW)), (Fld.mk Q1m (Qt x0.dI))]))])) r) : Q0 G (Qh0 p0 i0 ah) r := by
 have hB0 := H.1
 exact Qc (Q169 p0 i0 ah) [hP 2 (Qw _ _ (aM.Q8 p0)), hB 0 bG, hP 2 (Q2q 5 _ i0 _ (aM.Qg bU) rfl), hA 27 1 2116 2180 5 80 0 0 true Val.Q8 Val.Q1g ah (Q3i ([(Fld.mk Qb (Q3n x0.bI)), (Fld.mk Q3r (Q3n x0.gK)), (Fld.mk Q6 (Q4x x0.aR)), (Fld.mk Qx (Q2m x0.bW)), (Fld.mk Q1m (Qt x0.dI))])) (Val.Qh ah) rfl rfl (by omega), hS 0 true (Val.Q7 (ah ++ [(Q3i ([(Fld.mk Qb (Q3n x0.bI)), (Fld.mk Q3r (Q3n x0.gK)), (Fld.mk Q6 (Q4x x0.aR)), (Fld.mk Qx (Q2m x0.bW)), (Fld.mk Q1m (Qt x0.dI))]))]) 5 rfl), hP 2 (Q26 i0 (by omega))] [aN (Qos x0.bI), aN (Qos x0.gK), aN (Q159 x0.aR (H.2.1 x0 (Q2l bU))), aN (Qgc x0.bW), aN (Q45 x0.dI), aN (Q4o (e' := .call 163 [.sl [(Fld.cells (Fld.mk Qb (Q3n x0.bI))), (Fld.cells (Fld.mk Q3r (Q3n x0.gK))), (Fld.cells (Fld.mk Q6 (Q4x x0.aR))), (Fld.cells (Fld.mk Qx (Q2m x0.bW))), (Fld.cells (Fld.mk Q1m (Qt x0.dI)))]] []) (Q9l ([(Fld.mk Qb (Q3n x0.bI)), (Fld.mk Q3r (Q3n x0.gK)), (Fld.mk Q6 (Q4x x0.aR)), (Fld.mk Qx (Q2m x0.bW)), (Fld.mk Q1m (Qt x0.dI))]) (Nat.le_of_ble_eq_true rfl)) (by simp only [Q8w, Fld.Qm, Fld.Q11]))] hr (by kernel_rfl)
theorem Q127 (p0 : List aM) (H : Qi4 p0) : ∀ (r0 : List aM) (i0 : Nat) (ah : List Val), List.drop i0 p0 = r0 → List.length ah ≤ i0 → Qiz p0 (Qh0 p0 i0 ah) (Q6b p0 r0 i0 ah)
 | [], i0, ah, hd, aT => by
  have bG : (decide ((i0 : Int) < ((List.length p0) : Int))) = false := by have := Q1c hd; simp; omega
  rw [Q6b]
  exact Q1e4 p0 H i0 ah aT bG
 | x0 :: r0, i0, ah, hd, aT => by
  obtain ⟨bU, dG, hd'⟩ := Q19 hd
  have bG : (decide ((i0 : Int) < ((List.length p0) : Int))) = true := by simp; omega
  rw [Q6b]
  exact Qw5 p0 (fun r hr => Q1bg p0 H x0 i0 ah bU dG aT bG hr) _ (Q127 p0 H r0 _ _ hd' (by first | omega | (simp; omega)))
def Q1jx (p0 : List aM) : Val := vL (p0.map aM.enc)
theorem Q2ad (p0 : List aM) : Q1jx p0 = ((Val.mk 4 0 eB (Q6b p0 p0 0 []) [])) := by
  rw [Q18r]
  kernel_rfl
def Q27p (p0 : List aM) : En := .call 235 [.sl (aM.rows p0)] []
def Q1xp (p0 : List aM) : Rs := .ret (.agg (Val.cells (Q1jx p0))) []
def Q1qs (p0 : List aM) : Prop := LSm aM.sm p0
theorem Q1mf (p0 : List aM) (H : Q1qs p0) : (Qi4 p0) ∧ True := by
  exact ⟨⟨Nat.le_trans H.1 (Nat.le_of_ble_eq_true rfl), (by first | exact H.2 | exact fun x hx => (H.2 x hx).1 | exact fun x hx => (H.2 x hx).2.1 | exact fun x hx => (H.2 x hx).2.2.1 | exact fun x hx => (H.2 x hx).2.2.2.1 | exact fun x hx => (H.2 x hx).2.2.2.2.1), trivial⟩, trivial⟩
theorem Q2dl (p0 : List aM) (H : Q1qs p0) : Q0 G (Q27p p0) (Q1xp p0) := by
 unfold Q1xp
 rw [Q2ad]
 have hl0 := Q127 p0 ((Q1mf p0 H).1) p0 0 [] (by simp) (by simp)
 obtain ⟨z0, gq, hl0⟩ := hl0
 exact Q5 (fn := Ir.K2l) (by kernel_rfl) VOK.nil [hS 0 true (Val.Q7 (Q6b p0 p0 0 []) 5 rfl), hQ (Val.Q8 (Q6b p0 p0 0 [])).symm] [aV [(1, Val.rows (Q6b p0 p0 0 []))] hl0] (by kernel_rfl)
def Q6e (p0 : List aC) : List aC → Nat → (List Val) → List Val
 | [], _i0, ah =>
  ah
 | x0 :: r0, i0, ah =>
  Q6e p0 r0 (i0 + 1) (ah ++ [(Q3i ([(Fld.mk Q28 (Qt x0.eT)), (Fld.mk Qx (Q2m x0.bW)), (Fld.mk Q6 (Q4x x0.aR)), (Fld.mk Qb (Q3n x0.bI))]))])
theorem Q18u (p0 : List aC) : ∀ (l : List aC) (i : Nat) (a : List Val), Q6e p0 l i a = a ++ l.map (fun x0 => (Q3i ([(Fld.mk Q28 (Qt x0.eT)), (Fld.mk Qx (Q2m x0.bW)), (Fld.mk Q6 (Q4x x0.aR)), (Fld.mk Qb (Q3n x0.bI))])))
  | [], _, _ => by simp [Q6e]
  | x :: r, i, a => by rw [Q6e, Q18u p0 r]; simp
def Q1fp (p0 : List aC) (i0 : Nat) (ah : List Val) : List PV :=
  [.sl (aC.rows p0), .un, .bx 0 0, .ms 1 5 0 (List.length ah), iN (i0 : Int)] ++ nuns 34
def Qzd (_p0 : List aC) (_i0 : Nat) (ah : List Val) : List Ob :=
  [⟨5, 0, true, [iN 0, iN 0, .str eB, .ms 2 5 0 0, .ms 3 6 0 0]⟩, ⟨5, 0, true, (Val.rows ah).flatten⟩, ⟨5, 0, true, []⟩, ⟨6, 0, true, []⟩]
def Qh3 (p0 : List aC) (i0 : Nat) (ah : List Val) : En := .loop 0 Ir.Ql1 Ir.Q1oz (Q1fp p0 i0 ah) (Qzd p0 i0 ah)
def Qrc (_p0 : List aC) (q0 : List Val) (z : Nat → PV) (_zo : Nat → List PV) : St :=
  ⟨[z 0, z 1, .bx 0 0, .ms 1 5 0 (List.length q0)] ++ zr z 4 35, [(0, ⟨5, 0, true, [iN 0, iN 0, .str eB, .ms 2 5 0 0, .ms 3 6 0 0]⟩), (1, ⟨5, 0, true, (Val.rows q0).flatten⟩), (2, ⟨5, 0, true, []⟩), (3, ⟨6, 0, true, []⟩)], 260⟩
theorem Q16c (p0 : List aC) (i0 : Nat) (ah : List Val) : VOK (Go.Pv.look (number 0 (Qzd p0 i0 ah))) [(1, Val.rows ah)] := (VOK.cons (show Seen _ _ from Q3o (ob := ⟨5, 0, true, (Val.rows ah).flatten⟩) (Val.Q7 ah 5 rfl)) VOK.nil)
def Qj2 (p0 : List aC) (e : En) (q : List Val) : Prop := ∃ z zo, Q0 G e (.st (.exit 0) (Qrc p0 q z zo))
theorem Qw8 (p0 : List aC) {e e' : En} (h : ∀ r, Q0 G e r → Q0 G e' r) : ∀ q, Qj2 p0 e q → Qj2 p0 e' q
  | _, ⟨z, zo, hz⟩ => ⟨z, zo, h _ hz⟩
def Qi7 (p0 : List aC) : Prop := (List.length p0 ≤ 137438953472) ∧ (∀ x0 ∈ p0, Qv9 x0.aR) ∧ True
def Qt5 (p0 : List aC) (i0 : Nat) (_ah : List Val) : List PV :=
  [.sl (aC.rows p0), .un, .un, .un, iN (i0 : Int), .un, iN (i0 : Int), .sl (aC.rows p0), iN ((List.length p0) : Int), .bool false]
def Qmv (_p0 : List aC) (_i0 : Nat) (_ah : List Val) : List (Nat × List PV) :=
  []
theorem Q1e7 (p0 : List aC) (_H : Qi7 p0) (i0 : Nat) (ah : List Val) (_aT : List.length ah ≤ i0) (bG : (decide ((i0 : Int) < ((List.length p0) : Int))) = false) : Qj2 p0 (Qh3 p0 i0 ah) ah := by
 exact ⟨(envF (Qt5 p0 i0 ah)), (zoF (Qmv p0 i0 ah)), Qd (Q16c p0 i0 ah) (x := ((.exit 0), Qrc p0 ah (envF (Qt5 p0 i0 ah)) (zoF (Qmv p0 i0 ah)))) [hP 2 (Qw _ _ (aC.Q8 p0)), hB 0 bG] [] (by kernel_rfl)⟩
theorem Q1bj (p0 : List aC) (H : Qi7 p0) (x0 : aC) (i0 : Nat) (ah : List Val) (bU : p0[i0]? = some x0) (dG : i0 < List.length p0) (aT : List.length ah ≤ i0) (bG : (decide ((i0 : Int) < ((List.length p0) : Int))) = true) {r : Rs} (hr : Q0 G (Qh3 p0 (i0 + 1) (ah ++ [(Q3i ([(Fld.mk Q28 (Qt x0.eT)), (Fld.mk Qx (Q2m x0.bW)), (Fld.mk Q6 (Q4x x0.aR)), (Fld.mk Qb (Q3n x0.bI))]))])) r) : Q0 G (Qh3 p0 i0 ah) r := by
 have hB0 := H.1
 exact Qc (Q16c p0 i0 ah) [hP 2 (Qw _ _ (aC.Q8 p0)), hB 0 bG, hP 2 (Q2q 4 _ i0 _ (aC.Qg bU) rfl), hA 23 1 1860 1924 5 80 0 0 true Val.Q8 Val.Q1g ah (Q3i ([(Fld.mk Q28 (Qt x0.eT)), (Fld.mk Qx (Q2m x0.bW)), (Fld.mk Q6 (Q4x x0.aR)), (Fld.mk Qb (Q3n x0.bI))])) (Val.Qh ah) rfl rfl (by omega), hS 0 true (Val.Q7 (ah ++ [(Q3i ([(Fld.mk Q28 (Qt x0.eT)), (Fld.mk Qx (Q2m x0.bW)), (Fld.mk Q6 (Q4x x0.aR)), (Fld.mk Qb (Q3n x0.bI))]))]) 5 rfl), hP 2 (Q26 i0 (by omega))] [aN (Q45 x0.eT), aN (Qgc x0.bW), aN (Q159 x0.aR (H.2.1 x0 (Q2l bU))), aN (Qos x0.bI), aN (Q4o (e' := .call 163 [.sl [(Fld.cells (Fld.mk Q28 (Qt x0.eT))), (Fld.cells (Fld.mk Qx (Q2m x0.bW))), (Fld.cells (Fld.mk Q6 (Q4x x0.aR))), (Fld.cells (Fld.mk Qb (Q3n x0.bI)))]] []) (Q9l ([(Fld.mk Q28 (Qt x0.eT)), (Fld.mk Qx (Q2m x0.bW)), (Fld.mk Q6 (Q4x x0.aR)), (Fld.mk Qb (Q3n x0.bI))]) (Nat.le_of_ble_eq_true rfl)) (by simp only [Q8w, Fld.Qm, Fld.Q11]))] hr (by kernel_rfl)
theorem Q12a (p0 : List aC) (H : Qi7 p0) : ∀ (r0 : List aC) (i0 : Nat) (ah : List Val), List.drop i0 p0 = r0 → List.length ah ≤ i0 → Qj2 p0 (Qh3 p0 i0 ah) (Q6e p0 r0 i0 ah)
 | [], i0, ah, hd, aT => by
  have bG : (decide ((i0 : Int) < ((List.length p0) : Int))) = false := by have := Q1c hd; simp; omega
  rw [Q6e]
  exact Q1e7 p0 H i0 ah aT bG
 | x0 :: r0, i0, ah, hd, aT => by
  obtain ⟨bU, dG, hd'⟩ := Q19 hd
  have bG : (decide ((i0 : Int) < ((List.length p0) : Int))) = true := by simp; omega
  rw [Q6e]
  exact Qw8 p0 (fun r hr => Q1bj p0 H x0 i0 ah bU dG aT bG hr) _ (Q12a p0 H r0 _ _ hd' (by first | omega | (simp; omega)))
def Q1jy (p0 : List aC) : Val := vL (p0.map aC.enc)
theorem Q2ai (p0 : List aC) : Q1jy p0 = ((Val.mk 4 0 eB (Q6e p0 p0 0 []) [])) := by
  rw [Q18u]
  kernel_rfl
def Q27u (p0 : List aC) : En := .call 236 [.sl (aC.rows p0)] []
def Q1xu (p0 : List aC) : Rs := .ret (.agg (Val.cells (Q1jy p0))) []
def Q1qu (p0 : List aC) : Prop := LSm aC.sm p0
theorem Q1mi (p0 : List aC) (H : Q1qu p0) : (Qi7 p0) ∧ True := by
  exact ⟨⟨Nat.le_trans H.1 (Nat.le_of_ble_eq_true rfl), (by first | exact H.2 | exact fun x hx => (H.2 x hx).1 | exact fun x hx => (H.2 x hx).2.1 | exact fun x hx => (H.2 x hx).2.2.1 | exact fun x hx => (H.2 x hx).2.2.2.1 | exact fun x hx => (H.2 x hx).2.2.2.2.1), trivial⟩, trivial⟩
theorem Q2dn (p0 : List aC) (H : Q1qu p0) : Q0 G (Q27u p0) (Q1xu p0) := by
 unfold Q1xu
 rw [Q2ai]
 have hl0 := Q12a p0 ((Q1mi p0 H).1) p0 0 [] (by simp) (by simp)
 obtain ⟨z0, gq, hl0⟩ := hl0
 exact Q5 (fn := Ir.K2u) (by kernel_rfl) VOK.nil [hS 0 true (Val.Q7 (Q6e p0 p0 0 []) 5 rfl), hQ (Val.Q8 (Q6e p0 p0 0 [])).symm] [aV [(1, Val.rows (Q6e p0 p0 0 []))] hl0] (by kernel_rfl)
def Q6g (p0 : List aA) : List aA → Nat → (List Val) → List Val
 | [], _i0, ah =>
  ah
 | x0 :: r0, i0, ah =>
  Q6g p0 r0 (i0 + 1) (ah ++ [(Q3i ([(Fld.mk Q13 (Q2m x0.key)), (Fld.mk Q1p (Q2m x0.value)), (Fld.mk Q2w (Q3n x0.eG)), (Fld.mk Q39 (Qt x0.fF)), (Fld.mk Q33 (Qt x0.eX))]))])
theorem Q18w (p0 : List aA) : ∀ (l : List aA) (i : Nat) (a : List Val), Q6g p0 l i a = a ++ l.map (fun x0 => (Q3i ([(Fld.mk Q13 (Q2m x0.key)), (Fld.mk Q1p (Q2m x0.value)), (Fld.mk Q2w (Q3n x0.eG)), (Fld.mk Q39 (Qt x0.fF)), (Fld.mk Q33 (Qt x0.eX))])))
  | [], _, _ => by simp [Q6g]
  | x :: r, i, a => by rw [Q6g, Q18w p0 r]; simp
def Q1fr (p0 : List aA) (i0 : Nat) (ah : List Val) : List PV :=
  [.sl (aA.rows p0), .un, .bx 0 0, .ms 1 5 0 (List.length ah), iN (i0 : Int)] ++ nuns 38
def Qzf (_p0 : List aA) (_i0 : Nat) (ah : List Val) : List Ob :=
  [⟨5, 0, true, [iN 0, iN 0, .str eB, .ms 2 5 0 0, .ms 3 6 0 0]⟩, ⟨5, 0, true, (Val.rows ah).flatten⟩, ⟨5, 0, true, []⟩, ⟨6, 0, true, []⟩]
def Qh5 (p0 : List aA) (i0 : Nat) (ah : List Val) : En := .loop 0 Ir.Ql3 Ir.Q1p1 (Q1fr p0 i0 ah) (Qzf p0 i0 ah)
def Qre (_p0 : List aA) (q0 : List Val) (z : Nat → PV) (_zo : Nat → List PV) : St :=
  ⟨[z 0, z 1, .bx 0 0, .ms 1 5 0 (List.length q0)] ++ zr z 4 39, [(0, ⟨5, 0, true, [iN 0, iN 0, .str eB, .ms 2 5 0 0, .ms 3 6 0 0]⟩), (1, ⟨5, 0, true, (Val.rows q0).flatten⟩), (2, ⟨5, 0, true, []⟩), (3, ⟨6, 0, true, []⟩)], 260⟩
theorem Q16e (p0 : List aA) (i0 : Nat) (ah : List Val) : VOK (Go.Pv.look (number 0 (Qzf p0 i0 ah))) [(1, Val.rows ah)] := (VOK.cons (show Seen _ _ from Q3o (ob := ⟨5, 0, true, (Val.rows ah).flatten⟩) (Val.Q7 ah 5 rfl)) VOK.nil)
def Qj4 (p0 : List aA) (e : En) (q : List Val) : Prop := ∃ z zo, Q0 G e (.st (.exit 0) (Qre p0 q z zo))
theorem Qwa (p0 : List aA) {e e' : En} (h : ∀ r, Q0 G e r → Q0 G e' r) : ∀ q, Qj4 p0 e q → Qj4 p0 e' q
  | _, ⟨z, zo, hz⟩ => ⟨z, zo, h _ hz⟩
def Qi9 (p0 : List aA) : Prop := (List.length p0 ≤ 137438953472) ∧ True
def Qt7 (p0 : List aA) (i0 : Nat) (_ah : List Val) : List PV :=
  [.sl (aA.rows p0), .un, .un, .un, iN (i0 : Int), .un, iN (i0 : Int), .sl (aA.rows p0), iN ((List.length p0) : Int), .bool false]
def Qmx (_p0 : List aA) (_i0 : Nat) (_ah : List Val) : List (Nat × List PV) :=
  []
theorem Q1e9 (p0 : List aA) (_H : Qi9 p0) (i0 : Nat) (ah : List Val) (_aT : List.length ah ≤ i0) (bG : (decide ((i0 : Int) < ((List.length p0) : Int))) = false) : Qj4 p0 (Qh5 p0 i0 ah) ah := by
 exact ⟨(envF (Qt7 p0 i0 ah)), (zoF (Qmx p0 i0 ah)), Qd (Q16e p0 i0 ah) (x := ((.exit 0), Qre p0 ah (envF (Qt7 p0 i0 ah)) (zoF (Qmx p0 i0 ah)))) [hP 2 (Qw _ _ (aA.Q8 p0)), hB 0 bG] [] (by kernel_rfl)⟩
theorem Q1bl (p0 : List aA) (H : Qi9 p0) (x0 : aA) (i0 : Nat) (ah : List Val) (bU : p0[i0]? = some x0) (dG : i0 < List.length p0) (aT : List.length ah ≤ i0) (bG : (decide ((i0 : Int) < ((List.length p0) : Int))) = true) {r : Rs} (hr : Q0 G (Qh5 p0 (i0 + 1) (ah ++ [(Q3i ([(Fld.mk Q13 (Q2m x0.key)), (Fld.mk Q1p (Q2m x0.value)), (Fld.mk Q2w (Q3n x0.eG)), (Fld.mk Q39 (Qt x0.fF)), (Fld.mk Q33 (Qt x0.eX))]))])) r) : Q0 G (Qh5 p0 i0 ah) r := by
 have hB0 := H.1
 exact Qc (Q16e p0 i0 ah) [hP 2 (Qw _ _ (aA.Q8 p0)), hB 0 bG, hP 2 (Q2q 5 _ i0 _ (aA.Qg bU) rfl), hA 27 1 2116 2180 5 80 0 0 true Val.Q8 Val.Q1g ah (Q3i ([(Fld.mk Q13 (Q2m x0.key)), (Fld.mk Q1p (Q2m x0.value)), (Fld.mk Q2w (Q3n x0.eG)), (Fld.mk Q39 (Qt x0.fF)), (Fld.mk Q33 (Qt x0.eX))])) (Val.Qh ah) rfl rfl (by omega), hS 0 true (Val.Q7 (ah ++ [(Q3i ([(Fld.mk Q13 (Q2m x0.key)), (Fld.mk Q1p (Q2m x0.value)), (Fld.mk Q2w (Q3n x0.eG)), (Fld.mk Q39 (Qt x0.fF)), (Fld.mk Q33 (Qt x0.eX))]))]) 5 rfl), hP 2 (Q26 i0 (by omega))] [aN (Qgc x0.key), aN (Qgc x0.value), aN (Qos x0.eG), aN (Q45 x0.fF), aN (Q45 x0.eX), aN (Q4o (e' := .call 163 [.sl [(Fld.cells (Fld.mk Q13 (Q2m x0.key))), (Fld.cells (Fld.mk Q1p (Q2m x0.value))), (Fld.cells (Fld.mk Q2w (Q3n x0.eG))), (Fld.cells (Fld.mk Q39 (Qt x0.fF))), (Fld.cells (Fld.mk Q33 (Qt x0.eX)))]] []) (Q9l ([(Fld.mk Q13 (Q2m x0.key)), (Fld.mk Q1p (Q2m x0.value)), (Fld.mk Q2w (Q3n x0.eG)), (Fld.mk Q39 (Qt x0.fF)), (Fld.mk Q33 (Qt x0.eX))]) (Nat.le_of_ble_eq_true rfl)) (by simp only [Q8w, Fld.Qm, Fld.Q11]))] hr (by kernel_rfl)
theorem Q12c (p0 : List aA) (H : Qi9 p0) : ∀ (r0 : List aA) (i0 : Nat) (ah : List Val), List.drop i0 p0 = r0 → List.length ah ≤ i0 → Qj4 p0 (Qh5 p0 i0 ah) (Q6g p0 r0 i0 ah)
 | [], i0, ah, hd, aT => by
  have bG : (decide ((i0 : Int) < ((List.length p0) : Int))) = false := by have := Q1c hd; simp; omega
  rw [Q6g]
  exact Q1e9 p0 H i0 ah aT bG
 | x0 :: r0, i0, ah, hd, aT => by
  obtain ⟨bU, dG, hd'⟩ := Q19 hd
  have bG : (decide ((i0 : Int) < ((List.length p0) : Int))) = true := by simp; omega
  rw [Q6g]
  exact Qwa p0 (fun r hr => Q1bl p0 H x0 i0 ah bU dG aT bG hr) _ (Q12c p0 H r0 _ _ hd' (by first | omega | (simp; omega)))
def Q1jz (p0 : List aA) : Val := vL (p0.map aA.enc)
theorem Q2al (p0 : List aA) : Q1jz p0 = ((Val.mk 4 0 eB (Q6g p0 p0 0 []) [])) := by
  rw [Q18w]
  kernel_rfl
def Q27y (p0 : List aA) : En := .call 237 [.sl (aA.rows p0)] []
def Q1xy (p0 : List aA) : Rs := .ret (.agg (Val.cells (Q1jz p0))) []
def Q1qw (p0 : List aA) : Prop := LSm aA.sm p0
theorem Q1mk (p0 : List aA) (H : Q1qw p0) : (Qi9 p0) ∧ True := by
  exact ⟨⟨Nat.le_trans H.1 (Nat.le_of_ble_eq_true rfl), trivial⟩, trivial⟩
theorem Q2dp (p0 : List aA) (H : Q1qw p0) : Q0 G (Q27y p0) (Q1xy p0) := by
 unfold Q1xy
 rw [Q2al]
 have hl0 := Q12c p0 ((Q1mk p0 H).1) p0 0 [] (by simp) (by simp)
 obtain ⟨z0, gq, hl0⟩ := hl0
 exact Q5 (fn := Ir.K2z) (by kernel_rfl) VOK.nil [hS 0 true (Val.Q7 (Q6g p0 p0 0 []) 5 rfl), hQ (Val.Q8 (Q6g p0 p0 0 [])).symm] [aV [(1, Val.rows (Q6g p0 p0 0 []))] hl0] (by kernel_rfl)
def Q1jw (p0 : aY) : Val := aY.enc p0
theorem Q2ac (p0 : aY) : Q1jw p0 = ((Q3i ([(Fld.mk Q37 (Q2m p0.fV)), (Fld.mk Q1f (Qt p0.dH)), (Fld.mk Q1v (Qt p0.dO)), (Fld.mk Q35 (Qt p0.fD)), (Fld.mk Q1d (Q1js p0.bZ)), (Fld.mk Q17 (Q4x p0.bL)), (Fld.mk Q1y (Q1jv p0.cO)), (Fld.mk Q2j (Q1jx p0.dw)), (Fld.mk Q3k (Q1jy p0.dR)), (Fld.mk Q2a (Q1jz p0.bP))]))) := by
  kernel_rfl
def Q27o (p0 : aY) : En := .call 214 [.agg (aY.cells p0)] []
def Q1xo (p0 : aY) : Rs := .ret (.agg (Val.cells (Q1jw p0))) []
def Q1qr (p0 : aY) : Prop := aY.sm p0
theorem Qbz (p0 : aY) (H : Q1qr p0) : (Q1qk p0.bZ) ∧ (Qv9 p0.bL) ∧ (Q1qq p0.cO) ∧ (Q1qs p0.dw) ∧ (Q1qu p0.dR) ∧ (Q1qw p0.bP) ∧ True := by
  exact ⟨(by first | exact True.intro | exact H | exact H.1 | exact H.2.1 | exact H.2.2.1 | exact H.2.2.2.1 | exact H.2.2.2.2.1 | exact H.2.2.2.2.2.1 | exact ⟨H.1, trivial⟩ | exact ⟨H.2.1, trivial⟩), (by first | exact True.intro | exact H | exact H.1 | exact H.2.1 | exact H.2.2.1 | exact H.2.2.2.1 | exact H.2.2.2.2.1 | exact H.2.2.2.2.2.1 | exact ⟨H.1, trivial⟩ | exact ⟨H.2.1, trivial⟩), (by first | exact True.intro | exact H | exact H.1 | exact H.2.1 | exact H.2.2.1 | exact H.2.2.2.1 | exact H.2.2.2.2.1 | exact H.2.2.2.2.2.1 | exact ⟨H.1, trivial⟩ | exact ⟨H.2.1, trivial⟩), (by first | exact True.intro | exact H | exact H.1 | exact H.2.1 | exact H.2.2.1 | exact H.2.2.2.1 | exact H.2.2.2.2.1 | exact H.2.2.2.2.2.1 | exact ⟨H.1, trivial⟩ | exact ⟨H.2.1, trivial⟩), (by first | exact True.intro | exact H | exact H.1 | exact H.2.1 | exact H.2.2.1 | exact H.2.2.2.1 | exact H.2.2.2.2.1 | exact H.2.2.2.2.2.1 | exact ⟨H.1, trivial⟩ | exact ⟨H.2.1, trivial⟩), (by first | exact True.intro | exact H | exact H.1 | exact H.2.1 | exact H.2.2.1 | exact H.2.2.2.1 | exact H.2.2.2.2.1 | exact H.2.2.2.2.2.1 | exact ⟨H.1, trivial⟩ | exact ⟨H.2.1, trivial⟩), trivial⟩
theorem Q2dk (p0 : aY) (H : Q1qr p0) : Q0 G (Q27o p0) (Q1xo p0) := by
 unfold Q1xo
 rw [Q2ac]
 exact Q5 (fn := Ir.K2k) (by kernel_rfl) VOK.nil [] [aN (Qgc p0.fV), aN (Q45 p0.dH), aN (Q45 p0.dO), aN (Q45 p0.fD), aN (Q2dd p0.bZ (Qbz p0 H).1), aN (Q159 p0.bL (Qbz p0 H).2.1), aN (Q2dj p0.cO (Qbz p0 H).2.2.1), aN (Q2dl p0.dw (Qbz p0 H).2.2.2.1), aN (Q2dn p0.dR (Qbz p0 H).2.2.2.2.1), aN (Q2dp p0.bP (Qbz p0 H).2.2.2.2.2.1), aN (Q4o (e' := .call 163 [.sl [(Fld.cells (Fld.mk Q37 (Q2m p0.fV))), (Fld.cells (Fld.mk Q1f (Qt p0.dH))), (Fld.cells (Fld.mk Q1v (Qt p0.dO))), (Fld.cells (Fld.mk Q35 (Qt p0.fD))), (Fld.cells (Fld.mk Q1d (Q1js p0.bZ))), (Fld.cells (Fld.mk Q17 (Q4x p0.bL))), (Fld.cells (Fld.mk Q1y (Q1jv p0.cO))), (Fld.cells (Fld.mk Q2j (Q1jx p0.dw))), (Fld.cells (Fld.mk Q3k (Q1jy p0.dR))), (Fld.cells (Fld.mk Q2a (Q1jz p0.bP)))]] []) (Q9l ([(Fld.mk Q37 (Q2m p0.fV)), (Fld.mk Q1f (Qt p0.dH)), (Fld.mk Q1v (Qt p0.dO)), (Fld.mk Q35 (Qt p0.fD)), (Fld.mk Q1d (Q1js p0.bZ)), (Fld.mk Q17 (Q4x p0.bL)), (Fld.mk Q1y (Q1jv p0.cO)), (Fld.mk Q2j (Q1jx p0.dw)), (Fld.mk Q3k (Q1jy p0.dR)), (Fld.mk Q2a (Q1jz p0.bP))]) (Nat.le_of_ble_eq_true rfl)) (by simp only [Q8w, Fld.Qm, Fld.Q11]))] (by kernel_rfl)
def Qom (p0 : aU) : Val := aU.enc p0
theorem Q2ak (p0 : aU) : Qom p0 = ((Q3i ([(Fld.mk Q20 (Q1ju p0.bH)), (Fld.mk Q3f (Q1jw p0.aS))]))) := by
  kernel_rfl
def Q27x (p0 : aU) : En := .call 166 [.agg (aU.cells p0)] []
def Q1xx (p0 : aU) : Rs := .ret (.agg (Val.cells (Qom p0))) []
def Q1gl (p0 : aU) : Prop := aU.sm p0
theorem Q17g (p0 : aU) (H : Q1gl p0) : (Q1qp p0.bH) ∧ (Q1qr p0.aS) ∧ True := by
  exact ⟨(by first | exact True.intro | exact H | exact H.1 | exact H.2.1 | exact ⟨H.1, trivial⟩ | exact ⟨H.2.1, trivial⟩), (by first | exact True.intro | exact H | exact H.1 | exact H.2.1 | exact ⟨H.1, trivial⟩ | exact ⟨H.2.1, trivial⟩), trivial⟩
theorem Q1s6 (p0 : aU) (H : Q1gl p0) : Q0 G (Q27x p0) (Q1xx p0) := by
 unfold Q1xx
 rw [Q2ak]
 exact Q5 (fn := Ir.K2y) (by kernel_rfl) VOK.nil [] [aN (Q2di p0.bH (Q17g p0 H).1), aN (Q2dk p0.aS (Q17g p0 H).2.1), aN (Q4o (e' := .call 163 [.sl [(Fld.cells (Fld.mk Q20 (Q1ju p0.bH))), (Fld.cells (Fld.mk Q3f (Q1jw p0.aS)))]] []) (Q9l ([(Fld.mk Q20 (Q1ju p0.bH)), (Fld.mk Q3f (Q1jw p0.aS))]) (Nat.le_of_ble_eq_true rfl)) (by simp only [Q8w, Fld.Qm, Fld.Q11]))] (by kernel_rfl)
def Qfe (p0 : aJ) : Val := aJ.enc p0
theorem Q2a0 (p0 : aJ) : Qfe p0 = ((Q3i ([(Fld.mk Q32 (Q3n p0.dQ)), (Fld.mk kw_n (Qt p0.n))]))) := by
  kernel_rfl
def Q27b (p0 : aJ) : En := .call 168 [.agg (aJ.cells p0)] []
def Q1xa (p0 : aJ) : Rs := .ret (.agg (Val.cells (Qfe p0))) []
theorem Q1s4 (p0 : aJ) : Q0 G (Q27b p0) (Q1xa p0) := by
 unfold Q1xa
 rw [Q2a0]
 exact Q5 (fn := Ir.K20) (by kernel_rfl) VOK.nil [] [aN (Qos p0.dQ), aN (Q45 p0.n), aN (Q4o (e' := .call 163 [.sl [(Fld.cells (Fld.mk Q32 (Q3n p0.dQ))), (Fld.cells (Fld.mk kw_n (Qt p0.n)))]] []) (Q9l ([(Fld.mk Q32 (Q3n p0.dQ)), (Fld.mk kw_n (Qt p0.n))]) (Nat.le_of_ble_eq_true rfl)) (by simp only [Q8w, Fld.Qm, Fld.Q11]))] (by kernel_rfl)
def Q1ns (p0 : ay) : Val := ay.encS p0
theorem Q2a6 (p0 : ay) : Q1ns p0 = ((Q3i ([(Fld.mk Qa (Qt p0.bD)), (Fld.mk Qq (Qt p0.bS)), (Fld.mk Q2g (Qt p0.eP)), (Fld.mk Qk (Qt p0.bY)), (Fld.mk Q6 (Q4x p0.aR)), (Fld.mk Qe (Qom p0.aP)), (Fld.mk Q24 (Q3n p0.dY)), (Fld.mk Q2x (Q3n p0.fG)), (Fld.mk Q38 (Qfe p0.eZ)), (Fld.mk Q15 (Qfe p0.bO)), (Fld.mk Q40 (Qt p0.gN))]))) := by
  kernel_rfl
def Q27h (p0 : ay) : En := .call 59 [.agg (ay.cells p0)] []
def Q1xg (p0 : ay) : Rs := .ret (.agg (Val.cells (Q1ns p0))) []
def Q1ql (p0 : ay) : Prop := ay.sm p0
theorem Q17d (p0 : ay) (H : Q1ql p0) : (Qv9 p0.aR) ∧ (Q1gl p0.aP) ∧ True := by
  exact ⟨(by first | exact True.intro | exact H | exact H.1 | exact H.2.1 | exact H.2.2.1 | exact H.2.2.2.1 | exact H.2.2.2.2.1 | exact ⟨H.1, trivial⟩ | exact ⟨H.2.1, trivial⟩), (by first | exact True.intro | exact H | exact H.1 | exact H.2.1 | exact H.2.2.1 | exact H.2.2.2.1 | exact H.2.2.2.2.1 | exact ⟨H.1, trivial⟩ | exact ⟨H.2.1, trivial⟩), trivial⟩
theorem Q2de (p0 : ay) (H : Q1ql p0) : Q0 G (Q27h p0) (Q1xg p0) := by
 unfold Q1xg
 rw [Q2a6]
 exact Q5 (fn := Ir.K2a) (by kernel_rfl) VOK.nil [] [aN (Q45 p0.bD), aN (Q45 p0.bS), aN (Q45 p0.eP), aN (Q45 p0.bY), aN (Q159 p0.aR (Q17d p0 H).1), aN (Q1s6 p0.aP (Q17d p0 H).2.1), aN (Qos p0.dY), aN (Qos p0.fG), aN (Q1s4 p0.eZ), aN (Q1s4 p0.bO), aN (Q45 p0.gN), aN (Q4o (e' := .call 163 [.sl [(Fld.cells (Fld.mk Qa (Qt p0.bD))), (Fld.cells (Fld.mk Qq (Qt p0.bS))), (Fld.cells (Fld.mk Q2g (Qt p0.eP))), (Fld.cells (Fld.mk Qk (Qt p0.bY))), (Fld.cells (Fld.mk Q6 (Q4x p0.aR))), (Fld.cells (Fld.mk Qe (Qom p0.aP))), (Fld.cells (Fld.mk Q24 (Q3n p0.dY))), (Fld.cells (Fld.mk Q2x (Q3n p0.fG))), (Fld.cells (Fld.mk Q38 (Qfe p0.eZ))), (Fld.cells (Fld.mk Q15 (Qfe p0.bO))), (Fld.cells (Fld.mk Q40 (Qt p0.gN)))]] []) (Q9l ([(Fld.mk Qa (Qt p0.bD)), (Fld.mk Qq (Qt p0.bS)), (Fld.mk Q2g (Qt p0.eP)), (Fld.mk Qk (Qt p0.bY)), (Fld.mk Q6 (Q4x p0.aR)), (Fld.mk Qe (Qom p0.aP)), (Fld.mk Q24 (Q3n p0.dY)), (Fld.mk Q2x (Q3n p0.fG)), (Fld.mk Q38 (Qfe p0.eZ)), (Fld.mk Q15 (Qfe p0.bO)), (Fld.mk Q40 (Qt p0.gN))]) (Nat.le_of_ble_eq_true rfl)) (by simp only [Q8w, Fld.Qm, Fld.Q11]))] (by kernel_rfl)
def Q1ci (p0 : aO) : Val := aO.enc p0
theorem Q2am (p0 : aO) : Q1ci p0 = ((Q3i ([(Fld.mk Ql (Qt p0.bV)), (Fld.mk Qa (Qt p0.bD)), (Fld.mk Q29 (Qt p0.dW)), (Fld.mk Q1o (Qt p0.ready)), (Fld.mk Q1x (Qt p0.dx)), (Fld.mk Q2k (Qt p0.dJ)), (Fld.mk Q1h (Q3n p0.bA))]))) := by
  kernel_rfl
def Q27z (p0 : aO) : En := .call 60 [.agg (aO.cells p0)] []
def Q1xz (p0 : aO) : Rs := .ret (.agg (Val.cells (Q1ci p0))) []
theorem Q211 (p0 : aO) : Q0 G (Q27z p0) (Q1xz p0) := by
 unfold Q1xz
 rw [Q2am]
 exact Q5 (fn := Ir.K30) (by kernel_rfl) VOK.nil [] [aN (Q45 p0.bV), aN (Q45 p0.bD), aN (Q45 p0.dW), aN (Q45 p0.ready), aN (Q45 p0.dx), aN (Q45 p0.dJ), aN (Qos p0.bA), aN (Q4o (e' := .call 163 [.sl [(Fld.cells (Fld.mk Ql (Qt p0.bV))), (Fld.cells (Fld.mk Qa (Qt p0.bD))), (Fld.cells (Fld.mk Q29 (Qt p0.dW))), (Fld.cells (Fld.mk Q1o (Qt p0.ready))), (Fld.cells (Fld.mk Q1x (Qt p0.dx))), (Fld.cells (Fld.mk Q2k (Qt p0.dJ))), (Fld.cells (Fld.mk Q1h (Q3n p0.bA)))]] []) (Q9l ([(Fld.mk Ql (Qt p0.bV)), (Fld.mk Qa (Qt p0.bD)), (Fld.mk Q29 (Qt p0.dW)), (Fld.mk Q1o (Qt p0.ready)), (Fld.mk Q1x (Qt p0.dx)), (Fld.mk Q2k (Qt p0.dJ)), (Fld.mk Q1h (Q3n p0.bA))]) (Nat.le_of_ble_eq_true rfl)) (by simp only [Q8w, Fld.Qm, Fld.Q11]))] (by kernel_rfl)
def Q1cj (p0 : BA) (p1 : bJ) (p2 : Val) (p3 : Val) : aW :=
 (aW.mk (bJ.mk p0 p1.bK p1.name p1.gM p1.dA p1.bR p1.dz p1.dh p1.cZ p1.bH p1.bT p1.bF p1.aZ) p2 p3)
def Q284 (p0 : BA) (p1 : bJ) (p2 : Val) (p3 : Val) : En := .call 58 [.str p0, .agg (bJ.cells p1), .agg (Val.cells p2), .agg (Val.cells p3)] []
def Q1y4 (p0 : BA) (p1 : bJ) (p2 : Val) (p3 : Val) : Rs := .ret (.agg (aW.cells (Q1cj p0 p1 p2 p3))) []
theorem Q1nz (p0 : BA) (p1 : bJ) (p2 : Val) (p3 : Val) : Q0 G (Q284 p0 p1 p2 p3) (Q1y4 p0 p1 p2 p3) := by
 unfold Q1y4 Q1cj
 exact Q5 (fn := Ir.K49) (by kernel_rfl) VOK.nil [] [] (by kernel_rfl)
def Q4f (p0 : ay) : aW := ay.obj p0
theorem Q2ao (p0 : ay) : Q4f p0 = ((Q1cj Q1k p0.aG (Q1ns p0) (Q1ci p0.aL))) := by
  first | rfl | kernel_rfl
def Q281 (p0 : ay) : En := .call 9 [.agg (ay.cells p0)] []
def Q1y1 (p0 : ay) : Rs := .ret (.agg (aW.cells (Q4f p0))) []
def Q1gn (p0 : ay) : Prop := ay.sm p0
theorem Q1ml (p0 : ay) (H : Q1gn p0) : (Q1ql p0) ∧ True := by
  exact ⟨(by first | exact True.intro | exact H | exact H.1 | exact H.2.1 | exact H.2.2.1 | exact H.2.2.2.1 | exact H.2.2.2.2.1 | exact ⟨H.1, trivial⟩ | exact ⟨H.2.1, trivial⟩), trivial⟩
theorem Q1ct (p0 : ay) (H : Q1gn p0) : Q0 G (Q281 p0) (Q1y1 p0) := by
 unfold Q1y1
 rw [Q2ao]
 exact Q5 (fn := Ir.K3o) (by kernel_rfl) VOK.nil [] [aN (Q2de p0 (Q1ml p0 H).1), aN (Q211 p0.aL), aN (Q1nz Q1k p0.aG (Q1ns p0) (Q1ci p0.aL))] (by kernel_rfl)
def Q1nv (p0 : aF) : Val := aF.encS p0
theorem Q2af (p0 : aF) : Q1nv p0 = ((Q3i ([(Fld.mk Qa (Qt p0.bD)), (Fld.mk Qq (Qt p0.bS)), (Fld.mk Q25 (Qt p0.dP)), (Fld.mk Q6 (Q4x p0.aR)), (Fld.mk Qe (Qom p0.aP))]))) := by
  kernel_rfl
def Q27r (p0 : aF) : En := .call 99 [.agg (aF.cells p0)] []
def Q1xr (p0 : aF) : Rs := .ret (.agg (Val.cells (Q1nv p0))) []
def Q1qt (p0 : aF) : Prop := aF.sm p0
theorem Q17f (p0 : aF) (H : Q1qt p0) : (Qv9 p0.aR) ∧ (Q1gl p0.aP) ∧ True := by
  exact ⟨(by first | exact True.intro | exact H | exact H.1 | exact H.2.1 | exact H.2.2.1 | exact ⟨H.1, trivial⟩ | exact ⟨H.2.1, trivial⟩), (by first | exact True.intro | exact H | exact H.1 | exact H.2.1 | exact H.2.2.1 | exact ⟨H.1, trivial⟩ | exact ⟨H.2.1, trivial⟩), trivial⟩
theorem Q2dm (p0 : aF) (H : Q1qt p0) : Q0 G (Q27r p0) (Q1xr p0) := by
 unfold Q1xr
 rw [Q2af]
 exact Q5 (fn := Ir.K2q) (by kernel_rfl) VOK.nil [] [aN (Q45 p0.bD), aN (Q45 p0.bS), aN (Q45 p0.dP), aN (Q159 p0.aR (Q17f p0 H).1), aN (Q1s6 p0.aP (Q17f p0 H).2.1), aN (Q4o (e' := .call 163 [.sl [(Fld.cells (Fld.mk Qa (Qt p0.bD))), (Fld.cells (Fld.mk Qq (Qt p0.bS))), (Fld.cells (Fld.mk Q25 (Qt p0.dP))), (Fld.cells (Fld.mk Q6 (Q4x p0.aR))), (Fld.cells (Fld.mk Qe (Qom p0.aP)))]] []) (Q9l ([(Fld.mk Qa (Qt p0.bD)), (Fld.mk Qq (Qt p0.bS)), (Fld.mk Q25 (Qt p0.dP)), (Fld.mk Q6 (Q4x p0.aR)), (Fld.mk Qe (Qom p0.aP))]) (Nat.le_of_ble_eq_true rfl)) (by simp only [Q8w, Fld.Qm, Fld.Q11]))] (by kernel_rfl)
def Q4a (p0 : aF) : aW := aF.obj p0
theorem Q2aq (p0 : aF) : Q4a p0 = ((Q1cj Q1l p0.aG (Q1nv p0) (Q1ci p0.aL))) := by
  first | rfl | kernel_rfl
def Q283 (p0 : aF) : En := .call 18 [.agg (aF.cells p0)] []
def Q1y3 (p0 : aF) : Rs := .ret (.agg (aW.cells (Q4a p0))) []
def Q1gp (p0 : aF) : Prop := aF.sm p0
theorem Q1mm (p0 : aF) (H : Q1gp p0) : (Q1qt p0) ∧ True := by
  exact ⟨(by first | exact True.intro | exact H | exact H.1 | exact H.2.1 | exact H.2.2.1 | exact ⟨H.1, trivial⟩ | exact ⟨H.2.1, trivial⟩), trivial⟩
theorem Q1cv (p0 : aF) (H : Q1gp p0) : Q0 G (Q283 p0) (Q1y3 p0) := by
 unfold Q1y3
 rw [Q2aq]
 exact Q5 (fn := Ir.K3t) (by kernel_rfl) VOK.nil [] [aN (Q2dm p0 (Q1mm p0 H).1), aN (Q211 p0.aL), aN (Q1nz Q1l p0.aG (Q1nv p0) (Q1ci p0.aL))] (by kernel_rfl)
def Q1nt (p0 : bQ) : Val := JobS.enc p0
theorem Q2a8 (p0 : bQ) : Q1nt p0 = ((Q3i ([(Fld.mk Qo (Qt p0.cB)), (Fld.mk Qu (Qt p0.dn)), (Fld.mk Q1q (Qt p0.eu)), (Fld.mk Qk (Qt p0.bY)), (Fld.mk Q21 (Q3n p0.dZ)), (Fld.mk Q1n (Q3n p0.d9)), (Fld.mk Qe (Qom p0.aP))]))) := by
  kernel_rfl
def Q27k (p0 : bQ) : En := .call 100 [.agg (bQ.cells p0)] []
def Q1xj (p0 : bQ) : Rs := .ret (.agg (Val.cells (Q1nt p0))) []
def Q1qn (p0 : bQ) : Prop := JobS.sm p0
theorem Q1mb (p0 : bQ) (H : Q1qn p0) : (Q1gl p0.aP) ∧ True := by
  exact ⟨(by first | exact True.intro | exact H | exact H.1 | exact ⟨H.1, trivial⟩ | exact ⟨H.2.1, trivial⟩), trivial⟩
theorem Q2dg (p0 : bQ) (H : Q1qn p0) : Q0 G (Q27k p0) (Q1xj p0) := by
 unfold Q1xj
 rw [Q2a8]
 exact Q5 (fn := Ir.K2e) (by kernel_rfl) VOK.nil [] [aN (Q45 p0.cB), aN (Q45 p0.dn), aN (Q45 p0.eu), aN (Q45 p0.bY), aN (Qos p0.dZ), aN (Qos p0.d9), aN (Q1s6 p0.aP (Q1mb p0 H).1), aN (Q4o (e' := .call 163 [.sl [(Fld.cells (Fld.mk Qo (Qt p0.cB))), (Fld.cells (Fld.mk Qu (Qt p0.dn))), (Fld.cells (Fld.mk Q1q (Qt p0.eu))), (Fld.cells (Fld.mk Qk (Qt p0.bY))), (Fld.cells (Fld.mk Q21 (Q3n p0.dZ))), (Fld.cells (Fld.mk Q1n (Q3n p0.d9))), (Fld.cells (Fld.mk Qe (Qom p0.aP)))]] []) (Q9l ([(Fld.mk Qo (Qt p0.cB)), (Fld.mk Qu (Qt p0.dn)), (Fld.mk Q1q (Qt p0.eu)), (Fld.mk Qk (Qt p0.bY)), (Fld.mk Q21 (Q3n p0.dZ)), (Fld.mk Q1n (Q3n p0.d9)), (Fld.mk Qe (Qom p0.aP))]) (Nat.le_of_ble_eq_true rfl)) (by simp only [Q8w, Fld.Qm, Fld.Q11]))] (by kernel_rfl)
def Q68 (p0 : List Int) : List Int → Nat → (List Val) → List Val
 | [], _i0, ah =>
  ah
 | x0 :: r0, i0, ah =>
  Q68 p0 r0 (i0 + 1) (ah ++ [(Qt x0)])
theorem Q18o (p0 : List Int) : ∀ (l : List Int) (i : Nat) (a : List Val), Q68 p0 l i a = a ++ l.map (fun x0 => (Qt x0))
  | [], _, _ => by simp [Q68]
  | x :: r, i, a => by rw [Q68, Q18o p0 r]; simp
def Q1fh (p0 : List Int) (i0 : Nat) (ah : List Val) : List PV :=
  [.sl (Q3m p0), .un, .bx 0 0, .ms 1 5 0 (List.length ah), iN (i0 : Int)] ++ nuns 16
def Qz5 (_p0 : List Int) (_i0 : Nat) (ah : List Val) : List Ob :=
  [⟨5, 0, true, [iN 0, iN 0, .str eB, .ms 2 5 0 0, .ms 3 6 0 0]⟩, ⟨5, 0, true, (Val.rows ah).flatten⟩, ⟨5, 0, true, []⟩, ⟨6, 0, true, []⟩]
def Qgx (p0 : List Int) (i0 : Nat) (ah : List Val) : En := .loop 0 Ir.Qkt Ir.Q1or (Q1fh p0 i0 ah) (Qz5 p0 i0 ah)
def Qr5 (_p0 : List Int) (q0 : List Val) (z : Nat → PV) (_zo : Nat → List PV) : St :=
  ⟨[z 0, z 1, .bx 0 0, .ms 1 5 0 (List.length q0)] ++ zr z 4 17, [(0, ⟨5, 0, true, [iN 0, iN 0, .str eB, .ms 2 5 0 0, .ms 3 6 0 0]⟩), (1, ⟨5, 0, true, (Val.rows q0).flatten⟩), (2, ⟨5, 0, true, []⟩), (3, ⟨6, 0, true, []⟩)], 260⟩
theorem Q166 (p0 : List Int) (i0 : Nat) (ah : List Val) : VOK (Go.Pv.look (number 0 (Qz5 p0 i0 ah))) [(1, Val.rows ah)] := (VOK.cons (show Seen _ _ from Q3o (ob := ⟨5, 0, true, (Val.rows ah).flatten⟩) (Val.Q7 ah 5 rfl)) VOK.nil)
def Qiv (p0 : List Int) (e : En) (q : List Val) : Prop := ∃ z zo, Q0 G e (.st (.exit 0) (Qr5 p0 q z zo))
theorem Qw1 (p0 : List Int) {e e' : En} (h : ∀ r, Q0 G e r → Q0 G e' r) : ∀ q, Qiv p0 e q → Qiv p0 e' q
  | _, ⟨z, zo, hz⟩ => ⟨z, zo, h _ hz⟩
def Qi1 (p0 : List Int) : Prop := (List.length p0 ≤ 137438953472) ∧ True
def Qsw (p0 : List Int) (i0 : Nat) (_ah : List Val) : List PV :=
  [.sl (Q3m p0), .un, .un, .un, iN (i0 : Int), iN (i0 : Int), .sl (Q3m p0), iN ((List.length p0) : Int), .bool false]
def Qmm (_p0 : List Int) (_i0 : Nat) (_ah : List Val) : List (Nat × List PV) :=
  []
theorem Q1dy (p0 : List Int) (_H : Qi1 p0) (i0 : Nat) (ah : List Val) (_aT : List.length ah ≤ i0) (bG : (decide ((i0 : Int) < ((List.length p0) : Int))) = false) : Qiv p0 (Qgx p0 i0 ah) ah := by
 exact ⟨(envF (Qsw p0 i0 ah)), (zoF (Qmm p0 i0 ah)), Qd (Q166 p0 i0 ah) (x := ((.exit 0), Qr5 p0 ah (envF (Qsw p0 i0 ah)) (zoF (Qmm p0 i0 ah)))) [hP 2 (Qw _ _ (Q6v p0)), hB 0 bG] [] (by kernel_rfl)⟩
theorem Q1ba (p0 : List Int) (H : Qi1 p0) (x0 : Int) (i0 : Nat) (ah : List Val) (bU : p0[i0]? = some x0) (dG : i0 < List.length p0) (aT : List.length ah ≤ i0) (bG : (decide ((i0 : Int) < ((List.length p0) : Int))) = true) {r : Rs} (hr : Q0 G (Qgx p0 (i0 + 1) (ah ++ [(Qt x0)])) r) : Q0 G (Qgx p0 i0 ah) r := by
 have hB0 := H.1
 exact Qc (Q166 p0 i0 ah) [hP 2 (Qw _ _ (Q6v p0)), hB 0 bG, hP 3 (Q2q 1 _ i0 _ (Qui bU) rfl), hA 3 1 644 708 5 80 0 0 true Val.Q8 Val.Q1g ah (Qt x0) (Val.Qh ah) rfl rfl (by omega), hS 0 true (Val.Q7 (ah ++ [(Qt x0)]) 5 rfl), hP 2 (Q26 i0 (by omega))] [aN (Q45 x0)] hr (by kernel_rfl)
theorem Q123 (p0 : List Int) (H : Qi1 p0) : ∀ (r0 : List Int) (i0 : Nat) (ah : List Val), List.drop i0 p0 = r0 → List.length ah ≤ i0 → Qiv p0 (Qgx p0 i0 ah) (Q68 p0 r0 i0 ah)
 | [], i0, ah, hd, aT => by
  have bG : (decide ((i0 : Int) < ((List.length p0) : Int))) = false := by have := Q1c hd; simp; omega
  rw [Q68]
  exact Q1dy p0 H i0 ah aT bG
 | x0 :: r0, i0, ah, hd, aT => by
  obtain ⟨bU, dG, hd'⟩ := Q19 hd
  have bG : (decide ((i0 : Int) < ((List.length p0) : Int))) = true := by simp; omega
  rw [Q68]
  exact Qw1 p0 (fun r hr => Q1ba p0 H x0 i0 ah bU dG aT bG hr) _ (Q123 p0 H r0 _ _ hd' (by first | omega | (simp; omega)))
def Q1jt (p0 : List Int) : Val := vL (p0.map vN)
theorem Q2a7 (p0 : List Int) : Q1jt p0 = ((Val.mk 4 0 eB (Q68 p0 p0 0 []) [])) := by
  rw [Q18o]
  kernel_rfl
def Q27j (p0 : List Int) : En := .call 195 [.sl (Q3m p0)] []
def Q1xi (p0 : List Int) : Rs := .ret (.agg (Val.cells (Q1jt p0))) []
def Q1qm (p0 : List Int) : Prop := LSm (fun _ : Int => True) p0
theorem Q1ma (p0 : List Int) (H : Q1qm p0) : (Qi1 p0) ∧ True := by
  exact ⟨⟨Nat.le_trans H.1 (Nat.le_of_ble_eq_true rfl), trivial⟩, trivial⟩
theorem Q2df (p0 : List Int) (H : Q1qm p0) : Q0 G (Q27j p0) (Q1xi p0) := by
 unfold Q1xi
 rw [Q2a7]
 have hl0 := Q123 p0 ((Q1ma p0 H).1) p0 0 [] (by simp) (by simp)
 obtain ⟨z0, gq, hl0⟩ := hl0
 exact Q5 (fn := Ir.K2d) (by kernel_rfl) VOK.nil [hS 0 true (Val.Q7 (Q68 p0 p0 0 []) 5 rfl), hQ (Val.Q8 (Q68 p0 p0 0 [])).symm] [aV [(1, Val.rows (Q68 p0 p0 0 []))] hl0] (by kernel_rfl)
def Q1nu (p0 : bQ) : Val := bQ.encT p0
theorem Q2a9 (p0 : bQ) : Q1nu p0 = ((Q3i ([(Fld.mk Q2v (Qt p0.fB)), (Fld.mk Q1s (Qt p0.dK)), (Fld.mk Q1h (Qt p0.bA)), (Fld.mk Q2h (Qt p0.started)), (Fld.mk Q23 (Qt p0.dU)), (Fld.mk Q3y (Q1jt p0.done)), (Fld.mk Q2z (Qt p0.fq))]))) := by
  kernel_rfl
def Q27l (p0 : bQ) : En := .call 101 [.agg (bQ.cells p0)] []
def Q1xk (p0 : bQ) : Rs := .ret (.agg (Val.cells (Q1nu p0))) []
def Q1qo (p0 : bQ) : Prop := bQ.sm p0
theorem Q1mc (p0 : bQ) (H : Q1qo p0) : (Q1qm p0.done) ∧ True := by
  exact ⟨(by first | exact True.intro | exact H | exact H.1 | exact H.2.1 | exact ⟨H.1, trivial⟩ | exact ⟨H.2.1, trivial⟩), trivial⟩
theorem Q2dh (p0 : bQ) (H : Q1qo p0) : Q0 G (Q27l p0) (Q1xk p0) := by
 unfold Q1xk
 rw [Q2a9]
 exact Q5 (fn := Ir.K2f) (by kernel_rfl) VOK.nil [] [aN (Q45 p0.fB), aN (Q45 p0.dK), aN (Q45 p0.bA), aN (Q45 p0.started), aN (Q45 p0.dU), aN (Q2df p0.done (Q1mc p0 H).1), aN (Q45 p0.fq), aN (Q4o (e' := .call 163 [.sl [(Fld.cells (Fld.mk Q2v (Qt p0.fB))), (Fld.cells (Fld.mk Q1s (Qt p0.dK))), (Fld.cells (Fld.mk Q1h (Qt p0.bA))), (Fld.cells (Fld.mk Q2h (Qt p0.started))), (Fld.cells (Fld.mk Q23 (Qt p0.dU))), (Fld.cells (Fld.mk Q3y (Q1jt p0.done))), (Fld.cells (Fld.mk Q2z (Qt p0.fq)))]] []) (Q9l ([(Fld.mk Q2v (Qt p0.fB)), (Fld.mk Q1s (Qt p0.dK)), (Fld.mk Q1h (Qt p0.bA)), (Fld.mk Q2h (Qt p0.started)), (Fld.mk Q23 (Qt p0.dU)), (Fld.mk Q3y (Q1jt p0.done)), (Fld.mk Q2z (Qt p0.fq))]) (Nat.le_of_ble_eq_true rfl)) (by simp only [Q8w, Fld.Qm, Fld.Q11]))] (by kernel_rfl)
def Q4i (p0 : bQ) : aW := bQ.obj p0
theorem Q2ap (p0 : bQ) : Q4i p0 = ((Q1cj Q3c p0.aG (Q1nt p0) (Q1nu p0))) := by
  first | rfl | kernel_rfl
def Q282 (p0 : bQ) : En := .call 19 [.agg (bQ.cells p0)] []
def Q1y2 (p0 : bQ) : Rs := .ret (.agg (aW.cells (Q4i p0))) []
def Q1go (p0 : bQ) : Prop := bQ.sm p0
theorem Q17i (p0 : bQ) (H : Q1go p0) : (Q1qn p0) ∧ (Q1qo p0) ∧ True := by
  exact ⟨(by first | exact True.intro | exact H | exact H.1 | exact H.2.1 | exact ⟨H.1, trivial⟩ | exact ⟨H.2.1, trivial⟩), (by first | exact True.intro | exact H | exact H.1 | exact H.2.1 | exact ⟨H.1, trivial⟩ | exact ⟨H.2.1, trivial⟩), trivial⟩
theorem Q1cu (p0 : bQ) (H : Q1go p0) : Q0 G (Q282 p0) (Q1y2 p0) := by
 unfold Q1y2
 rw [Q2ap]
 exact Q5 (fn := Ir.K3q) (by kernel_rfl) VOK.nil [] [aN (Q2dg p0 (Q17i p0 H).1), aN (Q2dh p0 (Q17i p0 H).2.1), aN (Q1nz Q3c p0.aG (Q1nt p0) (Q1nu p0))] (by kernel_rfl)
def Q66 (p0 : List aJ) : List aJ → Nat → (List Val) → List Val
 | [], _i0, ah =>
  ah
 | x0 :: r0, i0, ah =>
  Q66 p0 r0 (i0 + 1) (ah ++ [(Qfe x0)])
theorem Q18l (p0 : List aJ) : ∀ (l : List aJ) (i : Nat) (a : List Val), Q66 p0 l i a = a ++ l.map (fun x0 => (Qfe x0))
  | [], _, _ => by simp [Q66]
  | x :: r, i, a => by rw [Q66, Q18l p0 r]; simp
def Q1fe (p0 : List aJ) (i0 : Nat) (ah : List Val) : List PV :=
  [.sl (aJ.rows p0), .un, .bx 0 0, .ms 1 5 0 (List.length ah), iN (i0 : Int)] ++ nuns 16
def Qz2 (_p0 : List aJ) (_i0 : Nat) (ah : List Val) : List Ob :=
  [⟨5, 0, true, [iN 0, iN 0, .str eB, .ms 2 5 0 0, .ms 3 6 0 0]⟩, ⟨5, 0, true, (Val.rows ah).flatten⟩, ⟨5, 0, true, []⟩, ⟨6, 0, true, []⟩]
def Qgu (p0 : List aJ) (i0 : Nat) (ah : List Val) : En := .loop 0 Ir.Qkq Ir.Q1oo (Q1fe p0 i0 ah) (Qz2 p0 i0 ah)
def Qr2 (_p0 : List aJ) (q0 : List Val) (z : Nat → PV) (_zo : Nat → List PV) : St :=
  ⟨[z 0, z 1, .bx 0 0, .ms 1 5 0 (List.length q0)] ++ zr z 4 17, [(0, ⟨5, 0, true, [iN 0, iN 0, .str eB, .ms 2 5 0 0, .ms 3 6 0 0]⟩), (1, ⟨5, 0, true, (Val.rows q0).flatten⟩), (2, ⟨5, 0, true, []⟩), (3, ⟨6, 0, true, []⟩)], 260⟩
theorem Q163 (p0 : List aJ) (i0 : Nat) (ah : List Val) : VOK (Go.Pv.look (number 0 (Qz2 p0 i0 ah))) [(1, Val.rows ah)] := (VOK.cons (show Seen _ _ from Q3o (ob := ⟨5, 0, true, (Val.rows ah).flatten⟩) (Val.Q7 ah 5 rfl)) VOK.nil)
def Qis (p0 : List aJ) (e : En) (q : List Val) : Prop := ∃ z zo, Q0 G e (.st (.exit 0) (Qr2 p0 q z zo))
theorem Qvy (p0 : List aJ) {e e' : En} (h : ∀ r, Q0 G e r → Q0 G e' r) : ∀ q, Qis p0 e q → Qis p0 e' q
  | _, ⟨z, zo, hz⟩ => ⟨z, zo, h _ hz⟩
def Qhy (p0 : List aJ) : Prop := (List.length p0 ≤ 137438953472) ∧ True
def Qst (p0 : List aJ) (i0 : Nat) (_ah : List Val) : List PV :=
  [.sl (aJ.rows p0), .un, .un, .un, iN (i0 : Int), iN (i0 : Int), .sl (aJ.rows p0), iN ((List.length p0) : Int), .bool false]
def Qmj (_p0 : List aJ) (_i0 : Nat) (_ah : List Val) : List (Nat × List PV) :=
  []
theorem Q1dv (p0 : List aJ) (_H : Qhy p0) (i0 : Nat) (ah : List Val) (_aT : List.length ah ≤ i0) (bG : (decide ((i0 : Int) < ((List.length p0) : Int))) = false) : Qis p0 (Qgu p0 i0 ah) ah := by
 exact ⟨(envF (Qst p0 i0 ah)), (zoF (Qmj p0 i0 ah)), Qd (Q163 p0 i0 ah) (x := ((.exit 0), Qr2 p0 ah (envF (Qst p0 i0 ah)) (zoF (Qmj p0 i0 ah)))) [hP 2 (Qw _ _ (aJ.Q8 p0)), hB 0 bG] [] (by kernel_rfl)⟩
theorem Q1b7 (p0 : List aJ) (H : Qhy p0) (x0 : aJ) (i0 : Nat) (ah : List Val) (bU : p0[i0]? = some x0) (dG : i0 < List.length p0) (aT : List.length ah ≤ i0) (bG : (decide ((i0 : Int) < ((List.length p0) : Int))) = true) {r : Rs} (hr : Q0 G (Qgu p0 (i0 + 1) (ah ++ [(Qfe x0)])) r) : Q0 G (Qgu p0 i0 ah) r := by
 have hB0 := H.1
 exact Qc (Q163 p0 i0 ah) [hP 2 (Qw _ _ (aJ.Q8 p0)), hB 0 bG, hP 3 (Q2q 2 _ i0 _ (aJ.Qg bU) rfl), hA 3 1 644 708 5 80 0 0 true Val.Q8 Val.Q1g ah (Qfe x0) (Val.Qh ah) rfl rfl (by omega), hS 0 true (Val.Q7 (ah ++ [(Qfe x0)]) 5 rfl), hP 2 (Q26 i0 (by omega))] [aN (Q1s4 x0)] hr (by kernel_rfl)
theorem Q120 (p0 : List aJ) (H : Qhy p0) : ∀ (r0 : List aJ) (i0 : Nat) (ah : List Val), List.drop i0 p0 = r0 → List.length ah ≤ i0 → Qis p0 (Qgu p0 i0 ah) (Q66 p0 r0 i0 ah)
 | [], i0, ah, hd, aT => by
  have bG : (decide ((i0 : Int) < ((List.length p0) : Int))) = false := by have := Q1c hd; simp; omega
  rw [Q66]
  exact Q1dv p0 H i0 ah aT bG
 | x0 :: r0, i0, ah, hd, aT => by
  obtain ⟨bU, dG, hd'⟩ := Q19 hd
  have bG : (decide ((i0 : Int) < ((List.length p0) : Int))) = true := by simp; omega
  rw [Q66]
  exact Qvy p0 (fun r hr => Q1b7 p0 H x0 i0 ah bU dG aT bG hr) _ (Q120 p0 H r0 _ _ hd' (by first | omega | (simp; omega)))
def Q139 (p0 : List aJ) : Val := vL (p0.map aJ.enc)
theorem Q2a1 (p0 : List aJ) : Q139 p0 = ((Val.mk 4 0 eB (Q66 p0 p0 0 []) [])) := by
  rw [Q18l]
  kernel_rfl
def Q27c (p0 : List aJ) : En := .call 196 [.sl (aJ.rows p0)] []
def Q1xb (p0 : List aJ) : Rs := .ret (.agg (Val.cells (Q139 p0))) []
def Q1la (p0 : List aJ) : Prop := LSm aJ.sm p0
theorem Q1m7 (p0 : List aJ) (H : Q1la p0) : (Qhy p0) ∧ True := by
  exact ⟨⟨Nat.le_trans H.1 (Nat.le_of_ble_eq_true rfl), trivial⟩, trivial⟩
theorem Q20z (p0 : List aJ) (H : Q1la p0) : Q0 G (Q27c p0) (Q1xb p0) := by
 unfold Q1xb
 rw [Q2a1]
 have hl0 := Q120 p0 ((Q1m7 p0 H).1) p0 0 [] (by simp) (by simp)
 obtain ⟨z0, gq, hl0⟩ := hl0
 exact Q5 (fn := Ir.K21) (by kernel_rfl) VOK.nil [hS 0 true (Val.Q7 (Q66 p0 p0 0 []) 5 rfl), hQ (Val.Q8 (Q66 p0 p0 0 [])).symm] [aV [(1, Val.rows (Q66 p0 p0 0 []))] hl0] (by kernel_rfl)
def Q1nq (p0 : aQ) : Val := aQ.encS p0
theorem Q2a3 (p0 : aQ) : Q1nq p0 = ((Q3i ([(Fld.mk Q6 (Q4x p0.aR)), (Fld.mk Q16 (Q139 p0.bX)), (Fld.mk Q10 (Q139 p0.bM))]))) := by
  kernel_rfl
def Q27e (p0 : aQ) : En := .call 102 [.agg (aQ.cells p0)] []
def Q1xd (p0 : aQ) : Rs := .ret (.agg (Val.cells (Q1nq p0))) []
def Q1qi (p0 : aQ) : Prop := aQ.sm p0
theorem Qxe (p0 : aQ) (H : Q1qi p0) : (Qv9 p0.aR) ∧ (Q1la p0.bX) ∧ (Q1la p0.bM) ∧ True := by
  exact ⟨(by first | exact True.intro | exact H | exact H.1 | exact H.2.1 | exact H.2.2.1 | exact H.2.2.2.1 | exact ⟨H.1, trivial⟩ | exact ⟨H.2.1, trivial⟩), (by first | exact True.intro | exact H | exact H.1 | exact H.2.1 | exact H.2.2.1 | exact H.2.2.2.1 | exact ⟨H.1, trivial⟩ | exact ⟨H.2.1, trivial⟩), (by first | exact True.intro | exact H | exact H.1 | exact H.2.1 | exact H.2.2.1 | exact H.2.2.2.1 | exact ⟨H.1, trivial⟩ | exact ⟨H.2.1, trivial⟩), trivial⟩
theorem Q2db (p0 : aQ) (H : Q1qi p0) : Q0 G (Q27e p0) (Q1xd p0) := by
 unfold Q1xd
 rw [Q2a3]
 exact Q5 (fn := Ir.K25) (by kernel_rfl) VOK.nil [] [aN (Q159 p0.aR (Qxe p0 H).1), aN (Q20z p0.bX (Qxe p0 H).2.1), aN (Q20z p0.bM (Qxe p0 H).2.2.1), aN (Q4o (e' := .call 163 [.sl [(Fld.cells (Fld.mk Q6 (Q4x p0.aR))), (Fld.cells (Fld.mk Q16 (Q139 p0.bX))), (Fld.cells (Fld.mk Q10 (Q139 p0.bM)))]] []) (Q9l ([(Fld.mk Q6 (Q4x p0.aR)), (Fld.mk Q16 (Q139 p0.bX)), (Fld.mk Q10 (Q139 p0.bM))]) (Nat.le_of_ble_eq_true rfl)) (by simp only [Q8w, Fld.Qm, Fld.Q11]))] (by kernel_rfl)
def Q58 (p0 : aQ) : List aK → Nat → (List Val) → List Val
 | [], _i0, ah =>
  ah
 | x0 :: r0, i0, ah =>
  Q58 p0 r0 (i0 + 1) (ah ++ [(Q3i ([(Fld.mk Q13 (Q2m x0.key)), (Fld.mk Q7g (Qt x0.at_))]))])
theorem Q18m (p0 : aQ) : ∀ (l : List aK) (i : Nat) (a : List Val), Q58 p0 l i a = a ++ l.map (fun x0 => (Q3i ([(Fld.mk Q13 (Q2m x0.key)), (Fld.mk Q7g (Qt x0.at_))])))
  | [], _, _ => by simp [Q58]
  | x :: r, i, a => by rw [Q58, Q18m p0 r]; simp
def Q1ff (_p0 : aQ) (i0 : Nat) (ah : List Val) : List PV :=
  [.un, .bx 0 0, .bx 1 0, .ms 2 5 0 (List.length ah), iN (i0 : Int)] ++ nuns 53
def Qz3 (p0 : aQ) (_i0 : Nat) (ah : List Val) : List Ob :=
  [⟨22, 0, true, (aQ.cells p0)⟩, ⟨5, 0, true, [iN 0, iN 0, .str eB, .ms 3 5 0 0, .ms 4 6 0 0]⟩, ⟨5, 0, true, (Val.rows ah).flatten⟩, ⟨5, 0, true, []⟩, ⟨6, 0, true, []⟩]
def Qgv (p0 : aQ) (i0 : Nat) (ah : List Val) : En := .loop 0 Ir.Qkr Ir.Q1op (Q1ff p0 i0 ah) (Qz3 p0 i0 ah)
def Qr3 (p0 : aQ) (q0 : List Val) (z : Nat → PV) (_zo : Nat → List PV) : St :=
  ⟨[z 0, .bx 0 0, .bx 1 0, .ms 2 5 0 (List.length q0)] ++ zr z 4 54, [(0, ⟨22, 0, true, (aQ.cells p0)⟩), (1, ⟨5, 0, true, [iN 0, iN 0, .str eB, .ms 3 5 0 0, .ms 4 6 0 0]⟩), (2, ⟨5, 0, true, (Val.rows q0).flatten⟩), (3, ⟨5, 0, true, []⟩), (4, ⟨6, 0, true, []⟩)], 325⟩
theorem Q164 (p0 : aQ) (i0 : Nat) (ah : List Val) : VOK (Go.Pv.look (number 0 (Qz3 p0 i0 ah))) [(2, Val.rows ah)] := (VOK.cons (show Seen _ _ from Q3o (ob := ⟨5, 0, true, (Val.rows ah).flatten⟩) (Val.Q7 ah 5 rfl)) VOK.nil)
def Qit (p0 : aQ) (e : En) (q : List Val) : Prop := ∃ z zo, Q0 G e (.st (.exit 0) (Qr3 p0 q z zo))
theorem Qvz (p0 : aQ) {e e' : En} (h : ∀ r, Q0 G e r → Q0 G e' r) : ∀ q, Qit p0 e q → Qit p0 e' q
  | _, ⟨z, zo, hz⟩ => ⟨z, zo, h _ hz⟩
def Qhz (p0 : aQ) : Prop := (List.length p0.bN ≤ 137438953472) ∧ True
def Qsu (p0 : aQ) (i0 : Nat) (_ah : List Val) : List PV :=
  [.un, .un, .un, .un, iN (i0 : Int), iN (i0 : Int), .bx 0 21, .sl (aK.rows p0.bN), iN ((List.length p0.bN) : Int), .bool false]
def Qmk (_p0 : aQ) (_i0 : Nat) (_ah : List Val) : List (Nat × List PV) :=
  []
theorem Q1dw (p0 : aQ) (_H : Qhz p0) (i0 : Nat) (ah : List Val) (_aT : List.length ah ≤ i0) (bG : (decide ((i0 : Int) < ((List.length p0.bN) : Int))) = false) : Qit p0 (Qgv p0 i0 ah) ah := by
 exact ⟨(envF (Qsu p0 i0 ah)), (zoF (Qmk p0 i0 ah)), Qd (Q164 p0 i0 ah) (x := ((.exit 0), Qr3 p0 ah (envF (Qsu p0 i0 ah)) (zoF (Qmk p0 i0 ah)))) [hP 3 (Qw _ _ (aK.Q8 p0.bN)), hB 0 bG] [] (by kernel_rfl)⟩
theorem Q1b8 (p0 : aQ) (H : Qhz p0) (x0 : aK) (i0 : Nat) (ah : List Val) (bU : p0.bN[i0]? = some x0) (dG : i0 < List.length p0.bN) (aT : List.length ah ≤ i0) (bG : (decide ((i0 : Int) < ((List.length p0.bN) : Int))) = true) {r : Rs} (hr : Q0 G (Qgv p0 (i0 + 1) (ah ++ [(Q3i ([(Fld.mk Q13 (Q2m x0.key)), (Fld.mk Q7g (Qt x0.at_))]))])) r) : Q0 G (Qgv p0 i0 ah) r := by
 have hB0 := H.1
 exact Qc (Q164 p0 i0 ah) [hP 3 (Qw _ _ (aK.Q8 p0.bN)), hB 0 bG, hP 4 (Q2q 2 _ i0 _ (aK.Qg bU) rfl), hP 7 (Q2q 2 _ i0 _ (aK.Qg bU) rfl), hA 7 2 1541 1605 5 80 0 0 true Val.Q8 Val.Q1g ah (Q3i ([(Fld.mk Q13 (Q2m x0.key)), (Fld.mk Q7g (Qt x0.at_))])) (Val.Qh ah) rfl rfl (by omega), hS 0 true (Val.Q7 (ah ++ [(Q3i ([(Fld.mk Q13 (Q2m x0.key)), (Fld.mk Q7g (Qt x0.at_))]))]) 5 rfl), hP 2 (Q26 i0 (by omega))] [aN (Qgc x0.key), aN (Q45 x0.at_), aN (Q4o (e' := .call 163 [.sl [(Fld.cells (Fld.mk Q13 (Q2m x0.key))), (Fld.cells (Fld.mk Q7g (Qt x0.at_)))]] []) (Q9l ([(Fld.mk Q13 (Q2m x0.key)), (Fld.mk Q7g (Qt x0.at_))]) (Nat.le_of_ble_eq_true rfl)) (by simp only [Q8w, Fld.Qm, Fld.Q11]))] hr (by kernel_rfl)
theorem Q121 (p0 : aQ) (H : Qhz p0) : ∀ (r0 : List aK) (i0 : Nat) (ah : List Val), List.drop i0 p0.bN = r0 → List.length ah ≤ i0 → Qit p0 (Qgv p0 i0 ah) (Q58 p0 r0 i0 ah)
 | [], i0, ah, hd, aT => by
  have bG : (decide ((i0 : Int) < ((List.length p0.bN) : Int))) = false := by have := Q1c hd; simp; omega
  rw [Q58]
  exact Q1dw p0 H i0 ah aT bG
 | x0 :: r0, i0, ah, hd, aT => by
  obtain ⟨bU, dG, hd'⟩ := Q19 hd
  have bG : (decide ((i0 : Int) < ((List.length p0.bN) : Int))) = true := by simp; omega
  rw [Q58]
  exact Qvz p0 (fun r hr => Q1b8 p0 H x0 i0 ah bU dG aT bG hr) _ (Q121 p0 H r0 _ _ hd' (by first | omega | (simp; omega)))
def Q1nr (p0 : aQ) : Val := aQ.encT p0
theorem Q2a4 (p0 : aQ) : Q1nr p0 = ((Q3i ([(Fld.mk Ql (Qt p0.bV)), (Fld.mk Q2f (Qt p0.eO)), (Fld.mk Q2e (Qt p0.eF)), (Fld.mk Q22 (Qt p0.dX)), (Fld.mk Q2d (Qt p0.eD)), (Fld.mk Q1r (Val.mk 4 0 eB (Q58 p0 p0.bN 0 []) []))]))) := by
  simp only [Q18m]
  kernel_rfl
def Q27f (p0 : aQ) : En := .call 103 [.agg (aQ.cells p0)] []
def Q1xe (p0 : aQ) : Rs := .ret (.agg (Val.cells (Q1nr p0))) []
def Q1qj (p0 : aQ) : Prop := aQ.sm p0
theorem Q1m8 (p0 : aQ) (H : Q1qj p0) : (Qhz p0) ∧ True := by
  exact ⟨⟨Nat.le_trans H.2.2.2.1.1 (Nat.le_of_ble_eq_true rfl), trivial⟩, trivial⟩
theorem Q2dc (p0 : aQ) (H : Q1qj p0) : Q0 G (Q27f p0) (Q1xe p0) := by
 unfold Q1xe
 rw [Q2a4]
 have hl0 := Q121 p0 ((Q1m8 p0 H).1) p0.bN 0 [] (by simp) (by simp)
 obtain ⟨z0, gq, hl0⟩ := hl0
 exact Q5 (fn := Ir.K26) (by kernel_rfl) VOK.nil [hS 0 true (Val.Q7 (Q58 p0 p0.bN 0 []) 5 rfl), hQ (Val.Q8 (Q58 p0 p0.bN 0 [])).symm] [aV [(2, Val.rows (Q58 p0 p0.bN 0 []))] hl0, aN (Q45 p0.bV), aN (Q45 p0.eO), aN (Q45 p0.eF), aN (Q45 p0.dX), aN (Q45 p0.eD), aN (Q4o (e' := .call 163 [.sl [(Fld.cells (Fld.mk Ql (Qt p0.bV))), (Fld.cells (Fld.mk Q2f (Qt p0.eO))), (Fld.cells (Fld.mk Q2e (Qt p0.eF))), (Fld.cells (Fld.mk Q22 (Qt p0.dX))), (Fld.cells (Fld.mk Q2d (Qt p0.eD))), (Fld.cells (Fld.mk Q1r (Val.mk 4 0 eB (Q58 p0 p0.bN 0 []) [])))]] []) (Q9l ([(Fld.mk Ql (Qt p0.bV)), (Fld.mk Q2f (Qt p0.eO)), (Fld.mk Q2e (Qt p0.eF)), (Fld.mk Q22 (Qt p0.dX)), (Fld.mk Q2d (Qt p0.eD)), (Fld.mk Q1r (Val.mk 4 0 eB (Q58 p0 p0.bN 0 []) []))]) (Nat.le_of_ble_eq_true rfl)) (by simp only [Q8w, Fld.Qm, Fld.Q11]))] (by kernel_rfl)
def Q4p (p0 : aQ) : aW := aQ.obj p0
theorem Q2an (p0 : aQ) : Q4p p0 = ((Q1cj Q2u p0.aG (Q1nq p0) (Q1nr p0))) := by
  first | rfl | kernel_rfl
def Q280 (p0 : aQ) : En := .call 20 [.agg (aQ.cells p0)] []
def Q1y0 (p0 : aQ) : Rs := .ret (.agg (aW.cells (Q4p p0))) []
def Q1gm (p0 : aQ) : Prop := aQ.sm p0
theorem Q17h (p0 : aQ) (H : Q1gm p0) : (Q1qi p0) ∧ (Q1qj p0) ∧ True := by
  exact ⟨(by first | exact True.intro | exact H | exact H.1 | exact H.2.1 | exact H.2.2.1 | exact H.2.2.2.1 | exact ⟨H.1, trivial⟩ | exact ⟨H.2.1, trivial⟩), (by first | exact True.intro | exact H | exact H.1 | exact H.2.1 | exact H.2.2.1 | exact H.2.2.2.1 | exact ⟨H.1, trivial⟩ | exact ⟨H.2.1, trivial⟩), trivial⟩
theorem Q1cs (p0 : aQ) (H : Q1gm p0) : Q0 G (Q280 p0) (Q1y0 p0) := by
 unfold Q1y0
 rw [Q2an]
 exact Q5 (fn := Ir.K3l) (by kernel_rfl) VOK.nil [] [aN (Q2db p0 (Q17h p0 H).1), aN (Q2dc p0 (Q17h p0 H).2.1), aN (Q1nz Q2u p0.aG (Q1nq p0) (Q1nr p0))] (by kernel_rfl)
end Go.Proofs.YtimjjohlpnkacaaGreat
end

section
/- What the reference's encoders compute (printed by a program). -/
namespace Go.Proofs.YtimjjohlpnkacaaGreat
open Go.Pv
end Go.Proofs.YtimjjohlpnkacaaGreat
end

section
/- Equality of metadata and objects that are the same; what is small (printed by a program). -/
namespace Go.Proofs.YtimjjohlpnkacaaGreat
open Go.Pv
def Q1rz (p0 : BA) (p1 : BA) (p2 : BA) : ByteArray :=
 ((((p0 ++ (⟨#[47]⟩ : BA)) ++ p1) ++ (⟨#[47]⟩ : BA)) ++ p2)
def Q277 (p0 : BA) (p1 : BA) (p2 : BA) : En := .call 199 [.str p0, .str p1, .str p2] []
def Q1x6 (p0 : BA) (p1 : BA) (p2 : BA) : Rs := .ret (.str (Q1rz p0 p1 p2)) []
def Q1w2 (p0 : BA) (p1 : BA) (p2 : BA) : Prop := (ByteArray.size p0 + ByteArray.size (⟨#[47]⟩ : BA) ≤ 9223372036854775807) ∧ (ByteArray.size (p0 ++ (⟨#[47]⟩ : BA)) + ByteArray.size p1 ≤ 9223372036854775807) ∧ (ByteArray.size ((p0 ++ (⟨#[47]⟩ : BA)) ++ p1) + ByteArray.size (⟨#[47]⟩ : BA) ≤ 9223372036854775807) ∧ (ByteArray.size (((p0 ++ (⟨#[47]⟩ : BA)) ++ p1) ++ (⟨#[47]⟩ : BA)) + ByteArray.size p2 ≤ 9223372036854775807) ∧ True
theorem Q2da (p0 : BA) (p1 : BA) (p2 : BA) (H : Q1w2 p0 p1 p2) : Q0 G (Q277 p0 p1 p2) (Q1x6 p0 p1 p2) := by
 unfold Q1x6 Q1rz
 exact Q5 (fn := Ir.K1w) (by kernel_rfl) VOK.nil [hP 2 (Q16v p0 (⟨#[47]⟩ : BA) H.1), hP 1 (Q16v (p0 ++ (⟨#[47]⟩ : BA)) p1 H.2.1), hP 0 (Q16v ((p0 ++ (⟨#[47]⟩ : BA)) ++ p1) (⟨#[47]⟩ : BA) H.2.2.1), hP 1 (Q16v (((p0 ++ (⟨#[47]⟩ : BA)) ++ p1) ++ (⟨#[47]⟩ : BA)) p2 H.2.2.2.1)] [] (by kernel_rfl)
def Q1np (p0 : bJ) : ByteArray :=
 (Q1rz p0.kind p0.bK p0.name)
def Q278 (p0 : bJ) : En := .call 119 [.agg (bJ.cells p0)] []
def Q1x7 (p0 : bJ) : Rs := .ret (.str (Q1np p0)) []
def Q1w3 (p0 : bJ) : Prop := (Q1w2 p0.kind p0.bK p0.name) ∧ True
theorem Q20x (p0 : bJ) (H : Q1w3 p0) : Q0 G (Q278 p0) (Q1x7 p0) := by
 unfold Q1x7 Q1np
 exact Q5 (fn := Ir.K1x) (by kernel_rfl) VOK.nil [] [aN (Q2da p0.kind p0.bK p0.name H.1)] (by kernel_rfl)
def Q180 (p0 : bJ) : List aX → Nat → Unit
 | [], _i0 =>
  ()
 | _x0 :: r0, i0 =>
  Q180 p0 r0 (i0 + 1)
def Q1fa (_p0 : bJ) (i0 : Nat) : List PV :=
  [.un, .un, .bx 0 0, .bx 1 0, .un, iN (i0 : Int)] ++ nuns 168
def Q1gf (p0 : bJ) (_i0 : Nat) : List Ob :=
  [⟨13, 0, true, (bJ.cells p0)⟩, ⟨13, 0, true, (bJ.cells p0)⟩]
def Qgq (p0 : bJ) (i0 : Nat) : En := .loop 0 Ir.Qkm Ir.Q1ok (Q1fa p0 i0) (Q1gf p0 i0)
def Qqy (p0 : bJ) (z : Nat → PV) (_zo : Nat → List PV) : St :=
  ⟨[z 0, z 1, .bx 0 0, .bx 1 0] ++ zr z 4 170, [(0, ⟨13, 0, true, (bJ.cells p0)⟩), (1, ⟨13, 0, true, (bJ.cells p0)⟩)], 322⟩
def Qbo (p0 : bJ) (e : En) (_q : Unit) : Prop := ∃ z zo, Q0 G e (.st (.exit 0) (Qqy p0 z zo))
theorem Qvu (p0 : bJ) {e e' : En} (h : ∀ r, Q0 G e r → Q0 G e' r) : ∀ q, Qbo p0 e q → Qbo p0 e' q
  | _, ⟨z, zo, hz⟩ => ⟨z, zo, h _ hz⟩
def Qhu (p0 : bJ) : Prop := (List.length p0.bH ≤ 4611686018427387904) ∧ True
def Qsp (p0 : bJ) (i0 : Nat) : List PV :=
  nuns 5 ++ [iN (i0 : Int)] ++ nuns 96 ++ [iN (i0 : Int), .bx 0 9, .sl (aX.rows p0.bH), iN ((List.length p0.bH) : Int), .bool false]
def Qmf (_p0 : bJ) (_i0 : Nat) : List (Nat × List PV) :=
  []
theorem Q1dr (p0 : bJ) (_H : Qhu p0) (i0 : Nat) (bG : (decide ((i0 : Int) < ((List.length p0.bH) : Int))) = false) : Qbo p0 (Qgq p0 i0) () := by
 exact ⟨(envF (Qsp p0 i0)), (zoF (Qmf p0 i0)), Qd VOK.nil (x := ((.exit 0), Qqy p0 (envF (Qsp p0 i0)) (zoF (Qmf p0 i0)))) [hP 3 (Qw _ _ (aX.Q8 p0.bH)), hB 0 bG] [] (by kernel_rfl)⟩
theorem Q1b3 (p0 : bJ) (H : Qhu p0) (x0 : aX) (i0 : Nat) (bU : p0.bH[i0]? = some x0) (dG : i0 < List.length p0.bH) (bG : (decide ((i0 : Int) < ((List.length p0.bH) : Int))) = true) {r : Rs} (hr : Q0 G (Qgq p0 (i0 + 1)) r) : Q0 G (Qgq p0 i0) r := by
 have hB0 := H.1
 exact Qc VOK.nil [hP 3 (Qw _ _ (aX.Q8 p0.bH)), hB 0 bG, hP 3 (Q2q 2 _ i0 _ (aX.Qg bU) rfl), hP 4 (Q2q 2 _ i0 _ (aX.Qg bU) rfl), hP 1 (dec (!((sEq x0.key x0.key) && ((sEq x0.value x0.value) && true))) false (by rw [(and_tt (Q4u.2 rfl) (and_tt (Q4u.2 rfl) rfl))]; rfl)), hP 1 (Q26 i0 (by omega))] [] hr (by kernel_rfl)
theorem Q11w (p0 : bJ) (H : Qhu p0) : ∀ (r0 : List aX) (i0 : Nat), List.drop i0 p0.bH = r0 → Qbo p0 (Qgq p0 i0) (Q180 p0 r0 i0)
 | [], i0, hd => by
  have bG : (decide ((i0 : Int) < ((List.length p0.bH) : Int))) = false := by have := Q1c hd; simp; omega
  show Qbo p0 _ ()
  exact Q1dr p0 H i0 bG
 | x0 :: r0, i0, hd => by
  obtain ⟨bU, dG, hd'⟩ := Q19 hd
  have bG : (decide ((i0 : Int) < ((List.length p0.bH) : Int))) = true := by simp; omega
  show Qbo p0 _ ()
  exact Qvu p0 (fun r hr => Q1b3 p0 H x0 i0 bU dG bG hr) _ (Q11w p0 H r0 _ hd')
def Q181 (p0 : bJ) : List cu → Nat → Unit
 | [], _i1 =>
  ()
 | _x1 :: r1, i1 =>
  Q181 p0 r1 (i1 + 1)
def Q1fb (_p0 : bJ) (i1 : Nat) : List PV :=
  [.un, .un, .bx 0 0, .bx 1 0, .un, .un, iN (i1 : Int)] ++ nuns 167
def Q1gg (p0 : bJ) (_i1 : Nat) : List Ob :=
  [⟨13, 0, true, (bJ.cells p0)⟩, ⟨13, 0, true, (bJ.cells p0)⟩]
def Qgr (p0 : bJ) (i1 : Nat) : En := .loop 0 Ir.Qkn Ir.Q1ol (Q1fb p0 i1) (Q1gg p0 i1)
def Qqz (p0 : bJ) (z : Nat → PV) (_zo : Nat → List PV) : St :=
  ⟨[z 0, z 1, .bx 0 0, .bx 1 0] ++ zr z 4 170, [(0, ⟨13, 0, true, (bJ.cells p0)⟩), (1, ⟨13, 0, true, (bJ.cells p0)⟩)], 322⟩
def Qbp (p0 : bJ) (e : En) (_q : Unit) : Prop := ∃ z zo, Q0 G e (.st (.exit 2) (Qqz p0 z zo))
theorem Qvv (p0 : bJ) {e e' : En} (h : ∀ r, Q0 G e r → Q0 G e' r) : ∀ q, Qbp p0 e q → Qbp p0 e' q
  | _, ⟨z, zo, hz⟩ => ⟨z, zo, h _ hz⟩
def Qhv (p0 : bJ) : Prop := (List.length p0.bT ≤ 4611686018427387904) ∧ True
def Qsq (p0 : bJ) (i1 : Nat) : List PV :=
  nuns 6 ++ [iN (i1 : Int)] ++ nuns 113 ++ [iN (i1 : Int), .bx 0 10, .sl (cu.rows p0.bT), iN ((List.length p0.bT) : Int), .bool false]
def Qmg (_p0 : bJ) (_i1 : Nat) : List (Nat × List PV) :=
  []
theorem Q1ds (p0 : bJ) (_H : Qhv p0) (i1 : Nat) (hc1 : (decide ((i1 : Int) < ((List.length p0.bT) : Int))) = false) : Qbp p0 (Qgr p0 i1) () := by
 exact ⟨(envF (Qsq p0 i1)), (zoF (Qmg p0 i1)), Qd VOK.nil (x := ((.exit 2), Qqz p0 (envF (Qsq p0 i1)) (zoF (Qmg p0 i1)))) [hP 3 (Qw _ _ (cu.Q8 p0.bT)), hB 0 hc1] [] (by kernel_rfl)⟩
theorem Q1b4 (p0 : bJ) (H : Qhv p0) (x1 : cu) (i1 : Nat) (gQ : p0.bT[i1]? = some x1) (iF : i1 < List.length p0.bT) (hc1 : (decide ((i1 : Int) < ((List.length p0.bT) : Int))) = true) {r : Rs} (hr : Q0 G (Qgr p0 (i1 + 1)) r) : Q0 G (Qgr p0 i1) r := by
 have hB0 := H.1
 exact Qc VOK.nil [hP 3 (Qw _ _ (cu.Q8 p0.bT)), hB 0 hc1, hP 3 (Q2q 5 _ i1 _ (cu.Qg gQ) rfl), hP 4 (Q2q 5 _ i1 _ (cu.Qg gQ) rfl), hP 1 (dec (!((sEq x1.kind x1.kind) && ((sEq x1.name x1.name) && ((x1.gM == x1.gM) && ((x1.gL == x1.gL) && ((x1.block == x1.block) && true)))))) false (by rw [(and_tt (Q4u.2 rfl) (and_tt (Q4u.2 rfl) (and_tt (beq_self_eq_true _) (and_tt (beq_self_eq_true _) (and_tt (beq_self_eq_true _) rfl)))))]; rfl)), hP 1 (Q26 i1 (by omega))] [] hr (by kernel_rfl)
theorem Q11x (p0 : bJ) (H : Qhv p0) : ∀ (r1 : List cu) (i1 : Nat), List.drop i1 p0.bT = r1 → Qbp p0 (Qgr p0 i1) (Q181 p0 r1 i1)
 | [], i1, hd => by
  have hc1 : (decide ((i1 : Int) < ((List.length p0.bT) : Int))) = false := by have := Q1c hd; simp; omega
  show Qbp p0 _ ()
  exact Q1ds p0 H i1 hc1
 | x1 :: r1, i1, hd => by
  obtain ⟨gQ, iF, hd'⟩ := Q19 hd
  have hc1 : (decide ((i1 : Int) < ((List.length p0.bT) : Int))) = true := by simp; omega
  show Qbp p0 _ ()
  exact Qvv p0 (fun r hr => Q1b4 p0 H x1 i1 gQ iF hc1 hr) _ (Q11x p0 H r1 _ hd')
def Q182 (p0 : bJ) : List bB → Nat → Unit
 | [], _i2 =>
  ()
 | _x2 :: r2, i2 =>
  Q182 p0 r2 (i2 + 1)
def Q1fc (_p0 : bJ) (i2 : Nat) : List PV :=
  [.un, .un, .bx 0 0, .bx 1 0, .un, .un, .un, iN (i2 : Int)] ++ nuns 166
def Q1gh (p0 : bJ) (_i2 : Nat) : List Ob :=
  [⟨13, 0, true, (bJ.cells p0)⟩, ⟨13, 0, true, (bJ.cells p0)⟩]
def Qgs (p0 : bJ) (i2 : Nat) : En := .loop 0 Ir.Qko Ir.Q1om (Q1fc p0 i2) (Q1gh p0 i2)
def Qr0 (p0 : bJ) (z : Nat → PV) (_zo : Nat → List PV) : St :=
  ⟨zr z 0 174, [(0, ⟨13, 0, true, (bJ.cells p0)⟩), (1, ⟨13, 0, true, (bJ.cells p0)⟩)], 322⟩
def Qbq (p0 : bJ) (e : En) (_q : Unit) : Prop := ∃ z zo, Q0 G e (.st (.exit 4) (Qr0 p0 z zo))
theorem Qvw (p0 : bJ) {e e' : En} (h : ∀ r, Q0 G e r → Q0 G e' r) : ∀ q, Qbq p0 e q → Qbq p0 e' q
  | _, ⟨z, zo, hz⟩ => ⟨z, zo, h _ hz⟩
def Qhw (p0 : bJ) : Prop := (List.length p0.aZ ≤ 4611686018427387904) ∧ (∀ x2 ∈ p0.aZ, Q1qh x2.fields) ∧ True
def Qsr (p0 : bJ) (i2 : Nat) : List PV :=
  [.un, .un, .bx 0 0, .bx 1 0, .un, .un, .un, iN (i2 : Int)] ++ nuns 130 ++ [iN (i2 : Int), .bx 0 12, .sl (bB.rows p0.aZ), iN ((List.length p0.aZ) : Int), .bool false]
def Qmh (_p0 : bJ) (_i2 : Nat) : List (Nat × List PV) :=
  []
theorem Q1dt (p0 : bJ) (_H : Qhw p0) (i2 : Nat) (hc2 : (decide ((i2 : Int) < ((List.length p0.aZ) : Int))) = false) : Qbq p0 (Qgs p0 i2) () := by
 exact ⟨(envF (Qsr p0 i2)), (zoF (Qmh p0 i2)), Qd VOK.nil (x := ((.exit 4), Qr0 p0 (envF (Qsr p0 i2)) (zoF (Qmh p0 i2)))) [hP 3 (Qw _ _ (bB.Q8 p0.aZ)), hB 0 hc2] [] (by kernel_rfl)⟩
theorem Q1b5 (p0 : bJ) (H : Qhw p0) (x2 : bB) (i2 : Nat) (iW : p0.aZ[i2]? = some x2) (jm : i2 < List.length p0.aZ) (hc2 : (decide ((i2 : Int) < ((List.length p0.aZ) : Int))) = true) {r : Rs} (hr : Q0 G (Qgs p0 (i2 + 1)) r) : Q0 G (Qgs p0 i2) r := by
 have hB0 := H.1
 exact Qc VOK.nil [hP 3 (Qw _ _ (bB.Q8 p0.aZ)), hB 0 hc2, hP 3 (Q2q 2 _ i2 _ (bB.Qg iW) rfl), hP 5 (Q2q 2 _ i2 _ (bB.Qg iW) rfl), hP 2 (dec (!(sEq x2.name x2.name)) false (by rw [(Q4u.2 rfl)]; rfl)), hP 4 (Q2q 2 _ i2 _ (bB.Qg iW) rfl), hP 5 (Q2q 2 _ i2 _ (bB.Qg iW) rfl), hP 6 (Q26 i2 (by omega))] [aN (Q65 (c := fun y => .call 120 [.sl (Q18 x2.fields), .sl (Q18 y)] []) rfl (Q20y x2.fields (H.2.1 x2 (Q2l iW))))] hr (by kernel_rfl)
theorem Q11y (p0 : bJ) (H : Qhw p0) : ∀ (r2 : List bB) (i2 : Nat), List.drop i2 p0.aZ = r2 → Qbq p0 (Qgs p0 i2) (Q182 p0 r2 i2)
 | [], i2, hd => by
  have hc2 : (decide ((i2 : Int) < ((List.length p0.aZ) : Int))) = false := by have := Q1c hd; simp; omega
  show Qbq p0 _ ()
  exact Q1dt p0 H i2 hc2
 | x2 :: r2, i2, hd => by
  obtain ⟨iW, jm, hd'⟩ := Q19 hd
  have hc2 : (decide ((i2 : Int) < ((List.length p0.aZ) : Int))) = true := by simp; omega
  show Qbq p0 _ ()
  exact Qvw p0 (fun r hr => Q1b5 p0 H x2 i2 iW jm hc2 hr) _ (Q11y p0 H r2 _ hd')
def Q20p (_p0 : bJ) : Bool :=
 true
def Q279 (p0 : bJ) : En := .call 27 [.agg (bJ.cells p0), .agg (bJ.cells p0)] []
def Q1x8 (p0 : bJ) : Rs := .ret (.bool (Q20p p0)) []
def Q13k (p0 : bJ) : Prop := (Q1w3 p0) ∧ (Q1qh p0.bF) ∧ (Qhu p0) ∧ (Qhv p0) ∧ (Qhw p0) ∧ True
theorem Q1kh (p0 : bJ) (H : Q13k p0) : Q0 G (Q279 p0) (Q1x8 p0) := by
 unfold Q1x8 Q20p
 have hl0 := Q11w p0 (H.2.2.1) p0.bH 0 (by simp)
 obtain ⟨z0, gq, hl0⟩ := hl0
 have hl1 := Q11x p0 (H.2.2.2.1) p0.bT 0 (by simp)
 obtain ⟨z1, iR, hl1⟩ := hl1
 have hl2 := Q11y p0 (H.2.2.2.2.1) p0.aZ 0 (by simp)
 obtain ⟨z2, zo2, hl2⟩ := hl2
 exact Q5 (fn := Ir.K1y) (by kernel_rfl) VOK.nil [hP 7 (dec (!(sEq (Q1np p0) (Q1np p0))) false (by rw [(Q4u.2 rfl)]; rfl)), hP 5 (dec (!(sEq p0.kind p0.kind)) false (by rw [(Q4u.2 rfl)]; rfl)), hP 6 (dec (!(sEq p0.bK p0.bK)) false (by rw [(Q4u.2 rfl)]; rfl)), hP 6 (dec (!(p0.gM == p0.gM)) false (by rw [(beq_self_eq_true _)]; rfl)), hP 6 (dec (!(p0.dA == p0.dA)) false (by rw [(beq_self_eq_true _)]; rfl)), hP 6 (dec (!(p0.bR == p0.bR)) false (by rw [(beq_self_eq_true _)]; rfl)), hP 6 (dec (!(p0.dz == p0.dz)) false (by rw [(beq_self_eq_true _)]; rfl)), hP 6 (dec (!(p0.dh == p0.dh)) false (by rw [(beq_self_eq_true _)]; rfl)), hP 6 (dec (!(p0.cZ == p0.cZ)) false (by rw [(beq_self_eq_true _)]; rfl)), hP 3 (Qw _ _ (aX.Q8 p0.bH)), hP 2 (Qw _ _ (aX.Q8 p0.bH)), hP 0 (dec (!(((List.length p0.bH) : Int) == ((List.length p0.bH) : Int))) false (by rw [(beq_self_eq_true _)]; rfl)), hP 3 (Qw _ _ (cu.Q8 p0.bT)), hP 2 (Qw _ _ (cu.Q8 p0.bT)), hP 0 (dec (!(((List.length p0.bT) : Int) == ((List.length p0.bT) : Int))) false (by rw [(beq_self_eq_true _)]; rfl)), hP 4 (Qw _ _ (bB.Q8 p0.aZ)), hP 2 (Qw _ _ (bB.Q8 p0.aZ)), hP 0 (dec (!(((List.length p0.aZ) : Int) == ((List.length p0.aZ) : Int))) false (by rw [(beq_self_eq_true _)]; rfl))] [aN (Q20x p0 H.1), aN (Q20x p0 H.1), aN (Q65 (c := fun y => .call 120 [.sl (Q18 p0.bF), .sl (Q18 y)] []) rfl (Q20y p0.bF H.2.1)), aN hl0, aN hl1, aN hl2] (by kernel_rfl)
def Q20o (_p0 : aW) : Bool :=
 true
def Q276 (p0 : aW) : En := .call 17 [.agg (aW.cells p0), .agg (aW.cells p0)] []
def Q1x5 (p0 : aW) : Rs := .ret (.bool (Q20o p0)) []
def Qp0 (p0 : aW) : Prop := (Q13k p0.aG) ∧ (Q1qf p0.aS) ∧ (Q1qf p0.aL) ∧ True
theorem Q1ny (p0 : aW) (H : Qp0 p0) : Q0 G (Q276 p0) (Q1x5 p0) := by
 unfold Q1x5 Q20o
 exact Q5 (fn := Ir.K1v) (by kernel_rfl) VOK.nil [] [aN (Q65 (c := fun y => .call 27 [.agg (bJ.cells p0.aG), .agg (bJ.cells y)] []) rfl (Q1kh p0.aG H.1)), aN (Q65 (c := fun y => .call 98 [.agg (Val.cells p0.aS), .agg (Val.cells y)] []) rfl (Q20w p0.aS H.2.1)), aN (Q65 (c := fun y => .call 98 [.agg (Val.cells p0.aL), .agg (Val.cells y)] []) rfl (Q20w p0.aL H.2.2.1))] (by kernel_rfl)
inductive Q1gz where
  | k0
  | k1
def Qcl (p0 : aW) : List bB → Nat → Q1gz
 | [], _i0 =>
  (.k0)
 | x0 :: r0, i0 =>
  bif (decide (60 < ((List.length x0.fields) : Int))) then
   (.k1)
  else
   Qcl p0 r0 (i0 + 1)
def Q1kz (_p0 : aW) (i0 : Nat) : List PV :=
  [.un, .bx 0 0, .un, .bx 1 0, iN (i0 : Int)] ++ nuns 47
def Q1l8 (p0 : aW) (_i0 : Nat) : List Ob :=
  [⟨23, 0, true, (aW.cells p0)⟩, ⟨13, 0, true, (bJ.cells p0.aG)⟩]
def Qca (p0 : aW) (i0 : Nat) : En := .loop 0 Ir.Qq7 Ir.Q1wd (Q1kz p0 i0) (Q1l8 p0 i0)
def Qlt (p0 : aW) (z : Nat → PV) (_zo : Nat → List PV) : St :=
  ⟨[z 0, .bx 0 0] ++ zr z 2 50, [(0, ⟨23, 0, true, (aW.cells p0)⟩), (1, ⟨13, 0, true, (bJ.cells p0.aG)⟩)], 322⟩
def Qlu (_p0 : aW) (z : Nat → PV) (zo : Nat → List PV) : St :=
  ⟨[z 0, z 1, .bool false] ++ zr z 3 49, [(0, ⟨23, 0, true, zo 0⟩), (1, ⟨13, 0, true, zo 1⟩)], 898⟩
def Qlr (p0 : aW) (e : En) : Q1gz → Prop
  | .k0 => ∃ z zo, Q0 G e (.st (.exit 0) (Qlt p0 z zo))
  | .k1 => ∃ z zo, Q0 G e (.st .ret (Qlu p0 z zo))
theorem Q102 (p0 : aW) {e e' : En} (h : ∀ r, Q0 G e r → Q0 G e' r) : ∀ q, Qlr p0 e q → Qlr p0 e' q
  | .k0, ⟨z, zo, hz⟩ => ⟨z, zo, h _ hz⟩
  | .k1, ⟨z, zo, hz⟩ => ⟨z, zo, h _ hz⟩
def Qjz (p0 : aW) : Prop := (List.length p0.aG.aZ ≤ 4611686018427387904) ∧ True
def Q10l (p0 : aW) (i0 : Nat) : List PV :=
  [.un, .un, .un, .bx 1 0, iN (i0 : Int)] ++ nuns 24 ++ [iN (i0 : Int), .bx 1 12, .sl (bB.rows p0.aG.aZ), iN ((List.length p0.aG.aZ) : Int), .bool false]
def Qry (_p0 : aW) (_i0 : Nat) : List (Nat × List PV) :=
  []
theorem Q1km (p0 : aW) (_H : Qjz p0) (i0 : Nat) (bG : (decide ((i0 : Int) < ((List.length p0.aG.aZ) : Int))) = false) : Qlr p0 (Qca p0 i0) (.k0) := by
 exact ⟨(envF (Q10l p0 i0)), (zoF (Qry p0 i0)), Qd VOK.nil (x := ((.exit 0), Qlt p0 (envF (Q10l p0 i0)) (zoF (Qry p0 i0)))) [hP 3 (Qw _ _ (bB.Q8 p0.aG.aZ)), hB 0 bG] [] (by kernel_rfl)⟩
def Q10m (p0 : aW) (i0 : Nat) (x0 : bB) : List PV :=
  [.un, .bx 0 0, .un, .bx 1 0, iN (i0 : Int)] ++ nuns 24 ++ [iN (i0 : Int), .bx 1 12, .sl (bB.rows p0.aG.aZ), iN ((List.length p0.aG.aZ) : Int), .bool true, .un, .un, .bx 1 12, .sl (bB.rows p0.aG.aZ), iN (i0 : Int), .rf [.str x0.name, .sl (Q18 x0.fields)], .rf [.sl (Q18 x0.fields)], .sl (Q18 x0.fields), iN ((List.length x0.fields) : Int), .bool true]
def Qrz (p0 : aW) (_i0 : Nat) (_x0 : bB) : List (Nat × List PV) :=
  [(0, (aW.cells p0)), (1, (bJ.cells p0.aG))]
theorem Q1kn (p0 : aW) (_H : Qjz p0) (x0 : bB) (i0 : Nat) (bU : p0.aG.aZ[i0]? = some x0) (_dG : i0 < List.length p0.aG.aZ) (bG : (decide ((i0 : Int) < ((List.length p0.aG.aZ) : Int))) = true) (h0 : (decide (60 < ((List.length x0.fields) : Int))) = true) : Qlr p0 (Qca p0 i0) (.k1) := by
 exact ⟨(envF (Q10m p0 i0 x0)), (zoF (Qrz p0 i0 x0)), Qd VOK.nil (x := (.ret, Qlu p0 (envF (Q10m p0 i0 x0)) (zoF (Qrz p0 i0 x0)))) [hP 3 (Qw _ _ (bB.Q8 p0.aG.aZ)), hB 0 bG, hP 3 (Q2q 2 _ i0 _ (bB.Qg bU) rfl), hP 2 (Qw _ _ (Q2s x0.fields)), hB 0 h0] [] (by kernel_rfl)⟩
theorem Q1ik (p0 : aW) (H : Qjz p0) (x0 : bB) (i0 : Nat) (bU : p0.aG.aZ[i0]? = some x0) (dG : i0 < List.length p0.aG.aZ) (bG : (decide ((i0 : Int) < ((List.length p0.aG.aZ) : Int))) = true) (h0 : (decide (60 < ((List.length x0.fields) : Int))) = false) {r : Rs} (hr : Q0 G (Qca p0 (i0 + 1)) r) : Q0 G (Qca p0 i0) r := by
 have hB0 := H.1; have e0 := of_decide_eq_false h0
 exact Qc VOK.nil [hP 3 (Qw _ _ (bB.Q8 p0.aG.aZ)), hB 0 bG, hP 3 (Q2q 2 _ i0 _ (bB.Qg bU) rfl), hP 2 (Qw _ _ (Q2s x0.fields)), hB 0 h0, hP 1 (Q26 i0 (by omega))] [] hr (by kernel_rfl)
theorem Q18b (p0 : aW) (H : Qjz p0) : ∀ (r0 : List bB) (i0 : Nat), List.drop i0 p0.aG.aZ = r0 → Qlr p0 (Qca p0 i0) (Qcl p0 r0 i0)
 | [], i0, hd => by
  have bG : (decide ((i0 : Int) < ((List.length p0.aG.aZ) : Int))) = false := by have := Q1c hd; simp; omega
  rw [Qcl]
  exact Q1km p0 H i0 bG
 | x0 :: r0, i0, hd => by
  obtain ⟨bU, dG, hd'⟩ := Q19 hd
  have bG : (decide ((i0 : Int) < ((List.length p0.aG.aZ) : Int))) = true := by simp; omega
  rw [Qcl]
  cases h0 : (decide (60 < ((List.length x0.fields) : Int))) with
  | true =>
   exact Q1kn p0 H x0 i0 bU dG bG h0
  | false =>
   exact Q102 p0 (fun r hr => Q1ik p0 H x0 i0 bU dG bG h0 hr) _ (Q18b p0 H r0 _ hd')
def s_K8 (p0 : aW) : Bool :=
 bif (decide (40 < ((List.length p0.aG.bH) : Int))) then
  false
 else
  bif (decide (40 < ((List.length p0.aG.bT) : Int))) then
   false
  else
   bif (decide (40 < ((List.length p0.aG.bF) : Int))) then
    false
   else
    bif (decide (40 < ((List.length p0.aG.aZ) : Int))) then
     false
    else
     (match (Qcl p0 p0.aG.aZ 0) with
     | .k0 => bif (Qye p0.aS 900) then
       (Qye p0.aL 300)
      else
       false
     | .k1 => false)
def c_K8 (p0 : aW) : En := .call 11 [.agg (aW.cells p0)] []
def a_K8 (p0 : aW) : Rs := .ret (.bool (s_K8 p0)) []
def H_K8 (p0 : aW) : Prop := (Qjz p0) ∧ (Q1qg p0.aS 900) ∧ (Q1qg p0.aL 300) ∧ True
theorem Q218 (p0 : aW) (_H : H_K8 p0) (h0 : (decide (40 < ((List.length p0.aG.bH) : Int))) = true) : Q0 G (c_K8 p0) (.ret (.bool (false)) []) := by
 exact Q5 (fn := Ir.K8) (by kernel_rfl) VOK.nil [hP 8 (Qw _ _ (aX.Q8 p0.aG.bH)), hB 0 h0] [] (by kernel_rfl)
theorem Q219 (p0 : aW) (_H : H_K8 p0) (h0 : (decide (40 < ((List.length p0.aG.bH) : Int))) = false) (h1 : (decide (40 < ((List.length p0.aG.bT) : Int))) = true) : Q0 G (c_K8 p0) (.ret (.bool (false)) []) := by
 exact Q5 (fn := Ir.K8) (by kernel_rfl) VOK.nil [hP 8 (Qw _ _ (aX.Q8 p0.aG.bH)), hB 0 h0, hP 3 (Qw _ _ (cu.Q8 p0.aG.bT)), hB 0 h1] [] (by kernel_rfl)
theorem Q21a (p0 : aW) (_H : H_K8 p0) (h0 : (decide (40 < ((List.length p0.aG.bH) : Int))) = false) (h1 : (decide (40 < ((List.length p0.aG.bT) : Int))) = false) (h2 : (decide (40 < ((List.length p0.aG.bF) : Int))) = true) : Q0 G (c_K8 p0) (.ret (.bool (false)) []) := by
 exact Q5 (fn := Ir.K8) (by kernel_rfl) VOK.nil [hP 8 (Qw _ _ (aX.Q8 p0.aG.bH)), hB 0 h0, hP 3 (Qw _ _ (cu.Q8 p0.aG.bT)), hB 0 h1, hP 4 (Qw _ _ (Q2s p0.aG.bF)), hB 0 h2] [] (by kernel_rfl)
theorem Q21b (p0 : aW) (_H : H_K8 p0) (h0 : (decide (40 < ((List.length p0.aG.bH) : Int))) = false) (h1 : (decide (40 < ((List.length p0.aG.bT) : Int))) = false) (h2 : (decide (40 < ((List.length p0.aG.bF) : Int))) = false) (h3 : (decide (40 < ((List.length p0.aG.aZ) : Int))) = true) : Q0 G (c_K8 p0) (.ret (.bool (false)) []) := by
 exact Q5 (fn := Ir.K8) (by kernel_rfl) VOK.nil [hP 8 (Qw _ _ (aX.Q8 p0.aG.bH)), hB 0 h0, hP 3 (Qw _ _ (cu.Q8 p0.aG.bT)), hB 0 h1, hP 4 (Qw _ _ (Q2s p0.aG.bF)), hB 0 h2, hP 4 (Qw _ _ (bB.Q8 p0.aG.aZ)), hB 0 h3] [] (by kernel_rfl)
theorem Q21c (p0 : aW) (H : H_K8 p0) (h0 : (decide (40 < ((List.length p0.aG.bH) : Int))) = false) (h1 : (decide (40 < ((List.length p0.aG.bT) : Int))) = false) (h2 : (decide (40 < ((List.length p0.aG.bF) : Int))) = false) (h3 : (decide (40 < ((List.length p0.aG.aZ) : Int))) = false) (z4 : Nat → PV) (iT : Nat → List PV) (gY : Q0 G (Qca p0 0) (.st (.exit 0) (Qlt p0 z4 iT))) : Q0 G (c_K8 p0) (.ret (.bool (bif (Qye p0.aS 900) then
   (Qye p0.aL 300)
 else
   false)) []) := by
 cases h4 : (Qye p0.aS 900) with
 | true =>
  exact Q5 (fn := Ir.K8) (by kernel_rfl) VOK.nil [hP 8 (Qw _ _ (aX.Q8 p0.aG.bH)), hB 0 h0, hP 3 (Qw _ _ (cu.Q8 p0.aG.bT)), hB 0 h1, hP 4 (Qw _ _ (Q2s p0.aG.bF)), hB 0 h2, hP 4 (Qw _ _ (bB.Q8 p0.aG.aZ)), hB 0 h3] [aN gY, aB (Q1s3 p0.aS 900 H.2.1) h4, aN (Q1s3 p0.aL 300 H.2.2.1)] (by kernel_rfl)
 | false =>
  exact Q5 (fn := Ir.K8) (by kernel_rfl) VOK.nil [hP 8 (Qw _ _ (aX.Q8 p0.aG.bH)), hB 0 h0, hP 3 (Qw _ _ (cu.Q8 p0.aG.bT)), hB 0 h1, hP 4 (Qw _ _ (Q2s p0.aG.bF)), hB 0 h2, hP 4 (Qw _ _ (bB.Q8 p0.aG.aZ)), hB 0 h3] [aN gY, aB (Q1s3 p0.aS 900 H.2.1) h4] (by kernel_rfl)
theorem Q21d (p0 : aW) (_H : H_K8 p0) (h0 : (decide (40 < ((List.length p0.aG.bH) : Int))) = false) (h1 : (decide (40 < ((List.length p0.aG.bT) : Int))) = false) (h2 : (decide (40 < ((List.length p0.aG.bF) : Int))) = false) (h3 : (decide (40 < ((List.length p0.aG.aZ) : Int))) = false) (z4 : Nat → PV) (iT : Nat → List PV) (gY : Q0 G (Qca p0 0) (.st .ret (Qlu p0 z4 iT))) : Q0 G (c_K8 p0) (.ret (.bool (false)) []) := by
 exact Q5 (fn := Ir.K8) (by kernel_rfl) VOK.nil [hP 8 (Qw _ _ (aX.Q8 p0.aG.bH)), hB 0 h0, hP 3 (Qw _ _ (cu.Q8 p0.aG.bT)), hB 0 h1, hP 4 (Qw _ _ (Q2s p0.aG.bF)), hB 0 h2, hP 4 (Qw _ _ (bB.Q8 p0.aG.aZ)), hB 0 h3] [aN gY] (by kernel_rfl)
theorem t_K8 (p0 : aW) (H : H_K8 p0) : Q0 G (c_K8 p0) (a_K8 p0) := by
 unfold a_K8 s_K8
 cases h0 : (decide (40 < ((List.length p0.aG.bH) : Int))) with
 | true =>
  exact Q218 p0 H h0
 | false =>
  cases h1 : (decide (40 < ((List.length p0.aG.bT) : Int))) with
  | true =>
   exact Q219 p0 H h0 h1
  | false =>
   cases h2 : (decide (40 < ((List.length p0.aG.bF) : Int))) with
   | true =>
    exact Q21a p0 H h0 h1 h2
   | false =>
    cases h3 : (decide (40 < ((List.length p0.aG.aZ) : Int))) with
    | true =>
     exact Q21b p0 H h0 h1 h2 h3
    | false =>
     have gY := Q18b p0 (H.1) p0.aG.aZ 0 (by simp)
     cases hr4 : (Qcl p0 p0.aG.aZ 0) with
     | k0 =>
      rw [hr4] at gY
      obtain ⟨z4, iT, gY⟩ := gY
      try dsimp only
      exact Q21c p0 H h0 h1 h2 h3 z4 iT gY
     | k1 =>
      rw [hr4] at gY
      obtain ⟨z4, iT, gY⟩ := gY
      exact Q21d p0 H h0 h1 h2 h3 z4 iT gY
end Go.Proofs.YtimjjohlpnkacaaGreat
end

section
/- The chapter's examples (printed by a program). -/
namespace Go.Proofs.YtimjjohlpnkacaaGreat
open Go.Pv
theorem t_K6 : Q0 G (.call 12 [] []) (.ret (.bool true) []) := ⟨400, by kernel_rfl⟩
end Go.Proofs.YtimjjohlpnkacaaGreat
end

section
/- What the laws ask of their arguments (printed by a program). -/
namespace Go.Proofs.YtimjjohlpnkacaaGreat
open Go.Pv
def Qvb : Ty := .st [.str, .str]
def Qdd (x : aX) : Prop := okS x.key ∧ okS x.value
theorem Qqg {c : List PV} (h : Of Γ Qvb c) : ∃ x : aX, c = x.cells ∧ Qdd x := by
  have g0 := h.st1
  obtain ⟨a0, b0, rfl, h0, g1⟩ := g0.Qv
  obtain ⟨x0, rfl, k0⟩ := h0.str1
  obtain ⟨a1, b1, rfl, h1, g2⟩ := g1.Qv
  obtain ⟨x1, rfl, k1⟩ := h1.str1
  have e := g2.empty
  subst e
  exact ⟨⟨x0, x1⟩, rfl, ⟨k0, k1⟩⟩
def Q15q : Ty := .st [.str, .str, .int .i64, .bool, .bool]
def Qvf (x : cu) : Prop := okS x.kind ∧ okS x.name ∧ Q3g x.gM ∧ (fun _ : Bool => True) x.gL ∧ (fun _ : Bool => True) x.block
theorem Q19i {c : List PV} (h : Of Γ Q15q c) : ∃ x : cu, c = x.cells ∧ Qvf x := by
  have g0 := h.st1
  obtain ⟨a0, b0, rfl, h0, g1⟩ := g0.Qv
  obtain ⟨x0, rfl, k0⟩ := h0.str1
  obtain ⟨a1, b1, rfl, h1, g2⟩ := g1.Qv
  obtain ⟨x1, rfl, k1⟩ := h1.str1
  obtain ⟨a2, b2, rfl, h2, g3⟩ := g2.Qv
  obtain ⟨x2, rfl, k2⟩ := h2.i64
  obtain ⟨a3, b3, rfl, h3, g4⟩ := g3.Qv
  obtain ⟨x3, rfl, k3⟩ := h3.bool2
  obtain ⟨a4, b4, rfl, h4, g5⟩ := g4.Qv
  obtain ⟨x4, rfl, k4⟩ := h4.bool2
  have e := g5.empty
  subst e
  exact ⟨⟨x0, x1, x2, x3, x4⟩, rfl, ⟨k0, k1, k2, k3, k4⟩⟩
def Qqh : Ty := .st [.str, .sl 16 .str]
def Qew (x : bB) : Prop := okS x.name ∧ (okL 16 okS) x.fields
theorem Q100 {c : List PV} (h : Of Γ Qqh c) : ∃ x : bB, c = x.cells ∧ Qew x := by
  have g0 := h.st1
  obtain ⟨a0, b0, rfl, h0, g1⟩ := g0.Qv
  obtain ⟨x0, rfl, k0⟩ := h0.str1
  obtain ⟨a1, b1, rfl, h1, g2⟩ := g1.Qv
  obtain ⟨x1, rfl, k1⟩ := (h1.sl1 (f := (fun s : ByteArray => [.str s])) (ok := okS) fun r hr => hr.str1)
  have e := g2.empty
  subst e
  exact ⟨⟨x0, x1⟩, rfl, ⟨k0, k1⟩⟩
def Qlp : Ty := .st [.str, .str, .str, .int .i64, .int .i64, .int .i64, .int .i64, .bool, .int .i64, .sl 32 Qvb, .sl 48 Q15q, .sl 16 .str, .sl 40 Qqh]
def Q64 (x : bJ) : Prop := okS x.kind ∧ okS x.bK ∧ okS x.name ∧ Q3g x.gM ∧ Q3g x.dA ∧ Q3g x.bR ∧ Q3g x.dz ∧ (fun _ : Bool => True) x.dh ∧ Q3g x.cZ ∧ (okL 32 Qdd) x.bH ∧ (okL 48 Qvf) x.bT ∧ (okL 16 okS) x.bF ∧ (okL 40 Qew) x.aZ
theorem Qdf {c : List PV} (h : Of Γ Qlp c) : ∃ x : bJ, c = x.cells ∧ Q64 x := by
  have g0 := h.st1
  obtain ⟨a0, b0, rfl, h0, g1⟩ := g0.Qv
  obtain ⟨x0, rfl, k0⟩ := h0.str1
  obtain ⟨a1, b1, rfl, h1, g2⟩ := g1.Qv
  obtain ⟨x1, rfl, k1⟩ := h1.str1
  obtain ⟨a2, b2, rfl, h2, g3⟩ := g2.Qv
  obtain ⟨x2, rfl, k2⟩ := h2.str1
  obtain ⟨a3, b3, rfl, h3, g4⟩ := g3.Qv
  obtain ⟨x3, rfl, k3⟩ := h3.i64
  obtain ⟨a4, b4, rfl, h4, g5⟩ := g4.Qv
  obtain ⟨x4, rfl, k4⟩ := h4.i64
  obtain ⟨a5, b5, rfl, h5, g6⟩ := g5.Qv
  obtain ⟨x5, rfl, k5⟩ := h5.i64
  obtain ⟨a6, b6, rfl, h6, g7⟩ := g6.Qv
  obtain ⟨x6, rfl, k6⟩ := h6.i64
  obtain ⟨a7, b7, rfl, h7, g8⟩ := g7.Qv
  obtain ⟨x7, rfl, k7⟩ := h7.bool2
  obtain ⟨a8, b8, rfl, h8, g9⟩ := g8.Qv
  obtain ⟨x8, rfl, k8⟩ := h8.i64
  obtain ⟨a9, b9, rfl, h9, g10⟩ := g9.Qv
  obtain ⟨x9, rfl, k9⟩ := (h9.sl1 (f := aX.cells) (ok := Qdd) fun r hr => (Qqg hr))
  obtain ⟨a10, b10, rfl, h10, g11⟩ := g10.Qv
  obtain ⟨x10, rfl, k10⟩ := (h10.sl1 (f := cu.cells) (ok := Qvf) fun r hr => (Q19i hr))
  obtain ⟨a11, b11, rfl, h11, g12⟩ := g11.Qv
  obtain ⟨x11, rfl, k11⟩ := (h11.sl1 (f := (fun s : ByteArray => [.str s])) (ok := okS) fun r hr => hr.str1)
  obtain ⟨a12, b12, rfl, h12, g13⟩ := g12.Qv
  obtain ⟨x12, rfl, k12⟩ := (h12.sl1 (f := bB.cells) (ok := Qew) fun r hr => (Q100 hr))
  have e := g13.empty
  subst e
  exact ⟨⟨x0, x1, x2, x3, x4, x5, x6, x7, x8, x9, x10, x11, x12⟩, rfl, ⟨k0, k1, k2, k3, k4, k5, k6, k7, k8, k9, k10, k11, k12⟩⟩
def Q43 : Ty := .st [.str, .int .i64, .sl 16 .str]
def Q2c (x : aj) : Prop := okS x.key ∧ Q3g x.op ∧ (okL 16 okS) x.dF
theorem Q3v {c : List PV} (h : Of Γ Q43 c) : ∃ x : aj, c = x.cells ∧ Q2c x := by
  have g0 := h.st1
  obtain ⟨a0, b0, rfl, h0, g1⟩ := g0.Qv
  obtain ⟨x0, rfl, k0⟩ := h0.str1
  obtain ⟨a1, b1, rfl, h1, g2⟩ := g1.Qv
  obtain ⟨x1, rfl, k1⟩ := h1.i64
  obtain ⟨a2, b2, rfl, h2, g3⟩ := g2.Qv
  obtain ⟨x2, rfl, k2⟩ := (h2.sl1 (f := (fun s : ByteArray => [.str s])) (ok := okS) fun r hr => hr.str1)
  have e := g3.empty
  subst e
  exact ⟨⟨x0, x1, x2⟩, rfl, ⟨k0, k1, k2⟩⟩
def Qax : Ty := .st [.int .i64, .int .i64, .int .i64]
def Qaw (x : bf) : Prop := Q3g x.gZ ∧ Q3g x.eU ∧ Q3g x.gI
theorem Qc7 {c : List PV} (h : Of Γ Qax c) : ∃ x : bf, c = x.cells ∧ Qaw x := by
  have g0 := h.st1
  obtain ⟨a0, b0, rfl, h0, g1⟩ := g0.Qv
  obtain ⟨x0, rfl, k0⟩ := h0.i64
  obtain ⟨a1, b1, rfl, h1, g2⟩ := g1.Qv
  obtain ⟨x1, rfl, k1⟩ := h1.i64
  obtain ⟨a2, b2, rfl, h2, g3⟩ := g2.Qv
  obtain ⟨x2, rfl, k2⟩ := h2.i64
  have e := g3.empty
  subst e
  exact ⟨⟨x0, x1, x2⟩, rfl, ⟨k0, k1, k2⟩⟩
def Qji : Ty := .st [.int .i64, .int .i64, .int .i64, .int .i64]
def Q9u (x : bn) : Prop := Q3g x.fZ ∧ Q3g x.fA ∧ Q3g x.eY ∧ Q3g x.eH
theorem Qey {c : List PV} (h : Of Γ Qji c) : ∃ x : bn, c = x.cells ∧ Q9u x := by
  have g0 := h.st1
  obtain ⟨a0, b0, rfl, h0, g1⟩ := g0.Qv
  obtain ⟨x0, rfl, k0⟩ := h0.i64
  obtain ⟨a1, b1, rfl, h1, g2⟩ := g1.Qv
  obtain ⟨x1, rfl, k1⟩ := h1.i64
  obtain ⟨a2, b2, rfl, h2, g3⟩ := g2.Qv
  obtain ⟨x2, rfl, k2⟩ := h2.i64
  obtain ⟨a3, b3, rfl, h3, g4⟩ := g3.Qv
  obtain ⟨x3, rfl, k3⟩ := h3.i64
  have e := g4.empty
  subst e
  exact ⟨⟨x0, x1, x2, x3⟩, rfl, ⟨k0, k1, k2, k3⟩⟩
def Qfn : Ty := .st [.str, .str, Qax, Qax, .sl 32 Qji, .sl 32 Qji, .sl 32 Qji]
def Qar (x : aD) : Prop := okS x.name ∧ okS x.fT ∧ Qaw x.dM ∧ Qaw x.fC ∧ (okL 32 Q9u) x.live ∧ (okL 32 Q9u) x.ready ∧ (okL 32 Q9u) x.dV
theorem Qoz {c : List PV} (h : Of Γ Qfn c) : ∃ x : aD, c = x.cells ∧ Qar x := by
  have g0 := h.st1
  obtain ⟨a0, b0, rfl, h0, g1⟩ := g0.Qv
  obtain ⟨x0, rfl, k0⟩ := h0.str1
  obtain ⟨a1, b1, rfl, h1, g2⟩ := g1.Qv
  obtain ⟨x1, rfl, k1⟩ := h1.str1
  obtain ⟨a2, b2, rfl, h2, g3⟩ := g2.Qv
  obtain ⟨x2, rfl, k2⟩ := (Qc7 h2)
  obtain ⟨a3, b3, rfl, h3, g4⟩ := g3.Qv
  obtain ⟨x3, rfl, k3⟩ := (Qc7 h3)
  obtain ⟨a4, b4, rfl, h4, g5⟩ := g4.Qv
  obtain ⟨x4, rfl, k4⟩ := (h4.sl1 (f := bn.cells) (ok := Q9u) fun r hr => (Qey hr))
  obtain ⟨a5, b5, rfl, h5, g6⟩ := g5.Qv
  obtain ⟨x5, rfl, k5⟩ := (h5.sl1 (f := bn.cells) (ok := Q9u) fun r hr => (Qey hr))
  obtain ⟨a6, b6, rfl, h6, g7⟩ := g6.Qv
  obtain ⟨x6, rfl, k6⟩ := (h6.sl1 (f := bn.cells) (ok := Q9u) fun r hr => (Qey hr))
  have e := g7.empty
  subst e
  exact ⟨⟨x0, x1, x2, x3, x4, x5, x6⟩, rfl, ⟨k0, k1, k2, k3, k4, k5, k6⟩⟩
def Qlq : Ty := .st [.bool, .sl 48 Q43, .int .i64]
def Qcc (x : aI) : Prop := (fun _ : Bool => True) x.bI ∧ (okL 48 Q2c) x.aR ∧ Q3g x.dI
theorem Qve {c : List PV} (h : Of Γ Qlq c) : ∃ x : aI, c = x.cells ∧ Qcc x := by
  have g0 := h.st1
  obtain ⟨a0, b0, rfl, h0, g1⟩ := g0.Qv
  obtain ⟨x0, rfl, k0⟩ := h0.bool2
  obtain ⟨a1, b1, rfl, h1, g2⟩ := g1.Qv
  obtain ⟨x1, rfl, k1⟩ := (h1.sl1 (f := aj.cells) (ok := Q2c) fun r hr => (Q3v hr))
  obtain ⟨a2, b2, rfl, h2, g3⟩ := g2.Qv
  obtain ⟨x2, rfl, k2⟩ := h2.i64
  have e := g3.empty
  subst e
  exact ⟨⟨x0, x1, x2⟩, rfl, ⟨k0, k1, k2⟩⟩
def Qqk : Ty := .st [.bool, .bool, .sl 48 Q43, .str, .int .i64]
def Qex (x : aM) : Prop := (fun _ : Bool => True) x.bI ∧ (fun _ : Bool => True) x.gK ∧ (okL 48 Q2c) x.aR ∧ okS x.bW ∧ Q3g x.dI
theorem Q10c {c : List PV} (h : Of Γ Qqk c) : ∃ x : aM, c = x.cells ∧ Qex x := by
  have g0 := h.st1
  obtain ⟨a0, b0, rfl, h0, g1⟩ := g0.Qv
  obtain ⟨x0, rfl, k0⟩ := h0.bool2
  obtain ⟨a1, b1, rfl, h1, g2⟩ := g1.Qv
  obtain ⟨x1, rfl, k1⟩ := h1.bool2
  obtain ⟨a2, b2, rfl, h2, g3⟩ := g2.Qv
  obtain ⟨x2, rfl, k2⟩ := (h2.sl1 (f := aj.cells) (ok := Q2c) fun r hr => (Q3v hr))
  obtain ⟨a3, b3, rfl, h3, g4⟩ := g3.Qv
  obtain ⟨x3, rfl, k3⟩ := h3.str1
  obtain ⟨a4, b4, rfl, h4, g5⟩ := g4.Qv
  obtain ⟨x4, rfl, k4⟩ := h4.i64
  have e := g5.empty
  subst e
  exact ⟨⟨x0, x1, x2, x3, x4⟩, rfl, ⟨k0, k1, k2, k3, k4⟩⟩
def Qdm : Ty := .st [.int .i64, .str, .sl 48 Q43, .bool]
def Q9w (x : aC) : Prop := Q3g x.eT ∧ okS x.bW ∧ (okL 48 Q2c) x.aR ∧ (fun _ : Bool => True) x.bI
theorem Qlv {c : List PV} (h : Of Γ Qdm c) : ∃ x : aC, c = x.cells ∧ Q9w x := by
  have g0 := h.st1
  obtain ⟨a0, b0, rfl, h0, g1⟩ := g0.Qv
  obtain ⟨x0, rfl, k0⟩ := h0.i64
  obtain ⟨a1, b1, rfl, h1, g2⟩ := g1.Qv
  obtain ⟨x1, rfl, k1⟩ := h1.str1
  obtain ⟨a2, b2, rfl, h2, g3⟩ := g2.Qv
  obtain ⟨x2, rfl, k2⟩ := (h2.sl1 (f := aj.cells) (ok := Q2c) fun r hr => (Q3v hr))
  obtain ⟨a3, b3, rfl, h3, g4⟩ := g3.Qv
  obtain ⟨x3, rfl, k3⟩ := h3.bool2
  have e := g4.empty
  subst e
  exact ⟨⟨x0, x1, x2, x3⟩, rfl, ⟨k0, k1, k2, k3⟩⟩
def Qdn : Ty := .st [.str, .str, .bool, .int .i64, .int .i64]
def Qa0 (x : aA) : Prop := okS x.key ∧ okS x.value ∧ (fun _ : Bool => True) x.eG ∧ Q3g x.fF ∧ Q3g x.eX
theorem Qlw {c : List PV} (h : Of Γ Qdn c) : ∃ x : aA, c = x.cells ∧ Qa0 x := by
  have g0 := h.st1
  obtain ⟨a0, b0, rfl, h0, g1⟩ := g0.Qv
  obtain ⟨x0, rfl, k0⟩ := h0.str1
  obtain ⟨a1, b1, rfl, h1, g2⟩ := g1.Qv
  obtain ⟨x1, rfl, k1⟩ := h1.str1
  obtain ⟨a2, b2, rfl, h2, g3⟩ := g2.Qv
  obtain ⟨x2, rfl, k2⟩ := h2.bool2
  obtain ⟨a3, b3, rfl, h3, g4⟩ := g3.Qv
  obtain ⟨x3, rfl, k3⟩ := h3.i64
  obtain ⟨a4, b4, rfl, h4, g5⟩ := g4.Qv
  obtain ⟨x4, rfl, k4⟩ := h4.i64
  have e := g5.empty
  subst e
  exact ⟨⟨x0, x1, x2, x3, x4⟩, rfl, ⟨k0, k1, k2, k3, k4⟩⟩
def Qqj : Ty := .st [.str, .int .i64, .int .i64, .int .i64, .sl 152 Qfn, .sl 48 Q43, .sl 40 Qlq, .sl 56 Qqk, .sl 56 Qdm, .sl 56 Qdn]
def Qqi (x : aY) : Prop := okS x.fV ∧ Q3g x.dH ∧ Q3g x.dO ∧ Q3g x.fD ∧ (okL 152 Qar) x.bZ ∧ (okL 48 Q2c) x.bL ∧ (okL 40 Qcc) x.cO ∧ (okL 56 Qex) x.dw ∧ (okL 56 Q9w) x.dR ∧ (okL 56 Qa0) x.bP
theorem Q10b {c : List PV} (h : Of Γ Qqj c) : ∃ x : aY, c = x.cells ∧ Qqi x := by
  have g0 := h.st1
  obtain ⟨a0, b0, rfl, h0, g1⟩ := g0.Qv
  obtain ⟨x0, rfl, k0⟩ := h0.str1
  obtain ⟨a1, b1, rfl, h1, g2⟩ := g1.Qv
  obtain ⟨x1, rfl, k1⟩ := h1.i64
  obtain ⟨a2, b2, rfl, h2, g3⟩ := g2.Qv
  obtain ⟨x2, rfl, k2⟩ := h2.i64
  obtain ⟨a3, b3, rfl, h3, g4⟩ := g3.Qv
  obtain ⟨x3, rfl, k3⟩ := h3.i64
  obtain ⟨a4, b4, rfl, h4, g5⟩ := g4.Qv
  obtain ⟨x4, rfl, k4⟩ := (h4.sl1 (f := aD.cells) (ok := Qar) fun r hr => (Qoz hr))
  obtain ⟨a5, b5, rfl, h5, g6⟩ := g5.Qv
  obtain ⟨x5, rfl, k5⟩ := (h5.sl1 (f := aj.cells) (ok := Q2c) fun r hr => (Q3v hr))
  obtain ⟨a6, b6, rfl, h6, g7⟩ := g6.Qv
  obtain ⟨x6, rfl, k6⟩ := (h6.sl1 (f := aI.cells) (ok := Qcc) fun r hr => (Qve hr))
  obtain ⟨a7, b7, rfl, h7, g8⟩ := g7.Qv
  obtain ⟨x7, rfl, k7⟩ := (h7.sl1 (f := aM.cells) (ok := Qex) fun r hr => (Q10c hr))
  obtain ⟨a8, b8, rfl, h8, g9⟩ := g8.Qv
  obtain ⟨x8, rfl, k8⟩ := (h8.sl1 (f := aC.cells) (ok := Q9w) fun r hr => (Qlv hr))
  obtain ⟨a9, b9, rfl, h9, g10⟩ := g9.Qv
  obtain ⟨x9, rfl, k9⟩ := (h9.sl1 (f := aA.cells) (ok := Qa0) fun r hr => (Qlw hr))
  have e := g10.empty
  subst e
  exact ⟨⟨x0, x1, x2, x3, x4, x5, x6, x7, x8, x9⟩, rfl, ⟨k0, k1, k2, k3, k4, k5, k6, k7, k8, k9⟩⟩
def Q9z : Ty := .st [.sl 32 Qvb, Qqj]
def Q9x (x : aU) : Prop := (okL 32 Qdd) x.bH ∧ Qqi x.aS
theorem Q9y {c : List PV} (h : Of Γ Q9z c) : ∃ x : aU, c = x.cells ∧ Q9x x := by
  have g0 := h.st1
  obtain ⟨a0, b0, rfl, h0, g1⟩ := g0.Qv
  obtain ⟨x0, rfl, k0⟩ := (h0.sl1 (f := aX.cells) (ok := Qdd) fun r hr => (Qqg hr))
  obtain ⟨a1, b1, rfl, h1, g2⟩ := g1.Qv
  obtain ⟨x1, rfl, k1⟩ := (Q10b h1)
  have e := g2.empty
  subst e
  exact ⟨⟨x0, x1⟩, rfl, ⟨k0, k1⟩⟩
def Qaq : Ty := .st [.bool, .int .i64]
def Q82 (x : aJ) : Prop := (fun _ : Bool => True) x.dQ ∧ Q3g x.n
theorem Q9n {c : List PV} (h : Of Γ Qaq c) : ∃ x : aJ, c = x.cells ∧ Q82 x := by
  have g0 := h.st1
  obtain ⟨a0, b0, rfl, h0, g1⟩ := g0.Qv
  obtain ⟨x0, rfl, k0⟩ := h0.bool2
  obtain ⟨a1, b1, rfl, h1, g2⟩ := g1.Qv
  obtain ⟨x1, rfl, k1⟩ := h1.i64
  have e := g2.empty
  subst e
  exact ⟨⟨x0, x1⟩, rfl, ⟨k0, k1⟩⟩
def Qa2 : Ty := .st [.int .i64, .int .i64, .int .i64, .int .i64, .int .i64, .int .i64, .bool]
def Qa1 (x : aO) : Prop := Q3g x.bV ∧ Q3g x.bD ∧ Q3g x.dW ∧ Q3g x.ready ∧ Q3g x.dx ∧ Q3g x.dJ ∧ (fun _ : Bool => True) x.bA
theorem Qaz {c : List PV} (h : Of Γ Qa2 c) : ∃ x : aO, c = x.cells ∧ Qa1 x := by
  have g0 := h.st1
  obtain ⟨a0, b0, rfl, h0, g1⟩ := g0.Qv
  obtain ⟨x0, rfl, k0⟩ := h0.i64
  obtain ⟨a1, b1, rfl, h1, g2⟩ := g1.Qv
  obtain ⟨x1, rfl, k1⟩ := h1.i64
  obtain ⟨a2, b2, rfl, h2, g3⟩ := g2.Qv
  obtain ⟨x2, rfl, k2⟩ := h2.i64
  obtain ⟨a3, b3, rfl, h3, g4⟩ := g3.Qv
  obtain ⟨x3, rfl, k3⟩ := h3.i64
  obtain ⟨a4, b4, rfl, h4, g5⟩ := g4.Qv
  obtain ⟨x4, rfl, k4⟩ := h4.i64
  obtain ⟨a5, b5, rfl, h5, g6⟩ := g5.Qv
  obtain ⟨x5, rfl, k5⟩ := h5.i64
  obtain ⟨a6, b6, rfl, h6, g7⟩ := g6.Qv
  obtain ⟨x6, rfl, k6⟩ := h6.bool2
  have e := g7.empty
  subst e
  exact ⟨⟨x0, x1, x2, x3, x4, x5, x6⟩, rfl, ⟨k0, k1, k2, k3, k4, k5, k6⟩⟩
def Qcy : Ty := .st [Qlp, .int .i64, .int .i64, .int .i64, .int .i64, .sl 48 Q43, Q9z, .bool, .bool, Qaq, Qaq, .int .i64, Qa2]
def Q9q (x : ay) : Prop := Q64 x.aG ∧ Q3g x.bD ∧ Q3g x.bS ∧ Q3g x.eP ∧ Q3g x.bY ∧ (okL 48 Q2c) x.aR ∧ Q9x x.aP ∧ (fun _ : Bool => True) x.dY ∧ (fun _ : Bool => True) x.fG ∧ Q82 x.eZ ∧ Q82 x.bO ∧ Q3g x.gN ∧ Qa1 x.aL
theorem Qjx {c : List PV} (h : Of Γ Qcy c) : ∃ x : ay, c = x.cells ∧ Q9q x := by
  have g0 := h.st1
  obtain ⟨a0, b0, rfl, h0, g1⟩ := g0.Qv
  obtain ⟨x0, rfl, k0⟩ := (Qdf h0)
  obtain ⟨a1, b1, rfl, h1, g2⟩ := g1.Qv
  obtain ⟨x1, rfl, k1⟩ := h1.i64
  obtain ⟨a2, b2, rfl, h2, g3⟩ := g2.Qv
  obtain ⟨x2, rfl, k2⟩ := h2.i64
  obtain ⟨a3, b3, rfl, h3, g4⟩ := g3.Qv
  obtain ⟨x3, rfl, k3⟩ := h3.i64
  obtain ⟨a4, b4, rfl, h4, g5⟩ := g4.Qv
  obtain ⟨x4, rfl, k4⟩ := h4.i64
  obtain ⟨a5, b5, rfl, h5, g6⟩ := g5.Qv
  obtain ⟨x5, rfl, k5⟩ := (h5.sl1 (f := aj.cells) (ok := Q2c) fun r hr => (Q3v hr))
  obtain ⟨a6, b6, rfl, h6, g7⟩ := g6.Qv
  obtain ⟨x6, rfl, k6⟩ := (Q9y h6)
  obtain ⟨a7, b7, rfl, h7, g8⟩ := g7.Qv
  obtain ⟨x7, rfl, k7⟩ := h7.bool2
  obtain ⟨a8, b8, rfl, h8, g9⟩ := g8.Qv
  obtain ⟨x8, rfl, k8⟩ := h8.bool2
  obtain ⟨a9, b9, rfl, h9, g10⟩ := g9.Qv
  obtain ⟨x9, rfl, k9⟩ := (Q9n h9)
  obtain ⟨a10, b10, rfl, h10, g11⟩ := g10.Qv
  obtain ⟨x10, rfl, k10⟩ := (Q9n h10)
  obtain ⟨a11, b11, rfl, h11, g12⟩ := g11.Qv
  obtain ⟨x11, rfl, k11⟩ := h11.i64
  obtain ⟨a12, b12, rfl, h12, g13⟩ := g12.Qv
  obtain ⟨x12, rfl, k12⟩ := (Qaz h12)
  have e := g13.empty
  subst e
  exact ⟨⟨x0, x1, x2, x3, x4, x5, x6, x7, x8, x9, x10, x11, x12⟩, rfl, ⟨k0, k1, k2, k3, k4, k5, k6, k7, k8, k9, k10, k11, k12⟩⟩
def Qdl : Ty := .st [Qlp, .int .i64, .int .i64, .int .i64, .sl 48 Q43, Q9z, Qa2]
def Q9v (x : aF) : Prop := Q64 x.aG ∧ Q3g x.bD ∧ Q3g x.bS ∧ Q3g x.dP ∧ (okL 48 Q2c) x.aR ∧ Q9x x.aP ∧ Qa1 x.aL
theorem Qls {c : List PV} (h : Of Γ Qdl c) : ∃ x : aF, c = x.cells ∧ Q9v x := by
  have g0 := h.st1
  obtain ⟨a0, b0, rfl, h0, g1⟩ := g0.Qv
  obtain ⟨x0, rfl, k0⟩ := (Qdf h0)
  obtain ⟨a1, b1, rfl, h1, g2⟩ := g1.Qv
  obtain ⟨x1, rfl, k1⟩ := h1.i64
  obtain ⟨a2, b2, rfl, h2, g3⟩ := g2.Qv
  obtain ⟨x2, rfl, k2⟩ := h2.i64
  obtain ⟨a3, b3, rfl, h3, g4⟩ := g3.Qv
  obtain ⟨x3, rfl, k3⟩ := h3.i64
  obtain ⟨a4, b4, rfl, h4, g5⟩ := g4.Qv
  obtain ⟨x4, rfl, k4⟩ := (h4.sl1 (f := aj.cells) (ok := Q2c) fun r hr => (Q3v hr))
  obtain ⟨a5, b5, rfl, h5, g6⟩ := g5.Qv
  obtain ⟨x5, rfl, k5⟩ := (Q9y h5)
  obtain ⟨a6, b6, rfl, h6, g7⟩ := g6.Qv
  obtain ⟨x6, rfl, k6⟩ := (Qaz h6)
  have e := g7.empty
  subst e
  exact ⟨⟨x0, x1, x2, x3, x4, x5, x6⟩, rfl, ⟨k0, k1, k2, k3, k4, k5, k6⟩⟩
def Q1o5 : Ty := .st [Qlp, .int .i64, .int .i64, .int .i64, .int .i64, .bool, .bool, Q9z, .int .i64, .int .i64, .int .i64, .int .i64, .int .i64, .sl 8 (.int .i64), .int .i64]
def Q1gy (x : bQ) : Prop := Q64 x.aG ∧ Q3g x.cB ∧ Q3g x.dn ∧ Q3g x.eu ∧ Q3g x.bY ∧ (fun _ : Bool => True) x.dZ ∧ (fun _ : Bool => True) x.d9 ∧ Q9x x.aP ∧ Q3g x.fB ∧ Q3g x.dK ∧ Q3g x.bA ∧ Q3g x.started ∧ Q3g x.dU ∧ (okL 8 Q3g) x.done ∧ Q3g x.fq
theorem Q1ln {c : List PV} (h : Of Γ Q1o5 c) : ∃ x : bQ, c = x.cells ∧ Q1gy x := by
  have g0 := h.st1
  obtain ⟨a0, b0, rfl, h0, g1⟩ := g0.Qv
  obtain ⟨x0, rfl, k0⟩ := (Qdf h0)
  obtain ⟨a1, b1, rfl, h1, g2⟩ := g1.Qv
  obtain ⟨x1, rfl, k1⟩ := h1.i64
  obtain ⟨a2, b2, rfl, h2, g3⟩ := g2.Qv
  obtain ⟨x2, rfl, k2⟩ := h2.i64
  obtain ⟨a3, b3, rfl, h3, g4⟩ := g3.Qv
  obtain ⟨x3, rfl, k3⟩ := h3.i64
  obtain ⟨a4, b4, rfl, h4, g5⟩ := g4.Qv
  obtain ⟨x4, rfl, k4⟩ := h4.i64
  obtain ⟨a5, b5, rfl, h5, g6⟩ := g5.Qv
  obtain ⟨x5, rfl, k5⟩ := h5.bool2
  obtain ⟨a6, b6, rfl, h6, g7⟩ := g6.Qv
  obtain ⟨x6, rfl, k6⟩ := h6.bool2
  obtain ⟨a7, b7, rfl, h7, g8⟩ := g7.Qv
  obtain ⟨x7, rfl, k7⟩ := (Q9y h7)
  obtain ⟨a8, b8, rfl, h8, g9⟩ := g8.Qv
  obtain ⟨x8, rfl, k8⟩ := h8.i64
  obtain ⟨a9, b9, rfl, h9, g10⟩ := g9.Qv
  obtain ⟨x9, rfl, k9⟩ := h9.i64
  obtain ⟨a10, b10, rfl, h10, g11⟩ := g10.Qv
  obtain ⟨x10, rfl, k10⟩ := h10.i64
  obtain ⟨a11, b11, rfl, h11, g12⟩ := g11.Qv
  obtain ⟨x11, rfl, k11⟩ := h11.i64
  obtain ⟨a12, b12, rfl, h12, g13⟩ := g12.Qv
  obtain ⟨x12, rfl, k12⟩ := h12.i64
  obtain ⟨a13, b13, rfl, h13, g14⟩ := g13.Qv
  obtain ⟨x13, rfl, k13⟩ := (h13.sl1 (f := (fun n : Int => [.int .i64 n])) (ok := Q3g) fun r hr => hr.i64)
  obtain ⟨a14, b14, rfl, h14, g15⟩ := g14.Qv
  obtain ⟨x14, rfl, k14⟩ := h14.i64
  have e := g15.empty
  subst e
  exact ⟨⟨x0, x1, x2, x3, x4, x5, x6, x7, x8, x9, x10, x11, x12, x13, x14⟩, rfl, ⟨k0, k1, k2, k3, k4, k5, k6, k7, k8, k9, k10, k11, k12, k13, k14⟩⟩
def Qlx : Ty := .st [.str, .int .i64]
def Qci (x : aK) : Prop := okS x.key ∧ Q3g x.at_
theorem Qx6 {c : List PV} (h : Of Γ Qlx c) : ∃ x : aK, c = x.cells ∧ Qci x := by
  have g0 := h.st1
  obtain ⟨a0, b0, rfl, h0, g1⟩ := g0.Qv
  obtain ⟨x0, rfl, k0⟩ := h0.str1
  obtain ⟨a1, b1, rfl, h1, g2⟩ := g1.Qv
  obtain ⟨x1, rfl, k1⟩ := h1.i64
  have e := g2.empty
  subst e
  exact ⟨⟨x0, x1⟩, rfl, ⟨k0, k1⟩⟩
def Qyr : Ty := .st [Qlp, .sl 48 Q43, .sl 16 Qaq, .sl 16 Qaq, .int .i64, .int .i64, .int .i64, .int .i64, .int .i64, .sl 24 Qlx]
def Qjv (x : aQ) : Prop := Q64 x.aG ∧ (okL 48 Q2c) x.aR ∧ (okL 16 Q82) x.bX ∧ (okL 16 Q82) x.bM ∧ Q3g x.bV ∧ Q3g x.eO ∧ Q3g x.eF ∧ Q3g x.dX ∧ Q3g x.eD ∧ (okL 24 Qci) x.bN
theorem Q13i {c : List PV} (h : Of Γ Qyr c) : ∃ x : aQ, c = x.cells ∧ Qjv x := by
  have g0 := h.st1
  obtain ⟨a0, b0, rfl, h0, g1⟩ := g0.Qv
  obtain ⟨x0, rfl, k0⟩ := (Qdf h0)
  obtain ⟨a1, b1, rfl, h1, g2⟩ := g1.Qv
  obtain ⟨x1, rfl, k1⟩ := (h1.sl1 (f := aj.cells) (ok := Q2c) fun r hr => (Q3v hr))
  obtain ⟨a2, b2, rfl, h2, g3⟩ := g2.Qv
  obtain ⟨x2, rfl, k2⟩ := (h2.sl1 (f := aJ.cells) (ok := Q82) fun r hr => (Q9n hr))
  obtain ⟨a3, b3, rfl, h3, g4⟩ := g3.Qv
  obtain ⟨x3, rfl, k3⟩ := (h3.sl1 (f := aJ.cells) (ok := Q82) fun r hr => (Q9n hr))
  obtain ⟨a4, b4, rfl, h4, g5⟩ := g4.Qv
  obtain ⟨x4, rfl, k4⟩ := h4.i64
  obtain ⟨a5, b5, rfl, h5, g6⟩ := g5.Qv
  obtain ⟨x5, rfl, k5⟩ := h5.i64
  obtain ⟨a6, b6, rfl, h6, g7⟩ := g6.Qv
  obtain ⟨x6, rfl, k6⟩ := h6.i64
  obtain ⟨a7, b7, rfl, h7, g8⟩ := g7.Qv
  obtain ⟨x7, rfl, k7⟩ := h7.i64
  obtain ⟨a8, b8, rfl, h8, g9⟩ := g8.Qv
  obtain ⟨x8, rfl, k8⟩ := h8.i64
  obtain ⟨a9, b9, rfl, h9, g10⟩ := g9.Qv
  obtain ⟨x9, rfl, k9⟩ := (h9.sl1 (f := aK.cells) (ok := Qci) fun r hr => (Qx6 hr))
  have e := g10.empty
  subst e
  exact ⟨⟨x0, x1, x2, x3, x4, x5, x6, x7, x8, x9⟩, rfl, ⟨k0, k1, k2, k3, k4, k5, k6, k7, k8, k9⟩⟩
def Q3h (N : Nat) (x : aj) : Prop := (fun s : ByteArray => s.size ≤ N) x.key ∧ (fun l : List ByteArray => l.length ≤ N ∧ ∀ x ∈ l, (fun s : ByteArray => s.size ≤ N) x) x.dF
theorem Q3l {N : Nat} {x : aj} (h : CapL N x.cells) : Q3h N x := ⟨(let g : CapL N [.str x.key] := fun p hp => h p (by simp only [List.mem_cons, List.not_mem_nil, or_false] at hp; rcases hp with rfl <;> simp [aj.cells]); (g _ List.mem_cons_self).strI), (let g : CapL N [.sl (Q18 x.dF)] := fun p hp => h p (by simp only [List.mem_cons, List.not_mem_nil, or_false] at hp; rcases hp with rfl <;> simp [aj.cells]); (let r := Cap.Q7e (f := (fun s : ByteArray => [.str s])) (g _ List.mem_cons_self); ⟨r.1, fun x hx => ((r.2 x hx) _ List.mem_cons_self).strI⟩))⟩
theorem aj.Q2t {N : Nat} (hN : N ≤ sB) {x : aj} (c : Q3h N x) : aj.sm x := ⟨⟨Nat.le_trans c.2.1 hN, fun _ _hx => trivial⟩, trivial⟩
def Qdc (N : Nat) (x : aX) : Prop := (fun s : ByteArray => s.size ≤ N) x.key ∧ (fun s : ByteArray => s.size ≤ N) x.value
theorem Qln {N : Nat} {x : aX} (h : CapL N x.cells) : Qdc N x := ⟨(let g : CapL N [.str x.key] := fun p hp => h p (by simp only [List.mem_cons, List.not_mem_nil, or_false] at hp; rcases hp with rfl <;> simp [aX.cells]); (g _ List.mem_cons_self).strI), (let g : CapL N [.str x.value] := fun p hp => h p (by simp only [List.mem_cons, List.not_mem_nil, or_false] at hp; rcases hp with rfl <;> simp [aX.cells]); (g _ List.mem_cons_self).strI)⟩
theorem aX.Q2t {N : Nat} (_ : N ≤ sB) {x : aX} (_ : Qdc N x) : aX.sm x := trivial
def Q7p (_N : Nat) (_x : bf) : Prop := True
theorem Qav {N : Nat} {x : bf} (_h : CapL N x.cells) : Q7p N x := trivial
theorem bf.Q2t {N : Nat} (_ : N ≤ sB) {x : bf} (_ : Q7p N x) : bf.sm x := trivial
def Qau (_N : Nat) (_x : bn) : Prop := True
theorem Qcf {N : Nat} {x : bn} (_h : CapL N x.cells) : Qau N x := trivial
theorem bn.Q2t {N : Nat} (_ : N ≤ sB) {x : bn} (_ : Qau N x) : bn.sm x := trivial
def Q9p (N : Nat) (x : aD) : Prop := (fun s : ByteArray => s.size ≤ N) x.name ∧ (fun s : ByteArray => s.size ≤ N) x.fT ∧ (Q7p N) x.dM ∧ (Q7p N) x.fC ∧ (fun l : List bn => l.length ≤ N ∧ ∀ x ∈ l, (Qau N) x) x.live ∧ (fun l : List bn => l.length ≤ N ∧ ∀ x ∈ l, (Qau N) x) x.ready ∧ (fun l : List bn => l.length ≤ N ∧ ∀ x ∈ l, (Qau N) x) x.dV
theorem Qjw {N : Nat} {x : aD} (h : CapL N x.cells) : Q9p N x := ⟨(let g : CapL N [.str x.name] := fun p hp => h p (by simp only [List.mem_cons, List.not_mem_nil, or_false] at hp; rcases hp with rfl <;> simp [aD.cells]); (g _ List.mem_cons_self).strI), (let g : CapL N [.str x.fT] := fun p hp => h p (by simp only [List.mem_cons, List.not_mem_nil, or_false] at hp; rcases hp with rfl <;> simp [aD.cells]); (g _ List.mem_cons_self).strI), (let g : CapL N [.int .i64 x.dM.gZ, .int .i64 x.dM.eU, .int .i64 x.dM.gI] := fun p hp => h p (by simp only [List.mem_cons, List.not_mem_nil, or_false] at hp; rcases hp with rfl | rfl | rfl <;> simp [aD.cells]); (Qav g)), (let g : CapL N [.int .i64 x.fC.gZ, .int .i64 x.fC.eU, .int .i64 x.fC.gI] := fun p hp => h p (by simp only [List.mem_cons, List.not_mem_nil, or_false] at hp; rcases hp with rfl | rfl | rfl <;> simp [aD.cells]); (Qav g)), (let g : CapL N [.sl (bn.rows x.live)] := fun p hp => h p (by simp only [List.mem_cons, List.not_mem_nil, or_false] at hp; rcases hp with rfl <;> simp [aD.cells]); (let r := Cap.Q7e (f := bn.cells) (g _ List.mem_cons_self); ⟨r.1, fun x hx => (Qcf (r.2 x hx))⟩)), (let g : CapL N [.sl (bn.rows x.ready)] := fun p hp => h p (by simp only [List.mem_cons, List.not_mem_nil, or_false] at hp; rcases hp with rfl <;> simp [aD.cells]); (let r := Cap.Q7e (f := bn.cells) (g _ List.mem_cons_self); ⟨r.1, fun x hx => (Qcf (r.2 x hx))⟩)), (let g : CapL N [.sl (bn.rows x.dV)] := fun p hp => h p (by simp only [List.mem_cons, List.not_mem_nil, or_false] at hp; rcases hp with rfl <;> simp [aD.cells]); (let r := Cap.Q7e (f := bn.cells) (g _ List.mem_cons_self); ⟨r.1, fun x hx => (Qcf (r.2 x hx))⟩))⟩
theorem aD.Q2t {N : Nat} (hN : N ≤ sB) {x : aD} (c : Q9p N x) : aD.sm x := ⟨bf.Q2t hN c.2.2.1, bf.Q2t hN c.2.2.2.1, ⟨Nat.le_trans c.2.2.2.2.1.1 hN, fun _ hx => bn.Q2t hN (c.2.2.2.2.1.2 _ hx)⟩, ⟨Nat.le_trans c.2.2.2.2.2.1.1 hN, fun _ hx => bn.Q2t hN (c.2.2.2.2.2.1.2 _ hx)⟩, ⟨Nat.le_trans c.2.2.2.2.2.2.1 hN, fun _ hx => bn.Q2t hN (c.2.2.2.2.2.2.2 _ hx)⟩, trivial⟩
def Qat (N : Nat) (x : aI) : Prop := (fun l : List aj => l.length ≤ N ∧ ∀ x ∈ l, (Q3h N) x) x.aR
theorem Qp3 {N : Nat} {x : aI} (h : CapL N x.cells) : Qat N x := (let g : CapL N [.sl (aj.rows x.aR)] := fun p hp => h p (by simp only [List.mem_cons, List.not_mem_nil, or_false] at hp; rcases hp with rfl <;> simp [aI.cells]); (let r := Cap.Q7e (f := aj.cells) (g _ List.mem_cons_self); ⟨r.1, fun x hx => (Q3l (r.2 x hx))⟩))
theorem aI.Q2t {N : Nat} (hN : N ≤ sB) {x : aI} (c : Qat N x) : aI.sm x := ⟨⟨Nat.le_trans c.1 hN, fun _ hx => aj.Q2t hN (c.2 _ hx)⟩, trivial⟩
def Qce (N : Nat) (x : aM) : Prop := (fun l : List aj => l.length ≤ N ∧ ∀ x ∈ l, (Q3h N) x) x.aR ∧ (fun s : ByteArray => s.size ≤ N) x.bW
theorem Qx1 {N : Nat} {x : aM} (h : CapL N x.cells) : Qce N x := ⟨(let g : CapL N [.sl (aj.rows x.aR)] := fun p hp => h p (by simp only [List.mem_cons, List.not_mem_nil, or_false] at hp; rcases hp with rfl <;> simp [aM.cells]); (let r := Cap.Q7e (f := aj.cells) (g _ List.mem_cons_self); ⟨r.1, fun x hx => (Q3l (r.2 x hx))⟩)), (let g : CapL N [.str x.bW] := fun p hp => h p (by simp only [List.mem_cons, List.not_mem_nil, or_false] at hp; rcases hp with rfl <;> simp [aM.cells]); (g _ List.mem_cons_self).strI)⟩
theorem aM.Q2t {N : Nat} (hN : N ≤ sB) {x : aM} (c : Qce N x) : aM.sm x := ⟨⟨Nat.le_trans c.1.1 hN, fun _ hx => aj.Q2t hN (c.1.2 _ hx)⟩, trivial⟩
def Q8r (N : Nat) (x : aC) : Prop := (fun s : ByteArray => s.size ≤ N) x.bW ∧ (fun l : List aj => l.length ≤ N ∧ ∀ x ∈ l, (Q3h N) x) x.aR
theorem Qg3 {N : Nat} {x : aC} (h : CapL N x.cells) : Q8r N x := ⟨(let g : CapL N [.str x.bW] := fun p hp => h p (by simp only [List.mem_cons, List.not_mem_nil, or_false] at hp; rcases hp with rfl <;> simp [aC.cells]); (g _ List.mem_cons_self).strI), (let g : CapL N [.sl (aj.rows x.aR)] := fun p hp => h p (by simp only [List.mem_cons, List.not_mem_nil, or_false] at hp; rcases hp with rfl <;> simp [aC.cells]); (let r := Cap.Q7e (f := aj.cells) (g _ List.mem_cons_self); ⟨r.1, fun x hx => (Q3l (r.2 x hx))⟩))⟩
theorem aC.Q2t {N : Nat} (hN : N ≤ sB) {x : aC} (c : Q8r N x) : aC.sm x := ⟨⟨Nat.le_trans c.2.1 hN, fun _ hx => aj.Q2t hN (c.2.2 _ hx)⟩, trivial⟩
def Q8t (N : Nat) (x : aA) : Prop := (fun s : ByteArray => s.size ≤ N) x.key ∧ (fun s : ByteArray => s.size ≤ N) x.value
theorem Qg4 {N : Nat} {x : aA} (h : CapL N x.cells) : Q8t N x := ⟨(let g : CapL N [.str x.key] := fun p hp => h p (by simp only [List.mem_cons, List.not_mem_nil, or_false] at hp; rcases hp with rfl <;> simp [aA.cells]); (g _ List.mem_cons_self).strI), (let g : CapL N [.str x.value] := fun p hp => h p (by simp only [List.mem_cons, List.not_mem_nil, or_false] at hp; rcases hp with rfl <;> simp [aA.cells]); (g _ List.mem_cons_self).strI)⟩
theorem aA.Q2t {N : Nat} (_ : N ≤ sB) {x : aA} (_ : Q8t N x) : aA.sm x := trivial
def Qcd (N : Nat) (x : aY) : Prop := (fun s : ByteArray => s.size ≤ N) x.fV ∧ (fun l : List aD => l.length ≤ N ∧ ∀ x ∈ l, (Q9p N) x) x.bZ ∧ (fun l : List aj => l.length ≤ N ∧ ∀ x ∈ l, (Q3h N) x) x.bL ∧ (fun l : List aI => l.length ≤ N ∧ ∀ x ∈ l, (Qat N) x) x.cO ∧ (fun l : List aM => l.length ≤ N ∧ ∀ x ∈ l, (Qce N) x) x.dw ∧ (fun l : List aC => l.length ≤ N ∧ ∀ x ∈ l, (Q8r N) x) x.dR ∧ (fun l : List aA => l.length ≤ N ∧ ∀ x ∈ l, (Q8t N) x) x.bP
theorem Qx0 {N : Nat} {x : aY} (h : CapL N x.cells) : Qcd N x := ⟨(let g : CapL N [.str x.fV] := fun p hp => h p (by simp only [List.mem_cons, List.not_mem_nil, or_false] at hp; rcases hp with rfl <;> simp [aY.cells]); (g _ List.mem_cons_self).strI), (let g : CapL N [.sl (aD.rows x.bZ)] := fun p hp => h p (by simp only [List.mem_cons, List.not_mem_nil, or_false] at hp; rcases hp with rfl <;> simp [aY.cells]); (let r := Cap.Q7e (f := aD.cells) (g _ List.mem_cons_self); ⟨r.1, fun x hx => (Qjw (r.2 x hx))⟩)), (let g : CapL N [.sl (aj.rows x.bL)] := fun p hp => h p (by simp only [List.mem_cons, List.not_mem_nil, or_false] at hp; rcases hp with rfl <;> simp [aY.cells]); (let r := Cap.Q7e (f := aj.cells) (g _ List.mem_cons_self); ⟨r.1, fun x hx => (Q3l (r.2 x hx))⟩)), (let g : CapL N [.sl (aI.rows x.cO)] := fun p hp => h p (by simp only [List.mem_cons, List.not_mem_nil, or_false] at hp; rcases hp with rfl <;> simp [aY.cells]); (let r := Cap.Q7e (f := aI.cells) (g _ List.mem_cons_self); ⟨r.1, fun x hx => (Qp3 (r.2 x hx))⟩)), (let g : CapL N [.sl (aM.rows x.dw)] := fun p hp => h p (by simp only [List.mem_cons, List.not_mem_nil, or_false] at hp; rcases hp with rfl <;> simp [aY.cells]); (let r := Cap.Q7e (f := aM.cells) (g _ List.mem_cons_self); ⟨r.1, fun x hx => (Qx1 (r.2 x hx))⟩)), (let g : CapL N [.sl (aC.rows x.dR)] := fun p hp => h p (by simp only [List.mem_cons, List.not_mem_nil, or_false] at hp; rcases hp with rfl <;> simp [aY.cells]); (let r := Cap.Q7e (f := aC.cells) (g _ List.mem_cons_self); ⟨r.1, fun x hx => (Qg3 (r.2 x hx))⟩)), (let g : CapL N [.sl (aA.rows x.bP)] := fun p hp => h p (by simp only [List.mem_cons, List.not_mem_nil, or_false] at hp; rcases hp with rfl <;> simp [aY.cells]); (let r := Cap.Q7e (f := aA.cells) (g _ List.mem_cons_self); ⟨r.1, fun x hx => (Qg4 (r.2 x hx))⟩))⟩
theorem aY.Q2t {N : Nat} (hN : N ≤ sB) {x : aY} (c : Qcd N x) : aY.sm x := ⟨⟨Nat.le_trans c.2.1.1 hN, fun _ hx => aD.Q2t hN (c.2.1.2 _ hx)⟩, ⟨Nat.le_trans c.2.2.1.1 hN, fun _ hx => aj.Q2t hN (c.2.2.1.2 _ hx)⟩, ⟨Nat.le_trans c.2.2.2.1.1 hN, fun _ hx => aI.Q2t hN (c.2.2.2.1.2 _ hx)⟩, ⟨Nat.le_trans c.2.2.2.2.1.1 hN, fun _ hx => aM.Q2t hN (c.2.2.2.2.1.2 _ hx)⟩, ⟨Nat.le_trans c.2.2.2.2.2.1.1 hN, fun _ hx => aC.Q2t hN (c.2.2.2.2.2.1.2 _ hx)⟩, ⟨Nat.le_trans c.2.2.2.2.2.2.1 hN, fun _ hx => aA.Q2t hN (c.2.2.2.2.2.2.2 _ hx)⟩, trivial⟩
def Q7c (N : Nat) (x : aU) : Prop := (fun l : List aX => l.length ≤ N ∧ ∀ x ∈ l, (Qdc N) x) x.bH ∧ (Qcd N) x.aS
theorem Q8s {N : Nat} {x : aU} (h : CapL N x.cells) : Q7c N x := ⟨(let g : CapL N [.sl (aX.rows x.bH)] := fun p hp => h p (by simp only [List.mem_cons, List.not_mem_nil, or_false] at hp; rcases hp with rfl <;> simp [aU.cells]); (let r := Cap.Q7e (f := aX.cells) (g _ List.mem_cons_self); ⟨r.1, fun x hx => (Qln (r.2 x hx))⟩)), (let g : CapL N [.str x.aS.fV, .int .i64 x.aS.dH, .int .i64 x.aS.dO, .int .i64 x.aS.fD, .sl (aD.rows x.aS.bZ), .sl (aj.rows x.aS.bL), .sl (aI.rows x.aS.cO), .sl (aM.rows x.aS.dw), .sl (aC.rows x.aS.dR), .sl (aA.rows x.aS.bP)] := fun p hp => h p (by simp only [List.mem_cons, List.not_mem_nil, or_false] at hp; rcases hp with rfl | rfl | rfl | rfl | rfl | rfl | rfl | rfl | rfl | rfl <;> simp [aU.cells]); (Qx0 g))⟩
theorem aU.Q2t {N : Nat} (hN : N ≤ sB) {x : aU} (c : Q7c N x) : aU.sm x := ⟨⟨Nat.le_trans c.1.1 hN, fun _ hx => aX.Q2t hN (c.1.2 _ hx)⟩, aY.Q2t hN c.2, trivial⟩
def Q7v (_N : Nat) (_x : aJ) : Prop := True
theorem Q8e {N : Nat} {x : aJ} (_h : CapL N x.cells) : Q7v N x := trivial
theorem aJ.Q2t {N : Nat} (_ : N ≤ sB) {x : aJ} (_ : Q7v N x) : aJ.sm x := trivial
def Q79 (_N : Nat) (_x : aO) : Prop := True
theorem Qah {N : Nat} {x : aO} (_h : CapL N x.cells) : Q79 N x := trivial
theorem aO.Q2t {N : Nat} (_ : N ≤ sB) {x : aO} (_ : Q79 N x) : aO.sm x := trivial
def Qay (N : Nat) (x : aK) : Prop := (fun s : ByteArray => s.size ≤ N) x.key
theorem Qp4 {N : Nat} {x : aK} (h : CapL N x.cells) : Qay N x := (let g : CapL N [.str x.key] := fun p hp => h p (by simp only [List.mem_cons, List.not_mem_nil, or_false] at hp; rcases hp with rfl <;> simp [aK.cells]); (g _ List.mem_cons_self).strI)
theorem aK.Q2t {N : Nat} (_ : N ≤ sB) {x : aK} (_ : Qay N x) : aK.sm x := trivial
def Q101 (N : Nat) (x : cu) : Prop := (fun s : ByteArray => s.size ≤ N) x.kind ∧ (fun s : ByteArray => s.size ≤ N) x.name
theorem Q13s {N : Nat} {x : cu} (h : CapL N x.cells) : Q101 N x := ⟨(let g : CapL N [.str x.kind] := fun p hp => h p (by simp only [List.mem_cons, List.not_mem_nil, or_false] at hp; rcases hp with rfl <;> simp [cu.cells]); (g _ List.mem_cons_self).strI), (let g : CapL N [.str x.name] := fun p hp => h p (by simp only [List.mem_cons, List.not_mem_nil, or_false] at hp; rcases hp with rfl <;> simp [cu.cells]); (g _ List.mem_cons_self).strI)⟩
def Qlo (N : Nat) (x : bB) : Prop := (fun s : ByteArray => s.size ≤ N) x.name ∧ (fun l : List ByteArray => l.length ≤ N ∧ ∀ x ∈ l, (fun s : ByteArray => s.size ≤ N) x) x.fields
theorem Qvd {N : Nat} {x : bB} (h : CapL N x.cells) : Qlo N x := ⟨(let g : CapL N [.str x.name] := fun p hp => h p (by simp only [List.mem_cons, List.not_mem_nil, or_false] at hp; rcases hp with rfl <;> simp [bB.cells]); (g _ List.mem_cons_self).strI), (let g : CapL N [.sl (Q18 x.fields)] := fun p hp => h p (by simp only [List.mem_cons, List.not_mem_nil, or_false] at hp; rcases hp with rfl <;> simp [bB.cells]); (let r := Cap.Q7e (f := (fun s : ByteArray => [.str s])) (g _ List.mem_cons_self); ⟨r.1, fun x hx => ((r.2 x hx) _ List.mem_cons_self).strI⟩))⟩
def Qde (N : Nat) (x : bJ) : Prop := (fun s : ByteArray => s.size ≤ N) x.kind ∧ (fun s : ByteArray => s.size ≤ N) x.bK ∧ (fun s : ByteArray => s.size ≤ N) x.name ∧ (fun l : List aX => l.length ≤ N ∧ ∀ x ∈ l, (Qdc N) x) x.bH ∧ (fun l : List cu => l.length ≤ N ∧ ∀ x ∈ l, (Q101 N) x) x.bT ∧ (fun l : List ByteArray => l.length ≤ N ∧ ∀ x ∈ l, (fun s : ByteArray => s.size ≤ N) x) x.bF ∧ (fun l : List bB => l.length ≤ N ∧ ∀ x ∈ l, (Qlo N) x) x.aZ
theorem Qbk {N : Nat} {x : bJ} (h : CapL N x.cells) : Qde N x := ⟨(let g : CapL N [.str x.kind] := fun p hp => h p (by simp only [List.mem_cons, List.not_mem_nil, or_false] at hp; rcases hp with rfl <;> simp [bJ.cells]); (g _ List.mem_cons_self).strI), (let g : CapL N [.str x.bK] := fun p hp => h p (by simp only [List.mem_cons, List.not_mem_nil, or_false] at hp; rcases hp with rfl <;> simp [bJ.cells]); (g _ List.mem_cons_self).strI), (let g : CapL N [.str x.name] := fun p hp => h p (by simp only [List.mem_cons, List.not_mem_nil, or_false] at hp; rcases hp with rfl <;> simp [bJ.cells]); (g _ List.mem_cons_self).strI), (let g : CapL N [.sl (aX.rows x.bH)] := fun p hp => h p (by simp only [List.mem_cons, List.not_mem_nil, or_false] at hp; rcases hp with rfl <;> simp [bJ.cells]); (let r := Cap.Q7e (f := aX.cells) (g _ List.mem_cons_self); ⟨r.1, fun x hx => (Qln (r.2 x hx))⟩)), (let g : CapL N [.sl (cu.rows x.bT)] := fun p hp => h p (by simp only [List.mem_cons, List.not_mem_nil, or_false] at hp; rcases hp with rfl <;> simp [bJ.cells]); (let r := Cap.Q7e (f := cu.cells) (g _ List.mem_cons_self); ⟨r.1, fun x hx => (Q13s (r.2 x hx))⟩)), (let g : CapL N [.sl (Q18 x.bF)] := fun p hp => h p (by simp only [List.mem_cons, List.not_mem_nil, or_false] at hp; rcases hp with rfl <;> simp [bJ.cells]); (let r := Cap.Q7e (f := (fun s : ByteArray => [.str s])) (g _ List.mem_cons_self); ⟨r.1, fun x hx => ((r.2 x hx) _ List.mem_cons_self).strI⟩)), (let g : CapL N [.sl (bB.rows x.aZ)] := fun p hp => h p (by simp only [List.mem_cons, List.not_mem_nil, or_false] at hp; rcases hp with rfl <;> simp [bJ.cells]); (let r := Cap.Q7e (f := bB.cells) (g _ List.mem_cons_self); ⟨r.1, fun x hx => (Qvd (r.2 x hx))⟩))⟩
def Qva (N : Nat) (x : bQ) : Prop := (Qde N) x.aG ∧ (Q7c N) x.aP ∧ (fun l : List Int => l.length ≤ N) x.done
theorem Q1gx {N : Nat} {x : bQ} (h : CapL N x.cells) : Qva N x := ⟨(let g : CapL N [.str x.aG.kind, .str x.aG.bK, .str x.aG.name, .int .i64 x.aG.gM, .int .i64 x.aG.dA, .int .i64 x.aG.bR, .int .i64 x.aG.dz, .bool x.aG.dh, .int .i64 x.aG.cZ, .sl (aX.rows x.aG.bH), .sl (cu.rows x.aG.bT), .sl (Q18 x.aG.bF), .sl (bB.rows x.aG.aZ)] := fun p hp => h p (by simp only [List.mem_cons, List.not_mem_nil, or_false] at hp; rcases hp with rfl | rfl | rfl | rfl | rfl | rfl | rfl | rfl | rfl | rfl | rfl | rfl | rfl <;> simp [bQ.cells]); (Qbk g)), (let g : CapL N [.sl (aX.rows x.aP.bH), .str x.aP.aS.fV, .int .i64 x.aP.aS.dH, .int .i64 x.aP.aS.dO, .int .i64 x.aP.aS.fD, .sl (aD.rows x.aP.aS.bZ), .sl (aj.rows x.aP.aS.bL), .sl (aI.rows x.aP.aS.cO), .sl (aM.rows x.aP.aS.dw), .sl (aC.rows x.aP.aS.dR), .sl (aA.rows x.aP.aS.bP)] := fun p hp => h p (by simp only [List.mem_cons, List.not_mem_nil, or_false] at hp; rcases hp with rfl | rfl | rfl | rfl | rfl | rfl | rfl | rfl | rfl | rfl | rfl <;> simp [bQ.cells]); (Q8s g)), (let g : CapL N [.sl (Q3m x.done)] := fun p hp => h p (by simp only [List.mem_cons, List.not_mem_nil, or_false] at hp; rcases hp with rfl <;> simp [bQ.cells]); (Cap.Q7e (f := (fun n : Int => [.int .i64 n])) (g _ List.mem_cons_self)).1)⟩
def Q77 (N : Nat) (x : ay) : Prop := (Qde N) x.aG ∧ (fun l : List aj => l.length ≤ N ∧ ∀ x ∈ l, (Q3h N) x) x.aR ∧ (Q7c N) x.aP ∧ (Q7v N) x.eZ ∧ (Q7v N) x.bO ∧ (Q79 N) x.aL
theorem Qg0 {N : Nat} {x : ay} (h : CapL N x.cells) : Q77 N x := ⟨(let g : CapL N [.str x.aG.kind, .str x.aG.bK, .str x.aG.name, .int .i64 x.aG.gM, .int .i64 x.aG.dA, .int .i64 x.aG.bR, .int .i64 x.aG.dz, .bool x.aG.dh, .int .i64 x.aG.cZ, .sl (aX.rows x.aG.bH), .sl (cu.rows x.aG.bT), .sl (Q18 x.aG.bF), .sl (bB.rows x.aG.aZ)] := fun p hp => h p (by simp only [List.mem_cons, List.not_mem_nil, or_false] at hp; rcases hp with rfl | rfl | rfl | rfl | rfl | rfl | rfl | rfl | rfl | rfl | rfl | rfl | rfl <;> simp [ay.cells]); (Qbk g)), (let g : CapL N [.sl (aj.rows x.aR)] := fun p hp => h p (by simp only [List.mem_cons, List.not_mem_nil, or_false] at hp; rcases hp with rfl <;> simp [ay.cells]); (let r := Cap.Q7e (f := aj.cells) (g _ List.mem_cons_self); ⟨r.1, fun x hx => (Q3l (r.2 x hx))⟩)), (let g : CapL N [.sl (aX.rows x.aP.bH), .str x.aP.aS.fV, .int .i64 x.aP.aS.dH, .int .i64 x.aP.aS.dO, .int .i64 x.aP.aS.fD, .sl (aD.rows x.aP.aS.bZ), .sl (aj.rows x.aP.aS.bL), .sl (aI.rows x.aP.aS.cO), .sl (aM.rows x.aP.aS.dw), .sl (aC.rows x.aP.aS.dR), .sl (aA.rows x.aP.aS.bP)] := fun p hp => h p (by simp only [List.mem_cons, List.not_mem_nil, or_false] at hp; rcases hp with rfl | rfl | rfl | rfl | rfl | rfl | rfl | rfl | rfl | rfl | rfl <;> simp [ay.cells]); (Q8s g)), (let g : CapL N [.bool x.eZ.dQ, .int .i64 x.eZ.n] := fun p hp => h p (by simp only [List.mem_cons, List.not_mem_nil, or_false] at hp; rcases hp with rfl | rfl <;> simp [ay.cells]); (Q8e g)), (let g : CapL N [.bool x.bO.dQ, .int .i64 x.bO.n] := fun p hp => h p (by simp only [List.mem_cons, List.not_mem_nil, or_false] at hp; rcases hp with rfl | rfl <;> simp [ay.cells]); (Q8e g)), (let g : CapL N [.int .i64 x.aL.bV, .int .i64 x.aL.bD, .int .i64 x.aL.dW, .int .i64 x.aL.ready, .int .i64 x.aL.dx, .int .i64 x.aL.dJ, .bool x.aL.bA] := fun p hp => h p (by simp only [List.mem_cons, List.not_mem_nil, or_false] at hp; rcases hp with rfl | rfl | rfl | rfl | rfl | rfl | rfl <;> simp [ay.cells]); (Qah g))⟩
theorem ay.Q2t {N : Nat} (hN : N ≤ sB) {x : ay} (c : Q77 N x) : ay.sm x := ⟨⟨Nat.le_trans c.2.1.1 hN, fun _ hx => aj.Q2t hN (c.2.1.2 _ hx)⟩, aU.Q2t hN c.2.2.1, aJ.Q2t hN c.2.2.2.1, aJ.Q2t hN c.2.2.2.2.1, aO.Q2t hN c.2.2.2.2.2, trivial⟩
def Q78 (N : Nat) (x : aF) : Prop := (Qde N) x.aG ∧ (fun l : List aj => l.length ≤ N ∧ ∀ x ∈ l, (Q3h N) x) x.aR ∧ (Q7c N) x.aP ∧ (Q79 N) x.aL
theorem Qg2 {N : Nat} {x : aF} (h : CapL N x.cells) : Q78 N x := ⟨(let g : CapL N [.str x.aG.kind, .str x.aG.bK, .str x.aG.name, .int .i64 x.aG.gM, .int .i64 x.aG.dA, .int .i64 x.aG.bR, .int .i64 x.aG.dz, .bool x.aG.dh, .int .i64 x.aG.cZ, .sl (aX.rows x.aG.bH), .sl (cu.rows x.aG.bT), .sl (Q18 x.aG.bF), .sl (bB.rows x.aG.aZ)] := fun p hp => h p (by simp only [List.mem_cons, List.not_mem_nil, or_false] at hp; rcases hp with rfl | rfl | rfl | rfl | rfl | rfl | rfl | rfl | rfl | rfl | rfl | rfl | rfl <;> simp [aF.cells]); (Qbk g)), (let g : CapL N [.sl (aj.rows x.aR)] := fun p hp => h p (by simp only [List.mem_cons, List.not_mem_nil, or_false] at hp; rcases hp with rfl <;> simp [aF.cells]); (let r := Cap.Q7e (f := aj.cells) (g _ List.mem_cons_self); ⟨r.1, fun x hx => (Q3l (r.2 x hx))⟩)), (let g : CapL N [.sl (aX.rows x.aP.bH), .str x.aP.aS.fV, .int .i64 x.aP.aS.dH, .int .i64 x.aP.aS.dO, .int .i64 x.aP.aS.fD, .sl (aD.rows x.aP.aS.bZ), .sl (aj.rows x.aP.aS.bL), .sl (aI.rows x.aP.aS.cO), .sl (aM.rows x.aP.aS.dw), .sl (aC.rows x.aP.aS.dR), .sl (aA.rows x.aP.aS.bP)] := fun p hp => h p (by simp only [List.mem_cons, List.not_mem_nil, or_false] at hp; rcases hp with rfl | rfl | rfl | rfl | rfl | rfl | rfl | rfl | rfl | rfl | rfl <;> simp [aF.cells]); (Q8s g)), (let g : CapL N [.int .i64 x.aL.bV, .int .i64 x.aL.bD, .int .i64 x.aL.dW, .int .i64 x.aL.ready, .int .i64 x.aL.dx, .int .i64 x.aL.dJ, .bool x.aL.bA] := fun p hp => h p (by simp only [List.mem_cons, List.not_mem_nil, or_false] at hp; rcases hp with rfl | rfl | rfl | rfl | rfl | rfl | rfl <;> simp [aF.cells]); (Qah g))⟩
theorem aF.Q2t {N : Nat} (hN : N ≤ sB) {x : aF} (c : Q78 N x) : aF.sm x := ⟨⟨Nat.le_trans c.2.1.1 hN, fun _ hx => aj.Q2t hN (c.2.1.2 _ hx)⟩, aU.Q2t hN c.2.2.1, aO.Q2t hN c.2.2.2, trivial⟩
theorem bQ.Q2t {N : Nat} (hN : N ≤ sB) {x : bQ} (c : Qva N x) : bQ.sm x := ⟨aU.Q2t hN c.2.1, ⟨Nat.le_trans c.2.2 hN, fun _ _hx => trivial⟩, trivial⟩
def Qbe (N : Nat) (x : aQ) : Prop := (Qde N) x.aG ∧ (fun l : List aj => l.length ≤ N ∧ ∀ x ∈ l, (Q3h N) x) x.aR ∧ (fun l : List aJ => l.length ≤ N ∧ ∀ x ∈ l, (Q7v N) x) x.bX ∧ (fun l : List aJ => l.length ≤ N ∧ ∀ x ∈ l, (Q7v N) x) x.bM ∧ (fun l : List aK => l.length ≤ N ∧ ∀ x ∈ l, (Qay N) x) x.bN
theorem Qyq {N : Nat} {x : aQ} (h : CapL N x.cells) : Qbe N x := ⟨(let g : CapL N [.str x.aG.kind, .str x.aG.bK, .str x.aG.name, .int .i64 x.aG.gM, .int .i64 x.aG.dA, .int .i64 x.aG.bR, .int .i64 x.aG.dz, .bool x.aG.dh, .int .i64 x.aG.cZ, .sl (aX.rows x.aG.bH), .sl (cu.rows x.aG.bT), .sl (Q18 x.aG.bF), .sl (bB.rows x.aG.aZ)] := fun p hp => h p (by simp only [List.mem_cons, List.not_mem_nil, or_false] at hp; rcases hp with rfl | rfl | rfl | rfl | rfl | rfl | rfl | rfl | rfl | rfl | rfl | rfl | rfl <;> simp [aQ.cells]); (Qbk g)), (let g : CapL N [.sl (aj.rows x.aR)] := fun p hp => h p (by simp only [List.mem_cons, List.not_mem_nil, or_false] at hp; rcases hp with rfl <;> simp [aQ.cells]); (let r := Cap.Q7e (f := aj.cells) (g _ List.mem_cons_self); ⟨r.1, fun x hx => (Q3l (r.2 x hx))⟩)), (let g : CapL N [.sl (aJ.rows x.bX)] := fun p hp => h p (by simp only [List.mem_cons, List.not_mem_nil, or_false] at hp; rcases hp with rfl <;> simp [aQ.cells]); (let r := Cap.Q7e (f := aJ.cells) (g _ List.mem_cons_self); ⟨r.1, fun x hx => (Q8e (r.2 x hx))⟩)), (let g : CapL N [.sl (aJ.rows x.bM)] := fun p hp => h p (by simp only [List.mem_cons, List.not_mem_nil, or_false] at hp; rcases hp with rfl <;> simp [aQ.cells]); (let r := Cap.Q7e (f := aJ.cells) (g _ List.mem_cons_self); ⟨r.1, fun x hx => (Q8e (r.2 x hx))⟩)), (let g : CapL N [.sl (aK.rows x.bN)] := fun p hp => h p (by simp only [List.mem_cons, List.not_mem_nil, or_false] at hp; rcases hp with rfl <;> simp [aQ.cells]); (let r := Cap.Q7e (f := aK.cells) (g _ List.mem_cons_self); ⟨r.1, fun x hx => (Qp4 (r.2 x hx))⟩))⟩
theorem aQ.Q2t {N : Nat} (hN : N ≤ sB) {x : aQ} (c : Qbe N x) : aQ.sm x := ⟨⟨Nat.le_trans c.2.1.1 hN, fun _ hx => aj.Q2t hN (c.2.1.2 _ hx)⟩, ⟨Nat.le_trans c.2.2.1.1 hN, fun _ hx => aJ.Q2t hN (c.2.2.1.2 _ hx)⟩, ⟨Nat.le_trans c.2.2.2.1.1 hN, fun _ hx => aJ.Q2t hN (c.2.2.2.1.2 _ hx)⟩, ⟨Nat.le_trans c.2.2.2.2.1 hN, fun _ hx => aK.Q2t hN (c.2.2.2.2.2 _ hx)⟩, trivial⟩
end Go.Proofs.YtimjjohlpnkacaaGreat
end

section
/- What the law WorkcodecBack computes (printed by a program). -/
namespace Go.Proofs.YtimjjohlpnkacaaGreat
open Go.Pv
def Q3q (p0 : aF) : aF :=
  (aF.mk (bJ.mk Q1l p0.aG.bK p0.aG.name p0.aG.gM p0.aG.dA p0.aG.bR p0.aG.dz p0.aG.dh p0.aG.cZ p0.aG.bH p0.aG.bT p0.aG.bF p0.aG.aZ) p0.bD p0.bS p0.dP p0.aR p0.aP p0.aL)
def Q3u (p1 : ay) : ay :=
  (ay.mk (bJ.mk Q1k p1.aG.bK p1.aG.name p1.aG.gM p1.aG.dA p1.aG.bR p1.aG.dz p1.aG.dh p1.aG.cZ p1.aG.bH p1.aG.bT p1.aG.bF p1.aG.aZ) p1.bD p1.bS p1.eP p1.bY p1.aR p1.aP p1.dY p1.fG p1.eZ p1.bO p1.gN p1.aL)
def Q3x (p2 : bQ) : bQ :=
  (bQ.mk (bJ.mk Q3c p2.aG.bK p2.aG.name p2.aG.gM p2.aG.dA p2.aG.bR p2.aG.dz p2.aG.dh p2.aG.cZ p2.aG.bH p2.aG.bT p2.aG.bF p2.aG.aZ) p2.cB p2.dn p2.eu p2.bY p2.dZ p2.d9 p2.aP p2.fB p2.dK p2.bA p2.started p2.dU p2.done p2.fq)
def Q46 (p3 : aQ) : aQ :=
  (aQ.mk (bJ.mk Q2u p3.aG.bK p3.aG.name p3.aG.gM p3.aG.dA p3.aG.bR p3.aG.dz p3.aG.dh p3.aG.cZ p3.aG.bH p3.aG.bT p3.aG.bF p3.aG.aZ) p3.aR p3.bX p3.bM p3.bV p3.eO p3.eF p3.dX p3.eD p3.bN)
def Q1pz (p0 : aF) : bJ :=
  (bJ.mk Q1l p0.aG.bK p0.aG.name p0.aG.gM p0.aG.dA p0.aG.bR p0.aG.dz p0.aG.dh p0.aG.cZ p0.aG.bH p0.aG.bT p0.aG.bF p0.aG.aZ)
def Q1q0 (p1 : ay) : bJ :=
  (bJ.mk Q1k p1.aG.bK p1.aG.name p1.aG.gM p1.aG.dA p1.aG.bR p1.aG.dz p1.aG.dh p1.aG.cZ p1.aG.bH p1.aG.bT p1.aG.bF p1.aG.aZ)
def Q1q1 (p2 : bQ) : bJ :=
  (bJ.mk Q3c p2.aG.bK p2.aG.name p2.aG.gM p2.aG.dA p2.aG.bR p2.aG.dz p2.aG.dh p2.aG.cZ p2.aG.bH p2.aG.bT p2.aG.bF p2.aG.aZ)
def Q1q2 (p3 : aQ) : bJ :=
  (bJ.mk Q2u p3.aG.bK p3.aG.name p3.aG.gM p3.aG.dA p3.aG.bR p3.aG.dz p3.aG.dh p3.aG.cZ p3.aG.bH p3.aG.bT p3.aG.bF p3.aG.aZ)
def s_K0 (p0 : aF) (p1 : ay) (p2 : bQ) (p3 : aQ) : Bool :=
 bif (s_K8 (Q4a (Q3q p0))) then
  bif (s_K8 (Q4f (Q3u p1))) then
   bif (s_K8 (Q4i (Q3x p2))) then
    bif (s_K8 (Q4p (Q46 p3))) then
     true
    else
     true
   else
    true
  else
   true
 else
  true
def c_K0 (p0 : aF) (p1 : ay) (p2 : bQ) (p3 : aQ) : En := .call 4 [.agg (aF.cells p0), .agg (ay.cells p1), .agg (bQ.cells p2), .agg (aQ.cells p3)] []
def a_K0 (p0 : aF) (p1 : ay) (p2 : bQ) (p3 : aQ) : Rs := .ret (.bool (s_K0 p0 p1 p2 p3)) []
def H_K0 (p0 : aF) (p1 : ay) (p2 : bQ) (p3 : aQ) : Prop := (Q1gp (Q3q p0)) ∧ (Q1gn (Q3u p1)) ∧ (Q1go (Q3x p2)) ∧ (Q1gm (Q46 p3)) ∧ (H_K8 (Q4a (Q3q p0))) ∧ ((s_K8 (Q4a (Q3q p0))) = true → H_K8 (Q4f (Q3u p1))) ∧ ((s_K8 (Q4a (Q3q p0))) = true → (s_K8 (Q4f (Q3u p1))) = true → H_K8 (Q4i (Q3x p2))) ∧ ((s_K8 (Q4a (Q3q p0))) = true → (s_K8 (Q4f (Q3u p1))) = true → (s_K8 (Q4i (Q3x p2))) = true → H_K8 (Q4p (Q46 p3))) ∧ ((s_K8 (Q4a (Q3q p0))) = true → (s_K8 (Q4f (Q3u p1))) = true → (s_K8 (Q4i (Q3x p2))) = true → (s_K8 (Q4p (Q46 p3))) = true → Q1lf (Q3q p0)) ∧ ((s_K8 (Q4a (Q3q p0))) = true → (s_K8 (Q4f (Q3u p1))) = true → (s_K8 (Q4i (Q3x p2))) = true → (s_K8 (Q4p (Q46 p3))) = true → Q1lj (Q1k3 (Q3q p0))) ∧ ((s_K8 (Q4a (Q3q p0))) = true → (s_K8 (Q4f (Q3u p1))) = true → (s_K8 (Q4i (Q3x p2))) = true → (s_K8 (Q4p (Q46 p3))) = true → Q1k9 (Q1k3 (Q3q p0)) = ((aF.at (Q3q p0)), 0)) ∧ ((s_K8 (Q4a (Q3q p0))) = true → (s_K8 (Q4f (Q3u p1))) = true → (s_K8 (Q4i (Q3x p2))) = true → (s_K8 (Q4p (Q46 p3))) = true → Q1ld (Q3u p1)) ∧ ((s_K8 (Q4a (Q3q p0))) = true → (s_K8 (Q4f (Q3u p1))) = true → (s_K8 (Q4i (Q3x p2))) = true → (s_K8 (Q4p (Q46 p3))) = true → Q1lh (Q1k1 (Q3u p1))) ∧ ((s_K8 (Q4a (Q3q p0))) = true → (s_K8 (Q4f (Q3u p1))) = true → (s_K8 (Q4i (Q3x p2))) = true → (s_K8 (Q4p (Q46 p3))) = true → Q1k7 (Q1k1 (Q3u p1)) = ((ay.at (Q3u p1)), 0)) ∧ ((s_K8 (Q4a (Q3q p0))) = true → (s_K8 (Q4f (Q3u p1))) = true → (s_K8 (Q4i (Q3x p2))) = true → (s_K8 (Q4p (Q46 p3))) = true → Q1le (Q3x p2)) ∧ ((s_K8 (Q4a (Q3q p0))) = true → (s_K8 (Q4f (Q3u p1))) = true → (s_K8 (Q4i (Q3x p2))) = true → (s_K8 (Q4p (Q46 p3))) = true → Q1li (Q1k2 (Q3x p2))) ∧ ((s_K8 (Q4a (Q3q p0))) = true → (s_K8 (Q4f (Q3u p1))) = true → (s_K8 (Q4i (Q3x p2))) = true → (s_K8 (Q4p (Q46 p3))) = true → Q1k8 (Q1k2 (Q3x p2)) = ((bQ.at (Q3x p2)), 0)) ∧ ((s_K8 (Q4a (Q3q p0))) = true → (s_K8 (Q4f (Q3u p1))) = true → (s_K8 (Q4i (Q3x p2))) = true → (s_K8 (Q4p (Q46 p3))) = true → Q1lc (Q46 p3)) ∧ ((s_K8 (Q4a (Q3q p0))) = true → (s_K8 (Q4f (Q3u p1))) = true → (s_K8 (Q4i (Q3x p2))) = true → (s_K8 (Q4p (Q46 p3))) = true → Q1lg (Q1k0 (Q46 p3))) ∧ ((s_K8 (Q4a (Q3q p0))) = true → (s_K8 (Q4f (Q3u p1))) = true → (s_K8 (Q4i (Q3x p2))) = true → (s_K8 (Q4p (Q46 p3))) = true → Q1k6 (Q1k0 (Q46 p3)) = ((aQ.at (Q46 p3)), 0)) ∧ ((s_K8 (Q4a (Q3q p0))) = true → (s_K8 (Q4f (Q3u p1))) = true → (s_K8 (Q4i (Q3x p2))) = true → (s_K8 (Q4p (Q46 p3))) = true → Q13k (Q1pz p0)) ∧ ((s_K8 (Q4a (Q3q p0))) = true → (s_K8 (Q4f (Q3u p1))) = true → (s_K8 (Q4i (Q3x p2))) = true → (s_K8 (Q4p (Q46 p3))) = true → Q13k (Q1q0 p1)) ∧ ((s_K8 (Q4a (Q3q p0))) = true → (s_K8 (Q4f (Q3u p1))) = true → (s_K8 (Q4i (Q3x p2))) = true → (s_K8 (Q4p (Q46 p3))) = true → Q13k (Q1q1 p2)) ∧ ((s_K8 (Q4a (Q3q p0))) = true → (s_K8 (Q4f (Q3u p1))) = true → (s_K8 (Q4i (Q3x p2))) = true → (s_K8 (Q4p (Q46 p3))) = true → Q13k (Q1q2 p3)) ∧ ((s_K8 (Q4a (Q3q p0))) = true → (s_K8 (Q4f (Q3u p1))) = true → (s_K8 (Q4i (Q3x p2))) = true → (s_K8 (Q4p (Q46 p3))) = true → Q1gp (Q3q p0)) ∧ ((s_K8 (Q4a (Q3q p0))) = true → (s_K8 (Q4f (Q3u p1))) = true → (s_K8 (Q4i (Q3x p2))) = true → (s_K8 (Q4p (Q46 p3))) = true → Qp0 (Q4a (Q3q p0))) ∧ ((s_K8 (Q4a (Q3q p0))) = true → (s_K8 (Q4f (Q3u p1))) = true → (s_K8 (Q4i (Q3x p2))) = true → (s_K8 (Q4p (Q46 p3))) = true → Q1gn (Q3u p1)) ∧ ((s_K8 (Q4a (Q3q p0))) = true → (s_K8 (Q4f (Q3u p1))) = true → (s_K8 (Q4i (Q3x p2))) = true → (s_K8 (Q4p (Q46 p3))) = true → Qp0 (Q4f (Q3u p1))) ∧ ((s_K8 (Q4a (Q3q p0))) = true → (s_K8 (Q4f (Q3u p1))) = true → (s_K8 (Q4i (Q3x p2))) = true → (s_K8 (Q4p (Q46 p3))) = true → Q1go (Q3x p2)) ∧ ((s_K8 (Q4a (Q3q p0))) = true → (s_K8 (Q4f (Q3u p1))) = true → (s_K8 (Q4i (Q3x p2))) = true → (s_K8 (Q4p (Q46 p3))) = true → Qp0 (Q4i (Q3x p2))) ∧ ((s_K8 (Q4a (Q3q p0))) = true → (s_K8 (Q4f (Q3u p1))) = true → (s_K8 (Q4i (Q3x p2))) = true → (s_K8 (Q4p (Q46 p3))) = true → Q1gm (Q46 p3)) ∧ ((s_K8 (Q4a (Q3q p0))) = true → (s_K8 (Q4f (Q3u p1))) = true → (s_K8 (Q4i (Q3x p2))) = true → (s_K8 (Q4p (Q46 p3))) = true → Qp0 (Q4p (Q46 p3))) ∧ True
theorem t_K0 (p0 : aF) (p1 : ay) (p2 : bQ) (p3 : aQ) (H : H_K0 p0 p1 p2 p3) : Q0 G (c_K0 p0 p1 p2 p3) (a_K0 p0 p1 p2 p3) := by
 unfold a_K0 s_K0
 cases h0 : (s_K8 (Q4a (Q3q p0))) with
 | true =>
  cases h1 : (s_K8 (Q4f (Q3u p1))) with
  | true =>
   cases h2 : (s_K8 (Q4i (Q3x p2))) with
   | true =>
    cases h3 : (s_K8 (Q4p (Q46 p3))) with
    | true =>
     exact Q5 (fn := Ir.K0) (by kernel_rfl) VOK.nil [hP 135 (dec (p0.bD == p0.bD) true (beq_self_eq_true _)), hP 5 (dec (p0.bS == p0.bS) true (beq_self_eq_true _)), hP 6 (dec (p0.dP == p0.dP) true (beq_self_eq_true _)), hP 6 (dec ((p0.aL.bV == p0.aL.bV) && ((p0.aL.bD == p0.aL.bD) && ((p0.aL.dW == p0.aL.dW) && ((p0.aL.ready == p0.aL.ready) && ((p0.aL.dx == p0.aL.dx) && ((p0.aL.dJ == p0.aL.dJ) && ((p0.aL.bA == p0.aL.bA) && true))))))) true (and_tt (beq_self_eq_true _) (and_tt (beq_self_eq_true _) (and_tt (beq_self_eq_true _) (and_tt (beq_self_eq_true _) (and_tt (beq_self_eq_true _) (and_tt (beq_self_eq_true _) (and_tt (beq_self_eq_true _) rfl)))))))), hP 6 (dec ((p1.eZ.dQ == p1.eZ.dQ) && ((p1.eZ.n == p1.eZ.n) && true)) true (and_tt (beq_self_eq_true _) (and_tt (beq_self_eq_true _) rfl))), hP 6 (dec ((p1.bO.dQ == p1.bO.dQ) && ((p1.bO.n == p1.bO.n) && true)) true (and_tt (beq_self_eq_true _) (and_tt (beq_self_eq_true _) rfl))), hP 6 (dec ((p1.aL.bV == p1.aL.bV) && ((p1.aL.bD == p1.aL.bD) && ((p1.aL.dW == p1.aL.dW) && ((p1.aL.ready == p1.aL.ready) && ((p1.aL.dx == p1.aL.dx) && ((p1.aL.dJ == p1.aL.dJ) && ((p1.aL.bA == p1.aL.bA) && true))))))) true (and_tt (beq_self_eq_true _) (and_tt (beq_self_eq_true _) (and_tt (beq_self_eq_true _) (and_tt (beq_self_eq_true _) (and_tt (beq_self_eq_true _) (and_tt (beq_self_eq_true _) (and_tt (beq_self_eq_true _) rfl)))))))), hP 6 (dec (p2.cB == p2.cB) true (beq_self_eq_true _)), hP 6 (dec (p2.fq == p2.fq) true (beq_self_eq_true _)), hP 4 (Qw _ _ (Q6v p2.done)), hP 2 (Qw _ _ (Q6v p2.done)), hP 0 (dec (((List.length p2.done) : Int) == ((List.length p2.done) : Int)) true (beq_self_eq_true _)), hP 6 (dec (p3.eD == p3.eD) true (beq_self_eq_true _)), hP 4 (Qw _ _ (aK.Q8 p3.bN)), hP 2 (Qw _ _ (aK.Q8 p3.bN)), hP 0 (dec (((List.length p3.bN) : Int) == ((List.length p3.bN) : Int)) true (beq_self_eq_true _))] [aN (Q1cv (Q3q p0) (H.1)), aN (Q1ct (Q3u p1) (H.2.1)), aN (Q1cu (Q3x p2) (H.2.2.1)), aN (Q1cs (Q46 p3) (H.2.2.2.1)), aB (t_K8 (Q4a (Q3q p0)) (H.2.2.2.2.1)) h0, aB (t_K8 (Q4f (Q3u p1)) (H.2.2.2.2.2.1 h0)) h1, aB (t_K8 (Q4i (Q3x p2)) (H.2.2.2.2.2.2.1 h0 h1)) h2, aB (t_K8 (Q4p (Q46 p3)) (H.2.2.2.2.2.2.2.1 h0 h1 h2)) h3, aN (Q2dv (Q3q p0) (H.2.2.2.2.2.2.2.2.1 h0 h1 h2 h3)), aN (toldOf (Q2e1 (Q1k3 (Q3q p0)) (H.2.2.2.2.2.2.2.2.2.1 h0 h1 h2 h3)) (congrArg (fun z : aF × Int => Rs.ret (.tup [.agg (aF.cells z.1), iN z.2]) []) (H.2.2.2.2.2.2.2.2.2.2.1 h0 h1 h2 h3))), aN (Q2dt (Q3u p1) (H.2.2.2.2.2.2.2.2.2.2.2.1 h0 h1 h2 h3)), aN (toldOf (Q2dz (Q1k1 (Q3u p1)) (H.2.2.2.2.2.2.2.2.2.2.2.2.1 h0 h1 h2 h3)) (congrArg (fun z : ay × Int => Rs.ret (.tup [.agg (ay.cells z.1), iN z.2]) []) (H.2.2.2.2.2.2.2.2.2.2.2.2.2.1 h0 h1 h2 h3))), aN (Q2du (Q3x p2) (H.2.2.2.2.2.2.2.2.2.2.2.2.2.2.1 h0 h1 h2 h3)), aN (toldOf (Q2e0 (Q1k2 (Q3x p2)) (H.2.2.2.2.2.2.2.2.2.2.2.2.2.2.2.1 h0 h1 h2 h3)) (congrArg (fun z : bQ × Int => Rs.ret (.tup [.agg (bQ.cells z.1), iN z.2]) []) (H.2.2.2.2.2.2.2.2.2.2.2.2.2.2.2.2.1 h0 h1 h2 h3))), aN (Q2dr (Q46 p3) (H.2.2.2.2.2.2.2.2.2.2.2.2.2.2.2.2.2.1 h0 h1 h2 h3)), aN (toldOf (Q2dw (Q1k0 (Q46 p3)) (H.2.2.2.2.2.2.2.2.2.2.2.2.2.2.2.2.2.2.1 h0 h1 h2 h3)) (congrArg (fun z : aQ × Int => Rs.ret (.tup [.agg (aQ.cells z.1), iN z.2]) []) (H.2.2.2.2.2.2.2.2.2.2.2.2.2.2.2.2.2.2.2.1 h0 h1 h2 h3))), aN (Q65 (c := fun y => .call 27 [.agg (bJ.cells (Q1pz p0)), .agg (bJ.cells y)] []) rfl (Q1kh (Q1pz p0) (H.2.2.2.2.2.2.2.2.2.2.2.2.2.2.2.2.2.2.2.2.1 h0 h1 h2 h3))), aN (Q65 (c := fun y => .call 27 [.agg (bJ.cells (Q1q0 p1)), .agg (bJ.cells y)] []) rfl (Q1kh (Q1q0 p1) (H.2.2.2.2.2.2.2.2.2.2.2.2.2.2.2.2.2.2.2.2.2.1 h0 h1 h2 h3))), aN (Q65 (c := fun y => .call 27 [.agg (bJ.cells (Q1q1 p2)), .agg (bJ.cells y)] []) rfl (Q1kh (Q1q1 p2) (H.2.2.2.2.2.2.2.2.2.2.2.2.2.2.2.2.2.2.2.2.2.2.1 h0 h1 h2 h3))), aN (Q65 (c := fun y => .call 27 [.agg (bJ.cells (Q1q2 p3)), .agg (bJ.cells y)] []) rfl (Q1kh (Q1q2 p3) (H.2.2.2.2.2.2.2.2.2.2.2.2.2.2.2.2.2.2.2.2.2.2.2.1 h0 h1 h2 h3))), aN (Q1cv (Q3q p0) (H.2.2.2.2.2.2.2.2.2.2.2.2.2.2.2.2.2.2.2.2.2.2.2.2.1 h0 h1 h2 h3)), aN (Q65 (c := fun y => .call 17 [.agg (aW.cells (Q4a (Q3q p0))), .agg (aW.cells y)] []) rfl (Q1ny (Q4a (Q3q p0)) (H.2.2.2.2.2.2.2.2.2.2.2.2.2.2.2.2.2.2.2.2.2.2.2.2.2.1 h0 h1 h2 h3))), aN (Q1ct (Q3u p1) (H.2.2.2.2.2.2.2.2.2.2.2.2.2.2.2.2.2.2.2.2.2.2.2.2.2.2.1 h0 h1 h2 h3)), aN (Q65 (c := fun y => .call 17 [.agg (aW.cells (Q4f (Q3u p1))), .agg (aW.cells y)] []) rfl (Q1ny (Q4f (Q3u p1)) (H.2.2.2.2.2.2.2.2.2.2.2.2.2.2.2.2.2.2.2.2.2.2.2.2.2.2.2.1 h0 h1 h2 h3))), aN (Q1cu (Q3x p2) (H.2.2.2.2.2.2.2.2.2.2.2.2.2.2.2.2.2.2.2.2.2.2.2.2.2.2.2.2.1 h0 h1 h2 h3)), aN (Q65 (c := fun y => .call 17 [.agg (aW.cells (Q4i (Q3x p2))), .agg (aW.cells y)] []) rfl (Q1ny (Q4i (Q3x p2)) (H.2.2.2.2.2.2.2.2.2.2.2.2.2.2.2.2.2.2.2.2.2.2.2.2.2.2.2.2.2.1 h0 h1 h2 h3))), aN (Q1cs (Q46 p3) (H.2.2.2.2.2.2.2.2.2.2.2.2.2.2.2.2.2.2.2.2.2.2.2.2.2.2.2.2.2.2.1 h0 h1 h2 h3)), aN (Q65 (c := fun y => .call 17 [.agg (aW.cells (Q4p (Q46 p3))), .agg (aW.cells y)] []) rfl (Q1ny (Q4p (Q46 p3)) (H.2.2.2.2.2.2.2.2.2.2.2.2.2.2.2.2.2.2.2.2.2.2.2.2.2.2.2.2.2.2.2.1 h0 h1 h2 h3))), aN t_K6] (by kernel_rfl)
    | false =>
     exact Q5 (fn := Ir.K0) (by kernel_rfl) VOK.nil [] [aN (Q1cv (Q3q p0) (H.1)), aN (Q1ct (Q3u p1) (H.2.1)), aN (Q1cu (Q3x p2) (H.2.2.1)), aN (Q1cs (Q46 p3) (H.2.2.2.1)), aB (t_K8 (Q4a (Q3q p0)) (H.2.2.2.2.1)) h0, aB (t_K8 (Q4f (Q3u p1)) (H.2.2.2.2.2.1 h0)) h1, aB (t_K8 (Q4i (Q3x p2)) (H.2.2.2.2.2.2.1 h0 h1)) h2, aB (t_K8 (Q4p (Q46 p3)) (H.2.2.2.2.2.2.2.1 h0 h1 h2)) h3, aN t_K6] (by kernel_rfl)
   | false =>
    exact Q5 (fn := Ir.K0) (by kernel_rfl) VOK.nil [] [aN (Q1cv (Q3q p0) (H.1)), aN (Q1ct (Q3u p1) (H.2.1)), aN (Q1cu (Q3x p2) (H.2.2.1)), aN (Q1cs (Q46 p3) (H.2.2.2.1)), aB (t_K8 (Q4a (Q3q p0)) (H.2.2.2.2.1)) h0, aB (t_K8 (Q4f (Q3u p1)) (H.2.2.2.2.2.1 h0)) h1, aB (t_K8 (Q4i (Q3x p2)) (H.2.2.2.2.2.2.1 h0 h1)) h2, aN t_K6] (by kernel_rfl)
  | false =>
   exact Q5 (fn := Ir.K0) (by kernel_rfl) VOK.nil [] [aN (Q1cv (Q3q p0) (H.1)), aN (Q1ct (Q3u p1) (H.2.1)), aN (Q1cu (Q3x p2) (H.2.2.1)), aN (Q1cs (Q46 p3) (H.2.2.2.1)), aB (t_K8 (Q4a (Q3q p0)) (H.2.2.2.2.1)) h0, aB (t_K8 (Q4f (Q3u p1)) (H.2.2.2.2.2.1 h0)) h1, aN t_K6] (by kernel_rfl)
 | false =>
  exact Q5 (fn := Ir.K0) (by kernel_rfl) VOK.nil [] [aN (Q1cv (Q3q p0) (H.1)), aN (Q1ct (Q3u p1) (H.2.1)), aN (Q1cu (Q3x p2) (H.2.2.1)), aN (Q1cs (Q46 p3) (H.2.2.2.1)), aB (t_K8 (Q4a (Q3q p0)) (H.2.2.2.2.1)) h0, aN t_K6] (by kernel_rfl)
def tysWorkcodecBack : List Ty := [Qdl, Qcy, Q1o5, Qyr]
theorem pureWorkcodecBack {N : Nat} (hp : ∀ (p0 : aF) (p1 : ay) (p2 : bQ) (p3 : aQ), Q9v p0 → Q9q p1 → Q1gy p2 → Qjv p3 → (Q78 N) p0 → (Q77 N) p1 → (Qva N) p2 → (Qbe N) p3 → H_K0 p0 p1 p2 p3 ∧ s_K0 p0 p1 p2 p3 = true) : ∀ qs, Q1ev Γ N tysWorkcodecBack qs → ∃ n, runs G n (.call 4 qs []) = some (.ret (.bool true) []) := by
  intro qs h
  cases qs with
  | nil => cases h
  | cons q0 qs =>
  obtain ⟨h0, h⟩ := h
  cases qs with
  | nil => cases h
  | cons q1 qs =>
  obtain ⟨h1, h⟩ := h
  cases qs with
  | nil => cases h
  | cons q2 qs =>
  obtain ⟨h2, h⟩ := h
  cases qs with
  | nil => cases h
  | cons q3 qs =>
  obtain ⟨h3, h⟩ := h
  cases qs with
  | cons _ _ => cases h
  | nil =>
  obtain ⟨c0, rfl, g0, b0⟩ := h0.agg rfl
  obtain ⟨p0, rfl, k0⟩ := (Qls g0)
  obtain ⟨c1, rfl, g1, b1⟩ := h1.agg rfl
  obtain ⟨p1, rfl, k1⟩ := (Qjx g1)
  obtain ⟨c2, rfl, g2, b2⟩ := h2.agg rfl
  obtain ⟨p2, rfl, k2⟩ := (Q1ln g2)
  obtain ⟨c3, rfl, g3, b3⟩ := h3.agg rfl
  obtain ⟨p3, rfl, k3⟩ := (Q13i g3)
  have e := hp p0 p1 p2 p3 k0 k1 k2 k3 (Qg2 b0) (Qg0 b1) (Q1gx b2) (Qyq b3)
  have t := t_K0 p0 p1 p2 p3 e.1
  unfold a_K0 at t
  rw [e.2] at t
  exact t
end Go.Proofs.YtimjjohlpnkacaaGreat
end

section
/- What is small by the reference's count; what is demanded of metadata and objects (printed by a program). -/
namespace Go.Proofs.YtimjjohlpnkacaaGreat
open Go.Pv
def cv : Qx2 → Int
  | .k0 y => y
  | .k1 => -1
theorem Q16w (p : Val) (d : Int) (l : List Val) (i : Nat) {a : Int} (h : ¬ 0 ≤ a) : Q4c p d l i a = a := by
  cases l with
  | nil => rw [Q4c]
  | cons x l => rw [Q4c, show decide (0 ≤ a) = false by simpa using h, cond_false]
theorem Qxb (p : Val) (d : Int) (l : List Fld) (i : Nat) {a : Int} (h : ¬ 0 ≤ a) : cv (Q4r p d l i a) = a := by
  cases l with
  | nil => rw [Q4r]; rfl
  | cons x l => rw [Q4r, show decide (0 ≤ a) = false by simpa using h, cond_false]; rfl
def Q1q4 (v : Val) : Prop := ∀ n d, n ≤ 1000 → 0 ≤ Qg9 v n d → Val.Sm 1000 v ∧ Qg9 v n d + 1 ≤ n
theorem Q16x (p : Val) (d : Int) : ∀ (l : List Val) (i : Nat) (a : Int), a ≤ 1000 → (∀ x ∈ l, Q1q4 x) → 0 ≤ Q4c p d l i a → (∀ x ∈ l, Val.Sm 1000 x) ∧ Q4c p d l i a + (l.length : Int) ≤ a
  | [], i, a, _, _, _ => by
    rw [Q4c]
    exact ⟨fun _ h => (by cases h), by simp⟩
  | x :: l, i, a, ha, hx, h => by
    by_cases c : 0 ≤ a
    · rw [Q4c, show decide (0 ≤ a) = true by simpa using c, cond_true] at h ⊢
      have k : 0 ≤ Qg9 x a (w64 (d - 1)) := by
        apply Decidable.byContradiction
        intro hn
        rw [Q16w p d l _ hn] at h
        exact hn h
      have h1 := hx x List.mem_cons_self a _ ha k
      have h2 := Q16x p d l (i + 1) _ (by omega) (fun y hy => hx y (List.mem_cons_of_mem _ hy)) h
      refine ⟨List.forall_mem_cons.2 ⟨h1.1, h2.1⟩, ?_⟩
      have := h1.2
      have := h2.2
      rw [List.length_cons]
      omega
    · rw [Q16w p d _ i c] at h
      exact absurd h c
theorem Q16y (p : Val) (d : Int) : ∀ (l : List Fld) (i : Nat) (a : Int), a ≤ 1000 → (∀ x ∈ l, Q1q4 x.v) → 0 ≤ cv (Q4r p d l i a) → (∀ x ∈ l, Val.Sm 1000 x.v) ∧ cv (Q4r p d l i a) + (l.length : Int) ≤ a
  | [], i, a, _, _, _ => by
    rw [Q4r]
    exact ⟨fun _ h => (by cases h), by simp [cv]⟩
  | x :: l, i, a, ha, hx, h => by
    by_cases c : 0 ≤ a
    · rw [Q4r, show decide (0 ≤ a) = true by simpa using c, cond_true] at h ⊢
      cases e : decide (1000 < (ByteArray.size x.name : Int)) with
      | true =>
        rw [e] at h
        exact absurd (show (0 : Int) ≤ -1 from h) (by decide)
      | false =>
        rw [e, cond_false] at h
        rw [cond_false]
        have k : 0 ≤ Qg9 x.v a (w64 (d - 1)) := by
          apply Decidable.byContradiction
          intro hn
          rw [Qxb p d l _ hn] at h
          exact hn h
        have h1 := hx x List.mem_cons_self a _ ha k
        have h2 := Q16y p d l (i + 1) _ (by omega) (fun y hy => hx y (List.mem_cons_of_mem _ hy)) h
        refine ⟨List.forall_mem_cons.2 ⟨h1.1, h2.1⟩, ?_⟩
        have := h1.2
        have := h2.2
        rw [List.length_cons]
        omega
    · rw [Qxb p d _ i c] at h
      exact absurd h c
theorem Q1ly : ∀ v, Q1q4 v := vind fun v h1 h2 n d hn h => by
  rw [Qg9] at h ⊢
  cases c1 : decide (n ≤ 0) with
  | true => rw [c1] at h; exact absurd (show (0 : Int) ≤ -1 from h) (by decide)
  | false =>
    cases c2 : decide (d ≤ 0) with
    | true => rw [c1, c2] at h; exact absurd (show (0 : Int) ≤ -1 from h) (by decide)
    | false =>
      cases c3 : decide (1000 < (ByteArray.size v.s : Int)) with
      | true => rw [c1, c2, c3] at h; exact absurd (show (0 : Int) ≤ -1 from h) (by decide)
      | false =>
        have e1 := of_decide_eq_false c1
        rw [c1, c2, c3, cond_false, cond_false, cond_false, Q13h (by omega)] at h
        rw [cond_false, cond_false, cond_false, Q13h (by omega)]
        change 0 ≤ cv (Q4r v d v.fields 0 (Q4c v d v.list 0 (n - 1))) at h
        change _ ∧ cv (Q4r v d v.fields 0 (Q4c v d v.list 0 (n - 1))) + 1 ≤ n
        have k : 0 ≤ Q4c v d v.list 0 (n - 1) := by
          apply Decidable.byContradiction
          intro hn
          rw [Qxb v d _ _ hn] at h
          exact hn h
        have g0 := Q16x v d v.list 0 (n - 1) (by omega) h1 k
        have g1 := Q16y v d v.fields 0 _ (by have := g0.2; omega) h2 h
        have := g0.2
        have := g1.2
        exact ⟨.mk _ (by omega) (by omega) g0.1 g1.1, by omega⟩
theorem Q19a {v : Val} {n : Int} (hn : n ≤ 1000) (h : Qye v n = true) : Val.Sm 1000 v := (Q1ly v n n hn (of_decide_eq_true h)).1
theorem Qjr {o : aW} (h : s_K8 o = true) : Val.Sm 1000 o.aS ∧ Val.Sm 1000 o.aL := by
  unfold s_K8 at h
  cases c1 : decide (40 < ((List.length o.aG.bH) : Int)) with
  | true => rw [c1] at h; cases h
  | false =>
    cases c2 : decide (40 < ((List.length o.aG.bT) : Int)) with
    | true => rw [c1, c2] at h; cases h
    | false =>
      cases c3 : decide (40 < ((List.length o.aG.bF) : Int)) with
      | true => rw [c1, c2, c3] at h; cases h
      | false =>
        cases c4 : decide (40 < ((List.length o.aG.aZ) : Int)) with
        | true => rw [c1, c2, c3, c4] at h; cases h
        | false =>
          rw [c1, c2, c3, c4, cond_false, cond_false, cond_false, cond_false] at h
          cases c5 : Qcl o o.aG.aZ 0 with
          | k1 => rw [c5] at h; cases h
          | k0 =>
            rw [c5] at h
            cases c6 : Qye o.aS 900 with
            | false =>
              simp only [c6, cond_false] at h
              cases h
            | true =>
              simp only [c6, cond_true] at h
              exact ⟨Q19a (by decide) c6, Q19a (by decide) h⟩
theorem Qe9 {m : bJ} (k : Q64 m) : Qcb m ∧ Q13k m ∧ m.aZ.length ≤ 4611686018427387904 := by
  obtain ⟨k1, k2, k3, _, _, _, _, _, _, kl, ko, kf, km⟩ := k
  have hl := kl.1
  have ho := ko.1
  have hf := kf.1
  have hm := km.1
  unfold okS at k1 k2 k3
  have hx : ∀ x ∈ m.aZ, x.fields.length * 16 ≤ 140737488351232 := fun x hx => (km.2 x hx).2.1
  have e0 : (⟨#[47]⟩ : BA).size = 1 := rfl
  refine ⟨⟨by omega, by omega, by omega, by omega, ⟨by omega, fun x h => by have := hx x h; omega, trivial⟩, trivial⟩, ⟨⟨⟨?_, ?_, ?_, ?_, trivial⟩, trivial⟩, ⟨⟨by omega, trivial⟩, trivial⟩, ⟨by omega, trivial⟩, ⟨by omega, trivial⟩, ⟨by omega, fun x h => ⟨⟨by have := hx x h; omega, trivial⟩, trivial⟩, trivial⟩, trivial⟩, by omega⟩ <;>
  · simp only [ByteArray.size_append, e0]
    omega
theorem Qfu {m : bJ} (k : Q64 m) (s : BA) (h : s.size ≤ 140737488351232) : Q64 { m with kind := s } := ⟨h, k.2⟩
theorem Q188 {o : aW} (k : Q64 o.aG) (g : aW.sm o) : H_K8 o := ⟨⟨(Qe9 k).2.2, trivial⟩, ⟨g.1.mono (Nat.le_of_ble_eq_true rfl), trivial⟩, ⟨g.2.mono (Nat.le_of_ble_eq_true rfl), trivial⟩, trivial⟩
theorem Q173 {o : aW} (k : Q64 o.aG) (g : aW.sm o) : Qp0 o := ⟨(Qe9 k).2.1, ⟨g.1.mono (Nat.le_of_ble_eq_true rfl), trivial⟩, ⟨g.2.mono (Nat.le_of_ble_eq_true rfl), trivial⟩, trivial⟩
def Q13j (x : ay) : Prop := Q1gn x ∧ H_K8 (Q4f x) ∧ Q1ld x ∧ Qp0 (Q4f x) ∧ Q1lh (Q4f x) ∧ (s_K8 (Q4f x) = true → Q1k7 (Q4f x) = (ay.at x, 0))
theorem ay.facts {x : ay} (k : Q64 x.aG) (a : ay.sm x) : Q13j x := by
  have m := Qfu k Q1k (Nat.le_of_ble_eq_true rfl)
  have g : aW.sm (ay.obj x) := ay.Qo9 a
  exact ⟨a, Q188 (o := ay.obj x) m g, ⟨(Qe9 k).1, a⟩, Q173 (o := ay.obj x) m g, ⟨(Qe9 m).1, g⟩, fun h => (ay.rc (o := ay.obj x) (Qjr h)).trans (ay.R_at x)⟩
def Q13t (x : aF) : Prop := Q1gp x ∧ H_K8 (Q4a x) ∧ Q1lf x ∧ Qp0 (Q4a x) ∧ Q1lj (Q4a x) ∧ (s_K8 (Q4a x) = true → Q1k9 (Q4a x) = (aF.at x, 0))
theorem aF.facts {x : aF} (k : Q64 x.aG) (a : aF.sm x) : Q13t x := by
  have m := Qfu k Q1l (Nat.le_of_ble_eq_true rfl)
  have g : aW.sm (aF.obj x) := aF.Qo9 a
  exact ⟨a, Q188 (o := aF.obj x) m g, ⟨(Qe9 k).1, a⟩, Q173 (o := aF.obj x) m g, ⟨(Qe9 m).1, g⟩, fun h => (aF.rc (o := aF.obj x) (Qjr h)).trans (aF.R_at x)⟩
def JobF (x : bQ) : Prop := Q1go x ∧ H_K8 (Q4i x) ∧ Q1le x ∧ Qp0 (Q4i x) ∧ Q1li (Q4i x) ∧ (s_K8 (Q4i x) = true → Q1k8 (Q4i x) = (bQ.at x, 0))
theorem bQ.facts {x : bQ} (k : Q64 x.aG) (a : bQ.sm x) : JobF x := by
  have m := Qfu k Q3c (Nat.le_of_ble_eq_true rfl)
  have g : aW.sm (bQ.obj x) := bQ.Qo9 a
  exact ⟨a, Q188 (o := bQ.obj x) m g, ⟨(Qe9 k).1, a⟩, Q173 (o := bQ.obj x) m g, ⟨(Qe9 m).1, g⟩, fun h => (bQ.rc (o := bQ.obj x) (Qjr h)).trans (bQ.R_at x)⟩
def Q1q3 (x : aQ) : Prop := Q1gm x ∧ H_K8 (Q4p x) ∧ Q1lc x ∧ Qp0 (Q4p x) ∧ Q1lg (Q4p x) ∧ (s_K8 (Q4p x) = true → Q1k6 (Q4p x) = (aQ.at x, 0))
theorem aQ.facts {x : aQ} (k : Q64 x.aG) (a : aQ.sm x) : Q1q3 x := by
  have m := Qfu k Q2u (Nat.le_of_ble_eq_true rfl)
  have g : aW.sm (aQ.obj x) := aQ.Qo9 a
  exact ⟨a, Q188 (o := aQ.obj x) m g, ⟨(Qe9 k).1, a⟩, Q173 (o := aQ.obj x) m g, ⟨(Qe9 m).1, g⟩, fun h => (aQ.rc (o := aQ.obj x) (Qjr h)).trans (aQ.R_at x)⟩
end Go.Proofs.YtimjjohlpnkacaaGreat
end

section
/- The law WorkcodecBack in plain words: what was encoded is decoded to what it was. -/
namespace Go.Proofs.YtimjjohlpnkacaaGreat
open Go.Pv
theorem lawBack (p0 : aF) (p1 : ay) (p2 : bQ) (p3 : aQ) (k0 : Q9v p0) (k1 : Q9q p1) (k2 : Q1gy p2) (k3 : Qjv p3) (c0 : Q78 1048576 p0) (c1 : Q77 1048576 p1) (c2 : Qva 1048576 p2) (c3 : Qbe 1048576 p3) : H_K0 p0 p1 p2 p3 ∧ s_K0 p0 p1 p2 p3 = true := by
  have m0 := Qfu k0.1 Q1l (Nat.le_of_ble_eq_true rfl)
  have f0 := aF.facts (x := { p0 with aG := { p0.aG with kind := Q1l } }) m0 (show aF.sm p0 from aF.Q2t (Nat.le_of_ble_eq_true rfl) c0)
  have s0 := (Qe9 m0).2.1
  have m1 := Qfu k1.1 Q1k (Nat.le_of_ble_eq_true rfl)
  have f1 := ay.facts (x := { p1 with aG := { p1.aG with kind := Q1k } }) m1 (show ay.sm p1 from ay.Q2t (Nat.le_of_ble_eq_true rfl) c1)
  have s1 := (Qe9 m1).2.1
  have m2 := Qfu k2.1 Q3c (Nat.le_of_ble_eq_true rfl)
  have f2 := bQ.facts (x := { p2 with aG := { p2.aG with kind := Q3c } }) m2 (show bQ.sm p2 from bQ.Q2t (Nat.le_of_ble_eq_true rfl) c2)
  have s2 := (Qe9 m2).2.1
  have m3 := Qfu k3.1 Q2u (Nat.le_of_ble_eq_true rfl)
  have f3 := aQ.facts (x := { p3 with aG := { p3.aG with kind := Q2u } }) m3 (show aQ.sm p3 from aQ.Q2t (Nat.le_of_ble_eq_true rfl) c3)
  have s3 := (Qe9 m3).2.1
  refine ⟨?_, ?_⟩
  · unfold H_K0
    repeat' with_reducible apply And.intro
    all_goals first | exact True.intro | (intros; first | rfl | exact s0 | exact f0.1 | exact f0.2.1 | exact f0.2.2.1 | exact f0.2.2.2.1 | exact f0.2.2.2.2.1 | exact f0.2.2.2.2.2 (by assumption) | exact s1 | exact f1.1 | exact f1.2.1 | exact f1.2.2.1 | exact f1.2.2.2.1 | exact f1.2.2.2.2.1 | exact f1.2.2.2.2.2 (by assumption) | exact s2 | exact f2.1 | exact f2.2.1 | exact f2.2.2.1 | exact f2.2.2.2.1 | exact f2.2.2.2.2.1 | exact f2.2.2.2.2.2 (by assumption) | exact s3 | exact f3.1 | exact f3.2.1 | exact f3.2.2.1 | exact f3.2.2.2.1 | exact f3.2.2.2.2.1 | exact f3.2.2.2.2.2 (by assumption))
  · unfold s_K0
    cases s_K8 (Q4a (Q3q p0)) <;> cases s_K8 (Q4f (Q3u p1)) <;> cases s_K8 (Q4i (Q3x p2)) <;> cases s_K8 (Q4p (Q46 p3))
    all_goals rfl
end Go.Proofs.YtimjjohlpnkacaaGreat
end

section
/- The library's comparison of two strings, walked: it answers as the evaluator's cmpL. -/
namespace Go.Proofs.YtimjjohlpnkacaaGreat
open Go.Pv
theorem cmpL_eq : ∀ (a b : List UInt8), cmpL a b = Lib.compareBytes a b
  | [], [] => rfl
  | [], _ :: _ => rfl
  | _ :: _, [] => rfl
  | a :: x, b :: y => by
    rw [Lib.compareBytes, ← cmpL_eq x y]
    rfl
set_option maxHeartbeats 1000000 in
set_option maxRecDepth 100000 in
theorem comparing (a b : BA) (w : World) :
    Calls Tryz.prog 221 #[.string a, .string b] w fun e w' => e = .returned (.int .i64 (Lib.compareBytes a.data.toList b.data.toList)) ∧ w' = w := by
  go_enter Tryz.func221, Tryz.ntmps221
  go_wp2
  rw [run_callFunc_extern Tryz.func255 (by kernel_rfl) (by kernel_rfl) (by kernel_rfl) (e := Extern.BytealgCompare.compare) (by kernel_rfl), Lib.run_compareString]
  simp only [Result.andThen]
  rw [Oper.upon_value]
  go_wp2
  go_ret
  exact ⟨rfl, rfl⟩
theorem cmpOK : Q1ky Tryz.prog 221 := by
  refine ⟨⟨_, Tryz.func221, by kernel_rfl, by kernel_rfl⟩, fun x y w => ?_⟩
  have h := comparing x y w
  rw [← cmpL_eq, ← toList_data, ← toList_data] at h
  exact h
end Go.Proofs.YtimjjohlpnkacaaGreat
end

section
/- What is of bounded bulk holds nothing longer. -/
namespace Go.Proofs.YtimjjohlpnkacaaGreat.bulks
open Go.Pv
theorem one_le {H : Type} (d : DataW H) : 1 ≤ Rows.uptoBulk d := by
  cases d with
  | lit l => cases l <;> simp [Rows.uptoBulk]
  | nil => simp [Rows.uptoBulk]
  | ptr d => simp [Rows.uptoBulk]
  | slice elems spare => simp [Rows.uptoBulk]
  | agg parts => simp [Rows.uptoBulk]
  | iface t d => simp [Rows.uptoBulk]
  | map entries => simp [Rows.uptoBulk]
  | held h => simp [Rows.uptoBulk]
theorem Q14o {H : Type} {d : DataW H} {l : List (DataW H)} (h : d ∈ l) : Rows.uptoBulk d ≤ Rows.uptoBulkAll l := by
  induction l with
  | nil => cases h
  | cons x r ih =>
    simp only [Rows.uptoBulkAll]
    rcases List.mem_cons.1 h with e | e
    · subst e; omega
    · have := ih e; omega
theorem length_le {H : Type} (l : List (DataW H)) : l.length ≤ Rows.uptoBulkAll l := by
  induction l with
  | nil => simp [Rows.uptoBulkAll]
  | cons x r ih => have := one_le x; simp only [Rows.uptoBulkAll, List.length_cons]; omega
theorem Q1hg {H : Type} {N : Nat} : ∀ (k : Nat) (d : DataW H), Rows.uptoBulk d ≤ k → k ≤ N → CapD N d
  | 0, d, h, _ => by have := one_le d; omega
  | k + 1, d, h, hk => by
    cases d with
    | lit l => exact .lit l (fun b e => by subst e; simp only [Rows.uptoBulk] at h; omega)
    | nil => exact .nil
    | ptr d => exact .ptr d
    | slice elems spare =>
      simp only [Rows.uptoBulk] at h
      exact .slice elems spare (by have := length_le elems; omega) (fun z hz => Q1hg k z (by have := Q14o hz; omega) (by omega))
    | agg parts =>
      simp only [Rows.uptoBulk] at h
      exact .agg parts (fun z hz => Q1hg k z (by have := Q14o hz; omega) (by omega))
    | iface t d => exact .iface t d
    | map entries => exact .map entries
    | held x => exact .held x
theorem caps {H : Type} {ds gs : List (DataW H)} (hk : Rows.uptoSmall H (ds ++ gs) = true) : ∀ d ∈ ds, CapD 1048576 d := fun d hd =>
  Q1hg 1048576 d (Nat.le_trans (Q14o (List.mem_append_left _ hd)) (of_decide_eq_true hk)) (Nat.le_refl _)
end Go.Proofs.YtimjjohlpnkacaaGreat.bulks
end

