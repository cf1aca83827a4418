/- Texts of the claim, merged by a program; what the statement does not reach is left out. -/
import Derived.Test.YtedohmdgbilicaaBValueBuilds3

section
/- What building lists and maps computes (printed by a program). -/
namespace Go.Proofs.Ytedohmdgbilicaa
open Go.Pv
def Q1w (n0 : Nat) (p0 : List Fld) (p1 : Int) (p2 : Int) (p3 : Int) : Nat → Int → Int → Int
 | 0, v0_0, _v0_1 => v0_0
 | k0 + 1, v0_0, v0_1 =>
  bif (decide (v0_0 < v0_1)) then
   bif (decide ((Q1m (List.getD p0 (Int.toNat ((v0_0 + v0_1) / 2)) zF) (List.getD p0 (Int.toNat p1) zF)) < 0)) then
    Q1w n0 p0 p1 p2 p3 k0 (((v0_0 + v0_1) / 2) + 1) v0_1
   else
    Q1w n0 p0 p1 p2 p3 k0 v0_0 ((v0_0 + v0_1) / 2)
  else
   v0_0
def Qc9 (n0 : Nat) (_p0 : List Fld) (p1 : Int) (_p2 : Int) (_p3 : Int) (v0_0 : Int) (v0_1 : Int) : List PV :=
  [.ms 0 6 0 n0, .int .i64 p1, .un, .un, .fn 51 [] []] ++ nuns 5 ++ [.int .i64 v0_0, .int .i64 v0_1] ++ nuns 208
def Q79 (_n0 : Nat) (p0 : List Fld) (_p1 : Int) (_p2 : Int) (_p3 : Int) (_v0_0 : Int) (_v0_1 : Int) : List Ob :=
  [⟨6, 0, false, (Fld.rows p0).flatten⟩]
def Q4m (n0 : Nat) (p0 : List Fld) (p1 : Int) (p2 : Int) (p3 : Int) (v0_0 : Int) (v0_1 : Int) : En := .loop 1 Ir.Qbw Ir.Qsl (Qc9 n0 p0 p1 p2 p3 v0_0 v0_1) (Q79 n0 p0 p1 p2 p3 v0_0 v0_1)
def Q7y (n0 : Nat) (p0 : List Fld) (p1 : Int) (_p2 : Int) (_p3 : Int) (q0 : Int) (z : Nat → PV) (_zo : Nat → List PV) : St :=
  ⟨[.ms 0 6 0 n0, .int .i64 p1] ++ zr z 2 8 ++ [.int .i64 q0] ++ zr z 11 209, [(0, ⟨6, 0, false, (Fld.rows p0).flatten⟩)], 193⟩
theorem Qff (n0 : Nat) (p0 : List Fld) (p1 : Int) (p2 : Int) (p3 : Int) (v0_0 : Int) (v0_1 : Int) : VOK (Go.Pv.look (number 0 (Q79 n0 p0 p1 p2 p3 v0_0 v0_1))) [(0, Fld.rows p0)] := (VOK.cons (show Seen _ _ from Q2q (ob := ⟨6, 0, false, (Fld.rows p0).flatten⟩) (Fld.Q0 p0 6 rfl)) VOK.nil)
def Q9a (n0 : Nat) (p0 : List Fld) (p1 : Int) (p2 : Int) (p3 : Int) (e : En) (q : Int) : Prop := ∃ z zo, Qb G e (.st (.exit 0) (Q7y n0 p0 p1 p2 p3 q z zo))
theorem Q6x (n0 : Nat) (p0 : List Fld) (p1 : Int) (p2 : Int) (p3 : Int) {e e' : En} (h : ∀ r, Qb G e r → Qb G e' r) : ∀ q, Q9a n0 p0 p1 p2 p3 e q → Q9a n0 p0 p1 p2 p3 e' q
  | _, ⟨z, zo, hz⟩ => ⟨z, zo, h _ hz⟩
theorem Qne (n0 : Nat) (p0 : List Fld) (p1 : Int) (p2 : Int) (p3 : Int) (v0_0 : Int) (v0_1 : Int) (ho0_0 : p2 ≤ v0_0) (_ho0_1 : v0_0 ≤ v0_1) (ho0_2 : v0_1 ≤ p3) (ho0_3 : p3 ≤ n0) (ho0_4 : 0 ≤ p1) (ho0_5 : p1 < p2) (ho0_6 : (n0 : Int) ≤ 1152921504606846976) (ho0_7 : List.length p0 = n0) (h0 : (decide (v0_0 < v0_1)) = true) (h1 : (decide ((Q1m (List.getD p0 (Int.toNat ((v0_0 + v0_1) / 2)) zF) (List.getD p0 (Int.toNat p1) zF)) < 0)) = true) {r : Rs} (hr : Qb G (Q4m n0 p0 p1 p2 p3 (((v0_0 + v0_1) / 2) + 1) v0_1) r) : Qb G (Q4m n0 p0 p1 p2 p3 v0_0 v0_1) r := by
 have e0 := of_decide_eq_true h0; have e1 := of_decide_eq_true h1
 exact Qi (Qff n0 p0 p1 p2 p3 v0_0 v0_1) (y := (Qc9 n0 p0 p1 p2 p3 (((v0_0 + v0_1) / 2) + 1) v0_1, Q79 n0 p0 p1 p2 p3 (((v0_0 + v0_1) / 2) + 1) v0_1)) [hB 2 h0, hP 2 (w_ok (v0_0 + v0_1) (by omega)), hP 0 (Qv (v0_0 + v0_1) (by omega)), hP 0 (Q17 (v0_0 + v0_1)), hP 0 (Qw ((v0_0 + v0_1) / 2) (by omega)), hP 4 (Q14 0 6 n0 ((v0_0 + v0_1) / 2) (Int.toNat ((v0_0 + v0_1) / 2)) rfl (by omega) (by omega)), hP 0 (Q2d 0 6 0 false ((Fld.rows p0).flatten) (Fld.rows p0) 6 true (Int.toNat ((v0_0 + v0_1) / 2)) 0 ((Int.toNat ((v0_0 + v0_1) / 2)) * 6) (Fld.cells (List.getD p0 (Int.toNat ((v0_0 + v0_1) / 2)) zF)) (.agg [.str (List.getD p0 (Int.toNat ((v0_0 + v0_1) / 2)) zF).name, .int .i64 (List.getD p0 (Int.toNat ((v0_0 + v0_1) / 2)) zF).v.kind, .int .i64 (List.getD p0 (Int.toNat ((v0_0 + v0_1) / 2)) zF).v.n, .str (List.getD p0 (Int.toNat ((v0_0 + v0_1) / 2)) zF).v.s, .sl (Val.rows (List.getD p0 (Int.toNat ((v0_0 + v0_1) / 2)) zF).v.list), .sl (Fld.rows (List.getD p0 (Int.toNat ((v0_0 + v0_1) / 2)) zF).v.fields)]) rfl rfl (Fld.Qj (Qu p0 (Int.toNat ((v0_0 + v0_1) / 2)) zF (by omega))) (Fld.Qm p0) (by decide) rfl), hP 2 (Q14 0 6 n0 p1 (Int.toNat p1) rfl (by omega) (by omega)), hP 0 (Q2d 0 6 0 false ((Fld.rows p0).flatten) (Fld.rows p0) 6 true (Int.toNat p1) 0 ((Int.toNat p1) * 6) (Fld.cells (List.getD p0 (Int.toNat p1) zF)) (.agg [.str (List.getD p0 (Int.toNat p1) zF).name, .int .i64 (List.getD p0 (Int.toNat p1) zF).v.kind, .int .i64 (List.getD p0 (Int.toNat p1) zF).v.n, .str (List.getD p0 (Int.toNat p1) zF).v.s, .sl (Val.rows (List.getD p0 (Int.toNat p1) zF).v.list), .sl (Fld.rows (List.getD p0 (Int.toNat p1) zF).v.fields)]) rfl rfl (Fld.Qj (Qu p0 (Int.toNat p1) zF (by omega))) (Fld.Qm p0) (by decide) rfl), hB 1 h1, hP 1 (w_ok (((v0_0 + v0_1) / 2) + 1) (by omega))] [aN (Qig (List.getD p0 (Int.toNat ((v0_0 + v0_1) / 2)) zF) (List.getD p0 (Int.toNat p1) zF))] (by kernel_rfl) hr
theorem Qn9 (n0 : Nat) (p0 : List Fld) (p1 : Int) (p2 : Int) (p3 : Int) (v0_0 : Int) (v0_1 : Int) (ho0_0 : p2 ≤ v0_0) (_ho0_1 : v0_0 ≤ v0_1) (ho0_2 : v0_1 ≤ p3) (ho0_3 : p3 ≤ n0) (ho0_4 : 0 ≤ p1) (ho0_5 : p1 < p2) (ho0_6 : (n0 : Int) ≤ 1152921504606846976) (ho0_7 : List.length p0 = n0) (h0 : (decide (v0_0 < v0_1)) = true) (h1 : (decide ((Q1m (List.getD p0 (Int.toNat ((v0_0 + v0_1) / 2)) zF) (List.getD p0 (Int.toNat p1) zF)) < 0)) = false) {r : Rs} (hr : Qb G (Q4m n0 p0 p1 p2 p3 v0_0 ((v0_0 + v0_1) / 2)) r) : Qb G (Q4m n0 p0 p1 p2 p3 v0_0 v0_1) r := by
 have e0 := of_decide_eq_true h0; have e1 := of_decide_eq_false h1
 exact Qi (Qff n0 p0 p1 p2 p3 v0_0 v0_1) (y := (Qc9 n0 p0 p1 p2 p3 v0_0 ((v0_0 + v0_1) / 2), Q79 n0 p0 p1 p2 p3 v0_0 ((v0_0 + v0_1) / 2))) [hB 2 h0, hP 2 (w_ok (v0_0 + v0_1) (by omega)), hP 0 (Qv (v0_0 + v0_1) (by omega)), hP 0 (Q17 (v0_0 + v0_1)), hP 0 (Qw ((v0_0 + v0_1) / 2) (by omega)), hP 4 (Q14 0 6 n0 ((v0_0 + v0_1) / 2) (Int.toNat ((v0_0 + v0_1) / 2)) rfl (by omega) (by omega)), hP 0 (Q2d 0 6 0 false ((Fld.rows p0).flatten) (Fld.rows p0) 6 true (Int.toNat ((v0_0 + v0_1) / 2)) 0 ((Int.toNat ((v0_0 + v0_1) / 2)) * 6) (Fld.cells (List.getD p0 (Int.toNat ((v0_0 + v0_1) / 2)) zF)) (.agg [.str (List.getD p0 (Int.toNat ((v0_0 + v0_1) / 2)) zF).name, .int .i64 (List.getD p0 (Int.toNat ((v0_0 + v0_1) / 2)) zF).v.kind, .int .i64 (List.getD p0 (Int.toNat ((v0_0 + v0_1) / 2)) zF).v.n, .str (List.getD p0 (Int.toNat ((v0_0 + v0_1) / 2)) zF).v.s, .sl (Val.rows (List.getD p0 (Int.toNat ((v0_0 + v0_1) / 2)) zF).v.list), .sl (Fld.rows (List.getD p0 (Int.toNat ((v0_0 + v0_1) / 2)) zF).v.fields)]) rfl rfl (Fld.Qj (Qu p0 (Int.toNat ((v0_0 + v0_1) / 2)) zF (by omega))) (Fld.Qm p0) (by decide) rfl), hP 2 (Q14 0 6 n0 p1 (Int.toNat p1) rfl (by omega) (by omega)), hP 0 (Q2d 0 6 0 false ((Fld.rows p0).flatten) (Fld.rows p0) 6 true (Int.toNat p1) 0 ((Int.toNat p1) * 6) (Fld.cells (List.getD p0 (Int.toNat p1) zF)) (.agg [.str (List.getD p0 (Int.toNat p1) zF).name, .int .i64 (List.getD p0 (Int.toNat p1) zF).v.kind, .int .i64 (List.getD p0 (Int.toNat p1) zF).v.n, .str (List.getD p0 (Int.toNat p1) zF).v.s, .sl (Val.rows (List.getD p0 (Int.toNat p1) zF).v.list), .sl (Fld.rows (List.getD p0 (Int.toNat p1) zF).v.fields)]) rfl rfl (Fld.Qj (Qu p0 (Int.toNat p1) zF (by omega))) (Fld.Qm p0) (by decide) rfl), hB 1 h1] [aN (Qig (List.getD p0 (Int.toNat ((v0_0 + v0_1) / 2)) zF) (List.getD p0 (Int.toNat p1) zF))] (by kernel_rfl) hr
def Qcm (_n0 : Nat) (_p0 : List Fld) (_p1 : Int) (_p2 : Int) (_p3 : Int) (v0_0 : Int) (v0_1 : Int) : List PV :=
  [.un, .un, .un, .un, .fn 51 [] []] ++ nuns 6 ++ [.int .i64 v0_1] ++ nuns 19 ++ [.int .i64 v0_0, .int .i64 v0_1, .bool false]
def Qao (_n0 : Nat) (_p0 : List Fld) (_p1 : Int) (_p2 : Int) (_p3 : Int) (_v0_0 : Int) (_v0_1 : Int) : List (Nat × List PV) :=
  []
theorem Qmu (n0 : Nat) (p0 : List Fld) (p1 : Int) (p2 : Int) (p3 : Int) (v0_0 : Int) (v0_1 : Int) (_ho0_0 : p2 ≤ v0_0) (_ho0_1 : v0_0 ≤ v0_1) (_ho0_2 : v0_1 ≤ p3) (_ho0_3 : p3 ≤ n0) (_ho0_4 : 0 ≤ p1) (_ho0_5 : p1 < p2) (_ho0_6 : (n0 : Int) ≤ 1152921504606846976) (_ho0_7 : List.length p0 = n0) (h0 : (decide (v0_0 < v0_1)) = false) : Q9a n0 p0 p1 p2 p3 (Q4m n0 p0 p1 p2 p3 v0_0 v0_1) v0_0 := by
 exact ⟨(envF (Qcm n0 p0 p1 p2 p3 v0_0 v0_1)), (zoF (Qao n0 p0 p1 p2 p3 v0_0 v0_1)), Qn (Qff n0 p0 p1 p2 p3 v0_0 v0_1) (x := ((.exit 0), Q7y n0 p0 p1 p2 p3 v0_0 (envF (Qcm n0 p0 p1 p2 p3 v0_0 v0_1)) (zoF (Qao n0 p0 p1 p2 p3 v0_0 v0_1)))) [hB 2 h0] [] (by kernel_rfl)⟩
theorem Qce (n0 : Nat) (p0 : List Fld) (p1 : Int) (p2 : Int) (p3 : Int) : ∀ (k0 : Nat) (v0_0 : Int) (v0_1 : Int), p2 ≤ v0_0 → v0_0 ≤ v0_1 → v0_1 ≤ p3 → p3 ≤ n0 → 0 ≤ p1 → p1 < p2 → (n0 : Int) ≤ 1152921504606846976 → List.length p0 = n0 → Int.toNat (v0_1 - v0_0) < k0 → Q9a n0 p0 p1 p2 p3 (Q4m n0 p0 p1 p2 p3 v0_0 v0_1) (Q1w n0 p0 p1 p2 p3 k0 v0_0 v0_1)
 | 0, v0_0, v0_1, _, _, _, _, _, _, _, _, hm => absurd hm (Nat.not_lt_zero _)
 | k0 + 1, v0_0, v0_1, ho0_0, ho0_1, ho0_2, ho0_3, ho0_4, ho0_5, ho0_6, ho0_7, hm => by
  rw [Q1w]
  cases h0 : (decide (v0_0 < v0_1)) with
  | true =>
   have e0 := of_decide_eq_true h0
   cases h1 : (decide ((Q1m (List.getD p0 (Int.toNat ((v0_0 + v0_1) / 2)) zF) (List.getD p0 (Int.toNat p1) zF)) < 0)) with
   | true =>
    have e1 := of_decide_eq_true h1
    exact Q6x n0 p0 p1 p2 p3 (fun r hr => Qne n0 p0 p1 p2 p3 v0_0 v0_1 ho0_0 ho0_1 ho0_2 ho0_3 ho0_4 ho0_5 ho0_6 ho0_7 h0 h1 hr) _ (Qce n0 p0 p1 p2 p3 k0 (((v0_0 + v0_1) / 2) + 1) v0_1 (by omega) (by omega) (by omega) (by omega) (by omega) (by omega) (by omega) ho0_7 (by omega))
   | false =>
    have e1 := of_decide_eq_false h1
    exact Q6x n0 p0 p1 p2 p3 (fun r hr => Qn9 n0 p0 p1 p2 p3 v0_0 v0_1 ho0_0 ho0_1 ho0_2 ho0_3 ho0_4 ho0_5 ho0_6 ho0_7 h0 h1 hr) _ (Qce n0 p0 p1 p2 p3 k0 v0_0 ((v0_0 + v0_1) / 2) (by omega) (by omega) (by omega) (by omega) (by omega) (by omega) (by omega) ho0_7 (by omega))
  | false =>
   exact Qmu n0 p0 p1 p2 p3 v0_0 v0_1 ho0_0 ho0_1 ho0_2 ho0_3 ho0_4 ho0_5 ho0_6 ho0_7 h0
theorem Qa5 (n0 : Nat) (p0 : List Fld) (p1 : Int) (p2 : Int) (p3 : Int) : ∀ (k0 : Nat) (v0_0 : Int) (v0_1 : Int), p2 ≤ v0_0 → v0_0 ≤ v0_1 → v0_1 ≤ p3 → p3 ≤ n0 → 0 ≤ p1 → p1 < p2 → (n0 : Int) ≤ 1152921504606846976 → List.length p0 = n0 → Int.toNat (v0_1 - v0_0) < k0 → p2 ≤ (Q1w n0 p0 p1 p2 p3 k0 v0_0 v0_1) ∧ (Q1w n0 p0 p1 p2 p3 k0 v0_0 v0_1) ≤ p3
 | 0, v0_0, v0_1, _, _, _, _, _, _, _, _, hm => absurd hm (Nat.not_lt_zero _)
 | k0 + 1, v0_0, v0_1, ho0_0, ho0_1, ho0_2, ho0_3, ho0_4, ho0_5, ho0_6, ho0_7, hm => by
  rw [Q1w]
  cases h0 : (decide (v0_0 < v0_1)) with
  | true =>
   have e0 := of_decide_eq_true h0
   cases h1 : (decide ((Q1m (List.getD p0 (Int.toNat ((v0_0 + v0_1) / 2)) zF) (List.getD p0 (Int.toNat p1) zF)) < 0)) with
   | true =>
    have e1 := of_decide_eq_true h1
    exact Qa5 n0 p0 p1 p2 p3 k0 (((v0_0 + v0_1) / 2) + 1) v0_1 (by omega) (by omega) (by omega) (by omega) (by omega) (by omega) (by omega) ho0_7 (by omega)
   | false =>
    have e1 := of_decide_eq_false h1
    exact Qa5 n0 p0 p1 p2 p3 k0 v0_0 ((v0_0 + v0_1) / 2) (by omega) (by omega) (by omega) (by omega) (by omega) (by omega) (by omega) ho0_7 (by omega)
  | false =>
   have e0 := of_decide_eq_false h0
   exact (show p2 ≤ v0_0 ∧ v0_0 ≤ p3 from ⟨(by omega), (by omega)⟩)
def Q26 (n0 : Nat) : Nat → Int → (List Fld) → Int → List Fld
 | 0, _v1_0, v1_1, _v1_2 => v1_1
 | k1 + 1, v1_0, v1_1, v1_2 =>
  bif (decide (v1_2 < (v1_0 - 1))) then
   Q26 n0 k1 v1_0 (List.set (List.set v1_1 (Int.toNat v1_2) (List.getD v1_1 (Int.toNat (v1_2 + 1)) zF)) (Int.toNat (v1_2 + 1)) (List.getD v1_1 (Int.toNat v1_2) zF)) (v1_2 + 1)
  else
   v1_1
def Qit (n0 : Nat) (v1_0 : Int) (_v1_1 : List Fld) (v1_2 : Int) : List PV :=
  [.ms 0 6 0 n0] ++ nuns 9 ++ [.int .i64 v1_0, .un, .un, .int .i64 v1_2] ++ nuns 206
def Qbx (_n0 : Nat) (_v1_0 : Int) (v1_1 : List Fld) (_v1_2 : Int) : List Ob :=
  [⟨6, 0, false, (Fld.rows v1_1).flatten⟩]
def Q6y (n0 : Nat) (v1_0 : Int) (v1_1 : List Fld) (v1_2 : Int) : En := .loop 1 Ir.Qbf Ir.Qs8 (Qit n0 v1_0 v1_1 v1_2) (Qbx n0 v1_0 v1_1 v1_2)
def Q7s (_n0 : Nat) (q0 : List Fld) (z : Nat → PV) (_zo : Nat → List PV) : St :=
  ⟨zr z 0 220, [(0, ⟨6, 0, false, (Fld.rows q0).flatten⟩)], 257⟩
theorem Qm5 (n0 : Nat) (v1_0 : Int) (v1_1 : List Fld) (v1_2 : Int) : VOK (Go.Pv.look (number 0 (Qbx n0 v1_0 v1_1 v1_2))) [(0, Fld.rows v1_1)] := (VOK.cons (show Seen _ _ from Q2q (ob := ⟨6, 0, false, (Fld.rows v1_1).flatten⟩) (Fld.Q0 v1_1 6 rfl)) VOK.nil)
def Q8n (n0 : Nat) (e : En) (q : List Fld) : Prop := ∃ z zo, Qb G e (.st (.exit 2) (Q7s n0 q z zo))
theorem Qf1 (n0 : Nat) {e e' : En} (h : ∀ r, Qb G e r → Qb G e' r) : ∀ q, Q8n n0 e q → Q8n n0 e' q
  | _, ⟨z, zo, hz⟩ => ⟨z, zo, h _ hz⟩
theorem Qnw (n0 : Nat) (v1_0 : Int) (v1_1 : List Fld) (v1_2 : Int) (ho1_0 : 0 ≤ v1_2) (ho1_1 : v1_0 ≤ n0) (ho1_2 : 0 ≤ v1_0) (ho1_3 : (n0 : Int) ≤ 1152921504606846976) (ho1_4 : List.length v1_1 = n0) (h0 : (decide (v1_2 < (v1_0 - 1))) = true) {r : Rs} (hr : Qb G (Q6y n0 v1_0 (List.set (List.set v1_1 (Int.toNat v1_2) (List.getD v1_1 (Int.toNat (v1_2 + 1)) zF)) (Int.toNat (v1_2 + 1)) (List.getD v1_1 (Int.toNat v1_2) zF)) (v1_2 + 1)) r) : Qb G (Q6y n0 v1_0 v1_1 v1_2) r := by
 have e0 := of_decide_eq_true h0
 exact Qi (Qm5 n0 v1_0 v1_1 v1_2) (y := (Qit n0 v1_0 (List.set (List.set v1_1 (Int.toNat v1_2) (List.getD v1_1 (Int.toNat (v1_2 + 1)) zF)) (Int.toNat (v1_2 + 1)) (List.getD v1_1 (Int.toNat v1_2) zF)) (v1_2 + 1), Qbx n0 v1_0 (List.set (List.set v1_1 (Int.toNat v1_2) (List.getD v1_1 (Int.toNat (v1_2 + 1)) zF)) (Int.toNat (v1_2 + 1)) (List.getD v1_1 (Int.toNat v1_2) zF)) (v1_2 + 1))) [hP 2 (w_ok (v1_0 - 1) (by omega)), hB 0 h0, hP 4 (w_ok (v1_2 + 1) (by omega)), hP 2 (w_ok (v1_2 + 1) (by omega)), hP 0 (Q14 0 6 n0 (v1_2 + 1) (Int.toNat (v1_2 + 1)) rfl (by omega) (by omega)), hP 0 (Q2d 0 6 0 false ((Fld.rows v1_1).flatten) (Fld.rows v1_1) 6 true (Int.toNat (v1_2 + 1)) 0 ((Int.toNat (v1_2 + 1)) * 6) (Fld.cells (List.getD v1_1 (Int.toNat (v1_2 + 1)) zF)) (.agg [.str (List.getD v1_1 (Int.toNat (v1_2 + 1)) zF).name, .int .i64 (List.getD v1_1 (Int.toNat (v1_2 + 1)) zF).v.kind, .int .i64 (List.getD v1_1 (Int.toNat (v1_2 + 1)) zF).v.n, .str (List.getD v1_1 (Int.toNat (v1_2 + 1)) zF).v.s, .sl (Val.rows (List.getD v1_1 (Int.toNat (v1_2 + 1)) zF).v.list), .sl (Fld.rows (List.getD v1_1 (Int.toNat (v1_2 + 1)) zF).v.fields)]) rfl rfl (Fld.Qj (Qu v1_1 (Int.toNat (v1_2 + 1)) zF (by omega))) (Fld.Qm v1_1) (by decide) rfl), hP 2 (Q14 0 6 n0 v1_2 (Int.toNat v1_2) rfl (by omega) (by omega)), hP 0 (Q2d 0 6 0 false ((Fld.rows v1_1).flatten) (Fld.rows v1_1) 6 true (Int.toNat v1_2) 0 ((Int.toNat v1_2) * 6) (Fld.cells (List.getD v1_1 (Int.toNat v1_2) zF)) (.agg [.str (List.getD v1_1 (Int.toNat v1_2) zF).name, .int .i64 (List.getD v1_1 (Int.toNat v1_2) zF).v.kind, .int .i64 (List.getD v1_1 (Int.toNat v1_2) zF).v.n, .str (List.getD v1_1 (Int.toNat v1_2) zF).v.s, .sl (Val.rows (List.getD v1_1 (Int.toNat v1_2) zF).v.list), .sl (Fld.rows (List.getD v1_1 (Int.toNat v1_2) zF).v.fields)]) rfl rfl (Fld.Qj (Qu v1_1 (Int.toNat v1_2) zF (by omega))) (Fld.Qm v1_1) (by decide) rfl), hP 0 (Q14 0 6 n0 v1_2 (Int.toNat v1_2) rfl (by omega) (by omega)), hV 0 [(0, Fld.rows (List.set v1_1 (Int.toNat v1_2) (List.getD v1_1 (Int.toNat (v1_2 + 1)) zF)))] (Q8l 0 6 false ((Fld.rows v1_1).flatten) (Fld.rows v1_1) (Fld.rows (List.set v1_1 (Int.toNat v1_2) (List.getD v1_1 (Int.toNat (v1_2 + 1)) zF))) 6 (Int.toNat v1_2) 0 ((Int.toNat v1_2) * 6) _ (.agg [.str (List.getD v1_1 (Int.toNat (v1_2 + 1)) zF).name, .int .i64 (List.getD v1_1 (Int.toNat (v1_2 + 1)) zF).v.kind, .int .i64 (List.getD v1_1 (Int.toNat (v1_2 + 1)) zF).v.n, .str (List.getD v1_1 (Int.toNat (v1_2 + 1)) zF).v.s, .sl (Val.rows (List.getD v1_1 (Int.toNat (v1_2 + 1)) zF).v.list), .sl (Fld.rows (List.getD v1_1 (Int.toNat (v1_2 + 1)) zF).v.fields)]) rfl rfl (Fld.Qj (Qu v1_1 (Int.toNat v1_2) zF (by omega))) (Fld.Qm v1_1) (by decide) rfl rfl (Fld.Q34 v1_1 (Int.toNat v1_2) (List.getD v1_1 (Int.toNat (v1_2 + 1)) zF))), hS 0 false (Fld.Q0 (List.set v1_1 (Int.toNat v1_2) (List.getD v1_1 (Int.toNat (v1_2 + 1)) zF)) 6 rfl), hP 0 (Q14 0 6 n0 (v1_2 + 1) (Int.toNat (v1_2 + 1)) rfl (by have f0 := (Qq ho1_4 (Int.toNat v1_2) (List.getD v1_1 (Int.toNat (v1_2 + 1)) zF)); omega) (by have f0 := (Qq ho1_4 (Int.toNat v1_2) (List.getD v1_1 (Int.toNat (v1_2 + 1)) zF)); omega)), hV 0 [(0, Fld.rows (List.set (List.set v1_1 (Int.toNat v1_2) (List.getD v1_1 (Int.toNat (v1_2 + 1)) zF)) (Int.toNat (v1_2 + 1)) (List.getD v1_1 (Int.toNat v1_2) zF)))] (Q8l 0 6 false ((Fld.rows (List.set v1_1 (Int.toNat v1_2) (List.getD v1_1 (Int.toNat (v1_2 + 1)) zF))).flatten) (Fld.rows (List.set v1_1 (Int.toNat v1_2) (List.getD v1_1 (Int.toNat (v1_2 + 1)) zF))) (Fld.rows (List.set (List.set v1_1 (Int.toNat v1_2) (List.getD v1_1 (Int.toNat (v1_2 + 1)) zF)) (Int.toNat (v1_2 + 1)) (List.getD v1_1 (Int.toNat v1_2) zF))) 6 (Int.toNat (v1_2 + 1)) 0 ((Int.toNat (v1_2 + 1)) * 6) _ (.agg [.str (List.getD v1_1 (Int.toNat v1_2) zF).name, .int .i64 (List.getD v1_1 (Int.toNat v1_2) zF).v.kind, .int .i64 (List.getD v1_1 (Int.toNat v1_2) zF).v.n, .str (List.getD v1_1 (Int.toNat v1_2) zF).v.s, .sl (Val.rows (List.getD v1_1 (Int.toNat v1_2) zF).v.list), .sl (Fld.rows (List.getD v1_1 (Int.toNat v1_2) zF).v.fields)]) rfl rfl (Fld.Qj (Qu (List.set v1_1 (Int.toNat v1_2) (List.getD v1_1 (Int.toNat (v1_2 + 1)) zF)) (Int.toNat (v1_2 + 1)) zF (by have f0 := (Qq ho1_4 (Int.toNat v1_2) (List.getD v1_1 (Int.toNat (v1_2 + 1)) zF)); try simp only [List.length_set]; omega))) (Fld.Qm (List.set v1_1 (Int.toNat v1_2) (List.getD v1_1 (Int.toNat (v1_2 + 1)) zF))) (by decide) rfl rfl (Fld.Q34 (List.set v1_1 (Int.toNat v1_2) (List.getD v1_1 (Int.toNat (v1_2 + 1)) zF)) (Int.toNat (v1_2 + 1)) (List.getD v1_1 (Int.toNat v1_2) zF))), hS 0 false (Fld.Q0 (List.set (List.set v1_1 (Int.toNat v1_2) (List.getD v1_1 (Int.toNat (v1_2 + 1)) zF)) (Int.toNat (v1_2 + 1)) (List.getD v1_1 (Int.toNat v1_2) zF)) 6 rfl), hP 1 (w_ok (v1_2 + 1) (by have f0 := (Qq (Qq ho1_4 (Int.toNat v1_2) (List.getD v1_1 (Int.toNat (v1_2 + 1)) zF)) (Int.toNat (v1_2 + 1)) (List.getD v1_1 (Int.toNat v1_2) zF)); omega))] [] (by kernel_rfl) hr
def Qd8 (n0 : Nat) (v1_0 : Int) (_v1_1 : List Fld) (v1_2 : Int) : List PV :=
  [.ms 0 6 0 n0] ++ nuns 9 ++ [.int .i64 v1_0, .un, .un, .int .i64 v1_2] ++ nuns 41 ++ [.int .i64 v1_2, .int .i64 v1_0, .int .i64 (v1_0 - 1), .bool false]
def Qc4 (_n0 : Nat) (_v1_0 : Int) (_v1_1 : List Fld) (_v1_2 : Int) : List (Nat × List PV) :=
  []
theorem Qmj (n0 : Nat) (v1_0 : Int) (v1_1 : List Fld) (v1_2 : Int) (_ho1_0 : 0 ≤ v1_2) (ho1_1 : v1_0 ≤ n0) (ho1_2 : 0 ≤ v1_0) (ho1_3 : (n0 : Int) ≤ 1152921504606846976) (ho1_4 : List.length v1_1 = n0) (h0 : (decide (v1_2 < (v1_0 - 1))) = false) : Q8n n0 (Q6y n0 v1_0 v1_1 v1_2) v1_1 := by
 have e0 := of_decide_eq_false h0
 exact ⟨(envF (Qd8 n0 v1_0 v1_1 v1_2)), (zoF (Qc4 n0 v1_0 v1_1 v1_2)), Qn (Qm5 n0 v1_0 v1_1 v1_2) (x := ((.exit 2), Q7s n0 v1_1 (envF (Qd8 n0 v1_0 v1_1 v1_2)) (zoF (Qc4 n0 v1_0 v1_1 v1_2)))) [hP 2 (w_ok (v1_0 - 1) (by omega)), hB 0 h0] [] (by kernel_rfl)⟩
theorem Qj5 (n0 : Nat) : ∀ (k1 : Nat) (v1_0 : Int) (v1_1 : List Fld) (v1_2 : Int), 0 ≤ v1_2 → v1_0 ≤ n0 → 0 ≤ v1_0 → (n0 : Int) ≤ 1152921504606846976 → List.length v1_1 = n0 → Int.toNat (v1_0 - v1_2) < k1 → Q8n n0 (Q6y n0 v1_0 v1_1 v1_2) (Q26 n0 k1 v1_0 v1_1 v1_2)
 | 0, v1_0, v1_1, v1_2, _, _, _, _, _, hm => absurd hm (Nat.not_lt_zero _)
 | k1 + 1, v1_0, v1_1, v1_2, ho1_0, ho1_1, ho1_2, ho1_3, ho1_4, hm => by
  rw [Q26]
  cases h0 : (decide (v1_2 < (v1_0 - 1))) with
  | true =>
   have e0 := of_decide_eq_true h0
   exact Qf1 n0 (fun r hr => Qnw n0 v1_0 v1_1 v1_2 ho1_0 ho1_1 ho1_2 ho1_3 ho1_4 h0 hr) _ (Qj5 n0 k1 v1_0 (List.set (List.set v1_1 (Int.toNat v1_2) (List.getD v1_1 (Int.toNat (v1_2 + 1)) zF)) (Int.toNat (v1_2 + 1)) (List.getD v1_1 (Int.toNat v1_2) zF)) (v1_2 + 1) (by have f0 := (Qq (Qq ho1_4 (Int.toNat v1_2) (List.getD v1_1 (Int.toNat (v1_2 + 1)) zF)) (Int.toNat (v1_2 + 1)) (List.getD v1_1 (Int.toNat v1_2) zF)); omega) (by have f0 := (Qq (Qq ho1_4 (Int.toNat v1_2) (List.getD v1_1 (Int.toNat (v1_2 + 1)) zF)) (Int.toNat (v1_2 + 1)) (List.getD v1_1 (Int.toNat v1_2) zF)); omega) (by have f0 := (Qq (Qq ho1_4 (Int.toNat v1_2) (List.getD v1_1 (Int.toNat (v1_2 + 1)) zF)) (Int.toNat (v1_2 + 1)) (List.getD v1_1 (Int.toNat v1_2) zF)); omega) (by have f0 := (Qq (Qq ho1_4 (Int.toNat v1_2) (List.getD v1_1 (Int.toNat (v1_2 + 1)) zF)) (Int.toNat (v1_2 + 1)) (List.getD v1_1 (Int.toNat v1_2) zF)); omega) (Qq (Qq ho1_4 (Int.toNat v1_2) (List.getD v1_1 (Int.toNat (v1_2 + 1)) zF)) (Int.toNat (v1_2 + 1)) (List.getD v1_1 (Int.toNat v1_2) zF)) (by have f0 := (Qq (Qq ho1_4 (Int.toNat v1_2) (List.getD v1_1 (Int.toNat (v1_2 + 1)) zF)) (Int.toNat (v1_2 + 1)) (List.getD v1_1 (Int.toNat v1_2) zF)); omega))
  | false =>
   exact Qmj n0 v1_0 v1_1 v1_2 ho1_0 ho1_1 ho1_2 ho1_3 ho1_4 h0
theorem Q6a (n0 : Nat) : ∀ (k1 : Nat) (v1_0 : Int) (v1_1 : List Fld) (v1_2 : Int), List.length v1_1 = n0 → List.length (Q26 n0 k1 v1_0 v1_1 v1_2) = n0
 | 0, v1_0, v1_1, v1_2, ho1_4 => by rw [Q26]; exact ho1_4
 | k1 + 1, v1_0, v1_1, v1_2, ho1_4 => by
  rw [Q26]
  cases h0 : (decide (v1_2 < (v1_0 - 1))) with
  | true =>
   exact Q6a n0 k1 v1_0 (List.set (List.set v1_1 (Int.toNat v1_2) (List.getD v1_1 (Int.toNat (v1_2 + 1)) zF)) (Int.toNat (v1_2 + 1)) (List.getD v1_1 (Int.toNat v1_2) zF)) (v1_2 + 1) (Qq (Qq ho1_4 (Int.toNat v1_2) (List.getD v1_1 (Int.toNat (v1_2 + 1)) zF)) (Int.toNat (v1_2 + 1)) (List.getD v1_1 (Int.toNat v1_2) zF))
  | false =>
   exact ho1_4
def Q1x (n0 : Nat) (p0 : List Fld) (p1 : Int) (p2 : Int) : Nat → Int → Int → Int
 | 0, _v2_0, v2_1 => v2_1
 | k2 + 1, v2_0, v2_1 =>
  bif (decide (v2_1 < v2_0)) then
   bif (decide ((Q1m (List.getD p0 (Int.toNat p2) zF) (List.getD p0 (Int.toNat ((v2_1 + v2_0) / 2)) zF)) < 0)) then
    Q1x n0 p0 p1 p2 k2 ((v2_1 + v2_0) / 2) v2_1
   else
    Q1x n0 p0 p1 p2 k2 v2_0 (((v2_1 + v2_0) / 2) + 1)
  else
   v2_1
def Q9o (n0 : Nat) (_p0 : List Fld) (_p1 : Int) (p2 : Int) (v2_0 : Int) (v2_1 : Int) : List PV :=
  [.ms 0 6 0 n0, .un, .int .i64 p2, .un, .fn 51 [] []] ++ nuns 9 ++ [.int .i64 v2_1, .int .i64 v2_0] ++ nuns 204
def Q76 (_n0 : Nat) (p0 : List Fld) (_p1 : Int) (_p2 : Int) (_v2_0 : Int) (_v2_1 : Int) : List Ob :=
  [⟨6, 0, false, (Fld.rows p0).flatten⟩]
def Q4w (n0 : Nat) (p0 : List Fld) (p1 : Int) (p2 : Int) (v2_0 : Int) (v2_1 : Int) : En := .loop 1 Ir.Q9h Ir.Qsb (Q9o n0 p0 p1 p2 v2_0 v2_1) (Q76 n0 p0 p1 p2 v2_0 v2_1)
def Q7j (n0 : Nat) (p0 : List Fld) (_p1 : Int) (p2 : Int) (q0 : Int) (z : Nat → PV) (_zo : Nat → List PV) : St :=
  ⟨[.ms 0 6 0 n0, z 1, .int .i64 p2] ++ zr z 3 11 ++ [.int .i64 q0] ++ zr z 15 205, [(0, ⟨6, 0, false, (Fld.rows p0).flatten⟩)], 193⟩
theorem Qfr (n0 : Nat) (p0 : List Fld) (p1 : Int) (p2 : Int) (v2_0 : Int) (v2_1 : Int) : VOK (Go.Pv.look (number 0 (Q76 n0 p0 p1 p2 v2_0 v2_1))) [(0, Fld.rows p0)] := (VOK.cons (show Seen _ _ from Q2q (ob := ⟨6, 0, false, (Fld.rows p0).flatten⟩) (Fld.Q0 p0 6 rfl)) VOK.nil)
def Q90 (n0 : Nat) (p0 : List Fld) (p1 : Int) (p2 : Int) (e : En) (q : Int) : Prop := ∃ z zo, Qb G e (.st (.exit 4) (Q7j n0 p0 p1 p2 q z zo))
theorem Q7c (n0 : Nat) (p0 : List Fld) (p1 : Int) (p2 : Int) {e e' : En} (h : ∀ r, Qb G e r → Qb G e' r) : ∀ q, Q90 n0 p0 p1 p2 e q → Q90 n0 p0 p1 p2 e' q
  | _, ⟨z, zo, hz⟩ => ⟨z, zo, h _ hz⟩
theorem Qml (n0 : Nat) (p0 : List Fld) (p1 : Int) (p2 : Int) (v2_0 : Int) (v2_1 : Int) (ho2_0 : p1 ≤ v2_1) (_ho2_1 : v2_1 ≤ v2_0) (ho2_2 : v2_0 ≤ p2) (ho2_3 : p2 < n0) (ho2_4 : 0 ≤ p1) (ho2_5 : (n0 : Int) ≤ 1152921504606846976) (ho2_6 : List.length p0 = n0) (h0 : (decide (v2_1 < v2_0)) = true) (h1 : (decide ((Q1m (List.getD p0 (Int.toNat p2) zF) (List.getD p0 (Int.toNat ((v2_1 + v2_0) / 2)) zF)) < 0)) = true) {r : Rs} (hr : Qb G (Q4w n0 p0 p1 p2 ((v2_1 + v2_0) / 2) v2_1) r) : Qb G (Q4w n0 p0 p1 p2 v2_0 v2_1) r := by
 have e0 := of_decide_eq_true h0; have e1 := of_decide_eq_true h1
 exact Qi (Qfr n0 p0 p1 p2 v2_0 v2_1) (y := (Q9o n0 p0 p1 p2 ((v2_1 + v2_0) / 2) v2_1, Q76 n0 p0 p1 p2 ((v2_1 + v2_0) / 2) v2_1)) [hB 2 h0, hP 2 (w_ok (v2_1 + v2_0) (by omega)), hP 0 (Qv (v2_1 + v2_0) (by omega)), hP 0 (Q17 (v2_1 + v2_0)), hP 0 (Qw ((v2_1 + v2_0) / 2) (by omega)), hP 4 (Q14 0 6 n0 p2 (Int.toNat p2) rfl (by omega) (by omega)), hP 0 (Q2d 0 6 0 false ((Fld.rows p0).flatten) (Fld.rows p0) 6 true (Int.toNat p2) 0 ((Int.toNat p2) * 6) (Fld.cells (List.getD p0 (Int.toNat p2) zF)) (.agg [.str (List.getD p0 (Int.toNat p2) zF).name, .int .i64 (List.getD p0 (Int.toNat p2) zF).v.kind, .int .i64 (List.getD p0 (Int.toNat p2) zF).v.n, .str (List.getD p0 (Int.toNat p2) zF).v.s, .sl (Val.rows (List.getD p0 (Int.toNat p2) zF).v.list), .sl (Fld.rows (List.getD p0 (Int.toNat p2) zF).v.fields)]) rfl rfl (Fld.Qj (Qu p0 (Int.toNat p2) zF (by omega))) (Fld.Qm p0) (by decide) rfl), hP 2 (Q14 0 6 n0 ((v2_1 + v2_0) / 2) (Int.toNat ((v2_1 + v2_0) / 2)) rfl (by omega) (by omega)), hP 0 (Q2d 0 6 0 false ((Fld.rows p0).flatten) (Fld.rows p0) 6 true (Int.toNat ((v2_1 + v2_0) / 2)) 0 ((Int.toNat ((v2_1 + v2_0) / 2)) * 6) (Fld.cells (List.getD p0 (Int.toNat ((v2_1 + v2_0) / 2)) zF)) (.agg [.str (List.getD p0 (Int.toNat ((v2_1 + v2_0) / 2)) zF).name, .int .i64 (List.getD p0 (Int.toNat ((v2_1 + v2_0) / 2)) zF).v.kind, .int .i64 (List.getD p0 (Int.toNat ((v2_1 + v2_0) / 2)) zF).v.n, .str (List.getD p0 (Int.toNat ((v2_1 + v2_0) / 2)) zF).v.s, .sl (Val.rows (List.getD p0 (Int.toNat ((v2_1 + v2_0) / 2)) zF).v.list), .sl (Fld.rows (List.getD p0 (Int.toNat ((v2_1 + v2_0) / 2)) zF).v.fields)]) rfl rfl (Fld.Qj (Qu p0 (Int.toNat ((v2_1 + v2_0) / 2)) zF (by omega))) (Fld.Qm p0) (by decide) rfl), hB 1 h1] [aN (Qig (List.getD p0 (Int.toNat p2) zF) (List.getD p0 (Int.toNat ((v2_1 + v2_0) / 2)) zF))] (by kernel_rfl) hr
theorem Qmx (n0 : Nat) (p0 : List Fld) (p1 : Int) (p2 : Int) (v2_0 : Int) (v2_1 : Int) (ho2_0 : p1 ≤ v2_1) (_ho2_1 : v2_1 ≤ v2_0) (ho2_2 : v2_0 ≤ p2) (ho2_3 : p2 < n0) (ho2_4 : 0 ≤ p1) (ho2_5 : (n0 : Int) ≤ 1152921504606846976) (ho2_6 : List.length p0 = n0) (h0 : (decide (v2_1 < v2_0)) = true) (h1 : (decide ((Q1m (List.getD p0 (Int.toNat p2) zF) (List.getD p0 (Int.toNat ((v2_1 + v2_0) / 2)) zF)) < 0)) = false) {r : Rs} (hr : Qb G (Q4w n0 p0 p1 p2 v2_0 (((v2_1 + v2_0) / 2) + 1)) r) : Qb G (Q4w n0 p0 p1 p2 v2_0 v2_1) r := by
 have e0 := of_decide_eq_true h0; have e1 := of_decide_eq_false h1
 exact Qi (Qfr n0 p0 p1 p2 v2_0 v2_1) (y := (Q9o n0 p0 p1 p2 v2_0 (((v2_1 + v2_0) / 2) + 1), Q76 n0 p0 p1 p2 v2_0 (((v2_1 + v2_0) / 2) + 1))) [hB 2 h0, hP 2 (w_ok (v2_1 + v2_0) (by omega)), hP 0 (Qv (v2_1 + v2_0) (by omega)), hP 0 (Q17 (v2_1 + v2_0)), hP 0 (Qw ((v2_1 + v2_0) / 2) (by omega)), hP 4 (Q14 0 6 n0 p2 (Int.toNat p2) rfl (by omega) (by omega)), hP 0 (Q2d 0 6 0 false ((Fld.rows p0).flatten) (Fld.rows p0) 6 true (Int.toNat p2) 0 ((Int.toNat p2) * 6) (Fld.cells (List.getD p0 (Int.toNat p2) zF)) (.agg [.str (List.getD p0 (Int.toNat p2) zF).name, .int .i64 (List.getD p0 (Int.toNat p2) zF).v.kind, .int .i64 (List.getD p0 (Int.toNat p2) zF).v.n, .str (List.getD p0 (Int.toNat p2) zF).v.s, .sl (Val.rows (List.getD p0 (Int.toNat p2) zF).v.list), .sl (Fld.rows (List.getD p0 (Int.toNat p2) zF).v.fields)]) rfl rfl (Fld.Qj (Qu p0 (Int.toNat p2) zF (by omega))) (Fld.Qm p0) (by decide) rfl), hP 2 (Q14 0 6 n0 ((v2_1 + v2_0) / 2) (Int.toNat ((v2_1 + v2_0) / 2)) rfl (by omega) (by omega)), hP 0 (Q2d 0 6 0 false ((Fld.rows p0).flatten) (Fld.rows p0) 6 true (Int.toNat ((v2_1 + v2_0) / 2)) 0 ((Int.toNat ((v2_1 + v2_0) / 2)) * 6) (Fld.cells (List.getD p0 (Int.toNat ((v2_1 + v2_0) / 2)) zF)) (.agg [.str (List.getD p0 (Int.toNat ((v2_1 + v2_0) / 2)) zF).name, .int .i64 (List.getD p0 (Int.toNat ((v2_1 + v2_0) / 2)) zF).v.kind, .int .i64 (List.getD p0 (Int.toNat ((v2_1 + v2_0) / 2)) zF).v.n, .str (List.getD p0 (Int.toNat ((v2_1 + v2_0) / 2)) zF).v.s, .sl (Val.rows (List.getD p0 (Int.toNat ((v2_1 + v2_0) / 2)) zF).v.list), .sl (Fld.rows (List.getD p0 (Int.toNat ((v2_1 + v2_0) / 2)) zF).v.fields)]) rfl rfl (Fld.Qj (Qu p0 (Int.toNat ((v2_1 + v2_0) / 2)) zF (by omega))) (Fld.Qm p0) (by decide) rfl), hB 1 h1, hP 2 (w_ok (((v2_1 + v2_0) / 2) + 1) (by omega))] [aN (Qig (List.getD p0 (Int.toNat p2) zF) (List.getD p0 (Int.toNat ((v2_1 + v2_0) / 2)) zF))] (by kernel_rfl) hr
def Qd7 (_n0 : Nat) (_p0 : List Fld) (_p1 : Int) (_p2 : Int) (v2_0 : Int) (v2_1 : Int) : List PV :=
  [.un, .un, .un, .un, .fn 51 [] []] ++ nuns 10 ++ [.int .i64 v2_0] ++ nuns 67 ++ [.int .i64 v2_1, .int .i64 v2_0, .bool false]
def Qc6 (_n0 : Nat) (_p0 : List Fld) (_p1 : Int) (_p2 : Int) (_v2_0 : Int) (_v2_1 : Int) : List (Nat × List PV) :=
  []
theorem Qmv (n0 : Nat) (p0 : List Fld) (p1 : Int) (p2 : Int) (v2_0 : Int) (v2_1 : Int) (_ho2_0 : p1 ≤ v2_1) (_ho2_1 : v2_1 ≤ v2_0) (_ho2_2 : v2_0 ≤ p2) (_ho2_3 : p2 < n0) (_ho2_4 : 0 ≤ p1) (_ho2_5 : (n0 : Int) ≤ 1152921504606846976) (_ho2_6 : List.length p0 = n0) (h0 : (decide (v2_1 < v2_0)) = false) : Q90 n0 p0 p1 p2 (Q4w n0 p0 p1 p2 v2_0 v2_1) v2_1 := by
 exact ⟨(envF (Qd7 n0 p0 p1 p2 v2_0 v2_1)), (zoF (Qc6 n0 p0 p1 p2 v2_0 v2_1)), Qn (Qfr n0 p0 p1 p2 v2_0 v2_1) (x := ((.exit 4), Q7j n0 p0 p1 p2 v2_1 (envF (Qd7 n0 p0 p1 p2 v2_0 v2_1)) (zoF (Qc6 n0 p0 p1 p2 v2_0 v2_1)))) [hB 2 h0] [] (by kernel_rfl)⟩
theorem Qbg (n0 : Nat) (p0 : List Fld) (p1 : Int) (p2 : Int) : ∀ (k2 : Nat) (v2_0 : Int) (v2_1 : Int), p1 ≤ v2_1 → v2_1 ≤ v2_0 → v2_0 ≤ p2 → p2 < n0 → 0 ≤ p1 → (n0 : Int) ≤ 1152921504606846976 → List.length p0 = n0 → Int.toNat (v2_0 - v2_1) < k2 → Q90 n0 p0 p1 p2 (Q4w n0 p0 p1 p2 v2_0 v2_1) (Q1x n0 p0 p1 p2 k2 v2_0 v2_1)
 | 0, v2_0, v2_1, _, _, _, _, _, _, _, hm => absurd hm (Nat.not_lt_zero _)
 | k2 + 1, v2_0, v2_1, ho2_0, ho2_1, ho2_2, ho2_3, ho2_4, ho2_5, ho2_6, hm => by
  rw [Q1x]
  cases h0 : (decide (v2_1 < v2_0)) with
  | true =>
   have e0 := of_decide_eq_true h0
   cases h1 : (decide ((Q1m (List.getD p0 (Int.toNat p2) zF) (List.getD p0 (Int.toNat ((v2_1 + v2_0) / 2)) zF)) < 0)) with
   | true =>
    have e1 := of_decide_eq_true h1
    exact Q7c n0 p0 p1 p2 (fun r hr => Qml n0 p0 p1 p2 v2_0 v2_1 ho2_0 ho2_1 ho2_2 ho2_3 ho2_4 ho2_5 ho2_6 h0 h1 hr) _ (Qbg n0 p0 p1 p2 k2 ((v2_1 + v2_0) / 2) v2_1 (by omega) (by omega) (by omega) (by omega) (by omega) (by omega) ho2_6 (by omega))
   | false =>
    have e1 := of_decide_eq_false h1
    exact Q7c n0 p0 p1 p2 (fun r hr => Qmx n0 p0 p1 p2 v2_0 v2_1 ho2_0 ho2_1 ho2_2 ho2_3 ho2_4 ho2_5 ho2_6 h0 h1 hr) _ (Qbg n0 p0 p1 p2 k2 v2_0 (((v2_1 + v2_0) / 2) + 1) (by omega) (by omega) (by omega) (by omega) (by omega) (by omega) ho2_6 (by omega))
  | false =>
   exact Qmv n0 p0 p1 p2 v2_0 v2_1 ho2_0 ho2_1 ho2_2 ho2_3 ho2_4 ho2_5 ho2_6 h0
theorem Qa3 (n0 : Nat) (p0 : List Fld) (p1 : Int) (p2 : Int) : ∀ (k2 : Nat) (v2_0 : Int) (v2_1 : Int), p1 ≤ v2_1 → v2_1 ≤ v2_0 → v2_0 ≤ p2 → p2 < n0 → 0 ≤ p1 → (n0 : Int) ≤ 1152921504606846976 → List.length p0 = n0 → Int.toNat (v2_0 - v2_1) < k2 → p1 ≤ (Q1x n0 p0 p1 p2 k2 v2_0 v2_1) ∧ (Q1x n0 p0 p1 p2 k2 v2_0 v2_1) ≤ p2
 | 0, v2_0, v2_1, _, _, _, _, _, _, _, hm => absurd hm (Nat.not_lt_zero _)
 | k2 + 1, v2_0, v2_1, ho2_0, ho2_1, ho2_2, ho2_3, ho2_4, ho2_5, ho2_6, hm => by
  rw [Q1x]
  cases h0 : (decide (v2_1 < v2_0)) with
  | true =>
   have e0 := of_decide_eq_true h0
   cases h1 : (decide ((Q1m (List.getD p0 (Int.toNat p2) zF) (List.getD p0 (Int.toNat ((v2_1 + v2_0) / 2)) zF)) < 0)) with
   | true =>
    have e1 := of_decide_eq_true h1
    exact Qa3 n0 p0 p1 p2 k2 ((v2_1 + v2_0) / 2) v2_1 (by omega) (by omega) (by omega) (by omega) (by omega) (by omega) ho2_6 (by omega)
   | false =>
    have e1 := of_decide_eq_false h1
    exact Qa3 n0 p0 p1 p2 k2 v2_0 (((v2_1 + v2_0) / 2) + 1) (by omega) (by omega) (by omega) (by omega) (by omega) (by omega) ho2_6 (by omega)
  | false =>
   have e0 := of_decide_eq_false h0
   exact (show p1 ≤ v2_1 ∧ v2_1 ≤ p2 from ⟨(by omega), (by omega)⟩)
def Q28 (n0 : Nat) : Nat → Int → (List Fld) → Int → List Fld
 | 0, _v3_0, v3_1, _v3_2 => v3_1
 | k3 + 1, v3_0, v3_1, v3_2 =>
  bif (decide (v3_0 < v3_2)) then
   Q28 n0 k3 v3_0 (List.set (List.set v3_1 (Int.toNat v3_2) (List.getD v3_1 (Int.toNat (v3_2 - 1)) zF)) (Int.toNat (v3_2 - 1)) (List.getD v3_1 (Int.toNat v3_2) zF)) (v3_2 - 1)
  else
   v3_1
def Qgx (n0 : Nat) (v3_0 : Int) (_v3_1 : List Fld) (v3_2 : Int) : List PV :=
  [.ms 0 6 0 n0] ++ nuns 13 ++ [.int .i64 v3_0, .un, .un, .int .i64 v3_2] ++ nuns 202
def Q9g (_n0 : Nat) (_v3_0 : Int) (v3_1 : List Fld) (_v3_2 : Int) : List Ob :=
  [⟨6, 0, false, (Fld.rows v3_1).flatten⟩]
def Q71 (n0 : Nat) (v3_0 : Int) (v3_1 : List Fld) (v3_2 : Int) : En := .loop 1 Ir.Q9v Ir.Qso (Qgx n0 v3_0 v3_1 v3_2) (Q9g n0 v3_0 v3_1 v3_2)
def Q7i (_n0 : Nat) (q0 : List Fld) (z : Nat → PV) (_zo : Nat → List PV) : St :=
  ⟨zr z 0 220, [(0, ⟨6, 0, false, (Fld.rows q0).flatten⟩)], 193⟩
theorem Qm4 (n0 : Nat) (v3_0 : Int) (v3_1 : List Fld) (v3_2 : Int) : VOK (Go.Pv.look (number 0 (Q9g n0 v3_0 v3_1 v3_2))) [(0, Fld.rows v3_1)] := (VOK.cons (show Seen _ _ from Q2q (ob := ⟨6, 0, false, (Fld.rows v3_1).flatten⟩) (Fld.Q0 v3_1 6 rfl)) VOK.nil)
def Q8t (n0 : Nat) (e : En) (q : List Fld) : Prop := ∃ z zo, Qb G e (.st (.exit 6) (Q7i n0 q z zo))
theorem Qfb (n0 : Nat) {e e' : En} (h : ∀ r, Qb G e r → Qb G e' r) : ∀ q, Q8t n0 e q → Q8t n0 e' q
  | _, ⟨z, zo, hz⟩ => ⟨z, zo, h _ hz⟩
theorem Qnp (n0 : Nat) (v3_0 : Int) (v3_1 : List Fld) (v3_2 : Int) (ho3_0 : 0 ≤ v3_0) (ho3_1 : v3_2 < n0) (ho3_2 : (n0 : Int) ≤ 1152921504606846976) (ho3_3 : List.length v3_1 = n0) (h0 : (decide (v3_0 < v3_2)) = true) {r : Rs} (hr : Qb G (Q71 n0 v3_0 (List.set (List.set v3_1 (Int.toNat v3_2) (List.getD v3_1 (Int.toNat (v3_2 - 1)) zF)) (Int.toNat (v3_2 - 1)) (List.getD v3_1 (Int.toNat v3_2) zF)) (v3_2 - 1)) r) : Qb G (Q71 n0 v3_0 v3_1 v3_2) r := by
 have e0 := of_decide_eq_true h0
 exact Qi (Qm4 n0 v3_0 v3_1 v3_2) (y := (Qgx n0 v3_0 (List.set (List.set v3_1 (Int.toNat v3_2) (List.getD v3_1 (Int.toNat (v3_2 - 1)) zF)) (Int.toNat (v3_2 - 1)) (List.getD v3_1 (Int.toNat v3_2) zF)) (v3_2 - 1), Q9g n0 v3_0 (List.set (List.set v3_1 (Int.toNat v3_2) (List.getD v3_1 (Int.toNat (v3_2 - 1)) zF)) (Int.toNat (v3_2 - 1)) (List.getD v3_1 (Int.toNat v3_2) zF)) (v3_2 - 1))) [hB 2 h0, hP 4 (w_ok (v3_2 - 1) (by omega)), hP 2 (w_ok (v3_2 - 1) (by omega)), hP 0 (Q14 0 6 n0 (v3_2 - 1) (Int.toNat (v3_2 - 1)) rfl (by omega) (by omega)), hP 0 (Q2d 0 6 0 false ((Fld.rows v3_1).flatten) (Fld.rows v3_1) 6 true (Int.toNat (v3_2 - 1)) 0 ((Int.toNat (v3_2 - 1)) * 6) (Fld.cells (List.getD v3_1 (Int.toNat (v3_2 - 1)) zF)) (.agg [.str (List.getD v3_1 (Int.toNat (v3_2 - 1)) zF).name, .int .i64 (List.getD v3_1 (Int.toNat (v3_2 - 1)) zF).v.kind, .int .i64 (List.getD v3_1 (Int.toNat (v3_2 - 1)) zF).v.n, .str (List.getD v3_1 (Int.toNat (v3_2 - 1)) zF).v.s, .sl (Val.rows (List.getD v3_1 (Int.toNat (v3_2 - 1)) zF).v.list), .sl (Fld.rows (List.getD v3_1 (Int.toNat (v3_2 - 1)) zF).v.fields)]) rfl rfl (Fld.Qj (Qu v3_1 (Int.toNat (v3_2 - 1)) zF (by omega))) (Fld.Qm v3_1) (by decide) rfl), hP 2 (Q14 0 6 n0 v3_2 (Int.toNat v3_2) rfl (by omega) (by omega)), hP 0 (Q2d 0 6 0 false ((Fld.rows v3_1).flatten) (Fld.rows v3_1) 6 true (Int.toNat v3_2) 0 ((Int.toNat v3_2) * 6) (Fld.cells (List.getD v3_1 (Int.toNat v3_2) zF)) (.agg [.str (List.getD v3_1 (Int.toNat v3_2) zF).name, .int .i64 (List.getD v3_1 (Int.toNat v3_2) zF).v.kind, .int .i64 (List.getD v3_1 (Int.toNat v3_2) zF).v.n, .str (List.getD v3_1 (Int.toNat v3_2) zF).v.s, .sl (Val.rows (List.getD v3_1 (Int.toNat v3_2) zF).v.list), .sl (Fld.rows (List.getD v3_1 (Int.toNat v3_2) zF).v.fields)]) rfl rfl (Fld.Qj (Qu v3_1 (Int.toNat v3_2) zF (by omega))) (Fld.Qm v3_1) (by decide) rfl), hP 0 (Q14 0 6 n0 v3_2 (Int.toNat v3_2) rfl (by omega) (by omega)), hV 0 [(0, Fld.rows (List.set v3_1 (Int.toNat v3_2) (List.getD v3_1 (Int.toNat (v3_2 - 1)) zF)))] (Q8l 0 6 false ((Fld.rows v3_1).flatten) (Fld.rows v3_1) (Fld.rows (List.set v3_1 (Int.toNat v3_2) (List.getD v3_1 (Int.toNat (v3_2 - 1)) zF))) 6 (Int.toNat v3_2) 0 ((Int.toNat v3_2) * 6) _ (.agg [.str (List.getD v3_1 (Int.toNat (v3_2 - 1)) zF).name, .int .i64 (List.getD v3_1 (Int.toNat (v3_2 - 1)) zF).v.kind, .int .i64 (List.getD v3_1 (Int.toNat (v3_2 - 1)) zF).v.n, .str (List.getD v3_1 (Int.toNat (v3_2 - 1)) zF).v.s, .sl (Val.rows (List.getD v3_1 (Int.toNat (v3_2 - 1)) zF).v.list), .sl (Fld.rows (List.getD v3_1 (Int.toNat (v3_2 - 1)) zF).v.fields)]) rfl rfl (Fld.Qj (Qu v3_1 (Int.toNat v3_2) zF (by omega))) (Fld.Qm v3_1) (by decide) rfl rfl (Fld.Q34 v3_1 (Int.toNat v3_2) (List.getD v3_1 (Int.toNat (v3_2 - 1)) zF))), hS 0 false (Fld.Q0 (List.set v3_1 (Int.toNat v3_2) (List.getD v3_1 (Int.toNat (v3_2 - 1)) zF)) 6 rfl), hP 0 (Q14 0 6 n0 (v3_2 - 1) (Int.toNat (v3_2 - 1)) rfl (by have f0 := (Qq ho3_3 (Int.toNat v3_2) (List.getD v3_1 (Int.toNat (v3_2 - 1)) zF)); omega) (by have f0 := (Qq ho3_3 (Int.toNat v3_2) (List.getD v3_1 (Int.toNat (v3_2 - 1)) zF)); omega)), hV 0 [(0, Fld.rows (List.set (List.set v3_1 (Int.toNat v3_2) (List.getD v3_1 (Int.toNat (v3_2 - 1)) zF)) (Int.toNat (v3_2 - 1)) (List.getD v3_1 (Int.toNat v3_2) zF)))] (Q8l 0 6 false ((Fld.rows (List.set v3_1 (Int.toNat v3_2) (List.getD v3_1 (Int.toNat (v3_2 - 1)) zF))).flatten) (Fld.rows (List.set v3_1 (Int.toNat v3_2) (List.getD v3_1 (Int.toNat (v3_2 - 1)) zF))) (Fld.rows (List.set (List.set v3_1 (Int.toNat v3_2) (List.getD v3_1 (Int.toNat (v3_2 - 1)) zF)) (Int.toNat (v3_2 - 1)) (List.getD v3_1 (Int.toNat v3_2) zF))) 6 (Int.toNat (v3_2 - 1)) 0 ((Int.toNat (v3_2 - 1)) * 6) _ (.agg [.str (List.getD v3_1 (Int.toNat v3_2) zF).name, .int .i64 (List.getD v3_1 (Int.toNat v3_2) zF).v.kind, .int .i64 (List.getD v3_1 (Int.toNat v3_2) zF).v.n, .str (List.getD v3_1 (Int.toNat v3_2) zF).v.s, .sl (Val.rows (List.getD v3_1 (Int.toNat v3_2) zF).v.list), .sl (Fld.rows (List.getD v3_1 (Int.toNat v3_2) zF).v.fields)]) rfl rfl (Fld.Qj (Qu (List.set v3_1 (Int.toNat v3_2) (List.getD v3_1 (Int.toNat (v3_2 - 1)) zF)) (Int.toNat (v3_2 - 1)) zF (by have f0 := (Qq ho3_3 (Int.toNat v3_2) (List.getD v3_1 (Int.toNat (v3_2 - 1)) zF)); try simp only [List.length_set]; omega))) (Fld.Qm (List.set v3_1 (Int.toNat v3_2) (List.getD v3_1 (Int.toNat (v3_2 - 1)) zF))) (by decide) rfl rfl (Fld.Q34 (List.set v3_1 (Int.toNat v3_2) (List.getD v3_1 (Int.toNat (v3_2 - 1)) zF)) (Int.toNat (v3_2 - 1)) (List.getD v3_1 (Int.toNat v3_2) zF))), hS 0 false (Fld.Q0 (List.set (List.set v3_1 (Int.toNat v3_2) (List.getD v3_1 (Int.toNat (v3_2 - 1)) zF)) (Int.toNat (v3_2 - 1)) (List.getD v3_1 (Int.toNat v3_2) zF)) 6 rfl), hP 1 (w_ok (v3_2 - 1) (by have f0 := (Qq (Qq ho3_3 (Int.toNat v3_2) (List.getD v3_1 (Int.toNat (v3_2 - 1)) zF)) (Int.toNat (v3_2 - 1)) (List.getD v3_1 (Int.toNat v3_2) zF)); omega))] [] (by kernel_rfl) hr
def Qek (n0 : Nat) (v3_0 : Int) (_v3_1 : List Fld) (v3_2 : Int) : List PV :=
  [.ms 0 6 0 n0] ++ nuns 13 ++ [.int .i64 v3_0, .un, .un, .int .i64 v3_2] ++ nuns 90 ++ [.int .i64 v3_2, .int .i64 v3_0, .bool false]
def Qad (_n0 : Nat) (_v3_0 : Int) (_v3_1 : List Fld) (_v3_2 : Int) : List (Nat × List PV) :=
  []
theorem Qmw (n0 : Nat) (v3_0 : Int) (v3_1 : List Fld) (v3_2 : Int) (_ho3_0 : 0 ≤ v3_0) (_ho3_1 : v3_2 < n0) (_ho3_2 : (n0 : Int) ≤ 1152921504606846976) (_ho3_3 : List.length v3_1 = n0) (h0 : (decide (v3_0 < v3_2)) = false) : Q8t n0 (Q71 n0 v3_0 v3_1 v3_2) v3_1 := by
 exact ⟨(envF (Qek n0 v3_0 v3_1 v3_2)), (zoF (Qad n0 v3_0 v3_1 v3_2)), Qn (Qm4 n0 v3_0 v3_1 v3_2) (x := ((.exit 6), Q7i n0 v3_1 (envF (Qek n0 v3_0 v3_1 v3_2)) (zoF (Qad n0 v3_0 v3_1 v3_2)))) [hB 2 h0] [] (by kernel_rfl)⟩
theorem Qhk (n0 : Nat) : ∀ (k3 : Nat) (v3_0 : Int) (v3_1 : List Fld) (v3_2 : Int), 0 ≤ v3_0 → v3_2 < n0 → (n0 : Int) ≤ 1152921504606846976 → List.length v3_1 = n0 → Int.toNat (v3_2 - v3_0) < k3 → Q8t n0 (Q71 n0 v3_0 v3_1 v3_2) (Q28 n0 k3 v3_0 v3_1 v3_2)
 | 0, v3_0, v3_1, v3_2, _, _, _, _, hm => absurd hm (Nat.not_lt_zero _)
 | k3 + 1, v3_0, v3_1, v3_2, ho3_0, ho3_1, ho3_2, ho3_3, hm => by
  rw [Q28]
  cases h0 : (decide (v3_0 < v3_2)) with
  | true =>
   have e0 := of_decide_eq_true h0
   exact Qfb n0 (fun r hr => Qnp n0 v3_0 v3_1 v3_2 ho3_0 ho3_1 ho3_2 ho3_3 h0 hr) _ (Qhk n0 k3 v3_0 (List.set (List.set v3_1 (Int.toNat v3_2) (List.getD v3_1 (Int.toNat (v3_2 - 1)) zF)) (Int.toNat (v3_2 - 1)) (List.getD v3_1 (Int.toNat v3_2) zF)) (v3_2 - 1) (by have f0 := (Qq (Qq ho3_3 (Int.toNat v3_2) (List.getD v3_1 (Int.toNat (v3_2 - 1)) zF)) (Int.toNat (v3_2 - 1)) (List.getD v3_1 (Int.toNat v3_2) zF)); omega) (by have f0 := (Qq (Qq ho3_3 (Int.toNat v3_2) (List.getD v3_1 (Int.toNat (v3_2 - 1)) zF)) (Int.toNat (v3_2 - 1)) (List.getD v3_1 (Int.toNat v3_2) zF)); omega) (by have f0 := (Qq (Qq ho3_3 (Int.toNat v3_2) (List.getD v3_1 (Int.toNat (v3_2 - 1)) zF)) (Int.toNat (v3_2 - 1)) (List.getD v3_1 (Int.toNat v3_2) zF)); omega) (Qq (Qq ho3_3 (Int.toNat v3_2) (List.getD v3_1 (Int.toNat (v3_2 - 1)) zF)) (Int.toNat (v3_2 - 1)) (List.getD v3_1 (Int.toNat v3_2) zF)) (by have f0 := (Qq (Qq ho3_3 (Int.toNat v3_2) (List.getD v3_1 (Int.toNat (v3_2 - 1)) zF)) (Int.toNat (v3_2 - 1)) (List.getD v3_1 (Int.toNat v3_2) zF)); omega))
  | false =>
   exact Qmw n0 v3_0 v3_1 v3_2 ho3_0 ho3_1 ho3_2 ho3_3 h0
theorem Q67 (n0 : Nat) : ∀ (k3 : Nat) (v3_0 : Int) (v3_1 : List Fld) (v3_2 : Int), List.length v3_1 = n0 → List.length (Q28 n0 k3 v3_0 v3_1 v3_2) = n0
 | 0, v3_0, v3_1, v3_2, ho3_3 => by rw [Q28]; exact ho3_3
 | k3 + 1, v3_0, v3_1, v3_2, ho3_3 => by
  rw [Q28]
  cases h0 : (decide (v3_0 < v3_2)) with
  | true =>
   exact Q67 n0 k3 v3_0 (List.set (List.set v3_1 (Int.toNat v3_2) (List.getD v3_1 (Int.toNat (v3_2 - 1)) zF)) (Int.toNat (v3_2 - 1)) (List.getD v3_1 (Int.toNat v3_2) zF)) (v3_2 - 1) (Qq (Qq ho3_3 (Int.toNat v3_2) (List.getD v3_1 (Int.toNat (v3_2 - 1)) zF)) (Int.toNat (v3_2 - 1)) (List.getD v3_1 (Int.toNat v3_2) zF))
  | false =>
   exact ho3_3
def Q5 (n0 : Nat) (p0 : List Fld) (p1 : Int) (p2 : Int) (p3 : Int) : Nat → Int → Int → Int → Int → Int → Int × Int × Int
 | 0, v4_0, v4_1, v4_2, _v4_3, _v4_4 => (v4_0, v4_1, v4_2)
 | k4 + 1, v4_0, v4_1, v4_2, v4_3, v4_4 =>
  bif (decide (v4_2 < v4_3)) then
   bif (decide ((Q1m (List.getD p0 (Int.toNat (v4_4 - ((v4_2 + v4_3) / 2))) zF) (List.getD p0 (Int.toNat ((v4_2 + v4_3) / 2)) zF)) < 0)) then
    Q5 n0 p0 p1 p2 p3 k4 v4_0 v4_1 v4_2 ((v4_2 + v4_3) / 2) v4_4
   else
    Q5 n0 p0 p1 p2 p3 k4 v4_0 v4_1 (((v4_2 + v4_3) / 2) + 1) v4_3 v4_4
  else
   (v4_0, v4_1, v4_2)
def Qbo (n0 : Nat) (_p0 : List Fld) (p1 : Int) (p2 : Int) (p3 : Int) (v4_0 : Int) (v4_1 : Int) (v4_2 : Int) (v4_3 : Int) (v4_4 : Int) : List PV :=
  [.ms 0 6 0 n0, .int .i64 p1, .int .i64 p2, .int .i64 p3, .fn 51 [] []] ++ nuns 13 ++ [.int .i64 v4_0, .int .i64 v4_1, .int .i64 v4_2, .int .i64 v4_3, .int .i64 v4_4] ++ nuns 197
def Q6q (_n0 : Nat) (p0 : List Fld) (_p1 : Int) (_p2 : Int) (_p3 : Int) (_v4_0 : Int) (_v4_1 : Int) (_v4_2 : Int) (_v4_3 : Int) (_v4_4 : Int) : List Ob :=
  [⟨6, 0, false, (Fld.rows p0).flatten⟩]
def Q1l (n0 : Nat) (p0 : List Fld) (p1 : Int) (p2 : Int) (p3 : Int) (v4_0 : Int) (v4_1 : Int) (v4_2 : Int) (v4_3 : Int) (v4_4 : Int) : En := .loop 1 Ir.Qc3 Ir.Qsn (Qbo n0 p0 p1 p2 p3 v4_0 v4_1 v4_2 v4_3 v4_4) (Q6q n0 p0 p1 p2 p3 v4_0 v4_1 v4_2 v4_3 v4_4)
def Q1f (n0 : Nat) (p0 : List Fld) (p1 : Int) (p2 : Int) (p3 : Int) (q0 : Int) (q1 : Int) (q2 : Int) (z : Nat → PV) (_zo : Nat → List PV) : St :=
  ⟨[.ms 0 6 0 n0, .int .i64 p1, .int .i64 p2, .int .i64 p3, .fn 51 [] []] ++ zr z 5 13 ++ [.int .i64 q0, .int .i64 q1, .int .i64 q2] ++ zr z 21 199, [(0, ⟨6, 0, false, (Fld.rows p0).flatten⟩)], 193⟩
theorem Qfg (n0 : Nat) (p0 : List Fld) (p1 : Int) (p2 : Int) (p3 : Int) (v4_0 : Int) (v4_1 : Int) (v4_2 : Int) (v4_3 : Int) (v4_4 : Int) : VOK (Go.Pv.look (number 0 (Q6q n0 p0 p1 p2 p3 v4_0 v4_1 v4_2 v4_3 v4_4))) [(0, Fld.rows p0)] := (VOK.cons (show Seen _ _ from Q2q (ob := ⟨6, 0, false, (Fld.rows p0).flatten⟩) (Fld.Q0 p0 6 rfl)) VOK.nil)
def Q9b (n0 : Nat) (p0 : List Fld) (p1 : Int) (p2 : Int) (p3 : Int) (e : En) (q : Int × Int × Int) : Prop := ∃ z zo, Qb G e (.st (.exit 8) (Q1f n0 p0 p1 p2 p3 q.1 q.2.1 q.2.2 z zo))
theorem Q77 (n0 : Nat) (p0 : List Fld) (p1 : Int) (p2 : Int) (p3 : Int) {e e' : En} (h : ∀ r, Qb G e r → Qb G e' r) : ∀ q, Q9b n0 p0 p1 p2 p3 e q → Q9b n0 p0 p1 p2 p3 e' q
  | _, ⟨z, zo, hz⟩ => ⟨z, zo, h _ hz⟩
theorem Qnt (n0 : Nat) (p0 : List Fld) (p1 : Int) (p2 : Int) (p3 : Int) (v4_0 : Int) (v4_1 : Int) (v4_2 : Int) (v4_3 : Int) (v4_4 : Int) (ho4_0 : v4_4 = v4_1 - 1) (ho4_1 : p1 ≤ v4_2) (_ho4_2 : v4_2 ≤ v4_3) (ho4_3 : v4_3 ≤ p2) (ho4_4 : v4_1 - v4_2 ≤ p3) (ho4_5 : p2 ≤ v4_1 - v4_3) (ho4_6 : 0 ≤ p1) (ho4_7 : p2 < p3) (ho4_8 : p3 ≤ n0) (ho4_9 : (n0 : Int) ≤ 1152921504606846976) (ho4_10 : List.length p0 = n0) (h0 : (decide (v4_2 < v4_3)) = true) (h1 : (decide ((Q1m (List.getD p0 (Int.toNat (v4_4 - ((v4_2 + v4_3) / 2))) zF) (List.getD p0 (Int.toNat ((v4_2 + v4_3) / 2)) zF)) < 0)) = true) {r : Rs} (hr : Qb G (Q1l n0 p0 p1 p2 p3 v4_0 v4_1 v4_2 ((v4_2 + v4_3) / 2) v4_4) r) : Qb G (Q1l n0 p0 p1 p2 p3 v4_0 v4_1 v4_2 v4_3 v4_4) r := by
 have e0 := of_decide_eq_true h0; have e1 := of_decide_eq_true h1
 exact Qi (Qfg n0 p0 p1 p2 p3 v4_0 v4_1 v4_2 v4_3 v4_4) (y := (Qbo n0 p0 p1 p2 p3 v4_0 v4_1 v4_2 ((v4_2 + v4_3) / 2) v4_4, Q6q n0 p0 p1 p2 p3 v4_0 v4_1 v4_2 ((v4_2 + v4_3) / 2) v4_4)) [hB 2 h0, hP 2 (w_ok (v4_2 + v4_3) (by omega)), hP 0 (Qv (v4_2 + v4_3) (by omega)), hP 0 (Q17 (v4_2 + v4_3)), hP 0 (Qw ((v4_2 + v4_3) / 2) (by omega)), hP 5 (w_ok (v4_4 - ((v4_2 + v4_3) / 2)) (by omega)), hP 0 (Q14 0 6 n0 (v4_4 - ((v4_2 + v4_3) / 2)) (Int.toNat (v4_4 - ((v4_2 + v4_3) / 2))) rfl (by omega) (by omega)), hP 0 (Q2d 0 6 0 false ((Fld.rows p0).flatten) (Fld.rows p0) 6 true (Int.toNat (v4_4 - ((v4_2 + v4_3) / 2))) 0 ((Int.toNat (v4_4 - ((v4_2 + v4_3) / 2))) * 6) (Fld.cells (List.getD p0 (Int.toNat (v4_4 - ((v4_2 + v4_3) / 2))) zF)) (.agg [.str (List.getD p0 (Int.toNat (v4_4 - ((v4_2 + v4_3) / 2))) zF).name, .int .i64 (List.getD p0 (Int.toNat (v4_4 - ((v4_2 + v4_3) / 2))) zF).v.kind, .int .i64 (List.getD p0 (Int.toNat (v4_4 - ((v4_2 + v4_3) / 2))) zF).v.n, .str (List.getD p0 (Int.toNat (v4_4 - ((v4_2 + v4_3) / 2))) zF).v.s, .sl (Val.rows (List.getD p0 (Int.toNat (v4_4 - ((v4_2 + v4_3) / 2))) zF).v.list), .sl (Fld.rows (List.getD p0 (Int.toNat (v4_4 - ((v4_2 + v4_3) / 2))) zF).v.fields)]) rfl rfl (Fld.Qj (Qu p0 (Int.toNat (v4_4 - ((v4_2 + v4_3) / 2))) zF (by omega))) (Fld.Qm p0) (by decide) rfl), hP 2 (Q14 0 6 n0 ((v4_2 + v4_3) / 2) (Int.toNat ((v4_2 + v4_3) / 2)) rfl (by omega) (by omega)), hP 0 (Q2d 0 6 0 false ((Fld.rows p0).flatten) (Fld.rows p0) 6 true (Int.toNat ((v4_2 + v4_3) / 2)) 0 ((Int.toNat ((v4_2 + v4_3) / 2)) * 6) (Fld.cells (List.getD p0 (Int.toNat ((v4_2 + v4_3) / 2)) zF)) (.agg [.str (List.getD p0 (Int.toNat ((v4_2 + v4_3) / 2)) zF).name, .int .i64 (List.getD p0 (Int.toNat ((v4_2 + v4_3) / 2)) zF).v.kind, .int .i64 (List.getD p0 (Int.toNat ((v4_2 + v4_3) / 2)) zF).v.n, .str (List.getD p0 (Int.toNat ((v4_2 + v4_3) / 2)) zF).v.s, .sl (Val.rows (List.getD p0 (Int.toNat ((v4_2 + v4_3) / 2)) zF).v.list), .sl (Fld.rows (List.getD p0 (Int.toNat ((v4_2 + v4_3) / 2)) zF).v.fields)]) rfl rfl (Fld.Qj (Qu p0 (Int.toNat ((v4_2 + v4_3) / 2)) zF (by omega))) (Fld.Qm p0) (by decide) rfl), hB 1 h1] [aN (Qig (List.getD p0 (Int.toNat (v4_4 - ((v4_2 + v4_3) / 2))) zF) (List.getD p0 (Int.toNat ((v4_2 + v4_3) / 2)) zF))] (by kernel_rfl) hr
theorem Qnm (n0 : Nat) (p0 : List Fld) (p1 : Int) (p2 : Int) (p3 : Int) (v4_0 : Int) (v4_1 : Int) (v4_2 : Int) (v4_3 : Int) (v4_4 : Int) (ho4_0 : v4_4 = v4_1 - 1) (ho4_1 : p1 ≤ v4_2) (_ho4_2 : v4_2 ≤ v4_3) (ho4_3 : v4_3 ≤ p2) (ho4_4 : v4_1 - v4_2 ≤ p3) (ho4_5 : p2 ≤ v4_1 - v4_3) (ho4_6 : 0 ≤ p1) (ho4_7 : p2 < p3) (ho4_8 : p3 ≤ n0) (ho4_9 : (n0 : Int) ≤ 1152921504606846976) (ho4_10 : List.length p0 = n0) (h0 : (decide (v4_2 < v4_3)) = true) (h1 : (decide ((Q1m (List.getD p0 (Int.toNat (v4_4 - ((v4_2 + v4_3) / 2))) zF) (List.getD p0 (Int.toNat ((v4_2 + v4_3) / 2)) zF)) < 0)) = false) {r : Rs} (hr : Qb G (Q1l n0 p0 p1 p2 p3 v4_0 v4_1 (((v4_2 + v4_3) / 2) + 1) v4_3 v4_4) r) : Qb G (Q1l n0 p0 p1 p2 p3 v4_0 v4_1 v4_2 v4_3 v4_4) r := by
 have e0 := of_decide_eq_true h0; have e1 := of_decide_eq_false h1
 exact Qi (Qfg n0 p0 p1 p2 p3 v4_0 v4_1 v4_2 v4_3 v4_4) (y := (Qbo n0 p0 p1 p2 p3 v4_0 v4_1 (((v4_2 + v4_3) / 2) + 1) v4_3 v4_4, Q6q n0 p0 p1 p2 p3 v4_0 v4_1 (((v4_2 + v4_3) / 2) + 1) v4_3 v4_4)) [hB 2 h0, hP 2 (w_ok (v4_2 + v4_3) (by omega)), hP 0 (Qv (v4_2 + v4_3) (by omega)), hP 0 (Q17 (v4_2 + v4_3)), hP 0 (Qw ((v4_2 + v4_3) / 2) (by omega)), hP 5 (w_ok (v4_4 - ((v4_2 + v4_3) / 2)) (by omega)), hP 0 (Q14 0 6 n0 (v4_4 - ((v4_2 + v4_3) / 2)) (Int.toNat (v4_4 - ((v4_2 + v4_3) / 2))) rfl (by omega) (by omega)), hP 0 (Q2d 0 6 0 false ((Fld.rows p0).flatten) (Fld.rows p0) 6 true (Int.toNat (v4_4 - ((v4_2 + v4_3) / 2))) 0 ((Int.toNat (v4_4 - ((v4_2 + v4_3) / 2))) * 6) (Fld.cells (List.getD p0 (Int.toNat (v4_4 - ((v4_2 + v4_3) / 2))) zF)) (.agg [.str (List.getD p0 (Int.toNat (v4_4 - ((v4_2 + v4_3) / 2))) zF).name, .int .i64 (List.getD p0 (Int.toNat (v4_4 - ((v4_2 + v4_3) / 2))) zF).v.kind, .int .i64 (List.getD p0 (Int.toNat (v4_4 - ((v4_2 + v4_3) / 2))) zF).v.n, .str (List.getD p0 (Int.toNat (v4_4 - ((v4_2 + v4_3) / 2))) zF).v.s, .sl (Val.rows (List.getD p0 (Int.toNat (v4_4 - ((v4_2 + v4_3) / 2))) zF).v.list), .sl (Fld.rows (List.getD p0 (Int.toNat (v4_4 - ((v4_2 + v4_3) / 2))) zF).v.fields)]) rfl rfl (Fld.Qj (Qu p0 (Int.toNat (v4_4 - ((v4_2 + v4_3) / 2))) zF (by omega))) (Fld.Qm p0) (by decide) rfl), hP 2 (Q14 0 6 n0 ((v4_2 + v4_3) / 2) (Int.toNat ((v4_2 + v4_3) / 2)) rfl (by omega) (by omega)), hP 0 (Q2d 0 6 0 false ((Fld.rows p0).flatten) (Fld.rows p0) 6 true (Int.toNat ((v4_2 + v4_3) / 2)) 0 ((Int.toNat ((v4_2 + v4_3) / 2)) * 6) (Fld.cells (List.getD p0 (Int.toNat ((v4_2 + v4_3) / 2)) zF)) (.agg [.str (List.getD p0 (Int.toNat ((v4_2 + v4_3) / 2)) zF).name, .int .i64 (List.getD p0 (Int.toNat ((v4_2 + v4_3) / 2)) zF).v.kind, .int .i64 (List.getD p0 (Int.toNat ((v4_2 + v4_3) / 2)) zF).v.n, .str (List.getD p0 (Int.toNat ((v4_2 + v4_3) / 2)) zF).v.s, .sl (Val.rows (List.getD p0 (Int.toNat ((v4_2 + v4_3) / 2)) zF).v.list), .sl (Fld.rows (List.getD p0 (Int.toNat ((v4_2 + v4_3) / 2)) zF).v.fields)]) rfl rfl (Fld.Qj (Qu p0 (Int.toNat ((v4_2 + v4_3) / 2)) zF (by omega))) (Fld.Qm p0) (by decide) rfl), hB 1 h1, hP 2 (w_ok (((v4_2 + v4_3) / 2) + 1) (by omega))] [aN (Qig (List.getD p0 (Int.toNat (v4_4 - ((v4_2 + v4_3) / 2))) zF) (List.getD p0 (Int.toNat ((v4_2 + v4_3) / 2)) zF))] (by kernel_rfl) hr
def Qes (_n0 : Nat) (_p0 : List Fld) (_p1 : Int) (_p2 : Int) (_p3 : Int) (_v4_0 : Int) (_v4_1 : Int) (v4_2 : Int) (v4_3 : Int) (v4_4 : Int) : List PV :=
  nuns 21 ++ [.int .i64 v4_3, .int .i64 v4_4] ++ nuns 126 ++ [.int .i64 v4_2, .int .i64 v4_3, .bool false]
def Q9e (_n0 : Nat) (_p0 : List Fld) (_p1 : Int) (_p2 : Int) (_p3 : Int) (_v4_0 : Int) (_v4_1 : Int) (_v4_2 : Int) (_v4_3 : Int) (_v4_4 : Int) : List (Nat × List PV) :=
  []
theorem Qmy (n0 : Nat) (p0 : List Fld) (p1 : Int) (p2 : Int) (p3 : Int) (v4_0 : Int) (v4_1 : Int) (v4_2 : Int) (v4_3 : Int) (v4_4 : Int) (_ho4_0 : v4_4 = v4_1 - 1) (_ho4_1 : p1 ≤ v4_2) (_ho4_2 : v4_2 ≤ v4_3) (_ho4_3 : v4_3 ≤ p2) (_ho4_4 : v4_1 - v4_2 ≤ p3) (_ho4_5 : p2 ≤ v4_1 - v4_3) (_ho4_6 : 0 ≤ p1) (_ho4_7 : p2 < p3) (_ho4_8 : p3 ≤ n0) (_ho4_9 : (n0 : Int) ≤ 1152921504606846976) (_ho4_10 : List.length p0 = n0) (h0 : (decide (v4_2 < v4_3)) = false) : Q9b n0 p0 p1 p2 p3 (Q1l n0 p0 p1 p2 p3 v4_0 v4_1 v4_2 v4_3 v4_4) (v4_0, v4_1, v4_2) := by
 exact ⟨(envF (Qes n0 p0 p1 p2 p3 v4_0 v4_1 v4_2 v4_3 v4_4)), (zoF (Q9e n0 p0 p1 p2 p3 v4_0 v4_1 v4_2 v4_3 v4_4)), Qn (Qfg n0 p0 p1 p2 p3 v4_0 v4_1 v4_2 v4_3 v4_4) (x := ((.exit 8), Q1f n0 p0 p1 p2 p3 v4_0 v4_1 v4_2 (envF (Qes n0 p0 p1 p2 p3 v4_0 v4_1 v4_2 v4_3 v4_4)) (zoF (Q9e n0 p0 p1 p2 p3 v4_0 v4_1 v4_2 v4_3 v4_4)))) [hB 2 h0] [] (by kernel_rfl)⟩
theorem Q7a (n0 : Nat) (p0 : List Fld) (p1 : Int) (p2 : Int) (p3 : Int) : ∀ (k4 : Nat) (v4_0 : Int) (v4_1 : Int) (v4_2 : Int) (v4_3 : Int) (v4_4 : Int), v4_4 = v4_1 - 1 → p1 ≤ v4_2 → v4_2 ≤ v4_3 → v4_3 ≤ p2 → v4_1 - v4_2 ≤ p3 → p2 ≤ v4_1 - v4_3 → 0 ≤ p1 → p2 < p3 → p3 ≤ n0 → (n0 : Int) ≤ 1152921504606846976 → List.length p0 = n0 → Int.toNat (v4_3 - v4_2) < k4 → Q9b n0 p0 p1 p2 p3 (Q1l n0 p0 p1 p2 p3 v4_0 v4_1 v4_2 v4_3 v4_4) (Q5 n0 p0 p1 p2 p3 k4 v4_0 v4_1 v4_2 v4_3 v4_4)
 | 0, v4_0, v4_1, v4_2, v4_3, v4_4, _, _, _, _, _, _, _, _, _, _, _, hm => absurd hm (Nat.not_lt_zero _)
 | k4 + 1, v4_0, v4_1, v4_2, v4_3, v4_4, ho4_0, ho4_1, ho4_2, ho4_3, ho4_4, ho4_5, ho4_6, ho4_7, ho4_8, ho4_9, ho4_10, hm => by
  rw [Q5]
  cases h0 : (decide (v4_2 < v4_3)) with
  | true =>
   have e0 := of_decide_eq_true h0
   cases h1 : (decide ((Q1m (List.getD p0 (Int.toNat (v4_4 - ((v4_2 + v4_3) / 2))) zF) (List.getD p0 (Int.toNat ((v4_2 + v4_3) / 2)) zF)) < 0)) with
   | true =>
    have e1 := of_decide_eq_true h1
    exact Q77 n0 p0 p1 p2 p3 (fun r hr => Qnt n0 p0 p1 p2 p3 v4_0 v4_1 v4_2 v4_3 v4_4 ho4_0 ho4_1 ho4_2 ho4_3 ho4_4 ho4_5 ho4_6 ho4_7 ho4_8 ho4_9 ho4_10 h0 h1 hr) _ (Q7a n0 p0 p1 p2 p3 k4 v4_0 v4_1 v4_2 ((v4_2 + v4_3) / 2) v4_4 (by omega) (by omega) (by omega) (by omega) (by omega) (by omega) (by omega) (by omega) (by omega) (by omega) ho4_10 (by omega))
   | false =>
    have e1 := of_decide_eq_false h1
    exact Q77 n0 p0 p1 p2 p3 (fun r hr => Qnm n0 p0 p1 p2 p3 v4_0 v4_1 v4_2 v4_3 v4_4 ho4_0 ho4_1 ho4_2 ho4_3 ho4_4 ho4_5 ho4_6 ho4_7 ho4_8 ho4_9 ho4_10 h0 h1 hr) _ (Q7a n0 p0 p1 p2 p3 k4 v4_0 v4_1 (((v4_2 + v4_3) / 2) + 1) v4_3 v4_4 (by omega) (by omega) (by omega) (by omega) (by omega) (by omega) (by omega) (by omega) (by omega) (by omega) ho4_10 (by omega))
  | false =>
   exact Qmy n0 p0 p1 p2 p3 v4_0 v4_1 v4_2 v4_3 v4_4 ho4_0 ho4_1 ho4_2 ho4_3 ho4_4 ho4_5 ho4_6 ho4_7 ho4_8 ho4_9 ho4_10 h0
theorem Q7e (n0 : Nat) (p0 : List Fld) (p1 : Int) (p2 : Int) (p3 : Int) : ∀ (k4 : Nat) (v4_0 : Int) (v4_1 : Int) (v4_2 : Int) (v4_3 : Int) (v4_4 : Int), v4_4 = v4_1 - 1 → p1 ≤ v4_2 → v4_2 ≤ v4_3 → v4_3 ≤ p2 → v4_1 - v4_2 ≤ p3 → p2 ≤ v4_1 - v4_3 → 0 ≤ p1 → p2 < p3 → p3 ≤ n0 → (n0 : Int) ≤ 1152921504606846976 → List.length p0 = n0 → Int.toNat (v4_3 - v4_2) < k4 → (Q5 n0 p0 p1 p2 p3 k4 v4_0 v4_1 v4_2 v4_3 v4_4).1 = v4_0 ∧ (Q5 n0 p0 p1 p2 p3 k4 v4_0 v4_1 v4_2 v4_3 v4_4).2.1 = v4_1 ∧ p1 ≤ (Q5 n0 p0 p1 p2 p3 k4 v4_0 v4_1 v4_2 v4_3 v4_4).2.2 ∧ (Q5 n0 p0 p1 p2 p3 k4 v4_0 v4_1 v4_2 v4_3 v4_4).2.2 ≤ p2 ∧ (Q5 n0 p0 p1 p2 p3 k4 v4_0 v4_1 v4_2 v4_3 v4_4).2.1 - (Q5 n0 p0 p1 p2 p3 k4 v4_0 v4_1 v4_2 v4_3 v4_4).2.2 ≤ p3
 | 0, v4_0, v4_1, v4_2, v4_3, v4_4, _, _, _, _, _, _, _, _, _, _, _, hm => absurd hm (Nat.not_lt_zero _)
 | k4 + 1, v4_0, v4_1, v4_2, v4_3, v4_4, ho4_0, ho4_1, ho4_2, ho4_3, ho4_4, ho4_5, ho4_6, ho4_7, ho4_8, ho4_9, ho4_10, hm => by
  rw [Q5]
  cases h0 : (decide (v4_2 < v4_3)) with
  | true =>
   have e0 := of_decide_eq_true h0
   cases h1 : (decide ((Q1m (List.getD p0 (Int.toNat (v4_4 - ((v4_2 + v4_3) / 2))) zF) (List.getD p0 (Int.toNat ((v4_2 + v4_3) / 2)) zF)) < 0)) with
   | true =>
    have e1 := of_decide_eq_true h1
    exact Q7e n0 p0 p1 p2 p3 k4 v4_0 v4_1 v4_2 ((v4_2 + v4_3) / 2) v4_4 (by omega) (by omega) (by omega) (by omega) (by omega) (by omega) (by omega) (by omega) (by omega) (by omega) ho4_10 (by omega)
   | false =>
    have e1 := of_decide_eq_false h1
    exact Q7e n0 p0 p1 p2 p3 k4 v4_0 v4_1 (((v4_2 + v4_3) / 2) + 1) v4_3 v4_4 (by omega) (by omega) (by omega) (by omega) (by omega) (by omega) (by omega) (by omega) (by omega) (by omega) ho4_10 (by omega)
  | false =>
   have e0 := of_decide_eq_false h0
   exact (show v4_0 = v4_0 ∧ v4_1 = v4_1 ∧ p1 ≤ v4_2 ∧ v4_2 ≤ p2 ∧ v4_1 - v4_2 ≤ p3 from ⟨(by omega), (by omega), (by omega), (by omega), (by omega)⟩)
def Q6 : Nat → Nat → List Fld → Int → Int → Int → List Fld
 | 0, _, p0, _, _, _ => p0
 | k + 1, n0, p0, p1, p2, p3 =>
 bif ((p2 - p1) == 1) then
  (Q26 n0 ((Int.toNat ((Q1w n0 p0 p1 p2 p3 ((Int.toNat (p3 - p2)) + 1) p2 p3) - p1)) + 1) (Q1w n0 p0 p1 p2 p3 ((Int.toNat (p3 - p2)) + 1) p2 p3) p0 p1)
 else
  bif ((p3 - p2) == 1) then
   (Q28 n0 ((Int.toNat (p2 - (Q1x n0 p0 p1 p2 ((Int.toNat (p2 - p1)) + 1) p2 p1))) + 1) (Q1x n0 p0 p1 p2 ((Int.toNat (p2 - p1)) + 1) p2 p1) p0 p2)
  else
   bif (decide (((p1 + p3) / 2) < p2)) then
    bif (decide ((Q5 n0 p0 p1 p2 p3 ((Int.toNat (((p1 + p3) / 2) - ((((p1 + p3) / 2) + p2) - p3))) + 1) ((p1 + p3) / 2) (((p1 + p3) / 2) + p2) ((((p1 + p3) / 2) + p2) - p3) ((p1 + p3) / 2) ((((p1 + p3) / 2) + p2) - 1)).2.2 < p2)) then
     bif (decide (p2 < ((Q5 n0 p0 p1 p2 p3 ((Int.toNat (((p1 + p3) / 2) - ((((p1 + p3) / 2) + p2) - p3))) + 1) ((p1 + p3) / 2) (((p1 + p3) / 2) + p2) ((((p1 + p3) / 2) + p2) - p3) ((p1 + p3) / 2) ((((p1 + p3) / 2) + p2) - 1)).2.1 - (Q5 n0 p0 p1 p2 p3 ((Int.toNat (((p1 + p3) / 2) - ((((p1 + p3) / 2) + p2) - p3))) + 1) ((p1 + p3) / 2) (((p1 + p3) / 2) + p2) ((((p1 + p3) / 2) + p2) - p3) ((p1 + p3) / 2) ((((p1 + p3) / 2) + p2) - 1)).2.2))) then
      bif (decide (p1 < (Q5 n0 p0 p1 p2 p3 ((Int.toNat (((p1 + p3) / 2) - ((((p1 + p3) / 2) + p2) - p3))) + 1) ((p1 + p3) / 2) (((p1 + p3) / 2) + p2) ((((p1 + p3) / 2) + p2) - p3) ((p1 + p3) / 2) ((((p1 + p3) / 2) + p2) - 1)).2.2)) then
       bif (decide ((Q5 n0 p0 p1 p2 p3 ((Int.toNat (((p1 + p3) / 2) - ((((p1 + p3) / 2) + p2) - p3))) + 1) ((p1 + p3) / 2) (((p1 + p3) / 2) + p2) ((((p1 + p3) / 2) + p2) - p3) ((p1 + p3) / 2) ((((p1 + p3) / 2) + p2) - 1)).2.2 < (Q5 n0 p0 p1 p2 p3 ((Int.toNat (((p1 + p3) / 2) - ((((p1 + p3) / 2) + p2) - p3))) + 1) ((p1 + p3) / 2) (((p1 + p3) / 2) + p2) ((((p1 + p3) / 2) + p2) - p3) ((p1 + p3) / 2) ((((p1 + p3) / 2) + p2) - 1)).1)) then
        bif (decide ((Q5 n0 p0 p1 p2 p3 ((Int.toNat (((p1 + p3) / 2) - ((((p1 + p3) / 2) + p2) - p3))) + 1) ((p1 + p3) / 2) (((p1 + p3) / 2) + p2) ((((p1 + p3) / 2) + p2) - p3) ((p1 + p3) / 2) ((((p1 + p3) / 2) + p2) - 1)).1 < ((Q5 n0 p0 p1 p2 p3 ((Int.toNat (((p1 + p3) / 2) - ((((p1 + p3) / 2) + p2) - p3))) + 1) ((p1 + p3) / 2) (((p1 + p3) / 2) + p2) ((((p1 + p3) / 2) + p2) - p3) ((p1 + p3) / 2) ((((p1 + p3) / 2) + p2) - 1)).2.1 - (Q5 n0 p0 p1 p2 p3 ((Int.toNat (((p1 + p3) / 2) - ((((p1 + p3) / 2) + p2) - p3))) + 1) ((p1 + p3) / 2) (((p1 + p3) / 2) + p2) ((((p1 + p3) / 2) + p2) - p3) ((p1 + p3) / 2) ((((p1 + p3) / 2) + p2) - 1)).2.2))) then
         bif (decide (((Q5 n0 p0 p1 p2 p3 ((Int.toNat (((p1 + p3) / 2) - ((((p1 + p3) / 2) + p2) - p3))) + 1) ((p1 + p3) / 2) (((p1 + p3) / 2) + p2) ((((p1 + p3) / 2) + p2) - p3) ((p1 + p3) / 2) ((((p1 + p3) / 2) + p2) - 1)).2.1 - (Q5 n0 p0 p1 p2 p3 ((Int.toNat (((p1 + p3) / 2) - ((((p1 + p3) / 2) + p2) - p3))) + 1) ((p1 + p3) / 2) (((p1 + p3) / 2) + p2) ((((p1 + p3) / 2) + p2) - p3) ((p1 + p3) / 2) ((((p1 + p3) / 2) + p2) - 1)).2.2) < p3)) then
          (Q6 k n0 (Q6 k n0 (Q7 n0 p0 (Q5 n0 p0 p1 p2 p3 ((Int.toNat (((p1 + p3) / 2) - ((((p1 + p3) / 2) + p2) - p3))) + 1) ((p1 + p3) / 2) (((p1 + p3) / 2) + p2) ((((p1 + p3) / 2) + p2) - p3) ((p1 + p3) / 2) ((((p1 + p3) / 2) + p2) - 1)).2.2 p2 ((Q5 n0 p0 p1 p2 p3 ((Int.toNat (((p1 + p3) / 2) - ((((p1 + p3) / 2) + p2) - p3))) + 1) ((p1 + p3) / 2) (((p1 + p3) / 2) + p2) ((((p1 + p3) / 2) + p2) - p3) ((p1 + p3) / 2) ((((p1 + p3) / 2) + p2) - 1)).2.1 - (Q5 n0 p0 p1 p2 p3 ((Int.toNat (((p1 + p3) / 2) - ((((p1 + p3) / 2) + p2) - p3))) + 1) ((p1 + p3) / 2) (((p1 + p3) / 2) + p2) ((((p1 + p3) / 2) + p2) - p3) ((p1 + p3) / 2) ((((p1 + p3) / 2) + p2) - 1)).2.2)) p1 (Q5 n0 p0 p1 p2 p3 ((Int.toNat (((p1 + p3) / 2) - ((((p1 + p3) / 2) + p2) - p3))) + 1) ((p1 + p3) / 2) (((p1 + p3) / 2) + p2) ((((p1 + p3) / 2) + p2) - p3) ((p1 + p3) / 2) ((((p1 + p3) / 2) + p2) - 1)).2.2 (Q5 n0 p0 p1 p2 p3 ((Int.toNat (((p1 + p3) / 2) - ((((p1 + p3) / 2) + p2) - p3))) + 1) ((p1 + p3) / 2) (((p1 + p3) / 2) + p2) ((((p1 + p3) / 2) + p2) - p3) ((p1 + p3) / 2) ((((p1 + p3) / 2) + p2) - 1)).1) (Q5 n0 p0 p1 p2 p3 ((Int.toNat (((p1 + p3) / 2) - ((((p1 + p3) / 2) + p2) - p3))) + 1) ((p1 + p3) / 2) (((p1 + p3) / 2) + p2) ((((p1 + p3) / 2) + p2) - p3) ((p1 + p3) / 2) ((((p1 + p3) / 2) + p2) - 1)).1 ((Q5 n0 p0 p1 p2 p3 ((Int.toNat (((p1 + p3) / 2) - ((((p1 + p3) / 2) + p2) - p3))) + 1) ((p1 + p3) / 2) (((p1 + p3) / 2) + p2) ((((p1 + p3) / 2) + p2) - p3) ((p1 + p3) / 2) ((((p1 + p3) / 2) + p2) - 1)).2.1 - (Q5 n0 p0 p1 p2 p3 ((Int.toNat (((p1 + p3) / 2) - ((((p1 + p3) / 2) + p2) - p3))) + 1) ((p1 + p3) / 2) (((p1 + p3) / 2) + p2) ((((p1 + p3) / 2) + p2) - p3) ((p1 + p3) / 2) ((((p1 + p3) / 2) + p2) - 1)).2.2) p3)
         else
          (Q6 k n0 (Q7 n0 p0 (Q5 n0 p0 p1 p2 p3 ((Int.toNat (((p1 + p3) / 2) - ((((p1 + p3) / 2) + p2) - p3))) + 1) ((p1 + p3) / 2) (((p1 + p3) / 2) + p2) ((((p1 + p3) / 2) + p2) - p3) ((p1 + p3) / 2) ((((p1 + p3) / 2) + p2) - 1)).2.2 p2 ((Q5 n0 p0 p1 p2 p3 ((Int.toNat (((p1 + p3) / 2) - ((((p1 + p3) / 2) + p2) - p3))) + 1) ((p1 + p3) / 2) (((p1 + p3) / 2) + p2) ((((p1 + p3) / 2) + p2) - p3) ((p1 + p3) / 2) ((((p1 + p3) / 2) + p2) - 1)).2.1 - (Q5 n0 p0 p1 p2 p3 ((Int.toNat (((p1 + p3) / 2) - ((((p1 + p3) / 2) + p2) - p3))) + 1) ((p1 + p3) / 2) (((p1 + p3) / 2) + p2) ((((p1 + p3) / 2) + p2) - p3) ((p1 + p3) / 2) ((((p1 + p3) / 2) + p2) - 1)).2.2)) p1 (Q5 n0 p0 p1 p2 p3 ((Int.toNat (((p1 + p3) / 2) - ((((p1 + p3) / 2) + p2) - p3))) + 1) ((p1 + p3) / 2) (((p1 + p3) / 2) + p2) ((((p1 + p3) / 2) + p2) - p3) ((p1 + p3) / 2) ((((p1 + p3) / 2) + p2) - 1)).2.2 (Q5 n0 p0 p1 p2 p3 ((Int.toNat (((p1 + p3) / 2) - ((((p1 + p3) / 2) + p2) - p3))) + 1) ((p1 + p3) / 2) (((p1 + p3) / 2) + p2) ((((p1 + p3) / 2) + p2) - p3) ((p1 + p3) / 2) ((((p1 + p3) / 2) + p2) - 1)).1)
        else
         (Q6 k n0 (Q7 n0 p0 (Q5 n0 p0 p1 p2 p3 ((Int.toNat (((p1 + p3) / 2) - ((((p1 + p3) / 2) + p2) - p3))) + 1) ((p1 + p3) / 2) (((p1 + p3) / 2) + p2) ((((p1 + p3) / 2) + p2) - p3) ((p1 + p3) / 2) ((((p1 + p3) / 2) + p2) - 1)).2.2 p2 ((Q5 n0 p0 p1 p2 p3 ((Int.toNat (((p1 + p3) / 2) - ((((p1 + p3) / 2) + p2) - p3))) + 1) ((p1 + p3) / 2) (((p1 + p3) / 2) + p2) ((((p1 + p3) / 2) + p2) - p3) ((p1 + p3) / 2) ((((p1 + p3) / 2) + p2) - 1)).2.1 - (Q5 n0 p0 p1 p2 p3 ((Int.toNat (((p1 + p3) / 2) - ((((p1 + p3) / 2) + p2) - p3))) + 1) ((p1 + p3) / 2) (((p1 + p3) / 2) + p2) ((((p1 + p3) / 2) + p2) - p3) ((p1 + p3) / 2) ((((p1 + p3) / 2) + p2) - 1)).2.2)) p1 (Q5 n0 p0 p1 p2 p3 ((Int.toNat (((p1 + p3) / 2) - ((((p1 + p3) / 2) + p2) - p3))) + 1) ((p1 + p3) / 2) (((p1 + p3) / 2) + p2) ((((p1 + p3) / 2) + p2) - p3) ((p1 + p3) / 2) ((((p1 + p3) / 2) + p2) - 1)).2.2 (Q5 n0 p0 p1 p2 p3 ((Int.toNat (((p1 + p3) / 2) - ((((p1 + p3) / 2) + p2) - p3))) + 1) ((p1 + p3) / 2) (((p1 + p3) / 2) + p2) ((((p1 + p3) / 2) + p2) - p3) ((p1 + p3) / 2) ((((p1 + p3) / 2) + p2) - 1)).1)
       else
        bif (decide ((Q5 n0 p0 p1 p2 p3 ((Int.toNat (((p1 + p3) / 2) - ((((p1 + p3) / 2) + p2) - p3))) + 1) ((p1 + p3) / 2) (((p1 + p3) / 2) + p2) ((((p1 + p3) / 2) + p2) - p3) ((p1 + p3) / 2) ((((p1 + p3) / 2) + p2) - 1)).1 < ((Q5 n0 p0 p1 p2 p3 ((Int.toNat (((p1 + p3) / 2) - ((((p1 + p3) / 2) + p2) - p3))) + 1) ((p1 + p3) / 2) (((p1 + p3) / 2) + p2) ((((p1 + p3) / 2) + p2) - p3) ((p1 + p3) / 2) ((((p1 + p3) / 2) + p2) - 1)).2.1 - (Q5 n0 p0 p1 p2 p3 ((Int.toNat (((p1 + p3) / 2) - ((((p1 + p3) / 2) + p2) - p3))) + 1) ((p1 + p3) / 2) (((p1 + p3) / 2) + p2) ((((p1 + p3) / 2) + p2) - p3) ((p1 + p3) / 2) ((((p1 + p3) / 2) + p2) - 1)).2.2))) then
         bif (decide (((Q5 n0 p0 p1 p2 p3 ((Int.toNat (((p1 + p3) / 2) - ((((p1 + p3) / 2) + p2) - p3))) + 1) ((p1 + p3) / 2) (((p1 + p3) / 2) + p2) ((((p1 + p3) / 2) + p2) - p3) ((p1 + p3) / 2) ((((p1 + p3) / 2) + p2) - 1)).2.1 - (Q5 n0 p0 p1 p2 p3 ((Int.toNat (((p1 + p3) / 2) - ((((p1 + p3) / 2) + p2) - p3))) + 1) ((p1 + p3) / 2) (((p1 + p3) / 2) + p2) ((((p1 + p3) / 2) + p2) - p3) ((p1 + p3) / 2) ((((p1 + p3) / 2) + p2) - 1)).2.2) < p3)) then
          (Q6 k n0 (Q7 n0 p0 (Q5 n0 p0 p1 p2 p3 ((Int.toNat (((p1 + p3) / 2) - ((((p1 + p3) / 2) + p2) - p3))) + 1) ((p1 + p3) / 2) (((p1 + p3) / 2) + p2) ((((p1 + p3) / 2) + p2) - p3) ((p1 + p3) / 2) ((((p1 + p3) / 2) + p2) - 1)).2.2 p2 ((Q5 n0 p0 p1 p2 p3 ((Int.toNat (((p1 + p3) / 2) - ((((p1 + p3) / 2) + p2) - p3))) + 1) ((p1 + p3) / 2) (((p1 + p3) / 2) + p2) ((((p1 + p3) / 2) + p2) - p3) ((p1 + p3) / 2) ((((p1 + p3) / 2) + p2) - 1)).2.1 - (Q5 n0 p0 p1 p2 p3 ((Int.toNat (((p1 + p3) / 2) - ((((p1 + p3) / 2) + p2) - p3))) + 1) ((p1 + p3) / 2) (((p1 + p3) / 2) + p2) ((((p1 + p3) / 2) + p2) - p3) ((p1 + p3) / 2) ((((p1 + p3) / 2) + p2) - 1)).2.2)) (Q5 n0 p0 p1 p2 p3 ((Int.toNat (((p1 + p3) / 2) - ((((p1 + p3) / 2) + p2) - p3))) + 1) ((p1 + p3) / 2) (((p1 + p3) / 2) + p2) ((((p1 + p3) / 2) + p2) - p3) ((p1 + p3) / 2) ((((p1 + p3) / 2) + p2) - 1)).1 ((Q5 n0 p0 p1 p2 p3 ((Int.toNat (((p1 + p3) / 2) - ((((p1 + p3) / 2) + p2) - p3))) + 1) ((p1 + p3) / 2) (((p1 + p3) / 2) + p2) ((((p1 + p3) / 2) + p2) - p3) ((p1 + p3) / 2) ((((p1 + p3) / 2) + p2) - 1)).2.1 - (Q5 n0 p0 p1 p2 p3 ((Int.toNat (((p1 + p3) / 2) - ((((p1 + p3) / 2) + p2) - p3))) + 1) ((p1 + p3) / 2) (((p1 + p3) / 2) + p2) ((((p1 + p3) / 2) + p2) - p3) ((p1 + p3) / 2) ((((p1 + p3) / 2) + p2) - 1)).2.2) p3)
         else
          (Q7 n0 p0 (Q5 n0 p0 p1 p2 p3 ((Int.toNat (((p1 + p3) / 2) - ((((p1 + p3) / 2) + p2) - p3))) + 1) ((p1 + p3) / 2) (((p1 + p3) / 2) + p2) ((((p1 + p3) / 2) + p2) - p3) ((p1 + p3) / 2) ((((p1 + p3) / 2) + p2) - 1)).2.2 p2 ((Q5 n0 p0 p1 p2 p3 ((Int.toNat (((p1 + p3) / 2) - ((((p1 + p3) / 2) + p2) - p3))) + 1) ((p1 + p3) / 2) (((p1 + p3) / 2) + p2) ((((p1 + p3) / 2) + p2) - p3) ((p1 + p3) / 2) ((((p1 + p3) / 2) + p2) - 1)).2.1 - (Q5 n0 p0 p1 p2 p3 ((Int.toNat (((p1 + p3) / 2) - ((((p1 + p3) / 2) + p2) - p3))) + 1) ((p1 + p3) / 2) (((p1 + p3) / 2) + p2) ((((p1 + p3) / 2) + p2) - p3) ((p1 + p3) / 2) ((((p1 + p3) / 2) + p2) - 1)).2.2))
        else
         (Q7 n0 p0 (Q5 n0 p0 p1 p2 p3 ((Int.toNat (((p1 + p3) / 2) - ((((p1 + p3) / 2) + p2) - p3))) + 1) ((p1 + p3) / 2) (((p1 + p3) / 2) + p2) ((((p1 + p3) / 2) + p2) - p3) ((p1 + p3) / 2) ((((p1 + p3) / 2) + p2) - 1)).2.2 p2 ((Q5 n0 p0 p1 p2 p3 ((Int.toNat (((p1 + p3) / 2) - ((((p1 + p3) / 2) + p2) - p3))) + 1) ((p1 + p3) / 2) (((p1 + p3) / 2) + p2) ((((p1 + p3) / 2) + p2) - p3) ((p1 + p3) / 2) ((((p1 + p3) / 2) + p2) - 1)).2.1 - (Q5 n0 p0 p1 p2 p3 ((Int.toNat (((p1 + p3) / 2) - ((((p1 + p3) / 2) + p2) - p3))) + 1) ((p1 + p3) / 2) (((p1 + p3) / 2) + p2) ((((p1 + p3) / 2) + p2) - p3) ((p1 + p3) / 2) ((((p1 + p3) / 2) + p2) - 1)).2.2))
      else
       bif (decide ((Q5 n0 p0 p1 p2 p3 ((Int.toNat (((p1 + p3) / 2) - ((((p1 + p3) / 2) + p2) - p3))) + 1) ((p1 + p3) / 2) (((p1 + p3) / 2) + p2) ((((p1 + p3) / 2) + p2) - p3) ((p1 + p3) / 2) ((((p1 + p3) / 2) + p2) - 1)).1 < ((Q5 n0 p0 p1 p2 p3 ((Int.toNat (((p1 + p3) / 2) - ((((p1 + p3) / 2) + p2) - p3))) + 1) ((p1 + p3) / 2) (((p1 + p3) / 2) + p2) ((((p1 + p3) / 2) + p2) - p3) ((p1 + p3) / 2) ((((p1 + p3) / 2) + p2) - 1)).2.1 - (Q5 n0 p0 p1 p2 p3 ((Int.toNat (((p1 + p3) / 2) - ((((p1 + p3) / 2) + p2) - p3))) + 1) ((p1 + p3) / 2) (((p1 + p3) / 2) + p2) ((((p1 + p3) / 2) + p2) - p3) ((p1 + p3) / 2) ((((p1 + p3) / 2) + p2) - 1)).2.2))) then
        bif (decide (((Q5 n0 p0 p1 p2 p3 ((Int.toNat (((p1 + p3) / 2) - ((((p1 + p3) / 2) + p2) - p3))) + 1) ((p1 + p3) / 2) (((p1 + p3) / 2) + p2) ((((p1 + p3) / 2) + p2) - p3) ((p1 + p3) / 2) ((((p1 + p3) / 2) + p2) - 1)).2.1 - (Q5 n0 p0 p1 p2 p3 ((Int.toNat (((p1 + p3) / 2) - ((((p1 + p3) / 2) + p2) - p3))) + 1) ((p1 + p3) / 2) (((p1 + p3) / 2) + p2) ((((p1 + p3) / 2) + p2) - p3) ((p1 + p3) / 2) ((((p1 + p3) / 2) + p2) - 1)).2.2) < p3)) then
         (Q6 k n0 (Q7 n0 p0 (Q5 n0 p0 p1 p2 p3 ((Int.toNat (((p1 + p3) / 2) - ((((p1 + p3) / 2) + p2) - p3))) + 1) ((p1 + p3) / 2) (((p1 + p3) / 2) + p2) ((((p1 + p3) / 2) + p2) - p3) ((p1 + p3) / 2) ((((p1 + p3) / 2) + p2) - 1)).2.2 p2 ((Q5 n0 p0 p1 p2 p3 ((Int.toNat (((p1 + p3) / 2) - ((((p1 + p3) / 2) + p2) - p3))) + 1) ((p1 + p3) / 2) (((p1 + p3) / 2) + p2) ((((p1 + p3) / 2) + p2) - p3) ((p1 + p3) / 2) ((((p1 + p3) / 2) + p2) - 1)).2.1 - (Q5 n0 p0 p1 p2 p3 ((Int.toNat (((p1 + p3) / 2) - ((((p1 + p3) / 2) + p2) - p3))) + 1) ((p1 + p3) / 2) (((p1 + p3) / 2) + p2) ((((p1 + p3) / 2) + p2) - p3) ((p1 + p3) / 2) ((((p1 + p3) / 2) + p2) - 1)).2.2)) (Q5 n0 p0 p1 p2 p3 ((Int.toNat (((p1 + p3) / 2) - ((((p1 + p3) / 2) + p2) - p3))) + 1) ((p1 + p3) / 2) (((p1 + p3) / 2) + p2) ((((p1 + p3) / 2) + p2) - p3) ((p1 + p3) / 2) ((((p1 + p3) / 2) + p2) - 1)).1 ((Q5 n0 p0 p1 p2 p3 ((Int.toNat (((p1 + p3) / 2) - ((((p1 + p3) / 2) + p2) - p3))) + 1) ((p1 + p3) / 2) (((p1 + p3) / 2) + p2) ((((p1 + p3) / 2) + p2) - p3) ((p1 + p3) / 2) ((((p1 + p3) / 2) + p2) - 1)).2.1 - (Q5 n0 p0 p1 p2 p3 ((Int.toNat (((p1 + p3) / 2) - ((((p1 + p3) / 2) + p2) - p3))) + 1) ((p1 + p3) / 2) (((p1 + p3) / 2) + p2) ((((p1 + p3) / 2) + p2) - p3) ((p1 + p3) / 2) ((((p1 + p3) / 2) + p2) - 1)).2.2) p3)
        else
         (Q7 n0 p0 (Q5 n0 p0 p1 p2 p3 ((Int.toNat (((p1 + p3) / 2) - ((((p1 + p3) / 2) + p2) - p3))) + 1) ((p1 + p3) / 2) (((p1 + p3) / 2) + p2) ((((p1 + p3) / 2) + p2) - p3) ((p1 + p3) / 2) ((((p1 + p3) / 2) + p2) - 1)).2.2 p2 ((Q5 n0 p0 p1 p2 p3 ((Int.toNat (((p1 + p3) / 2) - ((((p1 + p3) / 2) + p2) - p3))) + 1) ((p1 + p3) / 2) (((p1 + p3) / 2) + p2) ((((p1 + p3) / 2) + p2) - p3) ((p1 + p3) / 2) ((((p1 + p3) / 2) + p2) - 1)).2.1 - (Q5 n0 p0 p1 p2 p3 ((Int.toNat (((p1 + p3) / 2) - ((((p1 + p3) / 2) + p2) - p3))) + 1) ((p1 + p3) / 2) (((p1 + p3) / 2) + p2) ((((p1 + p3) / 2) + p2) - p3) ((p1 + p3) / 2) ((((p1 + p3) / 2) + p2) - 1)).2.2))
       else
        (Q7 n0 p0 (Q5 n0 p0 p1 p2 p3 ((Int.toNat (((p1 + p3) / 2) - ((((p1 + p3) / 2) + p2) - p3))) + 1) ((p1 + p3) / 2) (((p1 + p3) / 2) + p2) ((((p1 + p3) / 2) + p2) - p3) ((p1 + p3) / 2) ((((p1 + p3) / 2) + p2) - 1)).2.2 p2 ((Q5 n0 p0 p1 p2 p3 ((Int.toNat (((p1 + p3) / 2) - ((((p1 + p3) / 2) + p2) - p3))) + 1) ((p1 + p3) / 2) (((p1 + p3) / 2) + p2) ((((p1 + p3) / 2) + p2) - p3) ((p1 + p3) / 2) ((((p1 + p3) / 2) + p2) - 1)).2.1 - (Q5 n0 p0 p1 p2 p3 ((Int.toNat (((p1 + p3) / 2) - ((((p1 + p3) / 2) + p2) - p3))) + 1) ((p1 + p3) / 2) (((p1 + p3) / 2) + p2) ((((p1 + p3) / 2) + p2) - p3) ((p1 + p3) / 2) ((((p1 + p3) / 2) + p2) - 1)).2.2))
     else
      bif (decide (p1 < (Q5 n0 p0 p1 p2 p3 ((Int.toNat (((p1 + p3) / 2) - ((((p1 + p3) / 2) + p2) - p3))) + 1) ((p1 + p3) / 2) (((p1 + p3) / 2) + p2) ((((p1 + p3) / 2) + p2) - p3) ((p1 + p3) / 2) ((((p1 + p3) / 2) + p2) - 1)).2.2)) then
       bif (decide ((Q5 n0 p0 p1 p2 p3 ((Int.toNat (((p1 + p3) / 2) - ((((p1 + p3) / 2) + p2) - p3))) + 1) ((p1 + p3) / 2) (((p1 + p3) / 2) + p2) ((((p1 + p3) / 2) + p2) - p3) ((p1 + p3) / 2) ((((p1 + p3) / 2) + p2) - 1)).2.2 < (Q5 n0 p0 p1 p2 p3 ((Int.toNat (((p1 + p3) / 2) - ((((p1 + p3) / 2) + p2) - p3))) + 1) ((p1 + p3) / 2) (((p1 + p3) / 2) + p2) ((((p1 + p3) / 2) + p2) - p3) ((p1 + p3) / 2) ((((p1 + p3) / 2) + p2) - 1)).1)) then
        bif (decide ((Q5 n0 p0 p1 p2 p3 ((Int.toNat (((p1 + p3) / 2) - ((((p1 + p3) / 2) + p2) - p3))) + 1) ((p1 + p3) / 2) (((p1 + p3) / 2) + p2) ((((p1 + p3) / 2) + p2) - p3) ((p1 + p3) / 2) ((((p1 + p3) / 2) + p2) - 1)).1 < ((Q5 n0 p0 p1 p2 p3 ((Int.toNat (((p1 + p3) / 2) - ((((p1 + p3) / 2) + p2) - p3))) + 1) ((p1 + p3) / 2) (((p1 + p3) / 2) + p2) ((((p1 + p3) / 2) + p2) - p3) ((p1 + p3) / 2) ((((p1 + p3) / 2) + p2) - 1)).2.1 - (Q5 n0 p0 p1 p2 p3 ((Int.toNat (((p1 + p3) / 2) - ((((p1 + p3) / 2) + p2) - p3))) + 1) ((p1 + p3) / 2) (((p1 + p3) / 2) + p2) ((((p1 + p3) / 2) + p2) - p3) ((p1 + p3) / 2) ((((p1 + p3) / 2) + p2) - 1)).2.2))) then
         bif (decide (((Q5 n0 p0 p1 p2 p3 ((Int.toNat (((p1 + p3) / 2) - ((((p1 + p3) / 2) + p2) - p3))) + 1) ((p1 + p3) / 2) (((p1 + p3) / 2) + p2) ((((p1 + p3) / 2) + p2) - p3) ((p1 + p3) / 2) ((((p1 + p3) / 2) + p2) - 1)).2.1 - (Q5 n0 p0 p1 p2 p3 ((Int.toNat (((p1 + p3) / 2) - ((((p1 + p3) / 2) + p2) - p3))) + 1) ((p1 + p3) / 2) (((p1 + p3) / 2) + p2) ((((p1 + p3) / 2) + p2) - p3) ((p1 + p3) / 2) ((((p1 + p3) / 2) + p2) - 1)).2.2) < p3)) then
          (Q6 k n0 (Q6 k n0 p0 p1 (Q5 n0 p0 p1 p2 p3 ((Int.toNat (((p1 + p3) / 2) - ((((p1 + p3) / 2) + p2) - p3))) + 1) ((p1 + p3) / 2) (((p1 + p3) / 2) + p2) ((((p1 + p3) / 2) + p2) - p3) ((p1 + p3) / 2) ((((p1 + p3) / 2) + p2) - 1)).2.2 (Q5 n0 p0 p1 p2 p3 ((Int.toNat (((p1 + p3) / 2) - ((((p1 + p3) / 2) + p2) - p3))) + 1) ((p1 + p3) / 2) (((p1 + p3) / 2) + p2) ((((p1 + p3) / 2) + p2) - p3) ((p1 + p3) / 2) ((((p1 + p3) / 2) + p2) - 1)).1) (Q5 n0 p0 p1 p2 p3 ((Int.toNat (((p1 + p3) / 2) - ((((p1 + p3) / 2) + p2) - p3))) + 1) ((p1 + p3) / 2) (((p1 + p3) / 2) + p2) ((((p1 + p3) / 2) + p2) - p3) ((p1 + p3) / 2) ((((p1 + p3) / 2) + p2) - 1)).1 ((Q5 n0 p0 p1 p2 p3 ((Int.toNat (((p1 + p3) / 2) - ((((p1 + p3) / 2) + p2) - p3))) + 1) ((p1 + p3) / 2) (((p1 + p3) / 2) + p2) ((((p1 + p3) / 2) + p2) - p3) ((p1 + p3) / 2) ((((p1 + p3) / 2) + p2) - 1)).2.1 - (Q5 n0 p0 p1 p2 p3 ((Int.toNat (((p1 + p3) / 2) - ((((p1 + p3) / 2) + p2) - p3))) + 1) ((p1 + p3) / 2) (((p1 + p3) / 2) + p2) ((((p1 + p3) / 2) + p2) - p3) ((p1 + p3) / 2) ((((p1 + p3) / 2) + p2) - 1)).2.2) p3)
         else
          (Q6 k n0 p0 p1 (Q5 n0 p0 p1 p2 p3 ((Int.toNat (((p1 + p3) / 2) - ((((p1 + p3) / 2) + p2) - p3))) + 1) ((p1 + p3) / 2) (((p1 + p3) / 2) + p2) ((((p1 + p3) / 2) + p2) - p3) ((p1 + p3) / 2) ((((p1 + p3) / 2) + p2) - 1)).2.2 (Q5 n0 p0 p1 p2 p3 ((Int.toNat (((p1 + p3) / 2) - ((((p1 + p3) / 2) + p2) - p3))) + 1) ((p1 + p3) / 2) (((p1 + p3) / 2) + p2) ((((p1 + p3) / 2) + p2) - p3) ((p1 + p3) / 2) ((((p1 + p3) / 2) + p2) - 1)).1)
        else
         (Q6 k n0 p0 p1 (Q5 n0 p0 p1 p2 p3 ((Int.toNat (((p1 + p3) / 2) - ((((p1 + p3) / 2) + p2) - p3))) + 1) ((p1 + p3) / 2) (((p1 + p3) / 2) + p2) ((((p1 + p3) / 2) + p2) - p3) ((p1 + p3) / 2) ((((p1 + p3) / 2) + p2) - 1)).2.2 (Q5 n0 p0 p1 p2 p3 ((Int.toNat (((p1 + p3) / 2) - ((((p1 + p3) / 2) + p2) - p3))) + 1) ((p1 + p3) / 2) (((p1 + p3) / 2) + p2) ((((p1 + p3) / 2) + p2) - p3) ((p1 + p3) / 2) ((((p1 + p3) / 2) + p2) - 1)).1)
       else
        bif (decide ((Q5 n0 p0 p1 p2 p3 ((Int.toNat (((p1 + p3) / 2) - ((((p1 + p3) / 2) + p2) - p3))) + 1) ((p1 + p3) / 2) (((p1 + p3) / 2) + p2) ((((p1 + p3) / 2) + p2) - p3) ((p1 + p3) / 2) ((((p1 + p3) / 2) + p2) - 1)).1 < ((Q5 n0 p0 p1 p2 p3 ((Int.toNat (((p1 + p3) / 2) - ((((p1 + p3) / 2) + p2) - p3))) + 1) ((p1 + p3) / 2) (((p1 + p3) / 2) + p2) ((((p1 + p3) / 2) + p2) - p3) ((p1 + p3) / 2) ((((p1 + p3) / 2) + p2) - 1)).2.1 - (Q5 n0 p0 p1 p2 p3 ((Int.toNat (((p1 + p3) / 2) - ((((p1 + p3) / 2) + p2) - p3))) + 1) ((p1 + p3) / 2) (((p1 + p3) / 2) + p2) ((((p1 + p3) / 2) + p2) - p3) ((p1 + p3) / 2) ((((p1 + p3) / 2) + p2) - 1)).2.2))) then
         bif (decide (((Q5 n0 p0 p1 p2 p3 ((Int.toNat (((p1 + p3) / 2) - ((((p1 + p3) / 2) + p2) - p3))) + 1) ((p1 + p3) / 2) (((p1 + p3) / 2) + p2) ((((p1 + p3) / 2) + p2) - p3) ((p1 + p3) / 2) ((((p1 + p3) / 2) + p2) - 1)).2.1 - (Q5 n0 p0 p1 p2 p3 ((Int.toNat (((p1 + p3) / 2) - ((((p1 + p3) / 2) + p2) - p3))) + 1) ((p1 + p3) / 2) (((p1 + p3) / 2) + p2) ((((p1 + p3) / 2) + p2) - p3) ((p1 + p3) / 2) ((((p1 + p3) / 2) + p2) - 1)).2.2) < p3)) then
          (Q6 k n0 p0 (Q5 n0 p0 p1 p2 p3 ((Int.toNat (((p1 + p3) / 2) - ((((p1 + p3) / 2) + p2) - p3))) + 1) ((p1 + p3) / 2) (((p1 + p3) / 2) + p2) ((((p1 + p3) / 2) + p2) - p3) ((p1 + p3) / 2) ((((p1 + p3) / 2) + p2) - 1)).1 ((Q5 n0 p0 p1 p2 p3 ((Int.toNat (((p1 + p3) / 2) - ((((p1 + p3) / 2) + p2) - p3))) + 1) ((p1 + p3) / 2) (((p1 + p3) / 2) + p2) ((((p1 + p3) / 2) + p2) - p3) ((p1 + p3) / 2) ((((p1 + p3) / 2) + p2) - 1)).2.1 - (Q5 n0 p0 p1 p2 p3 ((Int.toNat (((p1 + p3) / 2) - ((((p1 + p3) / 2) + p2) - p3))) + 1) ((p1 + p3) / 2) (((p1 + p3) / 2) + p2) ((((p1 + p3) / 2) + p2) - p3) ((p1 + p3) / 2) ((((p1 + p3) / 2) + p2) - 1)).2.2) p3)
         else
          p0
        else
         p0
      else
       bif (decide ((Q5 n0 p0 p1 p2 p3 ((Int.toNat (((p1 + p3) / 2) - ((((p1 + p3) / 2) + p2) - p3))) + 1) ((p1 + p3) / 2) (((p1 + p3) / 2) + p2) ((((p1 + p3) / 2) + p2) - p3) ((p1 + p3) / 2) ((((p1 + p3) / 2) + p2) - 1)).1 < ((Q5 n0 p0 p1 p2 p3 ((Int.toNat (((p1 + p3) / 2) - ((((p1 + p3) / 2) + p2) - p3))) + 1) ((p1 + p3) / 2) (((p1 + p3) / 2) + p2) ((((p1 + p3) / 2) + p2) - p3) ((p1 + p3) / 2) ((((p1 + p3) / 2) + p2) - 1)).2.1 - (Q5 n0 p0 p1 p2 p3 ((Int.toNat (((p1 + p3) / 2) - ((((p1 + p3) / 2) + p2) - p3))) + 1) ((p1 + p3) / 2) (((p1 + p3) / 2) + p2) ((((p1 + p3) / 2) + p2) - p3) ((p1 + p3) / 2) ((((p1 + p3) / 2) + p2) - 1)).2.2))) then
        bif (decide (((Q5 n0 p0 p1 p2 p3 ((Int.toNat (((p1 + p3) / 2) - ((((p1 + p3) / 2) + p2) - p3))) + 1) ((p1 + p3) / 2) (((p1 + p3) / 2) + p2) ((((p1 + p3) / 2) + p2) - p3) ((p1 + p3) / 2) ((((p1 + p3) / 2) + p2) - 1)).2.1 - (Q5 n0 p0 p1 p2 p3 ((Int.toNat (((p1 + p3) / 2) - ((((p1 + p3) / 2) + p2) - p3))) + 1) ((p1 + p3) / 2) (((p1 + p3) / 2) + p2) ((((p1 + p3) / 2) + p2) - p3) ((p1 + p3) / 2) ((((p1 + p3) / 2) + p2) - 1)).2.2) < p3)) then
         (Q6 k n0 p0 (Q5 n0 p0 p1 p2 p3 ((Int.toNat (((p1 + p3) / 2) - ((((p1 + p3) / 2) + p2) - p3))) + 1) ((p1 + p3) / 2) (((p1 + p3) / 2) + p2) ((((p1 + p3) / 2) + p2) - p3) ((p1 + p3) / 2) ((((p1 + p3) / 2) + p2) - 1)).1 ((Q5 n0 p0 p1 p2 p3 ((Int.toNat (((p1 + p3) / 2) - ((((p1 + p3) / 2) + p2) - p3))) + 1) ((p1 + p3) / 2) (((p1 + p3) / 2) + p2) ((((p1 + p3) / 2) + p2) - p3) ((p1 + p3) / 2) ((((p1 + p3) / 2) + p2) - 1)).2.1 - (Q5 n0 p0 p1 p2 p3 ((Int.toNat (((p1 + p3) / 2) - ((((p1 + p3) / 2) + p2) - p3))) + 1) ((p1 + p3) / 2) (((p1 + p3) / 2) + p2) ((((p1 + p3) / 2) + p2) - p3) ((p1 + p3) / 2) ((((p1 + p3) / 2) + p2) - 1)).2.2) p3)
        else
         p0
       else
        p0
    else
     bif (decide (p1 < (Q5 n0 p0 p1 p2 p3 ((Int.toNat (((p1 + p3) / 2) - ((((p1 + p3) / 2) + p2) - p3))) + 1) ((p1 + p3) / 2) (((p1 + p3) / 2) + p2) ((((p1 + p3) / 2) + p2) - p3) ((p1 + p3) / 2) ((((p1 + p3) / 2) + p2) - 1)).2.2)) then
      bif (decide ((Q5 n0 p0 p1 p2 p3 ((Int.toNat (((p1 + p3) / 2) - ((((p1 + p3) / 2) + p2) - p3))) + 1) ((p1 + p3) / 2) (((p1 + p3) / 2) + p2) ((((p1 + p3) / 2) + p2) - p3) ((p1 + p3) / 2) ((((p1 + p3) / 2) + p2) - 1)).2.2 < (Q5 n0 p0 p1 p2 p3 ((Int.toNat (((p1 + p3) / 2) - ((((p1 + p3) / 2) + p2) - p3))) + 1) ((p1 + p3) / 2) (((p1 + p3) / 2) + p2) ((((p1 + p3) / 2) + p2) - p3) ((p1 + p3) / 2) ((((p1 + p3) / 2) + p2) - 1)).1)) then
       bif (decide ((Q5 n0 p0 p1 p2 p3 ((Int.toNat (((p1 + p3) / 2) - ((((p1 + p3) / 2) + p2) - p3))) + 1) ((p1 + p3) / 2) (((p1 + p3) / 2) + p2) ((((p1 + p3) / 2) + p2) - p3) ((p1 + p3) / 2) ((((p1 + p3) / 2) + p2) - 1)).1 < ((Q5 n0 p0 p1 p2 p3 ((Int.toNat (((p1 + p3) / 2) - ((((p1 + p3) / 2) + p2) - p3))) + 1) ((p1 + p3) / 2) (((p1 + p3) / 2) + p2) ((((p1 + p3) / 2) + p2) - p3) ((p1 + p3) / 2) ((((p1 + p3) / 2) + p2) - 1)).2.1 - (Q5 n0 p0 p1 p2 p3 ((Int.toNat (((p1 + p3) / 2) - ((((p1 + p3) / 2) + p2) - p3))) + 1) ((p1 + p3) / 2) (((p1 + p3) / 2) + p2) ((((p1 + p3) / 2) + p2) - p3) ((p1 + p3) / 2) ((((p1 + p3) / 2) + p2) - 1)).2.2))) then
        bif (decide (((Q5 n0 p0 p1 p2 p3 ((Int.toNat (((p1 + p3) / 2) - ((((p1 + p3) / 2) + p2) - p3))) + 1) ((p1 + p3) / 2) (((p1 + p3) / 2) + p2) ((((p1 + p3) / 2) + p2) - p3) ((p1 + p3) / 2) ((((p1 + p3) / 2) + p2) - 1)).2.1 - (Q5 n0 p0 p1 p2 p3 ((Int.toNat (((p1 + p3) / 2) - ((((p1 + p3) / 2) + p2) - p3))) + 1) ((p1 + p3) / 2) (((p1 + p3) / 2) + p2) ((((p1 + p3) / 2) + p2) - p3) ((p1 + p3) / 2) ((((p1 + p3) / 2) + p2) - 1)).2.2) < p3)) then
         (Q6 k n0 (Q6 k n0 p0 p1 (Q5 n0 p0 p1 p2 p3 ((Int.toNat (((p1 + p3) / 2) - ((((p1 + p3) / 2) + p2) - p3))) + 1) ((p1 + p3) / 2) (((p1 + p3) / 2) + p2) ((((p1 + p3) / 2) + p2) - p3) ((p1 + p3) / 2) ((((p1 + p3) / 2) + p2) - 1)).2.2 (Q5 n0 p0 p1 p2 p3 ((Int.toNat (((p1 + p3) / 2) - ((((p1 + p3) / 2) + p2) - p3))) + 1) ((p1 + p3) / 2) (((p1 + p3) / 2) + p2) ((((p1 + p3) / 2) + p2) - p3) ((p1 + p3) / 2) ((((p1 + p3) / 2) + p2) - 1)).1) (Q5 n0 p0 p1 p2 p3 ((Int.toNat (((p1 + p3) / 2) - ((((p1 + p3) / 2) + p2) - p3))) + 1) ((p1 + p3) / 2) (((p1 + p3) / 2) + p2) ((((p1 + p3) / 2) + p2) - p3) ((p1 + p3) / 2) ((((p1 + p3) / 2) + p2) - 1)).1 ((Q5 n0 p0 p1 p2 p3 ((Int.toNat (((p1 + p3) / 2) - ((((p1 + p3) / 2) + p2) - p3))) + 1) ((p1 + p3) / 2) (((p1 + p3) / 2) + p2) ((((p1 + p3) / 2) + p2) - p3) ((p1 + p3) / 2) ((((p1 + p3) / 2) + p2) - 1)).2.1 - (Q5 n0 p0 p1 p2 p3 ((Int.toNat (((p1 + p3) / 2) - ((((p1 + p3) / 2) + p2) - p3))) + 1) ((p1 + p3) / 2) (((p1 + p3) / 2) + p2) ((((p1 + p3) / 2) + p2) - p3) ((p1 + p3) / 2) ((((p1 + p3) / 2) + p2) - 1)).2.2) p3)
        else
         (Q6 k n0 p0 p1 (Q5 n0 p0 p1 p2 p3 ((Int.toNat (((p1 + p3) / 2) - ((((p1 + p3) / 2) + p2) - p3))) + 1) ((p1 + p3) / 2) (((p1 + p3) / 2) + p2) ((((p1 + p3) / 2) + p2) - p3) ((p1 + p3) / 2) ((((p1 + p3) / 2) + p2) - 1)).2.2 (Q5 n0 p0 p1 p2 p3 ((Int.toNat (((p1 + p3) / 2) - ((((p1 + p3) / 2) + p2) - p3))) + 1) ((p1 + p3) / 2) (((p1 + p3) / 2) + p2) ((((p1 + p3) / 2) + p2) - p3) ((p1 + p3) / 2) ((((p1 + p3) / 2) + p2) - 1)).1)
       else
        (Q6 k n0 p0 p1 (Q5 n0 p0 p1 p2 p3 ((Int.toNat (((p1 + p3) / 2) - ((((p1 + p3) / 2) + p2) - p3))) + 1) ((p1 + p3) / 2) (((p1 + p3) / 2) + p2) ((((p1 + p3) / 2) + p2) - p3) ((p1 + p3) / 2) ((((p1 + p3) / 2) + p2) - 1)).2.2 (Q5 n0 p0 p1 p2 p3 ((Int.toNat (((p1 + p3) / 2) - ((((p1 + p3) / 2) + p2) - p3))) + 1) ((p1 + p3) / 2) (((p1 + p3) / 2) + p2) ((((p1 + p3) / 2) + p2) - p3) ((p1 + p3) / 2) ((((p1 + p3) / 2) + p2) - 1)).1)
      else
       bif (decide ((Q5 n0 p0 p1 p2 p3 ((Int.toNat (((p1 + p3) / 2) - ((((p1 + p3) / 2) + p2) - p3))) + 1) ((p1 + p3) / 2) (((p1 + p3) / 2) + p2) ((((p1 + p3) / 2) + p2) - p3) ((p1 + p3) / 2) ((((p1 + p3) / 2) + p2) - 1)).1 < ((Q5 n0 p0 p1 p2 p3 ((Int.toNat (((p1 + p3) / 2) - ((((p1 + p3) / 2) + p2) - p3))) + 1) ((p1 + p3) / 2) (((p1 + p3) / 2) + p2) ((((p1 + p3) / 2) + p2) - p3) ((p1 + p3) / 2) ((((p1 + p3) / 2) + p2) - 1)).2.1 - (Q5 n0 p0 p1 p2 p3 ((Int.toNat (((p1 + p3) / 2) - ((((p1 + p3) / 2) + p2) - p3))) + 1) ((p1 + p3) / 2) (((p1 + p3) / 2) + p2) ((((p1 + p3) / 2) + p2) - p3) ((p1 + p3) / 2) ((((p1 + p3) / 2) + p2) - 1)).2.2))) then
        bif (decide (((Q5 n0 p0 p1 p2 p3 ((Int.toNat (((p1 + p3) / 2) - ((((p1 + p3) / 2) + p2) - p3))) + 1) ((p1 + p3) / 2) (((p1 + p3) / 2) + p2) ((((p1 + p3) / 2) + p2) - p3) ((p1 + p3) / 2) ((((p1 + p3) / 2) + p2) - 1)).2.1 - (Q5 n0 p0 p1 p2 p3 ((Int.toNat (((p1 + p3) / 2) - ((((p1 + p3) / 2) + p2) - p3))) + 1) ((p1 + p3) / 2) (((p1 + p3) / 2) + p2) ((((p1 + p3) / 2) + p2) - p3) ((p1 + p3) / 2) ((((p1 + p3) / 2) + p2) - 1)).2.2) < p3)) then
         (Q6 k n0 p0 (Q5 n0 p0 p1 p2 p3 ((Int.toNat (((p1 + p3) / 2) - ((((p1 + p3) / 2) + p2) - p3))) + 1) ((p1 + p3) / 2) (((p1 + p3) / 2) + p2) ((((p1 + p3) / 2) + p2) - p3) ((p1 + p3) / 2) ((((p1 + p3) / 2) + p2) - 1)).1 ((Q5 n0 p0 p1 p2 p3 ((Int.toNat (((p1 + p3) / 2) - ((((p1 + p3) / 2) + p2) - p3))) + 1) ((p1 + p3) / 2) (((p1 + p3) / 2) + p2) ((((p1 + p3) / 2) + p2) - p3) ((p1 + p3) / 2) ((((p1 + p3) / 2) + p2) - 1)).2.1 - (Q5 n0 p0 p1 p2 p3 ((Int.toNat (((p1 + p3) / 2) - ((((p1 + p3) / 2) + p2) - p3))) + 1) ((p1 + p3) / 2) (((p1 + p3) / 2) + p2) ((((p1 + p3) / 2) + p2) - p3) ((p1 + p3) / 2) ((((p1 + p3) / 2) + p2) - 1)).2.2) p3)
        else
         p0
       else
        p0
     else
      bif (decide ((Q5 n0 p0 p1 p2 p3 ((Int.toNat (((p1 + p3) / 2) - ((((p1 + p3) / 2) + p2) - p3))) + 1) ((p1 + p3) / 2) (((p1 + p3) / 2) + p2) ((((p1 + p3) / 2) + p2) - p3) ((p1 + p3) / 2) ((((p1 + p3) / 2) + p2) - 1)).1 < ((Q5 n0 p0 p1 p2 p3 ((Int.toNat (((p1 + p3) / 2) - ((((p1 + p3) / 2) + p2) - p3))) + 1) ((p1 + p3) / 2) (((p1 + p3) / 2) + p2) ((((p1 + p3) / 2) + p2) - p3) ((p1 + p3) / 2) ((((p1 + p3) / 2) + p2) - 1)).2.1 - (Q5 n0 p0 p1 p2 p3 ((Int.toNat (((p1 + p3) / 2) - ((((p1 + p3) / 2) + p2) - p3))) + 1) ((p1 + p3) / 2) (((p1 + p3) / 2) + p2) ((((p1 + p3) / 2) + p2) - p3) ((p1 + p3) / 2) ((((p1 + p3) / 2) + p2) - 1)).2.2))) then
       bif (decide (((Q5 n0 p0 p1 p2 p3 ((Int.toNat (((p1 + p3) / 2) - ((((p1 + p3) / 2) + p2) - p3))) + 1) ((p1 + p3) / 2) (((p1 + p3) / 2) + p2) ((((p1 + p3) / 2) + p2) - p3) ((p1 + p3) / 2) ((((p1 + p3) / 2) + p2) - 1)).2.1 - (Q5 n0 p0 p1 p2 p3 ((Int.toNat (((p1 + p3) / 2) - ((((p1 + p3) / 2) + p2) - p3))) + 1) ((p1 + p3) / 2) (((p1 + p3) / 2) + p2) ((((p1 + p3) / 2) + p2) - p3) ((p1 + p3) / 2) ((((p1 + p3) / 2) + p2) - 1)).2.2) < p3)) then
        (Q6 k n0 p0 (Q5 n0 p0 p1 p2 p3 ((Int.toNat (((p1 + p3) / 2) - ((((p1 + p3) / 2) + p2) - p3))) + 1) ((p1 + p3) / 2) (((p1 + p3) / 2) + p2) ((((p1 + p3) / 2) + p2) - p3) ((p1 + p3) / 2) ((((p1 + p3) / 2) + p2) - 1)).1 ((Q5 n0 p0 p1 p2 p3 ((Int.toNat (((p1 + p3) / 2) - ((((p1 + p3) / 2) + p2) - p3))) + 1) ((p1 + p3) / 2) (((p1 + p3) / 2) + p2) ((((p1 + p3) / 2) + p2) - p3) ((p1 + p3) / 2) ((((p1 + p3) / 2) + p2) - 1)).2.1 - (Q5 n0 p0 p1 p2 p3 ((Int.toNat (((p1 + p3) / 2) - ((((p1 + p3) / 2) + p2) - p3))) + 1) ((p1 + p3) / 2) (((p1 + p3) / 2) + p2) ((((p1 + p3) / 2) + p2) - p3) ((p1 + p3) / 2) ((((p1 + p3) / 2) + p2) - 1)).2.2) p3)
       else
        p0
      else
       p0
   else
    bif (decide ((Q5 n0 p0 p1 p2 p3 ((Int.toNat (p2 - p1)) + 1) ((p1 + p3) / 2) (((p1 + p3) / 2) + p2) p1 p2 ((((p1 + p3) / 2) + p2) - 1)).2.2 < p2)) then
     bif (decide (p2 < ((Q5 n0 p0 p1 p2 p3 ((Int.toNat (p2 - p1)) + 1) ((p1 + p3) / 2) (((p1 + p3) / 2) + p2) p1 p2 ((((p1 + p3) / 2) + p2) - 1)).2.1 - (Q5 n0 p0 p1 p2 p3 ((Int.toNat (p2 - p1)) + 1) ((p1 + p3) / 2) (((p1 + p3) / 2) + p2) p1 p2 ((((p1 + p3) / 2) + p2) - 1)).2.2))) then
      bif (decide (p1 < (Q5 n0 p0 p1 p2 p3 ((Int.toNat (p2 - p1)) + 1) ((p1 + p3) / 2) (((p1 + p3) / 2) + p2) p1 p2 ((((p1 + p3) / 2) + p2) - 1)).2.2)) then
       bif (decide ((Q5 n0 p0 p1 p2 p3 ((Int.toNat (p2 - p1)) + 1) ((p1 + p3) / 2) (((p1 + p3) / 2) + p2) p1 p2 ((((p1 + p3) / 2) + p2) - 1)).2.2 < (Q5 n0 p0 p1 p2 p3 ((Int.toNat (p2 - p1)) + 1) ((p1 + p3) / 2) (((p1 + p3) / 2) + p2) p1 p2 ((((p1 + p3) / 2) + p2) - 1)).1)) then
        bif (decide ((Q5 n0 p0 p1 p2 p3 ((Int.toNat (p2 - p1)) + 1) ((p1 + p3) / 2) (((p1 + p3) / 2) + p2) p1 p2 ((((p1 + p3) / 2) + p2) - 1)).1 < ((Q5 n0 p0 p1 p2 p3 ((Int.toNat (p2 - p1)) + 1) ((p1 + p3) / 2) (((p1 + p3) / 2) + p2) p1 p2 ((((p1 + p3) / 2) + p2) - 1)).2.1 - (Q5 n0 p0 p1 p2 p3 ((Int.toNat (p2 - p1)) + 1) ((p1 + p3) / 2) (((p1 + p3) / 2) + p2) p1 p2 ((((p1 + p3) / 2) + p2) - 1)).2.2))) then
         bif (decide (((Q5 n0 p0 p1 p2 p3 ((Int.toNat (p2 - p1)) + 1) ((p1 + p3) / 2) (((p1 + p3) / 2) + p2) p1 p2 ((((p1 + p3) / 2) + p2) - 1)).2.1 - (Q5 n0 p0 p1 p2 p3 ((Int.toNat (p2 - p1)) + 1) ((p1 + p3) / 2) (((p1 + p3) / 2) + p2) p1 p2 ((((p1 + p3) / 2) + p2) - 1)).2.2) < p3)) then
          (Q6 k n0 (Q6 k n0 (Q7 n0 p0 (Q5 n0 p0 p1 p2 p3 ((Int.toNat (p2 - p1)) + 1) ((p1 + p3) / 2) (((p1 + p3) / 2) + p2) p1 p2 ((((p1 + p3) / 2) + p2) - 1)).2.2 p2 ((Q5 n0 p0 p1 p2 p3 ((Int.toNat (p2 - p1)) + 1) ((p1 + p3) / 2) (((p1 + p3) / 2) + p2) p1 p2 ((((p1 + p3) / 2) + p2) - 1)).2.1 - (Q5 n0 p0 p1 p2 p3 ((Int.toNat (p2 - p1)) + 1) ((p1 + p3) / 2) (((p1 + p3) / 2) + p2) p1 p2 ((((p1 + p3) / 2) + p2) - 1)).2.2)) p1 (Q5 n0 p0 p1 p2 p3 ((Int.toNat (p2 - p1)) + 1) ((p1 + p3) / 2) (((p1 + p3) / 2) + p2) p1 p2 ((((p1 + p3) / 2) + p2) - 1)).2.2 (Q5 n0 p0 p1 p2 p3 ((Int.toNat (p2 - p1)) + 1) ((p1 + p3) / 2) (((p1 + p3) / 2) + p2) p1 p2 ((((p1 + p3) / 2) + p2) - 1)).1) (Q5 n0 p0 p1 p2 p3 ((Int.toNat (p2 - p1)) + 1) ((p1 + p3) / 2) (((p1 + p3) / 2) + p2) p1 p2 ((((p1 + p3) / 2) + p2) - 1)).1 ((Q5 n0 p0 p1 p2 p3 ((Int.toNat (p2 - p1)) + 1) ((p1 + p3) / 2) (((p1 + p3) / 2) + p2) p1 p2 ((((p1 + p3) / 2) + p2) - 1)).2.1 - (Q5 n0 p0 p1 p2 p3 ((Int.toNat (p2 - p1)) + 1) ((p1 + p3) / 2) (((p1 + p3) / 2) + p2) p1 p2 ((((p1 + p3) / 2) + p2) - 1)).2.2) p3)
         else
          (Q6 k n0 (Q7 n0 p0 (Q5 n0 p0 p1 p2 p3 ((Int.toNat (p2 - p1)) + 1) ((p1 + p3) / 2) (((p1 + p3) / 2) + p2) p1 p2 ((((p1 + p3) / 2) + p2) - 1)).2.2 p2 ((Q5 n0 p0 p1 p2 p3 ((Int.toNat (p2 - p1)) + 1) ((p1 + p3) / 2) (((p1 + p3) / 2) + p2) p1 p2 ((((p1 + p3) / 2) + p2) - 1)).2.1 - (Q5 n0 p0 p1 p2 p3 ((Int.toNat (p2 - p1)) + 1) ((p1 + p3) / 2) (((p1 + p3) / 2) + p2) p1 p2 ((((p1 + p3) / 2) + p2) - 1)).2.2)) p1 (Q5 n0 p0 p1 p2 p3 ((Int.toNat (p2 - p1)) + 1) ((p1 + p3) / 2) (((p1 + p3) / 2) + p2) p1 p2 ((((p1 + p3) / 2) + p2) - 1)).2.2 (Q5 n0 p0 p1 p2 p3 ((Int.toNat (p2 - p1)) + 1) ((p1 + p3) / 2) (((p1 + p3) / 2) + p2) p1 p2 ((((p1 + p3) / 2) + p2) - 1)).1)
        else
         (Q6 k n0 (Q7 n0 p0 (Q5 n0 p0 p1 p2 p3 ((Int.toNat (p2 - p1)) + 1) ((p1 + p3) / 2) (((p1 + p3) / 2) + p2) p1 p2 ((((p1 + p3) / 2) + p2) - 1)).2.2 p2 ((Q5 n0 p0 p1 p2 p3 ((Int.toNat (p2 - p1)) + 1) ((p1 + p3) / 2) (((p1 + p3) / 2) + p2) p1 p2 ((((p1 + p3) / 2) + p2) - 1)).2.1 - (Q5 n0 p0 p1 p2 p3 ((Int.toNat (p2 - p1)) + 1) ((p1 + p3) / 2) (((p1 + p3) / 2) + p2) p1 p2 ((((p1 + p3) / 2) + p2) - 1)).2.2)) p1 (Q5 n0 p0 p1 p2 p3 ((Int.toNat (p2 - p1)) + 1) ((p1 + p3) / 2) (((p1 + p3) / 2) + p2) p1 p2 ((((p1 + p3) / 2) + p2) - 1)).2.2 (Q5 n0 p0 p1 p2 p3 ((Int.toNat (p2 - p1)) + 1) ((p1 + p3) / 2) (((p1 + p3) / 2) + p2) p1 p2 ((((p1 + p3) / 2) + p2) - 1)).1)
       else
        bif (decide ((Q5 n0 p0 p1 p2 p3 ((Int.toNat (p2 - p1)) + 1) ((p1 + p3) / 2) (((p1 + p3) / 2) + p2) p1 p2 ((((p1 + p3) / 2) + p2) - 1)).1 < ((Q5 n0 p0 p1 p2 p3 ((Int.toNat (p2 - p1)) + 1) ((p1 + p3) / 2) (((p1 + p3) / 2) + p2) p1 p2 ((((p1 + p3) / 2) + p2) - 1)).2.1 - (Q5 n0 p0 p1 p2 p3 ((Int.toNat (p2 - p1)) + 1) ((p1 + p3) / 2) (((p1 + p3) / 2) + p2) p1 p2 ((((p1 + p3) / 2) + p2) - 1)).2.2))) then
         bif (decide (((Q5 n0 p0 p1 p2 p3 ((Int.toNat (p2 - p1)) + 1) ((p1 + p3) / 2) (((p1 + p3) / 2) + p2) p1 p2 ((((p1 + p3) / 2) + p2) - 1)).2.1 - (Q5 n0 p0 p1 p2 p3 ((Int.toNat (p2 - p1)) + 1) ((p1 + p3) / 2) (((p1 + p3) / 2) + p2) p1 p2 ((((p1 + p3) / 2) + p2) - 1)).2.2) < p3)) then
          (Q6 k n0 (Q7 n0 p0 (Q5 n0 p0 p1 p2 p3 ((Int.toNat (p2 - p1)) + 1) ((p1 + p3) / 2) (((p1 + p3) / 2) + p2) p1 p2 ((((p1 + p3) / 2) + p2) - 1)).2.2 p2 ((Q5 n0 p0 p1 p2 p3 ((Int.toNat (p2 - p1)) + 1) ((p1 + p3) / 2) (((p1 + p3) / 2) + p2) p1 p2 ((((p1 + p3) / 2) + p2) - 1)).2.1 - (Q5 n0 p0 p1 p2 p3 ((Int.toNat (p2 - p1)) + 1) ((p1 + p3) / 2) (((p1 + p3) / 2) + p2) p1 p2 ((((p1 + p3) / 2) + p2) - 1)).2.2)) (Q5 n0 p0 p1 p2 p3 ((Int.toNat (p2 - p1)) + 1) ((p1 + p3) / 2) (((p1 + p3) / 2) + p2) p1 p2 ((((p1 + p3) / 2) + p2) - 1)).1 ((Q5 n0 p0 p1 p2 p3 ((Int.toNat (p2 - p1)) + 1) ((p1 + p3) / 2) (((p1 + p3) / 2) + p2) p1 p2 ((((p1 + p3) / 2) + p2) - 1)).2.1 - (Q5 n0 p0 p1 p2 p3 ((Int.toNat (p2 - p1)) + 1) ((p1 + p3) / 2) (((p1 + p3) / 2) + p2) p1 p2 ((((p1 + p3) / 2) + p2) - 1)).2.2) p3)
         else
          (Q7 n0 p0 (Q5 n0 p0 p1 p2 p3 ((Int.toNat (p2 - p1)) + 1) ((p1 + p3) / 2) (((p1 + p3) / 2) + p2) p1 p2 ((((p1 + p3) / 2) + p2) - 1)).2.2 p2 ((Q5 n0 p0 p1 p2 p3 ((Int.toNat (p2 - p1)) + 1) ((p1 + p3) / 2) (((p1 + p3) / 2) + p2) p1 p2 ((((p1 + p3) / 2) + p2) - 1)).2.1 - (Q5 n0 p0 p1 p2 p3 ((Int.toNat (p2 - p1)) + 1) ((p1 + p3) / 2) (((p1 + p3) / 2) + p2) p1 p2 ((((p1 + p3) / 2) + p2) - 1)).2.2))
        else
         (Q7 n0 p0 (Q5 n0 p0 p1 p2 p3 ((Int.toNat (p2 - p1)) + 1) ((p1 + p3) / 2) (((p1 + p3) / 2) + p2) p1 p2 ((((p1 + p3) / 2) + p2) - 1)).2.2 p2 ((Q5 n0 p0 p1 p2 p3 ((Int.toNat (p2 - p1)) + 1) ((p1 + p3) / 2) (((p1 + p3) / 2) + p2) p1 p2 ((((p1 + p3) / 2) + p2) - 1)).2.1 - (Q5 n0 p0 p1 p2 p3 ((Int.toNat (p2 - p1)) + 1) ((p1 + p3) / 2) (((p1 + p3) / 2) + p2) p1 p2 ((((p1 + p3) / 2) + p2) - 1)).2.2))
      else
       bif (decide ((Q5 n0 p0 p1 p2 p3 ((Int.toNat (p2 - p1)) + 1) ((p1 + p3) / 2) (((p1 + p3) / 2) + p2) p1 p2 ((((p1 + p3) / 2) + p2) - 1)).1 < ((Q5 n0 p0 p1 p2 p3 ((Int.toNat (p2 - p1)) + 1) ((p1 + p3) / 2) (((p1 + p3) / 2) + p2) p1 p2 ((((p1 + p3) / 2) + p2) - 1)).2.1 - (Q5 n0 p0 p1 p2 p3 ((Int.toNat (p2 - p1)) + 1) ((p1 + p3) / 2) (((p1 + p3) / 2) + p2) p1 p2 ((((p1 + p3) / 2) + p2) - 1)).2.2))) then
        bif (decide (((Q5 n0 p0 p1 p2 p3 ((Int.toNat (p2 - p1)) + 1) ((p1 + p3) / 2) (((p1 + p3) / 2) + p2) p1 p2 ((((p1 + p3) / 2) + p2) - 1)).2.1 - (Q5 n0 p0 p1 p2 p3 ((Int.toNat (p2 - p1)) + 1) ((p1 + p3) / 2) (((p1 + p3) / 2) + p2) p1 p2 ((((p1 + p3) / 2) + p2) - 1)).2.2) < p3)) then
         (Q6 k n0 (Q7 n0 p0 (Q5 n0 p0 p1 p2 p3 ((Int.toNat (p2 - p1)) + 1) ((p1 + p3) / 2) (((p1 + p3) / 2) + p2) p1 p2 ((((p1 + p3) / 2) + p2) - 1)).2.2 p2 ((Q5 n0 p0 p1 p2 p3 ((Int.toNat (p2 - p1)) + 1) ((p1 + p3) / 2) (((p1 + p3) / 2) + p2) p1 p2 ((((p1 + p3) / 2) + p2) - 1)).2.1 - (Q5 n0 p0 p1 p2 p3 ((Int.toNat (p2 - p1)) + 1) ((p1 + p3) / 2) (((p1 + p3) / 2) + p2) p1 p2 ((((p1 + p3) / 2) + p2) - 1)).2.2)) (Q5 n0 p0 p1 p2 p3 ((Int.toNat (p2 - p1)) + 1) ((p1 + p3) / 2) (((p1 + p3) / 2) + p2) p1 p2 ((((p1 + p3) / 2) + p2) - 1)).1 ((Q5 n0 p0 p1 p2 p3 ((Int.toNat (p2 - p1)) + 1) ((p1 + p3) / 2) (((p1 + p3) / 2) + p2) p1 p2 ((((p1 + p3) / 2) + p2) - 1)).2.1 - (Q5 n0 p0 p1 p2 p3 ((Int.toNat (p2 - p1)) + 1) ((p1 + p3) / 2) (((p1 + p3) / 2) + p2) p1 p2 ((((p1 + p3) / 2) + p2) - 1)).2.2) p3)
        else
         (Q7 n0 p0 (Q5 n0 p0 p1 p2 p3 ((Int.toNat (p2 - p1)) + 1) ((p1 + p3) / 2) (((p1 + p3) / 2) + p2) p1 p2 ((((p1 + p3) / 2) + p2) - 1)).2.2 p2 ((Q5 n0 p0 p1 p2 p3 ((Int.toNat (p2 - p1)) + 1) ((p1 + p3) / 2) (((p1 + p3) / 2) + p2) p1 p2 ((((p1 + p3) / 2) + p2) - 1)).2.1 - (Q5 n0 p0 p1 p2 p3 ((Int.toNat (p2 - p1)) + 1) ((p1 + p3) / 2) (((p1 + p3) / 2) + p2) p1 p2 ((((p1 + p3) / 2) + p2) - 1)).2.2))
       else
        (Q7 n0 p0 (Q5 n0 p0 p1 p2 p3 ((Int.toNat (p2 - p1)) + 1) ((p1 + p3) / 2) (((p1 + p3) / 2) + p2) p1 p2 ((((p1 + p3) / 2) + p2) - 1)).2.2 p2 ((Q5 n0 p0 p1 p2 p3 ((Int.toNat (p2 - p1)) + 1) ((p1 + p3) / 2) (((p1 + p3) / 2) + p2) p1 p2 ((((p1 + p3) / 2) + p2) - 1)).2.1 - (Q5 n0 p0 p1 p2 p3 ((Int.toNat (p2 - p1)) + 1) ((p1 + p3) / 2) (((p1 + p3) / 2) + p2) p1 p2 ((((p1 + p3) / 2) + p2) - 1)).2.2))
     else
      bif (decide (p1 < (Q5 n0 p0 p1 p2 p3 ((Int.toNat (p2 - p1)) + 1) ((p1 + p3) / 2) (((p1 + p3) / 2) + p2) p1 p2 ((((p1 + p3) / 2) + p2) - 1)).2.2)) then
       bif (decide ((Q5 n0 p0 p1 p2 p3 ((Int.toNat (p2 - p1)) + 1) ((p1 + p3) / 2) (((p1 + p3) / 2) + p2) p1 p2 ((((p1 + p3) / 2) + p2) - 1)).2.2 < (Q5 n0 p0 p1 p2 p3 ((Int.toNat (p2 - p1)) + 1) ((p1 + p3) / 2) (((p1 + p3) / 2) + p2) p1 p2 ((((p1 + p3) / 2) + p2) - 1)).1)) then
        bif (decide ((Q5 n0 p0 p1 p2 p3 ((Int.toNat (p2 - p1)) + 1) ((p1 + p3) / 2) (((p1 + p3) / 2) + p2) p1 p2 ((((p1 + p3) / 2) + p2) - 1)).1 < ((Q5 n0 p0 p1 p2 p3 ((Int.toNat (p2 - p1)) + 1) ((p1 + p3) / 2) (((p1 + p3) / 2) + p2) p1 p2 ((((p1 + p3) / 2) + p2) - 1)).2.1 - (Q5 n0 p0 p1 p2 p3 ((Int.toNat (p2 - p1)) + 1) ((p1 + p3) / 2) (((p1 + p3) / 2) + p2) p1 p2 ((((p1 + p3) / 2) + p2) - 1)).2.2))) then
         bif (decide (((Q5 n0 p0 p1 p2 p3 ((Int.toNat (p2 - p1)) + 1) ((p1 + p3) / 2) (((p1 + p3) / 2) + p2) p1 p2 ((((p1 + p3) / 2) + p2) - 1)).2.1 - (Q5 n0 p0 p1 p2 p3 ((Int.toNat (p2 - p1)) + 1) ((p1 + p3) / 2) (((p1 + p3) / 2) + p2) p1 p2 ((((p1 + p3) / 2) + p2) - 1)).2.2) < p3)) then
          (Q6 k n0 (Q6 k n0 p0 p1 (Q5 n0 p0 p1 p2 p3 ((Int.toNat (p2 - p1)) + 1) ((p1 + p3) / 2) (((p1 + p3) / 2) + p2) p1 p2 ((((p1 + p3) / 2) + p2) - 1)).2.2 (Q5 n0 p0 p1 p2 p3 ((Int.toNat (p2 - p1)) + 1) ((p1 + p3) / 2) (((p1 + p3) / 2) + p2) p1 p2 ((((p1 + p3) / 2) + p2) - 1)).1) (Q5 n0 p0 p1 p2 p3 ((Int.toNat (p2 - p1)) + 1) ((p1 + p3) / 2) (((p1 + p3) / 2) + p2) p1 p2 ((((p1 + p3) / 2) + p2) - 1)).1 ((Q5 n0 p0 p1 p2 p3 ((Int.toNat (p2 - p1)) + 1) ((p1 + p3) / 2) (((p1 + p3) / 2) + p2) p1 p2 ((((p1 + p3) / 2) + p2) - 1)).2.1 - (Q5 n0 p0 p1 p2 p3 ((Int.toNat (p2 - p1)) + 1) ((p1 + p3) / 2) (((p1 + p3) / 2) + p2) p1 p2 ((((p1 + p3) / 2) + p2) - 1)).2.2) p3)
         else
          (Q6 k n0 p0 p1 (Q5 n0 p0 p1 p2 p3 ((Int.toNat (p2 - p1)) + 1) ((p1 + p3) / 2) (((p1 + p3) / 2) + p2) p1 p2 ((((p1 + p3) / 2) + p2) - 1)).2.2 (Q5 n0 p0 p1 p2 p3 ((Int.toNat (p2 - p1)) + 1) ((p1 + p3) / 2) (((p1 + p3) / 2) + p2) p1 p2 ((((p1 + p3) / 2) + p2) - 1)).1)
        else
         (Q6 k n0 p0 p1 (Q5 n0 p0 p1 p2 p3 ((Int.toNat (p2 - p1)) + 1) ((p1 + p3) / 2) (((p1 + p3) / 2) + p2) p1 p2 ((((p1 + p3) / 2) + p2) - 1)).2.2 (Q5 n0 p0 p1 p2 p3 ((Int.toNat (p2 - p1)) + 1) ((p1 + p3) / 2) (((p1 + p3) / 2) + p2) p1 p2 ((((p1 + p3) / 2) + p2) - 1)).1)
       else
        bif (decide ((Q5 n0 p0 p1 p2 p3 ((Int.toNat (p2 - p1)) + 1) ((p1 + p3) / 2) (((p1 + p3) / 2) + p2) p1 p2 ((((p1 + p3) / 2) + p2) - 1)).1 < ((Q5 n0 p0 p1 p2 p3 ((Int.toNat (p2 - p1)) + 1) ((p1 + p3) / 2) (((p1 + p3) / 2) + p2) p1 p2 ((((p1 + p3) / 2) + p2) - 1)).2.1 - (Q5 n0 p0 p1 p2 p3 ((Int.toNat (p2 - p1)) + 1) ((p1 + p3) / 2) (((p1 + p3) / 2) + p2) p1 p2 ((((p1 + p3) / 2) + p2) - 1)).2.2))) then
         bif (decide (((Q5 n0 p0 p1 p2 p3 ((Int.toNat (p2 - p1)) + 1) ((p1 + p3) / 2) (((p1 + p3) / 2) + p2) p1 p2 ((((p1 + p3) / 2) + p2) - 1)).2.1 - (Q5 n0 p0 p1 p2 p3 ((Int.toNat (p2 - p1)) + 1) ((p1 + p3) / 2) (((p1 + p3) / 2) + p2) p1 p2 ((((p1 + p3) / 2) + p2) - 1)).2.2) < p3)) then
          (Q6 k n0 p0 (Q5 n0 p0 p1 p2 p3 ((Int.toNat (p2 - p1)) + 1) ((p1 + p3) / 2) (((p1 + p3) / 2) + p2) p1 p2 ((((p1 + p3) / 2) + p2) - 1)).1 ((Q5 n0 p0 p1 p2 p3 ((Int.toNat (p2 - p1)) + 1) ((p1 + p3) / 2) (((p1 + p3) / 2) + p2) p1 p2 ((((p1 + p3) / 2) + p2) - 1)).2.1 - (Q5 n0 p0 p1 p2 p3 ((Int.toNat (p2 - p1)) + 1) ((p1 + p3) / 2) (((p1 + p3) / 2) + p2) p1 p2 ((((p1 + p3) / 2) + p2) - 1)).2.2) p3)
         else
          p0
        else
         p0
      else
       bif (decide ((Q5 n0 p0 p1 p2 p3 ((Int.toNat (p2 - p1)) + 1) ((p1 + p3) / 2) (((p1 + p3) / 2) + p2) p1 p2 ((((p1 + p3) / 2) + p2) - 1)).1 < ((Q5 n0 p0 p1 p2 p3 ((Int.toNat (p2 - p1)) + 1) ((p1 + p3) / 2) (((p1 + p3) / 2) + p2) p1 p2 ((((p1 + p3) / 2) + p2) - 1)).2.1 - (Q5 n0 p0 p1 p2 p3 ((Int.toNat (p2 - p1)) + 1) ((p1 + p3) / 2) (((p1 + p3) / 2) + p2) p1 p2 ((((p1 + p3) / 2) + p2) - 1)).2.2))) then
        bif (decide (((Q5 n0 p0 p1 p2 p3 ((Int.toNat (p2 - p1)) + 1) ((p1 + p3) / 2) (((p1 + p3) / 2) + p2) p1 p2 ((((p1 + p3) / 2) + p2) - 1)).2.1 - (Q5 n0 p0 p1 p2 p3 ((Int.toNat (p2 - p1)) + 1) ((p1 + p3) / 2) (((p1 + p3) / 2) + p2) p1 p2 ((((p1 + p3) / 2) + p2) - 1)).2.2) < p3)) then
         (Q6 k n0 p0 (Q5 n0 p0 p1 p2 p3 ((Int.toNat (p2 - p1)) + 1) ((p1 + p3) / 2) (((p1 + p3) / 2) + p2) p1 p2 ((((p1 + p3) / 2) + p2) - 1)).1 ((Q5 n0 p0 p1 p2 p3 ((Int.toNat (p2 - p1)) + 1) ((p1 + p3) / 2) (((p1 + p3) / 2) + p2) p1 p2 ((((p1 + p3) / 2) + p2) - 1)).2.1 - (Q5 n0 p0 p1 p2 p3 ((Int.toNat (p2 - p1)) + 1) ((p1 + p3) / 2) (((p1 + p3) / 2) + p2) p1 p2 ((((p1 + p3) / 2) + p2) - 1)).2.2) p3)
        else
         p0
       else
        p0
    else
     bif (decide (p1 < (Q5 n0 p0 p1 p2 p3 ((Int.toNat (p2 - p1)) + 1) ((p1 + p3) / 2) (((p1 + p3) / 2) + p2) p1 p2 ((((p1 + p3) / 2) + p2) - 1)).2.2)) then
      bif (decide ((Q5 n0 p0 p1 p2 p3 ((Int.toNat (p2 - p1)) + 1) ((p1 + p3) / 2) (((p1 + p3) / 2) + p2) p1 p2 ((((p1 + p3) / 2) + p2) - 1)).2.2 < (Q5 n0 p0 p1 p2 p3 ((Int.toNat (p2 - p1)) + 1) ((p1 + p3) / 2) (((p1 + p3) / 2) + p2) p1 p2 ((((p1 + p3) / 2) + p2) - 1)).1)) then
       bif (decide ((Q5 n0 p0 p1 p2 p3 ((Int.toNat (p2 - p1)) + 1) ((p1 + p3) / 2) (((p1 + p3) / 2) + p2) p1 p2 ((((p1 + p3) / 2) + p2) - 1)).1 < ((Q5 n0 p0 p1 p2 p3 ((Int.toNat (p2 - p1)) + 1) ((p1 + p3) / 2) (((p1 + p3) / 2) + p2) p1 p2 ((((p1 + p3) / 2) + p2) - 1)).2.1 - (Q5 n0 p0 p1 p2 p3 ((Int.toNat (p2 - p1)) + 1) ((p1 + p3) / 2) (((p1 + p3) / 2) + p2) p1 p2 ((((p1 + p3) / 2) + p2) - 1)).2.2))) then
        bif (decide (((Q5 n0 p0 p1 p2 p3 ((Int.toNat (p2 - p1)) + 1) ((p1 + p3) / 2) (((p1 + p3) / 2) + p2) p1 p2 ((((p1 + p3) / 2) + p2) - 1)).2.1 - (Q5 n0 p0 p1 p2 p3 ((Int.toNat (p2 - p1)) + 1) ((p1 + p3) / 2) (((p1 + p3) / 2) + p2) p1 p2 ((((p1 + p3) / 2) + p2) - 1)).2.2) < p3)) then
         (Q6 k n0 (Q6 k n0 p0 p1 (Q5 n0 p0 p1 p2 p3 ((Int.toNat (p2 - p1)) + 1) ((p1 + p3) / 2) (((p1 + p3) / 2) + p2) p1 p2 ((((p1 + p3) / 2) + p2) - 1)).2.2 (Q5 n0 p0 p1 p2 p3 ((Int.toNat (p2 - p1)) + 1) ((p1 + p3) / 2) (((p1 + p3) / 2) + p2) p1 p2 ((((p1 + p3) / 2) + p2) - 1)).1) (Q5 n0 p0 p1 p2 p3 ((Int.toNat (p2 - p1)) + 1) ((p1 + p3) / 2) (((p1 + p3) / 2) + p2) p1 p2 ((((p1 + p3) / 2) + p2) - 1)).1 ((Q5 n0 p0 p1 p2 p3 ((Int.toNat (p2 - p1)) + 1) ((p1 + p3) / 2) (((p1 + p3) / 2) + p2) p1 p2 ((((p1 + p3) / 2) + p2) - 1)).2.1 - (Q5 n0 p0 p1 p2 p3 ((Int.toNat (p2 - p1)) + 1) ((p1 + p3) / 2) (((p1 + p3) / 2) + p2) p1 p2 ((((p1 + p3) / 2) + p2) - 1)).2.2) p3)
        else
         (Q6 k n0 p0 p1 (Q5 n0 p0 p1 p2 p3 ((Int.toNat (p2 - p1)) + 1) ((p1 + p3) / 2) (((p1 + p3) / 2) + p2) p1 p2 ((((p1 + p3) / 2) + p2) - 1)).2.2 (Q5 n0 p0 p1 p2 p3 ((Int.toNat (p2 - p1)) + 1) ((p1 + p3) / 2) (((p1 + p3) / 2) + p2) p1 p2 ((((p1 + p3) / 2) + p2) - 1)).1)
       else
        (Q6 k n0 p0 p1 (Q5 n0 p0 p1 p2 p3 ((Int.toNat (p2 - p1)) + 1) ((p1 + p3) / 2) (((p1 + p3) / 2) + p2) p1 p2 ((((p1 + p3) / 2) + p2) - 1)).2.2 (Q5 n0 p0 p1 p2 p3 ((Int.toNat (p2 - p1)) + 1) ((p1 + p3) / 2) (((p1 + p3) / 2) + p2) p1 p2 ((((p1 + p3) / 2) + p2) - 1)).1)
      else
       bif (decide ((Q5 n0 p0 p1 p2 p3 ((Int.toNat (p2 - p1)) + 1) ((p1 + p3) / 2) (((p1 + p3) / 2) + p2) p1 p2 ((((p1 + p3) / 2) + p2) - 1)).1 < ((Q5 n0 p0 p1 p2 p3 ((Int.toNat (p2 - p1)) + 1) ((p1 + p3) / 2) (((p1 + p3) / 2) + p2) p1 p2 ((((p1 + p3) / 2) + p2) - 1)).2.1 - (Q5 n0 p0 p1 p2 p3 ((Int.toNat (p2 - p1)) + 1) ((p1 + p3) / 2) (((p1 + p3) / 2) + p2) p1 p2 ((((p1 + p3) / 2) + p2) - 1)).2.2))) then
        bif (decide (((Q5 n0 p0 p1 p2 p3 ((Int.toNat (p2 - p1)) + 1) ((p1 + p3) / 2) (((p1 + p3) / 2) + p2) p1 p2 ((((p1 + p3) / 2) + p2) - 1)).2.1 - (Q5 n0 p0 p1 p2 p3 ((Int.toNat (p2 - p1)) + 1) ((p1 + p3) / 2) (((p1 + p3) / 2) + p2) p1 p2 ((((p1 + p3) / 2) + p2) - 1)).2.2) < p3)) then
         (Q6 k n0 p0 (Q5 n0 p0 p1 p2 p3 ((Int.toNat (p2 - p1)) + 1) ((p1 + p3) / 2) (((p1 + p3) / 2) + p2) p1 p2 ((((p1 + p3) / 2) + p2) - 1)).1 ((Q5 n0 p0 p1 p2 p3 ((Int.toNat (p2 - p1)) + 1) ((p1 + p3) / 2) (((p1 + p3) / 2) + p2) p1 p2 ((((p1 + p3) / 2) + p2) - 1)).2.1 - (Q5 n0 p0 p1 p2 p3 ((Int.toNat (p2 - p1)) + 1) ((p1 + p3) / 2) (((p1 + p3) / 2) + p2) p1 p2 ((((p1 + p3) / 2) + p2) - 1)).2.2) p3)
        else
         p0
       else
        p0
     else
      bif (decide ((Q5 n0 p0 p1 p2 p3 ((Int.toNat (p2 - p1)) + 1) ((p1 + p3) / 2) (((p1 + p3) / 2) + p2) p1 p2 ((((p1 + p3) / 2) + p2) - 1)).1 < ((Q5 n0 p0 p1 p2 p3 ((Int.toNat (p2 - p1)) + 1) ((p1 + p3) / 2) (((p1 + p3) / 2) + p2) p1 p2 ((((p1 + p3) / 2) + p2) - 1)).2.1 - (Q5 n0 p0 p1 p2 p3 ((Int.toNat (p2 - p1)) + 1) ((p1 + p3) / 2) (((p1 + p3) / 2) + p2) p1 p2 ((((p1 + p3) / 2) + p2) - 1)).2.2))) then
       bif (decide (((Q5 n0 p0 p1 p2 p3 ((Int.toNat (p2 - p1)) + 1) ((p1 + p3) / 2) (((p1 + p3) / 2) + p2) p1 p2 ((((p1 + p3) / 2) + p2) - 1)).2.1 - (Q5 n0 p0 p1 p2 p3 ((Int.toNat (p2 - p1)) + 1) ((p1 + p3) / 2) (((p1 + p3) / 2) + p2) p1 p2 ((((p1 + p3) / 2) + p2) - 1)).2.2) < p3)) then
        (Q6 k n0 p0 (Q5 n0 p0 p1 p2 p3 ((Int.toNat (p2 - p1)) + 1) ((p1 + p3) / 2) (((p1 + p3) / 2) + p2) p1 p2 ((((p1 + p3) / 2) + p2) - 1)).1 ((Q5 n0 p0 p1 p2 p3 ((Int.toNat (p2 - p1)) + 1) ((p1 + p3) / 2) (((p1 + p3) / 2) + p2) p1 p2 ((((p1 + p3) / 2) + p2) - 1)).2.1 - (Q5 n0 p0 p1 p2 p3 ((Int.toNat (p2 - p1)) + 1) ((p1 + p3) / 2) (((p1 + p3) / 2) + p2) p1 p2 ((((p1 + p3) / 2) + p2) - 1)).2.2) p3)
       else
        p0
      else
       p0
def Q1k (n0 : Nat) (p0 : List Fld) (p1 : Int) (p2 : Int) (p3 : Int) : En := .call 71 [.ms 0 6 0 n0, .int .i64 p1, .int .i64 p2, .int .i64 p3, .fn 51 [] []] [⟨6, 0, false, (Fld.rows p0).flatten⟩]
def Qgq (k : Nat) (n0 : Nat) (p0 : List Fld) (p1 : Int) (p2 : Int) (p3 : Int) : Rs := .ret (.tup []) [⟨6, 0, false, (Fld.rows (Q6 k n0 p0 p1 p2 p3)).flatten⟩]
theorem Q8 : ∀ (k : Nat) (n0 : Nat) (p0 : List Fld) (p1 : Int) (p2 : Int) (p3 : Int), List.length p0 = n0 → List.length (Q6 k n0 p0 p1 p2 p3) = n0
 | 0, _, _, _, _, _, hn => by rw [Q6]; exact hn
 | k + 1, n0, p0, p1, p2, p3, hn => by
  rw [Q6]
  cases h0 : ((p2 - p1) == 1) with
  | true =>
   obtain ⟨R2, eR2⟩ : ∃ R, (Q1w n0 p0 p1 p2 p3 ((Int.toNat (p3 - p2)) + 1) p2 p3) = R := ⟨_, rfl⟩
   rw [eR2]
   have hz2_0 : List.length (Q26 n0 ((Int.toNat (R2 - p1)) + 1) R2 p0 p1) = n0 := Q6a n0 ((Int.toNat (R2 - p1)) + 1) R2 p0 p1 hn
   obtain ⟨R3, eR3⟩ : ∃ R, (Q26 n0 ((Int.toNat (R2 - p1)) + 1) R2 p0 p1) = R := ⟨_, rfl⟩
   rw [eR3] at hz2_0 ⊢
   exact hz2_0
  | false =>
   cases h1 : ((p3 - p2) == 1) with
   | true =>
    obtain ⟨R4, eR4⟩ : ∃ R, (Q1x n0 p0 p1 p2 ((Int.toNat (p2 - p1)) + 1) p2 p1) = R := ⟨_, rfl⟩
    rw [eR4]
    have hz3_0 : List.length (Q28 n0 ((Int.toNat (p2 - R4)) + 1) R4 p0 p2) = n0 := Q67 n0 ((Int.toNat (p2 - R4)) + 1) R4 p0 p2 hn
    obtain ⟨R5, eR5⟩ : ∃ R, (Q28 n0 ((Int.toNat (p2 - R4)) + 1) R4 p0 p2) = R := ⟨_, rfl⟩
    rw [eR5] at hz3_0 ⊢
    exact hz3_0
   | false =>
    cases h2 : (decide (((p1 + p3) / 2) < p2)) with
    | true =>
     obtain ⟨R6, eR6⟩ : ∃ R, (Q5 n0 p0 p1 p2 p3 ((Int.toNat (((p1 + p3) / 2) - ((((p1 + p3) / 2) + p2) - p3))) + 1) ((p1 + p3) / 2) (((p1 + p3) / 2) + p2) ((((p1 + p3) / 2) + p2) - p3) ((p1 + p3) / 2) ((((p1 + p3) / 2) + p2) - 1)) = R := ⟨_, rfl⟩
     rw [eR6]
     cases h3 : (decide (R6.2.2 < p2)) with
     | true =>
      cases h4 : (decide (p2 < (R6.2.1 - R6.2.2))) with
      | true =>
       cases h5 : (decide (p1 < R6.2.2)) with
       | true =>
        cases h6 : (decide (R6.2.2 < R6.1)) with
        | true =>
         cases h7 : (decide (R6.1 < (R6.2.1 - R6.2.2))) with
         | true =>
          cases h8 : (decide ((R6.2.1 - R6.2.2) < p3)) with
          | true =>
           exact (Q8 k n0 (Q6 k n0 (Q7 n0 p0 R6.2.2 p2 (R6.2.1 - R6.2.2)) p1 R6.2.2 R6.1) R6.1 (R6.2.1 - R6.2.2) p3 (Q8 k n0 (Q7 n0 p0 R6.2.2 p2 (R6.2.1 - R6.2.2)) p1 R6.2.2 R6.1 (Qe n0 p0 R6.2.2 p2 (R6.2.1 - R6.2.2) hn)))
          | false =>
           exact (Q8 k n0 (Q7 n0 p0 R6.2.2 p2 (R6.2.1 - R6.2.2)) p1 R6.2.2 R6.1 (Qe n0 p0 R6.2.2 p2 (R6.2.1 - R6.2.2) hn))
         | false =>
          exact (Q8 k n0 (Q7 n0 p0 R6.2.2 p2 (R6.2.1 - R6.2.2)) p1 R6.2.2 R6.1 (Qe n0 p0 R6.2.2 p2 (R6.2.1 - R6.2.2) hn))
        | false =>
         cases h7 : (decide (R6.1 < (R6.2.1 - R6.2.2))) with
         | true =>
          cases h8 : (decide ((R6.2.1 - R6.2.2) < p3)) with
          | true =>
           exact (Q8 k n0 (Q7 n0 p0 R6.2.2 p2 (R6.2.1 - R6.2.2)) R6.1 (R6.2.1 - R6.2.2) p3 (Qe n0 p0 R6.2.2 p2 (R6.2.1 - R6.2.2) hn))
          | false =>
           exact (Qe n0 p0 R6.2.2 p2 (R6.2.1 - R6.2.2) hn)
         | false =>
          exact (Qe n0 p0 R6.2.2 p2 (R6.2.1 - R6.2.2) hn)
       | false =>
        cases h6 : (decide (R6.1 < (R6.2.1 - R6.2.2))) with
        | true =>
         cases h7 : (decide ((R6.2.1 - R6.2.2) < p3)) with
         | true =>
          exact (Q8 k n0 (Q7 n0 p0 R6.2.2 p2 (R6.2.1 - R6.2.2)) R6.1 (R6.2.1 - R6.2.2) p3 (Qe n0 p0 R6.2.2 p2 (R6.2.1 - R6.2.2) hn))
         | false =>
          exact (Qe n0 p0 R6.2.2 p2 (R6.2.1 - R6.2.2) hn)
        | false =>
         exact (Qe n0 p0 R6.2.2 p2 (R6.2.1 - R6.2.2) hn)
      | false =>
       cases h5 : (decide (p1 < R6.2.2)) with
       | true =>
        cases h6 : (decide (R6.2.2 < R6.1)) with
        | true =>
         cases h7 : (decide (R6.1 < (R6.2.1 - R6.2.2))) with
         | true =>
          cases h8 : (decide ((R6.2.1 - R6.2.2) < p3)) with
          | true =>
           exact (Q8 k n0 (Q6 k n0 p0 p1 R6.2.2 R6.1) R6.1 (R6.2.1 - R6.2.2) p3 (Q8 k n0 p0 p1 R6.2.2 R6.1 hn))
          | false =>
           exact (Q8 k n0 p0 p1 R6.2.2 R6.1 hn)
         | false =>
          exact (Q8 k n0 p0 p1 R6.2.2 R6.1 hn)
        | false =>
         cases h7 : (decide (R6.1 < (R6.2.1 - R6.2.2))) with
         | true =>
          cases h8 : (decide ((R6.2.1 - R6.2.2) < p3)) with
          | true =>
           exact (Q8 k n0 p0 R6.1 (R6.2.1 - R6.2.2) p3 hn)
          | false =>
           exact hn
         | false =>
          exact hn
       | false =>
        cases h6 : (decide (R6.1 < (R6.2.1 - R6.2.2))) with
        | true =>
         cases h7 : (decide ((R6.2.1 - R6.2.2) < p3)) with
         | true =>
          exact (Q8 k n0 p0 R6.1 (R6.2.1 - R6.2.2) p3 hn)
         | false =>
          exact hn
        | false =>
         exact hn
     | false =>
      cases h4 : (decide (p1 < R6.2.2)) with
      | true =>
       cases h5 : (decide (R6.2.2 < R6.1)) with
       | true =>
        cases h6 : (decide (R6.1 < (R6.2.1 - R6.2.2))) with
        | true =>
         cases h7 : (decide ((R6.2.1 - R6.2.2) < p3)) with
         | true =>
          exact (Q8 k n0 (Q6 k n0 p0 p1 R6.2.2 R6.1) R6.1 (R6.2.1 - R6.2.2) p3 (Q8 k n0 p0 p1 R6.2.2 R6.1 hn))
         | false =>
          exact (Q8 k n0 p0 p1 R6.2.2 R6.1 hn)
        | false =>
         exact (Q8 k n0 p0 p1 R6.2.2 R6.1 hn)
       | false =>
        cases h6 : (decide (R6.1 < (R6.2.1 - R6.2.2))) with
        | true =>
         cases h7 : (decide ((R6.2.1 - R6.2.2) < p3)) with
         | true =>
          exact (Q8 k n0 p0 R6.1 (R6.2.1 - R6.2.2) p3 hn)
         | false =>
          exact hn
        | false =>
         exact hn
      | false =>
       cases h5 : (decide (R6.1 < (R6.2.1 - R6.2.2))) with
       | true =>
        cases h6 : (decide ((R6.2.1 - R6.2.2) < p3)) with
        | true =>
         exact (Q8 k n0 p0 R6.1 (R6.2.1 - R6.2.2) p3 hn)
        | false =>
         exact hn
       | false =>
        exact hn
    | false =>
     obtain ⟨R7, eR7⟩ : ∃ R, (Q5 n0 p0 p1 p2 p3 ((Int.toNat (p2 - p1)) + 1) ((p1 + p3) / 2) (((p1 + p3) / 2) + p2) p1 p2 ((((p1 + p3) / 2) + p2) - 1)) = R := ⟨_, rfl⟩
     rw [eR7]
     cases h3 : (decide (R7.2.2 < p2)) with
     | true =>
      cases h4 : (decide (p2 < (R7.2.1 - R7.2.2))) with
      | true =>
       cases h5 : (decide (p1 < R7.2.2)) with
       | true =>
        cases h6 : (decide (R7.2.2 < R7.1)) with
        | true =>
         cases h7 : (decide (R7.1 < (R7.2.1 - R7.2.2))) with
         | true =>
          cases h8 : (decide ((R7.2.1 - R7.2.2) < p3)) with
          | true =>
           exact (Q8 k n0 (Q6 k n0 (Q7 n0 p0 R7.2.2 p2 (R7.2.1 - R7.2.2)) p1 R7.2.2 R7.1) R7.1 (R7.2.1 - R7.2.2) p3 (Q8 k n0 (Q7 n0 p0 R7.2.2 p2 (R7.2.1 - R7.2.2)) p1 R7.2.2 R7.1 (Qe n0 p0 R7.2.2 p2 (R7.2.1 - R7.2.2) hn)))
          | false =>
           exact (Q8 k n0 (Q7 n0 p0 R7.2.2 p2 (R7.2.1 - R7.2.2)) p1 R7.2.2 R7.1 (Qe n0 p0 R7.2.2 p2 (R7.2.1 - R7.2.2) hn))
         | false =>
          exact (Q8 k n0 (Q7 n0 p0 R7.2.2 p2 (R7.2.1 - R7.2.2)) p1 R7.2.2 R7.1 (Qe n0 p0 R7.2.2 p2 (R7.2.1 - R7.2.2) hn))
        | false =>
         cases h7 : (decide (R7.1 < (R7.2.1 - R7.2.2))) with
         | true =>
          cases h8 : (decide ((R7.2.1 - R7.2.2) < p3)) with
          | true =>
           exact (Q8 k n0 (Q7 n0 p0 R7.2.2 p2 (R7.2.1 - R7.2.2)) R7.1 (R7.2.1 - R7.2.2) p3 (Qe n0 p0 R7.2.2 p2 (R7.2.1 - R7.2.2) hn))
          | false =>
           exact (Qe n0 p0 R7.2.2 p2 (R7.2.1 - R7.2.2) hn)
         | false =>
          exact (Qe n0 p0 R7.2.2 p2 (R7.2.1 - R7.2.2) hn)
       | false =>
        cases h6 : (decide (R7.1 < (R7.2.1 - R7.2.2))) with
        | true =>
         cases h7 : (decide ((R7.2.1 - R7.2.2) < p3)) with
         | true =>
          exact (Q8 k n0 (Q7 n0 p0 R7.2.2 p2 (R7.2.1 - R7.2.2)) R7.1 (R7.2.1 - R7.2.2) p3 (Qe n0 p0 R7.2.2 p2 (R7.2.1 - R7.2.2) hn))
         | false =>
          exact (Qe n0 p0 R7.2.2 p2 (R7.2.1 - R7.2.2) hn)
        | false =>
         exact (Qe n0 p0 R7.2.2 p2 (R7.2.1 - R7.2.2) hn)
      | false =>
       cases h5 : (decide (p1 < R7.2.2)) with
       | true =>
        cases h6 : (decide (R7.2.2 < R7.1)) with
        | true =>
         cases h7 : (decide (R7.1 < (R7.2.1 - R7.2.2))) with
         | true =>
          cases h8 : (decide ((R7.2.1 - R7.2.2) < p3)) with
          | true =>
           exact (Q8 k n0 (Q6 k n0 p0 p1 R7.2.2 R7.1) R7.1 (R7.2.1 - R7.2.2) p3 (Q8 k n0 p0 p1 R7.2.2 R7.1 hn))
          | false =>
           exact (Q8 k n0 p0 p1 R7.2.2 R7.1 hn)
         | false =>
          exact (Q8 k n0 p0 p1 R7.2.2 R7.1 hn)
        | false =>
         cases h7 : (decide (R7.1 < (R7.2.1 - R7.2.2))) with
         | true =>
          cases h8 : (decide ((R7.2.1 - R7.2.2) < p3)) with
          | true =>
           exact (Q8 k n0 p0 R7.1 (R7.2.1 - R7.2.2) p3 hn)
          | false =>
           exact hn
         | false =>
          exact hn
       | false =>
        cases h6 : (decide (R7.1 < (R7.2.1 - R7.2.2))) with
        | true =>
         cases h7 : (decide ((R7.2.1 - R7.2.2) < p3)) with
         | true =>
          exact (Q8 k n0 p0 R7.1 (R7.2.1 - R7.2.2) p3 hn)
         | false =>
          exact hn
        | false =>
         exact hn
     | false =>
      cases h4 : (decide (p1 < R7.2.2)) with
      | true =>
       cases h5 : (decide (R7.2.2 < R7.1)) with
       | true =>
        cases h6 : (decide (R7.1 < (R7.2.1 - R7.2.2))) with
        | true =>
         cases h7 : (decide ((R7.2.1 - R7.2.2) < p3)) with
         | true =>
          exact (Q8 k n0 (Q6 k n0 p0 p1 R7.2.2 R7.1) R7.1 (R7.2.1 - R7.2.2) p3 (Q8 k n0 p0 p1 R7.2.2 R7.1 hn))
         | false =>
          exact (Q8 k n0 p0 p1 R7.2.2 R7.1 hn)
        | false =>
         exact (Q8 k n0 p0 p1 R7.2.2 R7.1 hn)
       | false =>
        cases h6 : (decide (R7.1 < (R7.2.1 - R7.2.2))) with
        | true =>
         cases h7 : (decide ((R7.2.1 - R7.2.2) < p3)) with
         | true =>
          exact (Q8 k n0 p0 R7.1 (R7.2.1 - R7.2.2) p3 hn)
         | false =>
          exact hn
        | false =>
         exact hn
      | false =>
       cases h5 : (decide (R7.1 < (R7.2.1 - R7.2.2))) with
       | true =>
        cases h6 : (decide ((R7.2.1 - R7.2.2) < p3)) with
        | true =>
         exact (Q8 k n0 p0 R7.1 (R7.2.1 - R7.2.2) p3 hn)
        | false =>
         exact hn
       | false =>
        exact hn
abbrev Q16 (k : Nat) : Prop := ∀ (n0 : Nat) (p0 : List Fld) (p1 : Int) (p2 : Int) (p3 : Int), List.length p0 = n0 → 0 ≤ p1 ∧ p1 < p2 ∧ p2 < p3 ∧ p3 ≤ n0 ∧ (n0 : Int) ≤ 1152921504606846976 → Int.toNat (p3 - p1) < k → Qb G (Q1k n0 p0 p1 p2 p3) (Qgq k n0 p0 p1 p2 p3)
theorem Qk2 (k : Nat) (_ih : Q16 k) (n0 : Nat) (p0 : List Fld) (p1 : Int) (p2 : Int) (p3 : Int) (_hn : List.length p0 = n0) (_hq0 : 0 ≤ p1 ∧ p1 < p2 ∧ p2 < p3 ∧ p3 ≤ n0 ∧ (n0 : Int) ≤ 1152921504606846976) (_hm : Int.toNat (p3 - p1) < k + 1) (h0 : ((p2 - p1) == 1) = true) (y2_0 : Int) (_hy1 : p2 ≤ y2_0 ∧ y2_0 ≤ p3) (z1 : Nat → PV) (zo1 : Nat → List PV) (hl1 : Qb G (Q4m n0 p0 p1 p2 p3 p2 p3) (.st (.exit 0) (Q7y n0 p0 p1 p2 p3 y2_0 z1 zo1))) (y3_0 : List Fld) (_hz2_0 : List.length y3_0 = n0) (z2 : Nat → PV) (zo2 : Nat → List PV) (hl2 : Qb G (Q6y n0 y2_0 p0 p1) (.st (.exit 2) (Q7s n0 y3_0 z2 zo2))) : Qb G (Q1k n0 p0 p1 p2 p3) (.ret (.tup []) [⟨6, 0, false, (Fld.rows (y3_0)).flatten⟩]) := by
 have e0 := eq_of_beq h0
 exact Qc (fn := Ir.K17) rfl (vk1 (Fld.Q0 p0 6 rfl)) [hP 2 (w_ok (p2 - p1) (by omega)), hB 0 h0, hS 0 false (Fld.Q0 p0 6 rfl), hS 0 false (Fld.Q0 y3_0 6 rfl)] [aV [(0, Fld.rows p0)] hl1, aV [(0, Fld.rows y3_0)] hl2] (by kernel_rfl)
theorem Qk3 (k : Nat) (_ih : Q16 k) (n0 : Nat) (p0 : List Fld) (p1 : Int) (p2 : Int) (p3 : Int) (hn : List.length p0 = n0) (hq0 : 0 ≤ p1 ∧ p1 < p2 ∧ p2 < p3 ∧ p3 ≤ n0 ∧ (n0 : Int) ≤ 1152921504606846976) (_hm : Int.toNat (p3 - p1) < k + 1) (h0 : ((p2 - p1) == 1) = false) (h1 : ((p3 - p2) == 1) = true) (y4_0 : Int) (_hy2 : p1 ≤ y4_0 ∧ y4_0 ≤ p2) (z2 : Nat → PV) (zo2 : Nat → List PV) (hl2 : Qb G (Q4w n0 p0 p1 p2 p2 p1) (.st (.exit 4) (Q7j n0 p0 p1 p2 y4_0 z2 zo2))) (y5_0 : List Fld) (hz3_0 : List.length y5_0 = n0) (z3 : Nat → PV) (zo3 : Nat → List PV) (hl3 : Qb G (Q71 n0 y4_0 p0 p2) (.st (.exit 6) (Q7i n0 y5_0 z3 zo3))) : Qb G (Q1k n0 p0 p1 p2 p3) (.ret (.tup []) [⟨6, 0, false, (Fld.rows (y5_0)).flatten⟩]) := by
 have e0 := beq_eq_false_iff_ne.1 h0; have e1 := eq_of_beq h1
 exact Qc (fn := Ir.K17) rfl (vk1 (Fld.Q0 p0 6 rfl)) [hP 2 (w_ok (p2 - p1) (by omega)), hB 0 h0, hP 2 (w_ok (p3 - p2) (by omega)), hB 0 h1, hS 0 false (Fld.Q0 p0 6 rfl), hS 0 false (Fld.Q0 y5_0 6 rfl)] [aV [(0, Fld.rows p0)] hl2, aV [(0, Fld.rows y5_0)] hl3] (by kernel_rfl)
theorem Qko (k : Nat) (ih : Q16 k) (n0 : Nat) (p0 : List Fld) (p1 : Int) (p2 : Int) (p3 : Int) (hn : List.length p0 = n0) (hq0 : 0 ≤ p1 ∧ p1 < p2 ∧ p2 < p3 ∧ p3 ≤ n0 ∧ (n0 : Int) ≤ 1152921504606846976) (hm : Int.toNat (p3 - p1) < k + 1) (h0 : ((p2 - p1) == 1) = false) (h1 : ((p3 - p2) == 1) = false) (h2 : (decide (((p1 + p3) / 2) < p2)) = true) (y6_0 : Int) (y6_1 : Int) (y6_2 : Int) (hy3 : y6_0 = ((p1 + p3) / 2) ∧ y6_1 = (((p1 + p3) / 2) + p2) ∧ p1 ≤ y6_2 ∧ y6_2 ≤ p2 ∧ y6_1 - y6_2 ≤ p3) (z3 : Nat → PV) (zo3 : Nat → List PV) (hl3 : Qb G (Q1l n0 p0 p1 p2 p3 ((p1 + p3) / 2) (((p1 + p3) / 2) + p2) ((((p1 + p3) / 2) + p2) - p3) ((p1 + p3) / 2) ((((p1 + p3) / 2) + p2) - 1)) (.st (.exit 8) (Q1f n0 p0 p1 p2 p3 y6_0 y6_1 y6_2 z3 zo3))) (h3 : (decide (y6_2 < p2)) = true) (h4 : (decide (p2 < (y6_1 - y6_2))) = true) (h5 : (decide (p1 < y6_2)) = true) : Qb G (Q1k n0 p0 p1 p2 p3) (.ret (.tup []) [⟨6, 0, false, (Fld.rows (bif (decide (y6_2 < y6_0)) then
   bif (decide (y6_0 < (y6_1 - y6_2))) then
     bif (decide ((y6_1 - y6_2) < p3)) then
      (Q6 k n0 (Q6 k n0 (Q7 n0 p0 y6_2 p2 (y6_1 - y6_2)) p1 y6_2 y6_0) y6_0 (y6_1 - y6_2) p3)
     else
      (Q6 k n0 (Q7 n0 p0 y6_2 p2 (y6_1 - y6_2)) p1 y6_2 y6_0)
   else
     (Q6 k n0 (Q7 n0 p0 y6_2 p2 (y6_1 - y6_2)) p1 y6_2 y6_0)
 else
   bif (decide (y6_0 < (y6_1 - y6_2))) then
     bif (decide ((y6_1 - y6_2) < p3)) then
      (Q6 k n0 (Q7 n0 p0 y6_2 p2 (y6_1 - y6_2)) y6_0 (y6_1 - y6_2) p3)
     else
      (Q7 n0 p0 y6_2 p2 (y6_1 - y6_2))
   else
     (Q7 n0 p0 y6_2 p2 (y6_1 - y6_2)))).flatten⟩]) := by
 have e0 := beq_eq_false_iff_ne.1 h0; have e1 := beq_eq_false_iff_ne.1 h1; have e2 := of_decide_eq_true h2; have e3 := of_decide_eq_true h3; have e4 := of_decide_eq_true h4; have e5 := of_decide_eq_true h5
 cases h6 : (decide (y6_2 < y6_0)) with
 | true =>
  have e6 := of_decide_eq_true h6
  cases h7 : (decide (y6_0 < (y6_1 - y6_2))) with
  | true =>
   have e7 := of_decide_eq_true h7
   cases h8 : (decide ((y6_1 - y6_2) < p3)) with
   | true =>
    have e8 := of_decide_eq_true h8
    exact Qc (fn := Ir.K17) rfl (vk1 (Fld.Q0 p0 6 rfl)) [hP 2 (w_ok (p2 - p1) (by omega)), hB 0 h0, hP 2 (w_ok (p3 - p2) (by omega)), hB 0 h1, hP 2 (w_ok (p1 + p3) (by omega)), hP 0 (Qv (p1 + p3) (by omega)), hP 0 (Q17 (p1 + p3)), hP 0 (Qw ((p1 + p3) / 2) (by omega)), hP 3 (w_ok (((p1 + p3) / 2) + p2) (by omega)), hB 5 h2, hP 2 (w_ok ((((p1 + p3) / 2) + p2) - p3) (by omega)), hP 4 (w_ok ((((p1 + p3) / 2) + p2) - 1) (by omega)), hS 0 false (Fld.Q0 p0 6 rfl), hP 3 (w_ok (y6_1 - y6_2) (by have g0 := hy3; omega)), hB 3 h3, hB 3 h4, hQ (Fld.Q0 (Q7 n0 p0 y6_2 p2 (y6_1 - y6_2)) 6 rfl), hB 9 h5, hB 3 h6, hQ (Fld.Q0 (Q6 k n0 (Q7 n0 p0 y6_2 p2 (y6_1 - y6_2)) p1 y6_2 y6_0) 6 rfl), hB 9 h7, hB 3 h8, hQ (Fld.Q0 (Q6 k n0 (Q6 k n0 (Q7 n0 p0 y6_2 p2 (y6_1 - y6_2)) p1 y6_2 y6_0) y6_0 (y6_1 - y6_2) p3) 6 rfl)] [aV [(0, Fld.rows p0)] hl3, aV [(0, Fld.rows (Q7 n0 p0 y6_2 p2 (y6_1 - y6_2)))] (Q1b n0 p0 y6_2 p2 (y6_1 - y6_2) hn (by have g0 := hy3; omega)), aV [(0, Fld.rows (Q6 k n0 (Q7 n0 p0 y6_2 p2 (y6_1 - y6_2)) p1 y6_2 y6_0))] (ih n0 (Q7 n0 p0 y6_2 p2 (y6_1 - y6_2)) p1 y6_2 y6_0 (Qe n0 p0 y6_2 p2 (y6_1 - y6_2) hn) (by have f0 := (Qe n0 p0 y6_2 p2 (y6_1 - y6_2) hn); have g0 := hy3; omega) (by have f0 := (Qe n0 p0 y6_2 p2 (y6_1 - y6_2) hn); have g0 := hy3; omega)), aV [(0, Fld.rows (Q6 k n0 (Q6 k n0 (Q7 n0 p0 y6_2 p2 (y6_1 - y6_2)) p1 y6_2 y6_0) y6_0 (y6_1 - y6_2) p3))] (ih n0 (Q6 k n0 (Q7 n0 p0 y6_2 p2 (y6_1 - y6_2)) p1 y6_2 y6_0) y6_0 (y6_1 - y6_2) p3 (Q8 k n0 (Q7 n0 p0 y6_2 p2 (y6_1 - y6_2)) p1 y6_2 y6_0 (Qe n0 p0 y6_2 p2 (y6_1 - y6_2) hn)) (by have f0 := (Q8 k n0 (Q7 n0 p0 y6_2 p2 (y6_1 - y6_2)) p1 y6_2 y6_0 (Qe n0 p0 y6_2 p2 (y6_1 - y6_2) hn)); have g0 := hy3; omega) (by have f0 := (Q8 k n0 (Q7 n0 p0 y6_2 p2 (y6_1 - y6_2)) p1 y6_2 y6_0 (Qe n0 p0 y6_2 p2 (y6_1 - y6_2) hn)); have g0 := hy3; omega))] (by kernel_rfl)
   | false =>
    have e8 := of_decide_eq_false h8
    exact Qc (fn := Ir.K17) rfl (vk1 (Fld.Q0 p0 6 rfl)) [hP 2 (w_ok (p2 - p1) (by omega)), hB 0 h0, hP 2 (w_ok (p3 - p2) (by omega)), hB 0 h1, hP 2 (w_ok (p1 + p3) (by omega)), hP 0 (Qv (p1 + p3) (by omega)), hP 0 (Q17 (p1 + p3)), hP 0 (Qw ((p1 + p3) / 2) (by omega)), hP 3 (w_ok (((p1 + p3) / 2) + p2) (by omega)), hB 5 h2, hP 2 (w_ok ((((p1 + p3) / 2) + p2) - p3) (by omega)), hP 4 (w_ok ((((p1 + p3) / 2) + p2) - 1) (by omega)), hS 0 false (Fld.Q0 p0 6 rfl), hP 3 (w_ok (y6_1 - y6_2) (by have g0 := hy3; omega)), hB 3 h3, hB 3 h4, hQ (Fld.Q0 (Q7 n0 p0 y6_2 p2 (y6_1 - y6_2)) 6 rfl), hB 9 h5, hB 3 h6, hQ (Fld.Q0 (Q6 k n0 (Q7 n0 p0 y6_2 p2 (y6_1 - y6_2)) p1 y6_2 y6_0) 6 rfl), hB 9 h7, hB 3 h8] [aV [(0, Fld.rows p0)] hl3, aV [(0, Fld.rows (Q7 n0 p0 y6_2 p2 (y6_1 - y6_2)))] (Q1b n0 p0 y6_2 p2 (y6_1 - y6_2) hn (by have g0 := hy3; omega)), aV [(0, Fld.rows (Q6 k n0 (Q7 n0 p0 y6_2 p2 (y6_1 - y6_2)) p1 y6_2 y6_0))] (ih n0 (Q7 n0 p0 y6_2 p2 (y6_1 - y6_2)) p1 y6_2 y6_0 (Qe n0 p0 y6_2 p2 (y6_1 - y6_2) hn) (by have f0 := (Qe n0 p0 y6_2 p2 (y6_1 - y6_2) hn); have g0 := hy3; omega) (by have f0 := (Qe n0 p0 y6_2 p2 (y6_1 - y6_2) hn); have g0 := hy3; omega))] (by kernel_rfl)
  | false =>
   have e7 := of_decide_eq_false h7
   exact Qc (fn := Ir.K17) rfl (vk1 (Fld.Q0 p0 6 rfl)) [hP 2 (w_ok (p2 - p1) (by omega)), hB 0 h0, hP 2 (w_ok (p3 - p2) (by omega)), hB 0 h1, hP 2 (w_ok (p1 + p3) (by omega)), hP 0 (Qv (p1 + p3) (by omega)), hP 0 (Q17 (p1 + p3)), hP 0 (Qw ((p1 + p3) / 2) (by omega)), hP 3 (w_ok (((p1 + p3) / 2) + p2) (by omega)), hB 5 h2, hP 2 (w_ok ((((p1 + p3) / 2) + p2) - p3) (by omega)), hP 4 (w_ok ((((p1 + p3) / 2) + p2) - 1) (by omega)), hS 0 false (Fld.Q0 p0 6 rfl), hP 3 (w_ok (y6_1 - y6_2) (by have g0 := hy3; omega)), hB 3 h3, hB 3 h4, hQ (Fld.Q0 (Q7 n0 p0 y6_2 p2 (y6_1 - y6_2)) 6 rfl), hB 9 h5, hB 3 h6, hQ (Fld.Q0 (Q6 k n0 (Q7 n0 p0 y6_2 p2 (y6_1 - y6_2)) p1 y6_2 y6_0) 6 rfl), hB 9 h7] [aV [(0, Fld.rows p0)] hl3, aV [(0, Fld.rows (Q7 n0 p0 y6_2 p2 (y6_1 - y6_2)))] (Q1b n0 p0 y6_2 p2 (y6_1 - y6_2) hn (by have g0 := hy3; omega)), aV [(0, Fld.rows (Q6 k n0 (Q7 n0 p0 y6_2 p2 (y6_1 - y6_2)) p1 y6_2 y6_0))] (ih n0 (Q7 n0 p0 y6_2 p2 (y6_1 - y6_2)) p1 y6_2 y6_0 (Qe n0 p0 y6_2 p2 (y6_1 - y6_2) hn) (by have f0 := (Qe n0 p0 y6_2 p2 (y6_1 - y6_2) hn); have g0 := hy3; omega) (by have f0 := (Qe n0 p0 y6_2 p2 (y6_1 - y6_2) hn); have g0 := hy3; omega))] (by kernel_rfl)
 | false =>
  have e6 := of_decide_eq_false h6
  cases h7 : (decide (y6_0 < (y6_1 - y6_2))) with
  | true =>
   have e7 := of_decide_eq_true h7
   cases h8 : (decide ((y6_1 - y6_2) < p3)) with
   | true =>
    have e8 := of_decide_eq_true h8
    exact Qc (fn := Ir.K17) rfl (vk1 (Fld.Q0 p0 6 rfl)) [hP 2 (w_ok (p2 - p1) (by omega)), hB 0 h0, hP 2 (w_ok (p3 - p2) (by omega)), hB 0 h1, hP 2 (w_ok (p1 + p3) (by omega)), hP 0 (Qv (p1 + p3) (by omega)), hP 0 (Q17 (p1 + p3)), hP 0 (Qw ((p1 + p3) / 2) (by omega)), hP 3 (w_ok (((p1 + p3) / 2) + p2) (by omega)), hB 5 h2, hP 2 (w_ok ((((p1 + p3) / 2) + p2) - p3) (by omega)), hP 4 (w_ok ((((p1 + p3) / 2) + p2) - 1) (by omega)), hS 0 false (Fld.Q0 p0 6 rfl), hP 3 (w_ok (y6_1 - y6_2) (by have g0 := hy3; omega)), hB 3 h3, hB 3 h4, hQ (Fld.Q0 (Q7 n0 p0 y6_2 p2 (y6_1 - y6_2)) 6 rfl), hB 9 h5, hB 3 h6, hB 3 h7, hB 3 h8, hQ (Fld.Q0 (Q6 k n0 (Q7 n0 p0 y6_2 p2 (y6_1 - y6_2)) y6_0 (y6_1 - y6_2) p3) 6 rfl)] [aV [(0, Fld.rows p0)] hl3, aV [(0, Fld.rows (Q7 n0 p0 y6_2 p2 (y6_1 - y6_2)))] (Q1b n0 p0 y6_2 p2 (y6_1 - y6_2) hn (by have g0 := hy3; omega)), aV [(0, Fld.rows (Q6 k n0 (Q7 n0 p0 y6_2 p2 (y6_1 - y6_2)) y6_0 (y6_1 - y6_2) p3))] (ih n0 (Q7 n0 p0 y6_2 p2 (y6_1 - y6_2)) y6_0 (y6_1 - y6_2) p3 (Qe n0 p0 y6_2 p2 (y6_1 - y6_2) hn) (by have f0 := (Qe n0 p0 y6_2 p2 (y6_1 - y6_2) hn); have g0 := hy3; omega) (by have f0 := (Qe n0 p0 y6_2 p2 (y6_1 - y6_2) hn); have g0 := hy3; omega))] (by kernel_rfl)
   | false =>
    have e8 := of_decide_eq_false h8
    exact Qc (fn := Ir.K17) rfl (vk1 (Fld.Q0 p0 6 rfl)) [hP 2 (w_ok (p2 - p1) (by omega)), hB 0 h0, hP 2 (w_ok (p3 - p2) (by omega)), hB 0 h1, hP 2 (w_ok (p1 + p3) (by omega)), hP 0 (Qv (p1 + p3) (by omega)), hP 0 (Q17 (p1 + p3)), hP 0 (Qw ((p1 + p3) / 2) (by omega)), hP 3 (w_ok (((p1 + p3) / 2) + p2) (by omega)), hB 5 h2, hP 2 (w_ok ((((p1 + p3) / 2) + p2) - p3) (by omega)), hP 4 (w_ok ((((p1 + p3) / 2) + p2) - 1) (by omega)), hS 0 false (Fld.Q0 p0 6 rfl), hP 3 (w_ok (y6_1 - y6_2) (by have g0 := hy3; omega)), hB 3 h3, hB 3 h4, hQ (Fld.Q0 (Q7 n0 p0 y6_2 p2 (y6_1 - y6_2)) 6 rfl), hB 9 h5, hB 3 h6, hB 3 h7, hB 3 h8] [aV [(0, Fld.rows p0)] hl3, aV [(0, Fld.rows (Q7 n0 p0 y6_2 p2 (y6_1 - y6_2)))] (Q1b n0 p0 y6_2 p2 (y6_1 - y6_2) hn (by have g0 := hy3; omega))] (by kernel_rfl)
  | false =>
   have e7 := of_decide_eq_false h7
   exact Qc (fn := Ir.K17) rfl (vk1 (Fld.Q0 p0 6 rfl)) [hP 2 (w_ok (p2 - p1) (by omega)), hB 0 h0, hP 2 (w_ok (p3 - p2) (by omega)), hB 0 h1, hP 2 (w_ok (p1 + p3) (by omega)), hP 0 (Qv (p1 + p3) (by omega)), hP 0 (Q17 (p1 + p3)), hP 0 (Qw ((p1 + p3) / 2) (by omega)), hP 3 (w_ok (((p1 + p3) / 2) + p2) (by omega)), hB 5 h2, hP 2 (w_ok ((((p1 + p3) / 2) + p2) - p3) (by omega)), hP 4 (w_ok ((((p1 + p3) / 2) + p2) - 1) (by omega)), hS 0 false (Fld.Q0 p0 6 rfl), hP 3 (w_ok (y6_1 - y6_2) (by have g0 := hy3; omega)), hB 3 h3, hB 3 h4, hQ (Fld.Q0 (Q7 n0 p0 y6_2 p2 (y6_1 - y6_2)) 6 rfl), hB 9 h5, hB 3 h6, hB 3 h7] [aV [(0, Fld.rows p0)] hl3, aV [(0, Fld.rows (Q7 n0 p0 y6_2 p2 (y6_1 - y6_2)))] (Q1b n0 p0 y6_2 p2 (y6_1 - y6_2) hn (by have g0 := hy3; omega))] (by kernel_rfl)
theorem Qkq (k : Nat) (ih : Q16 k) (n0 : Nat) (p0 : List Fld) (p1 : Int) (p2 : Int) (p3 : Int) (hn : List.length p0 = n0) (hq0 : 0 ≤ p1 ∧ p1 < p2 ∧ p2 < p3 ∧ p3 ≤ n0 ∧ (n0 : Int) ≤ 1152921504606846976) (_hm : Int.toNat (p3 - p1) < k + 1) (h0 : ((p2 - p1) == 1) = false) (h1 : ((p3 - p2) == 1) = false) (h2 : (decide (((p1 + p3) / 2) < p2)) = true) (y6_0 : Int) (y6_1 : Int) (y6_2 : Int) (hy3 : y6_0 = ((p1 + p3) / 2) ∧ y6_1 = (((p1 + p3) / 2) + p2) ∧ p1 ≤ y6_2 ∧ y6_2 ≤ p2 ∧ y6_1 - y6_2 ≤ p3) (z3 : Nat → PV) (zo3 : Nat → List PV) (hl3 : Qb G (Q1l n0 p0 p1 p2 p3 ((p1 + p3) / 2) (((p1 + p3) / 2) + p2) ((((p1 + p3) / 2) + p2) - p3) ((p1 + p3) / 2) ((((p1 + p3) / 2) + p2) - 1)) (.st (.exit 8) (Q1f n0 p0 p1 p2 p3 y6_0 y6_1 y6_2 z3 zo3))) (h3 : (decide (y6_2 < p2)) = true) (h4 : (decide (p2 < (y6_1 - y6_2))) = true) (h5 : (decide (p1 < y6_2)) = false) : Qb G (Q1k n0 p0 p1 p2 p3) (.ret (.tup []) [⟨6, 0, false, (Fld.rows (bif (decide (y6_0 < (y6_1 - y6_2))) then
   bif (decide ((y6_1 - y6_2) < p3)) then
    (Q6 k n0 (Q7 n0 p0 y6_2 p2 (y6_1 - y6_2)) y6_0 (y6_1 - y6_2) p3)
   else
    (Q7 n0 p0 y6_2 p2 (y6_1 - y6_2))
 else
   (Q7 n0 p0 y6_2 p2 (y6_1 - y6_2)))).flatten⟩]) := by
 have e0 := beq_eq_false_iff_ne.1 h0; have e1 := beq_eq_false_iff_ne.1 h1; have e2 := of_decide_eq_true h2; have e3 := of_decide_eq_true h3; have e4 := of_decide_eq_true h4; have e5 := of_decide_eq_false h5
 cases h6 : (decide (y6_0 < (y6_1 - y6_2))) with
 | true =>
  have e6 := of_decide_eq_true h6
  cases h7 : (decide ((y6_1 - y6_2) < p3)) with
  | true =>
   have e7 := of_decide_eq_true h7
   exact Qc (fn := Ir.K17) rfl (vk1 (Fld.Q0 p0 6 rfl)) [hP 2 (w_ok (p2 - p1) (by omega)), hB 0 h0, hP 2 (w_ok (p3 - p2) (by omega)), hB 0 h1, hP 2 (w_ok (p1 + p3) (by omega)), hP 0 (Qv (p1 + p3) (by omega)), hP 0 (Q17 (p1 + p3)), hP 0 (Qw ((p1 + p3) / 2) (by omega)), hP 3 (w_ok (((p1 + p3) / 2) + p2) (by omega)), hB 5 h2, hP 2 (w_ok ((((p1 + p3) / 2) + p2) - p3) (by omega)), hP 4 (w_ok ((((p1 + p3) / 2) + p2) - 1) (by omega)), hS 0 false (Fld.Q0 p0 6 rfl), hP 3 (w_ok (y6_1 - y6_2) (by have g0 := hy3; omega)), hB 3 h3, hB 3 h4, hQ (Fld.Q0 (Q7 n0 p0 y6_2 p2 (y6_1 - y6_2)) 6 rfl), hB 9 h5, hB 7 h6, hB 3 h7, hQ (Fld.Q0 (Q6 k n0 (Q7 n0 p0 y6_2 p2 (y6_1 - y6_2)) y6_0 (y6_1 - y6_2) p3) 6 rfl)] [aV [(0, Fld.rows p0)] hl3, aV [(0, Fld.rows (Q7 n0 p0 y6_2 p2 (y6_1 - y6_2)))] (Q1b n0 p0 y6_2 p2 (y6_1 - y6_2) hn (by have g0 := hy3; omega)), aV [(0, Fld.rows (Q6 k n0 (Q7 n0 p0 y6_2 p2 (y6_1 - y6_2)) y6_0 (y6_1 - y6_2) p3))] (ih n0 (Q7 n0 p0 y6_2 p2 (y6_1 - y6_2)) y6_0 (y6_1 - y6_2) p3 (Qe n0 p0 y6_2 p2 (y6_1 - y6_2) hn) (by have f0 := (Qe n0 p0 y6_2 p2 (y6_1 - y6_2) hn); have g0 := hy3; omega) (by have f0 := (Qe n0 p0 y6_2 p2 (y6_1 - y6_2) hn); have g0 := hy3; omega))] (by kernel_rfl)
  | false =>
   have e7 := of_decide_eq_false h7
   exact Qc (fn := Ir.K17) rfl (vk1 (Fld.Q0 p0 6 rfl)) [hP 2 (w_ok (p2 - p1) (by omega)), hB 0 h0, hP 2 (w_ok (p3 - p2) (by omega)), hB 0 h1, hP 2 (w_ok (p1 + p3) (by omega)), hP 0 (Qv (p1 + p3) (by omega)), hP 0 (Q17 (p1 + p3)), hP 0 (Qw ((p1 + p3) / 2) (by omega)), hP 3 (w_ok (((p1 + p3) / 2) + p2) (by omega)), hB 5 h2, hP 2 (w_ok ((((p1 + p3) / 2) + p2) - p3) (by omega)), hP 4 (w_ok ((((p1 + p3) / 2) + p2) - 1) (by omega)), hS 0 false (Fld.Q0 p0 6 rfl), hP 3 (w_ok (y6_1 - y6_2) (by have g0 := hy3; omega)), hB 3 h3, hB 3 h4, hQ (Fld.Q0 (Q7 n0 p0 y6_2 p2 (y6_1 - y6_2)) 6 rfl), hB 9 h5, hB 7 h6, hB 3 h7] [aV [(0, Fld.rows p0)] hl3, aV [(0, Fld.rows (Q7 n0 p0 y6_2 p2 (y6_1 - y6_2)))] (Q1b n0 p0 y6_2 p2 (y6_1 - y6_2) hn (by have g0 := hy3; omega))] (by kernel_rfl)
 | false =>
  have e6 := of_decide_eq_false h6
  exact Qc (fn := Ir.K17) rfl (vk1 (Fld.Q0 p0 6 rfl)) [hP 2 (w_ok (p2 - p1) (by omega)), hB 0 h0, hP 2 (w_ok (p3 - p2) (by omega)), hB 0 h1, hP 2 (w_ok (p1 + p3) (by omega)), hP 0 (Qv (p1 + p3) (by omega)), hP 0 (Q17 (p1 + p3)), hP 0 (Qw ((p1 + p3) / 2) (by omega)), hP 3 (w_ok (((p1 + p3) / 2) + p2) (by omega)), hB 5 h2, hP 2 (w_ok ((((p1 + p3) / 2) + p2) - p3) (by omega)), hP 4 (w_ok ((((p1 + p3) / 2) + p2) - 1) (by omega)), hS 0 false (Fld.Q0 p0 6 rfl), hP 3 (w_ok (y6_1 - y6_2) (by have g0 := hy3; omega)), hB 3 h3, hB 3 h4, hQ (Fld.Q0 (Q7 n0 p0 y6_2 p2 (y6_1 - y6_2)) 6 rfl), hB 9 h5, hB 7 h6] [aV [(0, Fld.rows p0)] hl3, aV [(0, Fld.rows (Q7 n0 p0 y6_2 p2 (y6_1 - y6_2)))] (Q1b n0 p0 y6_2 p2 (y6_1 - y6_2) hn (by have g0 := hy3; omega))] (by kernel_rfl)
theorem Qjz (k : Nat) (ih : Q16 k) (n0 : Nat) (p0 : List Fld) (p1 : Int) (p2 : Int) (p3 : Int) (hn : List.length p0 = n0) (hq0 : 0 ≤ p1 ∧ p1 < p2 ∧ p2 < p3 ∧ p3 ≤ n0 ∧ (n0 : Int) ≤ 1152921504606846976) (hm : Int.toNat (p3 - p1) < k + 1) (h0 : ((p2 - p1) == 1) = false) (h1 : ((p3 - p2) == 1) = false) (h2 : (decide (((p1 + p3) / 2) < p2)) = true) (y6_0 : Int) (y6_1 : Int) (y6_2 : Int) (hy3 : y6_0 = ((p1 + p3) / 2) ∧ y6_1 = (((p1 + p3) / 2) + p2) ∧ p1 ≤ y6_2 ∧ y6_2 ≤ p2 ∧ y6_1 - y6_2 ≤ p3) (z3 : Nat → PV) (zo3 : Nat → List PV) (hl3 : Qb G (Q1l n0 p0 p1 p2 p3 ((p1 + p3) / 2) (((p1 + p3) / 2) + p2) ((((p1 + p3) / 2) + p2) - p3) ((p1 + p3) / 2) ((((p1 + p3) / 2) + p2) - 1)) (.st (.exit 8) (Q1f n0 p0 p1 p2 p3 y6_0 y6_1 y6_2 z3 zo3))) (h3 : (decide (y6_2 < p2)) = true) (h4 : (decide (p2 < (y6_1 - y6_2))) = false) (h5 : (decide (p1 < y6_2)) = true) : Qb G (Q1k n0 p0 p1 p2 p3) (.ret (.tup []) [⟨6, 0, false, (Fld.rows (bif (decide (y6_2 < y6_0)) then
   bif (decide (y6_0 < (y6_1 - y6_2))) then
     bif (decide ((y6_1 - y6_2) < p3)) then
      (Q6 k n0 (Q6 k n0 p0 p1 y6_2 y6_0) y6_0 (y6_1 - y6_2) p3)
     else
      (Q6 k n0 p0 p1 y6_2 y6_0)
   else
     (Q6 k n0 p0 p1 y6_2 y6_0)
 else
   bif (decide (y6_0 < (y6_1 - y6_2))) then
     bif (decide ((y6_1 - y6_2) < p3)) then
      (Q6 k n0 p0 y6_0 (y6_1 - y6_2) p3)
     else
      p0
   else
     p0)).flatten⟩]) := by
 have e0 := beq_eq_false_iff_ne.1 h0; have e1 := beq_eq_false_iff_ne.1 h1; have e2 := of_decide_eq_true h2; have e3 := of_decide_eq_true h3; have e4 := of_decide_eq_false h4; have e5 := of_decide_eq_true h5
 cases h6 : (decide (y6_2 < y6_0)) with
 | true =>
  have e6 := of_decide_eq_true h6
  cases h7 : (decide (y6_0 < (y6_1 - y6_2))) with
  | true =>
   have e7 := of_decide_eq_true h7
   cases h8 : (decide ((y6_1 - y6_2) < p3)) with
   | true =>
    have e8 := of_decide_eq_true h8
    exact Qc (fn := Ir.K17) rfl (vk1 (Fld.Q0 p0 6 rfl)) [hP 2 (w_ok (p2 - p1) (by omega)), hB 0 h0, hP 2 (w_ok (p3 - p2) (by omega)), hB 0 h1, hP 2 (w_ok (p1 + p3) (by omega)), hP 0 (Qv (p1 + p3) (by omega)), hP 0 (Q17 (p1 + p3)), hP 0 (Qw ((p1 + p3) / 2) (by omega)), hP 3 (w_ok (((p1 + p3) / 2) + p2) (by omega)), hB 5 h2, hP 2 (w_ok ((((p1 + p3) / 2) + p2) - p3) (by omega)), hP 4 (w_ok ((((p1 + p3) / 2) + p2) - 1) (by omega)), hS 0 false (Fld.Q0 p0 6 rfl), hP 3 (w_ok (y6_1 - y6_2) (by have g0 := hy3; omega)), hB 3 h3, hB 3 h4, hB 3 h5, hB 3 h6, hQ (Fld.Q0 (Q6 k n0 p0 p1 y6_2 y6_0) 6 rfl), hB 9 h7, hB 3 h8, hQ (Fld.Q0 (Q6 k n0 (Q6 k n0 p0 p1 y6_2 y6_0) y6_0 (y6_1 - y6_2) p3) 6 rfl)] [aV [(0, Fld.rows p0)] hl3, aV [(0, Fld.rows (Q6 k n0 p0 p1 y6_2 y6_0))] (ih n0 p0 p1 y6_2 y6_0 hn (by have g0 := hy3; omega) (by have g0 := hy3; omega)), aV [(0, Fld.rows (Q6 k n0 (Q6 k n0 p0 p1 y6_2 y6_0) y6_0 (y6_1 - y6_2) p3))] (ih n0 (Q6 k n0 p0 p1 y6_2 y6_0) y6_0 (y6_1 - y6_2) p3 (Q8 k n0 p0 p1 y6_2 y6_0 hn) (by have f0 := (Q8 k n0 p0 p1 y6_2 y6_0 hn); have g0 := hy3; omega) (by have f0 := (Q8 k n0 p0 p1 y6_2 y6_0 hn); have g0 := hy3; omega))] (by kernel_rfl)
   | false =>
    have e8 := of_decide_eq_false h8
    exact Qc (fn := Ir.K17) rfl (vk1 (Fld.Q0 p0 6 rfl)) [hP 2 (w_ok (p2 - p1) (by omega)), hB 0 h0, hP 2 (w_ok (p3 - p2) (by omega)), hB 0 h1, hP 2 (w_ok (p1 + p3) (by omega)), hP 0 (Qv (p1 + p3) (by omega)), hP 0 (Q17 (p1 + p3)), hP 0 (Qw ((p1 + p3) / 2) (by omega)), hP 3 (w_ok (((p1 + p3) / 2) + p2) (by omega)), hB 5 h2, hP 2 (w_ok ((((p1 + p3) / 2) + p2) - p3) (by omega)), hP 4 (w_ok ((((p1 + p3) / 2) + p2) - 1) (by omega)), hS 0 false (Fld.Q0 p0 6 rfl), hP 3 (w_ok (y6_1 - y6_2) (by have g0 := hy3; omega)), hB 3 h3, hB 3 h4, hB 3 h5, hB 3 h6, hQ (Fld.Q0 (Q6 k n0 p0 p1 y6_2 y6_0) 6 rfl), hB 9 h7, hB 3 h8] [aV [(0, Fld.rows p0)] hl3, aV [(0, Fld.rows (Q6 k n0 p0 p1 y6_2 y6_0))] (ih n0 p0 p1 y6_2 y6_0 hn (by have g0 := hy3; omega) (by have g0 := hy3; omega))] (by kernel_rfl)
  | false =>
   have e7 := of_decide_eq_false h7
   exact Qc (fn := Ir.K17) rfl (vk1 (Fld.Q0 p0 6 rfl)) [hP 2 (w_ok (p2 - p1) (by omega)), hB 0 h0, hP 2 (w_ok (p3 - p2) (by omega)), hB 0 h1, hP 2 (w_ok (p1 + p3) (by omega)), hP 0 (Qv (p1 + p3) (by omega)), hP 0 (Q17 (p1 + p3)), hP 0 (Qw ((p1 + p3) / 2) (by omega)), hP 3 (w_ok (((p1 + p3) / 2) + p2) (by omega)), hB 5 h2, hP 2 (w_ok ((((p1 + p3) / 2) + p2) - p3) (by omega)), hP 4 (w_ok ((((p1 + p3) / 2) + p2) - 1) (by omega)), hS 0 false (Fld.Q0 p0 6 rfl), hP 3 (w_ok (y6_1 - y6_2) (by have g0 := hy3; omega)), hB 3 h3, hB 3 h4, hB 3 h5, hB 3 h6, hQ (Fld.Q0 (Q6 k n0 p0 p1 y6_2 y6_0) 6 rfl), hB 9 h7] [aV [(0, Fld.rows p0)] hl3, aV [(0, Fld.rows (Q6 k n0 p0 p1 y6_2 y6_0))] (ih n0 p0 p1 y6_2 y6_0 hn (by have g0 := hy3; omega) (by have g0 := hy3; omega))] (by kernel_rfl)
 | false =>
  have e6 := of_decide_eq_false h6
  cases h7 : (decide (y6_0 < (y6_1 - y6_2))) with
  | true =>
   have e7 := of_decide_eq_true h7
   cases h8 : (decide ((y6_1 - y6_2) < p3)) with
   | true =>
    have e8 := of_decide_eq_true h8
    exact Qc (fn := Ir.K17) rfl (vk1 (Fld.Q0 p0 6 rfl)) [hP 2 (w_ok (p2 - p1) (by omega)), hB 0 h0, hP 2 (w_ok (p3 - p2) (by omega)), hB 0 h1, hP 2 (w_ok (p1 + p3) (by omega)), hP 0 (Qv (p1 + p3) (by omega)), hP 0 (Q17 (p1 + p3)), hP 0 (Qw ((p1 + p3) / 2) (by omega)), hP 3 (w_ok (((p1 + p3) / 2) + p2) (by omega)), hB 5 h2, hP 2 (w_ok ((((p1 + p3) / 2) + p2) - p3) (by omega)), hP 4 (w_ok ((((p1 + p3) / 2) + p2) - 1) (by omega)), hS 0 false (Fld.Q0 p0 6 rfl), hP 3 (w_ok (y6_1 - y6_2) (by have g0 := hy3; omega)), hB 3 h3, hB 3 h4, hB 3 h5, hB 3 h6, hB 3 h7, hB 3 h8, hQ (Fld.Q0 (Q6 k n0 p0 y6_0 (y6_1 - y6_2) p3) 6 rfl)] [aV [(0, Fld.rows p0)] hl3, aV [(0, Fld.rows (Q6 k n0 p0 y6_0 (y6_1 - y6_2) p3))] (ih n0 p0 y6_0 (y6_1 - y6_2) p3 hn (by have g0 := hy3; omega) (by have g0 := hy3; omega))] (by kernel_rfl)
   | false =>
    have e8 := of_decide_eq_false h8
    exact Qc (fn := Ir.K17) rfl (vk1 (Fld.Q0 p0 6 rfl)) [hP 2 (w_ok (p2 - p1) (by omega)), hB 0 h0, hP 2 (w_ok (p3 - p2) (by omega)), hB 0 h1, hP 2 (w_ok (p1 + p3) (by omega)), hP 0 (Qv (p1 + p3) (by omega)), hP 0 (Q17 (p1 + p3)), hP 0 (Qw ((p1 + p3) / 2) (by omega)), hP 3 (w_ok (((p1 + p3) / 2) + p2) (by omega)), hB 5 h2, hP 2 (w_ok ((((p1 + p3) / 2) + p2) - p3) (by omega)), hP 4 (w_ok ((((p1 + p3) / 2) + p2) - 1) (by omega)), hS 0 false (Fld.Q0 p0 6 rfl), hP 3 (w_ok (y6_1 - y6_2) (by have g0 := hy3; omega)), hB 3 h3, hB 3 h4, hB 3 h5, hB 3 h6, hB 3 h7, hB 3 h8] [aV [(0, Fld.rows p0)] hl3] (by kernel_rfl)
  | false =>
   have e7 := of_decide_eq_false h7
   exact Qc (fn := Ir.K17) rfl (vk1 (Fld.Q0 p0 6 rfl)) [hP 2 (w_ok (p2 - p1) (by omega)), hB 0 h0, hP 2 (w_ok (p3 - p2) (by omega)), hB 0 h1, hP 2 (w_ok (p1 + p3) (by omega)), hP 0 (Qv (p1 + p3) (by omega)), hP 0 (Q17 (p1 + p3)), hP 0 (Qw ((p1 + p3) / 2) (by omega)), hP 3 (w_ok (((p1 + p3) / 2) + p2) (by omega)), hB 5 h2, hP 2 (w_ok ((((p1 + p3) / 2) + p2) - p3) (by omega)), hP 4 (w_ok ((((p1 + p3) / 2) + p2) - 1) (by omega)), hS 0 false (Fld.Q0 p0 6 rfl), hP 3 (w_ok (y6_1 - y6_2) (by have g0 := hy3; omega)), hB 3 h3, hB 3 h4, hB 3 h5, hB 3 h6, hB 3 h7] [aV [(0, Fld.rows p0)] hl3] (by kernel_rfl)
theorem Qjv (k : Nat) (ih : Q16 k) (n0 : Nat) (p0 : List Fld) (p1 : Int) (p2 : Int) (p3 : Int) (hn : List.length p0 = n0) (hq0 : 0 ≤ p1 ∧ p1 < p2 ∧ p2 < p3 ∧ p3 ≤ n0 ∧ (n0 : Int) ≤ 1152921504606846976) (_hm : Int.toNat (p3 - p1) < k + 1) (h0 : ((p2 - p1) == 1) = false) (h1 : ((p3 - p2) == 1) = false) (h2 : (decide (((p1 + p3) / 2) < p2)) = true) (y6_0 : Int) (y6_1 : Int) (y6_2 : Int) (hy3 : y6_0 = ((p1 + p3) / 2) ∧ y6_1 = (((p1 + p3) / 2) + p2) ∧ p1 ≤ y6_2 ∧ y6_2 ≤ p2 ∧ y6_1 - y6_2 ≤ p3) (z3 : Nat → PV) (zo3 : Nat → List PV) (hl3 : Qb G (Q1l n0 p0 p1 p2 p3 ((p1 + p3) / 2) (((p1 + p3) / 2) + p2) ((((p1 + p3) / 2) + p2) - p3) ((p1 + p3) / 2) ((((p1 + p3) / 2) + p2) - 1)) (.st (.exit 8) (Q1f n0 p0 p1 p2 p3 y6_0 y6_1 y6_2 z3 zo3))) (h3 : (decide (y6_2 < p2)) = true) (h4 : (decide (p2 < (y6_1 - y6_2))) = false) (h5 : (decide (p1 < y6_2)) = false) : Qb G (Q1k n0 p0 p1 p2 p3) (.ret (.tup []) [⟨6, 0, false, (Fld.rows (bif (decide (y6_0 < (y6_1 - y6_2))) then
   bif (decide ((y6_1 - y6_2) < p3)) then
    (Q6 k n0 p0 y6_0 (y6_1 - y6_2) p3)
   else
    p0
 else
   p0)).flatten⟩]) := by
 have e0 := beq_eq_false_iff_ne.1 h0; have e1 := beq_eq_false_iff_ne.1 h1; have e2 := of_decide_eq_true h2; have e3 := of_decide_eq_true h3; have e4 := of_decide_eq_false h4; have e5 := of_decide_eq_false h5
 cases h6 : (decide (y6_0 < (y6_1 - y6_2))) with
 | true =>
  have e6 := of_decide_eq_true h6
  cases h7 : (decide ((y6_1 - y6_2) < p3)) with
  | true =>
   have e7 := of_decide_eq_true h7
   exact Qc (fn := Ir.K17) rfl (vk1 (Fld.Q0 p0 6 rfl)) [hP 2 (w_ok (p2 - p1) (by omega)), hB 0 h0, hP 2 (w_ok (p3 - p2) (by omega)), hB 0 h1, hP 2 (w_ok (p1 + p3) (by omega)), hP 0 (Qv (p1 + p3) (by omega)), hP 0 (Q17 (p1 + p3)), hP 0 (Qw ((p1 + p3) / 2) (by omega)), hP 3 (w_ok (((p1 + p3) / 2) + p2) (by omega)), hB 5 h2, hP 2 (w_ok ((((p1 + p3) / 2) + p2) - p3) (by omega)), hP 4 (w_ok ((((p1 + p3) / 2) + p2) - 1) (by omega)), hS 0 false (Fld.Q0 p0 6 rfl), hP 3 (w_ok (y6_1 - y6_2) (by have g0 := hy3; omega)), hB 3 h3, hB 3 h4, hB 3 h5, hB 7 h6, hB 3 h7, hQ (Fld.Q0 (Q6 k n0 p0 y6_0 (y6_1 - y6_2) p3) 6 rfl)] [aV [(0, Fld.rows p0)] hl3, aV [(0, Fld.rows (Q6 k n0 p0 y6_0 (y6_1 - y6_2) p3))] (ih n0 p0 y6_0 (y6_1 - y6_2) p3 hn (by have g0 := hy3; omega) (by have g0 := hy3; omega))] (by kernel_rfl)
  | false =>
   have e7 := of_decide_eq_false h7
   exact Qc (fn := Ir.K17) rfl (vk1 (Fld.Q0 p0 6 rfl)) [hP 2 (w_ok (p2 - p1) (by omega)), hB 0 h0, hP 2 (w_ok (p3 - p2) (by omega)), hB 0 h1, hP 2 (w_ok (p1 + p3) (by omega)), hP 0 (Qv (p1 + p3) (by omega)), hP 0 (Q17 (p1 + p3)), hP 0 (Qw ((p1 + p3) / 2) (by omega)), hP 3 (w_ok (((p1 + p3) / 2) + p2) (by omega)), hB 5 h2, hP 2 (w_ok ((((p1 + p3) / 2) + p2) - p3) (by omega)), hP 4 (w_ok ((((p1 + p3) / 2) + p2) - 1) (by omega)), hS 0 false (Fld.Q0 p0 6 rfl), hP 3 (w_ok (y6_1 - y6_2) (by have g0 := hy3; omega)), hB 3 h3, hB 3 h4, hB 3 h5, hB 7 h6, hB 3 h7] [aV [(0, Fld.rows p0)] hl3] (by kernel_rfl)
 | false =>
  have e6 := of_decide_eq_false h6
  exact Qc (fn := Ir.K17) rfl (vk1 (Fld.Q0 p0 6 rfl)) [hP 2 (w_ok (p2 - p1) (by omega)), hB 0 h0, hP 2 (w_ok (p3 - p2) (by omega)), hB 0 h1, hP 2 (w_ok (p1 + p3) (by omega)), hP 0 (Qv (p1 + p3) (by omega)), hP 0 (Q17 (p1 + p3)), hP 0 (Qw ((p1 + p3) / 2) (by omega)), hP 3 (w_ok (((p1 + p3) / 2) + p2) (by omega)), hB 5 h2, hP 2 (w_ok ((((p1 + p3) / 2) + p2) - p3) (by omega)), hP 4 (w_ok ((((p1 + p3) / 2) + p2) - 1) (by omega)), hS 0 false (Fld.Q0 p0 6 rfl), hP 3 (w_ok (y6_1 - y6_2) (by have g0 := hy3; omega)), hB 3 h3, hB 3 h4, hB 3 h5, hB 7 h6] [aV [(0, Fld.rows p0)] hl3] (by kernel_rfl)
theorem Qki (k : Nat) (ih : Q16 k) (n0 : Nat) (p0 : List Fld) (p1 : Int) (p2 : Int) (p3 : Int) (hn : List.length p0 = n0) (hq0 : 0 ≤ p1 ∧ p1 < p2 ∧ p2 < p3 ∧ p3 ≤ n0 ∧ (n0 : Int) ≤ 1152921504606846976) (_hm : Int.toNat (p3 - p1) < k + 1) (h0 : ((p2 - p1) == 1) = false) (h1 : ((p3 - p2) == 1) = false) (h2 : (decide (((p1 + p3) / 2) < p2)) = true) (y6_0 : Int) (y6_1 : Int) (y6_2 : Int) (hy3 : y6_0 = ((p1 + p3) / 2) ∧ y6_1 = (((p1 + p3) / 2) + p2) ∧ p1 ≤ y6_2 ∧ y6_2 ≤ p2 ∧ y6_1 - y6_2 ≤ p3) (z3 : Nat → PV) (zo3 : Nat → List PV) (hl3 : Qb G (Q1l n0 p0 p1 p2 p3 ((p1 + p3) / 2) (((p1 + p3) / 2) + p2) ((((p1 + p3) / 2) + p2) - p3) ((p1 + p3) / 2) ((((p1 + p3) / 2) + p2) - 1)) (.st (.exit 8) (Q1f n0 p0 p1 p2 p3 y6_0 y6_1 y6_2 z3 zo3))) (h3 : (decide (y6_2 < p2)) = false) (h4 : (decide (p1 < y6_2)) = true) : Qb G (Q1k n0 p0 p1 p2 p3) (.ret (.tup []) [⟨6, 0, false, (Fld.rows (bif (decide (y6_2 < y6_0)) then
   bif (decide (y6_0 < (y6_1 - y6_2))) then
     bif (decide ((y6_1 - y6_2) < p3)) then
      (Q6 k n0 (Q6 k n0 p0 p1 y6_2 y6_0) y6_0 (y6_1 - y6_2) p3)
     else
      (Q6 k n0 p0 p1 y6_2 y6_0)
   else
     (Q6 k n0 p0 p1 y6_2 y6_0)
 else
   bif (decide (y6_0 < (y6_1 - y6_2))) then
     bif (decide ((y6_1 - y6_2) < p3)) then
      (Q6 k n0 p0 y6_0 (y6_1 - y6_2) p3)
     else
      p0
   else
     p0)).flatten⟩]) := by
 have e0 := beq_eq_false_iff_ne.1 h0; have e1 := beq_eq_false_iff_ne.1 h1; have e2 := of_decide_eq_true h2; have e3 := of_decide_eq_false h3; have e4 := of_decide_eq_true h4
 cases h5 : (decide (y6_2 < y6_0)) with
 | true =>
  have e5 := of_decide_eq_true h5
  cases h6 : (decide (y6_0 < (y6_1 - y6_2))) with
  | true =>
   have e6 := of_decide_eq_true h6
   cases h7 : (decide ((y6_1 - y6_2) < p3)) with
   | true =>
    have e7 := of_decide_eq_true h7
    exact Qc (fn := Ir.K17) rfl (vk1 (Fld.Q0 p0 6 rfl)) [hP 2 (w_ok (p2 - p1) (by omega)), hB 0 h0, hP 2 (w_ok (p3 - p2) (by omega)), hB 0 h1, hP 2 (w_ok (p1 + p3) (by omega)), hP 0 (Qv (p1 + p3) (by omega)), hP 0 (Q17 (p1 + p3)), hP 0 (Qw ((p1 + p3) / 2) (by omega)), hP 3 (w_ok (((p1 + p3) / 2) + p2) (by omega)), hB 5 h2, hP 2 (w_ok ((((p1 + p3) / 2) + p2) - p3) (by omega)), hP 4 (w_ok ((((p1 + p3) / 2) + p2) - 1) (by omega)), hS 0 false (Fld.Q0 p0 6 rfl), hP 3 (w_ok (y6_1 - y6_2) (by have g0 := hy3; omega)), hB 3 h3, hB 7 h4, hB 3 h5, hQ (Fld.Q0 (Q6 k n0 p0 p1 y6_2 y6_0) 6 rfl), hB 9 h6, hB 3 h7, hQ (Fld.Q0 (Q6 k n0 (Q6 k n0 p0 p1 y6_2 y6_0) y6_0 (y6_1 - y6_2) p3) 6 rfl)] [aV [(0, Fld.rows p0)] hl3, aV [(0, Fld.rows (Q6 k n0 p0 p1 y6_2 y6_0))] (ih n0 p0 p1 y6_2 y6_0 hn (by have g0 := hy3; omega) (by have g0 := hy3; omega)), aV [(0, Fld.rows (Q6 k n0 (Q6 k n0 p0 p1 y6_2 y6_0) y6_0 (y6_1 - y6_2) p3))] (ih n0 (Q6 k n0 p0 p1 y6_2 y6_0) y6_0 (y6_1 - y6_2) p3 (Q8 k n0 p0 p1 y6_2 y6_0 hn) (by have f0 := (Q8 k n0 p0 p1 y6_2 y6_0 hn); have g0 := hy3; omega) (by have f0 := (Q8 k n0 p0 p1 y6_2 y6_0 hn); have g0 := hy3; omega))] (by kernel_rfl)
   | false =>
    have e7 := of_decide_eq_false h7
    exact Qc (fn := Ir.K17) rfl (vk1 (Fld.Q0 p0 6 rfl)) [hP 2 (w_ok (p2 - p1) (by omega)), hB 0 h0, hP 2 (w_ok (p3 - p2) (by omega)), hB 0 h1, hP 2 (w_ok (p1 + p3) (by omega)), hP 0 (Qv (p1 + p3) (by omega)), hP 0 (Q17 (p1 + p3)), hP 0 (Qw ((p1 + p3) / 2) (by omega)), hP 3 (w_ok (((p1 + p3) / 2) + p2) (by omega)), hB 5 h2, hP 2 (w_ok ((((p1 + p3) / 2) + p2) - p3) (by omega)), hP 4 (w_ok ((((p1 + p3) / 2) + p2) - 1) (by omega)), hS 0 false (Fld.Q0 p0 6 rfl), hP 3 (w_ok (y6_1 - y6_2) (by have g0 := hy3; omega)), hB 3 h3, hB 7 h4, hB 3 h5, hQ (Fld.Q0 (Q6 k n0 p0 p1 y6_2 y6_0) 6 rfl), hB 9 h6, hB 3 h7] [aV [(0, Fld.rows p0)] hl3, aV [(0, Fld.rows (Q6 k n0 p0 p1 y6_2 y6_0))] (ih n0 p0 p1 y6_2 y6_0 hn (by have g0 := hy3; omega) (by have g0 := hy3; omega))] (by kernel_rfl)
  | false =>
   have e6 := of_decide_eq_false h6
   exact Qc (fn := Ir.K17) rfl (vk1 (Fld.Q0 p0 6 rfl)) [hP 2 (w_ok (p2 - p1) (by omega)), hB 0 h0, hP 2 (w_ok (p3 - p2) (by omega)), hB 0 h1, hP 2 (w_ok (p1 + p3) (by omega)), hP 0 (Qv (p1 + p3) (by omega)), hP 0 (Q17 (p1 + p3)), hP 0 (Qw ((p1 + p3) / 2) (by omega)), hP 3 (w_ok (((p1 + p3) / 2) + p2) (by omega)), hB 5 h2, hP 2 (w_ok ((((p1 + p3) / 2) + p2) - p3) (by omega)), hP 4 (w_ok ((((p1 + p3) / 2) + p2) - 1) (by omega)), hS 0 false (Fld.Q0 p0 6 rfl), hP 3 (w_ok (y6_1 - y6_2) (by have g0 := hy3; omega)), hB 3 h3, hB 7 h4, hB 3 h5, hQ (Fld.Q0 (Q6 k n0 p0 p1 y6_2 y6_0) 6 rfl), hB 9 h6] [aV [(0, Fld.rows p0)] hl3, aV [(0, Fld.rows (Q6 k n0 p0 p1 y6_2 y6_0))] (ih n0 p0 p1 y6_2 y6_0 hn (by have g0 := hy3; omega) (by have g0 := hy3; omega))] (by kernel_rfl)
 | false =>
  have e5 := of_decide_eq_false h5
  cases h6 : (decide (y6_0 < (y6_1 - y6_2))) with
  | true =>
   have e6 := of_decide_eq_true h6
   cases h7 : (decide ((y6_1 - y6_2) < p3)) with
   | true =>
    have e7 := of_decide_eq_true h7
    exact Qc (fn := Ir.K17) rfl (vk1 (Fld.Q0 p0 6 rfl)) [hP 2 (w_ok (p2 - p1) (by omega)), hB 0 h0, hP 2 (w_ok (p3 - p2) (by omega)), hB 0 h1, hP 2 (w_ok (p1 + p3) (by omega)), hP 0 (Qv (p1 + p3) (by omega)), hP 0 (Q17 (p1 + p3)), hP 0 (Qw ((p1 + p3) / 2) (by omega)), hP 3 (w_ok (((p1 + p3) / 2) + p2) (by omega)), hB 5 h2, hP 2 (w_ok ((((p1 + p3) / 2) + p2) - p3) (by omega)), hP 4 (w_ok ((((p1 + p3) / 2) + p2) - 1) (by omega)), hS 0 false (Fld.Q0 p0 6 rfl), hP 3 (w_ok (y6_1 - y6_2) (by have g0 := hy3; omega)), hB 3 h3, hB 7 h4, hB 3 h5, hB 3 h6, hB 3 h7, hQ (Fld.Q0 (Q6 k n0 p0 y6_0 (y6_1 - y6_2) p3) 6 rfl)] [aV [(0, Fld.rows p0)] hl3, aV [(0, Fld.rows (Q6 k n0 p0 y6_0 (y6_1 - y6_2) p3))] (ih n0 p0 y6_0 (y6_1 - y6_2) p3 hn (by have g0 := hy3; omega) (by have g0 := hy3; omega))] (by kernel_rfl)
   | false =>
    have e7 := of_decide_eq_false h7
    exact Qc (fn := Ir.K17) rfl (vk1 (Fld.Q0 p0 6 rfl)) [hP 2 (w_ok (p2 - p1) (by omega)), hB 0 h0, hP 2 (w_ok (p3 - p2) (by omega)), hB 0 h1, hP 2 (w_ok (p1 + p3) (by omega)), hP 0 (Qv (p1 + p3) (by omega)), hP 0 (Q17 (p1 + p3)), hP 0 (Qw ((p1 + p3) / 2) (by omega)), hP 3 (w_ok (((p1 + p3) / 2) + p2) (by omega)), hB 5 h2, hP 2 (w_ok ((((p1 + p3) / 2) + p2) - p3) (by omega)), hP 4 (w_ok ((((p1 + p3) / 2) + p2) - 1) (by omega)), hS 0 false (Fld.Q0 p0 6 rfl), hP 3 (w_ok (y6_1 - y6_2) (by have g0 := hy3; omega)), hB 3 h3, hB 7 h4, hB 3 h5, hB 3 h6, hB 3 h7] [aV [(0, Fld.rows p0)] hl3] (by kernel_rfl)
  | false =>
   have e6 := of_decide_eq_false h6
   exact Qc (fn := Ir.K17) rfl (vk1 (Fld.Q0 p0 6 rfl)) [hP 2 (w_ok (p2 - p1) (by omega)), hB 0 h0, hP 2 (w_ok (p3 - p2) (by omega)), hB 0 h1, hP 2 (w_ok (p1 + p3) (by omega)), hP 0 (Qv (p1 + p3) (by omega)), hP 0 (Q17 (p1 + p3)), hP 0 (Qw ((p1 + p3) / 2) (by omega)), hP 3 (w_ok (((p1 + p3) / 2) + p2) (by omega)), hB 5 h2, hP 2 (w_ok ((((p1 + p3) / 2) + p2) - p3) (by omega)), hP 4 (w_ok ((((p1 + p3) / 2) + p2) - 1) (by omega)), hS 0 false (Fld.Q0 p0 6 rfl), hP 3 (w_ok (y6_1 - y6_2) (by have g0 := hy3; omega)), hB 3 h3, hB 7 h4, hB 3 h5, hB 3 h6] [aV [(0, Fld.rows p0)] hl3] (by kernel_rfl)
theorem Qk6 (k : Nat) (ih : Q16 k) (n0 : Nat) (p0 : List Fld) (p1 : Int) (p2 : Int) (p3 : Int) (hn : List.length p0 = n0) (hq0 : 0 ≤ p1 ∧ p1 < p2 ∧ p2 < p3 ∧ p3 ≤ n0 ∧ (n0 : Int) ≤ 1152921504606846976) (_hm : Int.toNat (p3 - p1) < k + 1) (h0 : ((p2 - p1) == 1) = false) (h1 : ((p3 - p2) == 1) = false) (h2 : (decide (((p1 + p3) / 2) < p2)) = true) (y6_0 : Int) (y6_1 : Int) (y6_2 : Int) (hy3 : y6_0 = ((p1 + p3) / 2) ∧ y6_1 = (((p1 + p3) / 2) + p2) ∧ p1 ≤ y6_2 ∧ y6_2 ≤ p2 ∧ y6_1 - y6_2 ≤ p3) (z3 : Nat → PV) (zo3 : Nat → List PV) (hl3 : Qb G (Q1l n0 p0 p1 p2 p3 ((p1 + p3) / 2) (((p1 + p3) / 2) + p2) ((((p1 + p3) / 2) + p2) - p3) ((p1 + p3) / 2) ((((p1 + p3) / 2) + p2) - 1)) (.st (.exit 8) (Q1f n0 p0 p1 p2 p3 y6_0 y6_1 y6_2 z3 zo3))) (h3 : (decide (y6_2 < p2)) = false) (h4 : (decide (p1 < y6_2)) = false) : Qb G (Q1k n0 p0 p1 p2 p3) (.ret (.tup []) [⟨6, 0, false, (Fld.rows (bif (decide (y6_0 < (y6_1 - y6_2))) then
   bif (decide ((y6_1 - y6_2) < p3)) then
    (Q6 k n0 p0 y6_0 (y6_1 - y6_2) p3)
   else
    p0
 else
   p0)).flatten⟩]) := by
 have e0 := beq_eq_false_iff_ne.1 h0; have e1 := beq_eq_false_iff_ne.1 h1; have e2 := of_decide_eq_true h2; have e3 := of_decide_eq_false h3; have e4 := of_decide_eq_false h4
 cases h5 : (decide (y6_0 < (y6_1 - y6_2))) with
 | true =>
  have e5 := of_decide_eq_true h5
  cases h6 : (decide ((y6_1 - y6_2) < p3)) with
  | true =>
   have e6 := of_decide_eq_true h6
   exact Qc (fn := Ir.K17) rfl (vk1 (Fld.Q0 p0 6 rfl)) [hP 2 (w_ok (p2 - p1) (by omega)), hB 0 h0, hP 2 (w_ok (p3 - p2) (by omega)), hB 0 h1, hP 2 (w_ok (p1 + p3) (by omega)), hP 0 (Qv (p1 + p3) (by omega)), hP 0 (Q17 (p1 + p3)), hP 0 (Qw ((p1 + p3) / 2) (by omega)), hP 3 (w_ok (((p1 + p3) / 2) + p2) (by omega)), hB 5 h2, hP 2 (w_ok ((((p1 + p3) / 2) + p2) - p3) (by omega)), hP 4 (w_ok ((((p1 + p3) / 2) + p2) - 1) (by omega)), hS 0 false (Fld.Q0 p0 6 rfl), hP 3 (w_ok (y6_1 - y6_2) (by have g0 := hy3; omega)), hB 3 h3, hB 7 h4, hB 7 h5, hB 3 h6, hQ (Fld.Q0 (Q6 k n0 p0 y6_0 (y6_1 - y6_2) p3) 6 rfl)] [aV [(0, Fld.rows p0)] hl3, aV [(0, Fld.rows (Q6 k n0 p0 y6_0 (y6_1 - y6_2) p3))] (ih n0 p0 y6_0 (y6_1 - y6_2) p3 hn (by have g0 := hy3; omega) (by have g0 := hy3; omega))] (by kernel_rfl)
  | false =>
   have e6 := of_decide_eq_false h6
   exact Qc (fn := Ir.K17) rfl (vk1 (Fld.Q0 p0 6 rfl)) [hP 2 (w_ok (p2 - p1) (by omega)), hB 0 h0, hP 2 (w_ok (p3 - p2) (by omega)), hB 0 h1, hP 2 (w_ok (p1 + p3) (by omega)), hP 0 (Qv (p1 + p3) (by omega)), hP 0 (Q17 (p1 + p3)), hP 0 (Qw ((p1 + p3) / 2) (by omega)), hP 3 (w_ok (((p1 + p3) / 2) + p2) (by omega)), hB 5 h2, hP 2 (w_ok ((((p1 + p3) / 2) + p2) - p3) (by omega)), hP 4 (w_ok ((((p1 + p3) / 2) + p2) - 1) (by omega)), hS 0 false (Fld.Q0 p0 6 rfl), hP 3 (w_ok (y6_1 - y6_2) (by have g0 := hy3; omega)), hB 3 h3, hB 7 h4, hB 7 h5, hB 3 h6] [aV [(0, Fld.rows p0)] hl3] (by kernel_rfl)
 | false =>
  have e5 := of_decide_eq_false h5
  exact Qc (fn := Ir.K17) rfl (vk1 (Fld.Q0 p0 6 rfl)) [hP 2 (w_ok (p2 - p1) (by omega)), hB 0 h0, hP 2 (w_ok (p3 - p2) (by omega)), hB 0 h1, hP 2 (w_ok (p1 + p3) (by omega)), hP 0 (Qv (p1 + p3) (by omega)), hP 0 (Q17 (p1 + p3)), hP 0 (Qw ((p1 + p3) / 2) (by omega)), hP 3 (w_ok (((p1 + p3) / 2) + p2) (by omega)), hB 5 h2, hP 2 (w_ok ((((p1 + p3) / 2) + p2) - p3) (by omega)), hP 4 (w_ok ((((p1 + p3) / 2) + p2) - 1) (by omega)), hS 0 false (Fld.Q0 p0 6 rfl), hP 3 (w_ok (y6_1 - y6_2) (by have g0 := hy3; omega)), hB 3 h3, hB 7 h4, hB 7 h5] [aV [(0, Fld.rows p0)] hl3] (by kernel_rfl)
theorem Qjs (k : Nat) (ih : Q16 k) (n0 : Nat) (p0 : List Fld) (p1 : Int) (p2 : Int) (p3 : Int) (hn : List.length p0 = n0) (hq0 : 0 ≤ p1 ∧ p1 < p2 ∧ p2 < p3 ∧ p3 ≤ n0 ∧ (n0 : Int) ≤ 1152921504606846976) (hm : Int.toNat (p3 - p1) < k + 1) (h0 : ((p2 - p1) == 1) = false) (h1 : ((p3 - p2) == 1) = false) (h2 : (decide (((p1 + p3) / 2) < p2)) = false) (y7_0 : Int) (y7_1 : Int) (y7_2 : Int) (hy3 : y7_0 = ((p1 + p3) / 2) ∧ y7_1 = (((p1 + p3) / 2) + p2) ∧ p1 ≤ y7_2 ∧ y7_2 ≤ p2 ∧ y7_1 - y7_2 ≤ p3) (z3 : Nat → PV) (zo3 : Nat → List PV) (hl3 : Qb G (Q1l n0 p0 p1 p2 p3 ((p1 + p3) / 2) (((p1 + p3) / 2) + p2) p1 p2 ((((p1 + p3) / 2) + p2) - 1)) (.st (.exit 8) (Q1f n0 p0 p1 p2 p3 y7_0 y7_1 y7_2 z3 zo3))) (h3 : (decide (y7_2 < p2)) = true) (h4 : (decide (p2 < (y7_1 - y7_2))) = true) (h5 : (decide (p1 < y7_2)) = true) : Qb G (Q1k n0 p0 p1 p2 p3) (.ret (.tup []) [⟨6, 0, false, (Fld.rows (bif (decide (y7_2 < y7_0)) then
   bif (decide (y7_0 < (y7_1 - y7_2))) then
     bif (decide ((y7_1 - y7_2) < p3)) then
      (Q6 k n0 (Q6 k n0 (Q7 n0 p0 y7_2 p2 (y7_1 - y7_2)) p1 y7_2 y7_0) y7_0 (y7_1 - y7_2) p3)
     else
      (Q6 k n0 (Q7 n0 p0 y7_2 p2 (y7_1 - y7_2)) p1 y7_2 y7_0)
   else
     (Q6 k n0 (Q7 n0 p0 y7_2 p2 (y7_1 - y7_2)) p1 y7_2 y7_0)
 else
   bif (decide (y7_0 < (y7_1 - y7_2))) then
     bif (decide ((y7_1 - y7_2) < p3)) then
      (Q6 k n0 (Q7 n0 p0 y7_2 p2 (y7_1 - y7_2)) y7_0 (y7_1 - y7_2) p3)
     else
      (Q7 n0 p0 y7_2 p2 (y7_1 - y7_2))
   else
     (Q7 n0 p0 y7_2 p2 (y7_1 - y7_2)))).flatten⟩]) := by
 have e0 := beq_eq_false_iff_ne.1 h0; have e1 := beq_eq_false_iff_ne.1 h1; have e2 := of_decide_eq_false h2; have e3 := of_decide_eq_true h3; have e4 := of_decide_eq_true h4; have e5 := of_decide_eq_true h5
 cases h6 : (decide (y7_2 < y7_0)) with
 | true =>
  have e6 := of_decide_eq_true h6
  cases h7 : (decide (y7_0 < (y7_1 - y7_2))) with
  | true =>
   have e7 := of_decide_eq_true h7
   cases h8 : (decide ((y7_1 - y7_2) < p3)) with
   | true =>
    have e8 := of_decide_eq_true h8
    exact Qc (fn := Ir.K17) rfl (vk1 (Fld.Q0 p0 6 rfl)) [hP 2 (w_ok (p2 - p1) (by omega)), hB 0 h0, hP 2 (w_ok (p3 - p2) (by omega)), hB 0 h1, hP 2 (w_ok (p1 + p3) (by omega)), hP 0 (Qv (p1 + p3) (by omega)), hP 0 (Q17 (p1 + p3)), hP 0 (Qw ((p1 + p3) / 2) (by omega)), hP 3 (w_ok (((p1 + p3) / 2) + p2) (by omega)), hB 5 h2, hP 5 (w_ok ((((p1 + p3) / 2) + p2) - 1) (by omega)), hS 0 false (Fld.Q0 p0 6 rfl), hP 3 (w_ok (y7_1 - y7_2) (by have g0 := hy3; omega)), hB 3 h3, hB 3 h4, hQ (Fld.Q0 (Q7 n0 p0 y7_2 p2 (y7_1 - y7_2)) 6 rfl), hB 9 h5, hB 3 h6, hQ (Fld.Q0 (Q6 k n0 (Q7 n0 p0 y7_2 p2 (y7_1 - y7_2)) p1 y7_2 y7_0) 6 rfl), hB 9 h7, hB 3 h8, hQ (Fld.Q0 (Q6 k n0 (Q6 k n0 (Q7 n0 p0 y7_2 p2 (y7_1 - y7_2)) p1 y7_2 y7_0) y7_0 (y7_1 - y7_2) p3) 6 rfl)] [aV [(0, Fld.rows p0)] hl3, aV [(0, Fld.rows (Q7 n0 p0 y7_2 p2 (y7_1 - y7_2)))] (Q1b n0 p0 y7_2 p2 (y7_1 - y7_2) hn (by have g0 := hy3; omega)), aV [(0, Fld.rows (Q6 k n0 (Q7 n0 p0 y7_2 p2 (y7_1 - y7_2)) p1 y7_2 y7_0))] (ih n0 (Q7 n0 p0 y7_2 p2 (y7_1 - y7_2)) p1 y7_2 y7_0 (Qe n0 p0 y7_2 p2 (y7_1 - y7_2) hn) (by have f0 := (Qe n0 p0 y7_2 p2 (y7_1 - y7_2) hn); have g0 := hy3; omega) (by have f0 := (Qe n0 p0 y7_2 p2 (y7_1 - y7_2) hn); have g0 := hy3; omega)), aV [(0, Fld.rows (Q6 k n0 (Q6 k n0 (Q7 n0 p0 y7_2 p2 (y7_1 - y7_2)) p1 y7_2 y7_0) y7_0 (y7_1 - y7_2) p3))] (ih n0 (Q6 k n0 (Q7 n0 p0 y7_2 p2 (y7_1 - y7_2)) p1 y7_2 y7_0) y7_0 (y7_1 - y7_2) p3 (Q8 k n0 (Q7 n0 p0 y7_2 p2 (y7_1 - y7_2)) p1 y7_2 y7_0 (Qe n0 p0 y7_2 p2 (y7_1 - y7_2) hn)) (by have f0 := (Q8 k n0 (Q7 n0 p0 y7_2 p2 (y7_1 - y7_2)) p1 y7_2 y7_0 (Qe n0 p0 y7_2 p2 (y7_1 - y7_2) hn)); have g0 := hy3; omega) (by have f0 := (Q8 k n0 (Q7 n0 p0 y7_2 p2 (y7_1 - y7_2)) p1 y7_2 y7_0 (Qe n0 p0 y7_2 p2 (y7_1 - y7_2) hn)); have g0 := hy3; omega))] (by kernel_rfl)
   | false =>
    have e8 := of_decide_eq_false h8
    exact Qc (fn := Ir.K17) rfl (vk1 (Fld.Q0 p0 6 rfl)) [hP 2 (w_ok (p2 - p1) (by omega)), hB 0 h0, hP 2 (w_ok (p3 - p2) (by omega)), hB 0 h1, hP 2 (w_ok (p1 + p3) (by omega)), hP 0 (Qv (p1 + p3) (by omega)), hP 0 (Q17 (p1 + p3)), hP 0 (Qw ((p1 + p3) / 2) (by omega)), hP 3 (w_ok (((p1 + p3) / 2) + p2) (by omega)), hB 5 h2, hP 5 (w_ok ((((p1 + p3) / 2) + p2) - 1) (by omega)), hS 0 false (Fld.Q0 p0 6 rfl), hP 3 (w_ok (y7_1 - y7_2) (by have g0 := hy3; omega)), hB 3 h3, hB 3 h4, hQ (Fld.Q0 (Q7 n0 p0 y7_2 p2 (y7_1 - y7_2)) 6 rfl), hB 9 h5, hB 3 h6, hQ (Fld.Q0 (Q6 k n0 (Q7 n0 p0 y7_2 p2 (y7_1 - y7_2)) p1 y7_2 y7_0) 6 rfl), hB 9 h7, hB 3 h8] [aV [(0, Fld.rows p0)] hl3, aV [(0, Fld.rows (Q7 n0 p0 y7_2 p2 (y7_1 - y7_2)))] (Q1b n0 p0 y7_2 p2 (y7_1 - y7_2) hn (by have g0 := hy3; omega)), aV [(0, Fld.rows (Q6 k n0 (Q7 n0 p0 y7_2 p2 (y7_1 - y7_2)) p1 y7_2 y7_0))] (ih n0 (Q7 n0 p0 y7_2 p2 (y7_1 - y7_2)) p1 y7_2 y7_0 (Qe n0 p0 y7_2 p2 (y7_1 - y7_2) hn) (by have f0 := (Qe n0 p0 y7_2 p2 (y7_1 - y7_2) hn); have g0 := hy3; omega) (by have f0 := (Qe n0 p0 y7_2 p2 (y7_1 - y7_2) hn); have g0 := hy3; omega))] (by kernel_rfl)
  | false =>
   have e7 := of_decide_eq_false h7
   exact Qc (fn := Ir.K17) rfl (vk1 (Fld.Q0 p0 6 rfl)) [hP 2 (w_ok (p2 - p1) (by omega)), hB 0 h0, hP 2 (w_ok (p3 - p2) (by omega)), hB 0 h1, hP 2 (w_ok (p1 + p3) (by omega)), hP 0 (Qv (p1 + p3) (by omega)), hP 0 (Q17 (p1 + p3)), hP 0 (Qw ((p1 + p3) / 2) (by omega)), hP 3 (w_ok (((p1 + p3) / 2) + p2) (by omega)), hB 5 h2, hP 5 (w_ok ((((p1 + p3) / 2) + p2) - 1) (by omega)), hS 0 false (Fld.Q0 p0 6 rfl), hP 3 (w_ok (y7_1 - y7_2) (by have g0 := hy3; omega)), hB 3 h3, hB 3 h4, hQ (Fld.Q0 (Q7 n0 p0 y7_2 p2 (y7_1 - y7_2)) 6 rfl), hB 9 h5, hB 3 h6, hQ (Fld.Q0 (Q6 k n0 (Q7 n0 p0 y7_2 p2 (y7_1 - y7_2)) p1 y7_2 y7_0) 6 rfl), hB 9 h7] [aV [(0, Fld.rows p0)] hl3, aV [(0, Fld.rows (Q7 n0 p0 y7_2 p2 (y7_1 - y7_2)))] (Q1b n0 p0 y7_2 p2 (y7_1 - y7_2) hn (by have g0 := hy3; omega)), aV [(0, Fld.rows (Q6 k n0 (Q7 n0 p0 y7_2 p2 (y7_1 - y7_2)) p1 y7_2 y7_0))] (ih n0 (Q7 n0 p0 y7_2 p2 (y7_1 - y7_2)) p1 y7_2 y7_0 (Qe n0 p0 y7_2 p2 (y7_1 - y7_2) hn) (by have f0 := (Qe n0 p0 y7_2 p2 (y7_1 - y7_2) hn); have g0 := hy3; omega) (by have f0 := (Qe n0 p0 y7_2 p2 (y7_1 - y7_2) hn); have g0 := hy3; omega))] (by kernel_rfl)
 | false =>
  have e6 := of_decide_eq_false h6
  cases h7 : (decide (y7_0 < (y7_1 - y7_2))) with
  | true =>
   have e7 := of_decide_eq_true h7
   cases h8 : (decide ((y7_1 - y7_2) < p3)) with
   | true =>
    have e8 := of_decide_eq_true h8
    exact Qc (fn := Ir.K17) rfl (vk1 (Fld.Q0 p0 6 rfl)) [hP 2 (w_ok (p2 - p1) (by omega)), hB 0 h0, hP 2 (w_ok (p3 - p2) (by omega)), hB 0 h1, hP 2 (w_ok (p1 + p3) (by omega)), hP 0 (Qv (p1 + p3) (by omega)), hP 0 (Q17 (p1 + p3)), hP 0 (Qw ((p1 + p3) / 2) (by omega)), hP 3 (w_ok (((p1 + p3) / 2) + p2) (by omega)), hB 5 h2, hP 5 (w_ok ((((p1 + p3) / 2) + p2) - 1) (by omega)), hS 0 false (Fld.Q0 p0 6 rfl), hP 3 (w_ok (y7_1 - y7_2) (by have g0 := hy3; omega)), hB 3 h3, hB 3 h4, hQ (Fld.Q0 (Q7 n0 p0 y7_2 p2 (y7_1 - y7_2)) 6 rfl), hB 9 h5, hB 3 h6, hB 3 h7, hB 3 h8, hQ (Fld.Q0 (Q6 k n0 (Q7 n0 p0 y7_2 p2 (y7_1 - y7_2)) y7_0 (y7_1 - y7_2) p3) 6 rfl)] [aV [(0, Fld.rows p0)] hl3, aV [(0, Fld.rows (Q7 n0 p0 y7_2 p2 (y7_1 - y7_2)))] (Q1b n0 p0 y7_2 p2 (y7_1 - y7_2) hn (by have g0 := hy3; omega)), aV [(0, Fld.rows (Q6 k n0 (Q7 n0 p0 y7_2 p2 (y7_1 - y7_2)) y7_0 (y7_1 - y7_2) p3))] (ih n0 (Q7 n0 p0 y7_2 p2 (y7_1 - y7_2)) y7_0 (y7_1 - y7_2) p3 (Qe n0 p0 y7_2 p2 (y7_1 - y7_2) hn) (by have f0 := (Qe n0 p0 y7_2 p2 (y7_1 - y7_2) hn); have g0 := hy3; omega) (by have f0 := (Qe n0 p0 y7_2 p2 (y7_1 - y7_2) hn); have g0 := hy3; omega))] (by kernel_rfl)
   | false =>
    have e8 := of_decide_eq_false h8
    exact Qc (fn := Ir.K17) rfl (vk1 (Fld.Q0 p0 6 rfl)) [hP 2 (w_ok (p2 - p1) (by omega)), hB 0 h0, hP 2 (w_ok (p3 - p2) (by omega)), hB 0 h1, hP 2 (w_ok (p1 + p3) (by omega)), hP 0 (Qv (p1 + p3) (by omega)), hP 0 (Q17 (p1 + p3)), hP 0 (Qw ((p1 + p3) / 2) (by omega)), hP 3 (w_ok (((p1 + p3) / 2) + p2) (by omega)), hB 5 h2, hP 5 (w_ok ((((p1 + p3) / 2) + p2) - 1) (by omega)), hS 0 false (Fld.Q0 p0 6 rfl), hP 3 (w_ok (y7_1 - y7_2) (by have g0 := hy3; omega)), hB 3 h3, hB 3 h4, hQ (Fld.Q0 (Q7 n0 p0 y7_2 p2 (y7_1 - y7_2)) 6 rfl), hB 9 h5, hB 3 h6, hB 3 h7, hB 3 h8] [aV [(0, Fld.rows p0)] hl3, aV [(0, Fld.rows (Q7 n0 p0 y7_2 p2 (y7_1 - y7_2)))] (Q1b n0 p0 y7_2 p2 (y7_1 - y7_2) hn (by have g0 := hy3; omega))] (by kernel_rfl)
  | false =>
   have e7 := of_decide_eq_false h7
   exact Qc (fn := Ir.K17) rfl (vk1 (Fld.Q0 p0 6 rfl)) [hP 2 (w_ok (p2 - p1) (by omega)), hB 0 h0, hP 2 (w_ok (p3 - p2) (by omega)), hB 0 h1, hP 2 (w_ok (p1 + p3) (by omega)), hP 0 (Qv (p1 + p3) (by omega)), hP 0 (Q17 (p1 + p3)), hP 0 (Qw ((p1 + p3) / 2) (by omega)), hP 3 (w_ok (((p1 + p3) / 2) + p2) (by omega)), hB 5 h2, hP 5 (w_ok ((((p1 + p3) / 2) + p2) - 1) (by omega)), hS 0 false (Fld.Q0 p0 6 rfl), hP 3 (w_ok (y7_1 - y7_2) (by have g0 := hy3; omega)), hB 3 h3, hB 3 h4, hQ (Fld.Q0 (Q7 n0 p0 y7_2 p2 (y7_1 - y7_2)) 6 rfl), hB 9 h5, hB 3 h6, hB 3 h7] [aV [(0, Fld.rows p0)] hl3, aV [(0, Fld.rows (Q7 n0 p0 y7_2 p2 (y7_1 - y7_2)))] (Q1b n0 p0 y7_2 p2 (y7_1 - y7_2) hn (by have g0 := hy3; omega))] (by kernel_rfl)
theorem Qk9 (k : Nat) (ih : Q16 k) (n0 : Nat) (p0 : List Fld) (p1 : Int) (p2 : Int) (p3 : Int) (hn : List.length p0 = n0) (hq0 : 0 ≤ p1 ∧ p1 < p2 ∧ p2 < p3 ∧ p3 ≤ n0 ∧ (n0 : Int) ≤ 1152921504606846976) (hm : Int.toNat (p3 - p1) < k + 1) (h0 : ((p2 - p1) == 1) = false) (h1 : ((p3 - p2) == 1) = false) (h2 : (decide (((p1 + p3) / 2) < p2)) = false) (y7_0 : Int) (y7_1 : Int) (y7_2 : Int) (hy3 : y7_0 = ((p1 + p3) / 2) ∧ y7_1 = (((p1 + p3) / 2) + p2) ∧ p1 ≤ y7_2 ∧ y7_2 ≤ p2 ∧ y7_1 - y7_2 ≤ p3) (z3 : Nat → PV) (zo3 : Nat → List PV) (hl3 : Qb G (Q1l n0 p0 p1 p2 p3 ((p1 + p3) / 2) (((p1 + p3) / 2) + p2) p1 p2 ((((p1 + p3) / 2) + p2) - 1)) (.st (.exit 8) (Q1f n0 p0 p1 p2 p3 y7_0 y7_1 y7_2 z3 zo3))) (h3 : (decide (y7_2 < p2)) = true) (h4 : (decide (p2 < (y7_1 - y7_2))) = true) (h5 : (decide (p1 < y7_2)) = false) : Qb G (Q1k n0 p0 p1 p2 p3) (.ret (.tup []) [⟨6, 0, false, (Fld.rows (bif (decide (y7_0 < (y7_1 - y7_2))) then
   bif (decide ((y7_1 - y7_2) < p3)) then
    (Q6 k n0 (Q7 n0 p0 y7_2 p2 (y7_1 - y7_2)) y7_0 (y7_1 - y7_2) p3)
   else
    (Q7 n0 p0 y7_2 p2 (y7_1 - y7_2))
 else
   (Q7 n0 p0 y7_2 p2 (y7_1 - y7_2)))).flatten⟩]) := by
 have e0 := beq_eq_false_iff_ne.1 h0; have e1 := beq_eq_false_iff_ne.1 h1; have e2 := of_decide_eq_false h2; have e3 := of_decide_eq_true h3; have e4 := of_decide_eq_true h4; have e5 := of_decide_eq_false h5
 cases h6 : (decide (y7_0 < (y7_1 - y7_2))) with
 | true =>
  have e6 := of_decide_eq_true h6
  cases h7 : (decide ((y7_1 - y7_2) < p3)) with
  | true =>
   have e7 := of_decide_eq_true h7
   exact Qc (fn := Ir.K17) rfl (vk1 (Fld.Q0 p0 6 rfl)) [hP 2 (w_ok (p2 - p1) (by omega)), hB 0 h0, hP 2 (w_ok (p3 - p2) (by omega)), hB 0 h1, hP 2 (w_ok (p1 + p3) (by omega)), hP 0 (Qv (p1 + p3) (by omega)), hP 0 (Q17 (p1 + p3)), hP 0 (Qw ((p1 + p3) / 2) (by omega)), hP 3 (w_ok (((p1 + p3) / 2) + p2) (by omega)), hB 5 h2, hP 5 (w_ok ((((p1 + p3) / 2) + p2) - 1) (by omega)), hS 0 false (Fld.Q0 p0 6 rfl), hP 3 (w_ok (y7_1 - y7_2) (by have g0 := hy3; omega)), hB 3 h3, hB 3 h4, hQ (Fld.Q0 (Q7 n0 p0 y7_2 p2 (y7_1 - y7_2)) 6 rfl), hB 9 h5, hB 7 h6, hB 3 h7, hQ (Fld.Q0 (Q6 k n0 (Q7 n0 p0 y7_2 p2 (y7_1 - y7_2)) y7_0 (y7_1 - y7_2) p3) 6 rfl)] [aV [(0, Fld.rows p0)] hl3, aV [(0, Fld.rows (Q7 n0 p0 y7_2 p2 (y7_1 - y7_2)))] (Q1b n0 p0 y7_2 p2 (y7_1 - y7_2) hn (by have g0 := hy3; omega)), aV [(0, Fld.rows (Q6 k n0 (Q7 n0 p0 y7_2 p2 (y7_1 - y7_2)) y7_0 (y7_1 - y7_2) p3))] (ih n0 (Q7 n0 p0 y7_2 p2 (y7_1 - y7_2)) y7_0 (y7_1 - y7_2) p3 (Qe n0 p0 y7_2 p2 (y7_1 - y7_2) hn) (by have f0 := (Qe n0 p0 y7_2 p2 (y7_1 - y7_2) hn); have g0 := hy3; omega) (by have f0 := (Qe n0 p0 y7_2 p2 (y7_1 - y7_2) hn); have g0 := hy3; omega))] (by kernel_rfl)
  | false =>
   have e7 := of_decide_eq_false h7
   exact Qc (fn := Ir.K17) rfl (vk1 (Fld.Q0 p0 6 rfl)) [hP 2 (w_ok (p2 - p1) (by omega)), hB 0 h0, hP 2 (w_ok (p3 - p2) (by omega)), hB 0 h1, hP 2 (w_ok (p1 + p3) (by omega)), hP 0 (Qv (p1 + p3) (by omega)), hP 0 (Q17 (p1 + p3)), hP 0 (Qw ((p1 + p3) / 2) (by omega)), hP 3 (w_ok (((p1 + p3) / 2) + p2) (by omega)), hB 5 h2, hP 5 (w_ok ((((p1 + p3) / 2) + p2) - 1) (by omega)), hS 0 false (Fld.Q0 p0 6 rfl), hP 3 (w_ok (y7_1 - y7_2) (by have g0 := hy3; omega)), hB 3 h3, hB 3 h4, hQ (Fld.Q0 (Q7 n0 p0 y7_2 p2 (y7_1 - y7_2)) 6 rfl), hB 9 h5, hB 7 h6, hB 3 h7] [aV [(0, Fld.rows p0)] hl3, aV [(0, Fld.rows (Q7 n0 p0 y7_2 p2 (y7_1 - y7_2)))] (Q1b n0 p0 y7_2 p2 (y7_1 - y7_2) hn (by have g0 := hy3; omega))] (by kernel_rfl)
 | false =>
  have e6 := of_decide_eq_false h6
  exact Qc (fn := Ir.K17) rfl (vk1 (Fld.Q0 p0 6 rfl)) [hP 2 (w_ok (p2 - p1) (by omega)), hB 0 h0, hP 2 (w_ok (p3 - p2) (by omega)), hB 0 h1, hP 2 (w_ok (p1 + p3) (by omega)), hP 0 (Qv (p1 + p3) (by omega)), hP 0 (Q17 (p1 + p3)), hP 0 (Qw ((p1 + p3) / 2) (by omega)), hP 3 (w_ok (((p1 + p3) / 2) + p2) (by omega)), hB 5 h2, hP 5 (w_ok ((((p1 + p3) / 2) + p2) - 1) (by omega)), hS 0 false (Fld.Q0 p0 6 rfl), hP 3 (w_ok (y7_1 - y7_2) (by have g0 := hy3; omega)), hB 3 h3, hB 3 h4, hQ (Fld.Q0 (Q7 n0 p0 y7_2 p2 (y7_1 - y7_2)) 6 rfl), hB 9 h5, hB 7 h6] [aV [(0, Fld.rows p0)] hl3, aV [(0, Fld.rows (Q7 n0 p0 y7_2 p2 (y7_1 - y7_2)))] (Q1b n0 p0 y7_2 p2 (y7_1 - y7_2) hn (by have g0 := hy3; omega))] (by kernel_rfl)
theorem Qiw (k : Nat) (ih : Q16 k) (n0 : Nat) (p0 : List Fld) (p1 : Int) (p2 : Int) (p3 : Int) (hn : List.length p0 = n0) (hq0 : 0 ≤ p1 ∧ p1 < p2 ∧ p2 < p3 ∧ p3 ≤ n0 ∧ (n0 : Int) ≤ 1152921504606846976) (_hm : Int.toNat (p3 - p1) < k + 1) (h0 : ((p2 - p1) == 1) = false) (h1 : ((p3 - p2) == 1) = false) (h2 : (decide (((p1 + p3) / 2) < p2)) = false) (y7_0 : Int) (y7_1 : Int) (y7_2 : Int) (hy3 : y7_0 = ((p1 + p3) / 2) ∧ y7_1 = (((p1 + p3) / 2) + p2) ∧ p1 ≤ y7_2 ∧ y7_2 ≤ p2 ∧ y7_1 - y7_2 ≤ p3) (z3 : Nat → PV) (zo3 : Nat → List PV) (hl3 : Qb G (Q1l n0 p0 p1 p2 p3 ((p1 + p3) / 2) (((p1 + p3) / 2) + p2) p1 p2 ((((p1 + p3) / 2) + p2) - 1)) (.st (.exit 8) (Q1f n0 p0 p1 p2 p3 y7_0 y7_1 y7_2 z3 zo3))) (h3 : (decide (y7_2 < p2)) = true) (h4 : (decide (p2 < (y7_1 - y7_2))) = false) (h5 : (decide (p1 < y7_2)) = true) : Qb G (Q1k n0 p0 p1 p2 p3) (.ret (.tup []) [⟨6, 0, false, (Fld.rows (bif (decide (y7_2 < y7_0)) then
   bif (decide (y7_0 < (y7_1 - y7_2))) then
     bif (decide ((y7_1 - y7_2) < p3)) then
      (Q6 k n0 (Q6 k n0 p0 p1 y7_2 y7_0) y7_0 (y7_1 - y7_2) p3)
     else
      (Q6 k n0 p0 p1 y7_2 y7_0)
   else
     (Q6 k n0 p0 p1 y7_2 y7_0)
 else
   bif (decide (y7_0 < (y7_1 - y7_2))) then
     bif (decide ((y7_1 - y7_2) < p3)) then
      (Q6 k n0 p0 y7_0 (y7_1 - y7_2) p3)
     else
      p0
   else
     p0)).flatten⟩]) := by
 have e0 := beq_eq_false_iff_ne.1 h0; have e1 := beq_eq_false_iff_ne.1 h1; have e2 := of_decide_eq_false h2; have e3 := of_decide_eq_true h3; have e4 := of_decide_eq_false h4; have e5 := of_decide_eq_true h5
 cases h6 : (decide (y7_2 < y7_0)) with
 | true =>
  have e6 := of_decide_eq_true h6
  cases h7 : (decide (y7_0 < (y7_1 - y7_2))) with
  | true =>
   have e7 := of_decide_eq_true h7
   cases h8 : (decide ((y7_1 - y7_2) < p3)) with
   | true =>
    have e8 := of_decide_eq_true h8
    exact Qc (fn := Ir.K17) rfl (vk1 (Fld.Q0 p0 6 rfl)) [hP 2 (w_ok (p2 - p1) (by omega)), hB 0 h0, hP 2 (w_ok (p3 - p2) (by omega)), hB 0 h1, hP 2 (w_ok (p1 + p3) (by omega)), hP 0 (Qv (p1 + p3) (by omega)), hP 0 (Q17 (p1 + p3)), hP 0 (Qw ((p1 + p3) / 2) (by omega)), hP 3 (w_ok (((p1 + p3) / 2) + p2) (by omega)), hB 5 h2, hP 5 (w_ok ((((p1 + p3) / 2) + p2) - 1) (by omega)), hS 0 false (Fld.Q0 p0 6 rfl), hP 3 (w_ok (y7_1 - y7_2) (by have g0 := hy3; omega)), hB 3 h3, hB 3 h4, hB 3 h5, hB 3 h6, hQ (Fld.Q0 (Q6 k n0 p0 p1 y7_2 y7_0) 6 rfl), hB 9 h7, hB 3 h8, hQ (Fld.Q0 (Q6 k n0 (Q6 k n0 p0 p1 y7_2 y7_0) y7_0 (y7_1 - y7_2) p3) 6 rfl)] [aV [(0, Fld.rows p0)] hl3, aV [(0, Fld.rows (Q6 k n0 p0 p1 y7_2 y7_0))] (ih n0 p0 p1 y7_2 y7_0 hn (by have g0 := hy3; omega) (by have g0 := hy3; omega)), aV [(0, Fld.rows (Q6 k n0 (Q6 k n0 p0 p1 y7_2 y7_0) y7_0 (y7_1 - y7_2) p3))] (ih n0 (Q6 k n0 p0 p1 y7_2 y7_0) y7_0 (y7_1 - y7_2) p3 (Q8 k n0 p0 p1 y7_2 y7_0 hn) (by have f0 := (Q8 k n0 p0 p1 y7_2 y7_0 hn); have g0 := hy3; omega) (by have f0 := (Q8 k n0 p0 p1 y7_2 y7_0 hn); have g0 := hy3; omega))] (by kernel_rfl)
   | false =>
    have e8 := of_decide_eq_false h8
    exact Qc (fn := Ir.K17) rfl (vk1 (Fld.Q0 p0 6 rfl)) [hP 2 (w_ok (p2 - p1) (by omega)), hB 0 h0, hP 2 (w_ok (p3 - p2) (by omega)), hB 0 h1, hP 2 (w_ok (p1 + p3) (by omega)), hP 0 (Qv (p1 + p3) (by omega)), hP 0 (Q17 (p1 + p3)), hP 0 (Qw ((p1 + p3) / 2) (by omega)), hP 3 (w_ok (((p1 + p3) / 2) + p2) (by omega)), hB 5 h2, hP 5 (w_ok ((((p1 + p3) / 2) + p2) - 1) (by omega)), hS 0 false (Fld.Q0 p0 6 rfl), hP 3 (w_ok (y7_1 - y7_2) (by have g0 := hy3; omega)), hB 3 h3, hB 3 h4, hB 3 h5, hB 3 h6, hQ (Fld.Q0 (Q6 k n0 p0 p1 y7_2 y7_0) 6 rfl), hB 9 h7, hB 3 h8] [aV [(0, Fld.rows p0)] hl3, aV [(0, Fld.rows (Q6 k n0 p0 p1 y7_2 y7_0))] (ih n0 p0 p1 y7_2 y7_0 hn (by have g0 := hy3; omega) (by have g0 := hy3; omega))] (by kernel_rfl)
  | false =>
   have e7 := of_decide_eq_false h7
   exact Qc (fn := Ir.K17) rfl (vk1 (Fld.Q0 p0 6 rfl)) [hP 2 (w_ok (p2 - p1) (by omega)), hB 0 h0, hP 2 (w_ok (p3 - p2) (by omega)), hB 0 h1, hP 2 (w_ok (p1 + p3) (by omega)), hP 0 (Qv (p1 + p3) (by omega)), hP 0 (Q17 (p1 + p3)), hP 0 (Qw ((p1 + p3) / 2) (by omega)), hP 3 (w_ok (((p1 + p3) / 2) + p2) (by omega)), hB 5 h2, hP 5 (w_ok ((((p1 + p3) / 2) + p2) - 1) (by omega)), hS 0 false (Fld.Q0 p0 6 rfl), hP 3 (w_ok (y7_1 - y7_2) (by have g0 := hy3; omega)), hB 3 h3, hB 3 h4, hB 3 h5, hB 3 h6, hQ (Fld.Q0 (Q6 k n0 p0 p1 y7_2 y7_0) 6 rfl), hB 9 h7] [aV [(0, Fld.rows p0)] hl3, aV [(0, Fld.rows (Q6 k n0 p0 p1 y7_2 y7_0))] (ih n0 p0 p1 y7_2 y7_0 hn (by have g0 := hy3; omega) (by have g0 := hy3; omega))] (by kernel_rfl)
 | false =>
  have e6 := of_decide_eq_false h6
  cases h7 : (decide (y7_0 < (y7_1 - y7_2))) with
  | true =>
   have e7 := of_decide_eq_true h7
   cases h8 : (decide ((y7_1 - y7_2) < p3)) with
   | true =>
    have e8 := of_decide_eq_true h8
    exact Qc (fn := Ir.K17) rfl (vk1 (Fld.Q0 p0 6 rfl)) [hP 2 (w_ok (p2 - p1) (by omega)), hB 0 h0, hP 2 (w_ok (p3 - p2) (by omega)), hB 0 h1, hP 2 (w_ok (p1 + p3) (by omega)), hP 0 (Qv (p1 + p3) (by omega)), hP 0 (Q17 (p1 + p3)), hP 0 (Qw ((p1 + p3) / 2) (by omega)), hP 3 (w_ok (((p1 + p3) / 2) + p2) (by omega)), hB 5 h2, hP 5 (w_ok ((((p1 + p3) / 2) + p2) - 1) (by omega)), hS 0 false (Fld.Q0 p0 6 rfl), hP 3 (w_ok (y7_1 - y7_2) (by have g0 := hy3; omega)), hB 3 h3, hB 3 h4, hB 3 h5, hB 3 h6, hB 3 h7, hB 3 h8, hQ (Fld.Q0 (Q6 k n0 p0 y7_0 (y7_1 - y7_2) p3) 6 rfl)] [aV [(0, Fld.rows p0)] hl3, aV [(0, Fld.rows (Q6 k n0 p0 y7_0 (y7_1 - y7_2) p3))] (ih n0 p0 y7_0 (y7_1 - y7_2) p3 hn (by have g0 := hy3; omega) (by have g0 := hy3; omega))] (by kernel_rfl)
   | false =>
    have e8 := of_decide_eq_false h8
    exact Qc (fn := Ir.K17) rfl (vk1 (Fld.Q0 p0 6 rfl)) [hP 2 (w_ok (p2 - p1) (by omega)), hB 0 h0, hP 2 (w_ok (p3 - p2) (by omega)), hB 0 h1, hP 2 (w_ok (p1 + p3) (by omega)), hP 0 (Qv (p1 + p3) (by omega)), hP 0 (Q17 (p1 + p3)), hP 0 (Qw ((p1 + p3) / 2) (by omega)), hP 3 (w_ok (((p1 + p3) / 2) + p2) (by omega)), hB 5 h2, hP 5 (w_ok ((((p1 + p3) / 2) + p2) - 1) (by omega)), hS 0 false (Fld.Q0 p0 6 rfl), hP 3 (w_ok (y7_1 - y7_2) (by have g0 := hy3; omega)), hB 3 h3, hB 3 h4, hB 3 h5, hB 3 h6, hB 3 h7, hB 3 h8] [aV [(0, Fld.rows p0)] hl3] (by kernel_rfl)
  | false =>
   have e7 := of_decide_eq_false h7
   exact Qc (fn := Ir.K17) rfl (vk1 (Fld.Q0 p0 6 rfl)) [hP 2 (w_ok (p2 - p1) (by omega)), hB 0 h0, hP 2 (w_ok (p3 - p2) (by omega)), hB 0 h1, hP 2 (w_ok (p1 + p3) (by omega)), hP 0 (Qv (p1 + p3) (by omega)), hP 0 (Q17 (p1 + p3)), hP 0 (Qw ((p1 + p3) / 2) (by omega)), hP 3 (w_ok (((p1 + p3) / 2) + p2) (by omega)), hB 5 h2, hP 5 (w_ok ((((p1 + p3) / 2) + p2) - 1) (by omega)), hS 0 false (Fld.Q0 p0 6 rfl), hP 3 (w_ok (y7_1 - y7_2) (by have g0 := hy3; omega)), hB 3 h3, hB 3 h4, hB 3 h5, hB 3 h6, hB 3 h7] [aV [(0, Fld.rows p0)] hl3] (by kernel_rfl)
theorem Qj8 (k : Nat) (ih : Q16 k) (n0 : Nat) (p0 : List Fld) (p1 : Int) (p2 : Int) (p3 : Int) (hn : List.length p0 = n0) (hq0 : 0 ≤ p1 ∧ p1 < p2 ∧ p2 < p3 ∧ p3 ≤ n0 ∧ (n0 : Int) ≤ 1152921504606846976) (_hm : Int.toNat (p3 - p1) < k + 1) (h0 : ((p2 - p1) == 1) = false) (h1 : ((p3 - p2) == 1) = false) (h2 : (decide (((p1 + p3) / 2) < p2)) = false) (y7_0 : Int) (y7_1 : Int) (y7_2 : Int) (hy3 : y7_0 = ((p1 + p3) / 2) ∧ y7_1 = (((p1 + p3) / 2) + p2) ∧ p1 ≤ y7_2 ∧ y7_2 ≤ p2 ∧ y7_1 - y7_2 ≤ p3) (z3 : Nat → PV) (zo3 : Nat → List PV) (hl3 : Qb G (Q1l n0 p0 p1 p2 p3 ((p1 + p3) / 2) (((p1 + p3) / 2) + p2) p1 p2 ((((p1 + p3) / 2) + p2) - 1)) (.st (.exit 8) (Q1f n0 p0 p1 p2 p3 y7_0 y7_1 y7_2 z3 zo3))) (h3 : (decide (y7_2 < p2)) = true) (h4 : (decide (p2 < (y7_1 - y7_2))) = false) (h5 : (decide (p1 < y7_2)) = false) : Qb G (Q1k n0 p0 p1 p2 p3) (.ret (.tup []) [⟨6, 0, false, (Fld.rows (bif (decide (y7_0 < (y7_1 - y7_2))) then
   bif (decide ((y7_1 - y7_2) < p3)) then
    (Q6 k n0 p0 y7_0 (y7_1 - y7_2) p3)
   else
    p0
 else
   p0)).flatten⟩]) := by
 have e0 := beq_eq_false_iff_ne.1 h0; have e1 := beq_eq_false_iff_ne.1 h1; have e2 := of_decide_eq_false h2; have e3 := of_decide_eq_true h3; have e4 := of_decide_eq_false h4; have e5 := of_decide_eq_false h5
 cases h6 : (decide (y7_0 < (y7_1 - y7_2))) with
 | true =>
  have e6 := of_decide_eq_true h6
  cases h7 : (decide ((y7_1 - y7_2) < p3)) with
  | true =>
   have e7 := of_decide_eq_true h7
   exact Qc (fn := Ir.K17) rfl (vk1 (Fld.Q0 p0 6 rfl)) [hP 2 (w_ok (p2 - p1) (by omega)), hB 0 h0, hP 2 (w_ok (p3 - p2) (by omega)), hB 0 h1, hP 2 (w_ok (p1 + p3) (by omega)), hP 0 (Qv (p1 + p3) (by omega)), hP 0 (Q17 (p1 + p3)), hP 0 (Qw ((p1 + p3) / 2) (by omega)), hP 3 (w_ok (((p1 + p3) / 2) + p2) (by omega)), hB 5 h2, hP 5 (w_ok ((((p1 + p3) / 2) + p2) - 1) (by omega)), hS 0 false (Fld.Q0 p0 6 rfl), hP 3 (w_ok (y7_1 - y7_2) (by have g0 := hy3; omega)), hB 3 h3, hB 3 h4, hB 3 h5, hB 7 h6, hB 3 h7, hQ (Fld.Q0 (Q6 k n0 p0 y7_0 (y7_1 - y7_2) p3) 6 rfl)] [aV [(0, Fld.rows p0)] hl3, aV [(0, Fld.rows (Q6 k n0 p0 y7_0 (y7_1 - y7_2) p3))] (ih n0 p0 y7_0 (y7_1 - y7_2) p3 hn (by have g0 := hy3; omega) (by have g0 := hy3; omega))] (by kernel_rfl)
  | false =>
   have e7 := of_decide_eq_false h7
   exact Qc (fn := Ir.K17) rfl (vk1 (Fld.Q0 p0 6 rfl)) [hP 2 (w_ok (p2 - p1) (by omega)), hB 0 h0, hP 2 (w_ok (p3 - p2) (by omega)), hB 0 h1, hP 2 (w_ok (p1 + p3) (by omega)), hP 0 (Qv (p1 + p3) (by omega)), hP 0 (Q17 (p1 + p3)), hP 0 (Qw ((p1 + p3) / 2) (by omega)), hP 3 (w_ok (((p1 + p3) / 2) + p2) (by omega)), hB 5 h2, hP 5 (w_ok ((((p1 + p3) / 2) + p2) - 1) (by omega)), hS 0 false (Fld.Q0 p0 6 rfl), hP 3 (w_ok (y7_1 - y7_2) (by have g0 := hy3; omega)), hB 3 h3, hB 3 h4, hB 3 h5, hB 7 h6, hB 3 h7] [aV [(0, Fld.rows p0)] hl3] (by kernel_rfl)
 | false =>
  have e6 := of_decide_eq_false h6
  exact Qc (fn := Ir.K17) rfl (vk1 (Fld.Q0 p0 6 rfl)) [hP 2 (w_ok (p2 - p1) (by omega)), hB 0 h0, hP 2 (w_ok (p3 - p2) (by omega)), hB 0 h1, hP 2 (w_ok (p1 + p3) (by omega)), hP 0 (Qv (p1 + p3) (by omega)), hP 0 (Q17 (p1 + p3)), hP 0 (Qw ((p1 + p3) / 2) (by omega)), hP 3 (w_ok (((p1 + p3) / 2) + p2) (by omega)), hB 5 h2, hP 5 (w_ok ((((p1 + p3) / 2) + p2) - 1) (by omega)), hS 0 false (Fld.Q0 p0 6 rfl), hP 3 (w_ok (y7_1 - y7_2) (by have g0 := hy3; omega)), hB 3 h3, hB 3 h4, hB 3 h5, hB 7 h6] [aV [(0, Fld.rows p0)] hl3] (by kernel_rfl)
theorem Qja (k : Nat) (ih : Q16 k) (n0 : Nat) (p0 : List Fld) (p1 : Int) (p2 : Int) (p3 : Int) (hn : List.length p0 = n0) (hq0 : 0 ≤ p1 ∧ p1 < p2 ∧ p2 < p3 ∧ p3 ≤ n0 ∧ (n0 : Int) ≤ 1152921504606846976) (hm : Int.toNat (p3 - p1) < k + 1) (h0 : ((p2 - p1) == 1) = false) (h1 : ((p3 - p2) == 1) = false) (h2 : (decide (((p1 + p3) / 2) < p2)) = false) (y7_0 : Int) (y7_1 : Int) (y7_2 : Int) (hy3 : y7_0 = ((p1 + p3) / 2) ∧ y7_1 = (((p1 + p3) / 2) + p2) ∧ p1 ≤ y7_2 ∧ y7_2 ≤ p2 ∧ y7_1 - y7_2 ≤ p3) (z3 : Nat → PV) (zo3 : Nat → List PV) (hl3 : Qb G (Q1l n0 p0 p1 p2 p3 ((p1 + p3) / 2) (((p1 + p3) / 2) + p2) p1 p2 ((((p1 + p3) / 2) + p2) - 1)) (.st (.exit 8) (Q1f n0 p0 p1 p2 p3 y7_0 y7_1 y7_2 z3 zo3))) (h3 : (decide (y7_2 < p2)) = false) (h4 : (decide (p1 < y7_2)) = true) : Qb G (Q1k n0 p0 p1 p2 p3) (.ret (.tup []) [⟨6, 0, false, (Fld.rows (bif (decide (y7_2 < y7_0)) then
   bif (decide (y7_0 < (y7_1 - y7_2))) then
     bif (decide ((y7_1 - y7_2) < p3)) then
      (Q6 k n0 (Q6 k n0 p0 p1 y7_2 y7_0) y7_0 (y7_1 - y7_2) p3)
     else
      (Q6 k n0 p0 p1 y7_2 y7_0)
   else
     (Q6 k n0 p0 p1 y7_2 y7_0)
 else
   bif (decide (y7_0 < (y7_1 - y7_2))) then
     bif (decide ((y7_1 - y7_2) < p3)) then
      (Q6 k n0 p0 y7_0 (y7_1 - y7_2) p3)
     else
      p0
   else
     p0)).flatten⟩]) := by
 have e0 := beq_eq_false_iff_ne.1 h0; have e1 := beq_eq_false_iff_ne.1 h1; have e2 := of_decide_eq_false h2; have e3 := of_decide_eq_false h3; have e4 := of_decide_eq_true h4
 cases h5 : (decide (y7_2 < y7_0)) with
 | true =>
  have e5 := of_decide_eq_true h5
  cases h6 : (decide (y7_0 < (y7_1 - y7_2))) with
  | true =>
   have e6 := of_decide_eq_true h6
   cases h7 : (decide ((y7_1 - y7_2) < p3)) with
   | true =>
    have e7 := of_decide_eq_true h7
    exact Qc (fn := Ir.K17) rfl (vk1 (Fld.Q0 p0 6 rfl)) [hP 2 (w_ok (p2 - p1) (by omega)), hB 0 h0, hP 2 (w_ok (p3 - p2) (by omega)), hB 0 h1, hP 2 (w_ok (p1 + p3) (by omega)), hP 0 (Qv (p1 + p3) (by omega)), hP 0 (Q17 (p1 + p3)), hP 0 (Qw ((p1 + p3) / 2) (by omega)), hP 3 (w_ok (((p1 + p3) / 2) + p2) (by omega)), hB 5 h2, hP 5 (w_ok ((((p1 + p3) / 2) + p2) - 1) (by omega)), hS 0 false (Fld.Q0 p0 6 rfl), hP 3 (w_ok (y7_1 - y7_2) (by have g0 := hy3; omega)), hB 3 h3, hB 7 h4, hB 3 h5, hQ (Fld.Q0 (Q6 k n0 p0 p1 y7_2 y7_0) 6 rfl), hB 9 h6, hB 3 h7, hQ (Fld.Q0 (Q6 k n0 (Q6 k n0 p0 p1 y7_2 y7_0) y7_0 (y7_1 - y7_2) p3) 6 rfl)] [aV [(0, Fld.rows p0)] hl3, aV [(0, Fld.rows (Q6 k n0 p0 p1 y7_2 y7_0))] (ih n0 p0 p1 y7_2 y7_0 hn (by have g0 := hy3; omega) (by have g0 := hy3; omega)), aV [(0, Fld.rows (Q6 k n0 (Q6 k n0 p0 p1 y7_2 y7_0) y7_0 (y7_1 - y7_2) p3))] (ih n0 (Q6 k n0 p0 p1 y7_2 y7_0) y7_0 (y7_1 - y7_2) p3 (Q8 k n0 p0 p1 y7_2 y7_0 hn) (by have f0 := (Q8 k n0 p0 p1 y7_2 y7_0 hn); have g0 := hy3; omega) (by have f0 := (Q8 k n0 p0 p1 y7_2 y7_0 hn); have g0 := hy3; omega))] (by kernel_rfl)
   | false =>
    have e7 := of_decide_eq_false h7
    exact Qc (fn := Ir.K17) rfl (vk1 (Fld.Q0 p0 6 rfl)) [hP 2 (w_ok (p2 - p1) (by omega)), hB 0 h0, hP 2 (w_ok (p3 - p2) (by omega)), hB 0 h1, hP 2 (w_ok (p1 + p3) (by omega)), hP 0 (Qv (p1 + p3) (by omega)), hP 0 (Q17 (p1 + p3)), hP 0 (Qw ((p1 + p3) / 2) (by omega)), hP 3 (w_ok (((p1 + p3) / 2) + p2) (by omega)), hB 5 h2, hP 5 (w_ok ((((p1 + p3) / 2) + p2) - 1) (by omega)), hS 0 false (Fld.Q0 p0 6 rfl), hP 3 (w_ok (y7_1 - y7_2) (by have g0 := hy3; omega)), hB 3 h3, hB 7 h4, hB 3 h5, hQ (Fld.Q0 (Q6 k n0 p0 p1 y7_2 y7_0) 6 rfl), hB 9 h6, hB 3 h7] [aV [(0, Fld.rows p0)] hl3, aV [(0, Fld.rows (Q6 k n0 p0 p1 y7_2 y7_0))] (ih n0 p0 p1 y7_2 y7_0 hn (by have g0 := hy3; omega) (by have g0 := hy3; omega))] (by kernel_rfl)
  | false =>
   have e6 := of_decide_eq_false h6
   exact Qc (fn := Ir.K17) rfl (vk1 (Fld.Q0 p0 6 rfl)) [hP 2 (w_ok (p2 - p1) (by omega)), hB 0 h0, hP 2 (w_ok (p3 - p2) (by omega)), hB 0 h1, hP 2 (w_ok (p1 + p3) (by omega)), hP 0 (Qv (p1 + p3) (by omega)), hP 0 (Q17 (p1 + p3)), hP 0 (Qw ((p1 + p3) / 2) (by omega)), hP 3 (w_ok (((p1 + p3) / 2) + p2) (by omega)), hB 5 h2, hP 5 (w_ok ((((p1 + p3) / 2) + p2) - 1) (by omega)), hS 0 false (Fld.Q0 p0 6 rfl), hP 3 (w_ok (y7_1 - y7_2) (by have g0 := hy3; omega)), hB 3 h3, hB 7 h4, hB 3 h5, hQ (Fld.Q0 (Q6 k n0 p0 p1 y7_2 y7_0) 6 rfl), hB 9 h6] [aV [(0, Fld.rows p0)] hl3, aV [(0, Fld.rows (Q6 k n0 p0 p1 y7_2 y7_0))] (ih n0 p0 p1 y7_2 y7_0 hn (by have g0 := hy3; omega) (by have g0 := hy3; omega))] (by kernel_rfl)
 | false =>
  have e5 := of_decide_eq_false h5
  cases h6 : (decide (y7_0 < (y7_1 - y7_2))) with
  | true =>
   have e6 := of_decide_eq_true h6
   cases h7 : (decide ((y7_1 - y7_2) < p3)) with
   | true =>
    have e7 := of_decide_eq_true h7
    exact Qc (fn := Ir.K17) rfl (vk1 (Fld.Q0 p0 6 rfl)) [hP 2 (w_ok (p2 - p1) (by omega)), hB 0 h0, hP 2 (w_ok (p3 - p2) (by omega)), hB 0 h1, hP 2 (w_ok (p1 + p3) (by omega)), hP 0 (Qv (p1 + p3) (by omega)), hP 0 (Q17 (p1 + p3)), hP 0 (Qw ((p1 + p3) / 2) (by omega)), hP 3 (w_ok (((p1 + p3) / 2) + p2) (by omega)), hB 5 h2, hP 5 (w_ok ((((p1 + p3) / 2) + p2) - 1) (by omega)), hS 0 false (Fld.Q0 p0 6 rfl), hP 3 (w_ok (y7_1 - y7_2) (by have g0 := hy3; omega)), hB 3 h3, hB 7 h4, hB 3 h5, hB 3 h6, hB 3 h7, hQ (Fld.Q0 (Q6 k n0 p0 y7_0 (y7_1 - y7_2) p3) 6 rfl)] [aV [(0, Fld.rows p0)] hl3, aV [(0, Fld.rows (Q6 k n0 p0 y7_0 (y7_1 - y7_2) p3))] (ih n0 p0 y7_0 (y7_1 - y7_2) p3 hn (by have g0 := hy3; omega) (by have g0 := hy3; omega))] (by kernel_rfl)
   | false =>
    have e7 := of_decide_eq_false h7
    exact Qc (fn := Ir.K17) rfl (vk1 (Fld.Q0 p0 6 rfl)) [hP 2 (w_ok (p2 - p1) (by omega)), hB 0 h0, hP 2 (w_ok (p3 - p2) (by omega)), hB 0 h1, hP 2 (w_ok (p1 + p3) (by omega)), hP 0 (Qv (p1 + p3) (by omega)), hP 0 (Q17 (p1 + p3)), hP 0 (Qw ((p1 + p3) / 2) (by omega)), hP 3 (w_ok (((p1 + p3) / 2) + p2) (by omega)), hB 5 h2, hP 5 (w_ok ((((p1 + p3) / 2) + p2) - 1) (by omega)), hS 0 false (Fld.Q0 p0 6 rfl), hP 3 (w_ok (y7_1 - y7_2) (by have g0 := hy3; omega)), hB 3 h3, hB 7 h4, hB 3 h5, hB 3 h6, hB 3 h7] [aV [(0, Fld.rows p0)] hl3] (by kernel_rfl)
  | false =>
   have e6 := of_decide_eq_false h6
   exact Qc (fn := Ir.K17) rfl (vk1 (Fld.Q0 p0 6 rfl)) [hP 2 (w_ok (p2 - p1) (by omega)), hB 0 h0, hP 2 (w_ok (p3 - p2) (by omega)), hB 0 h1, hP 2 (w_ok (p1 + p3) (by omega)), hP 0 (Qv (p1 + p3) (by omega)), hP 0 (Q17 (p1 + p3)), hP 0 (Qw ((p1 + p3) / 2) (by omega)), hP 3 (w_ok (((p1 + p3) / 2) + p2) (by omega)), hB 5 h2, hP 5 (w_ok ((((p1 + p3) / 2) + p2) - 1) (by omega)), hS 0 false (Fld.Q0 p0 6 rfl), hP 3 (w_ok (y7_1 - y7_2) (by have g0 := hy3; omega)), hB 3 h3, hB 7 h4, hB 3 h5, hB 3 h6] [aV [(0, Fld.rows p0)] hl3] (by kernel_rfl)
theorem Qi2 (k : Nat) (ih : Q16 k) (n0 : Nat) (p0 : List Fld) (p1 : Int) (p2 : Int) (p3 : Int) (hn : List.length p0 = n0) (hq0 : 0 ≤ p1 ∧ p1 < p2 ∧ p2 < p3 ∧ p3 ≤ n0 ∧ (n0 : Int) ≤ 1152921504606846976) (_hm : Int.toNat (p3 - p1) < k + 1) (h0 : ((p2 - p1) == 1) = false) (h1 : ((p3 - p2) == 1) = false) (h2 : (decide (((p1 + p3) / 2) < p2)) = false) (y7_0 : Int) (y7_1 : Int) (y7_2 : Int) (hy3 : y7_0 = ((p1 + p3) / 2) ∧ y7_1 = (((p1 + p3) / 2) + p2) ∧ p1 ≤ y7_2 ∧ y7_2 ≤ p2 ∧ y7_1 - y7_2 ≤ p3) (z3 : Nat → PV) (zo3 : Nat → List PV) (hl3 : Qb G (Q1l n0 p0 p1 p2 p3 ((p1 + p3) / 2) (((p1 + p3) / 2) + p2) p1 p2 ((((p1 + p3) / 2) + p2) - 1)) (.st (.exit 8) (Q1f n0 p0 p1 p2 p3 y7_0 y7_1 y7_2 z3 zo3))) (h3 : (decide (y7_2 < p2)) = false) (h4 : (decide (p1 < y7_2)) = false) : Qb G (Q1k n0 p0 p1 p2 p3) (.ret (.tup []) [⟨6, 0, false, (Fld.rows (bif (decide (y7_0 < (y7_1 - y7_2))) then
   bif (decide ((y7_1 - y7_2) < p3)) then
    (Q6 k n0 p0 y7_0 (y7_1 - y7_2) p3)
   else
    p0
 else
   p0)).flatten⟩]) := by
 have e0 := beq_eq_false_iff_ne.1 h0; have e1 := beq_eq_false_iff_ne.1 h1; have e2 := of_decide_eq_false h2; have e3 := of_decide_eq_false h3; have e4 := of_decide_eq_false h4
 cases h5 : (decide (y7_0 < (y7_1 - y7_2))) with
 | true =>
  have e5 := of_decide_eq_true h5
  cases h6 : (decide ((y7_1 - y7_2) < p3)) with
  | true =>
   have e6 := of_decide_eq_true h6
   exact Qc (fn := Ir.K17) rfl (vk1 (Fld.Q0 p0 6 rfl)) [hP 2 (w_ok (p2 - p1) (by omega)), hB 0 h0, hP 2 (w_ok (p3 - p2) (by omega)), hB 0 h1, hP 2 (w_ok (p1 + p3) (by omega)), hP 0 (Qv (p1 + p3) (by omega)), hP 0 (Q17 (p1 + p3)), hP 0 (Qw ((p1 + p3) / 2) (by omega)), hP 3 (w_ok (((p1 + p3) / 2) + p2) (by omega)), hB 5 h2, hP 5 (w_ok ((((p1 + p3) / 2) + p2) - 1) (by omega)), hS 0 false (Fld.Q0 p0 6 rfl), hP 3 (w_ok (y7_1 - y7_2) (by have g0 := hy3; omega)), hB 3 h3, hB 7 h4, hB 7 h5, hB 3 h6, hQ (Fld.Q0 (Q6 k n0 p0 y7_0 (y7_1 - y7_2) p3) 6 rfl)] [aV [(0, Fld.rows p0)] hl3, aV [(0, Fld.rows (Q6 k n0 p0 y7_0 (y7_1 - y7_2) p3))] (ih n0 p0 y7_0 (y7_1 - y7_2) p3 hn (by have g0 := hy3; omega) (by have g0 := hy3; omega))] (by kernel_rfl)
  | false =>
   have e6 := of_decide_eq_false h6
   exact Qc (fn := Ir.K17) rfl (vk1 (Fld.Q0 p0 6 rfl)) [hP 2 (w_ok (p2 - p1) (by omega)), hB 0 h0, hP 2 (w_ok (p3 - p2) (by omega)), hB 0 h1, hP 2 (w_ok (p1 + p3) (by omega)), hP 0 (Qv (p1 + p3) (by omega)), hP 0 (Q17 (p1 + p3)), hP 0 (Qw ((p1 + p3) / 2) (by omega)), hP 3 (w_ok (((p1 + p3) / 2) + p2) (by omega)), hB 5 h2, hP 5 (w_ok ((((p1 + p3) / 2) + p2) - 1) (by omega)), hS 0 false (Fld.Q0 p0 6 rfl), hP 3 (w_ok (y7_1 - y7_2) (by have g0 := hy3; omega)), hB 3 h3, hB 7 h4, hB 7 h5, hB 3 h6] [aV [(0, Fld.rows p0)] hl3] (by kernel_rfl)
 | false =>
  have e5 := of_decide_eq_false h5
  exact Qc (fn := Ir.K17) rfl (vk1 (Fld.Q0 p0 6 rfl)) [hP 2 (w_ok (p2 - p1) (by omega)), hB 0 h0, hP 2 (w_ok (p3 - p2) (by omega)), hB 0 h1, hP 2 (w_ok (p1 + p3) (by omega)), hP 0 (Qv (p1 + p3) (by omega)), hP 0 (Q17 (p1 + p3)), hP 0 (Qw ((p1 + p3) / 2) (by omega)), hP 3 (w_ok (((p1 + p3) / 2) + p2) (by omega)), hB 5 h2, hP 5 (w_ok ((((p1 + p3) / 2) + p2) - 1) (by omega)), hS 0 false (Fld.Q0 p0 6 rfl), hP 3 (w_ok (y7_1 - y7_2) (by have g0 := hy3; omega)), hB 3 h3, hB 7 h4, hB 7 h5] [aV [(0, Fld.rows p0)] hl3] (by kernel_rfl)
theorem Qqc (k : Nat) (ih : Q16 k) : Q16 (k + 1) := by
 intro n0 p0 p1 p2 p3 hn hq0 hm
 unfold Qgq
 rw [Q6]
 cases h0 : ((p2 - p1) == 1) with
 | true =>
  have e0 := eq_of_beq h0
  have hl1 := Qce n0 p0 p1 p2 p3 ((Int.toNat (p3 - p2)) + 1) p2 p3 (by omega) (by omega) (by omega) (by omega) (by omega) (by omega) (by omega) hn (by omega)
  have hy1 : p2 ≤ (Q1w n0 p0 p1 p2 p3 ((Int.toNat (p3 - p2)) + 1) p2 p3) ∧ (Q1w n0 p0 p1 p2 p3 ((Int.toNat (p3 - p2)) + 1) p2 p3) ≤ p3 := Qa5 n0 p0 p1 p2 p3 ((Int.toNat (p3 - p2)) + 1) p2 p3 (by omega) (by omega) (by omega) (by omega) (by omega) (by omega) (by omega) hn (by omega)
  obtain ⟨R2, eR2⟩ : ∃ R, (Q1w n0 p0 p1 p2 p3 ((Int.toNat (p3 - p2)) + 1) p2 p3) = R := ⟨_, rfl⟩
  rw [eR2] at hy1 hl1 ⊢
  obtain ⟨z1, zo1, hl1⟩ := hl1
  have hl2 := Qj5 n0 ((Int.toNat (R2 - p1)) + 1) R2 p0 p1 (by have g0 := hy1; omega) (by have g0 := hy1; omega) (by have g0 := hy1; omega) (by have g0 := hy1; omega) hn (by omega)
  have hz2_0 : List.length (Q26 n0 ((Int.toNat (R2 - p1)) + 1) R2 p0 p1) = n0 := Q6a n0 ((Int.toNat (R2 - p1)) + 1) R2 p0 p1 hn
  obtain ⟨R3, eR3⟩ : ∃ R, (Q26 n0 ((Int.toNat (R2 - p1)) + 1) R2 p0 p1) = R := ⟨_, rfl⟩
  rw [eR3] at hz2_0 hl2 ⊢
  obtain ⟨z2, zo2, hl2⟩ := hl2
  exact Qk2 k ih n0 p0 p1 p2 p3 hn hq0 hm h0 R2 hy1 z1 zo1 hl1 R3 hz2_0 z2 zo2 hl2
 | false =>
  have e0 := beq_eq_false_iff_ne.1 h0
  cases h1 : ((p3 - p2) == 1) with
  | true =>
   have e1 := eq_of_beq h1
   have hl2 := Qbg n0 p0 p1 p2 ((Int.toNat (p2 - p1)) + 1) p2 p1 (by omega) (by omega) (by omega) (by omega) (by omega) (by omega) hn (by omega)
   have hy2 : p1 ≤ (Q1x n0 p0 p1 p2 ((Int.toNat (p2 - p1)) + 1) p2 p1) ∧ (Q1x n0 p0 p1 p2 ((Int.toNat (p2 - p1)) + 1) p2 p1) ≤ p2 := Qa3 n0 p0 p1 p2 ((Int.toNat (p2 - p1)) + 1) p2 p1 (by omega) (by omega) (by omega) (by omega) (by omega) (by omega) hn (by omega)
   obtain ⟨R4, eR4⟩ : ∃ R, (Q1x n0 p0 p1 p2 ((Int.toNat (p2 - p1)) + 1) p2 p1) = R := ⟨_, rfl⟩
   rw [eR4] at hy2 hl2 ⊢
   obtain ⟨z2, zo2, hl2⟩ := hl2
   have hl3 := Qhk n0 ((Int.toNat (p2 - R4)) + 1) R4 p0 p2 (by have g0 := hy2; omega) (by have g0 := hy2; omega) (by have g0 := hy2; omega) hn (by omega)
   have hz3_0 : List.length (Q28 n0 ((Int.toNat (p2 - R4)) + 1) R4 p0 p2) = n0 := Q67 n0 ((Int.toNat (p2 - R4)) + 1) R4 p0 p2 hn
   obtain ⟨R5, eR5⟩ : ∃ R, (Q28 n0 ((Int.toNat (p2 - R4)) + 1) R4 p0 p2) = R := ⟨_, rfl⟩
   rw [eR5] at hz3_0 hl3 ⊢
   obtain ⟨z3, zo3, hl3⟩ := hl3
   exact Qk3 k ih n0 p0 p1 p2 p3 hn hq0 hm h0 h1 R4 hy2 z2 zo2 hl2 R5 hz3_0 z3 zo3 hl3
  | false =>
   have e1 := beq_eq_false_iff_ne.1 h1
   cases h2 : (decide (((p1 + p3) / 2) < p2)) with
   | true =>
    have e2 := of_decide_eq_true h2
    have hl3 := Q7a n0 p0 p1 p2 p3 ((Int.toNat (((p1 + p3) / 2) - ((((p1 + p3) / 2) + p2) - p3))) + 1) ((p1 + p3) / 2) (((p1 + p3) / 2) + p2) ((((p1 + p3) / 2) + p2) - p3) ((p1 + p3) / 2) ((((p1 + p3) / 2) + p2) - 1) (by omega) (by omega) (by omega) (by omega) (by omega) (by omega) (by omega) (by omega) (by omega) (by omega) hn (by omega)
    have hy3 : (Q5 n0 p0 p1 p2 p3 ((Int.toNat (((p1 + p3) / 2) - ((((p1 + p3) / 2) + p2) - p3))) + 1) ((p1 + p3) / 2) (((p1 + p3) / 2) + p2) ((((p1 + p3) / 2) + p2) - p3) ((p1 + p3) / 2) ((((p1 + p3) / 2) + p2) - 1)).1 = ((p1 + p3) / 2) ∧ (Q5 n0 p0 p1 p2 p3 ((Int.toNat (((p1 + p3) / 2) - ((((p1 + p3) / 2) + p2) - p3))) + 1) ((p1 + p3) / 2) (((p1 + p3) / 2) + p2) ((((p1 + p3) / 2) + p2) - p3) ((p1 + p3) / 2) ((((p1 + p3) / 2) + p2) - 1)).2.1 = (((p1 + p3) / 2) + p2) ∧ p1 ≤ (Q5 n0 p0 p1 p2 p3 ((Int.toNat (((p1 + p3) / 2) - ((((p1 + p3) / 2) + p2) - p3))) + 1) ((p1 + p3) / 2) (((p1 + p3) / 2) + p2) ((((p1 + p3) / 2) + p2) - p3) ((p1 + p3) / 2) ((((p1 + p3) / 2) + p2) - 1)).2.2 ∧ (Q5 n0 p0 p1 p2 p3 ((Int.toNat (((p1 + p3) / 2) - ((((p1 + p3) / 2) + p2) - p3))) + 1) ((p1 + p3) / 2) (((p1 + p3) / 2) + p2) ((((p1 + p3) / 2) + p2) - p3) ((p1 + p3) / 2) ((((p1 + p3) / 2) + p2) - 1)).2.2 ≤ p2 ∧ (Q5 n0 p0 p1 p2 p3 ((Int.toNat (((p1 + p3) / 2) - ((((p1 + p3) / 2) + p2) - p3))) + 1) ((p1 + p3) / 2) (((p1 + p3) / 2) + p2) ((((p1 + p3) / 2) + p2) - p3) ((p1 + p3) / 2) ((((p1 + p3) / 2) + p2) - 1)).2.1 - (Q5 n0 p0 p1 p2 p3 ((Int.toNat (((p1 + p3) / 2) - ((((p1 + p3) / 2) + p2) - p3))) + 1) ((p1 + p3) / 2) (((p1 + p3) / 2) + p2) ((((p1 + p3) / 2) + p2) - p3) ((p1 + p3) / 2) ((((p1 + p3) / 2) + p2) - 1)).2.2 ≤ p3 := Q7e n0 p0 p1 p2 p3 ((Int.toNat (((p1 + p3) / 2) - ((((p1 + p3) / 2) + p2) - p3))) + 1) ((p1 + p3) / 2) (((p1 + p3) / 2) + p2) ((((p1 + p3) / 2) + p2) - p3) ((p1 + p3) / 2) ((((p1 + p3) / 2) + p2) - 1) (by omega) (by omega) (by omega) (by omega) (by omega) (by omega) (by omega) (by omega) (by omega) (by omega) hn (by omega)
    obtain ⟨R6, eR6⟩ : ∃ R, (Q5 n0 p0 p1 p2 p3 ((Int.toNat (((p1 + p3) / 2) - ((((p1 + p3) / 2) + p2) - p3))) + 1) ((p1 + p3) / 2) (((p1 + p3) / 2) + p2) ((((p1 + p3) / 2) + p2) - p3) ((p1 + p3) / 2) ((((p1 + p3) / 2) + p2) - 1)) = R := ⟨_, rfl⟩
    rw [eR6] at hy3 hl3 ⊢
    obtain ⟨z3, zo3, hl3⟩ := hl3
    cases h3 : (decide (R6.2.2 < p2)) with
    | true =>
     cases h4 : (decide (p2 < (R6.2.1 - R6.2.2))) with
     | true =>
      cases h5 : (decide (p1 < R6.2.2)) with
      | true =>
       exact Qko k ih n0 p0 p1 p2 p3 hn hq0 hm h0 h1 h2 R6.1 R6.2.1 R6.2.2 hy3 z3 zo3 hl3 h3 h4 h5
      | false =>
       exact Qkq k ih n0 p0 p1 p2 p3 hn hq0 hm h0 h1 h2 R6.1 R6.2.1 R6.2.2 hy3 z3 zo3 hl3 h3 h4 h5
     | false =>
      cases h5 : (decide (p1 < R6.2.2)) with
      | true =>
       exact Qjz k ih n0 p0 p1 p2 p3 hn hq0 hm h0 h1 h2 R6.1 R6.2.1 R6.2.2 hy3 z3 zo3 hl3 h3 h4 h5
      | false =>
       exact Qjv k ih n0 p0 p1 p2 p3 hn hq0 hm h0 h1 h2 R6.1 R6.2.1 R6.2.2 hy3 z3 zo3 hl3 h3 h4 h5
    | false =>
     cases h4 : (decide (p1 < R6.2.2)) with
     | true =>
      exact Qki k ih n0 p0 p1 p2 p3 hn hq0 hm h0 h1 h2 R6.1 R6.2.1 R6.2.2 hy3 z3 zo3 hl3 h3 h4
     | false =>
      exact Qk6 k ih n0 p0 p1 p2 p3 hn hq0 hm h0 h1 h2 R6.1 R6.2.1 R6.2.2 hy3 z3 zo3 hl3 h3 h4
   | false =>
    have e2 := of_decide_eq_false h2
    have hl3 := Q7a n0 p0 p1 p2 p3 ((Int.toNat (p2 - p1)) + 1) ((p1 + p3) / 2) (((p1 + p3) / 2) + p2) p1 p2 ((((p1 + p3) / 2) + p2) - 1) (by omega) (by omega) (by omega) (by omega) (by omega) (by omega) (by omega) (by omega) (by omega) (by omega) hn (by omega)
    have hy3 : (Q5 n0 p0 p1 p2 p3 ((Int.toNat (p2 - p1)) + 1) ((p1 + p3) / 2) (((p1 + p3) / 2) + p2) p1 p2 ((((p1 + p3) / 2) + p2) - 1)).1 = ((p1 + p3) / 2) ∧ (Q5 n0 p0 p1 p2 p3 ((Int.toNat (p2 - p1)) + 1) ((p1 + p3) / 2) (((p1 + p3) / 2) + p2) p1 p2 ((((p1 + p3) / 2) + p2) - 1)).2.1 = (((p1 + p3) / 2) + p2) ∧ p1 ≤ (Q5 n0 p0 p1 p2 p3 ((Int.toNat (p2 - p1)) + 1) ((p1 + p3) / 2) (((p1 + p3) / 2) + p2) p1 p2 ((((p1 + p3) / 2) + p2) - 1)).2.2 ∧ (Q5 n0 p0 p1 p2 p3 ((Int.toNat (p2 - p1)) + 1) ((p1 + p3) / 2) (((p1 + p3) / 2) + p2) p1 p2 ((((p1 + p3) / 2) + p2) - 1)).2.2 ≤ p2 ∧ (Q5 n0 p0 p1 p2 p3 ((Int.toNat (p2 - p1)) + 1) ((p1 + p3) / 2) (((p1 + p3) / 2) + p2) p1 p2 ((((p1 + p3) / 2) + p2) - 1)).2.1 - (Q5 n0 p0 p1 p2 p3 ((Int.toNat (p2 - p1)) + 1) ((p1 + p3) / 2) (((p1 + p3) / 2) + p2) p1 p2 ((((p1 + p3) / 2) + p2) - 1)).2.2 ≤ p3 := Q7e n0 p0 p1 p2 p3 ((Int.toNat (p2 - p1)) + 1) ((p1 + p3) / 2) (((p1 + p3) / 2) + p2) p1 p2 ((((p1 + p3) / 2) + p2) - 1) (by omega) (by omega) (by omega) (by omega) (by omega) (by omega) (by omega) (by omega) (by omega) (by omega) hn (by omega)
    obtain ⟨R7, eR7⟩ : ∃ R, (Q5 n0 p0 p1 p2 p3 ((Int.toNat (p2 - p1)) + 1) ((p1 + p3) / 2) (((p1 + p3) / 2) + p2) p1 p2 ((((p1 + p3) / 2) + p2) - 1)) = R := ⟨_, rfl⟩
    rw [eR7] at hy3 hl3 ⊢
    obtain ⟨z3, zo3, hl3⟩ := hl3
    cases h3 : (decide (R7.2.2 < p2)) with
    | true =>
     cases h4 : (decide (p2 < (R7.2.1 - R7.2.2))) with
     | true =>
      cases h5 : (decide (p1 < R7.2.2)) with
      | true =>
       exact Qjs k ih n0 p0 p1 p2 p3 hn hq0 hm h0 h1 h2 R7.1 R7.2.1 R7.2.2 hy3 z3 zo3 hl3 h3 h4 h5
      | false =>
       exact Qk9 k ih n0 p0 p1 p2 p3 hn hq0 hm h0 h1 h2 R7.1 R7.2.1 R7.2.2 hy3 z3 zo3 hl3 h3 h4 h5
     | false =>
      cases h5 : (decide (p1 < R7.2.2)) with
      | true =>
       exact Qiw k ih n0 p0 p1 p2 p3 hn hq0 hm h0 h1 h2 R7.1 R7.2.1 R7.2.2 hy3 z3 zo3 hl3 h3 h4 h5
      | false =>
       exact Qj8 k ih n0 p0 p1 p2 p3 hn hq0 hm h0 h1 h2 R7.1 R7.2.1 R7.2.2 hy3 z3 zo3 hl3 h3 h4 h5
    | false =>
     cases h4 : (decide (p1 < R7.2.2)) with
     | true =>
      exact Qja k ih n0 p0 p1 p2 p3 hn hq0 hm h0 h1 h2 R7.1 R7.2.1 R7.2.2 hy3 z3 zo3 hl3 h3 h4
     | false =>
      exact Qi2 k ih n0 p0 p1 p2 p3 hn hq0 hm h0 h1 h2 R7.1 R7.2.1 R7.2.2 hy3 z3 zo3 hl3 h3 h4
theorem Qbj : ∀ (k : Nat), Q16 k
 | 0 => fun _ _ _ _ _ _ _ hm => absurd hm (Nat.not_lt_zero _)
 | k + 1 => Qqc k (Qbj k)
end Go.Proofs.Ytedohmdgbilicaa
end

