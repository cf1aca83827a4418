/- Texts of the claim, merged by a program; what the statement does not reach is left out. -/
import Derived.Test.YtnhhddbbppbblaaBPatchDiffs5

section
/- What building a map computes (printed by a program). -/
namespace Go.Proofs.Ytnhhddbbppbblaa
open Go.Pv
def Q2k (n0 : Nat) (p0 : List Fld) (p1 : Int) (p2 : Int) (p3 : Int) : Nat → Int → Int → Int
 | 0, v0_0, _v0_1 => v0_0
 | k0 + 1, v0_0, v0_1 =>
  bif (decide (v0_0 < v0_1)) then
   bif (decide ((Q27 (List.getD p0 (Int.toNat ((v0_0 + v0_1) / 2)) zF) (List.getD p0 (Int.toNat p1) zF)) < 0)) then
    Q2k n0 p0 p1 p2 p3 k0 (((v0_0 + v0_1) / 2) + 1) v0_1
   else
    Q2k n0 p0 p1 p2 p3 k0 v0_0 ((v0_0 + v0_1) / 2)
  else
   v0_0
def Qf0 (n0 : Nat) (_p0 : List Fld) (p1 : Int) (_p2 : Int) (_p3 : Int) (v0_0 : Int) (v0_1 : Int) : List PV :=
  [.ms 0 6 0 n0, .int .i64 p1, .un, .un, .fn 43 [] [], .un, .un, .un, .un, .un, .int .i64 v0_0, .int .i64 v0_1, .un, .un, .un, .un, .un, .un, .un, .un, .un, .un, .un, .un, .un, .un, .un, .un, .un, .un, .un, .un, .un, .un, .un, .un, .un, .un, .un, .un, .un, .un, .un, .un, .un, .un, .un, .un, .un, .un, .un, .un, .un, .un, .un, .un, .un, .un, .un, .un, .un, .un, .un, .un, .un, .un, .un, .un, .un, .un, .un, .un, .un, .un, .un, .un, .un, .un, .un, .un, .un, .un, .un, .un, .un, .un, .un, .un, .un, .un, .un, .un, .un, .un, .un, .un, .un, .un, .un, .un, .un, .un, .un, .un, .un, .un, .un, .un, .un, .un, .un, .un, .un, .un, .un, .un, .un, .un, .un, .un, .un, .un, .un, .un, .un, .un, .un, .un, .un, .un, .un, .un, .un, .un, .un, .un, .un, .un, .un, .un, .un, .un, .un, .un, .un, .un, .un, .un, .un, .un, .un, .un, .un, .un, .un, .un, .un, .un, .un, .un, .un, .un, .un, .un, .un, .un, .un, .un, .un, .un, .un, .un, .un, .un, .un, .un, .un, .un, .un, .un, .un, .un, .un, .un, .un, .un, .un, .un, .un, .un, .un, .un, .un, .un, .un, .un, .un, .un, .un, .un, .un, .un, .un, .un, .un, .un, .un, .un, .un, .un, .un, .un, .un, .un, .un, .un, .un, .un, .un, .un]
def Q9l (_n0 : Nat) (p0 : List Fld) (_p1 : Int) (_p2 : Int) (_p3 : Int) (_v0_0 : Int) (_v0_1 : Int) : List Ob :=
  [⟨6, 0, false, (Fld.rows p0).flatten⟩]
def Q60 (n0 : Nat) (p0 : List Fld) (p1 : Int) (p2 : Int) (p3 : Int) (v0_0 : Int) (v0_1 : Int) : En := .loop 1 Ir.Qfp Ir.Q17c (Qf0 n0 p0 p1 p2 p3 v0_0 v0_1) (Q9l n0 p0 p1 p2 p3 v0_0 v0_1)
def Qao (n0 : Nat) (p0 : List Fld) (p1 : Int) (_p2 : Int) (_p3 : Int) (q0 : Int) (z : Nat → PV) (_zo : Nat → List PV) : St :=
  ⟨[.ms 0 6 0 n0, .int .i64 p1, z 2, z 3, z 4, z 5, z 6, z 7, z 8, z 9, .int .i64 q0, z 11, z 12, z 13, z 14, z 15, z 16, z 17, z 18, z 19, z 20, z 21, z 22, z 23, z 24, z 25, z 26, z 27, z 28, z 29, z 30, z 31, z 32, z 33, z 34, z 35, z 36, z 37, z 38, z 39, z 40, z 41, z 42, z 43, z 44, z 45, z 46, z 47, z 48, z 49, z 50, z 51, z 52, z 53, z 54, z 55, z 56, z 57, z 58, z 59, z 60, z 61, z 62, z 63, z 64, z 65, z 66, z 67, z 68, z 69, z 70, z 71, z 72, z 73, z 74, z 75, z 76, z 77, z 78, z 79, z 80, z 81, z 82, z 83, z 84, z 85, z 86, z 87, z 88, z 89, z 90, z 91, z 92, z 93, z 94, z 95, z 96, z 97, z 98, z 99, z 100, z 101, z 102, z 103, z 104, z 105, z 106, z 107, z 108, z 109, z 110, z 111, z 112, z 113, z 114, z 115, z 116, z 117, z 118, z 119, z 120, z 121, z 122, z 123, z 124, z 125, z 126, z 127, z 128, z 129, z 130, z 131, z 132, z 133, z 134, z 135, z 136, z 137, z 138, z 139, z 140, z 141, z 142, z 143, z 144, z 145, z 146, z 147, z 148, z 149, z 150, z 151, z 152, z 153, z 154, z 155, z 156, z 157, z 158, z 159, z 160, z 161, z 162, z 163, z 164, z 165, z 166, z 167, z 168, z 169, z 170, z 171, z 172, z 173, z 174, z 175, z 176, z 177, z 178, z 179, z 180, z 181, z 182, z 183, z 184, z 185, z 186, z 187, z 188, z 189, z 190, z 191, z 192, z 193, z 194, z 195, z 196, z 197, z 198, z 199, z 200, z 201, z 202, z 203, z 204, z 205, z 206, z 207, z 208, z 209, z 210, z 211, z 212, z 213, z 214, z 215, z 216, z 217, z 218, z 219], [(0, ⟨6, 0, false, (Fld.rows p0).flatten⟩)], 193⟩
theorem Qnb (n0 : Nat) (p0 : List Fld) (p1 : Int) (p2 : Int) (p3 : Int) (v0_0 : Int) (v0_1 : Int) : VOK (Go.Pv.look (number 0 (Q9l n0 p0 p1 p2 p3 v0_0 v0_1))) [(0, Fld.rows p0)] := (VOK.cons (show Seen _ _ from Q3v (ob := ⟨6, 0, false, (Fld.rows p0).flatten⟩) (Fld.Q5 p0 6 rfl)) VOK.nil)
def Qcx (n0 : Nat) (p0 : List Fld) (p1 : Int) (p2 : Int) (p3 : Int) (e : En) (q : Int) : Prop := ∃ z zo, Q7 G e (.st (.exit 0) (Qao n0 p0 p1 p2 p3 q z zo))
theorem Qa6 (n0 : Nat) (p0 : List Fld) (p1 : Int) (p2 : Int) (p3 : Int) {e e' : En} (h : ∀ r, Q7 G e r → Q7 G e' r) : ∀ q, Qcx n0 p0 p1 p2 p3 e q → Qcx n0 p0 p1 p2 p3 e' q
  | _, ⟨z, zo, hz⟩ => ⟨z, zo, h _ hz⟩
theorem Qxc (n0 : Nat) (p0 : List Fld) (p1 : Int) (p2 : Int) (p3 : Int) (v0_0 : Int) (v0_1 : Int) (ho0_0 : p2 ≤ v0_0) (_ho0_1 : v0_0 ≤ v0_1) (ho0_2 : v0_1 ≤ p3) (ho0_3 : p3 ≤ n0) (ho0_4 : 0 ≤ p1) (ho0_5 : p1 < p2) (ho0_6 : (n0 : Int) ≤ 1152921504606846976) (ho0_7 : List.length p0 = n0) (h0 : (decide (v0_0 < v0_1)) = true) (h1 : (decide ((Q27 (List.getD p0 (Int.toNat ((v0_0 + v0_1) / 2)) zF) (List.getD p0 (Int.toNat p1) zF)) < 0)) = true) {r : Rs} (hr : Q7 G (Q60 n0 p0 p1 p2 p3 (((v0_0 + v0_1) / 2) + 1) v0_1) r) : Q7 G (Q60 n0 p0 p1 p2 p3 v0_0 v0_1) r := by
 have e0 := of_decide_eq_true h0; have e1 := of_decide_eq_true h1
 exact Qa (Qnb n0 p0 p1 p2 p3 v0_0 v0_1) (y := (Qf0 n0 p0 p1 p2 p3 (((v0_0 + v0_1) / 2) + 1) v0_1, Q9l n0 p0 p1 p2 p3 (((v0_0 + v0_1) / 2) + 1) v0_1)) [hB 2 h0, hP 2 (w_ok (v0_0 + v0_1) (by omega)), hP 0 (Q12 (v0_0 + v0_1) (by omega)), hP 0 (Q1q (v0_0 + v0_1)), hP 0 (Q13 ((v0_0 + v0_1) / 2) (by omega)), hP 4 (Q1m 0 6 n0 ((v0_0 + v0_1) / 2) (Int.toNat ((v0_0 + v0_1) / 2)) rfl (by omega) (by omega)), hP 0 (Q31 0 6 0 false ((Fld.rows p0).flatten) (Fld.rows p0) 6 true (Int.toNat ((v0_0 + v0_1) / 2)) 0 ((Int.toNat ((v0_0 + v0_1) / 2)) * 6) (Fld.cells (List.getD p0 (Int.toNat ((v0_0 + v0_1) / 2)) zF)) (.agg [.str (List.getD p0 (Int.toNat ((v0_0 + v0_1) / 2)) zF).name, .int .i64 (List.getD p0 (Int.toNat ((v0_0 + v0_1) / 2)) zF).v.kind, .int .i64 (List.getD p0 (Int.toNat ((v0_0 + v0_1) / 2)) zF).v.n, .str (List.getD p0 (Int.toNat ((v0_0 + v0_1) / 2)) zF).v.s, .sl (Val.rows (List.getD p0 (Int.toNat ((v0_0 + v0_1) / 2)) zF).v.list), .sl (Fld.rows (List.getD p0 (Int.toNat ((v0_0 + v0_1) / 2)) zF).v.fields)]) rfl rfl (Fld.Qg (Qu p0 (Int.toNat ((v0_0 + v0_1) / 2)) zF (by omega))) (Fld.Ql p0) (by decide) rfl), hP 2 (Q1m 0 6 n0 p1 (Int.toNat p1) rfl (by omega) (by omega)), hP 0 (Q31 0 6 0 false ((Fld.rows p0).flatten) (Fld.rows p0) 6 true (Int.toNat p1) 0 ((Int.toNat p1) * 6) (Fld.cells (List.getD p0 (Int.toNat p1) zF)) (.agg [.str (List.getD p0 (Int.toNat p1) zF).name, .int .i64 (List.getD p0 (Int.toNat p1) zF).v.kind, .int .i64 (List.getD p0 (Int.toNat p1) zF).v.n, .str (List.getD p0 (Int.toNat p1) zF).v.s, .sl (Val.rows (List.getD p0 (Int.toNat p1) zF).v.list), .sl (Fld.rows (List.getD p0 (Int.toNat p1) zF).v.fields)]) rfl rfl (Fld.Qg (Qu p0 (Int.toNat p1) zF (by omega))) (Fld.Ql p0) (by decide) rfl), hB 1 h1, hP 1 (w_ok (((v0_0 + v0_1) / 2) + 1) (by omega))] [aN (Qpt (List.getD p0 (Int.toNat ((v0_0 + v0_1) / 2)) zF) (List.getD p0 (Int.toNat p1) zF))] (by kernel_rfl) hr
theorem Qxo (n0 : Nat) (p0 : List Fld) (p1 : Int) (p2 : Int) (p3 : Int) (v0_0 : Int) (v0_1 : Int) (ho0_0 : p2 ≤ v0_0) (_ho0_1 : v0_0 ≤ v0_1) (ho0_2 : v0_1 ≤ p3) (ho0_3 : p3 ≤ n0) (ho0_4 : 0 ≤ p1) (ho0_5 : p1 < p2) (ho0_6 : (n0 : Int) ≤ 1152921504606846976) (ho0_7 : List.length p0 = n0) (h0 : (decide (v0_0 < v0_1)) = true) (h1 : (decide ((Q27 (List.getD p0 (Int.toNat ((v0_0 + v0_1) / 2)) zF) (List.getD p0 (Int.toNat p1) zF)) < 0)) = false) {r : Rs} (hr : Q7 G (Q60 n0 p0 p1 p2 p3 v0_0 ((v0_0 + v0_1) / 2)) r) : Q7 G (Q60 n0 p0 p1 p2 p3 v0_0 v0_1) r := by
 have e0 := of_decide_eq_true h0; have e1 := of_decide_eq_false h1
 exact Qa (Qnb n0 p0 p1 p2 p3 v0_0 v0_1) (y := (Qf0 n0 p0 p1 p2 p3 v0_0 ((v0_0 + v0_1) / 2), Q9l n0 p0 p1 p2 p3 v0_0 ((v0_0 + v0_1) / 2))) [hB 2 h0, hP 2 (w_ok (v0_0 + v0_1) (by omega)), hP 0 (Q12 (v0_0 + v0_1) (by omega)), hP 0 (Q1q (v0_0 + v0_1)), hP 0 (Q13 ((v0_0 + v0_1) / 2) (by omega)), hP 4 (Q1m 0 6 n0 ((v0_0 + v0_1) / 2) (Int.toNat ((v0_0 + v0_1) / 2)) rfl (by omega) (by omega)), hP 0 (Q31 0 6 0 false ((Fld.rows p0).flatten) (Fld.rows p0) 6 true (Int.toNat ((v0_0 + v0_1) / 2)) 0 ((Int.toNat ((v0_0 + v0_1) / 2)) * 6) (Fld.cells (List.getD p0 (Int.toNat ((v0_0 + v0_1) / 2)) zF)) (.agg [.str (List.getD p0 (Int.toNat ((v0_0 + v0_1) / 2)) zF).name, .int .i64 (List.getD p0 (Int.toNat ((v0_0 + v0_1) / 2)) zF).v.kind, .int .i64 (List.getD p0 (Int.toNat ((v0_0 + v0_1) / 2)) zF).v.n, .str (List.getD p0 (Int.toNat ((v0_0 + v0_1) / 2)) zF).v.s, .sl (Val.rows (List.getD p0 (Int.toNat ((v0_0 + v0_1) / 2)) zF).v.list), .sl (Fld.rows (List.getD p0 (Int.toNat ((v0_0 + v0_1) / 2)) zF).v.fields)]) rfl rfl (Fld.Qg (Qu p0 (Int.toNat ((v0_0 + v0_1) / 2)) zF (by omega))) (Fld.Ql p0) (by decide) rfl), hP 2 (Q1m 0 6 n0 p1 (Int.toNat p1) rfl (by omega) (by omega)), hP 0 (Q31 0 6 0 false ((Fld.rows p0).flatten) (Fld.rows p0) 6 true (Int.toNat p1) 0 ((Int.toNat p1) * 6) (Fld.cells (List.getD p0 (Int.toNat p1) zF)) (.agg [.str (List.getD p0 (Int.toNat p1) zF).name, .int .i64 (List.getD p0 (Int.toNat p1) zF).v.kind, .int .i64 (List.getD p0 (Int.toNat p1) zF).v.n, .str (List.getD p0 (Int.toNat p1) zF).v.s, .sl (Val.rows (List.getD p0 (Int.toNat p1) zF).v.list), .sl (Fld.rows (List.getD p0 (Int.toNat p1) zF).v.fields)]) rfl rfl (Fld.Qg (Qu p0 (Int.toNat p1) zF (by omega))) (Fld.Ql p0) (by decide) rfl), hB 1 h1] [aN (Qpt (List.getD p0 (Int.toNat ((v0_0 + v0_1) / 2)) zF) (List.getD p0 (Int.toNat p1) zF))] (by kernel_rfl) hr
def Qkx (_n0 : Nat) (_p0 : List Fld) (_p1 : Int) (_p2 : Int) (_p3 : Int) (v0_0 : Int) (v0_1 : Int) : List PV :=
  [.un, .un, .un, .un, .fn 43 [] [], .un, .un, .un, .un, .un, .un, .int .i64 v0_1, .un, .un, .un, .un, .un, .un, .un, .un, .un, .un, .un, .un, .un, .un, .un, .un, .un, .un, .un, .int .i64 v0_0, .int .i64 v0_1, .bool false]
def Qdn (_n0 : Nat) (_p0 : List Fld) (_p1 : Int) (_p2 : Int) (_p3 : Int) (_v0_0 : Int) (_v0_1 : Int) : List (Nat × List PV) :=
  []
theorem Qyl (n0 : Nat) (p0 : List Fld) (p1 : Int) (p2 : Int) (p3 : Int) (v0_0 : Int) (v0_1 : Int) (_ho0_0 : p2 ≤ v0_0) (_ho0_1 : v0_0 ≤ v0_1) (_ho0_2 : v0_1 ≤ p3) (_ho0_3 : p3 ≤ n0) (_ho0_4 : 0 ≤ p1) (_ho0_5 : p1 < p2) (_ho0_6 : (n0 : Int) ≤ 1152921504606846976) (_ho0_7 : List.length p0 = n0) (h0 : (decide (v0_0 < v0_1)) = false) : Qcx n0 p0 p1 p2 p3 (Q60 n0 p0 p1 p2 p3 v0_0 v0_1) v0_0 := by
 exact ⟨(envF (Qkx n0 p0 p1 p2 p3 v0_0 v0_1)), (zoF (Qdn n0 p0 p1 p2 p3 v0_0 v0_1)), Qf (Qnb n0 p0 p1 p2 p3 v0_0 v0_1) (x := ((.exit 0), Qao n0 p0 p1 p2 p3 v0_0 (envF (Qkx n0 p0 p1 p2 p3 v0_0 v0_1)) (zoF (Qdn n0 p0 p1 p2 p3 v0_0 v0_1)))) [hB 2 h0] [] (by kernel_rfl)⟩
theorem Qh4 (n0 : Nat) (p0 : List Fld) (p1 : Int) (p2 : Int) (p3 : Int) : ∀ (k0 : Nat) (v0_0 : Int) (v0_1 : Int), p2 ≤ v0_0 → v0_0 ≤ v0_1 → v0_1 ≤ p3 → p3 ≤ n0 → 0 ≤ p1 → p1 < p2 → (n0 : Int) ≤ 1152921504606846976 → List.length p0 = n0 → Int.toNat (v0_1 - v0_0) < k0 → Qcx n0 p0 p1 p2 p3 (Q60 n0 p0 p1 p2 p3 v0_0 v0_1) (Q2k n0 p0 p1 p2 p3 k0 v0_0 v0_1)
 | 0, v0_0, v0_1, _, _, _, _, _, _, _, _, hm => absurd hm (Nat.not_lt_zero _)
 | k0 + 1, v0_0, v0_1, ho0_0, ho0_1, ho0_2, ho0_3, ho0_4, ho0_5, ho0_6, ho0_7, hm => by
  rw [Q2k]
  cases h0 : (decide (v0_0 < v0_1)) with
  | true =>
   have e0 := of_decide_eq_true h0
   cases h1 : (decide ((Q27 (List.getD p0 (Int.toNat ((v0_0 + v0_1) / 2)) zF) (List.getD p0 (Int.toNat p1) zF)) < 0)) with
   | true =>
    have e1 := of_decide_eq_true h1
    exact Qa6 n0 p0 p1 p2 p3 (fun r hr => Qxc n0 p0 p1 p2 p3 v0_0 v0_1 ho0_0 ho0_1 ho0_2 ho0_3 ho0_4 ho0_5 ho0_6 ho0_7 h0 h1 hr) _ (Qh4 n0 p0 p1 p2 p3 k0 (((v0_0 + v0_1) / 2) + 1) v0_1 (by omega) (by omega) (by omega) (by omega) (by omega) (by omega) (by omega) ho0_7 (by omega))
   | false =>
    have e1 := of_decide_eq_false h1
    exact Qa6 n0 p0 p1 p2 p3 (fun r hr => Qxo n0 p0 p1 p2 p3 v0_0 v0_1 ho0_0 ho0_1 ho0_2 ho0_3 ho0_4 ho0_5 ho0_6 ho0_7 h0 h1 hr) _ (Qh4 n0 p0 p1 p2 p3 k0 v0_0 ((v0_0 + v0_1) / 2) (by omega) (by omega) (by omega) (by omega) (by omega) (by omega) (by omega) ho0_7 (by omega))
  | false =>
   exact Qyl n0 p0 p1 p2 p3 v0_0 v0_1 ho0_0 ho0_1 ho0_2 ho0_3 ho0_4 ho0_5 ho0_6 ho0_7 h0
theorem Qfa (n0 : Nat) (p0 : List Fld) (p1 : Int) (p2 : Int) (p3 : Int) : ∀ (k0 : Nat) (v0_0 : Int) (v0_1 : Int), p2 ≤ v0_0 → v0_0 ≤ v0_1 → v0_1 ≤ p3 → p3 ≤ n0 → 0 ≤ p1 → p1 < p2 → (n0 : Int) ≤ 1152921504606846976 → List.length p0 = n0 → Int.toNat (v0_1 - v0_0) < k0 → p2 ≤ (Q2k n0 p0 p1 p2 p3 k0 v0_0 v0_1) ∧ (Q2k n0 p0 p1 p2 p3 k0 v0_0 v0_1) ≤ p3
 | 0, v0_0, v0_1, _, _, _, _, _, _, _, _, hm => absurd hm (Nat.not_lt_zero _)
 | k0 + 1, v0_0, v0_1, ho0_0, ho0_1, ho0_2, ho0_3, ho0_4, ho0_5, ho0_6, ho0_7, hm => by
  rw [Q2k]
  cases h0 : (decide (v0_0 < v0_1)) with
  | true =>
   have e0 := of_decide_eq_true h0
   cases h1 : (decide ((Q27 (List.getD p0 (Int.toNat ((v0_0 + v0_1) / 2)) zF) (List.getD p0 (Int.toNat p1) zF)) < 0)) with
   | true =>
    have e1 := of_decide_eq_true h1
    exact Qfa n0 p0 p1 p2 p3 k0 (((v0_0 + v0_1) / 2) + 1) v0_1 (by omega) (by omega) (by omega) (by omega) (by omega) (by omega) (by omega) ho0_7 (by omega)
   | false =>
    have e1 := of_decide_eq_false h1
    exact Qfa n0 p0 p1 p2 p3 k0 v0_0 ((v0_0 + v0_1) / 2) (by omega) (by omega) (by omega) (by omega) (by omega) (by omega) (by omega) ho0_7 (by omega)
  | false =>
   have e0 := of_decide_eq_false h0
   exact (show p2 ≤ v0_0 ∧ v0_0 ≤ p3 from ⟨(by omega), (by omega)⟩)
def Q2y (n0 : Nat) : Nat → Int → (List Fld) → Int → List Fld
 | 0, _v1_0, v1_1, _v1_2 => v1_1
 | k1 + 1, v1_0, v1_1, v1_2 =>
  bif (decide (v1_2 < (v1_0 - 1))) then
   Q2y n0 k1 v1_0 (List.set (List.set v1_1 (Int.toNat v1_2) (List.getD v1_1 (Int.toNat (v1_2 + 1)) zF)) (Int.toNat (v1_2 + 1)) (List.getD v1_1 (Int.toNat v1_2) zF)) (v1_2 + 1)
  else
   v1_1
def Qt6 (n0 : Nat) (v1_0 : Int) (_v1_1 : List Fld) (v1_2 : Int) : List PV :=
  [.ms 0 6 0 n0, .un, .un, .un, .un, .un, .un, .un, .un, .un, .int .i64 v1_0, .un, .un, .int .i64 v1_2, .un, .un, .un, .un, .un, .un, .un, .un, .un, .un, .un, .un, .un, .un, .un, .un, .un, .un, .un, .un, .un, .un, .un, .un, .un, .un, .un, .un, .un, .un, .un, .un, .un, .un, .un, .un, .un, .un, .un, .un, .un, .un, .un, .un, .un, .un, .un, .un, .un, .un, .un, .un, .un, .un, .un, .un, .un, .un, .un, .un, .un, .un, .un, .un, .un, .un, .un, .un, .un, .un, .un, .un, .un, .un, .un, .un, .un, .un, .un, .un, .un, .un, .un, .un, .un, .un, .un, .un, .un, .un, .un, .un, .un, .un, .un, .un, .un, .un, .un, .un, .un, .un, .un, .un, .un, .un, .un, .un, .un, .un, .un, .un, .un, .un, .un, .un, .un, .un, .un, .un, .un, .un, .un, .un, .un, .un, .un, .un, .un, .un, .un, .un, .un, .un, .un, .un, .un, .un, .un, .un, .un, .un, .un, .un, .un, .un, .un, .un, .un, .un, .un, .un, .un, .un, .un, .un, .un, .un, .un, .un, .un, .un, .un, .un, .un, .un, .un, .un, .un, .un, .un, .un, .un, .un, .un, .un, .un, .un, .un, .un, .un, .un, .un, .un, .un, .un, .un, .un, .un, .un, .un, .un, .un, .un, .un, .un, .un, .un, .un, .un, .un, .un, .un, .un, .un, .un]
def Qe5 (_n0 : Nat) (_v1_0 : Int) (v1_1 : List Fld) (_v1_2 : Int) : List Ob :=
  [⟨6, 0, false, (Fld.rows v1_1).flatten⟩]
def Qah (n0 : Nat) (v1_0 : Int) (v1_1 : List Fld) (v1_2 : Int) : En := .loop 1 Ir.Qgk Ir.Q175 (Qt6 n0 v1_0 v1_1 v1_2) (Qe5 n0 v1_0 v1_1 v1_2)
def Qaw (_n0 : Nat) (q0 : List Fld) (z : Nat → PV) (_zo : Nat → List PV) : St :=
  ⟨[z 0, z 1, z 2, z 3, z 4, z 5, z 6, z 7, z 8, z 9, z 10, z 11, z 12, z 13, z 14, z 15, z 16, z 17, z 18, z 19, z 20, z 21, z 22, z 23, z 24, z 25, z 26, z 27, z 28, z 29, z 30, z 31, z 32, z 33, z 34, z 35, z 36, z 37, z 38, z 39, z 40, z 41, z 42, z 43, z 44, z 45, z 46, z 47, z 48, z 49, z 50, z 51, z 52, z 53, z 54, z 55, z 56, z 57, z 58, z 59, z 60, z 61, z 62, z 63, z 64, z 65, z 66, z 67, z 68, z 69, z 70, z 71, z 72, z 73, z 74, z 75, z 76, z 77, z 78, z 79, z 80, z 81, z 82, z 83, z 84, z 85, z 86, z 87, z 88, z 89, z 90, z 91, z 92, z 93, z 94, z 95, z 96, z 97, z 98, z 99, z 100, z 101, z 102, z 103, z 104, z 105, z 106, z 107, z 108, z 109, z 110, z 111, z 112, z 113, z 114, z 115, z 116, z 117, z 118, z 119, z 120, z 121, z 122, z 123, z 124, z 125, z 126, z 127, z 128, z 129, z 130, z 131, z 132, z 133, z 134, z 135, z 136, z 137, z 138, z 139, z 140, z 141, z 142, z 143, z 144, z 145, z 146, z 147, z 148, z 149, z 150, z 151, z 152, z 153, z 154, z 155, z 156, z 157, z 158, z 159, z 160, z 161, z 162, z 163, z 164, z 165, z 166, z 167, z 168, z 169, z 170, z 171, z 172, z 173, z 174, z 175, z 176, z 177, z 178, z 179, z 180, z 181, z 182, z 183, z 184, z 185, z 186, z 187, z 188, z 189, z 190, z 191, z 192, z 193, z 194, z 195, z 196, z 197, z 198, z 199, z 200, z 201, z 202, z 203, z 204, z 205, z 206, z 207, z 208, z 209, z 210, z 211, z 212, z 213, z 214, z 215, z 216, z 217, z 218, z 219], [(0, ⟨6, 0, false, (Fld.rows q0).flatten⟩)], 257⟩
theorem Quj (n0 : Nat) (v1_0 : Int) (v1_1 : List Fld) (v1_2 : Int) : VOK (Go.Pv.look (number 0 (Qe5 n0 v1_0 v1_1 v1_2))) [(0, Fld.rows v1_1)] := (VOK.cons (show Seen _ _ from Q3v (ob := ⟨6, 0, false, (Fld.rows v1_1).flatten⟩) (Fld.Q5 v1_1 6 rfl)) VOK.nil)
def Qc6 (n0 : Nat) (e : En) (q : List Fld) : Prop := ∃ z zo, Q7 G e (.st (.exit 2) (Qaw n0 q z zo))
theorem Qnu (n0 : Nat) {e e' : En} (h : ∀ r, Q7 G e r → Q7 G e' r) : ∀ q, Qc6 n0 e q → Qc6 n0 e' q
  | _, ⟨z, zo, hz⟩ => ⟨z, zo, h _ hz⟩
theorem Qy5 (n0 : Nat) (v1_0 : Int) (v1_1 : List Fld) (v1_2 : Int) (ho1_0 : 0 ≤ v1_2) (ho1_1 : v1_0 ≤ n0) (ho1_2 : 0 ≤ v1_0) (ho1_3 : (n0 : Int) ≤ 1152921504606846976) (ho1_4 : List.length v1_1 = n0) (h0 : (decide (v1_2 < (v1_0 - 1))) = true) {r : Rs} (hr : Q7 G (Qah n0 v1_0 (List.set (List.set v1_1 (Int.toNat v1_2) (List.getD v1_1 (Int.toNat (v1_2 + 1)) zF)) (Int.toNat (v1_2 + 1)) (List.getD v1_1 (Int.toNat v1_2) zF)) (v1_2 + 1)) r) : Q7 G (Qah n0 v1_0 v1_1 v1_2) r := by
 have e0 := of_decide_eq_true h0
 exact Qa (Quj n0 v1_0 v1_1 v1_2) (y := (Qt6 n0 v1_0 (List.set (List.set v1_1 (Int.toNat v1_2) (List.getD v1_1 (Int.toNat (v1_2 + 1)) zF)) (Int.toNat (v1_2 + 1)) (List.getD v1_1 (Int.toNat v1_2) zF)) (v1_2 + 1), Qe5 n0 v1_0 (List.set (List.set v1_1 (Int.toNat v1_2) (List.getD v1_1 (Int.toNat (v1_2 + 1)) zF)) (Int.toNat (v1_2 + 1)) (List.getD v1_1 (Int.toNat v1_2) zF)) (v1_2 + 1))) [hP 2 (w_ok (v1_0 - 1) (by omega)), hB 0 h0, hP 4 (w_ok (v1_2 + 1) (by omega)), hP 2 (w_ok (v1_2 + 1) (by omega)), hP 0 (Q1m 0 6 n0 (v1_2 + 1) (Int.toNat (v1_2 + 1)) rfl (by omega) (by omega)), hP 0 (Q31 0 6 0 false ((Fld.rows v1_1).flatten) (Fld.rows v1_1) 6 true (Int.toNat (v1_2 + 1)) 0 ((Int.toNat (v1_2 + 1)) * 6) (Fld.cells (List.getD v1_1 (Int.toNat (v1_2 + 1)) zF)) (.agg [.str (List.getD v1_1 (Int.toNat (v1_2 + 1)) zF).name, .int .i64 (List.getD v1_1 (Int.toNat (v1_2 + 1)) zF).v.kind, .int .i64 (List.getD v1_1 (Int.toNat (v1_2 + 1)) zF).v.n, .str (List.getD v1_1 (Int.toNat (v1_2 + 1)) zF).v.s, .sl (Val.rows (List.getD v1_1 (Int.toNat (v1_2 + 1)) zF).v.list), .sl (Fld.rows (List.getD v1_1 (Int.toNat (v1_2 + 1)) zF).v.fields)]) rfl rfl (Fld.Qg (Qu v1_1 (Int.toNat (v1_2 + 1)) zF (by omega))) (Fld.Ql v1_1) (by decide) rfl), hP 2 (Q1m 0 6 n0 v1_2 (Int.toNat v1_2) rfl (by omega) (by omega)), hP 0 (Q31 0 6 0 false ((Fld.rows v1_1).flatten) (Fld.rows v1_1) 6 true (Int.toNat v1_2) 0 ((Int.toNat v1_2) * 6) (Fld.cells (List.getD v1_1 (Int.toNat v1_2) zF)) (.agg [.str (List.getD v1_1 (Int.toNat v1_2) zF).name, .int .i64 (List.getD v1_1 (Int.toNat v1_2) zF).v.kind, .int .i64 (List.getD v1_1 (Int.toNat v1_2) zF).v.n, .str (List.getD v1_1 (Int.toNat v1_2) zF).v.s, .sl (Val.rows (List.getD v1_1 (Int.toNat v1_2) zF).v.list), .sl (Fld.rows (List.getD v1_1 (Int.toNat v1_2) zF).v.fields)]) rfl rfl (Fld.Qg (Qu v1_1 (Int.toNat v1_2) zF (by omega))) (Fld.Ql v1_1) (by decide) rfl), hP 0 (Q1m 0 6 n0 v1_2 (Int.toNat v1_2) rfl (by omega) (by omega)), hV 0 [(0, Fld.rows (List.set v1_1 (Int.toNat v1_2) (List.getD v1_1 (Int.toNat (v1_2 + 1)) zF)))] (Qfd 0 6 false ((Fld.rows v1_1).flatten) (Fld.rows v1_1) (Fld.rows (List.set v1_1 (Int.toNat v1_2) (List.getD v1_1 (Int.toNat (v1_2 + 1)) zF))) 6 (Int.toNat v1_2) 0 ((Int.toNat v1_2) * 6) _ (.agg [.str (List.getD v1_1 (Int.toNat (v1_2 + 1)) zF).name, .int .i64 (List.getD v1_1 (Int.toNat (v1_2 + 1)) zF).v.kind, .int .i64 (List.getD v1_1 (Int.toNat (v1_2 + 1)) zF).v.n, .str (List.getD v1_1 (Int.toNat (v1_2 + 1)) zF).v.s, .sl (Val.rows (List.getD v1_1 (Int.toNat (v1_2 + 1)) zF).v.list), .sl (Fld.rows (List.getD v1_1 (Int.toNat (v1_2 + 1)) zF).v.fields)]) rfl rfl (Fld.Qg (Qu v1_1 (Int.toNat v1_2) zF (by omega))) (Fld.Ql v1_1) (by decide) rfl rfl (Fld.Q4y v1_1 (Int.toNat v1_2) (List.getD v1_1 (Int.toNat (v1_2 + 1)) zF))), hS 0 false (Fld.Q5 (List.set v1_1 (Int.toNat v1_2) (List.getD v1_1 (Int.toNat (v1_2 + 1)) zF)) 6 rfl), hP 0 (Q1m 0 6 n0 (v1_2 + 1) (Int.toNat (v1_2 + 1)) rfl (by have f0 := (Qp ho1_4 (Int.toNat v1_2) (List.getD v1_1 (Int.toNat (v1_2 + 1)) zF)); omega) (by have f0 := (Qp ho1_4 (Int.toNat v1_2) (List.getD v1_1 (Int.toNat (v1_2 + 1)) zF)); omega)), hV 0 [(0, Fld.rows (List.set (List.set v1_1 (Int.toNat v1_2) (List.getD v1_1 (Int.toNat (v1_2 + 1)) zF)) (Int.toNat (v1_2 + 1)) (List.getD v1_1 (Int.toNat v1_2) zF)))] (Qfd 0 6 false ((Fld.rows (List.set v1_1 (Int.toNat v1_2) (List.getD v1_1 (Int.toNat (v1_2 + 1)) zF))).flatten) (Fld.rows (List.set v1_1 (Int.toNat v1_2) (List.getD v1_1 (Int.toNat (v1_2 + 1)) zF))) (Fld.rows (List.set (List.set v1_1 (Int.toNat v1_2) (List.getD v1_1 (Int.toNat (v1_2 + 1)) zF)) (Int.toNat (v1_2 + 1)) (List.getD v1_1 (Int.toNat v1_2) zF))) 6 (Int.toNat (v1_2 + 1)) 0 ((Int.toNat (v1_2 + 1)) * 6) _ (.agg [.str (List.getD v1_1 (Int.toNat v1_2) zF).name, .int .i64 (List.getD v1_1 (Int.toNat v1_2) zF).v.kind, .int .i64 (List.getD v1_1 (Int.toNat v1_2) zF).v.n, .str (List.getD v1_1 (Int.toNat v1_2) zF).v.s, .sl (Val.rows (List.getD v1_1 (Int.toNat v1_2) zF).v.list), .sl (Fld.rows (List.getD v1_1 (Int.toNat v1_2) zF).v.fields)]) rfl rfl (Fld.Qg (Qu (List.set v1_1 (Int.toNat v1_2) (List.getD v1_1 (Int.toNat (v1_2 + 1)) zF)) (Int.toNat (v1_2 + 1)) zF (by have f0 := (Qp ho1_4 (Int.toNat v1_2) (List.getD v1_1 (Int.toNat (v1_2 + 1)) zF)); try simp only [List.length_set]; omega))) (Fld.Ql (List.set v1_1 (Int.toNat v1_2) (List.getD v1_1 (Int.toNat (v1_2 + 1)) zF))) (by decide) rfl rfl (Fld.Q4y (List.set v1_1 (Int.toNat v1_2) (List.getD v1_1 (Int.toNat (v1_2 + 1)) zF)) (Int.toNat (v1_2 + 1)) (List.getD v1_1 (Int.toNat v1_2) zF))), hS 0 false (Fld.Q5 (List.set (List.set v1_1 (Int.toNat v1_2) (List.getD v1_1 (Int.toNat (v1_2 + 1)) zF)) (Int.toNat (v1_2 + 1)) (List.getD v1_1 (Int.toNat v1_2) zF)) 6 rfl), hP 1 (w_ok (v1_2 + 1) (by have f0 := (Qp (Qp ho1_4 (Int.toNat v1_2) (List.getD v1_1 (Int.toNat (v1_2 + 1)) zF)) (Int.toNat (v1_2 + 1)) (List.getD v1_1 (Int.toNat v1_2) zF)); omega))] [] (by kernel_rfl) hr
def Qlt (n0 : Nat) (v1_0 : Int) (_v1_1 : List Fld) (v1_2 : Int) : List PV :=
  [.ms 0 6 0 n0, .un, .un, .un, .un, .un, .un, .un, .un, .un, .int .i64 v1_0, .un, .un, .int .i64 v1_2, .un, .un, .un, .un, .un, .un, .un, .un, .un, .un, .un, .un, .un, .un, .un, .un, .un, .un, .un, .un, .un, .un, .un, .un, .un, .un, .un, .un, .un, .un, .un, .un, .un, .un, .un, .un, .un, .un, .un, .un, .un, .int .i64 v1_2, .int .i64 v1_0, .int .i64 (v1_0 - 1), .bool false]
def Qhc (_n0 : Nat) (_v1_0 : Int) (_v1_1 : List Fld) (_v1_2 : Int) : List (Nat × List PV) :=
  []
theorem Qze (n0 : Nat) (v1_0 : Int) (v1_1 : List Fld) (v1_2 : Int) (_ho1_0 : 0 ≤ v1_2) (ho1_1 : v1_0 ≤ n0) (ho1_2 : 0 ≤ v1_0) (ho1_3 : (n0 : Int) ≤ 1152921504606846976) (ho1_4 : List.length v1_1 = n0) (h0 : (decide (v1_2 < (v1_0 - 1))) = false) : Qc6 n0 (Qah n0 v1_0 v1_1 v1_2) v1_1 := by
 have e0 := of_decide_eq_false h0
 exact ⟨(envF (Qlt n0 v1_0 v1_1 v1_2)), (zoF (Qhc n0 v1_0 v1_1 v1_2)), Qf (Quj n0 v1_0 v1_1 v1_2) (x := ((.exit 2), Qaw n0 v1_1 (envF (Qlt n0 v1_0 v1_1 v1_2)) (zoF (Qhc n0 v1_0 v1_1 v1_2)))) [hP 2 (w_ok (v1_0 - 1) (by omega)), hB 0 h0] [] (by kernel_rfl)⟩
theorem Qp0 (n0 : Nat) : ∀ (k1 : Nat) (v1_0 : Int) (v1_1 : List Fld) (v1_2 : Int), 0 ≤ v1_2 → v1_0 ≤ n0 → 0 ≤ v1_0 → (n0 : Int) ≤ 1152921504606846976 → List.length v1_1 = n0 → Int.toNat (v1_0 - v1_2) < k1 → Qc6 n0 (Qah n0 v1_0 v1_1 v1_2) (Q2y n0 k1 v1_0 v1_1 v1_2)
 | 0, v1_0, v1_1, v1_2, _, _, _, _, _, hm => absurd hm (Nat.not_lt_zero _)
 | k1 + 1, v1_0, v1_1, v1_2, ho1_0, ho1_1, ho1_2, ho1_3, ho1_4, hm => by
  rw [Q2y]
  cases h0 : (decide (v1_2 < (v1_0 - 1))) with
  | true =>
   have e0 := of_decide_eq_true h0
   exact Qnu n0 (fun r hr => Qy5 n0 v1_0 v1_1 v1_2 ho1_0 ho1_1 ho1_2 ho1_3 ho1_4 h0 hr) _ (Qp0 n0 k1 v1_0 (List.set (List.set v1_1 (Int.toNat v1_2) (List.getD v1_1 (Int.toNat (v1_2 + 1)) zF)) (Int.toNat (v1_2 + 1)) (List.getD v1_1 (Int.toNat v1_2) zF)) (v1_2 + 1) (by have f0 := (Qp (Qp ho1_4 (Int.toNat v1_2) (List.getD v1_1 (Int.toNat (v1_2 + 1)) zF)) (Int.toNat (v1_2 + 1)) (List.getD v1_1 (Int.toNat v1_2) zF)); omega) (by have f0 := (Qp (Qp ho1_4 (Int.toNat v1_2) (List.getD v1_1 (Int.toNat (v1_2 + 1)) zF)) (Int.toNat (v1_2 + 1)) (List.getD v1_1 (Int.toNat v1_2) zF)); omega) (by have f0 := (Qp (Qp ho1_4 (Int.toNat v1_2) (List.getD v1_1 (Int.toNat (v1_2 + 1)) zF)) (Int.toNat (v1_2 + 1)) (List.getD v1_1 (Int.toNat v1_2) zF)); omega) (by have f0 := (Qp (Qp ho1_4 (Int.toNat v1_2) (List.getD v1_1 (Int.toNat (v1_2 + 1)) zF)) (Int.toNat (v1_2 + 1)) (List.getD v1_1 (Int.toNat v1_2) zF)); omega) (Qp (Qp ho1_4 (Int.toNat v1_2) (List.getD v1_1 (Int.toNat (v1_2 + 1)) zF)) (Int.toNat (v1_2 + 1)) (List.getD v1_1 (Int.toNat v1_2) zF)) (by have f0 := (Qp (Qp ho1_4 (Int.toNat v1_2) (List.getD v1_1 (Int.toNat (v1_2 + 1)) zF)) (Int.toNat (v1_2 + 1)) (List.getD v1_1 (Int.toNat v1_2) zF)); omega))
  | false =>
   exact Qze n0 v1_0 v1_1 v1_2 ho1_0 ho1_1 ho1_2 ho1_3 ho1_4 h0
theorem Q8f (n0 : Nat) : ∀ (k1 : Nat) (v1_0 : Int) (v1_1 : List Fld) (v1_2 : Int), List.length v1_1 = n0 → List.length (Q2y n0 k1 v1_0 v1_1 v1_2) = n0
 | 0, v1_0, v1_1, v1_2, ho1_4 => by rw [Q2y]; exact ho1_4
 | k1 + 1, v1_0, v1_1, v1_2, ho1_4 => by
  rw [Q2y]
  cases h0 : (decide (v1_2 < (v1_0 - 1))) with
  | true =>
   exact Q8f n0 k1 v1_0 (List.set (List.set v1_1 (Int.toNat v1_2) (List.getD v1_1 (Int.toNat (v1_2 + 1)) zF)) (Int.toNat (v1_2 + 1)) (List.getD v1_1 (Int.toNat v1_2) zF)) (v1_2 + 1) (Qp (Qp ho1_4 (Int.toNat v1_2) (List.getD v1_1 (Int.toNat (v1_2 + 1)) zF)) (Int.toNat (v1_2 + 1)) (List.getD v1_1 (Int.toNat v1_2) zF))
  | false =>
   exact ho1_4
def Q2h (n0 : Nat) (p0 : List Fld) (p1 : Int) (p2 : Int) : Nat → Int → Int → Int
 | 0, _v2_0, v2_1 => v2_1
 | k2 + 1, v2_0, v2_1 =>
  bif (decide (v2_1 < v2_0)) then
   bif (decide ((Q27 (List.getD p0 (Int.toNat p2) zF) (List.getD p0 (Int.toNat ((v2_1 + v2_0) / 2)) zF)) < 0)) then
    Q2h n0 p0 p1 p2 k2 ((v2_1 + v2_0) / 2) v2_1
   else
    Q2h n0 p0 p1 p2 k2 v2_0 (((v2_1 + v2_0) / 2) + 1)
  else
   v2_1
def Qhs (n0 : Nat) (_p0 : List Fld) (_p1 : Int) (p2 : Int) (v2_0 : Int) (v2_1 : Int) : List PV :=
  [.ms 0 6 0 n0, .un, .int .i64 p2, .un, .fn 43 [] [], .un, .un, .un, .un, .un, .un, .un, .un, .un, .int .i64 v2_1, .int .i64 v2_0, .un, .un, .un, .un, .un, .un, .un, .un, .un, .un, .un, .un, .un, .un, .un, .un, .un, .un, .un, .un, .un, .un, .un, .un, .un, .un, .un, .un, .un, .un, .un, .un, .un, .un, .un, .un, .un, .un, .un, .un, .un, .un, .un, .un, .un, .un, .un, .un, .un, .un, .un, .un, .un, .un, .un, .un, .un, .un, .un, .un, .un, .un, .un, .un, .un, .un, .un, .un, .un, .un, .un, .un, .un, .un, .un, .un, .un, .un, .un, .un, .un, .un, .un, .un, .un, .un, .un, .un, .un, .un, .un, .un, .un, .un, .un, .un, .un, .un, .un, .un, .un, .un, .un, .un, .un, .un, .un, .un, .un, .un, .un, .un, .un, .un, .un, .un, .un, .un, .un, .un, .un, .un, .un, .un, .un, .un, .un, .un, .un, .un, .un, .un, .un, .un, .un, .un, .un, .un, .un, .un, .un, .un, .un, .un, .un, .un, .un, .un, .un, .un, .un, .un, .un, .un, .un, .un, .un, .un, .un, .un, .un, .un, .un, .un, .un, .un, .un, .un, .un, .un, .un, .un, .un, .un, .un, .un, .un, .un, .un, .un, .un, .un, .un, .un, .un, .un, .un, .un, .un, .un, .un, .un, .un, .un, .un, .un, .un, .un, .un, .un, .un, .un, .un, .un]
def Q99 (_n0 : Nat) (p0 : List Fld) (_p1 : Int) (_p2 : Int) (_v2_0 : Int) (_v2_1 : Int) : List Ob :=
  [⟨6, 0, false, (Fld.rows p0).flatten⟩]
def Q62 (n0 : Nat) (p0 : List Fld) (p1 : Int) (p2 : Int) (v2_0 : Int) (v2_1 : Int) : En := .loop 1 Ir.Qfg Ir.Q174 (Qhs n0 p0 p1 p2 v2_0 v2_1) (Q99 n0 p0 p1 p2 v2_0 v2_1)
def Qas (n0 : Nat) (p0 : List Fld) (_p1 : Int) (p2 : Int) (q0 : Int) (z : Nat → PV) (_zo : Nat → List PV) : St :=
  ⟨[.ms 0 6 0 n0, z 1, .int .i64 p2, z 3, z 4, z 5, z 6, z 7, z 8, z 9, z 10, z 11, z 12, z 13, .int .i64 q0, z 15, z 16, z 17, z 18, z 19, z 20, z 21, z 22, z 23, z 24, z 25, z 26, z 27, z 28, z 29, z 30, z 31, z 32, z 33, z 34, z 35, z 36, z 37, z 38, z 39, z 40, z 41, z 42, z 43, z 44, z 45, z 46, z 47, z 48, z 49, z 50, z 51, z 52, z 53, z 54, z 55, z 56, z 57, z 58, z 59, z 60, z 61, z 62, z 63, z 64, z 65, z 66, z 67, z 68, z 69, z 70, z 71, z 72, z 73, z 74, z 75, z 76, z 77, z 78, z 79, z 80, z 81, z 82, z 83, z 84, z 85, z 86, z 87, z 88, z 89, z 90, z 91, z 92, z 93, z 94, z 95, z 96, z 97, z 98, z 99, z 100, z 101, z 102, z 103, z 104, z 105, z 106, z 107, z 108, z 109, z 110, z 111, z 112, z 113, z 114, z 115, z 116, z 117, z 118, z 119, z 120, z 121, z 122, z 123, z 124, z 125, z 126, z 127, z 128, z 129, z 130, z 131, z 132, z 133, z 134, z 135, z 136, z 137, z 138, z 139, z 140, z 141, z 142, z 143, z 144, z 145, z 146, z 147, z 148, z 149, z 150, z 151, z 152, z 153, z 154, z 155, z 156, z 157, z 158, z 159, z 160, z 161, z 162, z 163, z 164, z 165, z 166, z 167, z 168, z 169, z 170, z 171, z 172, z 173, z 174, z 175, z 176, z 177, z 178, z 179, z 180, z 181, z 182, z 183, z 184, z 185, z 186, z 187, z 188, z 189, z 190, z 191, z 192, z 193, z 194, z 195, z 196, z 197, z 198, z 199, z 200, z 201, z 202, z 203, z 204, z 205, z 206, z 207, z 208, z 209, z 210, z 211, z 212, z 213, z 214, z 215, z 216, z 217, z 218, z 219], [(0, ⟨6, 0, false, (Fld.rows p0).flatten⟩)], 193⟩
theorem Qmv (n0 : Nat) (p0 : List Fld) (p1 : Int) (p2 : Int) (v2_0 : Int) (v2_1 : Int) : VOK (Go.Pv.look (number 0 (Q99 n0 p0 p1 p2 v2_0 v2_1))) [(0, Fld.rows p0)] := (VOK.cons (show Seen _ _ from Q3v (ob := ⟨6, 0, false, (Fld.rows p0).flatten⟩) (Fld.Q5 p0 6 rfl)) VOK.nil)
def Qcd (n0 : Nat) (p0 : List Fld) (p1 : Int) (p2 : Int) (e : En) (q : Int) : Prop := ∃ z zo, Q7 G e (.st (.exit 4) (Qas n0 p0 p1 p2 q z zo))
theorem Qa1 (n0 : Nat) (p0 : List Fld) (p1 : Int) (p2 : Int) {e e' : En} (h : ∀ r, Q7 G e r → Q7 G e' r) : ∀ q, Qcd n0 p0 p1 p2 e q → Qcd n0 p0 p1 p2 e' q
  | _, ⟨z, zo, hz⟩ => ⟨z, zo, h _ hz⟩
theorem Qz8 (n0 : Nat) (p0 : List Fld) (p1 : Int) (p2 : Int) (v2_0 : Int) (v2_1 : Int) (ho2_0 : p1 ≤ v2_1) (_ho2_1 : v2_1 ≤ v2_0) (ho2_2 : v2_0 ≤ p2) (ho2_3 : p2 < n0) (ho2_4 : 0 ≤ p1) (ho2_5 : (n0 : Int) ≤ 1152921504606846976) (ho2_6 : List.length p0 = n0) (h0 : (decide (v2_1 < v2_0)) = true) (h1 : (decide ((Q27 (List.getD p0 (Int.toNat p2) zF) (List.getD p0 (Int.toNat ((v2_1 + v2_0) / 2)) zF)) < 0)) = true) {r : Rs} (hr : Q7 G (Q62 n0 p0 p1 p2 ((v2_1 + v2_0) / 2) v2_1) r) : Q7 G (Q62 n0 p0 p1 p2 v2_0 v2_1) r := by
 have e0 := of_decide_eq_true h0; have e1 := of_decide_eq_true h1
 exact Qa (Qmv n0 p0 p1 p2 v2_0 v2_1) (y := (Qhs n0 p0 p1 p2 ((v2_1 + v2_0) / 2) v2_1, Q99 n0 p0 p1 p2 ((v2_1 + v2_0) / 2) v2_1)) [hB 2 h0, hP 2 (w_ok (v2_1 + v2_0) (by omega)), hP 0 (Q12 (v2_1 + v2_0) (by omega)), hP 0 (Q1q (v2_1 + v2_0)), hP 0 (Q13 ((v2_1 + v2_0) / 2) (by omega)), hP 4 (Q1m 0 6 n0 p2 (Int.toNat p2) rfl (by omega) (by omega)), hP 0 (Q31 0 6 0 false ((Fld.rows p0).flatten) (Fld.rows p0) 6 true (Int.toNat p2) 0 ((Int.toNat p2) * 6) (Fld.cells (List.getD p0 (Int.toNat p2) zF)) (.agg [.str (List.getD p0 (Int.toNat p2) zF).name, .int .i64 (List.getD p0 (Int.toNat p2) zF).v.kind, .int .i64 (List.getD p0 (Int.toNat p2) zF).v.n, .str (List.getD p0 (Int.toNat p2) zF).v.s, .sl (Val.rows (List.getD p0 (Int.toNat p2) zF).v.list), .sl (Fld.rows (List.getD p0 (Int.toNat p2) zF).v.fields)]) rfl rfl (Fld.Qg (Qu p0 (Int.toNat p2) zF (by omega))) (Fld.Ql p0) (by decide) rfl), hP 2 (Q1m 0 6 n0 ((v2_1 + v2_0) / 2) (Int.toNat ((v2_1 + v2_0) / 2)) rfl (by omega) (by omega)), hP 0 (Q31 0 6 0 false ((Fld.rows p0).flatten) (Fld.rows p0) 6 true (Int.toNat ((v2_1 + v2_0) / 2)) 0 ((Int.toNat ((v2_1 + v2_0) / 2)) * 6) (Fld.cells (List.getD p0 (Int.toNat ((v2_1 + v2_0) / 2)) zF)) (.agg [.str (List.getD p0 (Int.toNat ((v2_1 + v2_0) / 2)) zF).name, .int .i64 (List.getD p0 (Int.toNat ((v2_1 + v2_0) / 2)) zF).v.kind, .int .i64 (List.getD p0 (Int.toNat ((v2_1 + v2_0) / 2)) zF).v.n, .str (List.getD p0 (Int.toNat ((v2_1 + v2_0) / 2)) zF).v.s, .sl (Val.rows (List.getD p0 (Int.toNat ((v2_1 + v2_0) / 2)) zF).v.list), .sl (Fld.rows (List.getD p0 (Int.toNat ((v2_1 + v2_0) / 2)) zF).v.fields)]) rfl rfl (Fld.Qg (Qu p0 (Int.toNat ((v2_1 + v2_0) / 2)) zF (by omega))) (Fld.Ql p0) (by decide) rfl), hB 1 h1] [aN (Qpt (List.getD p0 (Int.toNat p2) zF) (List.getD p0 (Int.toNat ((v2_1 + v2_0) / 2)) zF))] (by kernel_rfl) hr
theorem Qzu (n0 : Nat) (p0 : List Fld) (p1 : Int) (p2 : Int) (v2_0 : Int) (v2_1 : Int) (ho2_0 : p1 ≤ v2_1) (_ho2_1 : v2_1 ≤ v2_0) (ho2_2 : v2_0 ≤ p2) (ho2_3 : p2 < n0) (ho2_4 : 0 ≤ p1) (ho2_5 : (n0 : Int) ≤ 1152921504606846976) (ho2_6 : List.length p0 = n0) (h0 : (decide (v2_1 < v2_0)) = true) (h1 : (decide ((Q27 (List.getD p0 (Int.toNat p2) zF) (List.getD p0 (Int.toNat ((v2_1 + v2_0) / 2)) zF)) < 0)) = false) {r : Rs} (hr : Q7 G (Q62 n0 p0 p1 p2 v2_0 (((v2_1 + v2_0) / 2) + 1)) r) : Q7 G (Q62 n0 p0 p1 p2 v2_0 v2_1) r := by
 have e0 := of_decide_eq_true h0; have e1 := of_decide_eq_false h1
 exact Qa (Qmv n0 p0 p1 p2 v2_0 v2_1) (y := (Qhs n0 p0 p1 p2 v2_0 (((v2_1 + v2_0) / 2) + 1), Q99 n0 p0 p1 p2 v2_0 (((v2_1 + v2_0) / 2) + 1))) [hB 2 h0, hP 2 (w_ok (v2_1 + v2_0) (by omega)), hP 0 (Q12 (v2_1 + v2_0) (by omega)), hP 0 (Q1q (v2_1 + v2_0)), hP 0 (Q13 ((v2_1 + v2_0) / 2) (by omega)), hP 4 (Q1m 0 6 n0 p2 (Int.toNat p2) rfl (by omega) (by omega)), hP 0 (Q31 0 6 0 false ((Fld.rows p0).flatten) (Fld.rows p0) 6 true (Int.toNat p2) 0 ((Int.toNat p2) * 6) (Fld.cells (List.getD p0 (Int.toNat p2) zF)) (.agg [.str (List.getD p0 (Int.toNat p2) zF).name, .int .i64 (List.getD p0 (Int.toNat p2) zF).v.kind, .int .i64 (List.getD p0 (Int.toNat p2) zF).v.n, .str (List.getD p0 (Int.toNat p2) zF).v.s, .sl (Val.rows (List.getD p0 (Int.toNat p2) zF).v.list), .sl (Fld.rows (List.getD p0 (Int.toNat p2) zF).v.fields)]) rfl rfl (Fld.Qg (Qu p0 (Int.toNat p2) zF (by omega))) (Fld.Ql p0) (by decide) rfl), hP 2 (Q1m 0 6 n0 ((v2_1 + v2_0) / 2) (Int.toNat ((v2_1 + v2_0) / 2)) rfl (by omega) (by omega)), hP 0 (Q31 0 6 0 false ((Fld.rows p0).flatten) (Fld.rows p0) 6 true (Int.toNat ((v2_1 + v2_0) / 2)) 0 ((Int.toNat ((v2_1 + v2_0) / 2)) * 6) (Fld.cells (List.getD p0 (Int.toNat ((v2_1 + v2_0) / 2)) zF)) (.agg [.str (List.getD p0 (Int.toNat ((v2_1 + v2_0) / 2)) zF).name, .int .i64 (List.getD p0 (Int.toNat ((v2_1 + v2_0) / 2)) zF).v.kind, .int .i64 (List.getD p0 (Int.toNat ((v2_1 + v2_0) / 2)) zF).v.n, .str (List.getD p0 (Int.toNat ((v2_1 + v2_0) / 2)) zF).v.s, .sl (Val.rows (List.getD p0 (Int.toNat ((v2_1 + v2_0) / 2)) zF).v.list), .sl (Fld.rows (List.getD p0 (Int.toNat ((v2_1 + v2_0) / 2)) zF).v.fields)]) rfl rfl (Fld.Qg (Qu p0 (Int.toNat ((v2_1 + v2_0) / 2)) zF (by omega))) (Fld.Ql p0) (by decide) rfl), hB 1 h1, hP 2 (w_ok (((v2_1 + v2_0) / 2) + 1) (by omega))] [aN (Qpt (List.getD p0 (Int.toNat p2) zF) (List.getD p0 (Int.toNat ((v2_1 + v2_0) / 2)) zF))] (by kernel_rfl) hr
def Qir (_n0 : Nat) (_p0 : List Fld) (_p1 : Int) (_p2 : Int) (v2_0 : Int) (v2_1 : Int) : List PV :=
  [.un, .un, .un, .un, .fn 43 [] [], .un, .un, .un, .un, .un, .un, .un, .un, .un, .un, .int .i64 v2_0, .un, .un, .un, .un, .un, .un, .un, .un, .un, .un, .un, .un, .un, .un, .un, .un, .un, .un, .un, .un, .un, .un, .un, .un, .un, .un, .un, .un, .un, .un, .un, .un, .un, .un, .un, .un, .un, .un, .un, .un, .un, .un, .un, .un, .un, .un, .un, .un, .un, .un, .un, .un, .un, .un, .un, .un, .un, .un, .un, .un, .un, .un, .un, .un, .un, .un, .un, .int .i64 v2_1, .int .i64 v2_0, .bool false]
def Qgy (_n0 : Nat) (_p0 : List Fld) (_p1 : Int) (_p2 : Int) (_v2_0 : Int) (_v2_1 : Int) : List (Nat × List PV) :=
  []
theorem Qyn (n0 : Nat) (p0 : List Fld) (p1 : Int) (p2 : Int) (v2_0 : Int) (v2_1 : Int) (_ho2_0 : p1 ≤ v2_1) (_ho2_1 : v2_1 ≤ v2_0) (_ho2_2 : v2_0 ≤ p2) (_ho2_3 : p2 < n0) (_ho2_4 : 0 ≤ p1) (_ho2_5 : (n0 : Int) ≤ 1152921504606846976) (_ho2_6 : List.length p0 = n0) (h0 : (decide (v2_1 < v2_0)) = false) : Qcd n0 p0 p1 p2 (Q62 n0 p0 p1 p2 v2_0 v2_1) v2_1 := by
 exact ⟨(envF (Qir n0 p0 p1 p2 v2_0 v2_1)), (zoF (Qgy n0 p0 p1 p2 v2_0 v2_1)), Qf (Qmv n0 p0 p1 p2 v2_0 v2_1) (x := ((.exit 4), Qas n0 p0 p1 p2 v2_1 (envF (Qir n0 p0 p1 p2 v2_0 v2_1)) (zoF (Qgy n0 p0 p1 p2 v2_0 v2_1)))) [hB 2 h0] [] (by kernel_rfl)⟩
theorem Qhg (n0 : Nat) (p0 : List Fld) (p1 : Int) (p2 : Int) : ∀ (k2 : Nat) (v2_0 : Int) (v2_1 : Int), p1 ≤ v2_1 → v2_1 ≤ v2_0 → v2_0 ≤ p2 → p2 < n0 → 0 ≤ p1 → (n0 : Int) ≤ 1152921504606846976 → List.length p0 = n0 → Int.toNat (v2_0 - v2_1) < k2 → Qcd n0 p0 p1 p2 (Q62 n0 p0 p1 p2 v2_0 v2_1) (Q2h n0 p0 p1 p2 k2 v2_0 v2_1)
 | 0, v2_0, v2_1, _, _, _, _, _, _, _, hm => absurd hm (Nat.not_lt_zero _)
 | k2 + 1, v2_0, v2_1, ho2_0, ho2_1, ho2_2, ho2_3, ho2_4, ho2_5, ho2_6, hm => by
  rw [Q2h]
  cases h0 : (decide (v2_1 < v2_0)) with
  | true =>
   have e0 := of_decide_eq_true h0
   cases h1 : (decide ((Q27 (List.getD p0 (Int.toNat p2) zF) (List.getD p0 (Int.toNat ((v2_1 + v2_0) / 2)) zF)) < 0)) with
   | true =>
    have e1 := of_decide_eq_true h1
    exact Qa1 n0 p0 p1 p2 (fun r hr => Qz8 n0 p0 p1 p2 v2_0 v2_1 ho2_0 ho2_1 ho2_2 ho2_3 ho2_4 ho2_5 ho2_6 h0 h1 hr) _ (Qhg n0 p0 p1 p2 k2 ((v2_1 + v2_0) / 2) v2_1 (by omega) (by omega) (by omega) (by omega) (by omega) (by omega) ho2_6 (by omega))
   | false =>
    have e1 := of_decide_eq_false h1
    exact Qa1 n0 p0 p1 p2 (fun r hr => Qzu n0 p0 p1 p2 v2_0 v2_1 ho2_0 ho2_1 ho2_2 ho2_3 ho2_4 ho2_5 ho2_6 h0 h1 hr) _ (Qhg n0 p0 p1 p2 k2 v2_0 (((v2_1 + v2_0) / 2) + 1) (by omega) (by omega) (by omega) (by omega) (by omega) (by omega) ho2_6 (by omega))
  | false =>
   exact Qyn n0 p0 p1 p2 v2_0 v2_1 ho2_0 ho2_1 ho2_2 ho2_3 ho2_4 ho2_5 ho2_6 h0
theorem Qgv (n0 : Nat) (p0 : List Fld) (p1 : Int) (p2 : Int) : ∀ (k2 : Nat) (v2_0 : Int) (v2_1 : Int), p1 ≤ v2_1 → v2_1 ≤ v2_0 → v2_0 ≤ p2 → p2 < n0 → 0 ≤ p1 → (n0 : Int) ≤ 1152921504606846976 → List.length p0 = n0 → Int.toNat (v2_0 - v2_1) < k2 → p1 ≤ (Q2h n0 p0 p1 p2 k2 v2_0 v2_1) ∧ (Q2h n0 p0 p1 p2 k2 v2_0 v2_1) ≤ p2
 | 0, v2_0, v2_1, _, _, _, _, _, _, _, hm => absurd hm (Nat.not_lt_zero _)
 | k2 + 1, v2_0, v2_1, ho2_0, ho2_1, ho2_2, ho2_3, ho2_4, ho2_5, ho2_6, hm => by
  rw [Q2h]
  cases h0 : (decide (v2_1 < v2_0)) with
  | true =>
   have e0 := of_decide_eq_true h0
   cases h1 : (decide ((Q27 (List.getD p0 (Int.toNat p2) zF) (List.getD p0 (Int.toNat ((v2_1 + v2_0) / 2)) zF)) < 0)) with
   | true =>
    have e1 := of_decide_eq_true h1
    exact Qgv n0 p0 p1 p2 k2 ((v2_1 + v2_0) / 2) v2_1 (by omega) (by omega) (by omega) (by omega) (by omega) (by omega) ho2_6 (by omega)
   | false =>
    have e1 := of_decide_eq_false h1
    exact Qgv n0 p0 p1 p2 k2 v2_0 (((v2_1 + v2_0) / 2) + 1) (by omega) (by omega) (by omega) (by omega) (by omega) (by omega) ho2_6 (by omega)
  | false =>
   have e0 := of_decide_eq_false h0
   exact (show p1 ≤ v2_1 ∧ v2_1 ≤ p2 from ⟨(by omega), (by omega)⟩)
def Q2v (n0 : Nat) : Nat → Int → (List Fld) → Int → List Fld
 | 0, _v3_0, v3_1, _v3_2 => v3_1
 | k3 + 1, v3_0, v3_1, v3_2 =>
  bif (decide (v3_0 < v3_2)) then
   Q2v n0 k3 v3_0 (List.set (List.set v3_1 (Int.toNat v3_2) (List.getD v3_1 (Int.toNat (v3_2 - 1)) zF)) (Int.toNat (v3_2 - 1)) (List.getD v3_1 (Int.toNat v3_2) zF)) (v3_2 - 1)
  else
   v3_1
def Qoq (n0 : Nat) (v3_0 : Int) (_v3_1 : List Fld) (v3_2 : Int) : List PV :=
  [.ms 0 6 0 n0, .un, .un, .un, .un, .un, .un, .un, .un, .un, .un, .un, .un, .un, .int .i64 v3_0, .un, .un, .int .i64 v3_2, .un, .un, .un, .un, .un, .un, .un, .un, .un, .un, .un, .un, .un, .un, .un, .un, .un, .un, .un, .un, .un, .un, .un, .un, .un, .un, .un, .un, .un, .un, .un, .un, .un, .un, .un, .un, .un, .un, .un, .un, .un, .un, .un, .un, .un, .un, .un, .un, .un, .un, .un, .un, .un, .un, .un, .un, .un, .un, .un, .un, .un, .un, .un, .un, .un, .un, .un, .un, .un, .un, .un, .un, .un, .un, .un, .un, .un, .un, .un, .un, .un, .un, .un, .un, .un, .un, .un, .un, .un, .un, .un, .un, .un, .un, .un, .un, .un, .un, .un, .un, .un, .un, .un, .un, .un, .un, .un, .un, .un, .un, .un, .un, .un, .un, .un, .un, .un, .un, .un, .un, .un, .un, .un, .un, .un, .un, .un, .un, .un, .un, .un, .un, .un, .un, .un, .un, .un, .un, .un, .un, .un, .un, .un, .un, .un, .un, .un, .un, .un, .un, .un, .un, .un, .un, .un, .un, .un, .un, .un, .un, .un, .un, .un, .un, .un, .un, .un, .un, .un, .un, .un, .un, .un, .un, .un, .un, .un, .un, .un, .un, .un, .un, .un, .un, .un, .un, .un, .un, .un, .un, .un, .un, .un, .un, .un, .un, .un, .un, .un, .un, .un, .un]
def Qeq (_n0 : Nat) (_v3_0 : Int) (v3_1 : List Fld) (_v3_2 : Int) : List Ob :=
  [⟨6, 0, false, (Fld.rows v3_1).flatten⟩]
def Q9v (n0 : Nat) (v3_0 : Int) (v3_1 : List Fld) (v3_2 : Int) : En := .loop 1 Ir.Qd9 Ir.Q17q (Qoq n0 v3_0 v3_1 v3_2) (Qeq n0 v3_0 v3_1 v3_2)
def Qb5 (_n0 : Nat) (q0 : List Fld) (z : Nat → PV) (_zo : Nat → List PV) : St :=
  ⟨[z 0, z 1, z 2, z 3, z 4, z 5, z 6, z 7, z 8, z 9, z 10, z 11, z 12, z 13, z 14, z 15, z 16, z 17, z 18, z 19, z 20, z 21, z 22, z 23, z 24, z 25, z 26, z 27, z 28, z 29, z 30, z 31, z 32, z 33, z 34, z 35, z 36, z 37, z 38, z 39, z 40, z 41, z 42, z 43, z 44, z 45, z 46, z 47, z 48, z 49, z 50, z 51, z 52, z 53, z 54, z 55, z 56, z 57, z 58, z 59, z 60, z 61, z 62, z 63, z 64, z 65, z 66, z 67, z 68, z 69, z 70, z 71, z 72, z 73, z 74, z 75, z 76, z 77, z 78, z 79, z 80, z 81, z 82, z 83, z 84, z 85, z 86, z 87, z 88, z 89, z 90, z 91, z 92, z 93, z 94, z 95, z 96, z 97, z 98, z 99, z 100, z 101, z 102, z 103, z 104, z 105, z 106, z 107, z 108, z 109, z 110, z 111, z 112, z 113, z 114, z 115, z 116, z 117, z 118, z 119, z 120, z 121, z 122, z 123, z 124, z 125, z 126, z 127, z 128, z 129, z 130, z 131, z 132, z 133, z 134, z 135, z 136, z 137, z 138, z 139, z 140, z 141, z 142, z 143, z 144, z 145, z 146, z 147, z 148, z 149, z 150, z 151, z 152, z 153, z 154, z 155, z 156, z 157, z 158, z 159, z 160, z 161, z 162, z 163, z 164, z 165, z 166, z 167, z 168, z 169, z 170, z 171, z 172, z 173, z 174, z 175, z 176, z 177, z 178, z 179, z 180, z 181, z 182, z 183, z 184, z 185, z 186, z 187, z 188, z 189, z 190, z 191, z 192, z 193, z 194, z 195, z 196, z 197, z 198, z 199, z 200, z 201, z 202, z 203, z 204, z 205, z 206, z 207, z 208, z 209, z 210, z 211, z 212, z 213, z 214, z 215, z 216, z 217, z 218, z 219], [(0, ⟨6, 0, false, (Fld.rows q0).flatten⟩)], 193⟩
theorem Qwr (n0 : Nat) (v3_0 : Int) (v3_1 : List Fld) (v3_2 : Int) : VOK (Go.Pv.look (number 0 (Qeq n0 v3_0 v3_1 v3_2))) [(0, Fld.rows v3_1)] := (VOK.cons (show Seen _ _ from Q3v (ob := ⟨6, 0, false, (Fld.rows v3_1).flatten⟩) (Fld.Q5 v3_1 6 rfl)) VOK.nil)
def Qcg (n0 : Nat) (e : En) (q : List Fld) : Prop := ∃ z zo, Q7 G e (.st (.exit 6) (Qb5 n0 q z zo))
theorem Qnn (n0 : Nat) {e e' : En} (h : ∀ r, Q7 G e r → Q7 G e' r) : ∀ q, Qcg n0 e q → Qcg n0 e' q
  | _, ⟨z, zo, hz⟩ => ⟨z, zo, h _ hz⟩
theorem Q102 (n0 : Nat) (v3_0 : Int) (v3_1 : List Fld) (v3_2 : Int) (ho3_0 : 0 ≤ v3_0) (ho3_1 : v3_2 < n0) (ho3_2 : (n0 : Int) ≤ 1152921504606846976) (ho3_3 : List.length v3_1 = n0) (h0 : (decide (v3_0 < v3_2)) = true) {r : Rs} (hr : Q7 G (Q9v n0 v3_0 (List.set (List.set v3_1 (Int.toNat v3_2) (List.getD v3_1 (Int.toNat (v3_2 - 1)) zF)) (Int.toNat (v3_2 - 1)) (List.getD v3_1 (Int.toNat v3_2) zF)) (v3_2 - 1)) r) : Q7 G (Q9v n0 v3_0 v3_1 v3_2) r := by
 have e0 := of_decide_eq_true h0
 exact Qa (Qwr n0 v3_0 v3_1 v3_2) (y := (Qoq n0 v3_0 (List.set (List.set v3_1 (Int.toNat v3_2) (List.getD v3_1 (Int.toNat (v3_2 - 1)) zF)) (Int.toNat (v3_2 - 1)) (List.getD v3_1 (Int.toNat v3_2) zF)) (v3_2 - 1), Qeq n0 v3_0 (List.set (List.set v3_1 (Int.toNat v3_2) (List.getD v3_1 (Int.toNat (v3_2 - 1)) zF)) (Int.toNat (v3_2 - 1)) (List.getD v3_1 (Int.toNat v3_2) zF)) (v3_2 - 1))) [hB 2 h0, hP 4 (w_ok (v3_2 - 1) (by omega)), hP 2 (w_ok (v3_2 - 1) (by omega)), hP 0 (Q1m 0 6 n0 (v3_2 - 1) (Int.toNat (v3_2 - 1)) rfl (by omega) (by omega)), hP 0 (Q31 0 6 0 false ((Fld.rows v3_1).flatten) (Fld.rows v3_1) 6 true (Int.toNat (v3_2 - 1)) 0 ((Int.toNat (v3_2 - 1)) * 6) (Fld.cells (List.getD v3_1 (Int.toNat (v3_2 - 1)) zF)) (.agg [.str (List.getD v3_1 (Int.toNat (v3_2 - 1)) zF).name, .int .i64 (List.getD v3_1 (Int.toNat (v3_2 - 1)) zF).v.kind, .int .i64 (List.getD v3_1 (Int.toNat (v3_2 - 1)) zF).v.n, .str (List.getD v3_1 (Int.toNat (v3_2 - 1)) zF).v.s, .sl (Val.rows (List.getD v3_1 (Int.toNat (v3_2 - 1)) zF).v.list), .sl (Fld.rows (List.getD v3_1 (Int.toNat (v3_2 - 1)) zF).v.fields)]) rfl rfl (Fld.Qg (Qu v3_1 (Int.toNat (v3_2 - 1)) zF (by omega))) (Fld.Ql v3_1) (by decide) rfl), hP 2 (Q1m 0 6 n0 v3_2 (Int.toNat v3_2) rfl (by omega) (by omega)), hP 0 (Q31 0 6 0 false ((Fld.rows v3_1).flatten) (Fld.rows v3_1) 6 true (Int.toNat v3_2) 0 ((Int.toNat v3_2) * 6) (Fld.cells (List.getD v3_1 (Int.toNat v3_2) zF)) (.agg [.str (List.getD v3_1 (Int.toNat v3_2) zF).name, .int .i64 (List.getD v3_1 (Int.toNat v3_2) zF).v.kind, .int .i64 (List.getD v3_1 (Int.toNat v3_2) zF).v.n, .str (List.getD v3_1 (Int.toNat v3_2) zF).v.s, .sl (Val.rows (List.getD v3_1 (Int.toNat v3_2) zF).v.list), .sl (Fld.rows (List.getD v3_1 (Int.toNat v3_2) zF).v.fields)]) rfl rfl (Fld.Qg (Qu v3_1 (Int.toNat v3_2) zF (by omega))) (Fld.Ql v3_1) (by decide) rfl), hP 0 (Q1m 0 6 n0 v3_2 (Int.toNat v3_2) rfl (by omega) (by omega)), hV 0 [(0, Fld.rows (List.set v3_1 (Int.toNat v3_2) (List.getD v3_1 (Int.toNat (v3_2 - 1)) zF)))] (Qfd 0 6 false ((Fld.rows v3_1).flatten) (Fld.rows v3_1) (Fld.rows (List.set v3_1 (Int.toNat v3_2) (List.getD v3_1 (Int.toNat (v3_2 - 1)) zF))) 6 (Int.toNat v3_2) 0 ((Int.toNat v3_2) * 6) _ (.agg [.str (List.getD v3_1 (Int.toNat (v3_2 - 1)) zF).name, .int .i64 (List.getD v3_1 (Int.toNat (v3_2 - 1)) zF).v.kind, .int .i64 (List.getD v3_1 (Int.toNat (v3_2 - 1)) zF).v.n, .str (List.getD v3_1 (Int.toNat (v3_2 - 1)) zF).v.s, .sl (Val.rows (List.getD v3_1 (Int.toNat (v3_2 - 1)) zF).v.list), .sl (Fld.rows (List.getD v3_1 (Int.toNat (v3_2 - 1)) zF).v.fields)]) rfl rfl (Fld.Qg (Qu v3_1 (Int.toNat v3_2) zF (by omega))) (Fld.Ql v3_1) (by decide) rfl rfl (Fld.Q4y v3_1 (Int.toNat v3_2) (List.getD v3_1 (Int.toNat (v3_2 - 1)) zF))), hS 0 false (Fld.Q5 (List.set v3_1 (Int.toNat v3_2) (List.getD v3_1 (Int.toNat (v3_2 - 1)) zF)) 6 rfl), hP 0 (Q1m 0 6 n0 (v3_2 - 1) (Int.toNat (v3_2 - 1)) rfl (by have f0 := (Qp ho3_3 (Int.toNat v3_2) (List.getD v3_1 (Int.toNat (v3_2 - 1)) zF)); omega) (by have f0 := (Qp ho3_3 (Int.toNat v3_2) (List.getD v3_1 (Int.toNat (v3_2 - 1)) zF)); omega)), hV 0 [(0, Fld.rows (List.set (List.set v3_1 (Int.toNat v3_2) (List.getD v3_1 (Int.toNat (v3_2 - 1)) zF)) (Int.toNat (v3_2 - 1)) (List.getD v3_1 (Int.toNat v3_2) zF)))] (Qfd 0 6 false ((Fld.rows (List.set v3_1 (Int.toNat v3_2) (List.getD v3_1 (Int.toNat (v3_2 - 1)) zF))).flatten) (Fld.rows (List.set v3_1 (Int.toNat v3_2) (List.getD v3_1 (Int.toNat (v3_2 - 1)) zF))) (Fld.rows (List.set (List.set v3_1 (Int.toNat v3_2) (List.getD v3_1 (Int.toNat (v3_2 - 1)) zF)) (Int.toNat (v3_2 - 1)) (List.getD v3_1 (Int.toNat v3_2) zF))) 6 (Int.toNat (v3_2 - 1)) 0 ((Int.toNat (v3_2 - 1)) * 6) _ (.agg [.str (List.getD v3_1 (Int.toNat v3_2) zF).name, .int .i64 (List.getD v3_1 (Int.toNat v3_2) zF).v.kind, .int .i64 (List.getD v3_1 (Int.toNat v3_2) zF).v.n, .str (List.getD v3_1 (Int.toNat v3_2) zF).v.s, .sl (Val.rows (List.getD v3_1 (Int.toNat v3_2) zF).v.list), .sl (Fld.rows (List.getD v3_1 (Int.toNat v3_2) zF).v.fields)]) rfl rfl (Fld.Qg (Qu (List.set v3_1 (Int.toNat v3_2) (List.getD v3_1 (Int.toNat (v3_2 - 1)) zF)) (Int.toNat (v3_2 - 1)) zF (by have f0 := (Qp ho3_3 (Int.toNat v3_2) (List.getD v3_1 (Int.toNat (v3_2 - 1)) zF)); try simp only [List.length_set]; omega))) (Fld.Ql (List.set v3_1 (Int.toNat v3_2) (List.getD v3_1 (Int.toNat (v3_2 - 1)) zF))) (by decide) rfl rfl (Fld.Q4y (List.set v3_1 (Int.toNat v3_2) (List.getD v3_1 (Int.toNat (v3_2 - 1)) zF)) (Int.toNat (v3_2 - 1)) (List.getD v3_1 (Int.toNat v3_2) zF))), hS 0 false (Fld.Q5 (List.set (List.set v3_1 (Int.toNat v3_2) (List.getD v3_1 (Int.toNat (v3_2 - 1)) zF)) (Int.toNat (v3_2 - 1)) (List.getD v3_1 (Int.toNat v3_2) zF)) 6 rfl), hP 1 (w_ok (v3_2 - 1) (by have f0 := (Qp (Qp ho3_3 (Int.toNat v3_2) (List.getD v3_1 (Int.toNat (v3_2 - 1)) zF)) (Int.toNat (v3_2 - 1)) (List.getD v3_1 (Int.toNat v3_2) zF)); omega))] [] (by kernel_rfl) hr
def Qld (n0 : Nat) (v3_0 : Int) (_v3_1 : List Fld) (v3_2 : Int) : List PV :=
  [.ms 0 6 0 n0, .un, .un, .un, .un, .un, .un, .un, .un, .un, .un, .un, .un, .un, .int .i64 v3_0, .un, .un, .int .i64 v3_2, .un, .un, .un, .un, .un, .un, .un, .un, .un, .un, .un, .un, .un, .un, .un, .un, .un, .un, .un, .un, .un, .un, .un, .un, .un, .un, .un, .un, .un, .un, .un, .un, .un, .un, .un, .un, .un, .un, .un, .un, .un, .un, .un, .un, .un, .un, .un, .un, .un, .un, .un, .un, .un, .un, .un, .un, .un, .un, .un, .un, .un, .un, .un, .un, .un, .un, .un, .un, .un, .un, .un, .un, .un, .un, .un, .un, .un, .un, .un, .un, .un, .un, .un, .un, .un, .un, .un, .un, .un, .un, .int .i64 v3_2, .int .i64 v3_0, .bool false]
def Qem (_n0 : Nat) (_v3_0 : Int) (_v3_1 : List Fld) (_v3_2 : Int) : List (Nat × List PV) :=
  []
theorem Qzx (n0 : Nat) (v3_0 : Int) (v3_1 : List Fld) (v3_2 : Int) (_ho3_0 : 0 ≤ v3_0) (_ho3_1 : v3_2 < n0) (_ho3_2 : (n0 : Int) ≤ 1152921504606846976) (_ho3_3 : List.length v3_1 = n0) (h0 : (decide (v3_0 < v3_2)) = false) : Qcg n0 (Q9v n0 v3_0 v3_1 v3_2) v3_1 := by
 exact ⟨(envF (Qld n0 v3_0 v3_1 v3_2)), (zoF (Qem n0 v3_0 v3_1 v3_2)), Qf (Qwr n0 v3_0 v3_1 v3_2) (x := ((.exit 6), Qb5 n0 v3_1 (envF (Qld n0 v3_0 v3_1 v3_2)) (zoF (Qem n0 v3_0 v3_1 v3_2)))) [hB 2 h0] [] (by kernel_rfl)⟩
theorem Qt2 (n0 : Nat) : ∀ (k3 : Nat) (v3_0 : Int) (v3_1 : List Fld) (v3_2 : Int), 0 ≤ v3_0 → v3_2 < n0 → (n0 : Int) ≤ 1152921504606846976 → List.length v3_1 = n0 → Int.toNat (v3_2 - v3_0) < k3 → Qcg n0 (Q9v n0 v3_0 v3_1 v3_2) (Q2v n0 k3 v3_0 v3_1 v3_2)
 | 0, v3_0, v3_1, v3_2, _, _, _, _, hm => absurd hm (Nat.not_lt_zero _)
 | k3 + 1, v3_0, v3_1, v3_2, ho3_0, ho3_1, ho3_2, ho3_3, hm => by
  rw [Q2v]
  cases h0 : (decide (v3_0 < v3_2)) with
  | true =>
   have e0 := of_decide_eq_true h0
   exact Qnn n0 (fun r hr => Q102 n0 v3_0 v3_1 v3_2 ho3_0 ho3_1 ho3_2 ho3_3 h0 hr) _ (Qt2 n0 k3 v3_0 (List.set (List.set v3_1 (Int.toNat v3_2) (List.getD v3_1 (Int.toNat (v3_2 - 1)) zF)) (Int.toNat (v3_2 - 1)) (List.getD v3_1 (Int.toNat v3_2) zF)) (v3_2 - 1) (by have f0 := (Qp (Qp ho3_3 (Int.toNat v3_2) (List.getD v3_1 (Int.toNat (v3_2 - 1)) zF)) (Int.toNat (v3_2 - 1)) (List.getD v3_1 (Int.toNat v3_2) zF)); omega) (by have f0 := (Qp (Qp ho3_3 (Int.toNat v3_2) (List.getD v3_1 (Int.toNat (v3_2 - 1)) zF)) (Int.toNat (v3_2 - 1)) (List.getD v3_1 (Int.toNat v3_2) zF)); omega) (by have f0 := (Qp (Qp ho3_3 (Int.toNat v3_2) (List.getD v3_1 (Int.toNat (v3_2 - 1)) zF)) (Int.toNat (v3_2 - 1)) (List.getD v3_1 (Int.toNat v3_2) zF)); omega) (Qp (Qp ho3_3 (Int.toNat v3_2) (List.getD v3_1 (Int.toNat (v3_2 - 1)) zF)) (Int.toNat (v3_2 - 1)) (List.getD v3_1 (Int.toNat v3_2) zF)) (by have f0 := (Qp (Qp ho3_3 (Int.toNat v3_2) (List.getD v3_1 (Int.toNat (v3_2 - 1)) zF)) (Int.toNat (v3_2 - 1)) (List.getD v3_1 (Int.toNat v3_2) zF)); omega))
  | false =>
   exact Qzx n0 v3_0 v3_1 v3_2 ho3_0 ho3_1 ho3_2 ho3_3 h0
theorem Q8x (n0 : Nat) : ∀ (k3 : Nat) (v3_0 : Int) (v3_1 : List Fld) (v3_2 : Int), List.length v3_1 = n0 → List.length (Q2v n0 k3 v3_0 v3_1 v3_2) = n0
 | 0, v3_0, v3_1, v3_2, ho3_3 => by rw [Q2v]; exact ho3_3
 | k3 + 1, v3_0, v3_1, v3_2, ho3_3 => by
  rw [Q2v]
  cases h0 : (decide (v3_0 < v3_2)) with
  | true =>
   exact Q8x n0 k3 v3_0 (List.set (List.set v3_1 (Int.toNat v3_2) (List.getD v3_1 (Int.toNat (v3_2 - 1)) zF)) (Int.toNat (v3_2 - 1)) (List.getD v3_1 (Int.toNat v3_2) zF)) (v3_2 - 1) (Qp (Qp ho3_3 (Int.toNat v3_2) (List.getD v3_1 (Int.toNat (v3_2 - 1)) zF)) (Int.toNat (v3_2 - 1)) (List.getD v3_1 (Int.toNat v3_2) zF))
  | false =>
   exact ho3_3
def Q0 (n0 : Nat) (p0 : List Fld) (p1 : Int) (p2 : Int) (p3 : Int) : Nat → Int → Int → Int → Int → Int → Int × Int × Int
 | 0, v4_0, v4_1, v4_2, _v4_3, _v4_4 => (v4_0, v4_1, v4_2)
 | k4 + 1, v4_0, v4_1, v4_2, v4_3, v4_4 =>
  bif (decide (v4_2 < v4_3)) then
   bif (decide ((Q27 (List.getD p0 (Int.toNat (v4_4 - ((v4_2 + v4_3) / 2))) zF) (List.getD p0 (Int.toNat ((v4_2 + v4_3) / 2)) zF)) < 0)) then
    Q0 n0 p0 p1 p2 p3 k4 v4_0 v4_1 v4_2 ((v4_2 + v4_3) / 2) v4_4
   else
    Q0 n0 p0 p1 p2 p3 k4 v4_0 v4_1 (((v4_2 + v4_3) / 2) + 1) v4_3 v4_4
  else
   (v4_0, v4_1, v4_2)
def Qfv (n0 : Nat) (_p0 : List Fld) (p1 : Int) (p2 : Int) (p3 : Int) (v4_0 : Int) (v4_1 : Int) (v4_2 : Int) (v4_3 : Int) (v4_4 : Int) : List PV :=
  [.ms 0 6 0 n0, .int .i64 p1, .int .i64 p2, .int .i64 p3, .fn 43 [] [], .un, .un, .un, .un, .un, .un, .un, .un, .un, .un, .un, .un, .un, .int .i64 v4_0, .int .i64 v4_1, .int .i64 v4_2, .int .i64 v4_3, .int .i64 v4_4, .un, .un, .un, .un, .un, .un, .un, .un, .un, .un, .un, .un, .un, .un, .un, .un, .un, .un, .un, .un, .un, .un, .un, .un, .un, .un, .un, .un, .un, .un, .un, .un, .un, .un, .un, .un, .un, .un, .un, .un, .un, .un, .un, .un, .un, .un, .un, .un, .un, .un, .un, .un, .un, .un, .un, .un, .un, .un, .un, .un, .un, .un, .un, .un, .un, .un, .un, .un, .un, .un, .un, .un, .un, .un, .un, .un, .un, .un, .un, .un, .un, .un, .un, .un, .un, .un, .un, .un, .un, .un, .un, .un, .un, .un, .un, .un, .un, .un, .un, .un, .un, .un, .un, .un, .un, .un, .un, .un, .un, .un, .un, .un, .un, .un, .un, .un, .un, .un, .un, .un, .un, .un, .un, .un, .un, .un, .un, .un, .un, .un, .un, .un, .un, .un, .un, .un, .un, .un, .un, .un, .un, .un, .un, .un, .un, .un, .un, .un, .un, .un, .un, .un, .un, .un, .un, .un, .un, .un, .un, .un, .un, .un, .un, .un, .un, .un, .un, .un, .un, .un, .un, .un, .un, .un, .un, .un, .un, .un, .un, .un, .un, .un, .un, .un, .un, .un, .un, .un, .un, .un, .un, .un, .un, .un, .un, .un, .un]
def Q9t (_n0 : Nat) (p0 : List Fld) (_p1 : Int) (_p2 : Int) (_p3 : Int) (_v4_0 : Int) (_v4_1 : Int) (_v4_2 : Int) (_v4_3 : Int) (_v4_4 : Int) : List Ob :=
  [⟨6, 0, false, (Fld.rows p0).flatten⟩]
def Q24 (n0 : Nat) (p0 : List Fld) (p1 : Int) (p2 : Int) (p3 : Int) (v4_0 : Int) (v4_1 : Int) (v4_2 : Int) (v4_3 : Int) (v4_4 : Int) : En := .loop 1 Ir.Qek Ir.Q179 (Qfv n0 p0 p1 p2 p3 v4_0 v4_1 v4_2 v4_3 v4_4) (Q9t n0 p0 p1 p2 p3 v4_0 v4_1 v4_2 v4_3 v4_4)
def Q1w (n0 : Nat) (p0 : List Fld) (p1 : Int) (p2 : Int) (p3 : Int) (q0 : Int) (q1 : Int) (q2 : Int) (z : Nat → PV) (_zo : Nat → List PV) : St :=
  ⟨[.ms 0 6 0 n0, .int .i64 p1, .int .i64 p2, .int .i64 p3, .fn 43 [] [], z 5, z 6, z 7, z 8, z 9, z 10, z 11, z 12, z 13, z 14, z 15, z 16, z 17, .int .i64 q0, .int .i64 q1, .int .i64 q2, z 21, z 22, z 23, z 24, z 25, z 26, z 27, z 28, z 29, z 30, z 31, z 32, z 33, z 34, z 35, z 36, z 37, z 38, z 39, z 40, z 41, z 42, z 43, z 44, z 45, z 46, z 47, z 48, z 49, z 50, z 51, z 52, z 53, z 54, z 55, z 56, z 57, z 58, z 59, z 60, z 61, z 62, z 63, z 64, z 65, z 66, z 67, z 68, z 69, z 70, z 71, z 72, z 73, z 74, z 75, z 76, z 77, z 78, z 79, z 80, z 81, z 82, z 83, z 84, z 85, z 86, z 87, z 88, z 89, z 90, z 91, z 92, z 93, z 94, z 95, z 96, z 97, z 98, z 99, z 100, z 101, z 102, z 103, z 104, z 105, z 106, z 107, z 108, z 109, z 110, z 111, z 112, z 113, z 114, z 115, z 116, z 117, z 118, z 119, z 120, z 121, z 122, z 123, z 124, z 125, z 126, z 127, z 128, z 129, z 130, z 131, z 132, z 133, z 134, z 135, z 136, z 137, z 138, z 139, z 140, z 141, z 142, z 143, z 144, z 145, z 146, z 147, z 148, z 149, z 150, z 151, z 152, z 153, z 154, z 155, z 156, z 157, z 158, z 159, z 160, z 161, z 162, z 163, z 164, z 165, z 166, z 167, z 168, z 169, z 170, z 171, z 172, z 173, z 174, z 175, z 176, z 177, z 178, z 179, z 180, z 181, z 182, z 183, z 184, z 185, z 186, z 187, z 188, z 189, z 190, z 191, z 192, z 193, z 194, z 195, z 196, z 197, z 198, z 199, z 200, z 201, z 202, z 203, z 204, z 205, z 206, z 207, z 208, z 209, z 210, z 211, z 212, z 213, z 214, z 215, z 216, z 217, z 218, z 219], [(0, ⟨6, 0, false, (Fld.rows p0).flatten⟩)], 193⟩
theorem Qng (n0 : Nat) (p0 : List Fld) (p1 : Int) (p2 : Int) (p3 : Int) (v4_0 : Int) (v4_1 : Int) (v4_2 : Int) (v4_3 : Int) (v4_4 : Int) : VOK (Go.Pv.look (number 0 (Q9t n0 p0 p1 p2 p3 v4_0 v4_1 v4_2 v4_3 v4_4))) [(0, Fld.rows p0)] := (VOK.cons (show Seen _ _ from Q3v (ob := ⟨6, 0, false, (Fld.rows p0).flatten⟩) (Fld.Q5 p0 6 rfl)) VOK.nil)
def Qd3 (n0 : Nat) (p0 : List Fld) (p1 : Int) (p2 : Int) (p3 : Int) (e : En) (q : Int × Int × Int) : Prop := ∃ z zo, Q7 G e (.st (.exit 8) (Q1w n0 p0 p1 p2 p3 q.1 q.2.1 q.2.2 z zo))
theorem Q9w (n0 : Nat) (p0 : List Fld) (p1 : Int) (p2 : Int) (p3 : Int) {e e' : En} (h : ∀ r, Q7 G e r → Q7 G e' r) : ∀ q, Qd3 n0 p0 p1 p2 p3 e q → Qd3 n0 p0 p1 p2 p3 e' q
  | _, ⟨z, zo, hz⟩ => ⟨z, zo, h _ hz⟩
theorem Qwz (n0 : Nat) (p0 : List Fld) (p1 : Int) (p2 : Int) (p3 : Int) (v4_0 : Int) (v4_1 : Int) (v4_2 : Int) (v4_3 : Int) (v4_4 : Int) (ho4_0 : v4_4 = v4_1 - 1) (ho4_1 : p1 ≤ v4_2) (_ho4_2 : v4_2 ≤ v4_3) (ho4_3 : v4_3 ≤ p2) (ho4_4 : v4_1 - v4_2 ≤ p3) (ho4_5 : p2 ≤ v4_1 - v4_3) (ho4_6 : 0 ≤ p1) (ho4_7 : p2 < p3) (ho4_8 : p3 ≤ n0) (ho4_9 : (n0 : Int) ≤ 1152921504606846976) (ho4_10 : List.length p0 = n0) (h0 : (decide (v4_2 < v4_3)) = true) (h1 : (decide ((Q27 (List.getD p0 (Int.toNat (v4_4 - ((v4_2 + v4_3) / 2))) zF) (List.getD p0 (Int.toNat ((v4_2 + v4_3) / 2)) zF)) < 0)) = true) {r : Rs} (hr : Q7 G (Q24 n0 p0 p1 p2 p3 v4_0 v4_1 v4_2 ((v4_2 + v4_3) / 2) v4_4) r) : Q7 G (Q24 n0 p0 p1 p2 p3 v4_0 v4_1 v4_2 v4_3 v4_4) r := by
 have e0 := of_decide_eq_true h0; have e1 := of_decide_eq_true h1
 exact Qa (Qng n0 p0 p1 p2 p3 v4_0 v4_1 v4_2 v4_3 v4_4) (y := (Qfv n0 p0 p1 p2 p3 v4_0 v4_1 v4_2 ((v4_2 + v4_3) / 2) v4_4, Q9t n0 p0 p1 p2 p3 v4_0 v4_1 v4_2 ((v4_2 + v4_3) / 2) v4_4)) [hB 2 h0, hP 2 (w_ok (v4_2 + v4_3) (by omega)), hP 0 (Q12 (v4_2 + v4_3) (by omega)), hP 0 (Q1q (v4_2 + v4_3)), hP 0 (Q13 ((v4_2 + v4_3) / 2) (by omega)), hP 5 (w_ok (v4_4 - ((v4_2 + v4_3) / 2)) (by omega)), hP 0 (Q1m 0 6 n0 (v4_4 - ((v4_2 + v4_3) / 2)) (Int.toNat (v4_4 - ((v4_2 + v4_3) / 2))) rfl (by omega) (by omega)), hP 0 (Q31 0 6 0 false ((Fld.rows p0).flatten) (Fld.rows p0) 6 true (Int.toNat (v4_4 - ((v4_2 + v4_3) / 2))) 0 ((Int.toNat (v4_4 - ((v4_2 + v4_3) / 2))) * 6) (Fld.cells (List.getD p0 (Int.toNat (v4_4 - ((v4_2 + v4_3) / 2))) zF)) (.agg [.str (List.getD p0 (Int.toNat (v4_4 - ((v4_2 + v4_3) / 2))) zF).name, .int .i64 (List.getD p0 (Int.toNat (v4_4 - ((v4_2 + v4_3) / 2))) zF).v.kind, .int .i64 (List.getD p0 (Int.toNat (v4_4 - ((v4_2 + v4_3) / 2))) zF).v.n, .str (List.getD p0 (Int.toNat (v4_4 - ((v4_2 + v4_3) / 2))) zF).v.s, .sl (Val.rows (List.getD p0 (Int.toNat (v4_4 - ((v4_2 + v4_3) / 2))) zF).v.list), .sl (Fld.rows (List.getD p0 (Int.toNat (v4_4 - ((v4_2 + v4_3) / 2))) zF).v.fields)]) rfl rfl (Fld.Qg (Qu p0 (Int.toNat (v4_4 - ((v4_2 + v4_3) / 2))) zF (by omega))) (Fld.Ql p0) (by decide) rfl), hP 2 (Q1m 0 6 n0 ((v4_2 + v4_3) / 2) (Int.toNat ((v4_2 + v4_3) / 2)) rfl (by omega) (by omega)), hP 0 (Q31 0 6 0 false ((Fld.rows p0).flatten) (Fld.rows p0) 6 true (Int.toNat ((v4_2 + v4_3) / 2)) 0 ((Int.toNat ((v4_2 + v4_3) / 2)) * 6) (Fld.cells (List.getD p0 (Int.toNat ((v4_2 + v4_3) / 2)) zF)) (.agg [.str (List.getD p0 (Int.toNat ((v4_2 + v4_3) / 2)) zF).name, .int .i64 (List.getD p0 (Int.toNat ((v4_2 + v4_3) / 2)) zF).v.kind, .int .i64 (List.getD p0 (Int.toNat ((v4_2 + v4_3) / 2)) zF).v.n, .str (List.getD p0 (Int.toNat ((v4_2 + v4_3) / 2)) zF).v.s, .sl (Val.rows (List.getD p0 (Int.toNat ((v4_2 + v4_3) / 2)) zF).v.list), .sl (Fld.rows (List.getD p0 (Int.toNat ((v4_2 + v4_3) / 2)) zF).v.fields)]) rfl rfl (Fld.Qg (Qu p0 (Int.toNat ((v4_2 + v4_3) / 2)) zF (by omega))) (Fld.Ql p0) (by decide) rfl), hB 1 h1] [aN (Qpt (List.getD p0 (Int.toNat (v4_4 - ((v4_2 + v4_3) / 2))) zF) (List.getD p0 (Int.toNat ((v4_2 + v4_3) / 2)) zF))] (by kernel_rfl) hr
theorem Q109 (n0 : Nat) (p0 : List Fld) (p1 : Int) (p2 : Int) (p3 : Int) (v4_0 : Int) (v4_1 : Int) (v4_2 : Int) (v4_3 : Int) (v4_4 : Int) (ho4_0 : v4_4 = v4_1 - 1) (ho4_1 : p1 ≤ v4_2) (_ho4_2 : v4_2 ≤ v4_3) (ho4_3 : v4_3 ≤ p2) (ho4_4 : v4_1 - v4_2 ≤ p3) (ho4_5 : p2 ≤ v4_1 - v4_3) (ho4_6 : 0 ≤ p1) (ho4_7 : p2 < p3) (ho4_8 : p3 ≤ n0) (ho4_9 : (n0 : Int) ≤ 1152921504606846976) (ho4_10 : List.length p0 = n0) (h0 : (decide (v4_2 < v4_3)) = true) (h1 : (decide ((Q27 (List.getD p0 (Int.toNat (v4_4 - ((v4_2 + v4_3) / 2))) zF) (List.getD p0 (Int.toNat ((v4_2 + v4_3) / 2)) zF)) < 0)) = false) {r : Rs} (hr : Q7 G (Q24 n0 p0 p1 p2 p3 v4_0 v4_1 (((v4_2 + v4_3) / 2) + 1) v4_3 v4_4) r) : Q7 G (Q24 n0 p0 p1 p2 p3 v4_0 v4_1 v4_2 v4_3 v4_4) r := by
 have e0 := of_decide_eq_true h0; have e1 := of_decide_eq_false h1
 exact Qa (Qng n0 p0 p1 p2 p3 v4_0 v4_1 v4_2 v4_3 v4_4) (y := (Qfv n0 p0 p1 p2 p3 v4_0 v4_1 (((v4_2 + v4_3) / 2) + 1) v4_3 v4_4, Q9t n0 p0 p1 p2 p3 v4_0 v4_1 (((v4_2 + v4_3) / 2) + 1) v4_3 v4_4)) [hB 2 h0, hP 2 (w_ok (v4_2 + v4_3) (by omega)), hP 0 (Q12 (v4_2 + v4_3) (by omega)), hP 0 (Q1q (v4_2 + v4_3)), hP 0 (Q13 ((v4_2 + v4_3) / 2) (by omega)), hP 5 (w_ok (v4_4 - ((v4_2 + v4_3) / 2)) (by omega)), hP 0 (Q1m 0 6 n0 (v4_4 - ((v4_2 + v4_3) / 2)) (Int.toNat (v4_4 - ((v4_2 + v4_3) / 2))) rfl (by omega) (by omega)), hP 0 (Q31 0 6 0 false ((Fld.rows p0).flatten) (Fld.rows p0) 6 true (Int.toNat (v4_4 - ((v4_2 + v4_3) / 2))) 0 ((Int.toNat (v4_4 - ((v4_2 + v4_3) / 2))) * 6) (Fld.cells (List.getD p0 (Int.toNat (v4_4 - ((v4_2 + v4_3) / 2))) zF)) (.agg [.str (List.getD p0 (Int.toNat (v4_4 - ((v4_2 + v4_3) / 2))) zF).name, .int .i64 (List.getD p0 (Int.toNat (v4_4 - ((v4_2 + v4_3) / 2))) zF).v.kind, .int .i64 (List.getD p0 (Int.toNat (v4_4 - ((v4_2 + v4_3) / 2))) zF).v.n, .str (List.getD p0 (Int.toNat (v4_4 - ((v4_2 + v4_3) / 2))) zF).v.s, .sl (Val.rows (List.getD p0 (Int.toNat (v4_4 - ((v4_2 + v4_3) / 2))) zF).v.list), .sl (Fld.rows (List.getD p0 (Int.toNat (v4_4 - ((v4_2 + v4_3) / 2))) zF).v.fields)]) rfl rfl (Fld.Qg (Qu p0 (Int.toNat (v4_4 - ((v4_2 + v4_3) / 2))) zF (by omega))) (Fld.Ql p0) (by decide) rfl), hP 2 (Q1m 0 6 n0 ((v4_2 + v4_3) / 2) (Int.toNat ((v4_2 + v4_3) / 2)) rfl (by omega) (by omega)), hP 0 (Q31 0 6 0 false ((Fld.rows p0).flatten) (Fld.rows p0) 6 true (Int.toNat ((v4_2 + v4_3) / 2)) 0 ((Int.toNat ((v4_2 + v4_3) / 2)) * 6) (Fld.cells (List.getD p0 (Int.toNat ((v4_2 + v4_3) / 2)) zF)) (.agg [.str (List.getD p0 (Int.toNat ((v4_2 + v4_3) / 2)) zF).name, .int .i64 (List.getD p0 (Int.toNat ((v4_2 + v4_3) / 2)) zF).v.kind, .int .i64 (List.getD p0 (Int.toNat ((v4_2 + v4_3) / 2)) zF).v.n, .str (List.getD p0 (Int.toNat ((v4_2 + v4_3) / 2)) zF).v.s, .sl (Val.rows (List.getD p0 (Int.toNat ((v4_2 + v4_3) / 2)) zF).v.list), .sl (Fld.rows (List.getD p0 (Int.toNat ((v4_2 + v4_3) / 2)) zF).v.fields)]) rfl rfl (Fld.Qg (Qu p0 (Int.toNat ((v4_2 + v4_3) / 2)) zF (by omega))) (Fld.Ql p0) (by decide) rfl), hB 1 h1, hP 2 (w_ok (((v4_2 + v4_3) / 2) + 1) (by omega))] [aN (Qpt (List.getD p0 (Int.toNat (v4_4 - ((v4_2 + v4_3) / 2))) zF) (List.getD p0 (Int.toNat ((v4_2 + v4_3) / 2)) zF))] (by kernel_rfl) hr
def Qic (_n0 : Nat) (_p0 : List Fld) (_p1 : Int) (_p2 : Int) (_p3 : Int) (_v4_0 : Int) (_v4_1 : Int) (v4_2 : Int) (v4_3 : Int) (v4_4 : Int) : List PV :=
  [.un, .un, .un, .un, .un, .un, .un, .un, .un, .un, .un, .un, .un, .un, .un, .un, .un, .un, .un, .un, .un, .int .i64 v4_3, .int .i64 v4_4, .un, .un, .un, .un, .un, .un, .un, .un, .un, .un, .un, .un, .un, .un, .un, .un, .un, .un, .un, .un, .un, .un, .un, .un, .un, .un, .un, .un, .un, .un, .un, .un, .un, .un, .un, .un, .un, .un, .un, .un, .un, .un, .un, .un, .un, .un, .un, .un, .un, .un, .un, .un, .un, .un, .un, .un, .un, .un, .un, .un, .un, .un, .un, .un, .un, .un, .un, .un, .un, .un, .un, .un, .un, .un, .un, .un, .un, .un, .un, .un, .un, .un, .un, .un, .un, .un, .un, .un, .un, .un, .un, .un, .un, .un, .un, .un, .un, .un, .un, .un, .un, .un, .un, .un, .un, .un, .un, .un, .un, .un, .un, .un, .un, .un, .un, .un, .un, .un, .un, .un, .un, .un, .un, .un, .un, .un, .int .i64 v4_2, .int .i64 v4_3, .bool false]
def Qew (_n0 : Nat) (_p0 : List Fld) (_p1 : Int) (_p2 : Int) (_p3 : Int) (_v4_0 : Int) (_v4_1 : Int) (_v4_2 : Int) (_v4_3 : Int) (_v4_4 : Int) : List (Nat × List PV) :=
  []
theorem Q10b (n0 : Nat) (p0 : List Fld) (p1 : Int) (p2 : Int) (p3 : Int) (v4_0 : Int) (v4_1 : Int) (v4_2 : Int) (v4_3 : Int) (v4_4 : Int) (_ho4_0 : v4_4 = v4_1 - 1) (_ho4_1 : p1 ≤ v4_2) (_ho4_2 : v4_2 ≤ v4_3) (_ho4_3 : v4_3 ≤ p2) (_ho4_4 : v4_1 - v4_2 ≤ p3) (_ho4_5 : p2 ≤ v4_1 - v4_3) (_ho4_6 : 0 ≤ p1) (_ho4_7 : p2 < p3) (_ho4_8 : p3 ≤ n0) (_ho4_9 : (n0 : Int) ≤ 1152921504606846976) (_ho4_10 : List.length p0 = n0) (h0 : (decide (v4_2 < v4_3)) = false) : Qd3 n0 p0 p1 p2 p3 (Q24 n0 p0 p1 p2 p3 v4_0 v4_1 v4_2 v4_3 v4_4) (v4_0, v4_1, v4_2) := by
 exact ⟨(envF (Qic n0 p0 p1 p2 p3 v4_0 v4_1 v4_2 v4_3 v4_4)), (zoF (Qew n0 p0 p1 p2 p3 v4_0 v4_1 v4_2 v4_3 v4_4)), Qf (Qng n0 p0 p1 p2 p3 v4_0 v4_1 v4_2 v4_3 v4_4) (x := ((.exit 8), Q1w n0 p0 p1 p2 p3 v4_0 v4_1 v4_2 (envF (Qic n0 p0 p1 p2 p3 v4_0 v4_1 v4_2 v4_3 v4_4)) (zoF (Qew n0 p0 p1 p2 p3 v4_0 v4_1 v4_2 v4_3 v4_4)))) [hB 2 h0] [] (by kernel_rfl)⟩
theorem Q9q (n0 : Nat) (p0 : List Fld) (p1 : Int) (p2 : Int) (p3 : Int) : ∀ (k4 : Nat) (v4_0 : Int) (v4_1 : Int) (v4_2 : Int) (v4_3 : Int) (v4_4 : Int), v4_4 = v4_1 - 1 → p1 ≤ v4_2 → v4_2 ≤ v4_3 → v4_3 ≤ p2 → v4_1 - v4_2 ≤ p3 → p2 ≤ v4_1 - v4_3 → 0 ≤ p1 → p2 < p3 → p3 ≤ n0 → (n0 : Int) ≤ 1152921504606846976 → List.length p0 = n0 → Int.toNat (v4_3 - v4_2) < k4 → Qd3 n0 p0 p1 p2 p3 (Q24 n0 p0 p1 p2 p3 v4_0 v4_1 v4_2 v4_3 v4_4) (Q0 n0 p0 p1 p2 p3 k4 v4_0 v4_1 v4_2 v4_3 v4_4)
 | 0, v4_0, v4_1, v4_2, v4_3, v4_4, _, _, _, _, _, _, _, _, _, _, _, hm => absurd hm (Nat.not_lt_zero _)
 | k4 + 1, v4_0, v4_1, v4_2, v4_3, v4_4, ho4_0, ho4_1, ho4_2, ho4_3, ho4_4, ho4_5, ho4_6, ho4_7, ho4_8, ho4_9, ho4_10, hm => by
  rw [Q0]
  cases h0 : (decide (v4_2 < v4_3)) with
  | true =>
   have e0 := of_decide_eq_true h0
   cases h1 : (decide ((Q27 (List.getD p0 (Int.toNat (v4_4 - ((v4_2 + v4_3) / 2))) zF) (List.getD p0 (Int.toNat ((v4_2 + v4_3) / 2)) zF)) < 0)) with
   | true =>
    have e1 := of_decide_eq_true h1
    exact Q9w n0 p0 p1 p2 p3 (fun r hr => Qwz n0 p0 p1 p2 p3 v4_0 v4_1 v4_2 v4_3 v4_4 ho4_0 ho4_1 ho4_2 ho4_3 ho4_4 ho4_5 ho4_6 ho4_7 ho4_8 ho4_9 ho4_10 h0 h1 hr) _ (Q9q n0 p0 p1 p2 p3 k4 v4_0 v4_1 v4_2 ((v4_2 + v4_3) / 2) v4_4 (by omega) (by omega) (by omega) (by omega) (by omega) (by omega) (by omega) (by omega) (by omega) (by omega) ho4_10 (by omega))
   | false =>
    have e1 := of_decide_eq_false h1
    exact Q9w n0 p0 p1 p2 p3 (fun r hr => Q109 n0 p0 p1 p2 p3 v4_0 v4_1 v4_2 v4_3 v4_4 ho4_0 ho4_1 ho4_2 ho4_3 ho4_4 ho4_5 ho4_6 ho4_7 ho4_8 ho4_9 ho4_10 h0 h1 hr) _ (Q9q n0 p0 p1 p2 p3 k4 v4_0 v4_1 (((v4_2 + v4_3) / 2) + 1) v4_3 v4_4 (by omega) (by omega) (by omega) (by omega) (by omega) (by omega) (by omega) (by omega) (by omega) (by omega) ho4_10 (by omega))
  | false =>
   exact Q10b n0 p0 p1 p2 p3 v4_0 v4_1 v4_2 v4_3 v4_4 ho4_0 ho4_1 ho4_2 ho4_3 ho4_4 ho4_5 ho4_6 ho4_7 ho4_8 ho4_9 ho4_10 h0
theorem Qa0 (n0 : Nat) (p0 : List Fld) (p1 : Int) (p2 : Int) (p3 : Int) : ∀ (k4 : Nat) (v4_0 : Int) (v4_1 : Int) (v4_2 : Int) (v4_3 : Int) (v4_4 : Int), v4_4 = v4_1 - 1 → p1 ≤ v4_2 → v4_2 ≤ v4_3 → v4_3 ≤ p2 → v4_1 - v4_2 ≤ p3 → p2 ≤ v4_1 - v4_3 → 0 ≤ p1 → p2 < p3 → p3 ≤ n0 → (n0 : Int) ≤ 1152921504606846976 → List.length p0 = n0 → Int.toNat (v4_3 - v4_2) < k4 → (Q0 n0 p0 p1 p2 p3 k4 v4_0 v4_1 v4_2 v4_3 v4_4).1 = v4_0 ∧ (Q0 n0 p0 p1 p2 p3 k4 v4_0 v4_1 v4_2 v4_3 v4_4).2.1 = v4_1 ∧ p1 ≤ (Q0 n0 p0 p1 p2 p3 k4 v4_0 v4_1 v4_2 v4_3 v4_4).2.2 ∧ (Q0 n0 p0 p1 p2 p3 k4 v4_0 v4_1 v4_2 v4_3 v4_4).2.2 ≤ p2 ∧ (Q0 n0 p0 p1 p2 p3 k4 v4_0 v4_1 v4_2 v4_3 v4_4).2.1 - (Q0 n0 p0 p1 p2 p3 k4 v4_0 v4_1 v4_2 v4_3 v4_4).2.2 ≤ p3
 | 0, v4_0, v4_1, v4_2, v4_3, v4_4, _, _, _, _, _, _, _, _, _, _, _, hm => absurd hm (Nat.not_lt_zero _)
 | k4 + 1, v4_0, v4_1, v4_2, v4_3, v4_4, ho4_0, ho4_1, ho4_2, ho4_3, ho4_4, ho4_5, ho4_6, ho4_7, ho4_8, ho4_9, ho4_10, hm => by
  rw [Q0]
  cases h0 : (decide (v4_2 < v4_3)) with
  | true =>
   have e0 := of_decide_eq_true h0
   cases h1 : (decide ((Q27 (List.getD p0 (Int.toNat (v4_4 - ((v4_2 + v4_3) / 2))) zF) (List.getD p0 (Int.toNat ((v4_2 + v4_3) / 2)) zF)) < 0)) with
   | true =>
    have e1 := of_decide_eq_true h1
    exact Qa0 n0 p0 p1 p2 p3 k4 v4_0 v4_1 v4_2 ((v4_2 + v4_3) / 2) v4_4 (by omega) (by omega) (by omega) (by omega) (by omega) (by omega) (by omega) (by omega) (by omega) (by omega) ho4_10 (by omega)
   | false =>
    have e1 := of_decide_eq_false h1
    exact Qa0 n0 p0 p1 p2 p3 k4 v4_0 v4_1 (((v4_2 + v4_3) / 2) + 1) v4_3 v4_4 (by omega) (by omega) (by omega) (by omega) (by omega) (by omega) (by omega) (by omega) (by omega) (by omega) ho4_10 (by omega)
  | false =>
   have e0 := of_decide_eq_false h0
   exact (show v4_0 = v4_0 ∧ v4_1 = v4_1 ∧ p1 ≤ v4_2 ∧ v4_2 ≤ p2 ∧ v4_1 - v4_2 ≤ p3 from ⟨(by omega), (by omega), (by omega), (by omega), (by omega)⟩)
def Q6 : Nat → Nat → List Fld → Int → Int → Int → List Fld
 | 0, _, p0, _, _, _ => p0
 | k + 1, n0, p0, p1, p2, p3 =>
 bif ((p2 - p1) == 1) then
  (Q2y n0 ((Int.toNat ((Q2k n0 p0 p1 p2 p3 ((Int.toNat (p3 - p2)) + 1) p2 p3) - p1)) + 1) (Q2k n0 p0 p1 p2 p3 ((Int.toNat (p3 - p2)) + 1) p2 p3) p0 p1)
 else
  bif ((p3 - p2) == 1) then
   (Q2v n0 ((Int.toNat (p2 - (Q2h n0 p0 p1 p2 ((Int.toNat (p2 - p1)) + 1) p2 p1))) + 1) (Q2h n0 p0 p1 p2 ((Int.toNat (p2 - p1)) + 1) p2 p1) p0 p2)
  else
   bif (decide (((p1 + p3) / 2) < p2)) then
    bif (decide ((Q0 n0 p0 p1 p2 p3 ((Int.toNat (((p1 + p3) / 2) - ((((p1 + p3) / 2) + p2) - p3))) + 1) ((p1 + p3) / 2) (((p1 + p3) / 2) + p2) ((((p1 + p3) / 2) + p2) - p3) ((p1 + p3) / 2) ((((p1 + p3) / 2) + p2) - 1)).2.2 < p2)) then
     bif (decide (p2 < ((Q0 n0 p0 p1 p2 p3 ((Int.toNat (((p1 + p3) / 2) - ((((p1 + p3) / 2) + p2) - p3))) + 1) ((p1 + p3) / 2) (((p1 + p3) / 2) + p2) ((((p1 + p3) / 2) + p2) - p3) ((p1 + p3) / 2) ((((p1 + p3) / 2) + p2) - 1)).2.1 - (Q0 n0 p0 p1 p2 p3 ((Int.toNat (((p1 + p3) / 2) - ((((p1 + p3) / 2) + p2) - p3))) + 1) ((p1 + p3) / 2) (((p1 + p3) / 2) + p2) ((((p1 + p3) / 2) + p2) - p3) ((p1 + p3) / 2) ((((p1 + p3) / 2) + p2) - 1)).2.2))) then
      bif (decide (p1 < (Q0 n0 p0 p1 p2 p3 ((Int.toNat (((p1 + p3) / 2) - ((((p1 + p3) / 2) + p2) - p3))) + 1) ((p1 + p3) / 2) (((p1 + p3) / 2) + p2) ((((p1 + p3) / 2) + p2) - p3) ((p1 + p3) / 2) ((((p1 + p3) / 2) + p2) - 1)).2.2)) then
       bif (decide ((Q0 n0 p0 p1 p2 p3 ((Int.toNat (((p1 + p3) / 2) - ((((p1 + p3) / 2) + p2) - p3))) + 1) ((p1 + p3) / 2) (((p1 + p3) / 2) + p2) ((((p1 + p3) / 2) + p2) - p3) ((p1 + p3) / 2) ((((p1 + p3) / 2) + p2) - 1)).2.2 < (Q0 n0 p0 p1 p2 p3 ((Int.toNat (((p1 + p3) / 2) - ((((p1 + p3) / 2) + p2) - p3))) + 1) ((p1 + p3) / 2) (((p1 + p3) / 2) + p2) ((((p1 + p3) / 2) + p2) - p3) ((p1 + p3) / 2) ((((p1 + p3) / 2) + p2) - 1)).1)) then
        bif (decide ((Q0 n0 p0 p1 p2 p3 ((Int.toNat (((p1 + p3) / 2) - ((((p1 + p3) / 2) + p2) - p3))) + 1) ((p1 + p3) / 2) (((p1 + p3) / 2) + p2) ((((p1 + p3) / 2) + p2) - p3) ((p1 + p3) / 2) ((((p1 + p3) / 2) + p2) - 1)).1 < ((Q0 n0 p0 p1 p2 p3 ((Int.toNat (((p1 + p3) / 2) - ((((p1 + p3) / 2) + p2) - p3))) + 1) ((p1 + p3) / 2) (((p1 + p3) / 2) + p2) ((((p1 + p3) / 2) + p2) - p3) ((p1 + p3) / 2) ((((p1 + p3) / 2) + p2) - 1)).2.1 - (Q0 n0 p0 p1 p2 p3 ((Int.toNat (((p1 + p3) / 2) - ((((p1 + p3) / 2) + p2) - p3))) + 1) ((p1 + p3) / 2) (((p1 + p3) / 2) + p2) ((((p1 + p3) / 2) + p2) - p3) ((p1 + p3) / 2) ((((p1 + p3) / 2) + p2) - 1)).2.2))) then
         bif (decide (((Q0 n0 p0 p1 p2 p3 ((Int.toNat (((p1 + p3) / 2) - ((((p1 + p3) / 2) + p2) - p3))) + 1) ((p1 + p3) / 2) (((p1 + p3) / 2) + p2) ((((p1 + p3) / 2) + p2) - p3) ((p1 + p3) / 2) ((((p1 + p3) / 2) + p2) - 1)).2.1 - (Q0 n0 p0 p1 p2 p3 ((Int.toNat (((p1 + p3) / 2) - ((((p1 + p3) / 2) + p2) - p3))) + 1) ((p1 + p3) / 2) (((p1 + p3) / 2) + p2) ((((p1 + p3) / 2) + p2) - p3) ((p1 + p3) / 2) ((((p1 + p3) / 2) + p2) - 1)).2.2) < p3)) then
          (Q6 k n0 (Q6 k n0 (Qb n0 p0 (Q0 n0 p0 p1 p2 p3 ((Int.toNat (((p1 + p3) / 2) - ((((p1 + p3) / 2) + p2) - p3))) + 1) ((p1 + p3) / 2) (((p1 + p3) / 2) + p2) ((((p1 + p3) / 2) + p2) - p3) ((p1 + p3) / 2) ((((p1 + p3) / 2) + p2) - 1)).2.2 p2 ((Q0 n0 p0 p1 p2 p3 ((Int.toNat (((p1 + p3) / 2) - ((((p1 + p3) / 2) + p2) - p3))) + 1) ((p1 + p3) / 2) (((p1 + p3) / 2) + p2) ((((p1 + p3) / 2) + p2) - p3) ((p1 + p3) / 2) ((((p1 + p3) / 2) + p2) - 1)).2.1 - (Q0 n0 p0 p1 p2 p3 ((Int.toNat (((p1 + p3) / 2) - ((((p1 + p3) / 2) + p2) - p3))) + 1) ((p1 + p3) / 2) (((p1 + p3) / 2) + p2) ((((p1 + p3) / 2) + p2) - p3) ((p1 + p3) / 2) ((((p1 + p3) / 2) + p2) - 1)).2.2)) p1 (Q0 n0 p0 p1 p2 p3 ((Int.toNat (((p1 + p3) / 2) - ((((p1 + p3) / 2) + p2) - p3))) + 1) ((p1 + p3) / 2) (((p1 + p3) / 2) + p2) ((((p1 + p3) / 2) + p2) - p3) ((p1 + p3) / 2) ((((p1 + p3) / 2) + p2) - 1)).2.2 (Q0 n0 p0 p1 p2 p3 ((Int.toNat (((p1 + p3) / 2) - ((((p1 + p3) / 2) + p2) - p3))) + 1) ((p1 + p3) / 2) (((p1 + p3) / 2) + p2) ((((p1 + p3) / 2) + p2) - p3) ((p1 + p3) / 2) ((((p1 + p3) / 2) + p2) - 1)).1) (Q0 n0 p0 p1 p2 p3 ((Int.toNat (((p1 + p3) / 2) - ((((p1 + p3) / 2) + p2) - p3))) + 1) ((p1 + p3) / 2) (((p1 + p3) / 2) + p2) ((((p1 + p3) / 2) + p2) - p3) ((p1 + p3) / 2) ((((p1 + p3) / 2) + p2) - 1)).1 ((Q0 n0 p0 p1 p2 p3 ((Int.toNat (((p1 + p3) / 2) - ((((p1 + p3) / 2) + p2) - p3))) + 1) ((p1 + p3) / 2) (((p1 + p3) / 2) + p2) ((((p1 + p3) / 2) + p2) - p3) ((p1 + p3) / 2) ((((p1 + p3) / 2) + p2) - 1)).2.1 - (Q0 n0 p0 p1 p2 p3 ((Int.toNat (((p1 + p3) / 2) - ((((p1 + p3) / 2) + p2) - p3))) + 1) ((p1 + p3) / 2) (((p1 + p3) / 2) + p2) ((((p1 + p3) / 2) + p2) - p3) ((p1 + p3) / 2) ((((p1 + p3) / 2) + p2) - 1)).2.2) p3)
         else
          (Q6 k n0 (Qb n0 p0 (Q0 n0 p0 p1 p2 p3 ((Int.toNat (((p1 + p3) / 2) - ((((p1 + p3) / 2) + p2) - p3))) + 1) ((p1 + p3) / 2) (((p1 + p3) / 2) + p2) ((((p1 + p3) / 2) + p2) - p3) ((p1 + p3) / 2) ((((p1 + p3) / 2) + p2) - 1)).2.2 p2 ((Q0 n0 p0 p1 p2 p3 ((Int.toNat (((p1 + p3) / 2) - ((((p1 + p3) / 2) + p2) - p3))) + 1) ((p1 + p3) / 2) (((p1 + p3) / 2) + p2) ((((p1 + p3) / 2) + p2) - p3) ((p1 + p3) / 2) ((((p1 + p3) / 2) + p2) - 1)).2.1 - (Q0 n0 p0 p1 p2 p3 ((Int.toNat (((p1 + p3) / 2) - ((((p1 + p3) / 2) + p2) - p3))) + 1) ((p1 + p3) / 2) (((p1 + p3) / 2) + p2) ((((p1 + p3) / 2) + p2) - p3) ((p1 + p3) / 2) ((((p1 + p3) / 2) + p2) - 1)).2.2)) p1 (Q0 n0 p0 p1 p2 p3 ((Int.toNat (((p1 + p3) / 2) - ((((p1 + p3) / 2) + p2) - p3))) + 1) ((p1 + p3) / 2) (((p1 + p3) / 2) + p2) ((((p1 + p3) / 2) + p2) - p3) ((p1 + p3) / 2) ((((p1 + p3) / 2) + p2) - 1)).2.2 (Q0 n0 p0 p1 p2 p3 ((Int.toNat (((p1 + p3) / 2) - ((((p1 + p3) / 2) + p2) - p3))) + 1) ((p1 + p3) / 2) (((p1 + p3) / 2) + p2) ((((p1 + p3) / 2) + p2) - p3) ((p1 + p3) / 2) ((((p1 + p3) / 2) + p2) - 1)).1)
        else
         (Q6 k n0 (Qb n0 p0 (Q0 n0 p0 p1 p2 p3 ((Int.toNat (((p1 + p3) / 2) - ((((p1 + p3) / 2) + p2) - p3))) + 1) ((p1 + p3) / 2) (((p1 + p3) / 2) + p2) ((((p1 + p3) / 2) + p2) - p3) ((p1 + p3) / 2) ((((p1 + p3) / 2) + p2) - 1)).2.2 p2 ((Q0 n0 p0 p1 p2 p3 ((Int.toNat (((p1 + p3) / 2) - ((((p1 + p3) / 2) + p2) - p3))) + 1) ((p1 + p3) / 2) (((p1 + p3) / 2) + p2) ((((p1 + p3) / 2) + p2) - p3) ((p1 + p3) / 2) ((((p1 + p3) / 2) + p2) - 1)).2.1 - (Q0 n0 p0 p1 p2 p3 ((Int.toNat (((p1 + p3) / 2) - ((((p1 + p3) / 2) + p2) - p3))) + 1) ((p1 + p3) / 2) (((p1 + p3) / 2) + p2) ((((p1 + p3) / 2) + p2) - p3) ((p1 + p3) / 2) ((((p1 + p3) / 2) + p2) - 1)).2.2)) p1 (Q0 n0 p0 p1 p2 p3 ((Int.toNat (((p1 + p3) / 2) - ((((p1 + p3) / 2) + p2) - p3))) + 1) ((p1 + p3) / 2) (((p1 + p3) / 2) + p2) ((((p1 + p3) / 2) + p2) - p3) ((p1 + p3) / 2) ((((p1 + p3) / 2) + p2) - 1)).2.2 (Q0 n0 p0 p1 p2 p3 ((Int.toNat (((p1 + p3) / 2) - ((((p1 + p3) / 2) + p2) - p3))) + 1) ((p1 + p3) / 2) (((p1 + p3) / 2) + p2) ((((p1 + p3) / 2) + p2) - p3) ((p1 + p3) / 2) ((((p1 + p3) / 2) + p2) - 1)).1)
       else
        bif (decide ((Q0 n0 p0 p1 p2 p3 ((Int.toNat (((p1 + p3) / 2) - ((((p1 + p3) / 2) + p2) - p3))) + 1) ((p1 + p3) / 2) (((p1 + p3) / 2) + p2) ((((p1 + p3) / 2) + p2) - p3) ((p1 + p3) / 2) ((((p1 + p3) / 2) + p2) - 1)).1 < ((Q0 n0 p0 p1 p2 p3 ((Int.toNat (((p1 + p3) / 2) - ((((p1 + p3) / 2) + p2) - p3))) + 1) ((p1 + p3) / 2) (((p1 + p3) / 2) + p2) ((((p1 + p3) / 2) + p2) - p3) ((p1 + p3) / 2) ((((p1 + p3) / 2) + p2) - 1)).2.1 - (Q0 n0 p0 p1 p2 p3 ((Int.toNat (((p1 + p3) / 2) - ((((p1 + p3) / 2) + p2) - p3))) + 1) ((p1 + p3) / 2) (((p1 + p3) / 2) + p2) ((((p1 + p3) / 2) + p2) - p3) ((p1 + p3) / 2) ((((p1 + p3) / 2) + p2) - 1)).2.2))) then
         bif (decide (((Q0 n0 p0 p1 p2 p3 ((Int.toNat (((p1 + p3) / 2) - ((((p1 + p3) / 2) + p2) - p3))) + 1) ((p1 + p3) / 2) (((p1 + p3) / 2) + p2) ((((p1 + p3) / 2) + p2) - p3) ((p1 + p3) / 2) ((((p1 + p3) / 2) + p2) - 1)).2.1 - (Q0 n0 p0 p1 p2 p3 ((Int.toNat (((p1 + p3) / 2) - ((((p1 + p3) / 2) + p2) - p3))) + 1) ((p1 + p3) / 2) (((p1 + p3) / 2) + p2) ((((p1 + p3) / 2) + p2) - p3) ((p1 + p3) / 2) ((((p1 + p3) / 2) + p2) - 1)).2.2) < p3)) then
          (Q6 k n0 (Qb n0 p0 (Q0 n0 p0 p1 p2 p3 ((Int.toNat (((p1 + p3) / 2) - ((((p1 + p3) / 2) + p2) - p3))) + 1) ((p1 + p3) / 2) (((p1 + p3) / 2) + p2) ((((p1 + p3) / 2) + p2) - p3) ((p1 + p3) / 2) ((((p1 + p3) / 2) + p2) - 1)).2.2 p2 ((Q0 n0 p0 p1 p2 p3 ((Int.toNat (((p1 + p3) / 2) - ((((p1 + p3) / 2) + p2) - p3))) + 1) ((p1 + p3) / 2) (((p1 + p3) / 2) + p2) ((((p1 + p3) / 2) + p2) - p3) ((p1 + p3) / 2) ((((p1 + p3) / 2) + p2) - 1)).2.1 - (Q0 n0 p0 p1 p2 p3 ((Int.toNat (((p1 + p3) / 2) - ((((p1 + p3) / 2) + p2) - p3))) + 1) ((p1 + p3) / 2) (((p1 + p3) / 2) + p2) ((((p1 + p3) / 2) + p2) - p3) ((p1 + p3) / 2) ((((p1 + p3) / 2) + p2) - 1)).2.2)) (Q0 n0 p0 p1 p2 p3 ((Int.toNat (((p1 + p3) / 2) - ((((p1 + p3) / 2) + p2) - p3))) + 1) ((p1 + p3) / 2) (((p1 + p3) / 2) + p2) ((((p1 + p3) / 2) + p2) - p3) ((p1 + p3) / 2) ((((p1 + p3) / 2) + p2) - 1)).1 ((Q0 n0 p0 p1 p2 p3 ((Int.toNat (((p1 + p3) / 2) - ((((p1 + p3) / 2) + p2) - p3))) + 1) ((p1 + p3) / 2) (((p1 + p3) / 2) + p2) ((((p1 + p3) / 2) + p2) - p3) ((p1 + p3) / 2) ((((p1 + p3) / 2) + p2) - 1)).2.1 - (Q0 n0 p0 p1 p2 p3 ((Int.toNat (((p1 + p3) / 2) - ((((p1 + p3) / 2) + p2) - p3))) + 1) ((p1 + p3) / 2) (((p1 + p3) / 2) + p2) ((((p1 + p3) / 2) + p2) - p3) ((p1 + p3) / 2) ((((p1 + p3) / 2) + p2) - 1)).2.2) p3)
         else
          (Qb n0 p0 (Q0 n0 p0 p1 p2 p3 ((Int.toNat (((p1 + p3) / 2) - ((((p1 + p3) / 2) + p2) - p3))) + 1) ((p1 + p3) / 2) (((p1 + p3) / 2) + p2) ((((p1 + p3) / 2) + p2) - p3) ((p1 + p3) / 2) ((((p1 + p3) / 2) + p2) - 1)).2.2 p2 ((Q0 n0 p0 p1 p2 p3 ((Int.toNat (((p1 + p3) / 2) - ((((p1 + p3) / 2) + p2) - p3))) + 1) ((p1 + p3) / 2) (((p1 + p3) / 2) + p2) ((((p1 + p3) / 2) + p2) - p3) ((p1 + p3) / 2) ((((p1 + p3) / 2) + p2) - 1)).2.1 - (Q0 n0 p0 p1 p2 p3 ((Int.toNat (((p1 + p3) / 2) - ((((p1 + p3) / 2) + p2) - p3))) + 1) ((p1 + p3) / 2) (((p1 + p3) / 2) + p2) ((((p1 + p3) / 2) + p2) - p3) ((p1 + p3) / 2) ((((p1 + p3) / 2) + p2) - 1)).2.2))
        else
         (Qb n0 p0 (Q0 n0 p0 p1 p2 p3 ((Int.toNat (((p1 + p3) / 2) - ((((p1 + p3) / 2) + p2) - p3))) + 1) ((p1 + p3) / 2) (((p1 + p3) / 2) + p2) ((((p1 + p3) / 2) + p2) - p3) ((p1 + p3) / 2) ((((p1 + p3) / 2) + p2) - 1)).2.2 p2 ((Q0 n0 p0 p1 p2 p3 ((Int.toNat (((p1 + p3) / 2) - ((((p1 + p3) / 2) + p2) - p3))) + 1) ((p1 + p3) / 2) (((p1 + p3) / 2) + p2) ((((p1 + p3) / 2) + p2) - p3) ((p1 + p3) / 2) ((((p1 + p3) / 2) + p2) - 1)).2.1 - (Q0 n0 p0 p1 p2 p3 ((Int.toNat (((p1 + p3) / 2) - ((((p1 + p3) / 2) + p2) - p3))) + 1) ((p1 + p3) / 2) (((p1 + p3) / 2) + p2) ((((p1 + p3) / 2) + p2) - p3) ((p1 + p3) / 2) ((((p1 + p3) / 2) + p2) - 1)).2.2))
      else
       bif (decide ((Q0 n0 p0 p1 p2 p3 ((Int.toNat (((p1 + p3) / 2) - ((((p1 + p3) / 2) + p2) - p3))) + 1) ((p1 + p3) / 2) (((p1 + p3) / 2) + p2) ((((p1 + p3) / 2) + p2) - p3) ((p1 + p3) / 2) ((((p1 + p3) / 2) + p2) - 1)).1 < ((Q0 n0 p0 p1 p2 p3 ((Int.toNat (((p1 + p3) / 2) - ((((p1 + p3) / 2) + p2) - p3))) + 1) ((p1 + p3) / 2) (((p1 + p3) / 2) + p2) ((((p1 + p3) / 2) + p2) - p3) ((p1 + p3) / 2) ((((p1 + p3) / 2) + p2) - 1)).2.1 - (Q0 n0 p0 p1 p2 p3 ((Int.toNat (((p1 + p3) / 2) - ((((p1 + p3) / 2) + p2) - p3))) + 1) ((p1 + p3) / 2) (((p1 + p3) / 2) + p2) ((((p1 + p3) / 2) + p2) - p3) ((p1 + p3) / 2) ((((p1 + p3) / 2) + p2) - 1)).2.2))) then
        bif (decide (((Q0 n0 p0 p1 p2 p3 ((Int.toNat (((p1 + p3) / 2) - ((((p1 + p3) / 2) + p2) - p3))) + 1) ((p1 + p3) / 2) (((p1 + p3) / 2) + p2) ((((p1 + p3) / 2) + p2) - p3) ((p1 + p3) / 2) ((((p1 + p3) / 2) + p2) - 1)).2.1 - (Q0 n0 p0 p1 p2 p3 ((Int.toNat (((p1 + p3) / 2) - ((((p1 + p3) / 2) + p2) - p3))) + 1) ((p1 + p3) / 2) (((p1 + p3) / 2) + p2) ((((p1 + p3) / 2) + p2) - p3) ((p1 + p3) / 2) ((((p1 + p3) / 2) + p2) - 1)).2.2) < p3)) then
         (Q6 k n0 (Qb n0 p0 (Q0 n0 p0 p1 p2 p3 ((Int.toNat (((p1 + p3) / 2) - ((((p1 + p3) / 2) + p2) - p3))) + 1) ((p1 + p3) / 2) (((p1 + p3) / 2) + p2) ((((p1 + p3) / 2) + p2) - p3) ((p1 + p3) / 2) ((((p1 + p3) / 2) + p2) - 1)).2.2 p2 ((Q0 n0 p0 p1 p2 p3 ((Int.toNat (((p1 + p3) / 2) - ((((p1 + p3) / 2) + p2) - p3))) + 1) ((p1 + p3) / 2) (((p1 + p3) / 2) + p2) ((((p1 + p3) / 2) + p2) - p3) ((p1 + p3) / 2) ((((p1 + p3) / 2) + p2) - 1)).2.1 - (Q0 n0 p0 p1 p2 p3 ((Int.toNat (((p1 + p3) / 2) - ((((p1 + p3) / 2) + p2) - p3))) + 1) ((p1 + p3) / 2) (((p1 + p3) / 2) + p2) ((((p1 + p3) / 2) + p2) - p3) ((p1 + p3) / 2) ((((p1 + p3) / 2) + p2) - 1)).2.2)) (Q0 n0 p0 p1 p2 p3 ((Int.toNat (((p1 + p3) / 2) - ((((p1 + p3) / 2) + p2) - p3))) + 1) ((p1 + p3) / 2) (((p1 + p3) / 2) + p2) ((((p1 + p3) / 2) + p2) - p3) ((p1 + p3) / 2) ((((p1 + p3) / 2) + p2) - 1)).1 ((Q0 n0 p0 p1 p2 p3 ((Int.toNat (((p1 + p3) / 2) - ((((p1 + p3) / 2) + p2) - p3))) + 1) ((p1 + p3) / 2) (((p1 + p3) / 2) + p2) ((((p1 + p3) / 2) + p2) - p3) ((p1 + p3) / 2) ((((p1 + p3) / 2) + p2) - 1)).2.1 - (Q0 n0 p0 p1 p2 p3 ((Int.toNat (((p1 + p3) / 2) - ((((p1 + p3) / 2) + p2) - p3))) + 1) ((p1 + p3) / 2) (((p1 + p3) / 2) + p2) ((((p1 + p3) / 2) + p2) - p3) ((p1 + p3) / 2) ((((p1 + p3) / 2) + p2) - 1)).2.2) p3)
        else
         (Qb n0 p0 (Q0 n0 p0 p1 p2 p3 ((Int.toNat (((p1 + p3) / 2) - ((((p1 + p3) / 2) + p2) - p3))) + 1) ((p1 + p3) / 2) (((p1 + p3) / 2) + p2) ((((p1 + p3) / 2) + p2) - p3) ((p1 + p3) / 2) ((((p1 + p3) / 2) + p2) - 1)).2.2 p2 ((Q0 n0 p0 p1 p2 p3 ((Int.toNat (((p1 + p3) / 2) - ((((p1 + p3) / 2) + p2) - p3))) + 1) ((p1 + p3) / 2) (((p1 + p3) / 2) + p2) ((((p1 + p3) / 2) + p2) - p3) ((p1 + p3) / 2) ((((p1 + p3) / 2) + p2) - 1)).2.1 - (Q0 n0 p0 p1 p2 p3 ((Int.toNat (((p1 + p3) / 2) - ((((p1 + p3) / 2) + p2) - p3))) + 1) ((p1 + p3) / 2) (((p1 + p3) / 2) + p2) ((((p1 + p3) / 2) + p2) - p3) ((p1 + p3) / 2) ((((p1 + p3) / 2) + p2) - 1)).2.2))
       else
        (Qb n0 p0 (Q0 n0 p0 p1 p2 p3 ((Int.toNat (((p1 + p3) / 2) - ((((p1 + p3) / 2) + p2) - p3))) + 1) ((p1 + p3) / 2) (((p1 + p3) / 2) + p2) ((((p1 + p3) / 2) + p2) - p3) ((p1 + p3) / 2) ((((p1 + p3) / 2) + p2) - 1)).2.2 p2 ((Q0 n0 p0 p1 p2 p3 ((Int.toNat (((p1 + p3) / 2) - ((((p1 + p3) / 2) + p2) - p3))) + 1) ((p1 + p3) / 2) (((p1 + p3) / 2) + p2) ((((p1 + p3) / 2) + p2) - p3) ((p1 + p3) / 2) ((((p1 + p3) / 2) + p2) - 1)).2.1 - (Q0 n0 p0 p1 p2 p3 ((Int.toNat (((p1 + p3) / 2) - ((((p1 + p3) / 2) + p2) - p3))) + 1) ((p1 + p3) / 2) (((p1 + p3) / 2) + p2) ((((p1 + p3) / 2) + p2) - p3) ((p1 + p3) / 2) ((((p1 + p3) / 2) + p2) - 1)).2.2))
     else
      bif (decide (p1 < (Q0 n0 p0 p1 p2 p3 ((Int.toNat (((p1 + p3) / 2) - ((((p1 + p3) / 2) + p2) - p3))) + 1) ((p1 + p3) / 2) (((p1 + p3) / 2) + p2) ((((p1 + p3) / 2) + p2) - p3) ((p1 + p3) / 2) ((((p1 + p3) / 2) + p2) - 1)).2.2)) then
       bif (decide ((Q0 n0 p0 p1 p2 p3 ((Int.toNat (((p1 + p3) / 2) - ((((p1 + p3) / 2) + p2) - p3))) + 1) ((p1 + p3) / 2) (((p1 + p3) / 2) + p2) ((((p1 + p3) / 2) + p2) - p3) ((p1 + p3) / 2) ((((p1 + p3) / 2) + p2) - 1)).2.2 < (Q0 n0 p0 p1 p2 p3 ((Int.toNat (((p1 + p3) / 2) - ((((p1 + p3) / 2) + p2) - p3))) + 1) ((p1 + p3) / 2) (((p1 + p3) / 2) + p2) ((((p1 + p3) / 2) + p2) - p3) ((p1 + p3) / 2) ((((p1 + p3) / 2) + p2) - 1)).1)) then
        bif (decide ((Q0 n0 p0 p1 p2 p3 ((Int.toNat (((p1 + p3) / 2) - ((((p1 + p3) / 2) + p2) - p3))) + 1) ((p1 + p3) / 2) (((p1 + p3) / 2) + p2) ((((p1 + p3) / 2) + p2) - p3) ((p1 + p3) / 2) ((((p1 + p3) / 2) + p2) - 1)).1 < ((Q0 n0 p0 p1 p2 p3 ((Int.toNat (((p1 + p3) / 2) - ((((p1 + p3) / 2) + p2) - p3))) + 1) ((p1 + p3) / 2) (((p1 + p3) / 2) + p2) ((((p1 + p3) / 2) + p2) - p3) ((p1 + p3) / 2) ((((p1 + p3) / 2) + p2) - 1)).2.1 - (Q0 n0 p0 p1 p2 p3 ((Int.toNat (((p1 + p3) / 2) - ((((p1 + p3) / 2) + p2) - p3))) + 1) ((p1 + p3) / 2) (((p1 + p3) / 2) + p2) ((((p1 + p3) / 2) + p2) - p3) ((p1 + p3) / 2) ((((p1 + p3) / 2) + p2) - 1)).2.2))) then
         bif (decide (((Q0 n0 p0 p1 p2 p3 ((Int.toNat (((p1 + p3) / 2) - ((((p1 + p3) / 2) + p2) - p3))) + 1) ((p1 + p3) / 2) (((p1 + p3) / 2) + p2) ((((p1 + p3) / 2) + p2) - p3) ((p1 + p3) / 2) ((((p1 + p3) / 2) + p2) - 1)).2.1 - (Q0 n0 p0 p1 p2 p3 ((Int.toNat (((p1 + p3) / 2) - ((((p1 + p3) / 2) + p2) - p3))) + 1) ((p1 + p3) / 2) (((p1 + p3) / 2) + p2) ((((p1 + p3) / 2) + p2) - p3) ((p1 + p3) / 2) ((((p1 + p3) / 2) + p2) - 1)).2.2) < p3)) then
          (Q6 k n0 (Q6 k n0 p0 p1 (Q0 n0 p0 p1 p2 p3 ((Int.toNat (((p1 + p3) / 2) - ((((p1 + p3) / 2) + p2) - p3))) + 1) ((p1 + p3) / 2) (((p1 + p3) / 2) + p2) ((((p1 + p3) / 2) + p2) - p3) ((p1 + p3) / 2) ((((p1 + p3) / 2) + p2) - 1)).2.2 (Q0 n0 p0 p1 p2 p3 ((Int.toNat (((p1 + p3) / 2) - ((((p1 + p3) / 2) + p2) - p3))) + 1) ((p1 + p3) / 2) (((p1 + p3) / 2) + p2) ((((p1 + p3) / 2) + p2) - p3) ((p1 + p3) / 2) ((((p1 + p3) / 2) + p2) - 1)).1) (Q0 n0 p0 p1 p2 p3 ((Int.toNat (((p1 + p3) / 2) - ((((p1 + p3) / 2) + p2) - p3))) + 1) ((p1 + p3) / 2) (((p1 + p3) / 2) + p2) ((((p1 + p3) / 2) + p2) - p3) ((p1 + p3) / 2) ((((p1 + p3) / 2) + p2) - 1)).1 ((Q0 n0 p0 p1 p2 p3 ((Int.toNat (((p1 + p3) / 2) - ((((p1 + p3) / 2) + p2) - p3))) + 1) ((p1 + p3) / 2) (((p1 + p3) / 2) + p2) ((((p1 + p3) / 2) + p2) - p3) ((p1 + p3) / 2) ((((p1 + p3) / 2) + p2) - 1)).2.1 - (Q0 n0 p0 p1 p2 p3 ((Int.toNat (((p1 + p3) / 2) - ((((p1 + p3) / 2) + p2) - p3))) + 1) ((p1 + p3) / 2) (((p1 + p3) / 2) + p2) ((((p1 + p3) / 2) + p2) - p3) ((p1 + p3) / 2) ((((p1 + p3) / 2) + p2) - 1)).2.2) p3)
         else
          (Q6 k n0 p0 p1 (Q0 n0 p0 p1 p2 p3 ((Int.toNat (((p1 + p3) / 2) - ((((p1 + p3) / 2) + p2) - p3))) + 1) ((p1 + p3) / 2) (((p1 + p3) / 2) + p2) ((((p1 + p3) / 2) + p2) - p3) ((p1 + p3) / 2) ((((p1 + p3) / 2) + p2) - 1)).2.2 (Q0 n0 p0 p1 p2 p3 ((Int.toNat (((p1 + p3) / 2) - ((((p1 + p3) / 2) + p2) - p3))) + 1) ((p1 + p3) / 2) (((p1 + p3) / 2) + p2) ((((p1 + p3) / 2) + p2) - p3) ((p1 + p3) / 2) ((((p1 + p3) / 2) + p2) - 1)).1)
        else
         (Q6 k n0 p0 p1 (Q0 n0 p0 p1 p2 p3 ((Int.toNat (((p1 + p3) / 2) - ((((p1 + p3) / 2) + p2) - p3))) + 1) ((p1 + p3) / 2) (((p1 + p3) / 2) + p2) ((((p1 + p3) / 2) + p2) - p3) ((p1 + p3) / 2) ((((p1 + p3) / 2) + p2) - 1)).2.2 (Q0 n0 p0 p1 p2 p3 ((Int.toNat (((p1 + p3) / 2) - ((((p1 + p3) / 2) + p2) - p3))) + 1) ((p1 + p3) / 2) (((p1 + p3) / 2) + p2) ((((p1 + p3) / 2) + p2) - p3) ((p1 + p3) / 2) ((((p1 + p3) / 2) + p2) - 1)).1)
       else
        bif (decide ((Q0 n0 p0 p1 p2 p3 ((Int.toNat (((p1 + p3) / 2) - ((((p1 + p3) / 2) + p2) - p3))) + 1) ((p1 + p3) / 2) (((p1 + p3) / 2) + p2) ((((p1 + p3) / 2) + p2) - p3) ((p1 + p3) / 2) ((((p1 + p3) / 2) + p2) - 1)).1 < ((Q0 n0 p0 p1 p2 p3 ((Int.toNat (((p1 + p3) / 2) - ((((p1 + p3) / 2) + p2) - p3))) + 1) ((p1 + p3) / 2) (((p1 + p3) / 2) + p2) ((((p1 + p3) / 2) + p2) - p3) ((p1 + p3) / 2) ((((p1 + p3) / 2) + p2) - 1)).2.1 - (Q0 n0 p0 p1 p2 p3 ((Int.toNat (((p1 + p3) / 2) - ((((p1 + p3) / 2) + p2) - p3))) + 1) ((p1 + p3) / 2) (((p1 + p3) / 2) + p2) ((((p1 + p3) / 2) + p2) - p3) ((p1 + p3) / 2) ((((p1 + p3) / 2) + p2) - 1)).2.2))) then
         bif (decide (((Q0 n0 p0 p1 p2 p3 ((Int.toNat (((p1 + p3) / 2) - ((((p1 + p3) / 2) + p2) - p3))) + 1) ((p1 + p3) / 2) (((p1 + p3) / 2) + p2) ((((p1 + p3) / 2) + p2) - p3) ((p1 + p3) / 2) ((((p1 + p3) / 2) + p2) - 1)).2.1 - (Q0 n0 p0 p1 p2 p3 ((Int.toNat (((p1 + p3) / 2) - ((((p1 + p3) / 2) + p2) - p3))) + 1) ((p1 + p3) / 2) (((p1 + p3) / 2) + p2) ((((p1 + p3) / 2) + p2) - p3) ((p1 + p3) / 2) ((((p1 + p3) / 2) + p2) - 1)).2.2) < p3)) then
          (Q6 k n0 p0 (Q0 n0 p0 p1 p2 p3 ((Int.toNat (((p1 + p3) / 2) - ((((p1 + p3) / 2) + p2) - p3))) + 1) ((p1 + p3) / 2) (((p1 + p3) / 2) + p2) ((((p1 + p3) / 2) + p2) - p3) ((p1 + p3) / 2) ((((p1 + p3) / 2) + p2) - 1)).1 ((Q0 n0 p0 p1 p2 p3 ((Int.toNat (((p1 + p3) / 2) - ((((p1 + p3) / 2) + p2) - p3))) + 1) ((p1 + p3) / 2) (((p1 + p3) / 2) + p2) ((((p1 + p3) / 2) + p2) - p3) ((p1 + p3) / 2) ((((p1 + p3) / 2) + p2) - 1)).2.1 - (Q0 n0 p0 p1 p2 p3 ((Int.toNat (((p1 + p3) / 2) - ((((p1 + p3) / 2) + p2) - p3))) + 1) ((p1 + p3) / 2) (((p1 + p3) / 2) + p2) ((((p1 + p3) / 2) + p2) - p3) ((p1 + p3) / 2) ((((p1 + p3) / 2) + p2) - 1)).2.2) p3)
         else
          p0
        else
         p0
      else
       bif (decide ((Q0 n0 p0 p1 p2 p3 ((Int.toNat (((p1 + p3) / 2) - ((((p1 + p3) / 2) + p2) - p3))) + 1) ((p1 + p3) / 2) (((p1 + p3) / 2) + p2) ((((p1 + p3) / 2) + p2) - p3) ((p1 + p3) / 2) ((((p1 + p3) / 2) + p2) - 1)).1 < ((Q0 n0 p0 p1 p2 p3 ((Int.toNat (((p1 + p3) / 2) - ((((p1 + p3) / 2) + p2) - p3))) + 1) ((p1 + p3) / 2) (((p1 + p3) / 2) + p2) ((((p1 + p3) / 2) + p2) - p3) ((p1 + p3) / 2) ((((p1 + p3) / 2) + p2) - 1)).2.1 - (Q0 n0 p0 p1 p2 p3 ((Int.toNat (((p1 + p3) / 2) - ((((p1 + p3) / 2) + p2) - p3))) + 1) ((p1 + p3) / 2) (((p1 + p3) / 2) + p2) ((((p1 + p3) / 2) + p2) - p3) ((p1 + p3) / 2) ((((p1 + p3) / 2) + p2) - 1)).2.2))) then
        bif (decide (((Q0 n0 p0 p1 p2 p3 ((Int.toNat (((p1 + p3) / 2) - ((((p1 + p3) / 2) + p2) - p3))) + 1) ((p1 + p3) / 2) (((p1 + p3) / 2) + p2) ((((p1 + p3) / 2) + p2) - p3) ((p1 + p3) / 2) ((((p1 + p3) / 2) + p2) - 1)).2.1 - (Q0 n0 p0 p1 p2 p3 ((Int.toNat (((p1 + p3) / 2) - ((((p1 + p3) / 2) + p2) - p3))) + 1) ((p1 + p3) / 2) (((p1 + p3) / 2) + p2) ((((p1 + p3) / 2) + p2) - p3) ((p1 + p3) / 2) ((((p1 + p3) / 2) + p2) - 1)).2.2) < p3)) then
         (Q6 k n0 p0 (Q0 n0 p0 p1 p2 p3 ((Int.toNat (((p1 + p3) / 2) - ((((p1 + p3) / 2) + p2) - p3))) + 1) ((p1 + p3) / 2) (((p1 + p3) / 2) + p2) ((((p1 + p3) / 2) + p2) - p3) ((p1 + p3) / 2) ((((p1 + p3) / 2) + p2) - 1)).1 ((Q0 n0 p0 p1 p2 p3 ((Int.toNat (((p1 + p3) / 2) - ((((p1 + p3) / 2) + p2) - p3))) + 1) ((p1 + p3) / 2) (((p1 + p3) / 2) + p2) ((((p1 + p3) / 2) + p2) - p3) ((p1 + p3) / 2) ((((p1 + p3) / 2) + p2) - 1)).2.1 - (Q0 n0 p0 p1 p2 p3 ((Int.toNat (((p1 + p3) / 2) - ((((p1 + p3) / 2) + p2) - p3))) + 1) ((p1 + p3) / 2) (((p1 + p3) / 2) + p2) ((((p1 + p3) / 2) + p2) - p3) ((p1 + p3) / 2) ((((p1 + p3) / 2) + p2) - 1)).2.2) p3)
        else
         p0
       else
        p0
    else
     bif (decide (p1 < (Q0 n0 p0 p1 p2 p3 ((Int.toNat (((p1 + p3) / 2) - ((((p1 + p3) / 2) + p2) - p3))) + 1) ((p1 + p3) / 2) (((p1 + p3) / 2) + p2) ((((p1 + p3) / 2) + p2) - p3) ((p1 + p3) / 2) ((((p1 + p3) / 2) + p2) - 1)).2.2)) then
      bif (decide ((Q0 n0 p0 p1 p2 p3 ((Int.toNat (((p1 + p3) / 2) - ((((p1 + p3) / 2) + p2) - p3))) + 1) ((p1 + p3) / 2) (((p1 + p3) / 2) + p2) ((((p1 + p3) / 2) + p2) - p3) ((p1 + p3) / 2) ((((p1 + p3) / 2) + p2) - 1)).2.2 < (Q0 n0 p0 p1 p2 p3 ((Int.toNat (((p1 + p3) / 2) - ((((p1 + p3) / 2) + p2) - p3))) + 1) ((p1 + p3) / 2) (((p1 + p3) / 2) + p2) ((((p1 + p3) / 2) + p2) - p3) ((p1 + p3) / 2) ((((p1 + p3) / 2) + p2) - 1)).1)) then
       bif (decide ((Q0 n0 p0 p1 p2 p3 ((Int.toNat (((p1 + p3) / 2) - ((((p1 + p3) / 2) + p2) - p3))) + 1) ((p1 + p3) / 2) (((p1 + p3) / 2) + p2) ((((p1 + p3) / 2) + p2) - p3) ((p1 + p3) / 2) ((((p1 + p3) / 2) + p2) - 1)).1 < ((Q0 n0 p0 p1 p2 p3 ((Int.toNat (((p1 + p3) / 2) - ((((p1 + p3) / 2) + p2) - p3))) + 1) ((p1 + p3) / 2) (((p1 + p3) / 2) + p2) ((((p1 + p3) / 2) + p2) - p3) ((p1 + p3) / 2) ((((p1 + p3) / 2) + p2) - 1)).2.1 - (Q0 n0 p0 p1 p2 p3 ((Int.toNat (((p1 + p3) / 2) - ((((p1 + p3) / 2) + p2) - p3))) + 1) ((p1 + p3) / 2) (((p1 + p3) / 2) + p2) ((((p1 + p3) / 2) + p2) - p3) ((p1 + p3) / 2) ((((p1 + p3) / 2) + p2) - 1)).2.2))) then
        bif (decide (((Q0 n0 p0 p1 p2 p3 ((Int.toNat (((p1 + p3) / 2) - ((((p1 + p3) / 2) + p2) - p3))) + 1) ((p1 + p3) / 2) (((p1 + p3) / 2) + p2) ((((p1 + p3) / 2) + p2) - p3) ((p1 + p3) / 2) ((((p1 + p3) / 2) + p2) - 1)).2.1 - (Q0 n0 p0 p1 p2 p3 ((Int.toNat (((p1 + p3) / 2) - ((((p1 + p3) / 2) + p2) - p3))) + 1) ((p1 + p3) / 2) (((p1 + p3) / 2) + p2) ((((p1 + p3) / 2) + p2) - p3) ((p1 + p3) / 2) ((((p1 + p3) / 2) + p2) - 1)).2.2) < p3)) then
         (Q6 k n0 (Q6 k n0 p0 p1 (Q0 n0 p0 p1 p2 p3 ((Int.toNat (((p1 + p3) / 2) - ((((p1 + p3) / 2) + p2) - p3))) + 1) ((p1 + p3) / 2) (((p1 + p3) / 2) + p2) ((((p1 + p3) / 2) + p2) - p3) ((p1 + p3) / 2) ((((p1 + p3) / 2) + p2) - 1)).2.2 (Q0 n0 p0 p1 p2 p3 ((Int.toNat (((p1 + p3) / 2) - ((((p1 + p3) / 2) + p2) - p3))) + 1) ((p1 + p3) / 2) (((p1 + p3) / 2) + p2) ((((p1 + p3) / 2) + p2) - p3) ((p1 + p3) / 2) ((((p1 + p3) / 2) + p2) - 1)).1) (Q0 n0 p0 p1 p2 p3 ((Int.toNat (((p1 + p3) / 2) - ((((p1 + p3) / 2) + p2) - p3))) + 1) ((p1 + p3) / 2) (((p1 + p3) / 2) + p2) ((((p1 + p3) / 2) + p2) - p3) ((p1 + p3) / 2) ((((p1 + p3) / 2) + p2) - 1)).1 ((Q0 n0 p0 p1 p2 p3 ((Int.toNat (((p1 + p3) / 2) - ((((p1 + p3) / 2) + p2) - p3))) + 1) ((p1 + p3) / 2) (((p1 + p3) / 2) + p2) ((((p1 + p3) / 2) + p2) - p3) ((p1 + p3) / 2) ((((p1 + p3) / 2) + p2) - 1)).2.1 - (Q0 n0 p0 p1 p2 p3 ((Int.toNat (((p1 + p3) / 2) - ((((p1 + p3) / 2) + p2) - p3))) + 1) ((p1 + p3) / 2) (((p1 + p3) / 2) + p2) ((((p1 + p3) / 2) + p2) - p3) ((p1 + p3) / 2) ((((p1 + p3) / 2) + p2) - 1)).2.2) p3)
        else
         (Q6 k n0 p0 p1 (Q0 n0 p0 p1 p2 p3 ((Int.toNat (((p1 + p3) / 2) - ((((p1 + p3) / 2) + p2) - p3))) + 1) ((p1 + p3) / 2) (((p1 + p3) / 2) + p2) ((((p1 + p3) / 2) + p2) - p3) ((p1 + p3) / 2) ((((p1 + p3) / 2) + p2) - 1)).2.2 (Q0 n0 p0 p1 p2 p3 ((Int.toNat (((p1 + p3) / 2) - ((((p1 + p3) / 2) + p2) - p3))) + 1) ((p1 + p3) / 2) (((p1 + p3) / 2) + p2) ((((p1 + p3) / 2) + p2) - p3) ((p1 + p3) / 2) ((((p1 + p3) / 2) + p2) - 1)).1)
       else
        (Q6 k n0 p0 p1 (Q0 n0 p0 p1 p2 p3 ((Int.toNat (((p1 + p3) / 2) - ((((p1 + p3) / 2) + p2) - p3))) + 1) ((p1 + p3) / 2) (((p1 + p3) / 2) + p2) ((((p1 + p3) / 2) + p2) - p3) ((p1 + p3) / 2) ((((p1 + p3) / 2) + p2) - 1)).2.2 (Q0 n0 p0 p1 p2 p3 ((Int.toNat (((p1 + p3) / 2) - ((((p1 + p3) / 2) + p2) - p3))) + 1) ((p1 + p3) / 2) (((p1 + p3) / 2) + p2) ((((p1 + p3) / 2) + p2) - p3) ((p1 + p3) / 2) ((((p1 + p3) / 2) + p2) - 1)).1)
      else
       bif (decide ((Q0 n0 p0 p1 p2 p3 ((Int.toNat (((p1 + p3) / 2) - ((((p1 + p3) / 2) + p2) - p3))) + 1) ((p1 + p3) / 2) (((p1 + p3) / 2) + p2) ((((p1 + p3) / 2) + p2) - p3) ((p1 + p3) / 2) ((((p1 + p3) / 2) + p2) - 1)).1 < ((Q0 n0 p0 p1 p2 p3 ((Int.toNat (((p1 + p3) / 2) - ((((p1 + p3) / 2) + p2) - p3))) + 1) ((p1 + p3) / 2) (((p1 + p3) / 2) + p2) ((((p1 + p3) / 2) + p2) - p3) ((p1 + p3) / 2) ((((p1 + p3) / 2) + p2) - 1)).2.1 - (Q0 n0 p0 p1 p2 p3 ((Int.toNat (((p1 + p3) / 2) - ((((p1 + p3) / 2) + p2) - p3))) + 1) ((p1 + p3) / 2) (((p1 + p3) / 2) + p2) ((((p1 + p3) / 2) + p2) - p3) ((p1 + p3) / 2) ((((p1 + p3) / 2) + p2) - 1)).2.2))) then
        bif (decide (((Q0 n0 p0 p1 p2 p3 ((Int.toNat (((p1 + p3) / 2) - ((((p1 + p3) / 2) + p2) - p3))) + 1) ((p1 + p3) / 2) (((p1 + p3) / 2) + p2) ((((p1 + p3) / 2) + p2) - p3) ((p1 + p3) / 2) ((((p1 + p3) / 2) + p2) - 1)).2.1 - (Q0 n0 p0 p1 p2 p3 ((Int.toNat (((p1 + p3) / 2) - ((((p1 + p3) / 2) + p2) - p3))) + 1) ((p1 + p3) / 2) (((p1 + p3) / 2) + p2) ((((p1 + p3) / 2) + p2) - p3) ((p1 + p3) / 2) ((((p1 + p3) / 2) + p2) - 1)).2.2) < p3)) then
         (Q6 k n0 p0 (Q0 n0 p0 p1 p2 p3 ((Int.toNat (((p1 + p3) / 2) - ((((p1 + p3) / 2) + p2) - p3))) + 1) ((p1 + p3) / 2) (((p1 + p3) / 2) + p2) ((((p1 + p3) / 2) + p2) - p3) ((p1 + p3) / 2) ((((p1 + p3) / 2) + p2) - 1)).1 ((Q0 n0 p0 p1 p2 p3 ((Int.toNat (((p1 + p3) / 2) - ((((p1 + p3) / 2) + p2) - p3))) + 1) ((p1 + p3) / 2) (((p1 + p3) / 2) + p2) ((((p1 + p3) / 2) + p2) - p3) ((p1 + p3) / 2) ((((p1 + p3) / 2) + p2) - 1)).2.1 - (Q0 n0 p0 p1 p2 p3 ((Int.toNat (((p1 + p3) / 2) - ((((p1 + p3) / 2) + p2) - p3))) + 1) ((p1 + p3) / 2) (((p1 + p3) / 2) + p2) ((((p1 + p3) / 2) + p2) - p3) ((p1 + p3) / 2) ((((p1 + p3) / 2) + p2) - 1)).2.2) p3)
        else
         p0
       else
        p0
     else
      bif (decide ((Q0 n0 p0 p1 p2 p3 ((Int.toNat (((p1 + p3) / 2) - ((((p1 + p3) / 2) + p2) - p3))) + 1) ((p1 + p3) / 2) (((p1 + p3) / 2) + p2) ((((p1 + p3) / 2) + p2) - p3) ((p1 + p3) / 2) ((((p1 + p3) / 2) + p2) - 1)).1 < ((Q0 n0 p0 p1 p2 p3 ((Int.toNat (((p1 + p3) / 2) - ((((p1 + p3) / 2) + p2) - p3))) + 1) ((p1 + p3) / 2) (((p1 + p3) / 2) + p2) ((((p1 + p3) / 2) + p2) - p3) ((p1 + p3) / 2) ((((p1 + p3) / 2) + p2) - 1)).2.1 - (Q0 n0 p0 p1 p2 p3 ((Int.toNat (((p1 + p3) / 2) - ((((p1 + p3) / 2) + p2) - p3))) + 1) ((p1 + p3) / 2) (((p1 + p3) / 2) + p2) ((((p1 + p3) / 2) + p2) - p3) ((p1 + p3) / 2) ((((p1 + p3) / 2) + p2) - 1)).2.2))) then
       bif (decide (((Q0 n0 p0 p1 p2 p3 ((Int.toNat (((p1 + p3) / 2) - ((((p1 + p3) / 2) + p2) - p3))) + 1) ((p1 + p3) / 2) (((p1 + p3) / 2) + p2) ((((p1 + p3) / 2) + p2) - p3) ((p1 + p3) / 2) ((((p1 + p3) / 2) + p2) - 1)).2.1 - (Q0 n0 p0 p1 p2 p3 ((Int.toNat (((p1 + p3) / 2) - ((((p1 + p3) / 2) + p2) - p3))) + 1) ((p1 + p3) / 2) (((p1 + p3) / 2) + p2) ((((p1 + p3) / 2) + p2) - p3) ((p1 + p3) / 2) ((((p1 + p3) / 2) + p2) - 1)).2.2) < p3)) then
        (Q6 k n0 p0 (Q0 n0 p0 p1 p2 p3 ((Int.toNat (((p1 + p3) / 2) - ((((p1 + p3) / 2) + p2) - p3))) + 1) ((p1 + p3) / 2) (((p1 + p3) / 2) + p2) ((((p1 + p3) / 2) + p2) - p3) ((p1 + p3) / 2) ((((p1 + p3) / 2) + p2) - 1)).1 ((Q0 n0 p0 p1 p2 p3 ((Int.toNat (((p1 + p3) / 2) - ((((p1 + p3) / 2) + p2) - p3))) + 1) ((p1 + p3) / 2) (((p1 + p3) / 2) + p2) ((((p1 + p3) / 2) + p2) - p3) ((p1 + p3) / 2) ((((p1 + p3) / 2) + p2) - 1)).2.1 - (Q0 n0 p0 p1 p2 p3 ((Int.toNat (((p1 + p3) / 2) - ((((p1 + p3) / 2) + p2) - p3))) + 1) ((p1 + p3) / 2) (((p1 + p3) / 2) + p2) ((((p1 + p3) / 2) + p2) - p3) ((p1 + p3) / 2) ((((p1 + p3) / 2) + p2) - 1)).2.2) p3)
       else
        p0
      else
       p0
   else
    bif (decide ((Q0 n0 p0 p1 p2 p3 ((Int.toNat (p2 - p1)) + 1) ((p1 + p3) / 2) (((p1 + p3) / 2) + p2) p1 p2 ((((p1 + p3) / 2) + p2) - 1)).2.2 < p2)) then
     bif (decide (p2 < ((Q0 n0 p0 p1 p2 p3 ((Int.toNat (p2 - p1)) + 1) ((p1 + p3) / 2) (((p1 + p3) / 2) + p2) p1 p2 ((((p1 + p3) / 2) + p2) - 1)).2.1 - (Q0 n0 p0 p1 p2 p3 ((Int.toNat (p2 - p1)) + 1) ((p1 + p3) / 2) (((p1 + p3) / 2) + p2) p1 p2 ((((p1 + p3) / 2) + p2) - 1)).2.2))) then
      bif (decide (p1 < (Q0 n0 p0 p1 p2 p3 ((Int.toNat (p2 - p1)) + 1) ((p1 + p3) / 2) (((p1 + p3) / 2) + p2) p1 p2 ((((p1 + p3) / 2) + p2) - 1)).2.2)) then
       bif (decide ((Q0 n0 p0 p1 p2 p3 ((Int.toNat (p2 - p1)) + 1) ((p1 + p3) / 2) (((p1 + p3) / 2) + p2) p1 p2 ((((p1 + p3) / 2) + p2) - 1)).2.2 < (Q0 n0 p0 p1 p2 p3 ((Int.toNat (p2 - p1)) + 1) ((p1 + p3) / 2) (((p1 + p3) / 2) + p2) p1 p2 ((((p1 + p3) / 2) + p2) - 1)).1)) then
        bif (decide ((Q0 n0 p0 p1 p2 p3 ((Int.toNat (p2 - p1)) + 1) ((p1 + p3) / 2) (((p1 + p3) / 2) + p2) p1 p2 ((((p1 + p3) / 2) + p2) - 1)).1 < ((Q0 n0 p0 p1 p2 p3 ((Int.toNat (p2 - p1)) + 1) ((p1 + p3) / 2) (((p1 + p3) / 2) + p2) p1 p2 ((((p1 + p3) / 2) + p2) - 1)).2.1 - (Q0 n0 p0 p1 p2 p3 ((Int.toNat (p2 - p1)) + 1) ((p1 + p3) / 2) (((p1 + p3) / 2) + p2) p1 p2 ((((p1 + p3) / 2) + p2) - 1)).2.2))) then
         bif (decide (((Q0 n0 p0 p1 p2 p3 ((Int.toNat (p2 - p1)) + 1) ((p1 + p3) / 2) (((p1 + p3) / 2) + p2) p1 p2 ((((p1 + p3) / 2) + p2) - 1)).2.1 - (Q0 n0 p0 p1 p2 p3 ((Int.toNat (p2 - p1)) + 1) ((p1 + p3) / 2) (((p1 + p3) / 2) + p2) p1 p2 ((((p1 + p3) / 2) + p2) - 1)).2.2) < p3)) then
          (Q6 k n0 (Q6 k n0 (Qb n0 p0 (Q0 n0 p0 p1 p2 p3 ((Int.toNat (p2 - p1)) + 1) ((p1 + p3) / 2) (((p1 + p3) / 2) + p2) p1 p2 ((((p1 + p3) / 2) + p2) - 1)).2.2 p2 ((Q0 n0 p0 p1 p2 p3 ((Int.toNat (p2 - p1)) + 1) ((p1 + p3) / 2) (((p1 + p3) / 2) + p2) p1 p2 ((((p1 + p3) / 2) + p2) - 1)).2.1 - (Q0 n0 p0 p1 p2 p3 ((Int.toNat (p2 - p1)) + 1) ((p1 + p3) / 2) (((p1 + p3) / 2) + p2) p1 p2 ((((p1 + p3) / 2) + p2) - 1)).2.2)) p1 (Q0 n0 p0 p1 p2 p3 ((Int.toNat (p2 - p1)) + 1) ((p1 + p3) / 2) (((p1 + p3) / 2) + p2) p1 p2 ((((p1 + p3) / 2) + p2) - 1)).2.2 (Q0 n0 p0 p1 p2 p3 ((Int.toNat (p2 - p1)) + 1) ((p1 + p3) / 2) (((p1 + p3) / 2) + p2) p1 p2 ((((p1 + p3) / 2) + p2) - 1)).1) (Q0 n0 p0 p1 p2 p3 ((Int.toNat (p2 - p1)) + 1) ((p1 + p3) / 2) (((p1 + p3) / 2) + p2) p1 p2 ((((p1 + p3) / 2) + p2) - 1)).1 ((Q0 n0 p0 p1 p2 p3 ((Int.toNat (p2 - p1)) + 1) ((p1 + p3) / 2) (((p1 + p3) / 2) + p2) p1 p2 ((((p1 + p3) / 2) + p2) - 1)).2.1 - (Q0 n0 p0 p1 p2 p3 ((Int.toNat (p2 - p1)) + 1) ((p1 + p3) / 2) (((p1 + p3) / 2) + p2) p1 p2 ((((p1 + p3) / 2) + p2) - 1)).2.2) p3)
         else
          (Q6 k n0 (Qb n0 p0 (Q0 n0 p0 p1 p2 p3 ((Int.toNat (p2 - p1)) + 1) ((p1 + p3) / 2) (((p1 + p3) / 2) + p2) p1 p2 ((((p1 + p3) / 2) + p2) - 1)).2.2 p2 ((Q0 n0 p0 p1 p2 p3 ((Int.toNat (p2 - p1)) + 1) ((p1 + p3) / 2) (((p1 + p3) / 2) + p2) p1 p2 ((((p1 + p3) / 2) + p2) - 1)).2.1 - (Q0 n0 p0 p1 p2 p3 ((Int.toNat (p2 - p1)) + 1) ((p1 + p3) / 2) (((p1 + p3) / 2) + p2) p1 p2 ((((p1 + p3) / 2) + p2) - 1)).2.2)) p1 (Q0 n0 p0 p1 p2 p3 ((Int.toNat (p2 - p1)) + 1) ((p1 + p3) / 2) (((p1 + p3) / 2) + p2) p1 p2 ((((p1 + p3) / 2) + p2) - 1)).2.2 (Q0 n0 p0 p1 p2 p3 ((Int.toNat (p2 - p1)) + 1) ((p1 + p3) / 2) (((p1 + p3) / 2) + p2) p1 p2 ((((p1 + p3) / 2) + p2) - 1)).1)
        else
         (Q6 k n0 (Qb n0 p0 (Q0 n0 p0 p1 p2 p3 ((Int.toNat (p2 - p1)) + 1) ((p1 + p3) / 2) (((p1 + p3) / 2) + p2) p1 p2 ((((p1 + p3) / 2) + p2) - 1)).2.2 p2 ((Q0 n0 p0 p1 p2 p3 ((Int.toNat (p2 - p1)) + 1) ((p1 + p3) / 2) (((p1 + p3) / 2) + p2) p1 p2 ((((p1 + p3) / 2) + p2) - 1)).2.1 - (Q0 n0 p0 p1 p2 p3 ((Int.toNat (p2 - p1)) + 1) ((p1 + p3) / 2) (((p1 + p3) / 2) + p2) p1 p2 ((((p1 + p3) / 2) + p2) - 1)).2.2)) p1 (Q0 n0 p0 p1 p2 p3 ((Int.toNat (p2 - p1)) + 1) ((p1 + p3) / 2) (((p1 + p3) / 2) + p2) p1 p2 ((((p1 + p3) / 2) + p2) - 1)).2.2 (Q0 n0 p0 p1 p2 p3 ((Int.toNat (p2 - p1)) + 1) ((p1 + p3) / 2) (((p1 + p3) / 2) + p2) p1 p2 ((((p1 + p3) / 2) + p2) - 1)).1)
       else
        bif (decide ((Q0 n0 p0 p1 p2 p3 ((Int.toNat (p2 - p1)) + 1) ((p1 + p3) / 2) (((p1 + p3) / 2) + p2) p1 p2 ((((p1 + p3) / 2) + p2) - 1)).1 < ((Q0 n0 p0 p1 p2 p3 ((Int.toNat (p2 - p1)) + 1) ((p1 + p3) / 2) (((p1 + p3) / 2) + p2) p1 p2 ((((p1 + p3) / 2) + p2) - 1)).2.1 - (Q0 n0 p0 p1 p2 p3 ((Int.toNat (p2 - p1)) + 1) ((p1 + p3) / 2) (((p1 + p3) / 2) + p2) p1 p2 ((((p1 + p3) / 2) + p2) - 1)).2.2))) then
         bif (decide (((Q0 n0 p0 p1 p2 p3 ((Int.toNat (p2 - p1)) + 1) ((p1 + p3) / 2) (((p1 + p3) / 2) + p2) p1 p2 ((((p1 + p3) / 2) + p2) - 1)).2.1 - (Q0 n0 p0 p1 p2 p3 ((Int.toNat (p2 - p1)) + 1) ((p1 + p3) / 2) (((p1 + p3) / 2) + p2) p1 p2 ((((p1 + p3) / 2) + p2) - 1)).2.2) < p3)) then
          (Q6 k n0 (Qb n0 p0 (Q0 n0 p0 p1 p2 p3 ((Int.toNat (p2 - p1)) + 1) ((p1 + p3) / 2) (((p1 + p3) / 2) + p2) p1 p2 ((((p1 + p3) / 2) + p2) - 1)).2.2 p2 ((Q0 n0 p0 p1 p2 p3 ((Int.toNat (p2 - p1)) + 1) ((p1 + p3) / 2) (((p1 + p3) / 2) + p2) p1 p2 ((((p1 + p3) / 2) + p2) - 1)).2.1 - (Q0 n0 p0 p1 p2 p3 ((Int.toNat (p2 - p1)) + 1) ((p1 + p3) / 2) (((p1 + p3) / 2) + p2) p1 p2 ((((p1 + p3) / 2) + p2) - 1)).2.2)) (Q0 n0 p0 p1 p2 p3 ((Int.toNat (p2 - p1)) + 1) ((p1 + p3) / 2) (((p1 + p3) / 2) + p2) p1 p2 ((((p1 + p3) / 2) + p2) - 1)).1 ((Q0 n0 p0 p1 p2 p3 ((Int.toNat (p2 - p1)) + 1) ((p1 + p3) / 2) (((p1 + p3) / 2) + p2) p1 p2 ((((p1 + p3) / 2) + p2) - 1)).2.1 - (Q0 n0 p0 p1 p2 p3 ((Int.toNat (p2 - p1)) + 1) ((p1 + p3) / 2) (((p1 + p3) / 2) + p2) p1 p2 ((((p1 + p3) / 2) + p2) - 1)).2.2) p3)
         else
          (Qb n0 p0 (Q0 n0 p0 p1 p2 p3 ((Int.toNat (p2 - p1)) + 1) ((p1 + p3) / 2) (((p1 + p3) / 2) + p2) p1 p2 ((((p1 + p3) / 2) + p2) - 1)).2.2 p2 ((Q0 n0 p0 p1 p2 p3 ((Int.toNat (p2 - p1)) + 1) ((p1 + p3) / 2) (((p1 + p3) / 2) + p2) p1 p2 ((((p1 + p3) / 2) + p2) - 1)).2.1 - (Q0 n0 p0 p1 p2 p3 ((Int.toNat (p2 - p1)) + 1) ((p1 + p3) / 2) (((p1 + p3) / 2) + p2) p1 p2 ((((p1 + p3) / 2) + p2) - 1)).2.2))
        else
         (Qb n0 p0 (Q0 n0 p0 p1 p2 p3 ((Int.toNat (p2 - p1)) + 1) ((p1 + p3) / 2) (((p1 + p3) / 2) + p2) p1 p2 ((((p1 + p3) / 2) + p2) - 1)).2.2 p2 ((Q0 n0 p0 p1 p2 p3 ((Int.toNat (p2 - p1)) + 1) ((p1 + p3) / 2) (((p1 + p3) / 2) + p2) p1 p2 ((((p1 + p3) / 2) + p2) - 1)).2.1 - (Q0 n0 p0 p1 p2 p3 ((Int.toNat (p2 - p1)) + 1) ((p1 + p3) / 2) (((p1 + p3) / 2) + p2) p1 p2 ((((p1 + p3) / 2) + p2) - 1)).2.2))
      else
       bif (decide ((Q0 n0 p0 p1 p2 p3 ((Int.toNat (p2 - p1)) + 1) ((p1 + p3) / 2) (((p1 + p3) / 2) + p2) p1 p2 ((((p1 + p3) / 2) + p2) - 1)).1 < ((Q0 n0 p0 p1 p2 p3 ((Int.toNat (p2 - p1)) + 1) ((p1 + p3) / 2) (((p1 + p3) / 2) + p2) p1 p2 ((((p1 + p3) / 2) + p2) - 1)).2.1 - (Q0 n0 p0 p1 p2 p3 ((Int.toNat (p2 - p1)) + 1) ((p1 + p3) / 2) (((p1 + p3) / 2) + p2) p1 p2 ((((p1 + p3) / 2) + p2) - 1)).2.2))) then
        bif (decide (((Q0 n0 p0 p1 p2 p3 ((Int.toNat (p2 - p1)) + 1) ((p1 + p3) / 2) (((p1 + p3) / 2) + p2) p1 p2 ((((p1 + p3) / 2) + p2) - 1)).2.1 - (Q0 n0 p0 p1 p2 p3 ((Int.toNat (p2 - p1)) + 1) ((p1 + p3) / 2) (((p1 + p3) / 2) + p2) p1 p2 ((((p1 + p3) / 2) + p2) - 1)).2.2) < p3)) then
         (Q6 k n0 (Qb n0 p0 (Q0 n0 p0 p1 p2 p3 ((Int.toNat (p2 - p1)) + 1) ((p1 + p3) / 2) (((p1 + p3) / 2) + p2) p1 p2 ((((p1 + p3) / 2) + p2) - 1)).2.2 p2 ((Q0 n0 p0 p1 p2 p3 ((Int.toNat (p2 - p1)) + 1) ((p1 + p3) / 2) (((p1 + p3) / 2) + p2) p1 p2 ((((p1 + p3) / 2) + p2) - 1)).2.1 - (Q0 n0 p0 p1 p2 p3 ((Int.toNat (p2 - p1)) + 1) ((p1 + p3) / 2) (((p1 + p3) / 2) + p2) p1 p2 ((((p1 + p3) / 2) + p2) - 1)).2.2)) (Q0 n0 p0 p1 p2 p3 ((Int.toNat (p2 - p1)) + 1) ((p1 + p3) / 2) (((p1 + p3) / 2) + p2) p1 p2 ((((p1 + p3) / 2) + p2) - 1)).1 ((Q0 n0 p0 p1 p2 p3 ((Int.toNat (p2 - p1)) + 1) ((p1 + p3) / 2) (((p1 + p3) / 2) + p2) p1 p2 ((((p1 + p3) / 2) + p2) - 1)).2.1 - (Q0 n0 p0 p1 p2 p3 ((Int.toNat (p2 - p1)) + 1) ((p1 + p3) / 2) (((p1 + p3) / 2) + p2) p1 p2 ((((p1 + p3) / 2) + p2) - 1)).2.2) p3)
        else
         (Qb n0 p0 (Q0 n0 p0 p1 p2 p3 ((Int.toNat (p2 - p1)) + 1) ((p1 + p3) / 2) (((p1 + p3) / 2) + p2) p1 p2 ((((p1 + p3) / 2) + p2) - 1)).2.2 p2 ((Q0 n0 p0 p1 p2 p3 ((Int.toNat (p2 - p1)) + 1) ((p1 + p3) / 2) (((p1 + p3) / 2) + p2) p1 p2 ((((p1 + p3) / 2) + p2) - 1)).2.1 - (Q0 n0 p0 p1 p2 p3 ((Int.toNat (p2 - p1)) + 1) ((p1 + p3) / 2) (((p1 + p3) / 2) + p2) p1 p2 ((((p1 + p3) / 2) + p2) - 1)).2.2))
       else
        (Qb n0 p0 (Q0 n0 p0 p1 p2 p3 ((Int.toNat (p2 - p1)) + 1) ((p1 + p3) / 2) (((p1 + p3) / 2) + p2) p1 p2 ((((p1 + p3) / 2) + p2) - 1)).2.2 p2 ((Q0 n0 p0 p1 p2 p3 ((Int.toNat (p2 - p1)) + 1) ((p1 + p3) / 2) (((p1 + p3) / 2) + p2) p1 p2 ((((p1 + p3) / 2) + p2) - 1)).2.1 - (Q0 n0 p0 p1 p2 p3 ((Int.toNat (p2 - p1)) + 1) ((p1 + p3) / 2) (((p1 + p3) / 2) + p2) p1 p2 ((((p1 + p3) / 2) + p2) - 1)).2.2))
     else
      bif (decide (p1 < (Q0 n0 p0 p1 p2 p3 ((Int.toNat (p2 - p1)) + 1) ((p1 + p3) / 2) (((p1 + p3) / 2) + p2) p1 p2 ((((p1 + p3) / 2) + p2) - 1)).2.2)) then
       bif (decide ((Q0 n0 p0 p1 p2 p3 ((Int.toNat (p2 - p1)) + 1) ((p1 + p3) / 2) (((p1 + p3) / 2) + p2) p1 p2 ((((p1 + p3) / 2) + p2) - 1)).2.2 < (Q0 n0 p0 p1 p2 p3 ((Int.toNat (p2 - p1)) + 1) ((p1 + p3) / 2) (((p1 + p3) / 2) + p2) p1 p2 ((((p1 + p3) / 2) + p2) - 1)).1)) then
        bif (decide ((Q0 n0 p0 p1 p2 p3 ((Int.toNat (p2 - p1)) + 1) ((p1 + p3) / 2) (((p1 + p3) / 2) + p2) p1 p2 ((((p1 + p3) / 2) + p2) - 1)).1 < ((Q0 n0 p0 p1 p2 p3 ((Int.toNat (p2 - p1)) + 1) ((p1 + p3) / 2) (((p1 + p3) / 2) + p2) p1 p2 ((((p1 + p3) / 2) + p2) - 1)).2.1 - (Q0 n0 p0 p1 p2 p3 ((Int.toNat (p2 - p1)) + 1) ((p1 + p3) / 2) (((p1 + p3) / 2) + p2) p1 p2 ((((p1 + p3) / 2) + p2) - 1)).2.2))) then
         bif (decide (((Q0 n0 p0 p1 p2 p3 ((Int.toNat (p2 - p1)) + 1) ((p1 + p3) / 2) (((p1 + p3) / 2) + p2) p1 p2 ((((p1 + p3) / 2) + p2) - 1)).2.1 - (Q0 n0 p0 p1 p2 p3 ((Int.toNat (p2 - p1)) + 1) ((p1 + p3) / 2) (((p1 + p3) / 2) + p2) p1 p2 ((((p1 + p3) / 2) + p2) - 1)).2.2) < p3)) then
          (Q6 k n0 (Q6 k n0 p0 p1 (Q0 n0 p0 p1 p2 p3 ((Int.toNat (p2 - p1)) + 1) ((p1 + p3) / 2) (((p1 + p3) / 2) + p2) p1 p2 ((((p1 + p3) / 2) + p2) - 1)).2.2 (Q0 n0 p0 p1 p2 p3 ((Int.toNat (p2 - p1)) + 1) ((p1 + p3) / 2) (((p1 + p3) / 2) + p2) p1 p2 ((((p1 + p3) / 2) + p2) - 1)).1) (Q0 n0 p0 p1 p2 p3 ((Int.toNat (p2 - p1)) + 1) ((p1 + p3) / 2) (((p1 + p3) / 2) + p2) p1 p2 ((((p1 + p3) / 2) + p2) - 1)).1 ((Q0 n0 p0 p1 p2 p3 ((Int.toNat (p2 - p1)) + 1) ((p1 + p3) / 2) (((p1 + p3) / 2) + p2) p1 p2 ((((p1 + p3) / 2) + p2) - 1)).2.1 - (Q0 n0 p0 p1 p2 p3 ((Int.toNat (p2 - p1)) + 1) ((p1 + p3) / 2) (((p1 + p3) / 2) + p2) p1 p2 ((((p1 + p3) / 2) + p2) - 1)).2.2) p3)
         else
          (Q6 k n0 p0 p1 (Q0 n0 p0 p1 p2 p3 ((Int.toNat (p2 - p1)) + 1) ((p1 + p3) / 2) (((p1 + p3) / 2) + p2) p1 p2 ((((p1 + p3) / 2) + p2) - 1)).2.2 (Q0 n0 p0 p1 p2 p3 ((Int.toNat (p2 - p1)) + 1) ((p1 + p3) / 2) (((p1 + p3) / 2) + p2) p1 p2 ((((p1 + p3) / 2) + p2) - 1)).1)
        else
         (Q6 k n0 p0 p1 (Q0 n0 p0 p1 p2 p3 ((Int.toNat (p2 - p1)) + 1) ((p1 + p3) / 2) (((p1 + p3) / 2) + p2) p1 p2 ((((p1 + p3) / 2) + p2) - 1)).2.2 (Q0 n0 p0 p1 p2 p3 ((Int.toNat (p2 - p1)) + 1) ((p1 + p3) / 2) (((p1 + p3) / 2) + p2) p1 p2 ((((p1 + p3) / 2) + p2) - 1)).1)
       else
        bif (decide ((Q0 n0 p0 p1 p2 p3 ((Int.toNat (p2 - p1)) + 1) ((p1 + p3) / 2) (((p1 + p3) / 2) + p2) p1 p2 ((((p1 + p3) / 2) + p2) - 1)).1 < ((Q0 n0 p0 p1 p2 p3 ((Int.toNat (p2 - p1)) + 1) ((p1 + p3) / 2) (((p1 + p3) / 2) + p2) p1 p2 ((((p1 + p3) / 2) + p2) - 1)).2.1 - (Q0 n0 p0 p1 p2 p3 ((Int.toNat (p2 - p1)) + 1) ((p1 + p3) / 2) (((p1 + p3) / 2) + p2) p1 p2 ((((p1 + p3) / 2) + p2) - 1)).2.2))) then
         bif (decide (((Q0 n0 p0 p1 p2 p3 ((Int.toNat (p2 - p1)) + 1) ((p1 + p3) / 2) (((p1 + p3) / 2) + p2) p1 p2 ((((p1 + p3) / 2) + p2) - 1)).2.1 - (Q0 n0 p0 p1 p2 p3 ((Int.toNat (p2 - p1)) + 1) ((p1 + p3) / 2) (((p1 + p3) / 2) + p2) p1 p2 ((((p1 + p3) / 2) + p2) - 1)).2.2) < p3)) then
          (Q6 k n0 p0 (Q0 n0 p0 p1 p2 p3 ((Int.toNat (p2 - p1)) + 1) ((p1 + p3) / 2) (((p1 + p3) / 2) + p2) p1 p2 ((((p1 + p3) / 2) + p2) - 1)).1 ((Q0 n0 p0 p1 p2 p3 ((Int.toNat (p2 - p1)) + 1) ((p1 + p3) / 2) (((p1 + p3) / 2) + p2) p1 p2 ((((p1 + p3) / 2) + p2) - 1)).2.1 - (Q0 n0 p0 p1 p2 p3 ((Int.toNat (p2 - p1)) + 1) ((p1 + p3) / 2) (((p1 + p3) / 2) + p2) p1 p2 ((((p1 + p3) / 2) + p2) - 1)).2.2) p3)
         else
          p0
        else
         p0
      else
       bif (decide ((Q0 n0 p0 p1 p2 p3 ((Int.toNat (p2 - p1)) + 1) ((p1 + p3) / 2) (((p1 + p3) / 2) + p2) p1 p2 ((((p1 + p3) / 2) + p2) - 1)).1 < ((Q0 n0 p0 p1 p2 p3 ((Int.toNat (p2 - p1)) + 1) ((p1 + p3) / 2) (((p1 + p3) / 2) + p2) p1 p2 ((((p1 + p3) / 2) + p2) - 1)).2.1 - (Q0 n0 p0 p1 p2 p3 ((Int.toNat (p2 - p1)) + 1) ((p1 + p3) / 2) (((p1 + p3) / 2) + p2) p1 p2 ((((p1 + p3) / 2) + p2) - 1)).2.2))) then
        bif (decide (((Q0 n0 p0 p1 p2 p3 ((Int.toNat (p2 - p1)) + 1) ((p1 + p3) / 2) (((p1 + p3) / 2) + p2) p1 p2 ((((p1 + p3) / 2) + p2) - 1)).2.1 - (Q0 n0 p0 p1 p2 p3 ((Int.toNat (p2 - p1)) + 1) ((p1 + p3) / 2) (((p1 + p3) / 2) + p2) p1 p2 ((((p1 + p3) / 2) + p2) - 1)).2.2) < p3)) then
         (Q6 k n0 p0 (Q0 n0 p0 p1 p2 p3 ((Int.toNat (p2 - p1)) + 1) ((p1 + p3) / 2) (((p1 + p3) / 2) + p2) p1 p2 ((((p1 + p3) / 2) + p2) - 1)).1 ((Q0 n0 p0 p1 p2 p3 ((Int.toNat (p2 - p1)) + 1) ((p1 + p3) / 2) (((p1 + p3) / 2) + p2) p1 p2 ((((p1 + p3) / 2) + p2) - 1)).2.1 - (Q0 n0 p0 p1 p2 p3 ((Int.toNat (p2 - p1)) + 1) ((p1 + p3) / 2) (((p1 + p3) / 2) + p2) p1 p2 ((((p1 + p3) / 2) + p2) - 1)).2.2) p3)
        else
         p0
       else
        p0
    else
     bif (decide (p1 < (Q0 n0 p0 p1 p2 p3 ((Int.toNat (p2 - p1)) + 1) ((p1 + p3) / 2) (((p1 + p3) / 2) + p2) p1 p2 ((((p1 + p3) / 2) + p2) - 1)).2.2)) then
      bif (decide ((Q0 n0 p0 p1 p2 p3 ((Int.toNat (p2 - p1)) + 1) ((p1 + p3) / 2) (((p1 + p3) / 2) + p2) p1 p2 ((((p1 + p3) / 2) + p2) - 1)).2.2 < (Q0 n0 p0 p1 p2 p3 ((Int.toNat (p2 - p1)) + 1) ((p1 + p3) / 2) (((p1 + p3) / 2) + p2) p1 p2 ((((p1 + p3) / 2) + p2) - 1)).1)) then
       bif (decide ((Q0 n0 p0 p1 p2 p3 ((Int.toNat (p2 - p1)) + 1) ((p1 + p3) / 2) (((p1 + p3) / 2) + p2) p1 p2 ((((p1 + p3) / 2) + p2) - 1)).1 < ((Q0 n0 p0 p1 p2 p3 ((Int.toNat (p2 - p1)) + 1) ((p1 + p3) / 2) (((p1 + p3) / 2) + p2) p1 p2 ((((p1 + p3) / 2) + p2) - 1)).2.1 - (Q0 n0 p0 p1 p2 p3 ((Int.toNat (p2 - p1)) + 1) ((p1 + p3) / 2) (((p1 + p3) / 2) + p2) p1 p2 ((((p1 + p3) / 2) + p2) - 1)).2.2))) then
        bif (decide (((Q0 n0 p0 p1 p2 p3 ((Int.toNat (p2 - p1)) + 1) ((p1 + p3) / 2) (((p1 + p3) / 2) + p2) p1 p2 ((((p1 + p3) / 2) + p2) - 1)).2.1 - (Q0 n0 p0 p1 p2 p3 ((Int.toNat (p2 - p1)) + 1) ((p1 + p3) / 2) (((p1 + p3) / 2) + p2) p1 p2 ((((p1 + p3) / 2) + p2) - 1)).2.2) < p3)) then
         (Q6 k n0 (Q6 k n0 p0 p1 (Q0 n0 p0 p1 p2 p3 ((Int.toNat (p2 - p1)) + 1) ((p1 + p3) / 2) (((p1 + p3) / 2) + p2) p1 p2 ((((p1 + p3) / 2) + p2) - 1)).2.2 (Q0 n0 p0 p1 p2 p3 ((Int.toNat (p2 - p1)) + 1) ((p1 + p3) / 2) (((p1 + p3) / 2) + p2) p1 p2 ((((p1 + p3) / 2) + p2) - 1)).1) (Q0 n0 p0 p1 p2 p3 ((Int.toNat (p2 - p1)) + 1) ((p1 + p3) / 2) (((p1 + p3) / 2) + p2) p1 p2 ((((p1 + p3) / 2) + p2) - 1)).1 ((Q0 n0 p0 p1 p2 p3 ((Int.toNat (p2 - p1)) + 1) ((p1 + p3) / 2) (((p1 + p3) / 2) + p2) p1 p2 ((((p1 + p3) / 2) + p2) - 1)).2.1 - (Q0 n0 p0 p1 p2 p3 ((Int.toNat (p2 - p1)) + 1) ((p1 + p3) / 2) (((p1 + p3) / 2) + p2) p1 p2 ((((p1 + p3) / 2) + p2) - 1)).2.2) p3)
        else
         (Q6 k n0 p0 p1 (Q0 n0 p0 p1 p2 p3 ((Int.toNat (p2 - p1)) + 1) ((p1 + p3) / 2) (((p1 + p3) / 2) + p2) p1 p2 ((((p1 + p3) / 2) + p2) - 1)).2.2 (Q0 n0 p0 p1 p2 p3 ((Int.toNat (p2 - p1)) + 1) ((p1 + p3) / 2) (((p1 + p3) / 2) + p2) p1 p2 ((((p1 + p3) / 2) + p2) - 1)).1)
       else
        (Q6 k n0 p0 p1 (Q0 n0 p0 p1 p2 p3 ((Int.toNat (p2 - p1)) + 1) ((p1 + p3) / 2) (((p1 + p3) / 2) + p2) p1 p2 ((((p1 + p3) / 2) + p2) - 1)).2.2 (Q0 n0 p0 p1 p2 p3 ((Int.toNat (p2 - p1)) + 1) ((p1 + p3) / 2) (((p1 + p3) / 2) + p2) p1 p2 ((((p1 + p3) / 2) + p2) - 1)).1)
      else
       bif (decide ((Q0 n0 p0 p1 p2 p3 ((Int.toNat (p2 - p1)) + 1) ((p1 + p3) / 2) (((p1 + p3) / 2) + p2) p1 p2 ((((p1 + p3) / 2) + p2) - 1)).1 < ((Q0 n0 p0 p1 p2 p3 ((Int.toNat (p2 - p1)) + 1) ((p1 + p3) / 2) (((p1 + p3) / 2) + p2) p1 p2 ((((p1 + p3) / 2) + p2) - 1)).2.1 - (Q0 n0 p0 p1 p2 p3 ((Int.toNat (p2 - p1)) + 1) ((p1 + p3) / 2) (((p1 + p3) / 2) + p2) p1 p2 ((((p1 + p3) / 2) + p2) - 1)).2.2))) then
        bif (decide (((Q0 n0 p0 p1 p2 p3 ((Int.toNat (p2 - p1)) + 1) ((p1 + p3) / 2) (((p1 + p3) / 2) + p2) p1 p2 ((((p1 + p3) / 2) + p2) - 1)).2.1 - (Q0 n0 p0 p1 p2 p3 ((Int.toNat (p2 - p1)) + 1) ((p1 + p3) / 2) (((p1 + p3) / 2) + p2) p1 p2 ((((p1 + p3) / 2) + p2) - 1)).2.2) < p3)) then
         (Q6 k n0 p0 (Q0 n0 p0 p1 p2 p3 ((Int.toNat (p2 - p1)) + 1) ((p1 + p3) / 2) (((p1 + p3) / 2) + p2) p1 p2 ((((p1 + p3) / 2) + p2) - 1)).1 ((Q0 n0 p0 p1 p2 p3 ((Int.toNat (p2 - p1)) + 1) ((p1 + p3) / 2) (((p1 + p3) / 2) + p2) p1 p2 ((((p1 + p3) / 2) + p2) - 1)).2.1 - (Q0 n0 p0 p1 p2 p3 ((Int.toNat (p2 - p1)) + 1) ((p1 + p3) / 2) (((p1 + p3) / 2) + p2) p1 p2 ((((p1 + p3) / 2) + p2) - 1)).2.2) p3)
        else
         p0
       else
        p0
     else
      bif (decide ((Q0 n0 p0 p1 p2 p3 ((Int.toNat (p2 - p1)) + 1) ((p1 + p3) / 2) (((p1 + p3) / 2) + p2) p1 p2 ((((p1 + p3) / 2) + p2) - 1)).1 < ((Q0 n0 p0 p1 p2 p3 ((Int.toNat (p2 - p1)) + 1) ((p1 + p3) / 2) (((p1 + p3) / 2) + p2) p1 p2 ((((p1 + p3) / 2) + p2) - 1)).2.1 - (Q0 n0 p0 p1 p2 p3 ((Int.toNat (p2 - p1)) + 1) ((p1 + p3) / 2) (((p1 + p3) / 2) + p2) p1 p2 ((((p1 + p3) / 2) + p2) - 1)).2.2))) then
       bif (decide (((Q0 n0 p0 p1 p2 p3 ((Int.toNat (p2 - p1)) + 1) ((p1 + p3) / 2) (((p1 + p3) / 2) + p2) p1 p2 ((((p1 + p3) / 2) + p2) - 1)).2.1 - (Q0 n0 p0 p1 p2 p3 ((Int.toNat (p2 - p1)) + 1) ((p1 + p3) / 2) (((p1 + p3) / 2) + p2) p1 p2 ((((p1 + p3) / 2) + p2) - 1)).2.2) < p3)) then
        (Q6 k n0 p0 (Q0 n0 p0 p1 p2 p3 ((Int.toNat (p2 - p1)) + 1) ((p1 + p3) / 2) (((p1 + p3) / 2) + p2) p1 p2 ((((p1 + p3) / 2) + p2) - 1)).1 ((Q0 n0 p0 p1 p2 p3 ((Int.toNat (p2 - p1)) + 1) ((p1 + p3) / 2) (((p1 + p3) / 2) + p2) p1 p2 ((((p1 + p3) / 2) + p2) - 1)).2.1 - (Q0 n0 p0 p1 p2 p3 ((Int.toNat (p2 - p1)) + 1) ((p1 + p3) / 2) (((p1 + p3) / 2) + p2) p1 p2 ((((p1 + p3) / 2) + p2) - 1)).2.2) p3)
       else
        p0
      else
       p0
def Q22 (n0 : Nat) (p0 : List Fld) (p1 : Int) (p2 : Int) (p3 : Int) : En := .call 67 [.ms 0 6 0 n0, .int .i64 p1, .int .i64 p2, .int .i64 p3, .fn 43 [] []] [⟨6, 0, false, (Fld.rows p0).flatten⟩]
def Qpm (k : Nat) (n0 : Nat) (p0 : List Fld) (p1 : Int) (p2 : Int) (p3 : Int) : Rs := .ret (.tup []) [⟨6, 0, false, (Fld.rows (Q6 k n0 p0 p1 p2 p3)).flatten⟩]
theorem Qc : ∀ (k : Nat) (n0 : Nat) (p0 : List Fld) (p1 : Int) (p2 : Int) (p3 : Int), List.length p0 = n0 → List.length (Q6 k n0 p0 p1 p2 p3) = n0
 | 0, _, _, _, _, _, hn => by rw [Q6]; exact hn
 | k + 1, n0, p0, p1, p2, p3, hn => by
  rw [Q6]
  cases h0 : ((p2 - p1) == 1) with
  | true =>
   obtain ⟨R2, eR2⟩ : ∃ R, (Q2k n0 p0 p1 p2 p3 ((Int.toNat (p3 - p2)) + 1) p2 p3) = R := ⟨_, rfl⟩
   rw [eR2]
   have hz2_0 : List.length (Q2y n0 ((Int.toNat (R2 - p1)) + 1) R2 p0 p1) = n0 := Q8f n0 ((Int.toNat (R2 - p1)) + 1) R2 p0 p1 hn
   obtain ⟨R3, eR3⟩ : ∃ R, (Q2y n0 ((Int.toNat (R2 - p1)) + 1) R2 p0 p1) = R := ⟨_, rfl⟩
   rw [eR3] at hz2_0 ⊢
   exact hz2_0
  | false =>
   cases h1 : ((p3 - p2) == 1) with
   | true =>
    obtain ⟨R4, eR4⟩ : ∃ R, (Q2h n0 p0 p1 p2 ((Int.toNat (p2 - p1)) + 1) p2 p1) = R := ⟨_, rfl⟩
    rw [eR4]
    have hz3_0 : List.length (Q2v n0 ((Int.toNat (p2 - R4)) + 1) R4 p0 p2) = n0 := Q8x n0 ((Int.toNat (p2 - R4)) + 1) R4 p0 p2 hn
    obtain ⟨R5, eR5⟩ : ∃ R, (Q2v n0 ((Int.toNat (p2 - R4)) + 1) R4 p0 p2) = R := ⟨_, rfl⟩
    rw [eR5] at hz3_0 ⊢
    exact hz3_0
   | false =>
    cases h2 : (decide (((p1 + p3) / 2) < p2)) with
    | true =>
     obtain ⟨R6, eR6⟩ : ∃ R, (Q0 n0 p0 p1 p2 p3 ((Int.toNat (((p1 + p3) / 2) - ((((p1 + p3) / 2) + p2) - p3))) + 1) ((p1 + p3) / 2) (((p1 + p3) / 2) + p2) ((((p1 + p3) / 2) + p2) - p3) ((p1 + p3) / 2) ((((p1 + p3) / 2) + p2) - 1)) = R := ⟨_, rfl⟩
     rw [eR6]
     cases h3 : (decide (R6.2.2 < p2)) with
     | true =>
      cases h4 : (decide (p2 < (R6.2.1 - R6.2.2))) with
      | true =>
       cases h5 : (decide (p1 < R6.2.2)) with
       | true =>
        cases h6 : (decide (R6.2.2 < R6.1)) with
        | true =>
         cases h7 : (decide (R6.1 < (R6.2.1 - R6.2.2))) with
         | true =>
          cases h8 : (decide ((R6.2.1 - R6.2.2) < p3)) with
          | true =>
           exact (Qc k n0 (Q6 k n0 (Qb n0 p0 R6.2.2 p2 (R6.2.1 - R6.2.2)) p1 R6.2.2 R6.1) R6.1 (R6.2.1 - R6.2.2) p3 (Qc k n0 (Qb n0 p0 R6.2.2 p2 (R6.2.1 - R6.2.2)) p1 R6.2.2 R6.1 (Qh n0 p0 R6.2.2 p2 (R6.2.1 - R6.2.2) hn)))
          | false =>
           exact (Qc k n0 (Qb n0 p0 R6.2.2 p2 (R6.2.1 - R6.2.2)) p1 R6.2.2 R6.1 (Qh n0 p0 R6.2.2 p2 (R6.2.1 - R6.2.2) hn))
         | false =>
          exact (Qc k n0 (Qb n0 p0 R6.2.2 p2 (R6.2.1 - R6.2.2)) p1 R6.2.2 R6.1 (Qh n0 p0 R6.2.2 p2 (R6.2.1 - R6.2.2) hn))
        | false =>
         cases h7 : (decide (R6.1 < (R6.2.1 - R6.2.2))) with
         | true =>
          cases h8 : (decide ((R6.2.1 - R6.2.2) < p3)) with
          | true =>
           exact (Qc k n0 (Qb n0 p0 R6.2.2 p2 (R6.2.1 - R6.2.2)) R6.1 (R6.2.1 - R6.2.2) p3 (Qh n0 p0 R6.2.2 p2 (R6.2.1 - R6.2.2) hn))
          | false =>
           exact (Qh n0 p0 R6.2.2 p2 (R6.2.1 - R6.2.2) hn)
         | false =>
          exact (Qh n0 p0 R6.2.2 p2 (R6.2.1 - R6.2.2) hn)
       | false =>
        cases h6 : (decide (R6.1 < (R6.2.1 - R6.2.2))) with
        | true =>
         cases h7 : (decide ((R6.2.1 - R6.2.2) < p3)) with
         | true =>
          exact (Qc k n0 (Qb n0 p0 R6.2.2 p2 (R6.2.1 - R6.2.2)) R6.1 (R6.2.1 - R6.2.2) p3 (Qh n0 p0 R6.2.2 p2 (R6.2.1 - R6.2.2) hn))
         | false =>
          exact (Qh n0 p0 R6.2.2 p2 (R6.2.1 - R6.2.2) hn)
        | false =>
         exact (Qh n0 p0 R6.2.2 p2 (R6.2.1 - R6.2.2) hn)
      | false =>
       cases h5 : (decide (p1 < R6.2.2)) with
       | true =>
        cases h6 : (decide (R6.2.2 < R6.1)) with
        | true =>
         cases h7 : (decide (R6.1 < (R6.2.1 - R6.2.2))) with
         | true =>
          cases h8 : (decide ((R6.2.1 - R6.2.2) < p3)) with
          | true =>
           exact (Qc k n0 (Q6 k n0 p0 p1 R6.2.2 R6.1) R6.1 (R6.2.1 - R6.2.2) p3 (Qc k n0 p0 p1 R6.2.2 R6.1 hn))
          | false =>
           exact (Qc k n0 p0 p1 R6.2.2 R6.1 hn)
         | false =>
          exact (Qc k n0 p0 p1 R6.2.2 R6.1 hn)
        | false =>
         cases h7 : (decide (R6.1 < (R6.2.1 - R6.2.2))) with
         | true =>
          cases h8 : (decide ((R6.2.1 - R6.2.2) < p3)) with
          | true =>
           exact (Qc k n0 p0 R6.1 (R6.2.1 - R6.2.2) p3 hn)
          | false =>
           exact hn
         | false =>
          exact hn
       | false =>
        cases h6 : (decide (R6.1 < (R6.2.1 - R6.2.2))) with
        | true =>
         cases h7 : (decide ((R6.2.1 - R6.2.2) < p3)) with
         | true =>
          exact (Qc k n0 p0 R6.1 (R6.2.1 - R6.2.2) p3 hn)
         | false =>
          exact hn
        | false =>
         exact hn
     | false =>
      cases h4 : (decide (p1 < R6.2.2)) with
      | true =>
       cases h5 : (decide (R6.2.2 < R6.1)) with
       | true =>
        cases h6 : (decide (R6.1 < (R6.2.1 - R6.2.2))) with
        | true =>
         cases h7 : (decide ((R6.2.1 - R6.2.2) < p3)) with
         | true =>
          exact (Qc k n0 (Q6 k n0 p0 p1 R6.2.2 R6.1) R6.1 (R6.2.1 - R6.2.2) p3 (Qc k n0 p0 p1 R6.2.2 R6.1 hn))
         | false =>
          exact (Qc k n0 p0 p1 R6.2.2 R6.1 hn)
        | false =>
         exact (Qc k n0 p0 p1 R6.2.2 R6.1 hn)
       | false =>
        cases h6 : (decide (R6.1 < (R6.2.1 - R6.2.2))) with
        | true =>
         cases h7 : (decide ((R6.2.1 - R6.2.2) < p3)) with
         | true =>
          exact (Qc k n0 p0 R6.1 (R6.2.1 - R6.2.2) p3 hn)
         | false =>
          exact hn
        | false =>
         exact hn
      | false =>
       cases h5 : (decide (R6.1 < (R6.2.1 - R6.2.2))) with
       | true =>
        cases h6 : (decide ((R6.2.1 - R6.2.2) < p3)) with
        | true =>
         exact (Qc k n0 p0 R6.1 (R6.2.1 - R6.2.2) p3 hn)
        | false =>
         exact hn
       | false =>
        exact hn
    | false =>
     obtain ⟨R7, eR7⟩ : ∃ R, (Q0 n0 p0 p1 p2 p3 ((Int.toNat (p2 - p1)) + 1) ((p1 + p3) / 2) (((p1 + p3) / 2) + p2) p1 p2 ((((p1 + p3) / 2) + p2) - 1)) = R := ⟨_, rfl⟩
     rw [eR7]
     cases h3 : (decide (R7.2.2 < p2)) with
     | true =>
      cases h4 : (decide (p2 < (R7.2.1 - R7.2.2))) with
      | true =>
       cases h5 : (decide (p1 < R7.2.2)) with
       | true =>
        cases h6 : (decide (R7.2.2 < R7.1)) with
        | true =>
         cases h7 : (decide (R7.1 < (R7.2.1 - R7.2.2))) with
         | true =>
          cases h8 : (decide ((R7.2.1 - R7.2.2) < p3)) with
          | true =>
           exact (Qc k n0 (Q6 k n0 (Qb n0 p0 R7.2.2 p2 (R7.2.1 - R7.2.2)) p1 R7.2.2 R7.1) R7.1 (R7.2.1 - R7.2.2) p3 (Qc k n0 (Qb n0 p0 R7.2.2 p2 (R7.2.1 - R7.2.2)) p1 R7.2.2 R7.1 (Qh n0 p0 R7.2.2 p2 (R7.2.1 - R7.2.2) hn)))
          | false =>
           exact (Qc k n0 (Qb n0 p0 R7.2.2 p2 (R7.2.1 - R7.2.2)) p1 R7.2.2 R7.1 (Qh n0 p0 R7.2.2 p2 (R7.2.1 - R7.2.2) hn))
         | false =>
          exact (Qc k n0 (Qb n0 p0 R7.2.2 p2 (R7.2.1 - R7.2.2)) p1 R7.2.2 R7.1 (Qh n0 p0 R7.2.2 p2 (R7.2.1 - R7.2.2) hn))
        | false =>
         cases h7 : (decide (R7.1 < (R7.2.1 - R7.2.2))) with
         | true =>
          cases h8 : (decide ((R7.2.1 - R7.2.2) < p3)) with
          | true =>
           exact (Qc k n0 (Qb n0 p0 R7.2.2 p2 (R7.2.1 - R7.2.2)) R7.1 (R7.2.1 - R7.2.2) p3 (Qh n0 p0 R7.2.2 p2 (R7.2.1 - R7.2.2) hn))
          | false =>
           exact (Qh n0 p0 R7.2.2 p2 (R7.2.1 - R7.2.2) hn)
         | false =>
          exact (Qh n0 p0 R7.2.2 p2 (R7.2.1 - R7.2.2) hn)
       | false =>
        cases h6 : (decide (R7.1 < (R7.2.1 - R7.2.2))) with
        | true =>
         cases h7 : (decide ((R7.2.1 - R7.2.2) < p3)) with
         | true =>
          exact (Qc k n0 (Qb n0 p0 R7.2.2 p2 (R7.2.1 - R7.2.2)) R7.1 (R7.2.1 - R7.2.2) p3 (Qh n0 p0 R7.2.2 p2 (R7.2.1 - R7.2.2) hn))
         | false =>
          exact (Qh n0 p0 R7.2.2 p2 (R7.2.1 - R7.2.2) hn)
        | false =>
         exact (Qh n0 p0 R7.2.2 p2 (R7.2.1 - R7.2.2) hn)
      | false =>
       cases h5 : (decide (p1 < R7.2.2)) with
       | true =>
        cases h6 : (decide (R7.2.2 < R7.1)) with
        | true =>
         cases h7 : (decide (R7.1 < (R7.2.1 - R7.2.2))) with
         | true =>
          cases h8 : (decide ((R7.2.1 - R7.2.2) < p3)) with
          | true =>
           exact (Qc k n0 (Q6 k n0 p0 p1 R7.2.2 R7.1) R7.1 (R7.2.1 - R7.2.2) p3 (Qc k n0 p0 p1 R7.2.2 R7.1 hn))
          | false =>
           exact (Qc k n0 p0 p1 R7.2.2 R7.1 hn)
         | false =>
          exact (Qc k n0 p0 p1 R7.2.2 R7.1 hn)
        | false =>
         cases h7 : (decide (R7.1 < (R7.2.1 - R7.2.2))) with
         | true =>
          cases h8 : (decide ((R7.2.1 - R7.2.2) < p3)) with
          | true =>
           exact (Qc k n0 p0 R7.1 (R7.2.1 - R7.2.2) p3 hn)
          | false =>
           exact hn
         | false =>
          exact hn
       | false =>
        cases h6 : (decide (R7.1 < (R7.2.1 - R7.2.2))) with
        | true =>
         cases h7 : (decide ((R7.2.1 - R7.2.2) < p3)) with
         | true =>
          exact (Qc k n0 p0 R7.1 (R7.2.1 - R7.2.2) p3 hn)
         | false =>
          exact hn
        | false =>
         exact hn
     | false =>
      cases h4 : (decide (p1 < R7.2.2)) with
      | true =>
       cases h5 : (decide (R7.2.2 < R7.1)) with
       | true =>
        cases h6 : (decide (R7.1 < (R7.2.1 - R7.2.2))) with
        | true =>
         cases h7 : (decide ((R7.2.1 - R7.2.2) < p3)) with
         | true =>
          exact (Qc k n0 (Q6 k n0 p0 p1 R7.2.2 R7.1) R7.1 (R7.2.1 - R7.2.2) p3 (Qc k n0 p0 p1 R7.2.2 R7.1 hn))
         | false =>
          exact (Qc k n0 p0 p1 R7.2.2 R7.1 hn)
        | false =>
         exact (Qc k n0 p0 p1 R7.2.2 R7.1 hn)
       | false =>
        cases h6 : (decide (R7.1 < (R7.2.1 - R7.2.2))) with
        | true =>
         cases h7 : (decide ((R7.2.1 - R7.2.2) < p3)) with
         | true =>
          exact (Qc k n0 p0 R7.1 (R7.2.1 - R7.2.2) p3 hn)
         | false =>
          exact hn
        | false =>
         exact hn
      | false =>
       cases h5 : (decide (R7.1 < (R7.2.1 - R7.2.2))) with
       | true =>
        cases h6 : (decide ((R7.2.1 - R7.2.2) < p3)) with
        | true =>
         exact (Qc k n0 p0 R7.1 (R7.2.1 - R7.2.2) p3 hn)
        | false =>
         exact hn
       | false =>
        exact hn
abbrev Q1o (k : Nat) : Prop := ∀ (n0 : Nat) (p0 : List Fld) (p1 : Int) (p2 : Int) (p3 : Int), List.length p0 = n0 → 0 ≤ p1 ∧ p1 < p2 ∧ p2 < p3 ∧ p3 ≤ n0 ∧ (n0 : Int) ≤ 1152921504606846976 → Int.toNat (p3 - p1) < k → Q7 G (Q22 n0 p0 p1 p2 p3) (Qpm k n0 p0 p1 p2 p3)
theorem Qt9 (k : Nat) (_ih : Q1o k) (n0 : Nat) (p0 : List Fld) (p1 : Int) (p2 : Int) (p3 : Int) (_hn : List.length p0 = n0) (_hq0 : 0 ≤ p1 ∧ p1 < p2 ∧ p2 < p3 ∧ p3 ≤ n0 ∧ (n0 : Int) ≤ 1152921504606846976) (_hm : Int.toNat (p3 - p1) < k + 1) (h0 : ((p2 - p1) == 1) = true) (y2_0 : Int) (_hy1 : p2 ≤ y2_0 ∧ y2_0 ≤ p3) (z1 : Nat → PV) (zo1 : Nat → List PV) (hl1 : Q7 G (Q60 n0 p0 p1 p2 p3 p2 p3) (.st (.exit 0) (Qao n0 p0 p1 p2 p3 y2_0 z1 zo1))) (y3_0 : List Fld) (_hz2_0 : List.length y3_0 = n0) (z2 : Nat → PV) (zo2 : Nat → List PV) (hl2 : Q7 G (Qah n0 y2_0 p0 p1) (.st (.exit 2) (Qaw n0 y3_0 z2 zo2))) : Q7 G (Q22 n0 p0 p1 p2 p3) (.ret (.tup []) [⟨6, 0, false, (Fld.rows (y3_0)).flatten⟩]) := by
 have e0 := eq_of_beq h0
 exact Q9 (fn := Ir.K1f) rfl (vk1 (Fld.Q5 p0 6 rfl)) [hP 2 (w_ok (p2 - p1) (by omega)), hB 0 h0, hS 0 false (Fld.Q5 p0 6 rfl), hS 0 false (Fld.Q5 y3_0 6 rfl)] [aV [(0, Fld.rows p0)] hl1, aV [(0, Fld.rows y3_0)] hl2] (by kernel_rfl)
theorem Qtm (k : Nat) (_ih : Q1o k) (n0 : Nat) (p0 : List Fld) (p1 : Int) (p2 : Int) (p3 : Int) (hn : List.length p0 = n0) (hq0 : 0 ≤ p1 ∧ p1 < p2 ∧ p2 < p3 ∧ p3 ≤ n0 ∧ (n0 : Int) ≤ 1152921504606846976) (_hm : Int.toNat (p3 - p1) < k + 1) (h0 : ((p2 - p1) == 1) = false) (h1 : ((p3 - p2) == 1) = true) (y4_0 : Int) (_hy2 : p1 ≤ y4_0 ∧ y4_0 ≤ p2) (z2 : Nat → PV) (zo2 : Nat → List PV) (hl2 : Q7 G (Q62 n0 p0 p1 p2 p2 p1) (.st (.exit 4) (Qas n0 p0 p1 p2 y4_0 z2 zo2))) (y5_0 : List Fld) (hz3_0 : List.length y5_0 = n0) (z3 : Nat → PV) (zo3 : Nat → List PV) (hl3 : Q7 G (Q9v n0 y4_0 p0 p2) (.st (.exit 6) (Qb5 n0 y5_0 z3 zo3))) : Q7 G (Q22 n0 p0 p1 p2 p3) (.ret (.tup []) [⟨6, 0, false, (Fld.rows (y5_0)).flatten⟩]) := by
 have e0 := beq_eq_false_iff_ne.1 h0; have e1 := eq_of_beq h1
 exact Q9 (fn := Ir.K1f) rfl (vk1 (Fld.Q5 p0 6 rfl)) [hP 2 (w_ok (p2 - p1) (by omega)), hB 0 h0, hP 2 (w_ok (p3 - p2) (by omega)), hB 0 h1, hS 0 false (Fld.Q5 p0 6 rfl), hS 0 false (Fld.Q5 y5_0 6 rfl)] [aV [(0, Fld.rows p0)] hl2, aV [(0, Fld.rows y5_0)] hl3] (by kernel_rfl)
theorem Qte (k : Nat) (ih : Q1o k) (n0 : Nat) (p0 : List Fld) (p1 : Int) (p2 : Int) (p3 : Int) (hn : List.length p0 = n0) (hq0 : 0 ≤ p1 ∧ p1 < p2 ∧ p2 < p3 ∧ p3 ≤ n0 ∧ (n0 : Int) ≤ 1152921504606846976) (hm : Int.toNat (p3 - p1) < k + 1) (h0 : ((p2 - p1) == 1) = false) (h1 : ((p3 - p2) == 1) = false) (h2 : (decide (((p1 + p3) / 2) < p2)) = true) (y6_0 : Int) (y6_1 : Int) (y6_2 : Int) (hy3 : y6_0 = ((p1 + p3) / 2) ∧ y6_1 = (((p1 + p3) / 2) + p2) ∧ p1 ≤ y6_2 ∧ y6_2 ≤ p2 ∧ y6_1 - y6_2 ≤ p3) (z3 : Nat → PV) (zo3 : Nat → List PV) (hl3 : Q7 G (Q24 n0 p0 p1 p2 p3 ((p1 + p3) / 2) (((p1 + p3) / 2) + p2) ((((p1 + p3) / 2) + p2) - p3) ((p1 + p3) / 2) ((((p1 + p3) / 2) + p2) - 1)) (.st (.exit 8) (Q1w n0 p0 p1 p2 p3 y6_0 y6_1 y6_2 z3 zo3))) (h3 : (decide (y6_2 < p2)) = true) (h4 : (decide (p2 < (y6_1 - y6_2))) = true) (h5 : (decide (p1 < y6_2)) = true) : Q7 G (Q22 n0 p0 p1 p2 p3) (.ret (.tup []) [⟨6, 0, false, (Fld.rows (bif (decide (y6_2 < y6_0)) then
   bif (decide (y6_0 < (y6_1 - y6_2))) then
     bif (decide ((y6_1 - y6_2) < p3)) then
      (Q6 k n0 (Q6 k n0 (Qb n0 p0 y6_2 p2 (y6_1 - y6_2)) p1 y6_2 y6_0) y6_0 (y6_1 - y6_2) p3)
     else
      (Q6 k n0 (Qb n0 p0 y6_2 p2 (y6_1 - y6_2)) p1 y6_2 y6_0)
   else
     (Q6 k n0 (Qb n0 p0 y6_2 p2 (y6_1 - y6_2)) p1 y6_2 y6_0)
 else
   bif (decide (y6_0 < (y6_1 - y6_2))) then
     bif (decide ((y6_1 - y6_2) < p3)) then
      (Q6 k n0 (Qb n0 p0 y6_2 p2 (y6_1 - y6_2)) y6_0 (y6_1 - y6_2) p3)
     else
      (Qb n0 p0 y6_2 p2 (y6_1 - y6_2))
   else
     (Qb n0 p0 y6_2 p2 (y6_1 - y6_2)))).flatten⟩]) := by
 have e0 := beq_eq_false_iff_ne.1 h0; have e1 := beq_eq_false_iff_ne.1 h1; have e2 := of_decide_eq_true h2; have e3 := of_decide_eq_true h3; have e4 := of_decide_eq_true h4; have e5 := of_decide_eq_true h5
 cases h6 : (decide (y6_2 < y6_0)) with
 | true =>
  have e6 := of_decide_eq_true h6
  cases h7 : (decide (y6_0 < (y6_1 - y6_2))) with
  | true =>
   have e7 := of_decide_eq_true h7
   cases h8 : (decide ((y6_1 - y6_2) < p3)) with
   | true =>
    have e8 := of_decide_eq_true h8
    exact Q9 (fn := Ir.K1f) rfl (vk1 (Fld.Q5 p0 6 rfl)) [hP 2 (w_ok (p2 - p1) (by omega)), hB 0 h0, hP 2 (w_ok (p3 - p2) (by omega)), hB 0 h1, hP 2 (w_ok (p1 + p3) (by omega)), hP 0 (Q12 (p1 + p3) (by omega)), hP 0 (Q1q (p1 + p3)), hP 0 (Q13 ((p1 + p3) / 2) (by omega)), hP 3 (w_ok (((p1 + p3) / 2) + p2) (by omega)), hB 5 h2, hP 2 (w_ok ((((p1 + p3) / 2) + p2) - p3) (by omega)), hP 4 (w_ok ((((p1 + p3) / 2) + p2) - 1) (by omega)), hS 0 false (Fld.Q5 p0 6 rfl), hP 3 (w_ok (y6_1 - y6_2) (by have g0 := hy3; omega)), hB 3 h3, hB 3 h4, hQ (Fld.Q5 (Qb n0 p0 y6_2 p2 (y6_1 - y6_2)) 6 rfl), hB 9 h5, hB 3 h6, hQ (Fld.Q5 (Q6 k n0 (Qb n0 p0 y6_2 p2 (y6_1 - y6_2)) p1 y6_2 y6_0) 6 rfl), hB 9 h7, hB 3 h8, hQ (Fld.Q5 (Q6 k n0 (Q6 k n0 (Qb n0 p0 y6_2 p2 (y6_1 - y6_2)) p1 y6_2 y6_0) y6_0 (y6_1 - y6_2) p3) 6 rfl)] [aV [(0, Fld.rows p0)] hl3, aV [(0, Fld.rows (Qb n0 p0 y6_2 p2 (y6_1 - y6_2)))] (Q1s n0 p0 y6_2 p2 (y6_1 - y6_2) hn (by have g0 := hy3; omega)), aV [(0, Fld.rows (Q6 k n0 (Qb n0 p0 y6_2 p2 (y6_1 - y6_2)) p1 y6_2 y6_0))] (ih n0 (Qb n0 p0 y6_2 p2 (y6_1 - y6_2)) p1 y6_2 y6_0 (Qh n0 p0 y6_2 p2 (y6_1 - y6_2) hn) (by have f0 := (Qh n0 p0 y6_2 p2 (y6_1 - y6_2) hn); have g0 := hy3; omega) (by have f0 := (Qh n0 p0 y6_2 p2 (y6_1 - y6_2) hn); have g0 := hy3; omega)), aV [(0, Fld.rows (Q6 k n0 (Q6 k n0 (Qb n0 p0 y6_2 p2 (y6_1 - y6_2)) p1 y6_2 y6_0) y6_0 (y6_1 - y6_2) p3))] (ih n0 (Q6 k n0 (Qb n0 p0 y6_2 p2 (y6_1 - y6_2)) p1 y6_2 y6_0) y6_0 (y6_1 - y6_2) p3 (Qc k n0 (Qb n0 p0 y6_2 p2 (y6_1 - y6_2)) p1 y6_2 y6_0 (Qh n0 p0 y6_2 p2 (y6_1 - y6_2) hn)) (by have f0 := (Qc k n0 (Qb n0 p0 y6_2 p2 (y6_1 - y6_2)) p1 y6_2 y6_0 (Qh n0 p0 y6_2 p2 (y6_1 - y6_2) hn)); have g0 := hy3; omega) (by have f0 := (Qc k n0 (Qb n0 p0 y6_2 p2 (y6_1 - y6_2)) p1 y6_2 y6_0 (Qh n0 p0 y6_2 p2 (y6_1 - y6_2) hn)); have g0 := hy3; omega))] (by kernel_rfl)
   | false =>
    have e8 := of_decide_eq_false h8
    exact Q9 (fn := Ir.K1f) rfl (vk1 (Fld.Q5 p0 6 rfl)) [hP 2 (w_ok (p2 - p1) (by omega)), hB 0 h0, hP 2 (w_ok (p3 - p2) (by omega)), hB 0 h1, hP 2 (w_ok (p1 + p3) (by omega)), hP 0 (Q12 (p1 + p3) (by omega)), hP 0 (Q1q (p1 + p3)), hP 0 (Q13 ((p1 + p3) / 2) (by omega)), hP 3 (w_ok (((p1 + p3) / 2) + p2) (by omega)), hB 5 h2, hP 2 (w_ok ((((p1 + p3) / 2) + p2) - p3) (by omega)), hP 4 (w_ok ((((p1 + p3) / 2) + p2) - 1) (by omega)), hS 0 false (Fld.Q5 p0 6 rfl), hP 3 (w_ok (y6_1 - y6_2) (by have g0 := hy3; omega)), hB 3 h3, hB 3 h4, hQ (Fld.Q5 (Qb n0 p0 y6_2 p2 (y6_1 - y6_2)) 6 rfl), hB 9 h5, hB 3 h6, hQ (Fld.Q5 (Q6 k n0 (Qb n0 p0 y6_2 p2 (y6_1 - y6_2)) p1 y6_2 y6_0) 6 rfl), hB 9 h7, hB 3 h8] [aV [(0, Fld.rows p0)] hl3, aV [(0, Fld.rows (Qb n0 p0 y6_2 p2 (y6_1 - y6_2)))] (Q1s n0 p0 y6_2 p2 (y6_1 - y6_2) hn (by have g0 := hy3; omega)), aV [(0, Fld.rows (Q6 k n0 (Qb n0 p0 y6_2 p2 (y6_1 - y6_2)) p1 y6_2 y6_0))] (ih n0 (Qb n0 p0 y6_2 p2 (y6_1 - y6_2)) p1 y6_2 y6_0 (Qh n0 p0 y6_2 p2 (y6_1 - y6_2) hn) (by have f0 := (Qh n0 p0 y6_2 p2 (y6_1 - y6_2) hn); have g0 := hy3; omega) (by have f0 := (Qh n0 p0 y6_2 p2 (y6_1 - y6_2) hn); have g0 := hy3; omega))] (by kernel_rfl)
  | false =>
   have e7 := of_decide_eq_false h7
   exact Q9 (fn := Ir.K1f) rfl (vk1 (Fld.Q5 p0 6 rfl)) [hP 2 (w_ok (p2 - p1) (by omega)), hB 0 h0, hP 2 (w_ok (p3 - p2) (by omega)), hB 0 h1, hP 2 (w_ok (p1 + p3) (by omega)), hP 0 (Q12 (p1 + p3) (by omega)), hP 0 (Q1q (p1 + p3)), hP 0 (Q13 ((p1 + p3) / 2) (by omega)), hP 3 (w_ok (((p1 + p3) / 2) + p2) (by omega)), hB 5 h2, hP 2 (w_ok ((((p1 + p3) / 2) + p2) - p3) (by omega)), hP 4 (w_ok ((((p1 + p3) / 2) + p2) - 1) (by omega)), hS 0 false (Fld.Q5 p0 6 rfl), hP 3 (w_ok (y6_1 - y6_2) (by have g0 := hy3; omega)), hB 3 h3, hB 3 h4, hQ (Fld.Q5 (Qb n0 p0 y6_2 p2 (y6_1 - y6_2)) 6 rfl), hB 9 h5, hB 3 h6, hQ (Fld.Q5 (Q6 k n0 (Qb n0 p0 y6_2 p2 (y6_1 - y6_2)) p1 y6_2 y6_0) 6 rfl), hB 9 h7] [aV [(0, Fld.rows p0)] hl3, aV [(0, Fld.rows (Qb n0 p0 y6_2 p2 (y6_1 - y6_2)))] (Q1s n0 p0 y6_2 p2 (y6_1 - y6_2) hn (by have g0 := hy3; omega)), aV [(0, Fld.rows (Q6 k n0 (Qb n0 p0 y6_2 p2 (y6_1 - y6_2)) p1 y6_2 y6_0))] (ih n0 (Qb n0 p0 y6_2 p2 (y6_1 - y6_2)) p1 y6_2 y6_0 (Qh n0 p0 y6_2 p2 (y6_1 - y6_2) hn) (by have f0 := (Qh n0 p0 y6_2 p2 (y6_1 - y6_2) hn); have g0 := hy3; omega) (by have f0 := (Qh n0 p0 y6_2 p2 (y6_1 - y6_2) hn); have g0 := hy3; omega))] (by kernel_rfl)
 | false =>
  have e6 := of_decide_eq_false h6
  cases h7 : (decide (y6_0 < (y6_1 - y6_2))) with
  | true =>
   have e7 := of_decide_eq_true h7
   cases h8 : (decide ((y6_1 - y6_2) < p3)) with
   | true =>
    have e8 := of_decide_eq_true h8
    exact Q9 (fn := Ir.K1f) rfl (vk1 (Fld.Q5 p0 6 rfl)) [hP 2 (w_ok (p2 - p1) (by omega)), hB 0 h0, hP 2 (w_ok (p3 - p2) (by omega)), hB 0 h1, hP 2 (w_ok (p1 + p3) (by omega)), hP 0 (Q12 (p1 + p3) (by omega)), hP 0 (Q1q (p1 + p3)), hP 0 (Q13 ((p1 + p3) / 2) (by omega)), hP 3 (w_ok (((p1 + p3) / 2) + p2) (by omega)), hB 5 h2, hP 2 (w_ok ((((p1 + p3) / 2) + p2) - p3) (by omega)), hP 4 (w_ok ((((p1 + p3) / 2) + p2) - 1) (by omega)), hS 0 false (Fld.Q5 p0 6 rfl), hP 3 (w_ok (y6_1 - y6_2) (by have g0 := hy3; omega)), hB 3 h3, hB 3 h4, hQ (Fld.Q5 (Qb n0 p0 y6_2 p2 (y6_1 - y6_2)) 6 rfl), hB 9 h5, hB 3 h6, hB 3 h7, hB 3 h8, hQ (Fld.Q5 (Q6 k n0 (Qb n0 p0 y6_2 p2 (y6_1 - y6_2)) y6_0 (y6_1 - y6_2) p3) 6 rfl)] [aV [(0, Fld.rows p0)] hl3, aV [(0, Fld.rows (Qb n0 p0 y6_2 p2 (y6_1 - y6_2)))] (Q1s n0 p0 y6_2 p2 (y6_1 - y6_2) hn (by have g0 := hy3; omega)), aV [(0, Fld.rows (Q6 k n0 (Qb n0 p0 y6_2 p2 (y6_1 - y6_2)) y6_0 (y6_1 - y6_2) p3))] (ih n0 (Qb n0 p0 y6_2 p2 (y6_1 - y6_2)) y6_0 (y6_1 - y6_2) p3 (Qh n0 p0 y6_2 p2 (y6_1 - y6_2) hn) (by have f0 := (Qh n0 p0 y6_2 p2 (y6_1 - y6_2) hn); have g0 := hy3; omega) (by have f0 := (Qh n0 p0 y6_2 p2 (y6_1 - y6_2) hn); have g0 := hy3; omega))] (by kernel_rfl)
   | false =>
    have e8 := of_decide_eq_false h8
    exact Q9 (fn := Ir.K1f) rfl (vk1 (Fld.Q5 p0 6 rfl)) [hP 2 (w_ok (p2 - p1) (by omega)), hB 0 h0, hP 2 (w_ok (p3 - p2) (by omega)), hB 0 h1, hP 2 (w_ok (p1 + p3) (by omega)), hP 0 (Q12 (p1 + p3) (by omega)), hP 0 (Q1q (p1 + p3)), hP 0 (Q13 ((p1 + p3) / 2) (by omega)), hP 3 (w_ok (((p1 + p3) / 2) + p2) (by omega)), hB 5 h2, hP 2 (w_ok ((((p1 + p3) / 2) + p2) - p3) (by omega)), hP 4 (w_ok ((((p1 + p3) / 2) + p2) - 1) (by omega)), hS 0 false (Fld.Q5 p0 6 rfl), hP 3 (w_ok (y6_1 - y6_2) (by have g0 := hy3; omega)), hB 3 h3, hB 3 h4, hQ (Fld.Q5 (Qb n0 p0 y6_2 p2 (y6_1 - y6_2)) 6 rfl), hB 9 h5, hB 3 h6, hB 3 h7, hB 3 h8] [aV [(0, Fld.rows p0)] hl3, aV [(0, Fld.rows (Qb n0 p0 y6_2 p2 (y6_1 - y6_2)))] (Q1s n0 p0 y6_2 p2 (y6_1 - y6_2) hn (by have g0 := hy3; omega))] (by kernel_rfl)
  | false =>
   have e7 := of_decide_eq_false h7
   exact Q9 (fn := Ir.K1f) rfl (vk1 (Fld.Q5 p0 6 rfl)) [hP 2 (w_ok (p2 - p1) (by omega)), hB 0 h0, hP 2 (w_ok (p3 - p2) (by omega)), hB 0 h1, hP 2 (w_ok (p1 + p3) (by omega)), hP 0 (Q12 (p1 + p3) (by omega)), hP 0 (Q1q (p1 + p3)), hP 0 (Q13 ((p1 + p3) / 2) (by omega)), hP 3 (w_ok (((p1 + p3) / 2) + p2) (by omega)), hB 5 h2, hP 2 (w_ok ((((p1 + p3) / 2) + p2) - p3) (by omega)), hP 4 (w_ok ((((p1 + p3) / 2) + p2) - 1) (by omega)), hS 0 false (Fld.Q5 p0 6 rfl), hP 3 (w_ok (y6_1 - y6_2) (by have g0 := hy3; omega)), hB 3 h3, hB 3 h4, hQ (Fld.Q5 (Qb n0 p0 y6_2 p2 (y6_1 - y6_2)) 6 rfl), hB 9 h5, hB 3 h6, hB 3 h7] [aV [(0, Fld.rows p0)] hl3, aV [(0, Fld.rows (Qb n0 p0 y6_2 p2 (y6_1 - y6_2)))] (Q1s n0 p0 y6_2 p2 (y6_1 - y6_2) hn (by have g0 := hy3; omega))] (by kernel_rfl)
theorem Qtg (k : Nat) (ih : Q1o k) (n0 : Nat) (p0 : List Fld) (p1 : Int) (p2 : Int) (p3 : Int) (hn : List.length p0 = n0) (hq0 : 0 ≤ p1 ∧ p1 < p2 ∧ p2 < p3 ∧ p3 ≤ n0 ∧ (n0 : Int) ≤ 1152921504606846976) (_hm : Int.toNat (p3 - p1) < k + 1) (h0 : ((p2 - p1) == 1) = false) (h1 : ((p3 - p2) == 1) = false) (h2 : (decide (((p1 + p3) / 2) < p2)) = true) (y6_0 : Int) (y6_1 : Int) (y6_2 : Int) (hy3 : y6_0 = ((p1 + p3) / 2) ∧ y6_1 = (((p1 + p3) / 2) + p2) ∧ p1 ≤ y6_2 ∧ y6_2 ≤ p2 ∧ y6_1 - y6_2 ≤ p3) (z3 : Nat → PV) (zo3 : Nat → List PV) (hl3 : Q7 G (Q24 n0 p0 p1 p2 p3 ((p1 + p3) / 2) (((p1 + p3) / 2) + p2) ((((p1 + p3) / 2) + p2) - p3) ((p1 + p3) / 2) ((((p1 + p3) / 2) + p2) - 1)) (.st (.exit 8) (Q1w n0 p0 p1 p2 p3 y6_0 y6_1 y6_2 z3 zo3))) (h3 : (decide (y6_2 < p2)) = true) (h4 : (decide (p2 < (y6_1 - y6_2))) = true) (h5 : (decide (p1 < y6_2)) = false) : Q7 G (Q22 n0 p0 p1 p2 p3) (.ret (.tup []) [⟨6, 0, false, (Fld.rows (bif (decide (y6_0 < (y6_1 - y6_2))) then
   bif (decide ((y6_1 - y6_2) < p3)) then
    (Q6 k n0 (Qb n0 p0 y6_2 p2 (y6_1 - y6_2)) y6_0 (y6_1 - y6_2) p3)
   else
    (Qb n0 p0 y6_2 p2 (y6_1 - y6_2))
 else
   (Qb n0 p0 y6_2 p2 (y6_1 - y6_2)))).flatten⟩]) := by
 have e0 := beq_eq_false_iff_ne.1 h0; have e1 := beq_eq_false_iff_ne.1 h1; have e2 := of_decide_eq_true h2; have e3 := of_decide_eq_true h3; have e4 := of_decide_eq_true h4; have e5 := of_decide_eq_false h5
 cases h6 : (decide (y6_0 < (y6_1 - y6_2))) with
 | true =>
  have e6 := of_decide_eq_true h6
  cases h7 : (decide ((y6_1 - y6_2) < p3)) with
  | true =>
   have e7 := of_decide_eq_true h7
   exact Q9 (fn := Ir.K1f) rfl (vk1 (Fld.Q5 p0 6 rfl)) [hP 2 (w_ok (p2 - p1) (by omega)), hB 0 h0, hP 2 (w_ok (p3 - p2) (by omega)), hB 0 h1, hP 2 (w_ok (p1 + p3) (by omega)), hP 0 (Q12 (p1 + p3) (by omega)), hP 0 (Q1q (p1 + p3)), hP 0 (Q13 ((p1 + p3) / 2) (by omega)), hP 3 (w_ok (((p1 + p3) / 2) + p2) (by omega)), hB 5 h2, hP 2 (w_ok ((((p1 + p3) / 2) + p2) - p3) (by omega)), hP 4 (w_ok ((((p1 + p3) / 2) + p2) - 1) (by omega)), hS 0 false (Fld.Q5 p0 6 rfl), hP 3 (w_ok (y6_1 - y6_2) (by have g0 := hy3; omega)), hB 3 h3, hB 3 h4, hQ (Fld.Q5 (Qb n0 p0 y6_2 p2 (y6_1 - y6_2)) 6 rfl), hB 9 h5, hB 7 h6, hB 3 h7, hQ (Fld.Q5 (Q6 k n0 (Qb n0 p0 y6_2 p2 (y6_1 - y6_2)) y6_0 (y6_1 - y6_2) p3) 6 rfl)] [aV [(0, Fld.rows p0)] hl3, aV [(0, Fld.rows (Qb n0 p0 y6_2 p2 (y6_1 - y6_2)))] (Q1s n0 p0 y6_2 p2 (y6_1 - y6_2) hn (by have g0 := hy3; omega)), aV [(0, Fld.rows (Q6 k n0 (Qb n0 p0 y6_2 p2 (y6_1 - y6_2)) y6_0 (y6_1 - y6_2) p3))] (ih n0 (Qb n0 p0 y6_2 p2 (y6_1 - y6_2)) y6_0 (y6_1 - y6_2) p3 (Qh n0 p0 y6_2 p2 (y6_1 - y6_2) hn) (by have f0 := (Qh n0 p0 y6_2 p2 (y6_1 - y6_2) hn); have g0 := hy3; omega) (by have f0 := (Qh n0 p0 y6_2 p2 (y6_1 - y6_2) hn); have g0 := hy3; omega))] (by kernel_rfl)
  | false =>
   have e7 := of_decide_eq_false h7
   exact Q9 (fn := Ir.K1f) rfl (vk1 (Fld.Q5 p0 6 rfl)) [hP 2 (w_ok (p2 - p1) (by omega)), hB 0 h0, hP 2 (w_ok (p3 - p2) (by omega)), hB 0 h1, hP 2 (w_ok (p1 + p3) (by omega)), hP 0 (Q12 (p1 + p3) (by omega)), hP 0 (Q1q (p1 + p3)), hP 0 (Q13 ((p1 + p3) / 2) (by omega)), hP 3 (w_ok (((p1 + p3) / 2) + p2) (by omega)), hB 5 h2, hP 2 (w_ok ((((p1 + p3) / 2) + p2) - p3) (by omega)), hP 4 (w_ok ((((p1 + p3) / 2) + p2) - 1) (by omega)), hS 0 false (Fld.Q5 p0 6 rfl), hP 3 (w_ok (y6_1 - y6_2) (by have g0 := hy3; omega)), hB 3 h3, hB 3 h4, hQ (Fld.Q5 (Qb n0 p0 y6_2 p2 (y6_1 - y6_2)) 6 rfl), hB 9 h5, hB 7 h6, hB 3 h7] [aV [(0, Fld.rows p0)] hl3, aV [(0, Fld.rows (Qb n0 p0 y6_2 p2 (y6_1 - y6_2)))] (Q1s n0 p0 y6_2 p2 (y6_1 - y6_2) hn (by have g0 := hy3; omega))] (by kernel_rfl)
 | false =>
  have e6 := of_decide_eq_false h6
  exact Q9 (fn := Ir.K1f) rfl (vk1 (Fld.Q5 p0 6 rfl)) [hP 2 (w_ok (p2 - p1) (by omega)), hB 0 h0, hP 2 (w_ok (p3 - p2) (by omega)), hB 0 h1, hP 2 (w_ok (p1 + p3) (by omega)), hP 0 (Q12 (p1 + p3) (by omega)), hP 0 (Q1q (p1 + p3)), hP 0 (Q13 ((p1 + p3) / 2) (by omega)), hP 3 (w_ok (((p1 + p3) / 2) + p2) (by omega)), hB 5 h2, hP 2 (w_ok ((((p1 + p3) / 2) + p2) - p3) (by omega)), hP 4 (w_ok ((((p1 + p3) / 2) + p2) - 1) (by omega)), hS 0 false (Fld.Q5 p0 6 rfl), hP 3 (w_ok (y6_1 - y6_2) (by have g0 := hy3; omega)), hB 3 h3, hB 3 h4, hQ (Fld.Q5 (Qb n0 p0 y6_2 p2 (y6_1 - y6_2)) 6 rfl), hB 9 h5, hB 7 h6] [aV [(0, Fld.rows p0)] hl3, aV [(0, Fld.rows (Qb n0 p0 y6_2 p2 (y6_1 - y6_2)))] (Q1s n0 p0 y6_2 p2 (y6_1 - y6_2) hn (by have g0 := hy3; omega))] (by kernel_rfl)
theorem Qta (k : Nat) (ih : Q1o k) (n0 : Nat) (p0 : List Fld) (p1 : Int) (p2 : Int) (p3 : Int) (hn : List.length p0 = n0) (hq0 : 0 ≤ p1 ∧ p1 < p2 ∧ p2 < p3 ∧ p3 ≤ n0 ∧ (n0 : Int) ≤ 1152921504606846976) (hm : Int.toNat (p3 - p1) < k + 1) (h0 : ((p2 - p1) == 1) = false) (h1 : ((p3 - p2) == 1) = false) (h2 : (decide (((p1 + p3) / 2) < p2)) = true) (y6_0 : Int) (y6_1 : Int) (y6_2 : Int) (hy3 : y6_0 = ((p1 + p3) / 2) ∧ y6_1 = (((p1 + p3) / 2) + p2) ∧ p1 ≤ y6_2 ∧ y6_2 ≤ p2 ∧ y6_1 - y6_2 ≤ p3) (z3 : Nat → PV) (zo3 : Nat → List PV) (hl3 : Q7 G (Q24 n0 p0 p1 p2 p3 ((p1 + p3) / 2) (((p1 + p3) / 2) + p2) ((((p1 + p3) / 2) + p2) - p3) ((p1 + p3) / 2) ((((p1 + p3) / 2) + p2) - 1)) (.st (.exit 8) (Q1w n0 p0 p1 p2 p3 y6_0 y6_1 y6_2 z3 zo3))) (h3 : (decide (y6_2 < p2)) = true) (h4 : (decide (p2 < (y6_1 - y6_2))) = false) (h5 : (decide (p1 < y6_2)) = true) : Q7 G (Q22 n0 p0 p1 p2 p3) (.ret (.tup []) [⟨6, 0, false, (Fld.rows (bif (decide (y6_2 < y6_0)) then
   bif (decide (y6_0 < (y6_1 - y6_2))) then
     bif (decide ((y6_1 - y6_2) < p3)) then
      (Q6 k n0 (Q6 k n0 p0 p1 y6_2 y6_0) y6_0 (y6_1 - y6_2) p3)
     else
      (Q6 k n0 p0 p1 y6_2 y6_0)
   else
     (Q6 k n0 p0 p1 y6_2 y6_0)
 else
   bif (decide (y6_0 < (y6_1 - y6_2))) then
     bif (decide ((y6_1 - y6_2) < p3)) then
      (Q6 k n0 p0 y6_0 (y6_1 - y6_2) p3)
     else
      p0
   else
     p0)).flatten⟩]) := by
 have e0 := beq_eq_false_iff_ne.1 h0; have e1 := beq_eq_false_iff_ne.1 h1; have e2 := of_decide_eq_true h2; have e3 := of_decide_eq_true h3; have e4 := of_decide_eq_false h4; have e5 := of_decide_eq_true h5
 cases h6 : (decide (y6_2 < y6_0)) with
 | true =>
  have e6 := of_decide_eq_true h6
  cases h7 : (decide (y6_0 < (y6_1 - y6_2))) with
  | true =>
   have e7 := of_decide_eq_true h7
   cases h8 : (decide ((y6_1 - y6_2) < p3)) with
   | true =>
    have e8 := of_decide_eq_true h8
    exact Q9 (fn := Ir.K1f) rfl (vk1 (Fld.Q5 p0 6 rfl)) [hP 2 (w_ok (p2 - p1) (by omega)), hB 0 h0, hP 2 (w_ok (p3 - p2) (by omega)), hB 0 h1, hP 2 (w_ok (p1 + p3) (by omega)), hP 0 (Q12 (p1 + p3) (by omega)), hP 0 (Q1q (p1 + p3)), hP 0 (Q13 ((p1 + p3) / 2) (by omega)), hP 3 (w_ok (((p1 + p3) / 2) + p2) (by omega)), hB 5 h2, hP 2 (w_ok ((((p1 + p3) / 2) + p2) - p3) (by omega)), hP 4 (w_ok ((((p1 + p3) / 2) + p2) - 1) (by omega)), hS 0 false (Fld.Q5 p0 6 rfl), hP 3 (w_ok (y6_1 - y6_2) (by have g0 := hy3; omega)), hB 3 h3, hB 3 h4, hB 3 h5, hB 3 h6, hQ (Fld.Q5 (Q6 k n0 p0 p1 y6_2 y6_0) 6 rfl), hB 9 h7, hB 3 h8, hQ (Fld.Q5 (Q6 k n0 (Q6 k n0 p0 p1 y6_2 y6_0) y6_0 (y6_1 - y6_2) p3) 6 rfl)] [aV [(0, Fld.rows p0)] hl3, aV [(0, Fld.rows (Q6 k n0 p0 p1 y6_2 y6_0))] (ih n0 p0 p1 y6_2 y6_0 hn (by have g0 := hy3; omega) (by have g0 := hy3; omega)), aV [(0, Fld.rows (Q6 k n0 (Q6 k n0 p0 p1 y6_2 y6_0) y6_0 (y6_1 - y6_2) p3))] (ih n0 (Q6 k n0 p0 p1 y6_2 y6_0) y6_0 (y6_1 - y6_2) p3 (Qc k n0 p0 p1 y6_2 y6_0 hn) (by have f0 := (Qc k n0 p0 p1 y6_2 y6_0 hn); have g0 := hy3; omega) (by have f0 := (Qc k n0 p0 p1 y6_2 y6_0 hn); have g0 := hy3; omega))] (by kernel_rfl)
   | false =>
    have e8 := of_decide_eq_false h8
    exact Q9 (fn := Ir.K1f) rfl (vk1 (Fld.Q5 p0 6 rfl)) [hP 2 (w_ok (p2 - p1) (by omega)), hB 0 h0, hP 2 (w_ok (p3 - p2) (by omega)), hB 0 h1, hP 2 (w_ok (p1 + p3) (by omega)), hP 0 (Q12 (p1 + p3) (by omega)), hP 0 (Q1q (p1 + p3)), hP 0 (Q13 ((p1 + p3) / 2) (by omega)), hP 3 (w_ok (((p1 + p3) / 2) + p2) (by omega)), hB 5 h2, hP 2 (w_ok ((((p1 + p3) / 2) + p2) - p3) (by omega)), hP 4 (w_ok ((((p1 + p3) / 2) + p2) - 1) (by omega)), hS 0 false (Fld.Q5 p0 6 rfl), hP 3 (w_ok (y6_1 - y6_2) (by have g0 := hy3; omega)), hB 3 h3, hB 3 h4, hB 3 h5, hB 3 h6, hQ (Fld.Q5 (Q6 k n0 p0 p1 y6_2 y6_0) 6 rfl), hB 9 h7, hB 3 h8] [aV [(0, Fld.rows p0)] hl3, aV [(0, Fld.rows (Q6 k n0 p0 p1 y6_2 y6_0))] (ih n0 p0 p1 y6_2 y6_0 hn (by have g0 := hy3; omega) (by have g0 := hy3; omega))] (by kernel_rfl)
  | false =>
   have e7 := of_decide_eq_false h7
   exact Q9 (fn := Ir.K1f) rfl (vk1 (Fld.Q5 p0 6 rfl)) [hP 2 (w_ok (p2 - p1) (by omega)), hB 0 h0, hP 2 (w_ok (p3 - p2) (by omega)), hB 0 h1, hP 2 (w_ok (p1 + p3) (by omega)), hP 0 (Q12 (p1 + p3) (by omega)), hP 0 (Q1q (p1 + p3)), hP 0 (Q13 ((p1 + p3) / 2) (by omega)), hP 3 (w_ok (((p1 + p3) / 2) + p2) (by omega)), hB 5 h2, hP 2 (w_ok ((((p1 + p3) / 2) + p2) - p3) (by omega)), hP 4 (w_ok ((((p1 + p3) / 2) + p2) - 1) (by omega)), hS 0 false (Fld.Q5 p0 6 rfl), hP 3 (w_ok (y6_1 - y6_2) (by have g0 := hy3; omega)), hB 3 h3, hB 3 h4, hB 3 h5, hB 3 h6, hQ (Fld.Q5 (Q6 k n0 p0 p1 y6_2 y6_0) 6 rfl), hB 9 h7] [aV [(0, Fld.rows p0)] hl3, aV [(0, Fld.rows (Q6 k n0 p0 p1 y6_2 y6_0))] (ih n0 p0 p1 y6_2 y6_0 hn (by have g0 := hy3; omega) (by have g0 := hy3; omega))] (by kernel_rfl)
 | false =>
  have e6 := of_decide_eq_false h6
  cases h7 : (decide (y6_0 < (y6_1 - y6_2))) with
  | true =>
   have e7 := of_decide_eq_true h7
   cases h8 : (decide ((y6_1 - y6_2) < p3)) with
   | true =>
    have e8 := of_decide_eq_true h8
    exact Q9 (fn := Ir.K1f) rfl (vk1 (Fld.Q5 p0 6 rfl)) [hP 2 (w_ok (p2 - p1) (by omega)), hB 0 h0, hP 2 (w_ok (p3 - p2) (by omega)), hB 0 h1, hP 2 (w_ok (p1 + p3) (by omega)), hP 0 (Q12 (p1 + p3) (by omega)), hP 0 (Q1q (p1 + p3)), hP 0 (Q13 ((p1 + p3) / 2) (by omega)), hP 3 (w_ok (((p1 + p3) / 2) + p2) (by omega)), hB 5 h2, hP 2 (w_ok ((((p1 + p3) / 2) + p2) - p3) (by omega)), hP 4 (w_ok ((((p1 + p3) / 2) + p2) - 1) (by omega)), hS 0 false (Fld.Q5 p0 6 rfl), hP 3 (w_ok (y6_1 - y6_2) (by have g0 := hy3; omega)), hB 3 h3, hB 3 h4, hB 3 h5, hB 3 h6, hB 3 h7, hB 3 h8, hQ (Fld.Q5 (Q6 k n0 p0 y6_0 (y6_1 - y6_2) p3) 6 rfl)] [aV [(0, Fld.rows p0)] hl3, aV [(0, Fld.rows (Q6 k n0 p0 y6_0 (y6_1 - y6_2) p3))] (ih n0 p0 y6_0 (y6_1 - y6_2) p3 hn (by have g0 := hy3; omega) (by have g0 := hy3; omega))] (by kernel_rfl)
   | false =>
    have e8 := of_decide_eq_false h8
    exact Q9 (fn := Ir.K1f) rfl (vk1 (Fld.Q5 p0 6 rfl)) [hP 2 (w_ok (p2 - p1) (by omega)), hB 0 h0, hP 2 (w_ok (p3 - p2) (by omega)), hB 0 h1, hP 2 (w_ok (p1 + p3) (by omega)), hP 0 (Q12 (p1 + p3) (by omega)), hP 0 (Q1q (p1 + p3)), hP 0 (Q13 ((p1 + p3) / 2) (by omega)), hP 3 (w_ok (((p1 + p3) / 2) + p2) (by omega)), hB 5 h2, hP 2 (w_ok ((((p1 + p3) / 2) + p2) - p3) (by omega)), hP 4 (w_ok ((((p1 + p3) / 2) + p2) - 1) (by omega)), hS 0 false (Fld.Q5 p0 6 rfl), hP 3 (w_ok (y6_1 - y6_2) (by have g0 := hy3; omega)), hB 3 h3, hB 3 h4, hB 3 h5, hB 3 h6, hB 3 h7, hB 3 h8] [aV [(0, Fld.rows p0)] hl3] (by kernel_rfl)
  | false =>
   have e7 := of_decide_eq_false h7
   exact Q9 (fn := Ir.K1f) rfl (vk1 (Fld.Q5 p0 6 rfl)) [hP 2 (w_ok (p2 - p1) (by omega)), hB 0 h0, hP 2 (w_ok (p3 - p2) (by omega)), hB 0 h1, hP 2 (w_ok (p1 + p3) (by omega)), hP 0 (Q12 (p1 + p3) (by omega)), hP 0 (Q1q (p1 + p3)), hP 0 (Q13 ((p1 + p3) / 2) (by omega)), hP 3 (w_ok (((p1 + p3) / 2) + p2) (by omega)), hB 5 h2, hP 2 (w_ok ((((p1 + p3) / 2) + p2) - p3) (by omega)), hP 4 (w_ok ((((p1 + p3) / 2) + p2) - 1) (by omega)), hS 0 false (Fld.Q5 p0 6 rfl), hP 3 (w_ok (y6_1 - y6_2) (by have g0 := hy3; omega)), hB 3 h3, hB 3 h4, hB 3 h5, hB 3 h6, hB 3 h7] [aV [(0, Fld.rows p0)] hl3] (by kernel_rfl)
theorem Qtn (k : Nat) (ih : Q1o k) (n0 : Nat) (p0 : List Fld) (p1 : Int) (p2 : Int) (p3 : Int) (hn : List.length p0 = n0) (hq0 : 0 ≤ p1 ∧ p1 < p2 ∧ p2 < p3 ∧ p3 ≤ n0 ∧ (n0 : Int) ≤ 1152921504606846976) (_hm : Int.toNat (p3 - p1) < k + 1) (h0 : ((p2 - p1) == 1) = false) (h1 : ((p3 - p2) == 1) = false) (h2 : (decide (((p1 + p3) / 2) < p2)) = true) (y6_0 : Int) (y6_1 : Int) (y6_2 : Int) (hy3 : y6_0 = ((p1 + p3) / 2) ∧ y6_1 = (((p1 + p3) / 2) + p2) ∧ p1 ≤ y6_2 ∧ y6_2 ≤ p2 ∧ y6_1 - y6_2 ≤ p3) (z3 : Nat → PV) (zo3 : Nat → List PV) (hl3 : Q7 G (Q24 n0 p0 p1 p2 p3 ((p1 + p3) / 2) (((p1 + p3) / 2) + p2) ((((p1 + p3) / 2) + p2) - p3) ((p1 + p3) / 2) ((((p1 + p3) / 2) + p2) - 1)) (.st (.exit 8) (Q1w n0 p0 p1 p2 p3 y6_0 y6_1 y6_2 z3 zo3))) (h3 : (decide (y6_2 < p2)) = true) (h4 : (decide (p2 < (y6_1 - y6_2))) = false) (h5 : (decide (p1 < y6_2)) = false) : Q7 G (Q22 n0 p0 p1 p2 p3) (.ret (.tup []) [⟨6, 0, false, (Fld.rows (bif (decide (y6_0 < (y6_1 - y6_2))) then
   bif (decide ((y6_1 - y6_2) < p3)) then
    (Q6 k n0 p0 y6_0 (y6_1 - y6_2) p3)
   else
    p0
 else
   p0)).flatten⟩]) := by
 have e0 := beq_eq_false_iff_ne.1 h0; have e1 := beq_eq_false_iff_ne.1 h1; have e2 := of_decide_eq_true h2; have e3 := of_decide_eq_true h3; have e4 := of_decide_eq_false h4; have e5 := of_decide_eq_false h5
 cases h6 : (decide (y6_0 < (y6_1 - y6_2))) with
 | true =>
  have e6 := of_decide_eq_true h6
  cases h7 : (decide ((y6_1 - y6_2) < p3)) with
  | true =>
   have e7 := of_decide_eq_true h7
   exact Q9 (fn := Ir.K1f) rfl (vk1 (Fld.Q5 p0 6 rfl)) [hP 2 (w_ok (p2 - p1) (by omega)), hB 0 h0, hP 2 (w_ok (p3 - p2) (by omega)), hB 0 h1, hP 2 (w_ok (p1 + p3) (by omega)), hP 0 (Q12 (p1 + p3) (by omega)), hP 0 (Q1q (p1 + p3)), hP 0 (Q13 ((p1 + p3) / 2) (by omega)), hP 3 (w_ok (((p1 + p3) / 2) + p2) (by omega)), hB 5 h2, hP 2 (w_ok ((((p1 + p3) / 2) + p2) - p3) (by omega)), hP 4 (w_ok ((((p1 + p3) / 2) + p2) - 1) (by omega)), hS 0 false (Fld.Q5 p0 6 rfl), hP 3 (w_ok (y6_1 - y6_2) (by have g0 := hy3; omega)), hB 3 h3, hB 3 h4, hB 3 h5, hB 7 h6, hB 3 h7, hQ (Fld.Q5 (Q6 k n0 p0 y6_0 (y6_1 - y6_2) p3) 6 rfl)] [aV [(0, Fld.rows p0)] hl3, aV [(0, Fld.rows (Q6 k n0 p0 y6_0 (y6_1 - y6_2) p3))] (ih n0 p0 y6_0 (y6_1 - y6_2) p3 hn (by have g0 := hy3; omega) (by have g0 := hy3; omega))] (by kernel_rfl)
  | false =>
   have e7 := of_decide_eq_false h7
   exact Q9 (fn := Ir.K1f) rfl (vk1 (Fld.Q5 p0 6 rfl)) [hP 2 (w_ok (p2 - p1) (by omega)), hB 0 h0, hP 2 (w_ok (p3 - p2) (by omega)), hB 0 h1, hP 2 (w_ok (p1 + p3) (by omega)), hP 0 (Q12 (p1 + p3) (by omega)), hP 0 (Q1q (p1 + p3)), hP 0 (Q13 ((p1 + p3) / 2) (by omega)), hP 3 (w_ok (((p1 + p3) / 2) + p2) (by omega)), hB 5 h2, hP 2 (w_ok ((((p1 + p3) / 2) + p2) - p3) (by omega)), hP 4 (w_ok ((((p1 + p3) / 2) + p2) - 1) (by omega)), hS 0 false (Fld.Q5 p0 6 rfl), hP 3 (w_ok (y6_1 - y6_2) (by have g0 := hy3; omega)), hB 3 h3, hB 3 h4, hB 3 h5, hB 7 h6, hB 3 h7] [aV [(0, Fld.rows p0)] hl3] (by kernel_rfl)
 | false =>
  have e6 := of_decide_eq_false h6
  exact Q9 (fn := Ir.K1f) rfl (vk1 (Fld.Q5 p0 6 rfl)) [hP 2 (w_ok (p2 - p1) (by omega)), hB 0 h0, hP 2 (w_ok (p3 - p2) (by omega)), hB 0 h1, hP 2 (w_ok (p1 + p3) (by omega)), hP 0 (Q12 (p1 + p3) (by omega)), hP 0 (Q1q (p1 + p3)), hP 0 (Q13 ((p1 + p3) / 2) (by omega)), hP 3 (w_ok (((p1 + p3) / 2) + p2) (by omega)), hB 5 h2, hP 2 (w_ok ((((p1 + p3) / 2) + p2) - p3) (by omega)), hP 4 (w_ok ((((p1 + p3) / 2) + p2) - 1) (by omega)), hS 0 false (Fld.Q5 p0 6 rfl), hP 3 (w_ok (y6_1 - y6_2) (by have g0 := hy3; omega)), hB 3 h3, hB 3 h4, hB 3 h5, hB 7 h6] [aV [(0, Fld.rows p0)] hl3] (by kernel_rfl)
theorem Qtf (k : Nat) (ih : Q1o k) (n0 : Nat) (p0 : List Fld) (p1 : Int) (p2 : Int) (p3 : Int) (hn : List.length p0 = n0) (hq0 : 0 ≤ p1 ∧ p1 < p2 ∧ p2 < p3 ∧ p3 ≤ n0 ∧ (n0 : Int) ≤ 1152921504606846976) (_hm : Int.toNat (p3 - p1) < k + 1) (h0 : ((p2 - p1) == 1) = false) (h1 : ((p3 - p2) == 1) = false) (h2 : (decide (((p1 + p3) / 2) < p2)) = true) (y6_0 : Int) (y6_1 : Int) (y6_2 : Int) (hy3 : y6_0 = ((p1 + p3) / 2) ∧ y6_1 = (((p1 + p3) / 2) + p2) ∧ p1 ≤ y6_2 ∧ y6_2 ≤ p2 ∧ y6_1 - y6_2 ≤ p3) (z3 : Nat → PV) (zo3 : Nat → List PV) (hl3 : Q7 G (Q24 n0 p0 p1 p2 p3 ((p1 + p3) / 2) (((p1 + p3) / 2) + p2) ((((p1 + p3) / 2) + p2) - p3) ((p1 + p3) / 2) ((((p1 + p3) / 2) + p2) - 1)) (.st (.exit 8) (Q1w n0 p0 p1 p2 p3 y6_0 y6_1 y6_2 z3 zo3))) (h3 : (decide (y6_2 < p2)) = false) (h4 : (decide (p1 < y6_2)) = true) : Q7 G (Q22 n0 p0 p1 p2 p3) (.ret (.tup []) [⟨6, 0, false, (Fld.rows (bif (decide (y6_2 < y6_0)) then
   bif (decide (y6_0 < (y6_1 - y6_2))) then
     bif (decide ((y6_1 - y6_2) < p3)) then
      (Q6 k n0 (Q6 k n0 p0 p1 y6_2 y6_0) y6_0 (y6_1 - y6_2) p3)
     else
      (Q6 k n0 p0 p1 y6_2 y6_0)
   else
     (Q6 k n0 p0 p1 y6_2 y6_0)
 else
   bif (decide (y6_0 < (y6_1 - y6_2))) then
     bif (decide ((y6_1 - y6_2) < p3)) then
      (Q6 k n0 p0 y6_0 (y6_1 - y6_2) p3)
     else
      p0
   else
     p0)).flatten⟩]) := by
 have e0 := beq_eq_false_iff_ne.1 h0; have e1 := beq_eq_false_iff_ne.1 h1; have e2 := of_decide_eq_true h2; have e3 := of_decide_eq_false h3; have e4 := of_decide_eq_true h4
 cases h5 : (decide (y6_2 < y6_0)) with
 | true =>
  have e5 := of_decide_eq_true h5
  cases h6 : (decide (y6_0 < (y6_1 - y6_2))) with
  | true =>
   have e6 := of_decide_eq_true h6
   cases h7 : (decide ((y6_1 - y6_2) < p3)) with
   | true =>
    have e7 := of_decide_eq_true h7
    exact Q9 (fn := Ir.K1f) rfl (vk1 (Fld.Q5 p0 6 rfl)) [hP 2 (w_ok (p2 - p1) (by omega)), hB 0 h0, hP 2 (w_ok (p3 - p2) (by omega)), hB 0 h1, hP 2 (w_ok (p1 + p3) (by omega)), hP 0 (Q12 (p1 + p3) (by omega)), hP 0 (Q1q (p1 + p3)), hP 0 (Q13 ((p1 + p3) / 2) (by omega)), hP 3 (w_ok (((p1 + p3) / 2) + p2) (by omega)), hB 5 h2, hP 2 (w_ok ((((p1 + p3) / 2) + p2) - p3) (by omega)), hP 4 (w_ok ((((p1 + p3) / 2) + p2) - 1) (by omega)), hS 0 false (Fld.Q5 p0 6 rfl), hP 3 (w_ok (y6_1 - y6_2) (by have g0 := hy3; omega)), hB 3 h3, hB 7 h4, hB 3 h5, hQ (Fld.Q5 (Q6 k n0 p0 p1 y6_2 y6_0) 6 rfl), hB 9 h6, hB 3 h7, hQ (Fld.Q5 (Q6 k n0 (Q6 k n0 p0 p1 y6_2 y6_0) y6_0 (y6_1 - y6_2) p3) 6 rfl)] [aV [(0, Fld.rows p0)] hl3, aV [(0, Fld.rows (Q6 k n0 p0 p1 y6_2 y6_0))] (ih n0 p0 p1 y6_2 y6_0 hn (by have g0 := hy3; omega) (by have g0 := hy3; omega)), aV [(0, Fld.rows (Q6 k n0 (Q6 k n0 p0 p1 y6_2 y6_0) y6_0 (y6_1 - y6_2) p3))] (ih n0 (Q6 k n0 p0 p1 y6_2 y6_0) y6_0 (y6_1 - y6_2) p3 (Qc k n0 p0 p1 y6_2 y6_0 hn) (by have f0 := (Qc k n0 p0 p1 y6_2 y6_0 hn); have g0 := hy3; omega) (by have f0 := (Qc k n0 p0 p1 y6_2 y6_0 hn); have g0 := hy3; omega))] (by kernel_rfl)
   | false =>
    have e7 := of_decide_eq_false h7
    exact Q9 (fn := Ir.K1f) rfl (vk1 (Fld.Q5 p0 6 rfl)) [hP 2 (w_ok (p2 - p1) (by omega)), hB 0 h0, hP 2 (w_ok (p3 - p2) (by omega)), hB 0 h1, hP 2 (w_ok (p1 + p3) (by omega)), hP 0 (Q12 (p1 + p3) (by omega)), hP 0 (Q1q (p1 + p3)), hP 0 (Q13 ((p1 + p3) / 2) (by omega)), hP 3 (w_ok (((p1 + p3) / 2) + p2) (by omega)), hB 5 h2, hP 2 (w_ok ((((p1 + p3) / 2) + p2) - p3) (by omega)), hP 4 (w_ok ((((p1 + p3) / 2) + p2) - 1) (by omega)), hS 0 false (Fld.Q5 p0 6 rfl), hP 3 (w_ok (y6_1 - y6_2) (by have g0 := hy3; omega)), hB 3 h3, hB 7 h4, hB 3 h5, hQ (Fld.Q5 (Q6 k n0 p0 p1 y6_2 y6_0) 6 rfl), hB 9 h6, hB 3 h7] [aV [(0, Fld.rows p0)] hl3, aV [(0, Fld.rows (Q6 k n0 p0 p1 y6_2 y6_0))] (ih n0 p0 p1 y6_2 y6_0 hn (by have g0 := hy3; omega) (by have g0 := hy3; omega))] (by kernel_rfl)
  | false =>
   have e6 := of_decide_eq_false h6
   exact Q9 (fn := Ir.K1f) rfl (vk1 (Fld.Q5 p0 6 rfl)) [hP 2 (w_ok (p2 - p1) (by omega)), hB 0 h0, hP 2 (w_ok (p3 - p2) (by omega)), hB 0 h1, hP 2 (w_ok (p1 + p3) (by omega)), hP 0 (Q12 (p1 + p3) (by omega)), hP 0 (Q1q (p1 + p3)), hP 0 (Q13 ((p1 + p3) / 2) (by omega)), hP 3 (w_ok (((p1 + p3) / 2) + p2) (by omega)), hB 5 h2, hP 2 (w_ok ((((p1 + p3) / 2) + p2) - p3) (by omega)), hP 4 (w_ok ((((p1 + p3) / 2) + p2) - 1) (by omega)), hS 0 false (Fld.Q5 p0 6 rfl), hP 3 (w_ok (y6_1 - y6_2) (by have g0 := hy3; omega)), hB 3 h3, hB 7 h4, hB 3 h5, hQ (Fld.Q5 (Q6 k n0 p0 p1 y6_2 y6_0) 6 rfl), hB 9 h6] [aV [(0, Fld.rows p0)] hl3, aV [(0, Fld.rows (Q6 k n0 p0 p1 y6_2 y6_0))] (ih n0 p0 p1 y6_2 y6_0 hn (by have g0 := hy3; omega) (by have g0 := hy3; omega))] (by kernel_rfl)
 | false =>
  have e5 := of_decide_eq_false h5
  cases h6 : (decide (y6_0 < (y6_1 - y6_2))) with
  | true =>
   have e6 := of_decide_eq_true h6
   cases h7 : (decide ((y6_1 - y6_2) < p3)) with
   | true =>
    have e7 := of_decide_eq_true h7
    exact Q9 (fn := Ir.K1f) rfl (vk1 (Fld.Q5 p0 6 rfl)) [hP 2 (w_ok (p2 - p1) (by omega)), hB 0 h0, hP 2 (w_ok (p3 - p2) (by omega)), hB 0 h1, hP 2 (w_ok (p1 + p3) (by omega)), hP 0 (Q12 (p1 + p3) (by omega)), hP 0 (Q1q (p1 + p3)), hP 0 (Q13 ((p1 + p3) / 2) (by omega)), hP 3 (w_ok (((p1 + p3) / 2) + p2) (by omega)), hB 5 h2, hP 2 (w_ok ((((p1 + p3) / 2) + p2) - p3) (by omega)), hP 4 (w_ok ((((p1 + p3) / 2) + p2) - 1) (by omega)), hS 0 false (Fld.Q5 p0 6 rfl), hP 3 (w_ok (y6_1 - y6_2) (by have g0 := hy3; omega)), hB 3 h3, hB 7 h4, hB 3 h5, hB 3 h6, hB 3 h7, hQ (Fld.Q5 (Q6 k n0 p0 y6_0 (y6_1 - y6_2) p3) 6 rfl)] [aV [(0, Fld.rows p0)] hl3, aV [(0, Fld.rows (Q6 k n0 p0 y6_0 (y6_1 - y6_2) p3))] (ih n0 p0 y6_0 (y6_1 - y6_2) p3 hn (by have g0 := hy3; omega) (by have g0 := hy3; omega))] (by kernel_rfl)
   | false =>
    have e7 := of_decide_eq_false h7
    exact Q9 (fn := Ir.K1f) rfl (vk1 (Fld.Q5 p0 6 rfl)) [hP 2 (w_ok (p2 - p1) (by omega)), hB 0 h0, hP 2 (w_ok (p3 - p2) (by omega)), hB 0 h1, hP 2 (w_ok (p1 + p3) (by omega)), hP 0 (Q12 (p1 + p3) (by omega)), hP 0 (Q1q (p1 + p3)), hP 0 (Q13 ((p1 + p3) / 2) (by omega)), hP 3 (w_ok (((p1 + p3) / 2) + p2) (by omega)), hB 5 h2, hP 2 (w_ok ((((p1 + p3) / 2) + p2) - p3) (by omega)), hP 4 (w_ok ((((p1 + p3) / 2) + p2) - 1) (by omega)), hS 0 false (Fld.Q5 p0 6 rfl), hP 3 (w_ok (y6_1 - y6_2) (by have g0 := hy3; omega)), hB 3 h3, hB 7 h4, hB 3 h5, hB 3 h6, hB 3 h7] [aV [(0, Fld.rows p0)] hl3] (by kernel_rfl)
  | false =>
   have e6 := of_decide_eq_false h6
   exact Q9 (fn := Ir.K1f) rfl (vk1 (Fld.Q5 p0 6 rfl)) [hP 2 (w_ok (p2 - p1) (by omega)), hB 0 h0, hP 2 (w_ok (p3 - p2) (by omega)), hB 0 h1, hP 2 (w_ok (p1 + p3) (by omega)), hP 0 (Q12 (p1 + p3) (by omega)), hP 0 (Q1q (p1 + p3)), hP 0 (Q13 ((p1 + p3) / 2) (by omega)), hP 3 (w_ok (((p1 + p3) / 2) + p2) (by omega)), hB 5 h2, hP 2 (w_ok ((((p1 + p3) / 2) + p2) - p3) (by omega)), hP 4 (w_ok ((((p1 + p3) / 2) + p2) - 1) (by omega)), hS 0 false (Fld.Q5 p0 6 rfl), hP 3 (w_ok (y6_1 - y6_2) (by have g0 := hy3; omega)), hB 3 h3, hB 7 h4, hB 3 h5, hB 3 h6] [aV [(0, Fld.rows p0)] hl3] (by kernel_rfl)
theorem Qtv (k : Nat) (ih : Q1o k) (n0 : Nat) (p0 : List Fld) (p1 : Int) (p2 : Int) (p3 : Int) (hn : List.length p0 = n0) (hq0 : 0 ≤ p1 ∧ p1 < p2 ∧ p2 < p3 ∧ p3 ≤ n0 ∧ (n0 : Int) ≤ 1152921504606846976) (_hm : Int.toNat (p3 - p1) < k + 1) (h0 : ((p2 - p1) == 1) = false) (h1 : ((p3 - p2) == 1) = false) (h2 : (decide (((p1 + p3) / 2) < p2)) = true) (y6_0 : Int) (y6_1 : Int) (y6_2 : Int) (hy3 : y6_0 = ((p1 + p3) / 2) ∧ y6_1 = (((p1 + p3) / 2) + p2) ∧ p1 ≤ y6_2 ∧ y6_2 ≤ p2 ∧ y6_1 - y6_2 ≤ p3) (z3 : Nat → PV) (zo3 : Nat → List PV) (hl3 : Q7 G (Q24 n0 p0 p1 p2 p3 ((p1 + p3) / 2) (((p1 + p3) / 2) + p2) ((((p1 + p3) / 2) + p2) - p3) ((p1 + p3) / 2) ((((p1 + p3) / 2) + p2) - 1)) (.st (.exit 8) (Q1w n0 p0 p1 p2 p3 y6_0 y6_1 y6_2 z3 zo3))) (h3 : (decide (y6_2 < p2)) = false) (h4 : (decide (p1 < y6_2)) = false) : Q7 G (Q22 n0 p0 p1 p2 p3) (.ret (.tup []) [⟨6, 0, false, (Fld.rows (bif (decide (y6_0 < (y6_1 - y6_2))) then
   bif (decide ((y6_1 - y6_2) < p3)) then
    (Q6 k n0 p0 y6_0 (y6_1 - y6_2) p3)
   else
    p0
 else
   p0)).flatten⟩]) := by
 have e0 := beq_eq_false_iff_ne.1 h0; have e1 := beq_eq_false_iff_ne.1 h1; have e2 := of_decide_eq_true h2; have e3 := of_decide_eq_false h3; have e4 := of_decide_eq_false h4
 cases h5 : (decide (y6_0 < (y6_1 - y6_2))) with
 | true =>
  have e5 := of_decide_eq_true h5
  cases h6 : (decide ((y6_1 - y6_2) < p3)) with
  | true =>
   have e6 := of_decide_eq_true h6
   exact Q9 (fn := Ir.K1f) rfl (vk1 (Fld.Q5 p0 6 rfl)) [hP 2 (w_ok (p2 - p1) (by omega)), hB 0 h0, hP 2 (w_ok (p3 - p2) (by omega)), hB 0 h1, hP 2 (w_ok (p1 + p3) (by omega)), hP 0 (Q12 (p1 + p3) (by omega)), hP 0 (Q1q (p1 + p3)), hP 0 (Q13 ((p1 + p3) / 2) (by omega)), hP 3 (w_ok (((p1 + p3) / 2) + p2) (by omega)), hB 5 h2, hP 2 (w_ok ((((p1 + p3) / 2) + p2) - p3) (by omega)), hP 4 (w_ok ((((p1 + p3) / 2) + p2) - 1) (by omega)), hS 0 false (Fld.Q5 p0 6 rfl), hP 3 (w_ok (y6_1 - y6_2) (by have g0 := hy3; omega)), hB 3 h3, hB 7 h4, hB 7 h5, hB 3 h6, hQ (Fld.Q5 (Q6 k n0 p0 y6_0 (y6_1 - y6_2) p3) 6 rfl)] [aV [(0, Fld.rows p0)] hl3, aV [(0, Fld.rows (Q6 k n0 p0 y6_0 (y6_1 - y6_2) p3))] (ih n0 p0 y6_0 (y6_1 - y6_2) p3 hn (by have g0 := hy3; omega) (by have g0 := hy3; omega))] (by kernel_rfl)
  | false =>
   have e6 := of_decide_eq_false h6
   exact Q9 (fn := Ir.K1f) rfl (vk1 (Fld.Q5 p0 6 rfl)) [hP 2 (w_ok (p2 - p1) (by omega)), hB 0 h0, hP 2 (w_ok (p3 - p2) (by omega)), hB 0 h1, hP 2 (w_ok (p1 + p3) (by omega)), hP 0 (Q12 (p1 + p3) (by omega)), hP 0 (Q1q (p1 + p3)), hP 0 (Q13 ((p1 + p3) / 2) (by omega)), hP 3 (w_ok (((p1 + p3) / 2) + p2) (by omega)), hB 5 h2, hP 2 (w_ok ((((p1 + p3) / 2) + p2) - p3) (by omega)), hP 4 (w_ok ((((p1 + p3) / 2) + p2) - 1) (by omega)), hS 0 false (Fld.Q5 p0 6 rfl), hP 3 (w_ok (y6_1 - y6_2) (by have g0 := hy3; omega)), hB 3 h3, hB 7 h4, hB 7 h5, hB 3 h6] [aV [(0, Fld.rows p0)] hl3] (by kernel_rfl)
 | false =>
  have e5 := of_decide_eq_false h5
  exact Q9 (fn := Ir.K1f) rfl (vk1 (Fld.Q5 p0 6 rfl)) [hP 2 (w_ok (p2 - p1) (by omega)), hB 0 h0, hP 2 (w_ok (p3 - p2) (by omega)), hB 0 h1, hP 2 (w_ok (p1 + p3) (by omega)), hP 0 (Q12 (p1 + p3) (by omega)), hP 0 (Q1q (p1 + p3)), hP 0 (Q13 ((p1 + p3) / 2) (by omega)), hP 3 (w_ok (((p1 + p3) / 2) + p2) (by omega)), hB 5 h2, hP 2 (w_ok ((((p1 + p3) / 2) + p2) - p3) (by omega)), hP 4 (w_ok ((((p1 + p3) / 2) + p2) - 1) (by omega)), hS 0 false (Fld.Q5 p0 6 rfl), hP 3 (w_ok (y6_1 - y6_2) (by have g0 := hy3; omega)), hB 3 h3, hB 7 h4, hB 7 h5] [aV [(0, Fld.rows p0)] hl3] (by kernel_rfl)
theorem Qtb (k : Nat) (ih : Q1o k) (n0 : Nat) (p0 : List Fld) (p1 : Int) (p2 : Int) (p3 : Int) (hn : List.length p0 = n0) (hq0 : 0 ≤ p1 ∧ p1 < p2 ∧ p2 < p3 ∧ p3 ≤ n0 ∧ (n0 : Int) ≤ 1152921504606846976) (hm : Int.toNat (p3 - p1) < k + 1) (h0 : ((p2 - p1) == 1) = false) (h1 : ((p3 - p2) == 1) = false) (h2 : (decide (((p1 + p3) / 2) < p2)) = false) (y7_0 : Int) (y7_1 : Int) (y7_2 : Int) (hy3 : y7_0 = ((p1 + p3) / 2) ∧ y7_1 = (((p1 + p3) / 2) + p2) ∧ p1 ≤ y7_2 ∧ y7_2 ≤ p2 ∧ y7_1 - y7_2 ≤ p3) (z3 : Nat → PV) (zo3 : Nat → List PV) (hl3 : Q7 G (Q24 n0 p0 p1 p2 p3 ((p1 + p3) / 2) (((p1 + p3) / 2) + p2) p1 p2 ((((p1 + p3) / 2) + p2) - 1)) (.st (.exit 8) (Q1w n0 p0 p1 p2 p3 y7_0 y7_1 y7_2 z3 zo3))) (h3 : (decide (y7_2 < p2)) = true) (h4 : (decide (p2 < (y7_1 - y7_2))) = true) (h5 : (decide (p1 < y7_2)) = true) : Q7 G (Q22 n0 p0 p1 p2 p3) (.ret (.tup []) [⟨6, 0, false, (Fld.rows (bif (decide (y7_2 < y7_0)) then
   bif (decide (y7_0 < (y7_1 - y7_2))) then
     bif (decide ((y7_1 - y7_2) < p3)) then
      (Q6 k n0 (Q6 k n0 (Qb n0 p0 y7_2 p2 (y7_1 - y7_2)) p1 y7_2 y7_0) y7_0 (y7_1 - y7_2) p3)
     else
      (Q6 k n0 (Qb n0 p0 y7_2 p2 (y7_1 - y7_2)) p1 y7_2 y7_0)
   else
     (Q6 k n0 (Qb n0 p0 y7_2 p2 (y7_1 - y7_2)) p1 y7_2 y7_0)
 else
   bif (decide (y7_0 < (y7_1 - y7_2))) then
     bif (decide ((y7_1 - y7_2) < p3)) then
      (Q6 k n0 (Qb n0 p0 y7_2 p2 (y7_1 - y7_2)) y7_0 (y7_1 - y7_2) p3)
     else
      (Qb n0 p0 y7_2 p2 (y7_1 - y7_2))
   else
     (Qb n0 p0 y7_2 p2 (y7_1 - y7_2)))).flatten⟩]) := by
 have e0 := beq_eq_false_iff_ne.1 h0; have e1 := beq_eq_false_iff_ne.1 h1; have e2 := of_decide_eq_false h2; have e3 := of_decide_eq_true h3; have e4 := of_decide_eq_true h4; have e5 := of_decide_eq_true h5
 cases h6 : (decide (y7_2 < y7_0)) with
 | true =>
  have e6 := of_decide_eq_true h6
  cases h7 : (decide (y7_0 < (y7_1 - y7_2))) with
  | true =>
   have e7 := of_decide_eq_true h7
   cases h8 : (decide ((y7_1 - y7_2) < p3)) with
   | true =>
    have e8 := of_decide_eq_true h8
    exact Q9 (fn := Ir.K1f) rfl (vk1 (Fld.Q5 p0 6 rfl)) [hP 2 (w_ok (p2 - p1) (by omega)), hB 0 h0, hP 2 (w_ok (p3 - p2) (by omega)), hB 0 h1, hP 2 (w_ok (p1 + p3) (by omega)), hP 0 (Q12 (p1 + p3) (by omega)), hP 0 (Q1q (p1 + p3)), hP 0 (Q13 ((p1 + p3) / 2) (by omega)), hP 3 (w_ok (((p1 + p3) / 2) + p2) (by omega)), hB 5 h2, hP 5 (w_ok ((((p1 + p3) / 2) + p2) - 1) (by omega)), hS 0 false (Fld.Q5 p0 6 rfl), hP 3 (w_ok (y7_1 - y7_2) (by have g0 := hy3; omega)), hB 3 h3, hB 3 h4, hQ (Fld.Q5 (Qb n0 p0 y7_2 p2 (y7_1 - y7_2)) 6 rfl), hB 9 h5, hB 3 h6, hQ (Fld.Q5 (Q6 k n0 (Qb n0 p0 y7_2 p2 (y7_1 - y7_2)) p1 y7_2 y7_0) 6 rfl), hB 9 h7, hB 3 h8, hQ (Fld.Q5 (Q6 k n0 (Q6 k n0 (Qb n0 p0 y7_2 p2 (y7_1 - y7_2)) p1 y7_2 y7_0) y7_0 (y7_1 - y7_2) p3) 6 rfl)] [aV [(0, Fld.rows p0)] hl3, aV [(0, Fld.rows (Qb n0 p0 y7_2 p2 (y7_1 - y7_2)))] (Q1s n0 p0 y7_2 p2 (y7_1 - y7_2) hn (by have g0 := hy3; omega)), aV [(0, Fld.rows (Q6 k n0 (Qb n0 p0 y7_2 p2 (y7_1 - y7_2)) p1 y7_2 y7_0))] (ih n0 (Qb n0 p0 y7_2 p2 (y7_1 - y7_2)) p1 y7_2 y7_0 (Qh n0 p0 y7_2 p2 (y7_1 - y7_2) hn) (by have f0 := (Qh n0 p0 y7_2 p2 (y7_1 - y7_2) hn); have g0 := hy3; omega) (by have f0 := (Qh n0 p0 y7_2 p2 (y7_1 - y7_2) hn); have g0 := hy3; omega)), aV [(0, Fld.rows (Q6 k n0 (Q6 k n0 (Qb n0 p0 y7_2 p2 (y7_1 - y7_2)) p1 y7_2 y7_0) y7_0 (y7_1 - y7_2) p3))] (ih n0 (Q6 k n0 (Qb n0 p0 y7_2 p2 (y7_1 - y7_2)) p1 y7_2 y7_0) y7_0 (y7_1 - y7_2) p3 (Qc k n0 (Qb n0 p0 y7_2 p2 (y7_1 - y7_2)) p1 y7_2 y7_0 (Qh n0 p0 y7_2 p2 (y7_1 - y7_2) hn)) (by have f0 := (Qc k n0 (Qb n0 p0 y7_2 p2 (y7_1 - y7_2)) p1 y7_2 y7_0 (Qh n0 p0 y7_2 p2 (y7_1 - y7_2) hn)); have g0 := hy3; omega) (by have f0 := (Qc k n0 (Qb n0 p0 y7_2 p2 (y7_1 - y7_2)) p1 y7_2 y7_0 (Qh n0 p0 y7_2 p2 (y7_1 - y7_2) hn)); have g0 := hy3; omega))] (by kernel_rfl)
   | false =>
    have e8 := of_decide_eq_false h8
    exact Q9 (fn := Ir.K1f) rfl (vk1 (Fld.Q5 p0 6 rfl)) [hP 2 (w_ok (p2 - p1) (by omega)), hB 0 h0, hP 2 (w_ok (p3 - p2) (by omega)), hB 0 h1, hP 2 (w_ok (p1 + p3) (by omega)), hP 0 (Q12 (p1 + p3) (by omega)), hP 0 (Q1q (p1 + p3)), hP 0 (Q13 ((p1 + p3) / 2) (by omega)), hP 3 (w_ok (((p1 + p3) / 2) + p2) (by omega)), hB 5 h2, hP 5 (w_ok ((((p1 + p3) / 2) + p2) - 1) (by omega)), hS 0 false (Fld.Q5 p0 6 rfl), hP 3 (w_ok (y7_1 - y7_2) (by have g0 := hy3; omega)), hB 3 h3, hB 3 h4, hQ (Fld.Q5 (Qb n0 p0 y7_2 p2 (y7_1 - y7_2)) 6 rfl), hB 9 h5, hB 3 h6, hQ (Fld.Q5 (Q6 k n0 (Qb n0 p0 y7_2 p2 (y7_1 - y7_2)) p1 y7_2 y7_0) 6 rfl), hB 9 h7, hB 3 h8] [aV [(0, Fld.rows p0)] hl3, aV [(0, Fld.rows (Qb n0 p0 y7_2 p2 (y7_1 - y7_2)))] (Q1s n0 p0 y7_2 p2 (y7_1 - y7_2) hn (by have g0 := hy3; omega)), aV [(0, Fld.rows (Q6 k n0 (Qb n0 p0 y7_2 p2 (y7_1 - y7_2)) p1 y7_2 y7_0))] (ih n0 (Qb n0 p0 y7_2 p2 (y7_1 - y7_2)) p1 y7_2 y7_0 (Qh n0 p0 y7_2 p2 (y7_1 - y7_2) hn) (by have f0 := (Qh n0 p0 y7_2 p2 (y7_1 - y7_2) hn); have g0 := hy3; omega) (by have f0 := (Qh n0 p0 y7_2 p2 (y7_1 - y7_2) hn); have g0 := hy3; omega))] (by kernel_rfl)
  | false =>
   have e7 := of_decide_eq_false h7
   exact Q9 (fn := Ir.K1f) rfl (vk1 (Fld.Q5 p0 6 rfl)) [hP 2 (w_ok (p2 - p1) (by omega)), hB 0 h0, hP 2 (w_ok (p3 - p2) (by omega)), hB 0 h1, hP 2 (w_ok (p1 + p3) (by omega)), hP 0 (Q12 (p1 + p3) (by omega)), hP 0 (Q1q (p1 + p3)), hP 0 (Q13 ((p1 + p3) / 2) (by omega)), hP 3 (w_ok (((p1 + p3) / 2) + p2) (by omega)), hB 5 h2, hP 5 (w_ok ((((p1 + p3) / 2) + p2) - 1) (by omega)), hS 0 false (Fld.Q5 p0 6 rfl), hP 3 (w_ok (y7_1 - y7_2) (by have g0 := hy3; omega)), hB 3 h3, hB 3 h4, hQ (Fld.Q5 (Qb n0 p0 y7_2 p2 (y7_1 - y7_2)) 6 rfl), hB 9 h5, hB 3 h6, hQ (Fld.Q5 (Q6 k n0 (Qb n0 p0 y7_2 p2 (y7_1 - y7_2)) p1 y7_2 y7_0) 6 rfl), hB 9 h7] [aV [(0, Fld.rows p0)] hl3, aV [(0, Fld.rows (Qb n0 p0 y7_2 p2 (y7_1 - y7_2)))] (Q1s n0 p0 y7_2 p2 (y7_1 - y7_2) hn (by have g0 := hy3; omega)), aV [(0, Fld.rows (Q6 k n0 (Qb n0 p0 y7_2 p2 (y7_1 - y7_2)) p1 y7_2 y7_0))] (ih n0 (Qb n0 p0 y7_2 p2 (y7_1 - y7_2)) p1 y7_2 y7_0 (Qh n0 p0 y7_2 p2 (y7_1 - y7_2) hn) (by have f0 := (Qh n0 p0 y7_2 p2 (y7_1 - y7_2) hn); have g0 := hy3; omega) (by have f0 := (Qh n0 p0 y7_2 p2 (y7_1 - y7_2) hn); have g0 := hy3; omega))] (by kernel_rfl)
 | false =>
  have e6 := of_decide_eq_false h6
  cases h7 : (decide (y7_0 < (y7_1 - y7_2))) with
  | true =>
   have e7 := of_decide_eq_true h7
   cases h8 : (decide ((y7_1 - y7_2) < p3)) with
   | true =>
    have e8 := of_decide_eq_true h8
    exact Q9 (fn := Ir.K1f) rfl (vk1 (Fld.Q5 p0 6 rfl)) [hP 2 (w_ok (p2 - p1) (by omega)), hB 0 h0, hP 2 (w_ok (p3 - p2) (by omega)), hB 0 h1, hP 2 (w_ok (p1 + p3) (by omega)), hP 0 (Q12 (p1 + p3) (by omega)), hP 0 (Q1q (p1 + p3)), hP 0 (Q13 ((p1 + p3) / 2) (by omega)), hP 3 (w_ok (((p1 + p3) / 2) + p2) (by omega)), hB 5 h2, hP 5 (w_ok ((((p1 + p3) / 2) + p2) - 1) (by omega)), hS 0 false (Fld.Q5 p0 6 rfl), hP 3 (w_ok (y7_1 - y7_2) (by have g0 := hy3; omega)), hB 3 h3, hB 3 h4, hQ (Fld.Q5 (Qb n0 p0 y7_2 p2 (y7_1 - y7_2)) 6 rfl), hB 9 h5, hB 3 h6, hB 3 h7, hB 3 h8, hQ (Fld.Q5 (Q6 k n0 (Qb n0 p0 y7_2 p2 (y7_1 - y7_2)) y7_0 (y7_1 - y7_2) p3) 6 rfl)] [aV [(0, Fld.rows p0)] hl3, aV [(0, Fld.rows (Qb n0 p0 y7_2 p2 (y7_1 - y7_2)))] (Q1s n0 p0 y7_2 p2 (y7_1 - y7_2) hn (by have g0 := hy3; omega)), aV [(0, Fld.rows (Q6 k n0 (Qb n0 p0 y7_2 p2 (y7_1 - y7_2)) y7_0 (y7_1 - y7_2) p3))] (ih n0 (Qb n0 p0 y7_2 p2 (y7_1 - y7_2)) y7_0 (y7_1 - y7_2) p3 (Qh n0 p0 y7_2 p2 (y7_1 - y7_2) hn) (by have f0 := (Qh n0 p0 y7_2 p2 (y7_1 - y7_2) hn); have g0 := hy3; omega) (by have f0 := (Qh n0 p0 y7_2 p2 (y7_1 - y7_2) hn); have g0 := hy3; omega))] (by kernel_rfl)
   | false =>
    have e8 := of_decide_eq_false h8
    exact Q9 (fn := Ir.K1f) rfl (vk1 (Fld.Q5 p0 6 rfl)) [hP 2 (w_ok (p2 - p1) (by omega)), hB 0 h0, hP 2 (w_ok (p3 - p2) (by omega)), hB 0 h1, hP 2 (w_ok (p1 + p3) (by omega)), hP 0 (Q12 (p1 + p3) (by omega)), hP 0 (Q1q (p1 + p3)), hP 0 (Q13 ((p1 + p3) / 2) (by omega)), hP 3 (w_ok (((p1 + p3) / 2) + p2) (by omega)), hB 5 h2, hP 5 (w_ok ((((p1 + p3) / 2) + p2) - 1) (by omega)), hS 0 false (Fld.Q5 p0 6 rfl), hP 3 (w_ok (y7_1 - y7_2) (by have g0 := hy3; omega)), hB 3 h3, hB 3 h4, hQ (Fld.Q5 (Qb n0 p0 y7_2 p2 (y7_1 - y7_2)) 6 rfl), hB 9 h5, hB 3 h6, hB 3 h7, hB 3 h8] [aV [(0, Fld.rows p0)] hl3, aV [(0, Fld.rows (Qb n0 p0 y7_2 p2 (y7_1 - y7_2)))] (Q1s n0 p0 y7_2 p2 (y7_1 - y7_2) hn (by have g0 := hy3; omega))] (by kernel_rfl)
  | false =>
   have e7 := of_decide_eq_false h7
   exact Q9 (fn := Ir.K1f) rfl (vk1 (Fld.Q5 p0 6 rfl)) [hP 2 (w_ok (p2 - p1) (by omega)), hB 0 h0, hP 2 (w_ok (p3 - p2) (by omega)), hB 0 h1, hP 2 (w_ok (p1 + p3) (by omega)), hP 0 (Q12 (p1 + p3) (by omega)), hP 0 (Q1q (p1 + p3)), hP 0 (Q13 ((p1 + p3) / 2) (by omega)), hP 3 (w_ok (((p1 + p3) / 2) + p2) (by omega)), hB 5 h2, hP 5 (w_ok ((((p1 + p3) / 2) + p2) - 1) (by omega)), hS 0 false (Fld.Q5 p0 6 rfl), hP 3 (w_ok (y7_1 - y7_2) (by have g0 := hy3; omega)), hB 3 h3, hB 3 h4, hQ (Fld.Q5 (Qb n0 p0 y7_2 p2 (y7_1 - y7_2)) 6 rfl), hB 9 h5, hB 3 h6, hB 3 h7] [aV [(0, Fld.rows p0)] hl3, aV [(0, Fld.rows (Qb n0 p0 y7_2 p2 (y7_1 - y7_2)))] (Q1s n0 p0 y7_2 p2 (y7_1 - y7_2) hn (by have g0 := hy3; omega))] (by kernel_rfl)
theorem Qu2 (k : Nat) (ih : Q1o k) (n0 : Nat) (p0 : List Fld) (p1 : Int) (p2 : Int) (p3 : Int) (hn : List.length p0 = n0) (hq0 : 0 ≤ p1 ∧ p1 < p2 ∧ p2 < p3 ∧ p3 ≤ n0 ∧ (n0 : Int) ≤ 1152921504606846976) (hm : Int.toNat (p3 - p1) < k + 1) (h0 : ((p2 - p1) == 1) = false) (h1 : ((p3 - p2) == 1) = false) (h2 : (decide (((p1 + p3) / 2) < p2)) = false) (y7_0 : Int) (y7_1 : Int) (y7_2 : Int) (hy3 : y7_0 = ((p1 + p3) / 2) ∧ y7_1 = (((p1 + p3) / 2) + p2) ∧ p1 ≤ y7_2 ∧ y7_2 ≤ p2 ∧ y7_1 - y7_2 ≤ p3) (z3 : Nat → PV) (zo3 : Nat → List PV) (hl3 : Q7 G (Q24 n0 p0 p1 p2 p3 ((p1 + p3) / 2) (((p1 + p3) / 2) + p2) p1 p2 ((((p1 + p3) / 2) + p2) - 1)) (.st (.exit 8) (Q1w n0 p0 p1 p2 p3 y7_0 y7_1 y7_2 z3 zo3))) (h3 : (decide (y7_2 < p2)) = true) (h4 : (decide (p2 < (y7_1 - y7_2))) = true) (h5 : (decide (p1 < y7_2)) = false) : Q7 G (Q22 n0 p0 p1 p2 p3) (.ret (.tup []) [⟨6, 0, false, (Fld.rows (bif (decide (y7_0 < (y7_1 - y7_2))) then
   bif (decide ((y7_1 - y7_2) < p3)) then
    (Q6 k n0 (Qb n0 p0 y7_2 p2 (y7_1 - y7_2)) y7_0 (y7_1 - y7_2) p3)
   else
    (Qb n0 p0 y7_2 p2 (y7_1 - y7_2))
 else
   (Qb n0 p0 y7_2 p2 (y7_1 - y7_2)))).flatten⟩]) := by
 have e0 := beq_eq_false_iff_ne.1 h0; have e1 := beq_eq_false_iff_ne.1 h1; have e2 := of_decide_eq_false h2; have e3 := of_decide_eq_true h3; have e4 := of_decide_eq_true h4; have e5 := of_decide_eq_false h5
 cases h6 : (decide (y7_0 < (y7_1 - y7_2))) with
 | true =>
  have e6 := of_decide_eq_true h6
  cases h7 : (decide ((y7_1 - y7_2) < p3)) with
  | true =>
   have e7 := of_decide_eq_true h7
   exact Q9 (fn := Ir.K1f) rfl (vk1 (Fld.Q5 p0 6 rfl)) [hP 2 (w_ok (p2 - p1) (by omega)), hB 0 h0, hP 2 (w_ok (p3 - p2) (by omega)), hB 0 h1, hP 2 (w_ok (p1 + p3) (by omega)), hP 0 (Q12 (p1 + p3) (by omega)), hP 0 (Q1q (p1 + p3)), hP 0 (Q13 ((p1 + p3) / 2) (by omega)), hP 3 (w_ok (((p1 + p3) / 2) + p2) (by omega)), hB 5 h2, hP 5 (w_ok ((((p1 + p3) / 2) + p2) - 1) (by omega)), hS 0 false (Fld.Q5 p0 6 rfl), hP 3 (w_ok (y7_1 - y7_2) (by have g0 := hy3; omega)), hB 3 h3, hB 3 h4, hQ (Fld.Q5 (Qb n0 p0 y7_2 p2 (y7_1 - y7_2)) 6 rfl), hB 9 h5, hB 7 h6, hB 3 h7, hQ (Fld.Q5 (Q6 k n0 (Qb n0 p0 y7_2 p2 (y7_1 - y7_2)) y7_0 (y7_1 - y7_2) p3) 6 rfl)] [aV [(0, Fld.rows p0)] hl3, aV [(0, Fld.rows (Qb n0 p0 y7_2 p2 (y7_1 - y7_2)))] (Q1s n0 p0 y7_2 p2 (y7_1 - y7_2) hn (by have g0 := hy3; omega)), aV [(0, Fld.rows (Q6 k n0 (Qb n0 p0 y7_2 p2 (y7_1 - y7_2)) y7_0 (y7_1 - y7_2) p3))] (ih n0 (Qb n0 p0 y7_2 p2 (y7_1 - y7_2)) y7_0 (y7_1 - y7_2) p3 (Qh n0 p0 y7_2 p2 (y7_1 - y7_2) hn) (by have f0 := (Qh n0 p0 y7_2 p2 (y7_1 - y7_2) hn); have g0 := hy3; omega) (by have f0 := (Qh n0 p0 y7_2 p2 (y7_1 - y7_2) hn); have g0 := hy3; omega))] (by kernel_rfl)
  | false =>
   have e7 := of_decide_eq_false h7
   exact Q9 (fn := Ir.K1f) rfl (vk1 (Fld.Q5 p0 6 rfl)) [hP 2 (w_ok (p2 - p1) (by omega)), hB 0 h0, hP 2 (w_ok (p3 - p2) (by omega)), hB 0 h1, hP 2 (w_ok (p1 + p3) (by omega)), hP 0 (Q12 (p1 + p3) (by omega)), hP 0 (Q1q (p1 + p3)), hP 0 (Q13 ((p1 + p3) / 2) (by omega)), hP 3 (w_ok (((p1 + p3) / 2) + p2) (by omega)), hB 5 h2, hP 5 (w_ok ((((p1 + p3) / 2) + p2) - 1) (by omega)), hS 0 false (Fld.Q5 p0 6 rfl), hP 3 (w_ok (y7_1 - y7_2) (by have g0 := hy3; omega)), hB 3 h3, hB 3 h4, hQ (Fld.Q5 (Qb n0 p0 y7_2 p2 (y7_1 - y7_2)) 6 rfl), hB 9 h5, hB 7 h6, hB 3 h7] [aV [(0, Fld.rows p0)] hl3, aV [(0, Fld.rows (Qb n0 p0 y7_2 p2 (y7_1 - y7_2)))] (Q1s n0 p0 y7_2 p2 (y7_1 - y7_2) hn (by have g0 := hy3; omega))] (by kernel_rfl)
 | false =>
  have e6 := of_decide_eq_false h6
  exact Q9 (fn := Ir.K1f) rfl (vk1 (Fld.Q5 p0 6 rfl)) [hP 2 (w_ok (p2 - p1) (by omega)), hB 0 h0, hP 2 (w_ok (p3 - p2) (by omega)), hB 0 h1, hP 2 (w_ok (p1 + p3) (by omega)), hP 0 (Q12 (p1 + p3) (by omega)), hP 0 (Q1q (p1 + p3)), hP 0 (Q13 ((p1 + p3) / 2) (by omega)), hP 3 (w_ok (((p1 + p3) / 2) + p2) (by omega)), hB 5 h2, hP 5 (w_ok ((((p1 + p3) / 2) + p2) - 1) (by omega)), hS 0 false (Fld.Q5 p0 6 rfl), hP 3 (w_ok (y7_1 - y7_2) (by have g0 := hy3; omega)), hB 3 h3, hB 3 h4, hQ (Fld.Q5 (Qb n0 p0 y7_2 p2 (y7_1 - y7_2)) 6 rfl), hB 9 h5, hB 7 h6] [aV [(0, Fld.rows p0)] hl3, aV [(0, Fld.rows (Qb n0 p0 y7_2 p2 (y7_1 - y7_2)))] (Q1s n0 p0 y7_2 p2 (y7_1 - y7_2) hn (by have g0 := hy3; omega))] (by kernel_rfl)
theorem Qqd (k : Nat) (ih : Q1o k) (n0 : Nat) (p0 : List Fld) (p1 : Int) (p2 : Int) (p3 : Int) (hn : List.length p0 = n0) (hq0 : 0 ≤ p1 ∧ p1 < p2 ∧ p2 < p3 ∧ p3 ≤ n0 ∧ (n0 : Int) ≤ 1152921504606846976) (_hm : Int.toNat (p3 - p1) < k + 1) (h0 : ((p2 - p1) == 1) = false) (h1 : ((p3 - p2) == 1) = false) (h2 : (decide (((p1 + p3) / 2) < p2)) = false) (y7_0 : Int) (y7_1 : Int) (y7_2 : Int) (hy3 : y7_0 = ((p1 + p3) / 2) ∧ y7_1 = (((p1 + p3) / 2) + p2) ∧ p1 ≤ y7_2 ∧ y7_2 ≤ p2 ∧ y7_1 - y7_2 ≤ p3) (z3 : Nat → PV) (zo3 : Nat → List PV) (hl3 : Q7 G (Q24 n0 p0 p1 p2 p3 ((p1 + p3) / 2) (((p1 + p3) / 2) + p2) p1 p2 ((((p1 + p3) / 2) + p2) - 1)) (.st (.exit 8) (Q1w n0 p0 p1 p2 p3 y7_0 y7_1 y7_2 z3 zo3))) (h3 : (decide (y7_2 < p2)) = true) (h4 : (decide (p2 < (y7_1 - y7_2))) = false) (h5 : (decide (p1 < y7_2)) = true) : Q7 G (Q22 n0 p0 p1 p2 p3) (.ret (.tup []) [⟨6, 0, false, (Fld.rows (bif (decide (y7_2 < y7_0)) then
   bif (decide (y7_0 < (y7_1 - y7_2))) then
     bif (decide ((y7_1 - y7_2) < p3)) then
      (Q6 k n0 (Q6 k n0 p0 p1 y7_2 y7_0) y7_0 (y7_1 - y7_2) p3)
     else
      (Q6 k n0 p0 p1 y7_2 y7_0)
   else
     (Q6 k n0 p0 p1 y7_2 y7_0)
 else
   bif (decide (y7_0 < (y7_1 - y7_2))) then
     bif (decide ((y7_1 - y7_2) < p3)) then
      (Q6 k n0 p0 y7_0 (y7_1 - y7_2) p3)
     else
      p0
   else
     p0)).flatten⟩]) := by
 have e0 := beq_eq_false_iff_ne.1 h0; have e1 := beq_eq_false_iff_ne.1 h1; have e2 := of_decide_eq_false h2; have e3 := of_decide_eq_true h3; have e4 := of_decide_eq_false h4; have e5 := of_decide_eq_true h5
 cases h6 : (decide (y7_2 < y7_0)) with
 | true =>
  have e6 := of_decide_eq_true h6
  cases h7 : (decide (y7_0 < (y7_1 - y7_2))) with
  | true =>
   have e7 := of_decide_eq_true h7
   cases h8 : (decide ((y7_1 - y7_2) < p3)) with
   | true =>
    have e8 := of_decide_eq_true h8
    exact Q9 (fn := Ir.K1f) rfl (vk1 (Fld.Q5 p0 6 rfl)) [hP 2 (w_ok (p2 - p1) (by omega)), hB 0 h0, hP 2 (w_ok (p3 - p2) (by omega)), hB 0 h1, hP 2 (w_ok (p1 + p3) (by omega)), hP 0 (Q12 (p1 + p3) (by omega)), hP 0 (Q1q (p1 + p3)), hP 0 (Q13 ((p1 + p3) / 2) (by omega)), hP 3 (w_ok (((p1 + p3) / 2) + p2) (by omega)), hB 5 h2, hP 5 (w_ok ((((p1 + p3) / 2) + p2) - 1) (by omega)), hS 0 false (Fld.Q5 p0 6 rfl), hP 3 (w_ok (y7_1 - y7_2) (by have g0 := hy3; omega)), hB 3 h3, hB 3 h4, hB 3 h5, hB 3 h6, hQ (Fld.Q5 (Q6 k n0 p0 p1 y7_2 y7_0) 6 rfl), hB 9 h7, hB 3 h8, hQ (Fld.Q5 (Q6 k n0 (Q6 k n0 p0 p1 y7_2 y7_0) y7_0 (y7_1 - y7_2) p3) 6 rfl)] [aV [(0, Fld.rows p0)] hl3, aV [(0, Fld.rows (Q6 k n0 p0 p1 y7_2 y7_0))] (ih n0 p0 p1 y7_2 y7_0 hn (by have g0 := hy3; omega) (by have g0 := hy3; omega)), aV [(0, Fld.rows (Q6 k n0 (Q6 k n0 p0 p1 y7_2 y7_0) y7_0 (y7_1 - y7_2) p3))] (ih n0 (Q6 k n0 p0 p1 y7_2 y7_0) y7_0 (y7_1 - y7_2) p3 (Qc k n0 p0 p1 y7_2 y7_0 hn) (by have f0 := (Qc k n0 p0 p1 y7_2 y7_0 hn); have g0 := hy3; omega) (by have f0 := (Qc k n0 p0 p1 y7_2 y7_0 hn); have g0 := hy3; omega))] (by kernel_rfl)
   | false =>
    have e8 := of_decide_eq_false h8
    exact Q9 (fn := Ir.K1f) rfl (vk1 (Fld.Q5 p0 6 rfl)) [hP 2 (w_ok (p2 - p1) (by omega)), hB 0 h0, hP 2 (w_ok (p3 - p2) (by omega)), hB 0 h1, hP 2 (w_ok (p1 + p3) (by omega)), hP 0 (Q12 (p1 + p3) (by omega)), hP 0 (Q1q (p1 + p3)), hP 0 (Q13 ((p1 + p3) / 2) (by omega)), hP 3 (w_ok (((p1 + p3) / 2) + p2) (by omega)), hB 5 h2, hP 5 (w_ok ((((p1 + p3) / 2) + p2) - 1) (by omega)), hS 0 false (Fld.Q5 p0 6 rfl), hP 3 (w_ok (y7_1 - y7_2) (by have g0 := hy3; omega)), hB 3 h3, hB 3 h4, hB 3 h5, hB 3 h6, hQ (Fld.Q5 (Q6 k n0 p0 p1 y7_2 y7_0) 6 rfl), hB 9 h7, hB 3 h8] [aV [(0, Fld.rows p0)] hl3, aV [(0, Fld.rows (Q6 k n0 p0 p1 y7_2 y7_0))] (ih n0 p0 p1 y7_2 y7_0 hn (by have g0 := hy3; omega) (by have g0 := hy3; omega))] (by kernel_rfl)
  | false =>
   have e7 := of_decide_eq_false h7
   exact Q9 (fn := Ir.K1f) rfl (vk1 (Fld.Q5 p0 6 rfl)) [hP 2 (w_ok (p2 - p1) (by omega)), hB 0 h0, hP 2 (w_ok (p3 - p2) (by omega)), hB 0 h1, hP 2 (w_ok (p1 + p3) (by omega)), hP 0 (Q12 (p1 + p3) (by omega)), hP 0 (Q1q (p1 + p3)), hP 0 (Q13 ((p1 + p3) / 2) (by omega)), hP 3 (w_ok (((p1 + p3) / 2) + p2) (by omega)), hB 5 h2, hP 5 (w_ok ((((p1 + p3) / 2) + p2) - 1) (by omega)), hS 0 false (Fld.Q5 p0 6 rfl), hP 3 (w_ok (y7_1 - y7_2) (by have g0 := hy3; omega)), hB 3 h3, hB 3 h4, hB 3 h5, hB 3 h6, hQ (Fld.Q5 (Q6 k n0 p0 p1 y7_2 y7_0) 6 rfl), hB 9 h7] [aV [(0, Fld.rows p0)] hl3, aV [(0, Fld.rows (Q6 k n0 p0 p1 y7_2 y7_0))] (ih n0 p0 p1 y7_2 y7_0 hn (by have g0 := hy3; omega) (by have g0 := hy3; omega))] (by kernel_rfl)
 | false =>
  have e6 := of_decide_eq_false h6
  cases h7 : (decide (y7_0 < (y7_1 - y7_2))) with
  | true =>
   have e7 := of_decide_eq_true h7
   cases h8 : (decide ((y7_1 - y7_2) < p3)) with
   | true =>
    have e8 := of_decide_eq_true h8
    exact Q9 (fn := Ir.K1f) rfl (vk1 (Fld.Q5 p0 6 rfl)) [hP 2 (w_ok (p2 - p1) (by omega)), hB 0 h0, hP 2 (w_ok (p3 - p2) (by omega)), hB 0 h1, hP 2 (w_ok (p1 + p3) (by omega)), hP 0 (Q12 (p1 + p3) (by omega)), hP 0 (Q1q (p1 + p3)), hP 0 (Q13 ((p1 + p3) / 2) (by omega)), hP 3 (w_ok (((p1 + p3) / 2) + p2) (by omega)), hB 5 h2, hP 5 (w_ok ((((p1 + p3) / 2) + p2) - 1) (by omega)), hS 0 false (Fld.Q5 p0 6 rfl), hP 3 (w_ok (y7_1 - y7_2) (by have g0 := hy3; omega)), hB 3 h3, hB 3 h4, hB 3 h5, hB 3 h6, hB 3 h7, hB 3 h8, hQ (Fld.Q5 (Q6 k n0 p0 y7_0 (y7_1 - y7_2) p3) 6 rfl)] [aV [(0, Fld.rows p0)] hl3, aV [(0, Fld.rows (Q6 k n0 p0 y7_0 (y7_1 - y7_2) p3))] (ih n0 p0 y7_0 (y7_1 - y7_2) p3 hn (by have g0 := hy3; omega) (by have g0 := hy3; omega))] (by kernel_rfl)
   | false =>
    have e8 := of_decide_eq_false h8
    exact Q9 (fn := Ir.K1f) rfl (vk1 (Fld.Q5 p0 6 rfl)) [hP 2 (w_ok (p2 - p1) (by omega)), hB 0 h0, hP 2 (w_ok (p3 - p2) (by omega)), hB 0 h1, hP 2 (w_ok (p1 + p3) (by omega)), hP 0 (Q12 (p1 + p3) (by omega)), hP 0 (Q1q (p1 + p3)), hP 0 (Q13 ((p1 + p3) / 2) (by omega)), hP 3 (w_ok (((p1 + p3) / 2) + p2) (by omega)), hB 5 h2, hP 5 (w_ok ((((p1 + p3) / 2) + p2) - 1) (by omega)), hS 0 false (Fld.Q5 p0 6 rfl), hP 3 (w_ok (y7_1 - y7_2) (by have g0 := hy3; omega)), hB 3 h3, hB 3 h4, hB 3 h5, hB 3 h6, hB 3 h7, hB 3 h8] [aV [(0, Fld.rows p0)] hl3] (by kernel_rfl)
  | false =>
   have e7 := of_decide_eq_false h7
   exact Q9 (fn := Ir.K1f) rfl (vk1 (Fld.Q5 p0 6 rfl)) [hP 2 (w_ok (p2 - p1) (by omega)), hB 0 h0, hP 2 (w_ok (p3 - p2) (by omega)), hB 0 h1, hP 2 (w_ok (p1 + p3) (by omega)), hP 0 (Q12 (p1 + p3) (by omega)), hP 0 (Q1q (p1 + p3)), hP 0 (Q13 ((p1 + p3) / 2) (by omega)), hP 3 (w_ok (((p1 + p3) / 2) + p2) (by omega)), hB 5 h2, hP 5 (w_ok ((((p1 + p3) / 2) + p2) - 1) (by omega)), hS 0 false (Fld.Q5 p0 6 rfl), hP 3 (w_ok (y7_1 - y7_2) (by have g0 := hy3; omega)), hB 3 h3, hB 3 h4, hB 3 h5, hB 3 h6, hB 3 h7] [aV [(0, Fld.rows p0)] hl3] (by kernel_rfl)
theorem Qos (k : Nat) (ih : Q1o k) (n0 : Nat) (p0 : List Fld) (p1 : Int) (p2 : Int) (p3 : Int) (hn : List.length p0 = n0) (hq0 : 0 ≤ p1 ∧ p1 < p2 ∧ p2 < p3 ∧ p3 ≤ n0 ∧ (n0 : Int) ≤ 1152921504606846976) (_hm : Int.toNat (p3 - p1) < k + 1) (h0 : ((p2 - p1) == 1) = false) (h1 : ((p3 - p2) == 1) = false) (h2 : (decide (((p1 + p3) / 2) < p2)) = false) (y7_0 : Int) (y7_1 : Int) (y7_2 : Int) (hy3 : y7_0 = ((p1 + p3) / 2) ∧ y7_1 = (((p1 + p3) / 2) + p2) ∧ p1 ≤ y7_2 ∧ y7_2 ≤ p2 ∧ y7_1 - y7_2 ≤ p3) (z3 : Nat → PV) (zo3 : Nat → List PV) (hl3 : Q7 G (Q24 n0 p0 p1 p2 p3 ((p1 + p3) / 2) (((p1 + p3) / 2) + p2) p1 p2 ((((p1 + p3) / 2) + p2) - 1)) (.st (.exit 8) (Q1w n0 p0 p1 p2 p3 y7_0 y7_1 y7_2 z3 zo3))) (h3 : (decide (y7_2 < p2)) = true) (h4 : (decide (p2 < (y7_1 - y7_2))) = false) (h5 : (decide (p1 < y7_2)) = false) : Q7 G (Q22 n0 p0 p1 p2 p3) (.ret (.tup []) [⟨6, 0, false, (Fld.rows (bif (decide (y7_0 < (y7_1 - y7_2))) then
   bif (decide ((y7_1 - y7_2) < p3)) then
    (Q6 k n0 p0 y7_0 (y7_1 - y7_2) p3)
   else
    p0
 else
   p0)).flatten⟩]) := by
 have e0 := beq_eq_false_iff_ne.1 h0; have e1 := beq_eq_false_iff_ne.1 h1; have e2 := of_decide_eq_false h2; have e3 := of_decide_eq_true h3; have e4 := of_decide_eq_false h4; have e5 := of_decide_eq_false h5
 cases h6 : (decide (y7_0 < (y7_1 - y7_2))) with
 | true =>
  have e6 := of_decide_eq_true h6
  cases h7 : (decide ((y7_1 - y7_2) < p3)) with
  | true =>
   have e7 := of_decide_eq_true h7
   exact Q9 (fn := Ir.K1f) rfl (vk1 (Fld.Q5 p0 6 rfl)) [hP 2 (w_ok (p2 - p1) (by omega)), hB 0 h0, hP 2 (w_ok (p3 - p2) (by omega)), hB 0 h1, hP 2 (w_ok (p1 + p3) (by omega)), hP 0 (Q12 (p1 + p3) (by omega)), hP 0 (Q1q (p1 + p3)), hP 0 (Q13 ((p1 + p3) / 2) (by omega)), hP 3 (w_ok (((p1 + p3) / 2) + p2) (by omega)), hB 5 h2, hP 5 (w_ok ((((p1 + p3) / 2) + p2) - 1) (by omega)), hS 0 false (Fld.Q5 p0 6 rfl), hP 3 (w_ok (y7_1 - y7_2) (by have g0 := hy3; omega)), hB 3 h3, hB 3 h4, hB 3 h5, hB 7 h6, hB 3 h7, hQ (Fld.Q5 (Q6 k n0 p0 y7_0 (y7_1 - y7_2) p3) 6 rfl)] [aV [(0, Fld.rows p0)] hl3, aV [(0, Fld.rows (Q6 k n0 p0 y7_0 (y7_1 - y7_2) p3))] (ih n0 p0 y7_0 (y7_1 - y7_2) p3 hn (by have g0 := hy3; omega) (by have g0 := hy3; omega))] (by kernel_rfl)
  | false =>
   have e7 := of_decide_eq_false h7
   exact Q9 (fn := Ir.K1f) rfl (vk1 (Fld.Q5 p0 6 rfl)) [hP 2 (w_ok (p2 - p1) (by omega)), hB 0 h0, hP 2 (w_ok (p3 - p2) (by omega)), hB 0 h1, hP 2 (w_ok (p1 + p3) (by omega)), hP 0 (Q12 (p1 + p3) (by omega)), hP 0 (Q1q (p1 + p3)), hP 0 (Q13 ((p1 + p3) / 2) (by omega)), hP 3 (w_ok (((p1 + p3) / 2) + p2) (by omega)), hB 5 h2, hP 5 (w_ok ((((p1 + p3) / 2) + p2) - 1) (by omega)), hS 0 false (Fld.Q5 p0 6 rfl), hP 3 (w_ok (y7_1 - y7_2) (by have g0 := hy3; omega)), hB 3 h3, hB 3 h4, hB 3 h5, hB 7 h6, hB 3 h7] [aV [(0, Fld.rows p0)] hl3] (by kernel_rfl)
 | false =>
  have e6 := of_decide_eq_false h6
  exact Q9 (fn := Ir.K1f) rfl (vk1 (Fld.Q5 p0 6 rfl)) [hP 2 (w_ok (p2 - p1) (by omega)), hB 0 h0, hP 2 (w_ok (p3 - p2) (by omega)), hB 0 h1, hP 2 (w_ok (p1 + p3) (by omega)), hP 0 (Q12 (p1 + p3) (by omega)), hP 0 (Q1q (p1 + p3)), hP 0 (Q13 ((p1 + p3) / 2) (by omega)), hP 3 (w_ok (((p1 + p3) / 2) + p2) (by omega)), hB 5 h2, hP 5 (w_ok ((((p1 + p3) / 2) + p2) - 1) (by omega)), hS 0 false (Fld.Q5 p0 6 rfl), hP 3 (w_ok (y7_1 - y7_2) (by have g0 := hy3; omega)), hB 3 h3, hB 3 h4, hB 3 h5, hB 7 h6] [aV [(0, Fld.rows p0)] hl3] (by kernel_rfl)
theorem Qrs (k : Nat) (ih : Q1o k) (n0 : Nat) (p0 : List Fld) (p1 : Int) (p2 : Int) (p3 : Int) (hn : List.length p0 = n0) (hq0 : 0 ≤ p1 ∧ p1 < p2 ∧ p2 < p3 ∧ p3 ≤ n0 ∧ (n0 : Int) ≤ 1152921504606846976) (hm : Int.toNat (p3 - p1) < k + 1) (h0 : ((p2 - p1) == 1) = false) (h1 : ((p3 - p2) == 1) = false) (h2 : (decide (((p1 + p3) / 2) < p2)) = false) (y7_0 : Int) (y7_1 : Int) (y7_2 : Int) (hy3 : y7_0 = ((p1 + p3) / 2) ∧ y7_1 = (((p1 + p3) / 2) + p2) ∧ p1 ≤ y7_2 ∧ y7_2 ≤ p2 ∧ y7_1 - y7_2 ≤ p3) (z3 : Nat → PV) (zo3 : Nat → List PV) (hl3 : Q7 G (Q24 n0 p0 p1 p2 p3 ((p1 + p3) / 2) (((p1 + p3) / 2) + p2) p1 p2 ((((p1 + p3) / 2) + p2) - 1)) (.st (.exit 8) (Q1w n0 p0 p1 p2 p3 y7_0 y7_1 y7_2 z3 zo3))) (h3 : (decide (y7_2 < p2)) = false) (h4 : (decide (p1 < y7_2)) = true) : Q7 G (Q22 n0 p0 p1 p2 p3) (.ret (.tup []) [⟨6, 0, false, (Fld.rows (bif (decide (y7_2 < y7_0)) then
   bif (decide (y7_0 < (y7_1 - y7_2))) then
     bif (decide ((y7_1 - y7_2) < p3)) then
      (Q6 k n0 (Q6 k n0 p0 p1 y7_2 y7_0) y7_0 (y7_1 - y7_2) p3)
     else
      (Q6 k n0 p0 p1 y7_2 y7_0)
   else
     (Q6 k n0 p0 p1 y7_2 y7_0)
 else
   bif (decide (y7_0 < (y7_1 - y7_2))) then
     bif (decide ((y7_1 - y7_2) < p3)) then
      (Q6 k n0 p0 y7_0 (y7_1 - y7_2) p3)
     else
      p0
   else
     p0)).flatten⟩]) := by
 have e0 := beq_eq_false_iff_ne.1 h0; have e1 := beq_eq_false_iff_ne.1 h1; have e2 := of_decide_eq_false h2; have e3 := of_decide_eq_false h3; have e4 := of_decide_eq_true h4
 cases h5 : (decide (y7_2 < y7_0)) with
 | true =>
  have e5 := of_decide_eq_true h5
  cases h6 : (decide (y7_0 < (y7_1 - y7_2))) with
  | true =>
   have e6 := of_decide_eq_true h6
   cases h7 : (decide ((y7_1 - y7_2) < p3)) with
   | true =>
    have e7 := of_decide_eq_true h7
    exact Q9 (fn := Ir.K1f) rfl (vk1 (Fld.Q5 p0 6 rfl)) [hP 2 (w_ok (p2 - p1) (by omega)), hB 0 h0, hP 2 (w_ok (p3 - p2) (by omega)), hB 0 h1, hP 2 (w_ok (p1 + p3) (by omega)), hP 0 (Q12 (p1 + p3) (by omega)), hP 0 (Q1q (p1 + p3)), hP 0 (Q13 ((p1 + p3) / 2) (by omega)), hP 3 (w_ok (((p1 + p3) / 2) + p2) (by omega)), hB 5 h2, hP 5 (w_ok ((((p1 + p3) / 2) + p2) - 1) (by omega)), hS 0 false (Fld.Q5 p0 6 rfl), hP 3 (w_ok (y7_1 - y7_2) (by have g0 := hy3; omega)), hB 3 h3, hB 7 h4, hB 3 h5, hQ (Fld.Q5 (Q6 k n0 p0 p1 y7_2 y7_0) 6 rfl), hB 9 h6, hB 3 h7, hQ (Fld.Q5 (Q6 k n0 (Q6 k n0 p0 p1 y7_2 y7_0) y7_0 (y7_1 - y7_2) p3) 6 rfl)] [aV [(0, Fld.rows p0)] hl3, aV [(0, Fld.rows (Q6 k n0 p0 p1 y7_2 y7_0))] (ih n0 p0 p1 y7_2 y7_0 hn (by have g0 := hy3; omega) (by have g0 := hy3; omega)), aV [(0, Fld.rows (Q6 k n0 (Q6 k n0 p0 p1 y7_2 y7_0) y7_0 (y7_1 - y7_2) p3))] (ih n0 (Q6 k n0 p0 p1 y7_2 y7_0) y7_0 (y7_1 - y7_2) p3 (Qc k n0 p0 p1 y7_2 y7_0 hn) (by have f0 := (Qc k n0 p0 p1 y7_2 y7_0 hn); have g0 := hy3; omega) (by have f0 := (Qc k n0 p0 p1 y7_2 y7_0 hn); have g0 := hy3; omega))] (by kernel_rfl)
   | false =>
    have e7 := of_decide_eq_false h7
    exact Q9 (fn := Ir.K1f) rfl (vk1 (Fld.Q5 p0 6 rfl)) [hP 2 (w_ok (p2 - p1) (by omega)), hB 0 h0, hP 2 (w_ok (p3 - p2) (by omega)), hB 0 h1, hP 2 (w_ok (p1 + p3) (by omega)), hP 0 (Q12 (p1 + p3) (by omega)), hP 0 (Q1q (p1 + p3)), hP 0 (Q13 ((p1 + p3) / 2) (by omega)), hP 3 (w_ok (((p1 + p3) / 2) + p2) (by omega)), hB 5 h2, hP 5 (w_ok ((((p1 + p3) / 2) + p2) - 1) (by omega)), hS 0 false (Fld.Q5 p0 6 rfl), hP 3 (w_ok (y7_1 - y7_2) (by have g0 := hy3; omega)), hB 3 h3, hB 7 h4, hB 3 h5, hQ (Fld.Q5 (Q6 k n0 p0 p1 y7_2 y7_0) 6 rfl), hB 9 h6, hB 3 h7] [aV [(0, Fld.rows p0)] hl3, aV [(0, Fld.rows (Q6 k n0 p0 p1 y7_2 y7_0))] (ih n0 p0 p1 y7_2 y7_0 hn (by have g0 := hy3; omega) (by have g0 := hy3; omega))] (by kernel_rfl)
  | false =>
   have e6 := of_decide_eq_false h6
   exact Q9 (fn := Ir.K1f) rfl (vk1 (Fld.Q5 p0 6 rfl)) [hP 2 (w_ok (p2 - p1) (by omega)), hB 0 h0, hP 2 (w_ok (p3 - p2) (by omega)), hB 0 h1, hP 2 (w_ok (p1 + p3) (by omega)), hP 0 (Q12 (p1 + p3) (by omega)), hP 0 (Q1q (p1 + p3)), hP 0 (Q13 ((p1 + p3) / 2) (by omega)), hP 3 (w_ok (((p1 + p3) / 2) + p2) (by omega)), hB 5 h2, hP 5 (w_ok ((((p1 + p3) / 2) + p2) - 1) (by omega)), hS 0 false (Fld.Q5 p0 6 rfl), hP 3 (w_ok (y7_1 - y7_2) (by have g0 := hy3; omega)), hB 3 h3, hB 7 h4, hB 3 h5, hQ (Fld.Q5 (Q6 k n0 p0 p1 y7_2 y7_0) 6 rfl), hB 9 h6] [aV [(0, Fld.rows p0)] hl3, aV [(0, Fld.rows (Q6 k n0 p0 p1 y7_2 y7_0))] (ih n0 p0 p1 y7_2 y7_0 hn (by have g0 := hy3; omega) (by have g0 := hy3; omega))] (by kernel_rfl)
 | false =>
  have e5 := of_decide_eq_false h5
  cases h6 : (decide (y7_0 < (y7_1 - y7_2))) with
  | true =>
   have e6 := of_decide_eq_true h6
   cases h7 : (decide ((y7_1 - y7_2) < p3)) with
   | true =>
    have e7 := of_decide_eq_true h7
    exact Q9 (fn := Ir.K1f) rfl (vk1 (Fld.Q5 p0 6 rfl)) [hP 2 (w_ok (p2 - p1) (by omega)), hB 0 h0, hP 2 (w_ok (p3 - p2) (by omega)), hB 0 h1, hP 2 (w_ok (p1 + p3) (by omega)), hP 0 (Q12 (p1 + p3) (by omega)), hP 0 (Q1q (p1 + p3)), hP 0 (Q13 ((p1 + p3) / 2) (by omega)), hP 3 (w_ok (((p1 + p3) / 2) + p2) (by omega)), hB 5 h2, hP 5 (w_ok ((((p1 + p3) / 2) + p2) - 1) (by omega)), hS 0 false (Fld.Q5 p0 6 rfl), hP 3 (w_ok (y7_1 - y7_2) (by have g0 := hy3; omega)), hB 3 h3, hB 7 h4, hB 3 h5, hB 3 h6, hB 3 h7, hQ (Fld.Q5 (Q6 k n0 p0 y7_0 (y7_1 - y7_2) p3) 6 rfl)] [aV [(0, Fld.rows p0)] hl3, aV [(0, Fld.rows (Q6 k n0 p0 y7_0 (y7_1 - y7_2) p3))] (ih n0 p0 y7_0 (y7_1 - y7_2) p3 hn (by have g0 := hy3; omega) (by have g0 := hy3; omega))] (by kernel_rfl)
   | false =>
    have e7 := of_decide_eq_false h7
    exact Q9 (fn := Ir.K1f) rfl (vk1 (Fld.Q5 p0 6 rfl)) [hP 2 (w_ok (p2 - p1) (by omega)), hB 0 h0, hP 2 (w_ok (p3 - p2) (by omega)), hB 0 h1, hP 2 (w_ok (p1 + p3) (by omega)), hP 0 (Q12 (p1 + p3) (by omega)), hP 0 (Q1q (p1 + p3)), hP 0 (Q13 ((p1 + p3) / 2) (by omega)), hP 3 (w_ok (((p1 + p3) / 2) + p2) (by omega)), hB 5 h2, hP 5 (w_ok ((((p1 + p3) / 2) + p2) - 1) (by omega)), hS 0 false (Fld.Q5 p0 6 rfl), hP 3 (w_ok (y7_1 - y7_2) (by have g0 := hy3; omega)), hB 3 h3, hB 7 h4, hB 3 h5, hB 3 h6, hB 3 h7] [aV [(0, Fld.rows p0)] hl3] (by kernel_rfl)
  | false =>
   have e6 := of_decide_eq_false h6
   exact Q9 (fn := Ir.K1f) rfl (vk1 (Fld.Q5 p0 6 rfl)) [hP 2 (w_ok (p2 - p1) (by omega)), hB 0 h0, hP 2 (w_ok (p3 - p2) (by omega)), hB 0 h1, hP 2 (w_ok (p1 + p3) (by omega)), hP 0 (Q12 (p1 + p3) (by omega)), hP 0 (Q1q (p1 + p3)), hP 0 (Q13 ((p1 + p3) / 2) (by omega)), hP 3 (w_ok (((p1 + p3) / 2) + p2) (by omega)), hB 5 h2, hP 5 (w_ok ((((p1 + p3) / 2) + p2) - 1) (by omega)), hS 0 false (Fld.Q5 p0 6 rfl), hP 3 (w_ok (y7_1 - y7_2) (by have g0 := hy3; omega)), hB 3 h3, hB 7 h4, hB 3 h5, hB 3 h6] [aV [(0, Fld.rows p0)] hl3] (by kernel_rfl)
theorem Qrv (k : Nat) (ih : Q1o k) (n0 : Nat) (p0 : List Fld) (p1 : Int) (p2 : Int) (p3 : Int) (hn : List.length p0 = n0) (hq0 : 0 ≤ p1 ∧ p1 < p2 ∧ p2 < p3 ∧ p3 ≤ n0 ∧ (n0 : Int) ≤ 1152921504606846976) (_hm : Int.toNat (p3 - p1) < k + 1) (h0 : ((p2 - p1) == 1) = false) (h1 : ((p3 - p2) == 1) = false) (h2 : (decide (((p1 + p3) / 2) < p2)) = false) (y7_0 : Int) (y7_1 : Int) (y7_2 : Int) (hy3 : y7_0 = ((p1 + p3) / 2) ∧ y7_1 = (((p1 + p3) / 2) + p2) ∧ p1 ≤ y7_2 ∧ y7_2 ≤ p2 ∧ y7_1 - y7_2 ≤ p3) (z3 : Nat → PV) (zo3 : Nat → List PV) (hl3 : Q7 G (Q24 n0 p0 p1 p2 p3 ((p1 + p3) / 2) (((p1 + p3) / 2) + p2) p1 p2 ((((p1 + p3) / 2) + p2) - 1)) (.st (.exit 8) (Q1w n0 p0 p1 p2 p3 y7_0 y7_1 y7_2 z3 zo3))) (h3 : (decide (y7_2 < p2)) = false) (h4 : (decide (p1 < y7_2)) = false) : Q7 G (Q22 n0 p0 p1 p2 p3) (.ret (.tup []) [⟨6, 0, false, (Fld.rows (bif (decide (y7_0 < (y7_1 - y7_2))) then
   bif (decide ((y7_1 - y7_2) < p3)) then
    (Q6 k n0 p0 y7_0 (y7_1 - y7_2) p3)
   else
    p0
 else
   p0)).flatten⟩]) := by
 have e0 := beq_eq_false_iff_ne.1 h0; have e1 := beq_eq_false_iff_ne.1 h1; have e2 := of_decide_eq_false h2; have e3 := of_decide_eq_false h3; have e4 := of_decide_eq_false h4
 cases h5 : (decide (y7_0 < (y7_1 - y7_2))) with
 | true =>
  have e5 := of_decide_eq_true h5
  cases h6 : (decide ((y7_1 - y7_2) < p3)) with
  | true =>
   have e6 := of_decide_eq_true h6
   exact Q9 (fn := Ir.K1f) rfl (vk1 (Fld.Q5 p0 6 rfl)) [hP 2 (w_ok (p2 - p1) (by omega)), hB 0 h0, hP 2 (w_ok (p3 - p2) (by omega)), hB 0 h1, hP 2 (w_ok (p1 + p3) (by omega)), hP 0 (Q12 (p1 + p3) (by omega)), hP 0 (Q1q (p1 + p3)), hP 0 (Q13 ((p1 + p3) / 2) (by omega)), hP 3 (w_ok (((p1 + p3) / 2) + p2) (by omega)), hB 5 h2, hP 5 (w_ok ((((p1 + p3) / 2) + p2) - 1) (by omega)), hS 0 false (Fld.Q5 p0 6 rfl), hP 3 (w_ok (y7_1 - y7_2) (by have g0 := hy3; omega)), hB 3 h3, hB 7 h4, hB 7 h5, hB 3 h6, hQ (Fld.Q5 (Q6 k n0 p0 y7_0 (y7_1 - y7_2) p3) 6 rfl)] [aV [(0, Fld.rows p0)] hl3, aV [(0, Fld.rows (Q6 k n0 p0 y7_0 (y7_1 - y7_2) p3))] (ih n0 p0 y7_0 (y7_1 - y7_2) p3 hn (by have g0 := hy3; omega) (by have g0 := hy3; omega))] (by kernel_rfl)
  | false =>
   have e6 := of_decide_eq_false h6
   exact Q9 (fn := Ir.K1f) rfl (vk1 (Fld.Q5 p0 6 rfl)) [hP 2 (w_ok (p2 - p1) (by omega)), hB 0 h0, hP 2 (w_ok (p3 - p2) (by omega)), hB 0 h1, hP 2 (w_ok (p1 + p3) (by omega)), hP 0 (Q12 (p1 + p3) (by omega)), hP 0 (Q1q (p1 + p3)), hP 0 (Q13 ((p1 + p3) / 2) (by omega)), hP 3 (w_ok (((p1 + p3) / 2) + p2) (by omega)), hB 5 h2, hP 5 (w_ok ((((p1 + p3) / 2) + p2) - 1) (by omega)), hS 0 false (Fld.Q5 p0 6 rfl), hP 3 (w_ok (y7_1 - y7_2) (by have g0 := hy3; omega)), hB 3 h3, hB 7 h4, hB 7 h5, hB 3 h6] [aV [(0, Fld.rows p0)] hl3] (by kernel_rfl)
 | false =>
  have e5 := of_decide_eq_false h5
  exact Q9 (fn := Ir.K1f) rfl (vk1 (Fld.Q5 p0 6 rfl)) [hP 2 (w_ok (p2 - p1) (by omega)), hB 0 h0, hP 2 (w_ok (p3 - p2) (by omega)), hB 0 h1, hP 2 (w_ok (p1 + p3) (by omega)), hP 0 (Q12 (p1 + p3) (by omega)), hP 0 (Q1q (p1 + p3)), hP 0 (Q13 ((p1 + p3) / 2) (by omega)), hP 3 (w_ok (((p1 + p3) / 2) + p2) (by omega)), hB 5 h2, hP 5 (w_ok ((((p1 + p3) / 2) + p2) - 1) (by omega)), hS 0 false (Fld.Q5 p0 6 rfl), hP 3 (w_ok (y7_1 - y7_2) (by have g0 := hy3; omega)), hB 3 h3, hB 7 h4, hB 7 h5] [aV [(0, Fld.rows p0)] hl3] (by kernel_rfl)
theorem Q11t (k : Nat) (ih : Q1o k) : Q1o (k + 1) := by
 intro n0 p0 p1 p2 p3 hn hq0 hm
 unfold Qpm
 rw [Q6]
 cases h0 : ((p2 - p1) == 1) with
 | true =>
  have e0 := eq_of_beq h0
  have hl1 := Qh4 n0 p0 p1 p2 p3 ((Int.toNat (p3 - p2)) + 1) p2 p3 (by omega) (by omega) (by omega) (by omega) (by omega) (by omega) (by omega) hn (by omega)
  have hy1 : p2 ≤ (Q2k n0 p0 p1 p2 p3 ((Int.toNat (p3 - p2)) + 1) p2 p3) ∧ (Q2k n0 p0 p1 p2 p3 ((Int.toNat (p3 - p2)) + 1) p2 p3) ≤ p3 := Qfa n0 p0 p1 p2 p3 ((Int.toNat (p3 - p2)) + 1) p2 p3 (by omega) (by omega) (by omega) (by omega) (by omega) (by omega) (by omega) hn (by omega)
  obtain ⟨R2, eR2⟩ : ∃ R, (Q2k n0 p0 p1 p2 p3 ((Int.toNat (p3 - p2)) + 1) p2 p3) = R := ⟨_, rfl⟩
  rw [eR2] at hy1 hl1 ⊢
  obtain ⟨z1, zo1, hl1⟩ := hl1
  have hl2 := Qp0 n0 ((Int.toNat (R2 - p1)) + 1) R2 p0 p1 (by have g0 := hy1; omega) (by have g0 := hy1; omega) (by have g0 := hy1; omega) (by have g0 := hy1; omega) hn (by omega)
  have hz2_0 : List.length (Q2y n0 ((Int.toNat (R2 - p1)) + 1) R2 p0 p1) = n0 := Q8f n0 ((Int.toNat (R2 - p1)) + 1) R2 p0 p1 hn
  obtain ⟨R3, eR3⟩ : ∃ R, (Q2y n0 ((Int.toNat (R2 - p1)) + 1) R2 p0 p1) = R := ⟨_, rfl⟩
  rw [eR3] at hz2_0 hl2 ⊢
  obtain ⟨z2, zo2, hl2⟩ := hl2
  exact Qt9 k ih n0 p0 p1 p2 p3 hn hq0 hm h0 R2 hy1 z1 zo1 hl1 R3 hz2_0 z2 zo2 hl2
 | false =>
  have e0 := beq_eq_false_iff_ne.1 h0
  cases h1 : ((p3 - p2) == 1) with
  | true =>
   have e1 := eq_of_beq h1
   have hl2 := Qhg n0 p0 p1 p2 ((Int.toNat (p2 - p1)) + 1) p2 p1 (by omega) (by omega) (by omega) (by omega) (by omega) (by omega) hn (by omega)
   have hy2 : p1 ≤ (Q2h n0 p0 p1 p2 ((Int.toNat (p2 - p1)) + 1) p2 p1) ∧ (Q2h n0 p0 p1 p2 ((Int.toNat (p2 - p1)) + 1) p2 p1) ≤ p2 := Qgv n0 p0 p1 p2 ((Int.toNat (p2 - p1)) + 1) p2 p1 (by omega) (by omega) (by omega) (by omega) (by omega) (by omega) hn (by omega)
   obtain ⟨R4, eR4⟩ : ∃ R, (Q2h n0 p0 p1 p2 ((Int.toNat (p2 - p1)) + 1) p2 p1) = R := ⟨_, rfl⟩
   rw [eR4] at hy2 hl2 ⊢
   obtain ⟨z2, zo2, hl2⟩ := hl2
   have hl3 := Qt2 n0 ((Int.toNat (p2 - R4)) + 1) R4 p0 p2 (by have g0 := hy2; omega) (by have g0 := hy2; omega) (by have g0 := hy2; omega) hn (by omega)
   have hz3_0 : List.length (Q2v n0 ((Int.toNat (p2 - R4)) + 1) R4 p0 p2) = n0 := Q8x n0 ((Int.toNat (p2 - R4)) + 1) R4 p0 p2 hn
   obtain ⟨R5, eR5⟩ : ∃ R, (Q2v n0 ((Int.toNat (p2 - R4)) + 1) R4 p0 p2) = R := ⟨_, rfl⟩
   rw [eR5] at hz3_0 hl3 ⊢
   obtain ⟨z3, zo3, hl3⟩ := hl3
   exact Qtm k ih n0 p0 p1 p2 p3 hn hq0 hm h0 h1 R4 hy2 z2 zo2 hl2 R5 hz3_0 z3 zo3 hl3
  | false =>
   have e1 := beq_eq_false_iff_ne.1 h1
   cases h2 : (decide (((p1 + p3) / 2) < p2)) with
   | true =>
    have e2 := of_decide_eq_true h2
    have hl3 := Q9q n0 p0 p1 p2 p3 ((Int.toNat (((p1 + p3) / 2) - ((((p1 + p3) / 2) + p2) - p3))) + 1) ((p1 + p3) / 2) (((p1 + p3) / 2) + p2) ((((p1 + p3) / 2) + p2) - p3) ((p1 + p3) / 2) ((((p1 + p3) / 2) + p2) - 1) (by omega) (by omega) (by omega) (by omega) (by omega) (by omega) (by omega) (by omega) (by omega) (by omega) hn (by omega)
    have hy3 : (Q0 n0 p0 p1 p2 p3 ((Int.toNat (((p1 + p3) / 2) - ((((p1 + p3) / 2) + p2) - p3))) + 1) ((p1 + p3) / 2) (((p1 + p3) / 2) + p2) ((((p1 + p3) / 2) + p2) - p3) ((p1 + p3) / 2) ((((p1 + p3) / 2) + p2) - 1)).1 = ((p1 + p3) / 2) ∧ (Q0 n0 p0 p1 p2 p3 ((Int.toNat (((p1 + p3) / 2) - ((((p1 + p3) / 2) + p2) - p3))) + 1) ((p1 + p3) / 2) (((p1 + p3) / 2) + p2) ((((p1 + p3) / 2) + p2) - p3) ((p1 + p3) / 2) ((((p1 + p3) / 2) + p2) - 1)).2.1 = (((p1 + p3) / 2) + p2) ∧ p1 ≤ (Q0 n0 p0 p1 p2 p3 ((Int.toNat (((p1 + p3) / 2) - ((((p1 + p3) / 2) + p2) - p3))) + 1) ((p1 + p3) / 2) (((p1 + p3) / 2) + p2) ((((p1 + p3) / 2) + p2) - p3) ((p1 + p3) / 2) ((((p1 + p3) / 2) + p2) - 1)).2.2 ∧ (Q0 n0 p0 p1 p2 p3 ((Int.toNat (((p1 + p3) / 2) - ((((p1 + p3) / 2) + p2) - p3))) + 1) ((p1 + p3) / 2) (((p1 + p3) / 2) + p2) ((((p1 + p3) / 2) + p2) - p3) ((p1 + p3) / 2) ((((p1 + p3) / 2) + p2) - 1)).2.2 ≤ p2 ∧ (Q0 n0 p0 p1 p2 p3 ((Int.toNat (((p1 + p3) / 2) - ((((p1 + p3) / 2) + p2) - p3))) + 1) ((p1 + p3) / 2) (((p1 + p3) / 2) + p2) ((((p1 + p3) / 2) + p2) - p3) ((p1 + p3) / 2) ((((p1 + p3) / 2) + p2) - 1)).2.1 - (Q0 n0 p0 p1 p2 p3 ((Int.toNat (((p1 + p3) / 2) - ((((p1 + p3) / 2) + p2) - p3))) + 1) ((p1 + p3) / 2) (((p1 + p3) / 2) + p2) ((((p1 + p3) / 2) + p2) - p3) ((p1 + p3) / 2) ((((p1 + p3) / 2) + p2) - 1)).2.2 ≤ p3 := Qa0 n0 p0 p1 p2 p3 ((Int.toNat (((p1 + p3) / 2) - ((((p1 + p3) / 2) + p2) - p3))) + 1) ((p1 + p3) / 2) (((p1 + p3) / 2) + p2) ((((p1 + p3) / 2) + p2) - p3) ((p1 + p3) / 2) ((((p1 + p3) / 2) + p2) - 1) (by omega) (by omega) (by omega) (by omega) (by omega) (by omega) (by omega) (by omega) (by omega) (by omega) hn (by omega)
    obtain ⟨R6, eR6⟩ : ∃ R, (Q0 n0 p0 p1 p2 p3 ((Int.toNat (((p1 + p3) / 2) - ((((p1 + p3) / 2) + p2) - p3))) + 1) ((p1 + p3) / 2) (((p1 + p3) / 2) + p2) ((((p1 + p3) / 2) + p2) - p3) ((p1 + p3) / 2) ((((p1 + p3) / 2) + p2) - 1)) = R := ⟨_, rfl⟩
    rw [eR6] at hy3 hl3 ⊢
    obtain ⟨z3, zo3, hl3⟩ := hl3
    cases h3 : (decide (R6.2.2 < p2)) with
    | true =>
     cases h4 : (decide (p2 < (R6.2.1 - R6.2.2))) with
     | true =>
      cases h5 : (decide (p1 < R6.2.2)) with
      | true =>
       exact Qte k ih n0 p0 p1 p2 p3 hn hq0 hm h0 h1 h2 R6.1 R6.2.1 R6.2.2 hy3 z3 zo3 hl3 h3 h4 h5
      | false =>
       exact Qtg k ih n0 p0 p1 p2 p3 hn hq0 hm h0 h1 h2 R6.1 R6.2.1 R6.2.2 hy3 z3 zo3 hl3 h3 h4 h5
     | false =>
      cases h5 : (decide (p1 < R6.2.2)) with
      | true =>
       exact Qta k ih n0 p0 p1 p2 p3 hn hq0 hm h0 h1 h2 R6.1 R6.2.1 R6.2.2 hy3 z3 zo3 hl3 h3 h4 h5
      | false =>
       exact Qtn k ih n0 p0 p1 p2 p3 hn hq0 hm h0 h1 h2 R6.1 R6.2.1 R6.2.2 hy3 z3 zo3 hl3 h3 h4 h5
    | false =>
     cases h4 : (decide (p1 < R6.2.2)) with
     | true =>
      exact Qtf k ih n0 p0 p1 p2 p3 hn hq0 hm h0 h1 h2 R6.1 R6.2.1 R6.2.2 hy3 z3 zo3 hl3 h3 h4
     | false =>
      exact Qtv k ih n0 p0 p1 p2 p3 hn hq0 hm h0 h1 h2 R6.1 R6.2.1 R6.2.2 hy3 z3 zo3 hl3 h3 h4
   | false =>
    have e2 := of_decide_eq_false h2
    have hl3 := Q9q n0 p0 p1 p2 p3 ((Int.toNat (p2 - p1)) + 1) ((p1 + p3) / 2) (((p1 + p3) / 2) + p2) p1 p2 ((((p1 + p3) / 2) + p2) - 1) (by omega) (by omega) (by omega) (by omega) (by omega) (by omega) (by omega) (by omega) (by omega) (by omega) hn (by omega)
    have hy3 : (Q0 n0 p0 p1 p2 p3 ((Int.toNat (p2 - p1)) + 1) ((p1 + p3) / 2) (((p1 + p3) / 2) + p2) p1 p2 ((((p1 + p3) / 2) + p2) - 1)).1 = ((p1 + p3) / 2) ∧ (Q0 n0 p0 p1 p2 p3 ((Int.toNat (p2 - p1)) + 1) ((p1 + p3) / 2) (((p1 + p3) / 2) + p2) p1 p2 ((((p1 + p3) / 2) + p2) - 1)).2.1 = (((p1 + p3) / 2) + p2) ∧ p1 ≤ (Q0 n0 p0 p1 p2 p3 ((Int.toNat (p2 - p1)) + 1) ((p1 + p3) / 2) (((p1 + p3) / 2) + p2) p1 p2 ((((p1 + p3) / 2) + p2) - 1)).2.2 ∧ (Q0 n0 p0 p1 p2 p3 ((Int.toNat (p2 - p1)) + 1) ((p1 + p3) / 2) (((p1 + p3) / 2) + p2) p1 p2 ((((p1 + p3) / 2) + p2) - 1)).2.2 ≤ p2 ∧ (Q0 n0 p0 p1 p2 p3 ((Int.toNat (p2 - p1)) + 1) ((p1 + p3) / 2) (((p1 + p3) / 2) + p2) p1 p2 ((((p1 + p3) / 2) + p2) - 1)).2.1 - (Q0 n0 p0 p1 p2 p3 ((Int.toNat (p2 - p1)) + 1) ((p1 + p3) / 2) (((p1 + p3) / 2) + p2) p1 p2 ((((p1 + p3) / 2) + p2) - 1)).2.2 ≤ p3 := Qa0 n0 p0 p1 p2 p3 ((Int.toNat (p2 - p1)) + 1) ((p1 + p3) / 2) (((p1 + p3) / 2) + p2) p1 p2 ((((p1 + p3) / 2) + p2) - 1) (by omega) (by omega) (by omega) (by omega) (by omega) (by omega) (by omega) (by omega) (by omega) (by omega) hn (by omega)
    obtain ⟨R7, eR7⟩ : ∃ R, (Q0 n0 p0 p1 p2 p3 ((Int.toNat (p2 - p1)) + 1) ((p1 + p3) / 2) (((p1 + p3) / 2) + p2) p1 p2 ((((p1 + p3) / 2) + p2) - 1)) = R := ⟨_, rfl⟩
    rw [eR7] at hy3 hl3 ⊢
    obtain ⟨z3, zo3, hl3⟩ := hl3
    cases h3 : (decide (R7.2.2 < p2)) with
    | true =>
     cases h4 : (decide (p2 < (R7.2.1 - R7.2.2))) with
     | true =>
      cases h5 : (decide (p1 < R7.2.2)) with
      | true =>
       exact Qtb k ih n0 p0 p1 p2 p3 hn hq0 hm h0 h1 h2 R7.1 R7.2.1 R7.2.2 hy3 z3 zo3 hl3 h3 h4 h5
      | false =>
       exact Qu2 k ih n0 p0 p1 p2 p3 hn hq0 hm h0 h1 h2 R7.1 R7.2.1 R7.2.2 hy3 z3 zo3 hl3 h3 h4 h5
     | false =>
      cases h5 : (decide (p1 < R7.2.2)) with
      | true =>
       exact Qqd k ih n0 p0 p1 p2 p3 hn hq0 hm h0 h1 h2 R7.1 R7.2.1 R7.2.2 hy3 z3 zo3 hl3 h3 h4 h5
      | false =>
       exact Qos k ih n0 p0 p1 p2 p3 hn hq0 hm h0 h1 h2 R7.1 R7.2.1 R7.2.2 hy3 z3 zo3 hl3 h3 h4 h5
    | false =>
     cases h4 : (decide (p1 < R7.2.2)) with
     | true =>
      exact Qrs k ih n0 p0 p1 p2 p3 hn hq0 hm h0 h1 h2 R7.1 R7.2.1 R7.2.2 hy3 z3 zo3 hl3 h3 h4
     | false =>
      exact Qrv k ih n0 p0 p1 p2 p3 hn hq0 hm h0 h1 h2 R7.1 R7.2.1 R7.2.2 hy3 z3 zo3 hl3 h3 h4
theorem Qhp : ∀ (k : Nat), Q1o k
 | 0 => fun _ _ _ _ _ _ _ hm => absurd hm (Nat.not_lt_zero _)
 | k + 1 => Q11t k (Qhp k)
end Go.Proofs.Ytnhhddbbppbblaa
end

