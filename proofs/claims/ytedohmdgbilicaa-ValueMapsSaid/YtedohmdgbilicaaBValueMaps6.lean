/- Texts of the claim, merged by a program; what the statement does not reach is left out. -/
import Derived.Test.YtedohmdgbilicaaBValueMaps5
import Derived.Lib.Strings
import Derived.Lib.Slices
import Derived.Lib.Walk
import Derived.Lib.Bytealg

section
/- What building a map computes (printed by a program). -/
namespace Go.Proofs.Ytedohmdgbilicaa
open Go.Pv
def l_K15_b0 (n0 : Nat) (p1 : Int) : Nat → (List Fld) → Int → Int → (List Fld) × Int
  | 0, v0_0, v0_1, _v0_2 => (v0_0, v0_1)
  | k0 + 1, v0_0, v0_1, v0_2 =>
    bif (decide (v0_2 ≤ p1)) then
      l_K15_b0 n0 p1 k0 (s_K13_f51 n0 v0_0 v0_1 v0_2) v0_2 (v0_2 + 20)
    else
      (v0_0, v0_1)
def HE_K15_b0 (n0 : Nat) (p1 : Int) (_v0_0 : List Fld) (v0_1 : Int) (v0_2 : Int) : List PV :=
  [.ms 0 6 0 n0, .int .i64 p1, .fn 51 [] [], .un, .un, .un, .int .i64 20, .int .i64 v0_1, .int .i64 v0_2, .un, .un, .un, .un, .un, .un, .un, .un, .un, .un, .un, .un, .un, .un, .un, .un, .un, .un, .un, .un, .un, .un, .un, .un, .un, .un, .un, .un, .un, .un, .un, .un, .un, .un, .un, .un, .un, .un, .un, .un, .un, .un, .un, .un, .un, .un, .un, .un, .un, .un, .un, .un, .un, .un]
def HO_K15_b0 (_n0 : Nat) (_p1 : Int) (v0_0 : List Fld) (_v0_1 : Int) (_v0_2 : Int) : List Ob :=
  [⟨6, 0, false, (Fld.rows v0_0).flatten⟩]
def E_K15_b0 (n0 : Nat) (p1 : Int) (v0_0 : List Fld) (v0_1 : Int) (v0_2 : Int) : En := .loop 1 Ir.K15_b0_live Ir.K15_b0 (HE_K15_b0 n0 p1 v0_0 v0_1 v0_2) (HO_K15_b0 n0 p1 v0_0 v0_1 v0_2)
def S_K15_b0_0 (n0 : Nat) (p1 : Int) (q0 : List Fld) (q1 : Int) (z : Nat → PV) (_zo : Nat → List PV) : St :=
  ⟨[.ms 0 6 0 n0, .int .i64 p1, .fn 51 [] [], z 3, z 4, z 5, .int .i64 20, .int .i64 q1, z 8, z 9, z 10, z 11, z 12, z 13, z 14, z 15, z 16, z 17, z 18, z 19, z 20, z 21, z 22, z 23, z 24, z 25, z 26, z 27, z 28, z 29, z 30, z 31, z 32, z 33, z 34, z 35, z 36, z 37, z 38, z 39, z 40, z 41, z 42, z 43, z 44, z 45, z 46, z 47, z 48, z 49, z 50, z 51, z 52, z 53, z 54, z 55, z 56, z 57, z 58, z 59, z 60, z 61, z 62], [(0, ⟨6, 0, false, (Fld.rows q0).flatten⟩)], 193⟩
theorem V_K15_b0 (n0 : Nat) (p1 : Int) (v0_0 : List Fld) (v0_1 : Int) (v0_2 : Int) : VOK (Go.Pv.look (number 0 (HO_K15_b0 n0 p1 v0_0 v0_1 v0_2))) [(0, Fld.rows v0_0)] := (VOK.cons (show Seen _ _ from seenV (ob := ⟨6, 0, false, (Fld.rows v0_0).flatten⟩) (Fld.rowsView v0_0 6 rfl)) VOK.nil)
def P_K15_b0 (n0 : Nat) (p1 : Int) (e : En) (q : (List Fld) × Int) : Prop := ∃ z zo, Tells G e (.st (.exit 0) (S_K15_b0_0 n0 p1 q.1 q.2 z zo))
theorem P_K15_b0_mono (n0 : Nat) (p1 : Int) {e e' : En} (h : ∀ r, Tells G e r → Tells G e' r) : ∀ q, P_K15_b0 n0 p1 e q → P_K15_b0 n0 p1 e' q
  | _, ⟨z, zo, hz⟩ => ⟨z, zo, h _ hz⟩
theorem n_K15_b0_0 (n0 : Nat) (p1 : Int) (v0_0 : List Fld) (v0_1 : Int) (v0_2 : Int) (ho0_0 : 0 ≤ v0_1) (_ho0_1 : v0_1 ≤ n0) (ho0_2 : v0_1 + 20 = v0_2) (ho0_3 : p1 = n0) (ho0_4 : (n0 : Int) ≤ 1152921504606846976) (ho0_5 : List.length v0_0 = n0) (h0 : (decide (v0_2 ≤ p1)) = true) {r : Rs} (hr : Tells G (E_K15_b0 n0 p1 (s_K13_f51 n0 v0_0 v0_1 v0_2) v0_2 (v0_2 + 20)) r) : Tells G (E_K15_b0 n0 p1 v0_0 v0_1 v0_2) r := by
  have e0 := of_decide_eq_true h0
  exact tells_nextVI (V_K15_b0 n0 p1 v0_0 v0_1 v0_2) (y := (HE_K15_b0 n0 p1 (s_K13_f51 n0 v0_0 v0_1 v0_2) v0_2 (v0_2 + 20), HO_K15_b0 n0 p1 (s_K13_f51 n0 v0_0 v0_1 v0_2) v0_2 (v0_2 + 20))) [hB 2 h0, hQ (Fld.rowsView (s_K13_f51 n0 v0_0 v0_1 v0_2) 6 rfl), hP 9 (w_ok (v0_2 + 20) (by have f0 := (lens_K13_f51 n0 v0_0 v0_1 v0_2 ho0_5); omega))] [aV [(0, Fld.rows (s_K13_f51 n0 v0_0 v0_1 v0_2))] (t_K13_f51 n0 v0_0 v0_1 v0_2 ho0_5 (by omega))] (by kernel_rfl) hr
def Z_K15_b0_1 (_n0 : Nat) (p1 : Int) (_v0_0 : List Fld) (_v0_1 : Int) (v0_2 : Int) : List PV :=
  [.un, .un, .un, .un, .un, .un, .un, .un, .int .i64 v0_2, .un, .un, .int .i64 v0_2, .int .i64 p1, .bool false]
def ZO_K15_b0_1 (_n0 : Nat) (_p1 : Int) (_v0_0 : List Fld) (_v0_1 : Int) (_v0_2 : Int) : List (Nat × List PV) :=
  []
theorem x_K15_b0_1 (n0 : Nat) (p1 : Int) (v0_0 : List Fld) (v0_1 : Int) (v0_2 : Int) (_ho0_0 : 0 ≤ v0_1) (_ho0_1 : v0_1 ≤ n0) (_ho0_2 : v0_1 + 20 = v0_2) (_ho0_3 : p1 = n0) (_ho0_4 : (n0 : Int) ≤ 1152921504606846976) (_ho0_5 : List.length v0_0 = n0) (h0 : (decide (v0_2 ≤ p1)) = false) : P_K15_b0 n0 p1 (E_K15_b0 n0 p1 v0_0 v0_1 v0_2) (v0_0, v0_1) := by
  exact ⟨(envF (Z_K15_b0_1 n0 p1 v0_0 v0_1 v0_2)), (zoF (ZO_K15_b0_1 n0 p1 v0_0 v0_1 v0_2)), tells_outVI (V_K15_b0 n0 p1 v0_0 v0_1 v0_2) (x := ((.exit 0), S_K15_b0_0 n0 p1 v0_0 v0_1 (envF (Z_K15_b0_1 n0 p1 v0_0 v0_1 v0_2)) (zoF (ZO_K15_b0_1 n0 p1 v0_0 v0_1 v0_2)))) [hB 2 h0] [] (by kernel_rfl)⟩
theorem lt_K15_b0 (n0 : Nat) (p1 : Int) : ∀ (k0 : Nat) (v0_0 : List Fld) (v0_1 : Int) (v0_2 : Int), 0 ≤ v0_1 → v0_1 ≤ n0 → v0_1 + 20 = v0_2 → p1 = n0 → (n0 : Int) ≤ 1152921504606846976 → List.length v0_0 = n0 → Int.toNat (p1 + 20 - v0_2) < k0 → P_K15_b0 n0 p1 (E_K15_b0 n0 p1 v0_0 v0_1 v0_2) (l_K15_b0 n0 p1 k0 v0_0 v0_1 v0_2)
  | 0, v0_0, v0_1, v0_2, _, _, _, _, _, _, hm => absurd hm (Nat.not_lt_zero _)
  | k0 + 1, v0_0, v0_1, v0_2, ho0_0, ho0_1, ho0_2, ho0_3, ho0_4, ho0_5, hm => by
    rw [l_K15_b0]
    cases h0 : (decide (v0_2 ≤ p1)) with
    | true =>
     have e0 := of_decide_eq_true h0
     exact P_K15_b0_mono n0 p1 (fun r hr => n_K15_b0_0 n0 p1 v0_0 v0_1 v0_2 ho0_0 ho0_1 ho0_2 ho0_3 ho0_4 ho0_5 h0 hr) _ (lt_K15_b0 n0 p1 k0 (s_K13_f51 n0 v0_0 v0_1 v0_2) v0_2 (v0_2 + 20) (by have f0 := (lens_K13_f51 n0 v0_0 v0_1 v0_2 ho0_5); omega) (by have f0 := (lens_K13_f51 n0 v0_0 v0_1 v0_2 ho0_5); omega) (by have f0 := (lens_K13_f51 n0 v0_0 v0_1 v0_2 ho0_5); omega) (by have f0 := (lens_K13_f51 n0 v0_0 v0_1 v0_2 ho0_5); omega) (by have f0 := (lens_K13_f51 n0 v0_0 v0_1 v0_2 ho0_5); omega) (lens_K13_f51 n0 v0_0 v0_1 v0_2 ho0_5) (by have f0 := (lens_K13_f51 n0 v0_0 v0_1 v0_2 ho0_5); omega))
    | false =>
     exact x_K15_b0_1 n0 p1 v0_0 v0_1 v0_2 ho0_0 ho0_1 ho0_2 ho0_3 ho0_4 ho0_5 h0
theorem ll_K15_b0_0 (n0 : Nat) (p1 : Int) : ∀ (k0 : Nat) (v0_0 : List Fld) (v0_1 : Int) (v0_2 : Int), List.length v0_0 = n0 → List.length (l_K15_b0 n0 p1 k0 v0_0 v0_1 v0_2).1 = n0
  | 0, v0_0, v0_1, v0_2, ho0_5 => by rw [l_K15_b0]; exact ho0_5
  | k0 + 1, v0_0, v0_1, v0_2, ho0_5 => by
    rw [l_K15_b0]
    cases h0 : (decide (v0_2 ≤ p1)) with
    | true =>
     exact ll_K15_b0_0 n0 p1 k0 (s_K13_f51 n0 v0_0 v0_1 v0_2) v0_2 (v0_2 + 20) (lens_K13_f51 n0 v0_0 v0_1 v0_2 ho0_5)
    | false =>
     exact ho0_5
theorem pl_K15_b0 (n0 : Nat) (p1 : Int) : ∀ (k0 : Nat) (v0_0 : List Fld) (v0_1 : Int) (v0_2 : Int), 0 ≤ v0_1 → v0_1 ≤ n0 → v0_1 + 20 = v0_2 → p1 = n0 → (n0 : Int) ≤ 1152921504606846976 → List.length v0_0 = n0 → Int.toNat (p1 + 20 - v0_2) < k0 → 0 ≤ (l_K15_b0 n0 p1 k0 v0_0 v0_1 v0_2).2 ∧ (l_K15_b0 n0 p1 k0 v0_0 v0_1 v0_2).2 ≤ n0
  | 0, v0_0, v0_1, v0_2, _, _, _, _, _, _, hm => absurd hm (Nat.not_lt_zero _)
  | k0 + 1, v0_0, v0_1, v0_2, ho0_0, ho0_1, ho0_2, ho0_3, ho0_4, ho0_5, hm => by
    rw [l_K15_b0]
    cases h0 : (decide (v0_2 ≤ p1)) with
    | true =>
     have e0 := of_decide_eq_true h0
     exact pl_K15_b0 n0 p1 k0 (s_K13_f51 n0 v0_0 v0_1 v0_2) v0_2 (v0_2 + 20) (by have f0 := (lens_K13_f51 n0 v0_0 v0_1 v0_2 ho0_5); omega) (by have f0 := (lens_K13_f51 n0 v0_0 v0_1 v0_2 ho0_5); omega) (by have f0 := (lens_K13_f51 n0 v0_0 v0_1 v0_2 ho0_5); omega) (by have f0 := (lens_K13_f51 n0 v0_0 v0_1 v0_2 ho0_5); omega) (by have f0 := (lens_K13_f51 n0 v0_0 v0_1 v0_2 ho0_5); omega) (lens_K13_f51 n0 v0_0 v0_1 v0_2 ho0_5) (by have f0 := (lens_K13_f51 n0 v0_0 v0_1 v0_2 ho0_5); omega)
    | false =>
     have e0 := of_decide_eq_false h0
     exact (show 0 ≤ v0_1 ∧ v0_1 ≤ n0 from ⟨(by omega), (by omega)⟩)
def l_K15_b2 (n0 : Nat) (p1 : Int) : Nat → (List Fld) → Int → Int → Int → (List Fld) × Int × Int
  | 0, v2_0, v2_1, _v2_2, v2_3 => (v2_0, v2_3, v2_1)
  | k2 + 1, v2_0, v2_1, v2_2, v2_3 =>
    bif (decide (v2_2 ≤ p1)) then
      l_K15_b2 n0 p1 k2 (s_K17_f51 ((Int.toNat (v2_2 - v2_1)) + 1) n0 v2_0 v2_1 (v2_1 + v2_3) v2_2) v2_2 (v2_2 + (2 * v2_3)) v2_3
    else
      (v2_0, v2_3, v2_1)
def HE_K15_b2 (n0 : Nat) (p1 : Int) (_v2_0 : List Fld) (v2_1 : Int) (v2_2 : Int) (v2_3 : Int) : List PV :=
  [.ms 0 6 0 n0, .int .i64 p1, .fn 51 [] [], .un, .un, .un, .int .i64 v2_3, .int .i64 v2_1, .int .i64 v2_2, .un, .un, .un, .un, .un, .un, .un, .un, .un, .un, .un, .un, .un, .un, .un, .un, .un, .un, .un, .un, .un, .un, .un, .un, .un, .un, .un, .un, .un, .un, .un, .un, .un, .un, .un, .un, .un, .un, .un, .un, .un, .un, .un, .un, .un, .un, .un, .un, .un, .un, .un, .un, .un, .un]
def HO_K15_b2 (_n0 : Nat) (_p1 : Int) (v2_0 : List Fld) (_v2_1 : Int) (_v2_2 : Int) (_v2_3 : Int) : List Ob :=
  [⟨6, 0, false, (Fld.rows v2_0).flatten⟩]
def E_K15_b2 (n0 : Nat) (p1 : Int) (v2_0 : List Fld) (v2_1 : Int) (v2_2 : Int) (v2_3 : Int) : En := .loop 1 Ir.K15_b2_live Ir.K15_b2 (HE_K15_b2 n0 p1 v2_0 v2_1 v2_2 v2_3) (HO_K15_b2 n0 p1 v2_0 v2_1 v2_2 v2_3)
def S_K15_b2_0 (n0 : Nat) (p1 : Int) (q0 : List Fld) (q1 : Int) (q2 : Int) (z : Nat → PV) (_zo : Nat → List PV) : St :=
  ⟨[.ms 0 6 0 n0, .int .i64 p1, .fn 51 [] [], z 3, z 4, z 5, .int .i64 q1, .int .i64 q2, z 8, z 9, z 10, z 11, z 12, z 13, z 14, z 15, z 16, z 17, z 18, z 19, z 20, z 21, z 22, z 23, z 24, z 25, z 26, z 27, z 28, z 29, z 30, z 31, z 32, z 33, z 34, z 35, z 36, z 37, z 38, z 39, z 40, z 41, z 42, z 43, z 44, z 45, z 46, z 47, z 48, z 49, z 50, z 51, z 52, z 53, z 54, z 55, z 56, z 57, z 58, z 59, z 60, z 61, z 62], [(0, ⟨6, 0, false, (Fld.rows q0).flatten⟩)], 193⟩
theorem V_K15_b2 (n0 : Nat) (p1 : Int) (v2_0 : List Fld) (v2_1 : Int) (v2_2 : Int) (v2_3 : Int) : VOK (Go.Pv.look (number 0 (HO_K15_b2 n0 p1 v2_0 v2_1 v2_2 v2_3))) [(0, Fld.rows v2_0)] := (VOK.cons (show Seen _ _ from seenV (ob := ⟨6, 0, false, (Fld.rows v2_0).flatten⟩) (Fld.rowsView v2_0 6 rfl)) VOK.nil)
def P_K15_b2 (n0 : Nat) (p1 : Int) (e : En) (q : (List Fld) × Int × Int) : Prop := ∃ z zo, Tells G e (.st (.exit 4) (S_K15_b2_0 n0 p1 q.1 q.2.1 q.2.2 z zo))
theorem P_K15_b2_mono (n0 : Nat) (p1 : Int) {e e' : En} (h : ∀ r, Tells G e r → Tells G e' r) : ∀ q, P_K15_b2 n0 p1 e q → P_K15_b2 n0 p1 e' q
  | _, ⟨z, zo, hz⟩ => ⟨z, zo, h _ hz⟩
theorem n_K15_b2_0 (n0 : Nat) (p1 : Int) (v2_0 : List Fld) (v2_1 : Int) (v2_2 : Int) (v2_3 : Int) (ho2_0 : 0 ≤ v2_1) (ho2_1 : v2_1 ≤ n0) (ho2_2 : v2_1 + 2 * v2_3 = v2_2) (ho2_3 : 20 ≤ v2_3) (ho2_4 : v2_3 < p1) (ho2_5 : p1 = n0) (ho2_6 : (n0 : Int) ≤ 1152921504606846976) (ho2_7 : List.length v2_0 = n0) (h0 : (decide (v2_2 ≤ p1)) = true) {r : Rs} (hr : Tells G (E_K15_b2 n0 p1 (s_K17_f51 ((Int.toNat (v2_2 - v2_1)) + 1) n0 v2_0 v2_1 (v2_1 + v2_3) v2_2) v2_2 (v2_2 + (2 * v2_3)) v2_3) r) : Tells G (E_K15_b2 n0 p1 v2_0 v2_1 v2_2 v2_3) r := by
  have e0 := of_decide_eq_true h0
  exact tells_nextVI (V_K15_b2 n0 p1 v2_0 v2_1 v2_2 v2_3) (y := (HE_K15_b2 n0 p1 (s_K17_f51 ((Int.toNat (v2_2 - v2_1)) + 1) n0 v2_0 v2_1 (v2_1 + v2_3) v2_2) v2_2 (v2_2 + (2 * v2_3)) v2_3, HO_K15_b2 n0 p1 (s_K17_f51 ((Int.toNat (v2_2 - v2_1)) + 1) n0 v2_0 v2_1 (v2_1 + v2_3) v2_2) v2_2 (v2_2 + (2 * v2_3)) v2_3)) [hB 2 h0, hP 4 (w_ok (v2_1 + v2_3) (by omega)), hQ (Fld.rowsView (s_K17_f51 ((Int.toNat (v2_2 - v2_1)) + 1) n0 v2_0 v2_1 (v2_1 + v2_3) v2_2) 6 rfl), hP 7 (w_ok (2 * v2_3) (by have f0 := (lens_K17_f51 ((Int.toNat (v2_2 - v2_1)) + 1) n0 v2_0 v2_1 (v2_1 + v2_3) v2_2 ho2_7); omega)), hP 0 (w_ok (v2_2 + (2 * v2_3)) (by have f0 := (lens_K17_f51 ((Int.toNat (v2_2 - v2_1)) + 1) n0 v2_0 v2_1 (v2_1 + v2_3) v2_2 ho2_7); omega))] [aV [(0, Fld.rows (s_K17_f51 ((Int.toNat (v2_2 - v2_1)) + 1) n0 v2_0 v2_1 (v2_1 + v2_3) v2_2))] (t_K17_f51 ((Int.toNat (v2_2 - v2_1)) + 1) n0 v2_0 v2_1 (v2_1 + v2_3) v2_2 ho2_7 (by omega) (by omega))] (by kernel_rfl) hr
def Z_K15_b2_1 (_n0 : Nat) (p1 : Int) (_v2_0 : List Fld) (_v2_1 : Int) (v2_2 : Int) (_v2_3 : Int) : List PV :=
  [.un, .un, .un, .un, .un, .un, .un, .un, .int .i64 v2_2, .un, .un, .un, .un, .un, .un, .un, .un, .un, .un, .un, .un, .un, .un, .un, .un, .un, .un, .un, .un, .un, .un, .un, .un, .int .i64 v2_2, .int .i64 p1, .bool false]
def ZO_K15_b2_1 (_n0 : Nat) (_p1 : Int) (_v2_0 : List Fld) (_v2_1 : Int) (_v2_2 : Int) (_v2_3 : Int) : List (Nat × List PV) :=
  []
theorem x_K15_b2_1 (n0 : Nat) (p1 : Int) (v2_0 : List Fld) (v2_1 : Int) (v2_2 : Int) (v2_3 : Int) (_ho2_0 : 0 ≤ v2_1) (_ho2_1 : v2_1 ≤ n0) (_ho2_2 : v2_1 + 2 * v2_3 = v2_2) (_ho2_3 : 20 ≤ v2_3) (_ho2_4 : v2_3 < p1) (_ho2_5 : p1 = n0) (_ho2_6 : (n0 : Int) ≤ 1152921504606846976) (_ho2_7 : List.length v2_0 = n0) (h0 : (decide (v2_2 ≤ p1)) = false) : P_K15_b2 n0 p1 (E_K15_b2 n0 p1 v2_0 v2_1 v2_2 v2_3) (v2_0, v2_3, v2_1) := by
  exact ⟨(envF (Z_K15_b2_1 n0 p1 v2_0 v2_1 v2_2 v2_3)), (zoF (ZO_K15_b2_1 n0 p1 v2_0 v2_1 v2_2 v2_3)), tells_outVI (V_K15_b2 n0 p1 v2_0 v2_1 v2_2 v2_3) (x := ((.exit 4), S_K15_b2_0 n0 p1 v2_0 v2_3 v2_1 (envF (Z_K15_b2_1 n0 p1 v2_0 v2_1 v2_2 v2_3)) (zoF (ZO_K15_b2_1 n0 p1 v2_0 v2_1 v2_2 v2_3)))) [hB 2 h0] [] (by kernel_rfl)⟩
theorem lt_K15_b2 (n0 : Nat) (p1 : Int) : ∀ (k2 : Nat) (v2_0 : List Fld) (v2_1 : Int) (v2_2 : Int) (v2_3 : Int), 0 ≤ v2_1 → v2_1 ≤ n0 → v2_1 + 2 * v2_3 = v2_2 → 20 ≤ v2_3 → v2_3 < p1 → p1 = n0 → (n0 : Int) ≤ 1152921504606846976 → List.length v2_0 = n0 → Int.toNat (p1 + 2 * v2_3 - v2_2) < k2 → P_K15_b2 n0 p1 (E_K15_b2 n0 p1 v2_0 v2_1 v2_2 v2_3) (l_K15_b2 n0 p1 k2 v2_0 v2_1 v2_2 v2_3)
  | 0, v2_0, v2_1, v2_2, v2_3, _, _, _, _, _, _, _, _, hm => absurd hm (Nat.not_lt_zero _)
  | k2 + 1, v2_0, v2_1, v2_2, v2_3, ho2_0, ho2_1, ho2_2, ho2_3, ho2_4, ho2_5, ho2_6, ho2_7, hm => by
    rw [l_K15_b2]
    cases h0 : (decide (v2_2 ≤ p1)) with
    | true =>
     have e0 := of_decide_eq_true h0
     exact P_K15_b2_mono n0 p1 (fun r hr => n_K15_b2_0 n0 p1 v2_0 v2_1 v2_2 v2_3 ho2_0 ho2_1 ho2_2 ho2_3 ho2_4 ho2_5 ho2_6 ho2_7 h0 hr) _ (lt_K15_b2 n0 p1 k2 (s_K17_f51 ((Int.toNat (v2_2 - v2_1)) + 1) n0 v2_0 v2_1 (v2_1 + v2_3) v2_2) v2_2 (v2_2 + (2 * v2_3)) v2_3 (by have f0 := (lens_K17_f51 ((Int.toNat (v2_2 - v2_1)) + 1) n0 v2_0 v2_1 (v2_1 + v2_3) v2_2 ho2_7); omega) (by have f0 := (lens_K17_f51 ((Int.toNat (v2_2 - v2_1)) + 1) n0 v2_0 v2_1 (v2_1 + v2_3) v2_2 ho2_7); omega) (by have f0 := (lens_K17_f51 ((Int.toNat (v2_2 - v2_1)) + 1) n0 v2_0 v2_1 (v2_1 + v2_3) v2_2 ho2_7); omega) (by have f0 := (lens_K17_f51 ((Int.toNat (v2_2 - v2_1)) + 1) n0 v2_0 v2_1 (v2_1 + v2_3) v2_2 ho2_7); omega) (by have f0 := (lens_K17_f51 ((Int.toNat (v2_2 - v2_1)) + 1) n0 v2_0 v2_1 (v2_1 + v2_3) v2_2 ho2_7); omega) (by have f0 := (lens_K17_f51 ((Int.toNat (v2_2 - v2_1)) + 1) n0 v2_0 v2_1 (v2_1 + v2_3) v2_2 ho2_7); omega) (by have f0 := (lens_K17_f51 ((Int.toNat (v2_2 - v2_1)) + 1) n0 v2_0 v2_1 (v2_1 + v2_3) v2_2 ho2_7); omega) (lens_K17_f51 ((Int.toNat (v2_2 - v2_1)) + 1) n0 v2_0 v2_1 (v2_1 + v2_3) v2_2 ho2_7) (by have f0 := (lens_K17_f51 ((Int.toNat (v2_2 - v2_1)) + 1) n0 v2_0 v2_1 (v2_1 + v2_3) v2_2 ho2_7); omega))
    | false =>
     exact x_K15_b2_1 n0 p1 v2_0 v2_1 v2_2 v2_3 ho2_0 ho2_1 ho2_2 ho2_3 ho2_4 ho2_5 ho2_6 ho2_7 h0
theorem ll_K15_b2_0 (n0 : Nat) (p1 : Int) : ∀ (k2 : Nat) (v2_0 : List Fld) (v2_1 : Int) (v2_2 : Int) (v2_3 : Int), List.length v2_0 = n0 → List.length (l_K15_b2 n0 p1 k2 v2_0 v2_1 v2_2 v2_3).1 = n0
  | 0, v2_0, v2_1, v2_2, v2_3, ho2_7 => by rw [l_K15_b2]; exact ho2_7
  | k2 + 1, v2_0, v2_1, v2_2, v2_3, ho2_7 => by
    rw [l_K15_b2]
    cases h0 : (decide (v2_2 ≤ p1)) with
    | true =>
     exact ll_K15_b2_0 n0 p1 k2 (s_K17_f51 ((Int.toNat (v2_2 - v2_1)) + 1) n0 v2_0 v2_1 (v2_1 + v2_3) v2_2) v2_2 (v2_2 + (2 * v2_3)) v2_3 (lens_K17_f51 ((Int.toNat (v2_2 - v2_1)) + 1) n0 v2_0 v2_1 (v2_1 + v2_3) v2_2 ho2_7)
    | false =>
     exact ho2_7
theorem pl_K15_b2 (n0 : Nat) (p1 : Int) : ∀ (k2 : Nat) (v2_0 : List Fld) (v2_1 : Int) (v2_2 : Int) (v2_3 : Int), 0 ≤ v2_1 → v2_1 ≤ n0 → v2_1 + 2 * v2_3 = v2_2 → 20 ≤ v2_3 → v2_3 < p1 → p1 = n0 → (n0 : Int) ≤ 1152921504606846976 → List.length v2_0 = n0 → Int.toNat (p1 + 2 * v2_3 - v2_2) < k2 → 0 ≤ (l_K15_b2 n0 p1 k2 v2_0 v2_1 v2_2 v2_3).2.2 ∧ (l_K15_b2 n0 p1 k2 v2_0 v2_1 v2_2 v2_3).2.2 ≤ n0 ∧ (l_K15_b2 n0 p1 k2 v2_0 v2_1 v2_2 v2_3).2.1 = v2_3
  | 0, v2_0, v2_1, v2_2, v2_3, _, _, _, _, _, _, _, _, hm => absurd hm (Nat.not_lt_zero _)
  | k2 + 1, v2_0, v2_1, v2_2, v2_3, ho2_0, ho2_1, ho2_2, ho2_3, ho2_4, ho2_5, ho2_6, ho2_7, hm => by
    rw [l_K15_b2]
    cases h0 : (decide (v2_2 ≤ p1)) with
    | true =>
     have e0 := of_decide_eq_true h0
     exact pl_K15_b2 n0 p1 k2 (s_K17_f51 ((Int.toNat (v2_2 - v2_1)) + 1) n0 v2_0 v2_1 (v2_1 + v2_3) v2_2) v2_2 (v2_2 + (2 * v2_3)) v2_3 (by have f0 := (lens_K17_f51 ((Int.toNat (v2_2 - v2_1)) + 1) n0 v2_0 v2_1 (v2_1 + v2_3) v2_2 ho2_7); omega) (by have f0 := (lens_K17_f51 ((Int.toNat (v2_2 - v2_1)) + 1) n0 v2_0 v2_1 (v2_1 + v2_3) v2_2 ho2_7); omega) (by have f0 := (lens_K17_f51 ((Int.toNat (v2_2 - v2_1)) + 1) n0 v2_0 v2_1 (v2_1 + v2_3) v2_2 ho2_7); omega) (by have f0 := (lens_K17_f51 ((Int.toNat (v2_2 - v2_1)) + 1) n0 v2_0 v2_1 (v2_1 + v2_3) v2_2 ho2_7); omega) (by have f0 := (lens_K17_f51 ((Int.toNat (v2_2 - v2_1)) + 1) n0 v2_0 v2_1 (v2_1 + v2_3) v2_2 ho2_7); omega) (by have f0 := (lens_K17_f51 ((Int.toNat (v2_2 - v2_1)) + 1) n0 v2_0 v2_1 (v2_1 + v2_3) v2_2 ho2_7); omega) (by have f0 := (lens_K17_f51 ((Int.toNat (v2_2 - v2_1)) + 1) n0 v2_0 v2_1 (v2_1 + v2_3) v2_2 ho2_7); omega) (lens_K17_f51 ((Int.toNat (v2_2 - v2_1)) + 1) n0 v2_0 v2_1 (v2_1 + v2_3) v2_2 ho2_7) (by have f0 := (lens_K17_f51 ((Int.toNat (v2_2 - v2_1)) + 1) n0 v2_0 v2_1 (v2_1 + v2_3) v2_2 ho2_7); omega)
    | false =>
     have e0 := of_decide_eq_false h0
     exact (show 0 ≤ v2_1 ∧ v2_1 ≤ n0 ∧ v2_3 = v2_3 from ⟨(by omega), (by omega), (by omega)⟩)
def l_K15_b1 (n0 : Nat) (p1 : Int) : Nat → (List Fld) → Int → List Fld
  | 0, v1_0, _v1_1 => v1_0
  | k1 + 1, v1_0, v1_1 =>
    bif (decide (v1_1 < p1)) then
      bif (decide (((l_K15_b2 n0 p1 ((Int.toNat (p1 + 2 * v1_1 - (2 * v1_1))) + 1) v1_0 0 (2 * v1_1) v1_1).2.2 + (l_K15_b2 n0 p1 ((Int.toNat (p1 + 2 * v1_1 - (2 * v1_1))) + 1) v1_0 0 (2 * v1_1) v1_1).2.1) < p1)) then
        l_K15_b1 n0 p1 k1 (s_K17_f51 ((Int.toNat (p1 - (l_K15_b2 n0 p1 ((Int.toNat (p1 + 2 * v1_1 - (2 * v1_1))) + 1) v1_0 0 (2 * v1_1) v1_1).2.2)) + 1) n0 (l_K15_b2 n0 p1 ((Int.toNat (p1 + 2 * v1_1 - (2 * v1_1))) + 1) v1_0 0 (2 * v1_1) v1_1).1 (l_K15_b2 n0 p1 ((Int.toNat (p1 + 2 * v1_1 - (2 * v1_1))) + 1) v1_0 0 (2 * v1_1) v1_1).2.2 ((l_K15_b2 n0 p1 ((Int.toNat (p1 + 2 * v1_1 - (2 * v1_1))) + 1) v1_0 0 (2 * v1_1) v1_1).2.2 + (l_K15_b2 n0 p1 ((Int.toNat (p1 + 2 * v1_1 - (2 * v1_1))) + 1) v1_0 0 (2 * v1_1) v1_1).2.1) p1) ((l_K15_b2 n0 p1 ((Int.toNat (p1 + 2 * v1_1 - (2 * v1_1))) + 1) v1_0 0 (2 * v1_1) v1_1).2.1 * 2)
      else
        l_K15_b1 n0 p1 k1 (l_K15_b2 n0 p1 ((Int.toNat (p1 + 2 * v1_1 - (2 * v1_1))) + 1) v1_0 0 (2 * v1_1) v1_1).1 ((l_K15_b2 n0 p1 ((Int.toNat (p1 + 2 * v1_1 - (2 * v1_1))) + 1) v1_0 0 (2 * v1_1) v1_1).2.1 * 2)
    else
      v1_0
def HE_K15_b1 (n0 : Nat) (p1 : Int) (_v1_0 : List Fld) (v1_1 : Int) : List PV :=
  [.ms 0 6 0 n0, .int .i64 p1, .fn 51 [] [], .un, .un, .un, .int .i64 v1_1, .un, .un, .un, .un, .un, .un, .un, .un, .un, .un, .un, .un, .un, .un, .un, .un, .un, .un, .un, .un, .un, .un, .un, .un, .un, .un, .un, .un, .un, .un, .un, .un, .un, .un, .un, .un, .un, .un, .un, .un, .un, .un, .un, .un, .un, .un, .un, .un, .un, .un, .un, .un, .un, .un, .un, .un]
def HO_K15_b1 (_n0 : Nat) (_p1 : Int) (v1_0 : List Fld) (_v1_1 : Int) : List Ob :=
  [⟨6, 0, false, (Fld.rows v1_0).flatten⟩]
def E_K15_b1 (n0 : Nat) (p1 : Int) (v1_0 : List Fld) (v1_1 : Int) : En := .loop 1 Ir.K15_b1_live Ir.K15_b1 (HE_K15_b1 n0 p1 v1_0 v1_1) (HO_K15_b1 n0 p1 v1_0 v1_1)
def S_K15_b1_0 (_n0 : Nat) (_p1 : Int) (q0 : List Fld) (z : Nat → PV) (_zo : Nat → List PV) : St :=
  ⟨[z 0, z 1, z 2, z 3, z 4, z 5, z 6, z 7, z 8, z 9, z 10, z 11, z 12, z 13, z 14, z 15, z 16, z 17, z 18, z 19, z 20, z 21, z 22, z 23, z 24, z 25, z 26, z 27, z 28, z 29, z 30, z 31, z 32, z 33, z 34, z 35, z 36, z 37, z 38, z 39, z 40, z 41, z 42, z 43, z 44, z 45, z 46, z 47, z 48, z 49, z 50, z 51, z 52, z 53, z 54, z 55, z 56, z 57, z 58, z 59, z 60, z 61, z 62], [(0, ⟨6, 0, false, (Fld.rows q0).flatten⟩)], 193⟩
theorem V_K15_b1 (n0 : Nat) (p1 : Int) (v1_0 : List Fld) (v1_1 : Int) : VOK (Go.Pv.look (number 0 (HO_K15_b1 n0 p1 v1_0 v1_1))) [(0, Fld.rows v1_0)] := (VOK.cons (show Seen _ _ from seenV (ob := ⟨6, 0, false, (Fld.rows v1_0).flatten⟩) (Fld.rowsView v1_0 6 rfl)) VOK.nil)
def P_K15_b1 (n0 : Nat) (p1 : Int) (e : En) (q : List Fld) : Prop := ∃ z zo, Tells G e (.st (.exit 2) (S_K15_b1_0 n0 p1 q z zo))
theorem P_K15_b1_mono (n0 : Nat) (p1 : Int) {e e' : En} (h : ∀ r, Tells G e r → Tells G e' r) : ∀ q, P_K15_b1 n0 p1 e q → P_K15_b1 n0 p1 e' q
  | _, ⟨z, zo, hz⟩ => ⟨z, zo, h _ hz⟩
theorem n_K15_b1_0 (n0 : Nat) (p1 : Int) (v1_0 : List Fld) (v1_1 : Int) (ho1_0 : 20 ≤ v1_1) (ho1_1 : p1 = n0) (ho1_2 : (n0 : Int) ≤ 1152921504606846976) (ho1_3 : List.length v1_0 = n0) (h0 : (decide (v1_1 < p1)) = true) (z1 : Nat → PV) (zo1 : Nat → List PV) (hl1 : Tells G (E_K15_b2 n0 p1 v1_0 0 (2 * v1_1) v1_1) (.st (.exit 4) (S_K15_b2_0 n0 p1 (l_K15_b2 n0 p1 ((Int.toNat (p1 + 2 * v1_1 - (2 * v1_1))) + 1) v1_0 0 (2 * v1_1) v1_1).1 (l_K15_b2 n0 p1 ((Int.toNat (p1 + 2 * v1_1 - (2 * v1_1))) + 1) v1_0 0 (2 * v1_1) v1_1).2.1 (l_K15_b2 n0 p1 ((Int.toNat (p1 + 2 * v1_1 - (2 * v1_1))) + 1) v1_0 0 (2 * v1_1) v1_1).2.2 z1 zo1))) (h1 : (decide (((l_K15_b2 n0 p1 ((Int.toNat (p1 + 2 * v1_1 - (2 * v1_1))) + 1) v1_0 0 (2 * v1_1) v1_1).2.2 + (l_K15_b2 n0 p1 ((Int.toNat (p1 + 2 * v1_1 - (2 * v1_1))) + 1) v1_0 0 (2 * v1_1) v1_1).2.1) < p1)) = true) {r : Rs} (hr : Tells G (E_K15_b1 n0 p1 (s_K17_f51 ((Int.toNat (p1 - (l_K15_b2 n0 p1 ((Int.toNat (p1 + 2 * v1_1 - (2 * v1_1))) + 1) v1_0 0 (2 * v1_1) v1_1).2.2)) + 1) n0 (l_K15_b2 n0 p1 ((Int.toNat (p1 + 2 * v1_1 - (2 * v1_1))) + 1) v1_0 0 (2 * v1_1) v1_1).1 (l_K15_b2 n0 p1 ((Int.toNat (p1 + 2 * v1_1 - (2 * v1_1))) + 1) v1_0 0 (2 * v1_1) v1_1).2.2 ((l_K15_b2 n0 p1 ((Int.toNat (p1 + 2 * v1_1 - (2 * v1_1))) + 1) v1_0 0 (2 * v1_1) v1_1).2.2 + (l_K15_b2 n0 p1 ((Int.toNat (p1 + 2 * v1_1 - (2 * v1_1))) + 1) v1_0 0 (2 * v1_1) v1_1).2.1) p1) ((l_K15_b2 n0 p1 ((Int.toNat (p1 + 2 * v1_1 - (2 * v1_1))) + 1) v1_0 0 (2 * v1_1) v1_1).2.1 * 2)) r) : Tells G (E_K15_b1 n0 p1 v1_0 v1_1) r := by
  have e0 := of_decide_eq_true h0; have e1 := of_decide_eq_true h1
  exact tells_nextVI (V_K15_b1 n0 p1 v1_0 v1_1) (y := (HE_K15_b1 n0 p1 (s_K17_f51 ((Int.toNat (p1 - (l_K15_b2 n0 p1 ((Int.toNat (p1 + 2 * v1_1 - (2 * v1_1))) + 1) v1_0 0 (2 * v1_1) v1_1).2.2)) + 1) n0 (l_K15_b2 n0 p1 ((Int.toNat (p1 + 2 * v1_1 - (2 * v1_1))) + 1) v1_0 0 (2 * v1_1) v1_1).1 (l_K15_b2 n0 p1 ((Int.toNat (p1 + 2 * v1_1 - (2 * v1_1))) + 1) v1_0 0 (2 * v1_1) v1_1).2.2 ((l_K15_b2 n0 p1 ((Int.toNat (p1 + 2 * v1_1 - (2 * v1_1))) + 1) v1_0 0 (2 * v1_1) v1_1).2.2 + (l_K15_b2 n0 p1 ((Int.toNat (p1 + 2 * v1_1 - (2 * v1_1))) + 1) v1_0 0 (2 * v1_1) v1_1).2.1) p1) ((l_K15_b2 n0 p1 ((Int.toNat (p1 + 2 * v1_1 - (2 * v1_1))) + 1) v1_0 0 (2 * v1_1) v1_1).2.1 * 2), HO_K15_b1 n0 p1 (s_K17_f51 ((Int.toNat (p1 - (l_K15_b2 n0 p1 ((Int.toNat (p1 + 2 * v1_1 - (2 * v1_1))) + 1) v1_0 0 (2 * v1_1) v1_1).2.2)) + 1) n0 (l_K15_b2 n0 p1 ((Int.toNat (p1 + 2 * v1_1 - (2 * v1_1))) + 1) v1_0 0 (2 * v1_1) v1_1).1 (l_K15_b2 n0 p1 ((Int.toNat (p1 + 2 * v1_1 - (2 * v1_1))) + 1) v1_0 0 (2 * v1_1) v1_1).2.2 ((l_K15_b2 n0 p1 ((Int.toNat (p1 + 2 * v1_1 - (2 * v1_1))) + 1) v1_0 0 (2 * v1_1) v1_1).2.2 + (l_K15_b2 n0 p1 ((Int.toNat (p1 + 2 * v1_1 - (2 * v1_1))) + 1) v1_0 0 (2 * v1_1) v1_1).2.1) p1) ((l_K15_b2 n0 p1 ((Int.toNat (p1 + 2 * v1_1 - (2 * v1_1))) + 1) v1_0 0 (2 * v1_1) v1_1).2.1 * 2))) [hB 2 h0, hP 1 (w_ok (2 * v1_1) (by omega)), hS 0 false (Fld.rowsView (l_K15_b2 n0 p1 ((Int.toNat (p1 + 2 * v1_1 - (2 * v1_1))) + 1) v1_0 0 (2 * v1_1) v1_1).1 6 rfl), hP 4 (w_ok ((l_K15_b2 n0 p1 ((Int.toNat (p1 + 2 * v1_1 - (2 * v1_1))) + 1) v1_0 0 (2 * v1_1) v1_1).2.2 + (l_K15_b2 n0 p1 ((Int.toNat (p1 + 2 * v1_1 - (2 * v1_1))) + 1) v1_0 0 (2 * v1_1) v1_1).2.1) (by have f0 := (ll_K15_b2_0 n0 p1 ((Int.toNat (p1 + 2 * v1_1 - (2 * v1_1))) + 1) v1_0 0 (2 * v1_1) v1_1 ho1_3); have g0 := pl_K15_b2 n0 p1 ((Int.toNat (p1 + 2 * v1_1 - (2 * v1_1))) + 1) v1_0 0 (2 * v1_1) v1_1 (by omega) (by omega) (by omega) (by omega) (by omega) (by omega) (by omega) ho1_3 (by omega); omega)), hB 3 h1, hQ (Fld.rowsView (s_K17_f51 ((Int.toNat (p1 - (l_K15_b2 n0 p1 ((Int.toNat (p1 + 2 * v1_1 - (2 * v1_1))) + 1) v1_0 0 (2 * v1_1) v1_1).2.2)) + 1) n0 (l_K15_b2 n0 p1 ((Int.toNat (p1 + 2 * v1_1 - (2 * v1_1))) + 1) v1_0 0 (2 * v1_1) v1_1).1 (l_K15_b2 n0 p1 ((Int.toNat (p1 + 2 * v1_1 - (2 * v1_1))) + 1) v1_0 0 (2 * v1_1) v1_1).2.2 ((l_K15_b2 n0 p1 ((Int.toNat (p1 + 2 * v1_1 - (2 * v1_1))) + 1) v1_0 0 (2 * v1_1) v1_1).2.2 + (l_K15_b2 n0 p1 ((Int.toNat (p1 + 2 * v1_1 - (2 * v1_1))) + 1) v1_0 0 (2 * v1_1) v1_1).2.1) p1) 6 rfl), hP 7 (w_ok ((l_K15_b2 n0 p1 ((Int.toNat (p1 + 2 * v1_1 - (2 * v1_1))) + 1) v1_0 0 (2 * v1_1) v1_1).2.1 * 2) (by have f0 := (lens_K17_f51 ((Int.toNat (p1 - (l_K15_b2 n0 p1 ((Int.toNat (p1 + 2 * v1_1 - (2 * v1_1))) + 1) v1_0 0 (2 * v1_1) v1_1).2.2)) + 1) n0 (l_K15_b2 n0 p1 ((Int.toNat (p1 + 2 * v1_1 - (2 * v1_1))) + 1) v1_0 0 (2 * v1_1) v1_1).1 (l_K15_b2 n0 p1 ((Int.toNat (p1 + 2 * v1_1 - (2 * v1_1))) + 1) v1_0 0 (2 * v1_1) v1_1).2.2 ((l_K15_b2 n0 p1 ((Int.toNat (p1 + 2 * v1_1 - (2 * v1_1))) + 1) v1_0 0 (2 * v1_1) v1_1).2.2 + (l_K15_b2 n0 p1 ((Int.toNat (p1 + 2 * v1_1 - (2 * v1_1))) + 1) v1_0 0 (2 * v1_1) v1_1).2.1) p1 (ll_K15_b2_0 n0 p1 ((Int.toNat (p1 + 2 * v1_1 - (2 * v1_1))) + 1) v1_0 0 (2 * v1_1) v1_1 ho1_3)); have g0 := pl_K15_b2 n0 p1 ((Int.toNat (p1 + 2 * v1_1 - (2 * v1_1))) + 1) v1_0 0 (2 * v1_1) v1_1 (by omega) (by omega) (by omega) (by omega) (by omega) (by omega) (by omega) ho1_3 (by omega); omega))] [aV [(0, Fld.rows (l_K15_b2 n0 p1 ((Int.toNat (p1 + 2 * v1_1 - (2 * v1_1))) + 1) v1_0 0 (2 * v1_1) v1_1).1)] hl1, aV [(0, Fld.rows (s_K17_f51 ((Int.toNat (p1 - (l_K15_b2 n0 p1 ((Int.toNat (p1 + 2 * v1_1 - (2 * v1_1))) + 1) v1_0 0 (2 * v1_1) v1_1).2.2)) + 1) n0 (l_K15_b2 n0 p1 ((Int.toNat (p1 + 2 * v1_1 - (2 * v1_1))) + 1) v1_0 0 (2 * v1_1) v1_1).1 (l_K15_b2 n0 p1 ((Int.toNat (p1 + 2 * v1_1 - (2 * v1_1))) + 1) v1_0 0 (2 * v1_1) v1_1).2.2 ((l_K15_b2 n0 p1 ((Int.toNat (p1 + 2 * v1_1 - (2 * v1_1))) + 1) v1_0 0 (2 * v1_1) v1_1).2.2 + (l_K15_b2 n0 p1 ((Int.toNat (p1 + 2 * v1_1 - (2 * v1_1))) + 1) v1_0 0 (2 * v1_1) v1_1).2.1) p1))] (t_K17_f51 ((Int.toNat (p1 - (l_K15_b2 n0 p1 ((Int.toNat (p1 + 2 * v1_1 - (2 * v1_1))) + 1) v1_0 0 (2 * v1_1) v1_1).2.2)) + 1) n0 (l_K15_b2 n0 p1 ((Int.toNat (p1 + 2 * v1_1 - (2 * v1_1))) + 1) v1_0 0 (2 * v1_1) v1_1).1 (l_K15_b2 n0 p1 ((Int.toNat (p1 + 2 * v1_1 - (2 * v1_1))) + 1) v1_0 0 (2 * v1_1) v1_1).2.2 ((l_K15_b2 n0 p1 ((Int.toNat (p1 + 2 * v1_1 - (2 * v1_1))) + 1) v1_0 0 (2 * v1_1) v1_1).2.2 + (l_K15_b2 n0 p1 ((Int.toNat (p1 + 2 * v1_1 - (2 * v1_1))) + 1) v1_0 0 (2 * v1_1) v1_1).2.1) p1 (ll_K15_b2_0 n0 p1 ((Int.toNat (p1 + 2 * v1_1 - (2 * v1_1))) + 1) v1_0 0 (2 * v1_1) v1_1 ho1_3) (by have f0 := (ll_K15_b2_0 n0 p1 ((Int.toNat (p1 + 2 * v1_1 - (2 * v1_1))) + 1) v1_0 0 (2 * v1_1) v1_1 ho1_3); have g0 := pl_K15_b2 n0 p1 ((Int.toNat (p1 + 2 * v1_1 - (2 * v1_1))) + 1) v1_0 0 (2 * v1_1) v1_1 (by omega) (by omega) (by omega) (by omega) (by omega) (by omega) (by omega) ho1_3 (by omega); omega) (by omega))] (by kernel_rfl) hr
theorem n_K15_b1_1 (n0 : Nat) (p1 : Int) (v1_0 : List Fld) (v1_1 : Int) (ho1_0 : 20 ≤ v1_1) (ho1_1 : p1 = n0) (ho1_2 : (n0 : Int) ≤ 1152921504606846976) (ho1_3 : List.length v1_0 = n0) (h0 : (decide (v1_1 < p1)) = true) (z1 : Nat → PV) (zo1 : Nat → List PV) (hl1 : Tells G (E_K15_b2 n0 p1 v1_0 0 (2 * v1_1) v1_1) (.st (.exit 4) (S_K15_b2_0 n0 p1 (l_K15_b2 n0 p1 ((Int.toNat (p1 + 2 * v1_1 - (2 * v1_1))) + 1) v1_0 0 (2 * v1_1) v1_1).1 (l_K15_b2 n0 p1 ((Int.toNat (p1 + 2 * v1_1 - (2 * v1_1))) + 1) v1_0 0 (2 * v1_1) v1_1).2.1 (l_K15_b2 n0 p1 ((Int.toNat (p1 + 2 * v1_1 - (2 * v1_1))) + 1) v1_0 0 (2 * v1_1) v1_1).2.2 z1 zo1))) (h1 : (decide (((l_K15_b2 n0 p1 ((Int.toNat (p1 + 2 * v1_1 - (2 * v1_1))) + 1) v1_0 0 (2 * v1_1) v1_1).2.2 + (l_K15_b2 n0 p1 ((Int.toNat (p1 + 2 * v1_1 - (2 * v1_1))) + 1) v1_0 0 (2 * v1_1) v1_1).2.1) < p1)) = false) {r : Rs} (hr : Tells G (E_K15_b1 n0 p1 (l_K15_b2 n0 p1 ((Int.toNat (p1 + 2 * v1_1 - (2 * v1_1))) + 1) v1_0 0 (2 * v1_1) v1_1).1 ((l_K15_b2 n0 p1 ((Int.toNat (p1 + 2 * v1_1 - (2 * v1_1))) + 1) v1_0 0 (2 * v1_1) v1_1).2.1 * 2)) r) : Tells G (E_K15_b1 n0 p1 v1_0 v1_1) r := by
  have e0 := of_decide_eq_true h0; have e1 := of_decide_eq_false h1
  exact tells_nextVI (V_K15_b1 n0 p1 v1_0 v1_1) (y := (HE_K15_b1 n0 p1 (l_K15_b2 n0 p1 ((Int.toNat (p1 + 2 * v1_1 - (2 * v1_1))) + 1) v1_0 0 (2 * v1_1) v1_1).1 ((l_K15_b2 n0 p1 ((Int.toNat (p1 + 2 * v1_1 - (2 * v1_1))) + 1) v1_0 0 (2 * v1_1) v1_1).2.1 * 2), HO_K15_b1 n0 p1 (l_K15_b2 n0 p1 ((Int.toNat (p1 + 2 * v1_1 - (2 * v1_1))) + 1) v1_0 0 (2 * v1_1) v1_1).1 ((l_K15_b2 n0 p1 ((Int.toNat (p1 + 2 * v1_1 - (2 * v1_1))) + 1) v1_0 0 (2 * v1_1) v1_1).2.1 * 2))) [hB 2 h0, hP 1 (w_ok (2 * v1_1) (by omega)), hS 0 false (Fld.rowsView (l_K15_b2 n0 p1 ((Int.toNat (p1 + 2 * v1_1 - (2 * v1_1))) + 1) v1_0 0 (2 * v1_1) v1_1).1 6 rfl), hP 4 (w_ok ((l_K15_b2 n0 p1 ((Int.toNat (p1 + 2 * v1_1 - (2 * v1_1))) + 1) v1_0 0 (2 * v1_1) v1_1).2.2 + (l_K15_b2 n0 p1 ((Int.toNat (p1 + 2 * v1_1 - (2 * v1_1))) + 1) v1_0 0 (2 * v1_1) v1_1).2.1) (by have f0 := (ll_K15_b2_0 n0 p1 ((Int.toNat (p1 + 2 * v1_1 - (2 * v1_1))) + 1) v1_0 0 (2 * v1_1) v1_1 ho1_3); have g0 := pl_K15_b2 n0 p1 ((Int.toNat (p1 + 2 * v1_1 - (2 * v1_1))) + 1) v1_0 0 (2 * v1_1) v1_1 (by omega) (by omega) (by omega) (by omega) (by omega) (by omega) (by omega) ho1_3 (by omega); omega)), hB 3 h1, hP 1 (w_ok ((l_K15_b2 n0 p1 ((Int.toNat (p1 + 2 * v1_1 - (2 * v1_1))) + 1) v1_0 0 (2 * v1_1) v1_1).2.1 * 2) (by have f0 := (ll_K15_b2_0 n0 p1 ((Int.toNat (p1 + 2 * v1_1 - (2 * v1_1))) + 1) v1_0 0 (2 * v1_1) v1_1 ho1_3); have g0 := pl_K15_b2 n0 p1 ((Int.toNat (p1 + 2 * v1_1 - (2 * v1_1))) + 1) v1_0 0 (2 * v1_1) v1_1 (by omega) (by omega) (by omega) (by omega) (by omega) (by omega) (by omega) ho1_3 (by omega); omega))] [aV [(0, Fld.rows (l_K15_b2 n0 p1 ((Int.toNat (p1 + 2 * v1_1 - (2 * v1_1))) + 1) v1_0 0 (2 * v1_1) v1_1).1)] hl1] (by kernel_rfl) hr
def Z_K15_b1_2 (n0 : Nat) (p1 : Int) (_v1_0 : List Fld) (v1_1 : Int) : List PV :=
  [.ms 0 6 0 n0, .int .i64 p1, .fn 51 [] [], .un, .un, .un, .int .i64 v1_1, .un, .un, .un, .un, .un, .un, .un, .un, .un, .un, .un, .un, .un, .un, .un, .un, .un, .un, .un, .un, .un, .int .i64 v1_1, .int .i64 p1, .bool false]
def ZO_K15_b1_2 (_n0 : Nat) (_p1 : Int) (_v1_0 : List Fld) (_v1_1 : Int) : List (Nat × List PV) :=
  []
theorem x_K15_b1_2 (n0 : Nat) (p1 : Int) (v1_0 : List Fld) (v1_1 : Int) (_ho1_0 : 20 ≤ v1_1) (_ho1_1 : p1 = n0) (_ho1_2 : (n0 : Int) ≤ 1152921504606846976) (_ho1_3 : List.length v1_0 = n0) (h0 : (decide (v1_1 < p1)) = false) : P_K15_b1 n0 p1 (E_K15_b1 n0 p1 v1_0 v1_1) v1_0 := by
  exact ⟨(envF (Z_K15_b1_2 n0 p1 v1_0 v1_1)), (zoF (ZO_K15_b1_2 n0 p1 v1_0 v1_1)), tells_outVI (V_K15_b1 n0 p1 v1_0 v1_1) (x := ((.exit 2), S_K15_b1_0 n0 p1 v1_0 (envF (Z_K15_b1_2 n0 p1 v1_0 v1_1)) (zoF (ZO_K15_b1_2 n0 p1 v1_0 v1_1)))) [hB 2 h0] [] (by kernel_rfl)⟩
theorem lt_K15_b1 (n0 : Nat) (p1 : Int) : ∀ (k1 : Nat) (v1_0 : List Fld) (v1_1 : Int), 20 ≤ v1_1 → p1 = n0 → (n0 : Int) ≤ 1152921504606846976 → List.length v1_0 = n0 → Int.toNat (p1 - v1_1) < k1 → P_K15_b1 n0 p1 (E_K15_b1 n0 p1 v1_0 v1_1) (l_K15_b1 n0 p1 k1 v1_0 v1_1)
  | 0, v1_0, v1_1, _, _, _, _, hm => absurd hm (Nat.not_lt_zero _)
  | k1 + 1, v1_0, v1_1, ho1_0, ho1_1, ho1_2, ho1_3, hm => by
    rw [l_K15_b1]
    cases h0 : (decide (v1_1 < p1)) with
    | true =>
     have e0 := of_decide_eq_true h0
     have hl1 := lt_K15_b2 n0 p1 ((Int.toNat (p1 + 2 * v1_1 - (2 * v1_1))) + 1) v1_0 0 (2 * v1_1) v1_1 (by omega) (by omega) (by omega) (by omega) (by omega) (by omega) (by omega) ho1_3 (by omega)
     obtain ⟨z1, zo1, hl1⟩ := hl1
     cases h1 : (decide (((l_K15_b2 n0 p1 ((Int.toNat (p1 + 2 * v1_1 - (2 * v1_1))) + 1) v1_0 0 (2 * v1_1) v1_1).2.2 + (l_K15_b2 n0 p1 ((Int.toNat (p1 + 2 * v1_1 - (2 * v1_1))) + 1) v1_0 0 (2 * v1_1) v1_1).2.1) < p1)) with
     | true =>
      have e1 := of_decide_eq_true h1
      exact P_K15_b1_mono n0 p1 (fun r hr => n_K15_b1_0 n0 p1 v1_0 v1_1 ho1_0 ho1_1 ho1_2 ho1_3 h0 z1 zo1 hl1 h1 hr) _ (lt_K15_b1 n0 p1 k1 (s_K17_f51 ((Int.toNat (p1 - (l_K15_b2 n0 p1 ((Int.toNat (p1 + 2 * v1_1 - (2 * v1_1))) + 1) v1_0 0 (2 * v1_1) v1_1).2.2)) + 1) n0 (l_K15_b2 n0 p1 ((Int.toNat (p1 + 2 * v1_1 - (2 * v1_1))) + 1) v1_0 0 (2 * v1_1) v1_1).1 (l_K15_b2 n0 p1 ((Int.toNat (p1 + 2 * v1_1 - (2 * v1_1))) + 1) v1_0 0 (2 * v1_1) v1_1).2.2 ((l_K15_b2 n0 p1 ((Int.toNat (p1 + 2 * v1_1 - (2 * v1_1))) + 1) v1_0 0 (2 * v1_1) v1_1).2.2 + (l_K15_b2 n0 p1 ((Int.toNat (p1 + 2 * v1_1 - (2 * v1_1))) + 1) v1_0 0 (2 * v1_1) v1_1).2.1) p1) ((l_K15_b2 n0 p1 ((Int.toNat (p1 + 2 * v1_1 - (2 * v1_1))) + 1) v1_0 0 (2 * v1_1) v1_1).2.1 * 2) (by have f0 := (lens_K17_f51 ((Int.toNat (p1 - (l_K15_b2 n0 p1 ((Int.toNat (p1 + 2 * v1_1 - (2 * v1_1))) + 1) v1_0 0 (2 * v1_1) v1_1).2.2)) + 1) n0 (l_K15_b2 n0 p1 ((Int.toNat (p1 + 2 * v1_1 - (2 * v1_1))) + 1) v1_0 0 (2 * v1_1) v1_1).1 (l_K15_b2 n0 p1 ((Int.toNat (p1 + 2 * v1_1 - (2 * v1_1))) + 1) v1_0 0 (2 * v1_1) v1_1).2.2 ((l_K15_b2 n0 p1 ((Int.toNat (p1 + 2 * v1_1 - (2 * v1_1))) + 1) v1_0 0 (2 * v1_1) v1_1).2.2 + (l_K15_b2 n0 p1 ((Int.toNat (p1 + 2 * v1_1 - (2 * v1_1))) + 1) v1_0 0 (2 * v1_1) v1_1).2.1) p1 (ll_K15_b2_0 n0 p1 ((Int.toNat (p1 + 2 * v1_1 - (2 * v1_1))) + 1) v1_0 0 (2 * v1_1) v1_1 ho1_3)); have g0 := pl_K15_b2 n0 p1 ((Int.toNat (p1 + 2 * v1_1 - (2 * v1_1))) + 1) v1_0 0 (2 * v1_1) v1_1 (by omega) (by omega) (by omega) (by omega) (by omega) (by omega) (by omega) ho1_3 (by omega); omega) (by have f0 := (lens_K17_f51 ((Int.toNat (p1 - (l_K15_b2 n0 p1 ((Int.toNat (p1 + 2 * v1_1 - (2 * v1_1))) + 1) v1_0 0 (2 * v1_1) v1_1).2.2)) + 1) n0 (l_K15_b2 n0 p1 ((Int.toNat (p1 + 2 * v1_1 - (2 * v1_1))) + 1) v1_0 0 (2 * v1_1) v1_1).1 (l_K15_b2 n0 p1 ((Int.toNat (p1 + 2 * v1_1 - (2 * v1_1))) + 1) v1_0 0 (2 * v1_1) v1_1).2.2 ((l_K15_b2 n0 p1 ((Int.toNat (p1 + 2 * v1_1 - (2 * v1_1))) + 1) v1_0 0 (2 * v1_1) v1_1).2.2 + (l_K15_b2 n0 p1 ((Int.toNat (p1 + 2 * v1_1 - (2 * v1_1))) + 1) v1_0 0 (2 * v1_1) v1_1).2.1) p1 (ll_K15_b2_0 n0 p1 ((Int.toNat (p1 + 2 * v1_1 - (2 * v1_1))) + 1) v1_0 0 (2 * v1_1) v1_1 ho1_3)); have g0 := pl_K15_b2 n0 p1 ((Int.toNat (p1 + 2 * v1_1 - (2 * v1_1))) + 1) v1_0 0 (2 * v1_1) v1_1 (by omega) (by omega) (by omega) (by omega) (by omega) (by omega) (by omega) ho1_3 (by omega); omega) (by have f0 := (lens_K17_f51 ((Int.toNat (p1 - (l_K15_b2 n0 p1 ((Int.toNat (p1 + 2 * v1_1 - (2 * v1_1))) + 1) v1_0 0 (2 * v1_1) v1_1).2.2)) + 1) n0 (l_K15_b2 n0 p1 ((Int.toNat (p1 + 2 * v1_1 - (2 * v1_1))) + 1) v1_0 0 (2 * v1_1) v1_1).1 (l_K15_b2 n0 p1 ((Int.toNat (p1 + 2 * v1_1 - (2 * v1_1))) + 1) v1_0 0 (2 * v1_1) v1_1).2.2 ((l_K15_b2 n0 p1 ((Int.toNat (p1 + 2 * v1_1 - (2 * v1_1))) + 1) v1_0 0 (2 * v1_1) v1_1).2.2 + (l_K15_b2 n0 p1 ((Int.toNat (p1 + 2 * v1_1 - (2 * v1_1))) + 1) v1_0 0 (2 * v1_1) v1_1).2.1) p1 (ll_K15_b2_0 n0 p1 ((Int.toNat (p1 + 2 * v1_1 - (2 * v1_1))) + 1) v1_0 0 (2 * v1_1) v1_1 ho1_3)); have g0 := pl_K15_b2 n0 p1 ((Int.toNat (p1 + 2 * v1_1 - (2 * v1_1))) + 1) v1_0 0 (2 * v1_1) v1_1 (by omega) (by omega) (by omega) (by omega) (by omega) (by omega) (by omega) ho1_3 (by omega); omega) (lens_K17_f51 ((Int.toNat (p1 - (l_K15_b2 n0 p1 ((Int.toNat (p1 + 2 * v1_1 - (2 * v1_1))) + 1) v1_0 0 (2 * v1_1) v1_1).2.2)) + 1) n0 (l_K15_b2 n0 p1 ((Int.toNat (p1 + 2 * v1_1 - (2 * v1_1))) + 1) v1_0 0 (2 * v1_1) v1_1).1 (l_K15_b2 n0 p1 ((Int.toNat (p1 + 2 * v1_1 - (2 * v1_1))) + 1) v1_0 0 (2 * v1_1) v1_1).2.2 ((l_K15_b2 n0 p1 ((Int.toNat (p1 + 2 * v1_1 - (2 * v1_1))) + 1) v1_0 0 (2 * v1_1) v1_1).2.2 + (l_K15_b2 n0 p1 ((Int.toNat (p1 + 2 * v1_1 - (2 * v1_1))) + 1) v1_0 0 (2 * v1_1) v1_1).2.1) p1 (ll_K15_b2_0 n0 p1 ((Int.toNat (p1 + 2 * v1_1 - (2 * v1_1))) + 1) v1_0 0 (2 * v1_1) v1_1 ho1_3)) (by have f0 := (lens_K17_f51 ((Int.toNat (p1 - (l_K15_b2 n0 p1 ((Int.toNat (p1 + 2 * v1_1 - (2 * v1_1))) + 1) v1_0 0 (2 * v1_1) v1_1).2.2)) + 1) n0 (l_K15_b2 n0 p1 ((Int.toNat (p1 + 2 * v1_1 - (2 * v1_1))) + 1) v1_0 0 (2 * v1_1) v1_1).1 (l_K15_b2 n0 p1 ((Int.toNat (p1 + 2 * v1_1 - (2 * v1_1))) + 1) v1_0 0 (2 * v1_1) v1_1).2.2 ((l_K15_b2 n0 p1 ((Int.toNat (p1 + 2 * v1_1 - (2 * v1_1))) + 1) v1_0 0 (2 * v1_1) v1_1).2.2 + (l_K15_b2 n0 p1 ((Int.toNat (p1 + 2 * v1_1 - (2 * v1_1))) + 1) v1_0 0 (2 * v1_1) v1_1).2.1) p1 (ll_K15_b2_0 n0 p1 ((Int.toNat (p1 + 2 * v1_1 - (2 * v1_1))) + 1) v1_0 0 (2 * v1_1) v1_1 ho1_3)); have g0 := pl_K15_b2 n0 p1 ((Int.toNat (p1 + 2 * v1_1 - (2 * v1_1))) + 1) v1_0 0 (2 * v1_1) v1_1 (by omega) (by omega) (by omega) (by omega) (by omega) (by omega) (by omega) ho1_3 (by omega); omega))
     | false =>
      have e1 := of_decide_eq_false h1
      exact P_K15_b1_mono n0 p1 (fun r hr => n_K15_b1_1 n0 p1 v1_0 v1_1 ho1_0 ho1_1 ho1_2 ho1_3 h0 z1 zo1 hl1 h1 hr) _ (lt_K15_b1 n0 p1 k1 (l_K15_b2 n0 p1 ((Int.toNat (p1 + 2 * v1_1 - (2 * v1_1))) + 1) v1_0 0 (2 * v1_1) v1_1).1 ((l_K15_b2 n0 p1 ((Int.toNat (p1 + 2 * v1_1 - (2 * v1_1))) + 1) v1_0 0 (2 * v1_1) v1_1).2.1 * 2) (by have f0 := (ll_K15_b2_0 n0 p1 ((Int.toNat (p1 + 2 * v1_1 - (2 * v1_1))) + 1) v1_0 0 (2 * v1_1) v1_1 ho1_3); have g0 := pl_K15_b2 n0 p1 ((Int.toNat (p1 + 2 * v1_1 - (2 * v1_1))) + 1) v1_0 0 (2 * v1_1) v1_1 (by omega) (by omega) (by omega) (by omega) (by omega) (by omega) (by omega) ho1_3 (by omega); omega) (by have f0 := (ll_K15_b2_0 n0 p1 ((Int.toNat (p1 + 2 * v1_1 - (2 * v1_1))) + 1) v1_0 0 (2 * v1_1) v1_1 ho1_3); have g0 := pl_K15_b2 n0 p1 ((Int.toNat (p1 + 2 * v1_1 - (2 * v1_1))) + 1) v1_0 0 (2 * v1_1) v1_1 (by omega) (by omega) (by omega) (by omega) (by omega) (by omega) (by omega) ho1_3 (by omega); omega) (by have f0 := (ll_K15_b2_0 n0 p1 ((Int.toNat (p1 + 2 * v1_1 - (2 * v1_1))) + 1) v1_0 0 (2 * v1_1) v1_1 ho1_3); have g0 := pl_K15_b2 n0 p1 ((Int.toNat (p1 + 2 * v1_1 - (2 * v1_1))) + 1) v1_0 0 (2 * v1_1) v1_1 (by omega) (by omega) (by omega) (by omega) (by omega) (by omega) (by omega) ho1_3 (by omega); omega) (ll_K15_b2_0 n0 p1 ((Int.toNat (p1 + 2 * v1_1 - (2 * v1_1))) + 1) v1_0 0 (2 * v1_1) v1_1 ho1_3) (by have f0 := (ll_K15_b2_0 n0 p1 ((Int.toNat (p1 + 2 * v1_1 - (2 * v1_1))) + 1) v1_0 0 (2 * v1_1) v1_1 ho1_3); have g0 := pl_K15_b2 n0 p1 ((Int.toNat (p1 + 2 * v1_1 - (2 * v1_1))) + 1) v1_0 0 (2 * v1_1) v1_1 (by omega) (by omega) (by omega) (by omega) (by omega) (by omega) (by omega) ho1_3 (by omega); omega))
    | false =>
     exact x_K15_b1_2 n0 p1 v1_0 v1_1 ho1_0 ho1_1 ho1_2 ho1_3 h0
theorem ll_K15_b1_0 (n0 : Nat) (p1 : Int) : ∀ (k1 : Nat) (v1_0 : List Fld) (v1_1 : Int), List.length v1_0 = n0 → List.length (l_K15_b1 n0 p1 k1 v1_0 v1_1) = n0
  | 0, v1_0, v1_1, ho1_3 => by rw [l_K15_b1]; exact ho1_3
  | k1 + 1, v1_0, v1_1, ho1_3 => by
    rw [l_K15_b1]
    cases h0 : (decide (v1_1 < p1)) with
    | true =>
     cases h1 : (decide (((l_K15_b2 n0 p1 ((Int.toNat (p1 + 2 * v1_1 - (2 * v1_1))) + 1) v1_0 0 (2 * v1_1) v1_1).2.2 + (l_K15_b2 n0 p1 ((Int.toNat (p1 + 2 * v1_1 - (2 * v1_1))) + 1) v1_0 0 (2 * v1_1) v1_1).2.1) < p1)) with
     | true =>
      exact ll_K15_b1_0 n0 p1 k1 (s_K17_f51 ((Int.toNat (p1 - (l_K15_b2 n0 p1 ((Int.toNat (p1 + 2 * v1_1 - (2 * v1_1))) + 1) v1_0 0 (2 * v1_1) v1_1).2.2)) + 1) n0 (l_K15_b2 n0 p1 ((Int.toNat (p1 + 2 * v1_1 - (2 * v1_1))) + 1) v1_0 0 (2 * v1_1) v1_1).1 (l_K15_b2 n0 p1 ((Int.toNat (p1 + 2 * v1_1 - (2 * v1_1))) + 1) v1_0 0 (2 * v1_1) v1_1).2.2 ((l_K15_b2 n0 p1 ((Int.toNat (p1 + 2 * v1_1 - (2 * v1_1))) + 1) v1_0 0 (2 * v1_1) v1_1).2.2 + (l_K15_b2 n0 p1 ((Int.toNat (p1 + 2 * v1_1 - (2 * v1_1))) + 1) v1_0 0 (2 * v1_1) v1_1).2.1) p1) ((l_K15_b2 n0 p1 ((Int.toNat (p1 + 2 * v1_1 - (2 * v1_1))) + 1) v1_0 0 (2 * v1_1) v1_1).2.1 * 2) (lens_K17_f51 ((Int.toNat (p1 - (l_K15_b2 n0 p1 ((Int.toNat (p1 + 2 * v1_1 - (2 * v1_1))) + 1) v1_0 0 (2 * v1_1) v1_1).2.2)) + 1) n0 (l_K15_b2 n0 p1 ((Int.toNat (p1 + 2 * v1_1 - (2 * v1_1))) + 1) v1_0 0 (2 * v1_1) v1_1).1 (l_K15_b2 n0 p1 ((Int.toNat (p1 + 2 * v1_1 - (2 * v1_1))) + 1) v1_0 0 (2 * v1_1) v1_1).2.2 ((l_K15_b2 n0 p1 ((Int.toNat (p1 + 2 * v1_1 - (2 * v1_1))) + 1) v1_0 0 (2 * v1_1) v1_1).2.2 + (l_K15_b2 n0 p1 ((Int.toNat (p1 + 2 * v1_1 - (2 * v1_1))) + 1) v1_0 0 (2 * v1_1) v1_1).2.1) p1 (ll_K15_b2_0 n0 p1 ((Int.toNat (p1 + 2 * v1_1 - (2 * v1_1))) + 1) v1_0 0 (2 * v1_1) v1_1 ho1_3))
     | false =>
      exact ll_K15_b1_0 n0 p1 k1 (l_K15_b2 n0 p1 ((Int.toNat (p1 + 2 * v1_1 - (2 * v1_1))) + 1) v1_0 0 (2 * v1_1) v1_1).1 ((l_K15_b2 n0 p1 ((Int.toNat (p1 + 2 * v1_1 - (2 * v1_1))) + 1) v1_0 0 (2 * v1_1) v1_1).2.1 * 2) (ll_K15_b2_0 n0 p1 ((Int.toNat (p1 + 2 * v1_1 - (2 * v1_1))) + 1) v1_0 0 (2 * v1_1) v1_1 ho1_3)
    | false =>
     exact ho1_3
/-- slices.stableCmpFunc[orchestrator/ api.Field] -/
def s_K15_f51 (n0 : Nat) (p0 : List Fld) (p1 : Int) : List Fld :=
  (l_K15_b1 n0 p1 ((Int.toNat (p1 - 20)) + 1) (s_K13_f51 n0 (l_K15_b0 n0 p1 ((Int.toNat (p1 + 20 - 20)) + 1) p0 0 20).1 (l_K15_b0 n0 p1 ((Int.toNat (p1 + 20 - 20)) + 1) p0 0 20).2 p1) 20)
def c_K15_f51 (n0 : Nat) (p0 : List Fld) (p1 : Int) : En := .call 64 [.ms 0 6 0 n0, .int .i64 p1, .fn 51 [] []] [⟨6, 0, false, (Fld.rows p0).flatten⟩]
def a_K15_f51 (n0 : Nat) (p0 : List Fld) (p1 : Int) : Rs := .ret (.tup []) [⟨6, 0, false, (Fld.rows (s_K15_f51 n0 p0 p1)).flatten⟩]
theorem lens_K15_f51 (n0 : Nat) (p0 : List Fld) (p1 : Int) (hn : List.length p0 = n0) : List.length (s_K15_f51 n0 p0 p1) = n0 := by
  unfold s_K15_f51
  have hz0_0 : List.length (l_K15_b0 n0 p1 ((Int.toNat (p1 + 20 - 20)) + 1) p0 0 20).1 = n0 := ll_K15_b0_0 n0 p1 ((Int.toNat (p1 + 20 - 20)) + 1) p0 0 20 hn
  obtain ⟨R8, eR8⟩ : ∃ R, (l_K15_b0 n0 p1 ((Int.toNat (p1 + 20 - 20)) + 1) p0 0 20) = R := ⟨_, rfl⟩
  rw [eR8] at hz0_0 ⊢
  have hz1_0 : List.length (l_K15_b1 n0 p1 ((Int.toNat (p1 - 20)) + 1) (s_K13_f51 n0 R8.1 R8.2 p1) 20) = n0 := ll_K15_b1_0 n0 p1 ((Int.toNat (p1 - 20)) + 1) (s_K13_f51 n0 R8.1 R8.2 p1) 20 (lens_K13_f51 n0 R8.1 R8.2 p1 hz0_0)
  obtain ⟨R9, eR9⟩ : ∃ R, (l_K15_b1 n0 p1 ((Int.toNat (p1 - 20)) + 1) (s_K13_f51 n0 R8.1 R8.2 p1) 20) = R := ⟨_, rfl⟩
  rw [eR9] at hz1_0 ⊢
  exact hz1_0
theorem t_K15_f51 (n0 : Nat) (p0 : List Fld) (p1 : Int) (hn : List.length p0 = n0) (hq0 : 0 ≤ p1 ∧ p1 = n0 ∧ (n0 : Int) ≤ 1152921504606846976) : Tells G (c_K15_f51 n0 p0 p1) (a_K15_f51 n0 p0 p1) := by
  unfold a_K15_f51 s_K15_f51
  have hl0 := lt_K15_b0 n0 p1 ((Int.toNat (p1 + 20 - 20)) + 1) p0 0 20 (by omega) (by omega) (by omega) (by omega) (by omega) hn (by omega)
  have hz0_0 : List.length (l_K15_b0 n0 p1 ((Int.toNat (p1 + 20 - 20)) + 1) p0 0 20).1 = n0 := ll_K15_b0_0 n0 p1 ((Int.toNat (p1 + 20 - 20)) + 1) p0 0 20 hn
  have hy0 : 0 ≤ (l_K15_b0 n0 p1 ((Int.toNat (p1 + 20 - 20)) + 1) p0 0 20).2 ∧ (l_K15_b0 n0 p1 ((Int.toNat (p1 + 20 - 20)) + 1) p0 0 20).2 ≤ n0 := pl_K15_b0 n0 p1 ((Int.toNat (p1 + 20 - 20)) + 1) p0 0 20 (by omega) (by omega) (by omega) (by omega) (by omega) hn (by omega)
  obtain ⟨R8, eR8⟩ : ∃ R, (l_K15_b0 n0 p1 ((Int.toNat (p1 + 20 - 20)) + 1) p0 0 20) = R := ⟨_, rfl⟩
  rw [eR8] at hz0_0 hy0 hl0 ⊢
  obtain ⟨z0, zo0, hl0⟩ := hl0
  have hl1 := lt_K15_b1 n0 p1 ((Int.toNat (p1 - 20)) + 1) (s_K13_f51 n0 R8.1 R8.2 p1) 20 (by have f0 := (lens_K13_f51 n0 R8.1 R8.2 p1 hz0_0); have g0 := hy0; omega) (by have f0 := (lens_K13_f51 n0 R8.1 R8.2 p1 hz0_0); have g0 := hy0; omega) (by have f0 := (lens_K13_f51 n0 R8.1 R8.2 p1 hz0_0); have g0 := hy0; omega) (lens_K13_f51 n0 R8.1 R8.2 p1 hz0_0) (by omega)
  have hz1_0 : List.length (l_K15_b1 n0 p1 ((Int.toNat (p1 - 20)) + 1) (s_K13_f51 n0 R8.1 R8.2 p1) 20) = n0 := ll_K15_b1_0 n0 p1 ((Int.toNat (p1 - 20)) + 1) (s_K13_f51 n0 R8.1 R8.2 p1) 20 (lens_K13_f51 n0 R8.1 R8.2 p1 hz0_0)
  obtain ⟨R9, eR9⟩ : ∃ R, (l_K15_b1 n0 p1 ((Int.toNat (p1 - 20)) + 1) (s_K13_f51 n0 R8.1 R8.2 p1) 20) = R := ⟨_, rfl⟩
  rw [eR9] at hz1_0 hl1 ⊢
  obtain ⟨z1, zo1, hl1⟩ := hl1
  exact tells_VI (fn := Ir.K15) rfl (vk1 (Fld.rowsView p0 6 rfl)) [hS 0 false (Fld.rowsView R8.1 6 rfl), hQ (Fld.rowsView (s_K13_f51 n0 R8.1 R8.2 p1) 6 rfl), hS 0 false (Fld.rowsView R9 6 rfl)] [aV [(0, Fld.rows R8.1)] hl0, aV [(0, Fld.rows (s_K13_f51 n0 R8.1 R8.2 p1))] (t_K13_f51 n0 R8.1 R8.2 p1 hz0_0 (by have g0 := hy0; omega)), aV [(0, Fld.rows R9)] hl1] (by kernel_rfl)
/-- slices.SortStableFunc[[]orchestrator/ api.Field,orchestrator/ api.Field] -/
def s_K12_f51 (n0 : Nat) (p0 : List Fld) : List Fld :=
  (s_K15_f51 n0 p0 (n0 : Int))
def c_K12_f51 (n0 : Nat) (p0 : List Fld) : En := .call 50 [.ms 0 6 0 n0, .fn 51 [] []] [⟨6, 0, false, (Fld.rows p0).flatten⟩]
def a_K12_f51 (n0 : Nat) (p0 : List Fld) : Rs := .ret (.tup []) [⟨6, 0, false, (Fld.rows (s_K12_f51 n0 p0)).flatten⟩]
theorem lens_K12_f51 (n0 : Nat) (p0 : List Fld) (hn : List.length p0 = n0) : List.length (s_K12_f51 n0 p0) = n0 := by
  unfold s_K12_f51
  exact (lens_K15_f51 n0 p0 (n0 : Int) hn)
theorem t_K12_f51 (n0 : Nat) (p0 : List Fld) (hn : List.length p0 = n0) (hq0 : (n0 : Int) ≤ 1152921504606846976) : Tells G (c_K12_f51 n0 p0) (a_K12_f51 n0 p0) := by
  unfold a_K12_f51 s_K12_f51
  exact tells_VI (fn := Ir.K12) rfl (vk1 (Fld.rowsView p0 6 rfl)) [hQ (Fld.rowsView (s_K15_f51 n0 p0 (n0 : Int)) 6 rfl)] [aV [(0, Fld.rows (s_K15_f51 n0 p0 (n0 : Int)))] (t_K15_f51 n0 p0 (n0 : Int) hn (by omega))] (by kernel_rfl)
def l_K1h_b0 (p0 : List Fld) : List Fld → Nat → (List Fld) → List Fld
  | [], _i0, v0_1 =>
    v0_1
  | x0 :: r0, i0, v0_1 =>
    bif (((i0 + 1 : Nat) : Int) == ((List.length p0) : Int)) then
      l_K1h_b0 p0 r0 (i0 + 1) (v0_1 ++ [x0])
    else
      bif (sEq (List.getD (s_K12_f51 (List.length p0) p0) (Int.toNat ((i0 + 1 : Nat) : Int)) (Fld.mk (⟨#[]⟩ : ByteArray) (Val.mk 0 0 (⟨#[]⟩ : ByteArray) [] []))).name x0.name) then
        l_K1h_b0 p0 r0 (i0 + 1) v0_1
      else
        l_K1h_b0 p0 r0 (i0 + 1) (v0_1 ++ [x0])
def HE_K1h_b0 (p0 : List Fld) (i0 : Nat) (_v0_1 : List Fld) : List PV :=
  [.un, .un, .bx 0 0, .ms 1 6 0 (List.length p0), .bx 2 0, .un, .un, .un, .un, .un, .un, .un, .ms 1 6 0 (List.length p0), .int .i64 ((List.length p0) : Int), .int .i64 (i0 : Int), .un, .un, .un, .un, .un, .un, .un, .un, .un, .un, .un, .un, .un, .un, .un, .un, .un, .un, .un, .un, .un, .un, .un, .un, .un, .un, .un, .un, .un]
def HO_K1h_b0 (p0 : List Fld) (_i0 : Nat) (v0_1 : List Fld) : List Ob :=
  [⟨5, 0, true, [.int .i64 0, .int .i64 0, .str (⟨#[]⟩ : ByteArray), .ms 3 5 0 0, .ms 4 6 0 0]⟩, ⟨6, 0, false, (Fld.rows (s_K12_f51 (List.length p0) p0)).flatten⟩, ⟨5, 0, true, [.int .i64 5, .int .i64 0, .str (⟨#[]⟩ : ByteArray), .ms 5 5 0 0, .ms 6 6 0 (List.length v0_1)]⟩, ⟨5, 0, true, []⟩, ⟨6, 0, true, []⟩, ⟨5, 0, true, []⟩, ⟨6, 0, true, (Fld.rows v0_1).flatten⟩]
def E_K1h_b0 (p0 : List Fld) (i0 : Nat) (v0_1 : List Fld) : En := .loop 0 Ir.K1h_b0_live Ir.K1h_b0 (HE_K1h_b0 p0 i0 v0_1) (HO_K1h_b0 p0 i0 v0_1)
def S_K1h_b0_0 (p0 : List Fld) (q0 : List Fld) (z : Nat → PV) (_zo : Nat → List PV) : St :=
  ⟨[z 0, z 1, .bx 0 0, z 3, .bx 2 0, z 5, z 6, z 7, z 8, z 9, z 10, z 11, z 12, z 13, z 14, z 15, z 16, z 17, z 18, z 19, z 20, z 21, z 22, z 23, z 24, z 25, z 26, z 27, z 28, z 29, z 30, z 31, z 32, z 33, z 34, z 35, z 36, z 37, z 38, z 39, z 40, z 41, z 42, z 43], [(0, ⟨5, 0, true, [.int .i64 0, .int .i64 0, .str (⟨#[]⟩ : ByteArray), .ms 3 5 0 0, .ms 4 6 0 0]⟩), (1, ⟨6, 0, false, (Fld.rows (s_K12_f51 (List.length p0) p0)).flatten⟩), (2, ⟨5, 0, true, [.int .i64 5, .int .i64 0, .str (⟨#[]⟩ : ByteArray), .ms 5 5 0 0, .ms 6 6 0 (List.length q0)]⟩), (3, ⟨5, 0, true, []⟩), (4, ⟨6, 0, true, []⟩), (5, ⟨5, 0, true, []⟩), (6, ⟨6, 0, true, (Fld.rows q0).flatten⟩)], 71⟩
theorem V_K1h_b0 (p0 : List Fld) (i0 : Nat) (v0_1 : List Fld) : VOK (Go.Pv.look (number 0 (HO_K1h_b0 p0 i0 v0_1))) [(1, Fld.rows (s_K12_f51 (List.length p0) p0)), (6, Fld.rows v0_1)] := (VOK.cons (show Seen _ _ from seenV (ob := ⟨6, 0, false, (Fld.rows (s_K12_f51 (List.length p0) p0)).flatten⟩) (Fld.rowsView (s_K12_f51 (List.length p0) p0) 6 rfl)) (VOK.cons (show Seen _ _ from seenV (ob := ⟨6, 0, true, (Fld.rows v0_1).flatten⟩) (Fld.rowsView v0_1 6 rfl)) VOK.nil))
def P_K1h_b0 (p0 : List Fld) (e : En) (q : List Fld) : Prop := ∃ z zo, Tells G e (.st (.exit 0) (S_K1h_b0_0 p0 q z zo))
theorem P_K1h_b0_mono (p0 : List Fld) {e e' : En} (h : ∀ r, Tells G e r → Tells G e' r) : ∀ q, P_K1h_b0 p0 e q → P_K1h_b0 p0 e' q
  | _, ⟨z, zo, hz⟩ => ⟨z, zo, h _ hz⟩
def H_K1h_b0 (p0 : List Fld) : Prop := (List.length (s_K12_f51 (List.length p0) p0) ≤ 137438953472) ∧ True
def Z_K1h_b0_0 (p0 : List Fld) (i0 : Nat) (_v0_1 : List Fld) : List PV :=
  [.un, .un, .un, .ms 1 6 0 (List.length p0), .un, .un, .un, .un, .un, .un, .un, .un, .ms 1 6 0 (List.length p0), .int .i64 ((List.length p0) : Int), .int .i64 (i0 : Int), .bool false]
def ZO_K1h_b0_0 (_p0 : List Fld) (_i0 : Nat) (_v0_1 : List Fld) : List (Nat × List PV) :=
  []
theorem x_K1h_b0_0 (p0 : List Fld) (_H : H_K1h_b0 p0) (i0 : Nat) (v0_1 : List Fld) (_ho0_0 : List.length v0_1 ≤ i0) (hc0 : (decide ((i0 : Int) < ((List.length p0) : Int))) = false) : P_K1h_b0 p0 (E_K1h_b0 p0 i0 v0_1) v0_1 := by
  exact ⟨(envF (Z_K1h_b0_0 p0 i0 v0_1)), (zoF (ZO_K1h_b0_0 p0 i0 v0_1)), tells_outVI (V_K1h_b0 p0 i0 v0_1) (x := ((.exit 0), S_K1h_b0_0 p0 v0_1 (envF (Z_K1h_b0_0 p0 i0 v0_1)) (zoF (ZO_K1h_b0_0 p0 i0 v0_1)))) [hB 0 hc0] [] (by kernel_rfl)⟩
theorem n_K1h_b0_1 (p0 : List Fld) (H : H_K1h_b0 p0) (x0 : Fld) (i0 : Nat) (v0_1 : List Fld) (hx0 : (s_K12_f51 (List.length p0) p0)[i0]? = some x0) (hi0 : i0 < List.length (s_K12_f51 (List.length p0) p0)) (ho0_0 : List.length v0_1 ≤ i0) (hc0 : (decide ((i0 : Int) < ((List.length p0) : Int))) = true) (h0 : (((i0 + 1 : Nat) : Int) == ((List.length p0) : Int)) = true) {r : Rs} (hr : Tells G (E_K1h_b0 p0 (i0 + 1) (v0_1 ++ [x0])) r) : Tells G (E_K1h_b0 p0 i0 v0_1) r := by
  have hB0 := H.1; have e0 := eq_of_beq h0
  exact tells_nextVI (V_K1h_b0 p0 i0 v0_1) (y := (HE_K1h_b0 p0 (i0 + 1) (v0_1 ++ [x0]), HO_K1h_b0 p0 (i0 + 1) (v0_1 ++ [x0]))) [hB 0 hc0, hP 1 (ixs_ok 1 6 (List.length p0) (i0 : Int) i0 (by omega) (by have f1 := (lens_K12_f51 (List.length p0) p0 rfl); omega) (by have f1 := (lens_K12_f51 (List.length p0) p0 rfl); omega)), hP 0 (ld_ok 1 6 0 false ((Fld.rows (s_K12_f51 (List.length p0) p0)).flatten) (Fld.rows (s_K12_f51 (List.length p0) p0)) 6 true i0 0 (i0 * 6) (Fld.cells x0) (.agg [.str x0.name, .int .i64 x0.v.kind, .int .i64 x0.v.n, .str x0.v.s, .sl (Val.rows x0.v.list), .sl (Fld.rows x0.v.fields)]) rfl rfl (Fld.rowsGet hx0) (Fld.rowsSize (s_K12_f51 (List.length p0) p0)) (by decide) rfl), hP 4 (inc_ok i0 (by omega)), hB 2 h0, hV 15 [(1735, Fld.rows (v0_1 ++ [x0]))] (ap_ok 6 1671 1735 6 96 0 0 true (Fld.rows v0_1) (Fld.rows (v0_1 ++ [x0])) (Fld.cells x0) (List.length v0_1) (List.length (v0_1 ++ [x0])) rfl (Fld.rowsLen v0_1).symm (Fld.rowsLen (v0_1 ++ [x0])).symm (Fld.rowsSnoc v0_1 x0) (Fld.rowsSize v0_1) rfl (by omega)), hS 0 true (Fld.rowsView (v0_1 ++ [x0]) 6 rfl), hP 2 (inc_ok i0 (by omega))] [] (by kernel_rfl) hr
theorem n_K1h_b0_2 (p0 : List Fld) (H : H_K1h_b0 p0) (x0 : Fld) (i0 : Nat) (v0_1 : List Fld) (hx0 : (s_K12_f51 (List.length p0) p0)[i0]? = some x0) (hi0 : i0 < List.length (s_K12_f51 (List.length p0) p0)) (_ho0_0 : List.length v0_1 ≤ i0) (hc0 : (decide ((i0 : Int) < ((List.length p0) : Int))) = true) (h0 : (((i0 + 1 : Nat) : Int) == ((List.length p0) : Int)) = false) (h1 : (sEq (List.getD (s_K12_f51 (List.length p0) p0) (Int.toNat ((i0 + 1 : Nat) : Int)) (Fld.mk (⟨#[]⟩ : ByteArray) (Val.mk 0 0 (⟨#[]⟩ : ByteArray) [] []))).name x0.name) = true) {r : Rs} (hr : Tells G (E_K1h_b0 p0 (i0 + 1) v0_1) r) : Tells G (E_K1h_b0 p0 i0 v0_1) r := by
  have hB0 := H.1; have e0 := beq_eq_false_iff_ne.1 h0
  exact tells_nextVI (V_K1h_b0 p0 i0 v0_1) (y := (HE_K1h_b0 p0 (i0 + 1) v0_1, HO_K1h_b0 p0 (i0 + 1) v0_1)) [hB 0 hc0, hP 1 (ixs_ok 1 6 (List.length p0) (i0 : Int) i0 (by omega) (by have f1 := (lens_K12_f51 (List.length p0) p0 rfl); omega) (by have f1 := (lens_K12_f51 (List.length p0) p0 rfl); omega)), hP 0 (ld_ok 1 6 0 false ((Fld.rows (s_K12_f51 (List.length p0) p0)).flatten) (Fld.rows (s_K12_f51 (List.length p0) p0)) 6 true i0 0 (i0 * 6) (Fld.cells x0) (.agg [.str x0.name, .int .i64 x0.v.kind, .int .i64 x0.v.n, .str x0.v.s, .sl (Val.rows x0.v.list), .sl (Fld.rows x0.v.fields)]) rfl rfl (Fld.rowsGet hx0) (Fld.rowsSize (s_K12_f51 (List.length p0) p0)) (by decide) rfl), hP 4 (inc_ok i0 (by omega)), hB 2 h0, hP 3 (inc_ok i0 (by omega)), hP 0 (ixs_ok 1 6 (List.length p0) ((i0 + 1 : Nat) : Int) (Int.toNat ((i0 + 1 : Nat) : Int)) rfl (by have f1 := (lens_K12_f51 (List.length p0) p0 rfl); omega) (by have f1 := (lens_K12_f51 (List.length p0) p0 rfl); omega)), hP 1 (ld_ok 1 6 0 false ((Fld.rows (s_K12_f51 (List.length p0) p0)).flatten) (Fld.rows (s_K12_f51 (List.length p0) p0)) 1 false (Int.toNat ((i0 + 1 : Nat) : Int)) 0 ((Int.toNat ((i0 + 1 : Nat) : Int)) * 6) (Fld.cells (List.getD (s_K12_f51 (List.length p0) p0) (Int.toNat ((i0 + 1 : Nat) : Int)) (Fld.mk (⟨#[]⟩ : ByteArray) (Val.mk 0 0 (⟨#[]⟩ : ByteArray) [] [])))) (.str (List.getD (s_K12_f51 (List.length p0) p0) (Int.toNat ((i0 + 1 : Nat) : Int)) (Fld.mk (⟨#[]⟩ : ByteArray) (Val.mk 0 0 (⟨#[]⟩ : ByteArray) [] []))).name) rfl rfl (Fld.rowsGet (getD_ok (s_K12_f51 (List.length p0) p0) (Int.toNat ((i0 + 1 : Nat) : Int)) (Fld.mk (⟨#[]⟩ : ByteArray) (Val.mk 0 0 (⟨#[]⟩ : ByteArray) [] [])) (by have f1 := (lens_K12_f51 (List.length p0) p0 rfl); omega))) (Fld.rowsSize (s_K12_f51 (List.length p0) p0)) (by decide) rfl), hP 2 (dec (!(sEq (List.getD (s_K12_f51 (List.length p0) p0) (Int.toNat ((i0 + 1 : Nat) : Int)) (Fld.mk (⟨#[]⟩ : ByteArray) (Val.mk 0 0 (⟨#[]⟩ : ByteArray) [] []))).name x0.name)) false (by rw [h1]; rfl)), hP 1 (inc_ok i0 (by omega))] [] (by kernel_rfl) hr
theorem n_K1h_b0_3 (p0 : List Fld) (H : H_K1h_b0 p0) (x0 : Fld) (i0 : Nat) (v0_1 : List Fld) (hx0 : (s_K12_f51 (List.length p0) p0)[i0]? = some x0) (hi0 : i0 < List.length (s_K12_f51 (List.length p0) p0)) (ho0_0 : List.length v0_1 ≤ i0) (hc0 : (decide ((i0 : Int) < ((List.length p0) : Int))) = true) (h0 : (((i0 + 1 : Nat) : Int) == ((List.length p0) : Int)) = false) (h1 : (sEq (List.getD (s_K12_f51 (List.length p0) p0) (Int.toNat ((i0 + 1 : Nat) : Int)) (Fld.mk (⟨#[]⟩ : ByteArray) (Val.mk 0 0 (⟨#[]⟩ : ByteArray) [] []))).name x0.name) = false) {r : Rs} (hr : Tells G (E_K1h_b0 p0 (i0 + 1) (v0_1 ++ [x0])) r) : Tells G (E_K1h_b0 p0 i0 v0_1) r := by
  have hB0 := H.1; have e0 := beq_eq_false_iff_ne.1 h0
  exact tells_nextVI (V_K1h_b0 p0 i0 v0_1) (y := (HE_K1h_b0 p0 (i0 + 1) (v0_1 ++ [x0]), HO_K1h_b0 p0 (i0 + 1) (v0_1 ++ [x0]))) [hB 0 hc0, hP 1 (ixs_ok 1 6 (List.length p0) (i0 : Int) i0 (by omega) (by have f1 := (lens_K12_f51 (List.length p0) p0 rfl); omega) (by have f1 := (lens_K12_f51 (List.length p0) p0 rfl); omega)), hP 0 (ld_ok 1 6 0 false ((Fld.rows (s_K12_f51 (List.length p0) p0)).flatten) (Fld.rows (s_K12_f51 (List.length p0) p0)) 6 true i0 0 (i0 * 6) (Fld.cells x0) (.agg [.str x0.name, .int .i64 x0.v.kind, .int .i64 x0.v.n, .str x0.v.s, .sl (Val.rows x0.v.list), .sl (Fld.rows x0.v.fields)]) rfl rfl (Fld.rowsGet hx0) (Fld.rowsSize (s_K12_f51 (List.length p0) p0)) (by decide) rfl), hP 4 (inc_ok i0 (by omega)), hB 2 h0, hP 3 (inc_ok i0 (by omega)), hP 0 (ixs_ok 1 6 (List.length p0) ((i0 + 1 : Nat) : Int) (Int.toNat ((i0 + 1 : Nat) : Int)) rfl (by have f1 := (lens_K12_f51 (List.length p0) p0 rfl); omega) (by have f1 := (lens_K12_f51 (List.length p0) p0 rfl); omega)), hP 1 (ld_ok 1 6 0 false ((Fld.rows (s_K12_f51 (List.length p0) p0)).flatten) (Fld.rows (s_K12_f51 (List.length p0) p0)) 1 false (Int.toNat ((i0 + 1 : Nat) : Int)) 0 ((Int.toNat ((i0 + 1 : Nat) : Int)) * 6) (Fld.cells (List.getD (s_K12_f51 (List.length p0) p0) (Int.toNat ((i0 + 1 : Nat) : Int)) (Fld.mk (⟨#[]⟩ : ByteArray) (Val.mk 0 0 (⟨#[]⟩ : ByteArray) [] [])))) (.str (List.getD (s_K12_f51 (List.length p0) p0) (Int.toNat ((i0 + 1 : Nat) : Int)) (Fld.mk (⟨#[]⟩ : ByteArray) (Val.mk 0 0 (⟨#[]⟩ : ByteArray) [] []))).name) rfl rfl (Fld.rowsGet (getD_ok (s_K12_f51 (List.length p0) p0) (Int.toNat ((i0 + 1 : Nat) : Int)) (Fld.mk (⟨#[]⟩ : ByteArray) (Val.mk 0 0 (⟨#[]⟩ : ByteArray) [] [])) (by have f1 := (lens_K12_f51 (List.length p0) p0 rfl); omega))) (Fld.rowsSize (s_K12_f51 (List.length p0) p0)) (by decide) rfl), hP 2 (dec (!(sEq (List.getD (s_K12_f51 (List.length p0) p0) (Int.toNat ((i0 + 1 : Nat) : Int)) (Fld.mk (⟨#[]⟩ : ByteArray) (Val.mk 0 0 (⟨#[]⟩ : ByteArray) [] []))).name x0.name)) true (by rw [h1]; rfl)), hV 5 [(1735, Fld.rows (v0_1 ++ [x0]))] (ap_ok 6 1671 1735 6 96 0 0 true (Fld.rows v0_1) (Fld.rows (v0_1 ++ [x0])) (Fld.cells x0) (List.length v0_1) (List.length (v0_1 ++ [x0])) rfl (Fld.rowsLen v0_1).symm (Fld.rowsLen (v0_1 ++ [x0])).symm (Fld.rowsSnoc v0_1 x0) (Fld.rowsSize v0_1) rfl (by omega)), hS 0 true (Fld.rowsView (v0_1 ++ [x0]) 6 rfl), hP 2 (inc_ok i0 (by omega))] [] (by kernel_rfl) hr
theorem lt_K1h_b0 (p0 : List Fld) (H : H_K1h_b0 p0) : ∀ (r0 : List Fld) (i0 : Nat) (v0_1 : List Fld), List.drop i0 (s_K12_f51 (List.length p0) p0) = r0 → List.length v0_1 ≤ i0 → P_K1h_b0 p0 (E_K1h_b0 p0 i0 v0_1) (l_K1h_b0 p0 r0 i0 v0_1)
  | [], i0, v0_1, hd, ho0_0 => by
    have hc0 : (decide ((i0 : Int) < ((List.length p0) : Int))) = false := by have hL := (lens_K12_f51 (List.length p0) p0 rfl); have := drop_end hd; simp; omega
    rw [l_K1h_b0]
    exact x_K1h_b0_0 p0 H i0 v0_1 ho0_0 hc0
  | x0 :: r0, i0, v0_1, hd, ho0_0 => by
    obtain ⟨hx0, hi0, hd'⟩ := drop_get hd
    have hc0 : (decide ((i0 : Int) < ((List.length p0) : Int))) = true := by have hL := (lens_K12_f51 (List.length p0) p0 rfl); simp; omega
    rw [l_K1h_b0]
    cases h0 : (((i0 + 1 : Nat) : Int) == ((List.length p0) : Int)) with
    | true =>
     have e0 := eq_of_beq h0
     exact P_K1h_b0_mono p0 (fun r hr => n_K1h_b0_1 p0 H x0 i0 v0_1 hx0 hi0 ho0_0 hc0 h0 hr) _ (lt_K1h_b0 p0 H r0 (i0 + 1) (v0_1 ++ [x0]) hd' (by first | omega | (simp; omega)))
    | false =>
     have e0 := beq_eq_false_iff_ne.1 h0
     cases h1 : (sEq (List.getD (s_K12_f51 (List.length p0) p0) (Int.toNat ((i0 + 1 : Nat) : Int)) (Fld.mk (⟨#[]⟩ : ByteArray) (Val.mk 0 0 (⟨#[]⟩ : ByteArray) [] []))).name x0.name) with
     | true =>
      exact P_K1h_b0_mono p0 (fun r hr => n_K1h_b0_2 p0 H x0 i0 v0_1 hx0 hi0 ho0_0 hc0 h0 h1 hr) _ (lt_K1h_b0 p0 H r0 (i0 + 1) v0_1 hd' (by first | omega | (simp; omega)))
     | false =>
      exact P_K1h_b0_mono p0 (fun r hr => n_K1h_b0_3 p0 H x0 i0 v0_1 hx0 hi0 ho0_0 hc0 h0 h1 hr) _ (lt_K1h_b0 p0 H r0 (i0 + 1) (v0_1 ++ [x0]) hd' (by first | omega | (simp; omega)))
def s_K1h (p0 : List Fld) : Val :=
  (Val.mk 5 0 (⟨#[]⟩ : ByteArray) [] (l_K1h_b0 p0 (s_K12_f51 (List.length p0) p0) 0 []))
def c_K1h (p0 : List Fld) : En := .call 22 [.sl (Fld.rows p0)] []
def a_K1h (p0 : List Fld) : Rs := .ret (.agg (Val.cells (s_K1h p0))) []
def H_K1h (p0 : List Fld) : Prop := (List.length p0 * 96 ≤ 140737488355328) ∧ (((List.length p0) : Int) ≤ 1152921504606846976) ∧ (H_K1h_b0 p0) ∧ (H_K1p (Val.mk 5 0 (⟨#[]⟩ : ByteArray) [] (l_K1h_b0 p0 (s_K12_f51 (List.length p0) p0) 0 []))) ∧ True
theorem t_K1h (p0 : List Fld) (H : H_K1h p0) : Tells G (c_K1h p0) (a_K1h p0) := by
  unfold a_K1h s_K1h
  have hl0 := lt_K1h_b0 p0 (H.2.2.1) (s_K12_f51 (List.length p0) p0) 0 [] (by simp) (by simp)
  obtain ⟨z0, zo0, hl0⟩ := hl0
  exact tells_VI (fn := Ir.K1h) rfl VOK.nil [hQ (Fld.rowsView p0 6 rfl), hQ (Fld.rowsView (s_K12_f51 (List.length p0) p0) 6 rfl), hS 0 false (Fld.rowsView (s_K12_f51 (List.length p0) p0) 6 rfl), hS 0 true (Fld.rowsView (l_K1h_b0 p0 (s_K12_f51 (List.length p0) p0) 0 []) 6 rfl), hQ (Fld.rowsLen (l_K1h_b0 p0 (s_K12_f51 (List.length p0) p0) 0 [])).symm] [aV [(0, Fld.rows p0)] (tells_clone (G := G) (f := 49) (sz := 6) (bytes := 96) rfl (Fld.rowsLen p0) (Fld.rowsView p0 6 rfl) H.1), aV [(0, Fld.rows (s_K12_f51 (List.length p0) p0))] (t_K12_f51 (List.length p0) p0 rfl (H.2.1)), aV [(1, Fld.rows (s_K12_f51 (List.length p0) p0)), (6, Fld.rows (l_K1h_b0 p0 (s_K12_f51 (List.length p0) p0) 0 []))] hl0, aN (t_K1p (Val.mk 5 0 (⟨#[]⟩ : ByteArray) [] (l_K1h_b0 p0 (s_K12_f51 (List.length p0) p0) 0 [])) H.2.2.2.1)] (by kernel_rfl)
end Go.Proofs.Ytedohmdgbilicaa
end

section
/- The library's stable sort as plain functions on lists, and what it answers: the stably sorted list. Program-free. -/
namespace Go.Pv.Srt
section
variable {α : Type} (z : α) (c : α → α → Int)
def gt (d : List α) (i : Int) : α := d.getD i.toNat z
def sw (d : List α) (i j : Int) : List α := (d.set i.toNat (gt z d j)).set j.toNat (gt z d i)
def ins1 (a : Int) : Nat → List α → Int → List α
  | 0, v, _ => v
  | k + 1, v, j => bif decide (a < j) then (bif decide (c (gt z v j) (gt z v (j - 1)) < 0) then ins1 a k (sw z v j (j - 1)) (j - 1) else v) else v
def ins0 (a b : Int) : Nat → Int → List α → List α
  | 0, _, v => v
  | k + 1, i, v => bif decide (i < b) then ins0 a b k (i + 1) (ins1 z c a (i.toNat + 1) v i) else v
def ins (d : List α) (a b : Int) : List α := ins0 z c a b ((b - (a + 1)).toNat + 1) (a + 1) d
def swr1 (p q n : Int) : Nat → List α → Int → List α
  | 0, v, _ => v
  | k + 1, v, i => bif decide (i < n) then swr1 p q n k (sw z v (p + i) (q + i)) (i + 1) else v
def swr (d : List α) (p q n : Int) : List α := swr1 z p q n ((n - 0).toNat + 1) d 0
def rot1 (m : Int) : Nat → Int → Int → List α → List α × Int
  | 0, i, _, v => (v, i)
  | k + 1, i, j, v => bif i == j then (v, i) else bif decide (j < i) then rot1 m k (i - j) j (swr z v (m - i) m j) else rot1 m k i (j - i) (swr z v (m - i) ((m + j) - i) i)
def rot (d : List α) (a m b : Int) : List α :=
  let r := rot1 z m (((m - a) + (b - m)).toNat + 1) (m - a) (b - m) d
  swr z r.1 (m - r.2) m r.2
theorem gt_at {d A C : List α} {x : α} {i : Int} (hd : d = A ++ x :: C) (hi : i = (A.length : Int)) : gt z d i = x := by
  subst hd hi
  simp [gt]
theorem set_at {A C : List α} {x y : α} {i : Int} (hi : i = (A.length : Int)) : (A ++ x :: C).set i.toNat y = A ++ y :: C := by
  subst hi
  simp
theorem sw_up {A M C : List α} {x y : α} {i j : Int} (hi : i = (A.length : Int)) (hj : j = (A.length : Int) + 1 + (M.length : Int)) : sw z (A ++ x :: (M ++ y :: C)) i j = A ++ y :: (M ++ x :: C) := by
  have e1 : gt z (A ++ x :: (M ++ y :: C)) i = x := gt_at z rfl hi
  have e2 : gt z (A ++ x :: (M ++ y :: C)) j = y := gt_at z (A := A ++ x :: M) (C := C) (by simp) (by simp; omega)
  unfold sw
  rw [e1, e2, set_at hi]
  have e3 : A ++ y :: (M ++ y :: C) = (A ++ y :: M) ++ y :: C := by simp
  rw [e3, set_at (A := A ++ y :: M) (by simp; omega)]
  simp
theorem sw_down {A M C : List α} {x y : α} {i j : Int} (hi : i = (A.length : Int)) (hj : j = (A.length : Int) + 1 + (M.length : Int)) : sw z (A ++ x :: (M ++ y :: C)) j i = A ++ y :: (M ++ x :: C) := by
  have e1 : gt z (A ++ x :: (M ++ y :: C)) i = x := gt_at z rfl hi
  have e2 : gt z (A ++ x :: (M ++ y :: C)) j = y := gt_at z (A := A ++ x :: M) (C := C) (by simp) (by simp; omega)
  unfold sw
  rw [e1, e2]
  have e3 : A ++ x :: (M ++ y :: C) = (A ++ x :: M) ++ y :: C := by simp
  rw [e3, set_at (A := A ++ x :: M) (by simp; omega)]
  have e4 : (A ++ x :: M) ++ x :: C = A ++ x :: (M ++ x :: C) := by simp
  rw [e4, set_at hi]
def insR (x : α) : List α → List α
  | [] => [x]
  | s :: t => bif decide (c x s < 0) then s :: insR x t else x :: s :: t
def isort (l : List α) : List α := (l.foldl (fun r x => insR c x r) []).reverse
theorem ins1_spec (a : Int) (A : List α) (x : α) (ha : a = (A.length : Int)) : ∀ (R C : List α) (k : Nat) (j : Int), j = (A.length : Int) + (R.length : Int) → R.length < k → ins1 z c a k (A ++ (R.reverse ++ x :: C)) j = A ++ ((insR c x R).reverse ++ C)
  | _, _, 0, _, _, h => absurd h (Nat.not_lt_zero _)
  | [], C, k + 1, j, hj, _ => by
    rw [ins1, show decide (a < j) = false by simp at hj ⊢; omega]
    simp [insR]
  | s :: t, C, k + 1, j, hj, hk => by
    simp only [List.length_cons] at hj hk
    have e0 : A ++ ((s :: t).reverse ++ x :: C) = (A ++ t.reverse) ++ s :: ([] ++ x :: C) := by simp
    rw [ins1, show decide (a < j) = true by simp; omega, cond_true, e0]
    have e1 : gt z ((A ++ t.reverse) ++ s :: ([] ++ x :: C)) j = x := gt_at z (A := A ++ t.reverse ++ [s]) (C := C) (by simp) (by simp; omega)
    have e2 : gt z ((A ++ t.reverse) ++ s :: ([] ++ x :: C)) (j - 1) = s := gt_at z (A := A ++ t.reverse) rfl (by simp; omega)
    rw [e1, e2, insR]
    cases decide (c x s < 0) with
    | true =>
      rw [cond_true, cond_true, sw_down z (by simp; omega) (by simp; omega)]
      have e3 : (A ++ t.reverse) ++ x :: ([] ++ s :: C) = A ++ (t.reverse ++ x :: (s :: C)) := by simp
      rw [e3, ins1_spec a A x ha t (s :: C) k (j - 1) (by omega) (by omega)]
      simp
    | false => simp
theorem ins0_spec (a b : Int) (A : List α) (ha : a = (A.length : Int)) : ∀ (M R C : List α) (k : Nat) (i : Int), i = (A.length : Int) + (R.length : Int) → b = i + (M.length : Int) → M.length < k →
    ins0 z c a b k i (A ++ (R.reverse ++ (M ++ C))) = A ++ ((M.foldl (fun r x => insR c x r) R).reverse ++ C)
  | _, _, _, 0, _, _, _, h => absurd h (Nat.not_lt_zero _)
  | [], R, C, k + 1, i, hi, hb, _ => by
    rw [ins0, show decide (i < b) = false by simp at hb ⊢; omega]
    simp
  | x :: M, R, C, k + 1, i, hi, hb, hk => by
    simp only [List.length_cons] at hb hk
    rw [ins0, show decide (i < b) = true by simp; omega, cond_true, List.cons_append, ins1_spec z c a A x ha R (M ++ C) _ i hi (by omega)]
    have hl : (insR c x R).length = R.length + 1 := by
      clear hi hb hk
      induction R with
      | nil => rfl
      | cons s t ih => rw [insR]; cases decide (c x s < 0) <;> simp [ih]
    rw [ins0_spec a b A ha M (insR c x R) C k (i + 1) (by omega) (by omega) (by omega)]
    rfl
theorem ins_spec {d A M C : List α} {a b : Int} (hd : d = A ++ (M ++ C)) (ha : a = (A.length : Int)) (hb : b = a + (M.length : Int)) : ins z c d a b = A ++ (isort c M ++ C) := by
  subst hd
  unfold ins isort
  cases M with
  | nil =>
    simp only [List.length_nil, Int.ofNat_zero] at hb
    rw [ins0, show decide (a + 1 < b) = false by simp; omega]
    rfl
  | cons x M =>
    simp only [List.length_cons] at hb
    have e : A ++ (x :: M ++ C) = A ++ ([x].reverse ++ (M ++ C)) := by simp
    rw [e, ins0_spec z c a b A ha M [x] C _ _ (by simp; omega) (by omega) (by omega)]
    rfl
theorem swr1_spec (p q n : Int) (C : List α) : ∀ (X Y A M : List α) (k : Nat) (i : Int), X.length = Y.length → p + i = (A.length : Int) → q + i = (A.length : Int) + (X.length : Int) + (M.length : Int) → n = i + (X.length : Int) → X.length < k →
    swr1 z p q n k (A ++ (X ++ (M ++ (Y ++ C)))) i = A ++ (Y ++ (M ++ (X ++ C)))
  | _, _, _, _, 0, _, _, _, _, _, h => absurd h (Nat.not_lt_zero _)
  | [], [], A, M, k + 1, i, _, _, _, hn, _ => by
    rw [swr1, show decide (i < n) = false by simp at hn ⊢; omega]
    rfl
  | [], _ :: _, _, _, _, _, h, _, _, _, _ => by simp at h
  | _ :: _, [], _, _, _, _, h, _, _, _, _ => by simp at h
  | x :: X, y :: Y, A, M, k + 1, i, h, hp, hq, hn, hk => by
    simp only [List.length_cons] at h hq hn hk
    rw [swr1, show decide (i < n) = true by simp; omega, cond_true]
    have e : A ++ (x :: X ++ (M ++ (y :: Y ++ C))) = A ++ x :: ((X ++ M) ++ y :: (Y ++ C)) := by simp
    rw [e, sw_up z hp (by simp; omega)]
    have e2 : A ++ y :: ((X ++ M) ++ x :: (Y ++ C)) = (A ++ [y]) ++ (X ++ ((M ++ [x]) ++ (Y ++ C))) := by simp
    rw [e2, swr1_spec p q n C X Y (A ++ [y]) (M ++ [x]) k (i + 1) (by omega) (by simp; omega) (by simp; omega) (by omega) (by omega)]
    simp
theorem swr_spec {d A X M Y C : List α} {p q n : Int} (hd : d = A ++ (X ++ (M ++ (Y ++ C)))) (h : X.length = Y.length) (hp : p = (A.length : Int)) (hq : q = (A.length : Int) + (X.length : Int) + (M.length : Int)) (hn : n = (X.length : Int)) : swr z d p q n = A ++ (Y ++ (M ++ (X ++ C))) := by
  subst hd
  unfold swr
  exact swr1_spec z p q n C X Y A M _ 0 h (by omega) (by omega) (by omega) (by omega)
theorem rot1_spec (m : Int) (W : List α) : ∀ (k : Nat) (A U V C : List α) (i j : Int), i = (U.length : Int) → j = (V.length : Int) → 0 < U.length → 0 < V.length → m = (A.length : Int) + (U.length : Int) → U.length + V.length < k → W = A ++ (V ++ (U ++ C)) →
    swr z (rot1 z m k i j (A ++ (U ++ (V ++ C)))).1 (m - (rot1 z m k i j (A ++ (U ++ (V ++ C)))).2) m (rot1 z m k i j (A ++ (U ++ (V ++ C)))).2 = W
  | 0, _, _, _, _, _, _, _, _, _, _, _, h, _ => absurd h (Nat.not_lt_zero _)
  | k + 1, A, U, V, C, i, j, hi, hj, hU, hV, hm, hk, hW => by
    rw [rot1]
    by_cases h1 : i = j
    · rw [show (i == j) = true by simpa using h1]
      simp only [cond_true]
      rw [swr_spec z (A := A) (X := U) (M := []) (Y := V) (C := C) (by simp) (by omega) (by omega) (by simp; omega) (by omega), hW]
      rfl
    · rw [show (i == j) = false by simpa using h1]
      simp only [cond_false]
      by_cases h2 : j < i
      · rw [show decide (j < i) = true by simpa using h2]
        simp only [cond_true]
        have hs : U = U.take V.length ++ U.drop V.length := (List.take_append_drop _ _).symm
        have l1 : (U.take V.length).length = V.length := by simp; omega
        have l2 : (U.drop V.length).length = U.length - V.length := by simp
        rw [swr_spec z (d := A ++ (U ++ (V ++ C))) (A := A) (X := U.take V.length) (M := U.drop V.length) (Y := V) (C := C) (by rw [← List.append_assoc (U.take _), List.take_append_drop]) (by omega) (by omega) (by rw [l1, l2]; omega) (by omega)]
        have e : A ++ (V ++ (U.drop V.length ++ (U.take V.length ++ C))) = (A ++ V) ++ (U.drop V.length ++ (U.take V.length ++ C)) := by simp
        rw [e]
        exact rot1_spec m W k (A ++ V) (U.drop V.length) (U.take V.length) C (i - j) j (by omega) (by omega) (by omega) (by omega) (by rw [l2]; simp; omega) (by omega) (by rw [hW, ← List.append_assoc (U.take _), List.take_append_drop]; simp)
      · rw [show decide (j < i) = false by simpa using h2]
        simp only [cond_false]
        have l1 : (V.take (V.length - U.length)).length = V.length - U.length := by simp
        have l2 : (V.drop (V.length - U.length)).length = U.length := by simp; omega
        rw [swr_spec z (d := A ++ (U ++ (V ++ C))) (A := A) (X := U) (M := V.take (V.length - U.length)) (Y := V.drop (V.length - U.length)) (C := C) (by rw [← List.append_assoc (V.take _), List.take_append_drop]) (by omega) (by omega) (by rw [l1]; omega) (by omega)]
        exact rot1_spec m W k A (V.drop (V.length - U.length)) (V.take (V.length - U.length)) (U ++ C) i (j - i) (by omega) (by omega) (by omega) (by omega) (by omega) (by omega) (by rw [hW, ← List.append_assoc (V.take _), List.take_append_drop])
theorem rot_spec {d A U V C : List α} {a m b : Int} (hd : d = A ++ (U ++ (V ++ C))) (ha : a = (A.length : Int)) (hm : m = a + (U.length : Int)) (hb : b = m + (V.length : Int)) (hU : 0 < U.length) (hV : 0 < V.length) : rot z d a m b = A ++ (V ++ (U ++ C)) := by
  subst hd
  unfold rot
  exact rot1_spec z m _ _ A U V C (m - a) (b - m) (by omega) (by omega) hU hV (by omega) (by omega) rfl
end
end Go.Pv.Srt
end

section
/- The library's stable sort: its merging, and that it answers the stably sorted list. Program-free. -/
namespace Go.Pv.Srt
section
variable {α : Type} (z : α) (c : α → α → Int)
structure Tot : Prop where
  asym : ∀ x y, c x y < 0 → ¬ c y x < 0
  tr : ∀ x y w, ¬ c y x < 0 → ¬ c w y < 0 → ¬ c w x < 0
def le (x y : α) : Prop := ¬ c y x < 0
def Up (l : List α) : Prop := l.Pairwise (le c)
def eqv (x y : α) : Bool := decide (¬ c x y < 0) && decide (¬ c y x < 0)
/-- as long, and equals stand in the same order -/
def F (l r : List α) : Prop := l.length = r.length ∧ ∀ x, l.filter (eqv c x) = r.filter (eqv c x)
variable {c}
theorem F.rfl {l : List α} : F c l l := ⟨Eq.refl _, fun _ => Eq.refl _⟩
theorem F.trans {l r s : List α} (h : F c l r) (g : F c r s) : F c l s := ⟨h.1.trans g.1, fun x => (h.2 x).trans (g.2 x)⟩
theorem F.symm {l r : List α} (h : F c l r) : F c r l := ⟨h.1.symm, fun x => (h.2 x).symm⟩
theorem F.app {l r l' r' : List α} (h : F c l r) (g : F c l' r') : F c (l ++ l') (r ++ r') :=
  ⟨by rw [List.length_append, List.length_append, h.1, g.1], fun x => by rw [List.filter_append, List.filter_append, h.2 x, g.2 x]⟩
theorem Tot.refl (T : Tot c) (x : α) : ¬ c x x < 0 := fun h => T.asym x x h h
theorem eqv_self (T : Tot c) (x : α) : eqv c x x = true := by simpa [eqv] using T.refl x
theorem F.mem (T : Tot c) {l r : List α} (h : F c l r) {x : α} (hx : x ∈ l) : x ∈ r := by
  have h1 : x ∈ l.filter (eqv c x) := List.mem_filter.2 ⟨hx, eqv_self T x⟩
  rw [h.2 x] at h1
  exact (List.mem_filter.1 h1).1
theorem F.swap (T : Tot c) {A B : List α} (h : ∀ a ∈ A, ∀ b ∈ B, c b a < 0) : F c (A ++ B) (B ++ A) := by
  refine ⟨by simp [Nat.add_comm], fun x => ?_⟩
  rw [List.filter_append, List.filter_append]
  by_cases hA : A.filter (eqv c x) = []
  · rw [hA]
    simp
  · have hB : B.filter (eqv c x) = [] := by
      obtain ⟨a, ha⟩ := List.exists_mem_of_ne_nil _ hA
      obtain ⟨ha, hxa⟩ := List.mem_filter.1 ha
      refine List.filter_eq_nil_iff.2 fun b hb hxb => ?_
      simp only [eqv, Bool.and_eq_true, decide_eq_true_eq] at hxa hxb
      exact T.tr a x b hxa.1 hxb.2 (h a ha b hb)
    rw [hB]
    simp
theorem uniq (T : Tot c) : ∀ {l r : List α}, Up c l → Up c r → F c l r → l = r
  | [], [], _, _, _ => rfl
  | [], _ :: _, _, _, h => by simp [F] at h
  | _ :: _, [], _, _, h => by simp [F] at h
  | a :: l, b :: r, hl, hr, h => by
    have hl' := List.pairwise_cons.1 hl
    have hr' := List.pairwise_cons.1 hr
    have h1 : ¬ c b a < 0 := by
      rcases List.mem_cons.1 (h.symm.mem T (x := b) List.mem_cons_self) with e | e
      · subst e
        exact T.refl _
      · exact hl'.1 b e
    have h2 : ¬ c a b < 0 := by
      rcases List.mem_cons.1 (h.mem T (x := a) List.mem_cons_self) with e | e
      · subst e
        exact T.refl _
      · exact hr'.1 a e
    have e1 : eqv c a b = true := by simp only [eqv, Bool.and_eq_true, decide_eq_true_eq]; exact ⟨h2, h1⟩
    have e := h.2 a
    rw [List.filter_cons_of_pos (eqv_self T a), List.filter_cons_of_pos e1] at e
    injection e with e _
    subst e
    refine congrArg _ (uniq T hl'.2 hr'.2 ⟨by have := h.1; simpa using this, fun x => ?_⟩)
    have e := h.2 x
    simp only [List.filter_cons] at e
    cases hx : eqv c x a with
    | true => rw [hx] at e; simpa using e
    | false => rw [hx] at e; simpa using e
theorem insR_mem {x y : α} : ∀ {R : List α}, y ∈ insR c x R → y = x ∨ y ∈ R
  | [], h => by simpa [insR] using h
  | s :: t, h => by
    rw [insR] at h
    cases hd : decide (c x s < 0) with
    | true =>
      rw [hd, cond_true] at h
      rcases List.mem_cons.1 h with e | e
      · exact Or.inr (by simp [e])
      · rcases insR_mem e with e | e
        · exact Or.inl e
        · exact Or.inr (List.mem_cons_of_mem _ e)
    | false =>
      rw [hd, cond_false] at h
      rcases List.mem_cons.1 h with e | e
      · exact Or.inl e
      · exact Or.inr e
theorem insR_up (T : Tot c) (x : α) : ∀ {R : List α}, R.Pairwise (fun a b => le c b a) → (insR c x R).Pairwise (fun a b => le c b a)
  | [], _ => by simp [insR]
  | s :: t, h => by
    have h' := List.pairwise_cons.1 h
    rw [insR]
    by_cases hd : c x s < 0
    · rw [show decide (c x s < 0) = true by simpa using hd, cond_true]
      refine List.pairwise_cons.2 ⟨fun y hy => ?_, insR_up T x h'.2⟩
      rcases insR_mem hy with e | e
      · subst e
        exact T.asym _ _ hd
      · exact h'.1 y e
    · rw [show decide (c x s < 0) = false by simpa using hd, cond_false]
      refine List.pairwise_cons.2 ⟨fun y hy => ?_, h⟩
      rcases List.mem_cons.1 hy with e | e
      · subst e
        exact hd
      · exact T.tr y s x (h'.1 y e) hd
theorem insR_F (T : Tot c) (x : α) : ∀ (R : List α), F c (R.reverse ++ [x]) (insR c x R).reverse
  | [] => F.rfl
  | s :: t => by
    rw [insR]
    by_cases hd : c x s < 0
    · rw [show decide (c x s < 0) = true by simpa using hd, cond_true, List.reverse_cons, List.reverse_cons, List.append_assoc]
      have h1 : F c ([s] ++ [x]) ([x] ++ [s]) := F.swap T (by simpa using hd)
      exact (F.rfl.app h1).trans (by rw [← List.append_assoc]; exact (insR_F T x t).app F.rfl)
    · rw [show decide (c x s < 0) = false by simpa using hd, cond_false, List.reverse_cons (a := x)]
      exact F.rfl
theorem fold_ok (T : Tot c) : ∀ (M R : List α), R.Pairwise (fun a b => le c b a) → (M.foldl (fun r x => insR c x r) R).Pairwise (fun a b => le c b a) ∧ F c (R.reverse ++ M) (M.foldl (fun r x => insR c x r) R).reverse
  | [], R, h => ⟨h, by simpa using F.rfl⟩
  | x :: M, R, h => by
    obtain ⟨h1, h2⟩ := fold_ok T M (insR c x R) (insR_up T x h)
    refine ⟨h1, F.trans ?_ h2⟩
    have e : R.reverse ++ x :: M = (R.reverse ++ [x]) ++ M := by simp
    rw [e]
    exact (insR_F T x R).app F.rfl
theorem isort_up (T : Tot c) (l : List α) : Up c (isort c l) := by
  unfold Up isort
  rw [List.pairwise_reverse]
  exact (fold_ok T l [] List.Pairwise.nil).1
theorem isort_F (T : Tot c) (l : List α) : F c l (isort c l) := (fold_ok T l [] List.Pairwise.nil).2
def bs (g : Int → Bool) : Nat → Int → Int → Int
  | 0, i, _ => i
  | k + 1, i, j => bif decide (i < j) then (bif g ((i + j) / 2) then bs g k ((i + j) / 2 + 1) j else bs g k i ((i + j) / 2)) else i
theorem bs_spec (g : Int → Bool) : ∀ (k : Nat) (i j : Int), i ≤ j → (j - i).toNat < k → i ≤ bs g k i j ∧ bs g k i j ≤ j ∧ (bs g k i j = i ∨ g (bs g k i j - 1) = true) ∧ (bs g k i j = j ∨ g (bs g k i j) = false)
  | 0, _, _, _, h => absurd h (Nat.not_lt_zero _)
  | k + 1, i, j, h, hk => by
    rw [bs]
    by_cases hij : i < j
    · rw [show decide (i < j) = true by simpa using hij, cond_true]
      cases hg : g ((i + j) / 2) with
      | true =>
        rw [cond_true]
        obtain ⟨h1, h2, h3, h4⟩ := bs_spec g k ((i + j) / 2 + 1) j (by omega) (by omega)
        refine ⟨by omega, h2, Or.inr ?_, h4⟩
        rcases h3 with e | e
        · rw [e, show (i + j) / 2 + 1 - 1 = (i + j) / 2 by omega]
          exact hg
        · exact e
      | false =>
        rw [cond_false]
        obtain ⟨h1, h2, h3, h4⟩ := bs_spec g k i ((i + j) / 2) (by omega) (by omega)
        refine ⟨h1, by omega, h3, Or.inr ?_⟩
        rcases h4 with e | e
        · rw [e]
          exact hg
        · exact e
    · rw [show decide (i < j) = false by simpa using hij, cond_false]
      exact ⟨Int.le_refl _, h, Or.inl rfl, Or.inl (by omega)⟩
def mv1 : Nat → Int → List α → Int → List α
  | 0, _, v, _ => v
  | k + 1, t, v, i => bif decide (i < t - 1) then mv1 k t (sw z v i (i + 1)) (i + 1) else v
def mv3 : Nat → Int → List α → Int → List α
  | 0, _, v, _ => v
  | k + 1, t, v, i => bif decide (t < i) then mv3 k t (sw z v i (i - 1)) (i - 1) else v
theorem mv1_spec (x : α) (C : List α) (t : Int) : ∀ (V A : List α) (k : Nat) (i : Int), i = (A.length : Int) → t - 1 = i + (V.length : Int) → V.length < k → mv1 z k t (A ++ x :: (V ++ C)) i = A ++ (V ++ x :: C)
  | _, _, 0, _, _, _, h => absurd h (Nat.not_lt_zero _)
  | [], A, k + 1, i, hi, ht, _ => by
    rw [mv1, show decide (i < t - 1) = false by simp at ht ⊢; omega]
    rfl
  | y :: V, A, k + 1, i, hi, ht, hk => by
    simp only [List.length_cons] at ht hk
    rw [mv1, show decide (i < t - 1) = true by simp; omega, cond_true]
    have e : A ++ x :: (y :: V ++ C) = A ++ x :: ([] ++ y :: (V ++ C)) := by simp
    rw [e, sw_up z hi (by simp; omega)]
    have e2 : A ++ y :: ([] ++ x :: (V ++ C)) = (A ++ [y]) ++ x :: (V ++ C) := by simp
    rw [e2, mv1_spec x C t V (A ++ [y]) k (i + 1) (by simp; omega) (by omega) (by omega)]
    simp
theorem mv3_spec (y : α) (A : List α) (t : Int) (ht : t = (A.length : Int)) : ∀ (R C : List α) (k : Nat) (i : Int), i = (A.length : Int) + (R.length : Int) → R.length < k → mv3 z k t (A ++ (R.reverse ++ y :: C)) i = A ++ y :: (R.reverse ++ C)
  | _, _, 0, _, _, h => absurd h (Nat.not_lt_zero _)
  | [], C, k + 1, i, hi, _ => by
    rw [mv3, show decide (t < i) = false by simp at hi ⊢; omega]
    rfl
  | u :: R, C, k + 1, i, hi, hk => by
    simp only [List.length_cons] at hi hk
    rw [mv3, show decide (t < i) = true by simp; omega, cond_true]
    have e : A ++ ((u :: R).reverse ++ y :: C) = (A ++ R.reverse) ++ u :: ([] ++ y :: C) := by simp
    rw [e, sw_down z (by simp; omega) (by simp; omega)]
    have e2 : (A ++ R.reverse) ++ y :: ([] ++ u :: C) = A ++ (R.reverse ++ y :: (u :: C)) := by simp
    rw [e2, mv3_spec y A t ht R (u :: C) k (i - 1) (by omega) (by omega)]
    simp
end
end Go.Pv.Srt
end

section
/- The library's stable sort: symmetric merging and the sort as a whole answer the stably sorted list. Program-free. -/
namespace Go.Pv.Srt
section
variable {α : Type} (z : α) (c : α → α → Int)
def sym2 (rec : List α → Int → Int → Int → List α) (d : List α) (a m b mid st : Int) : List α :=
  let d1 := bif decide (st < m) && decide (m < mid + m - st) then rot z d st m (mid + m - st) else d
  let d2 := bif decide (a < st) && decide (st < mid) then rec d1 a st mid else d1
  bif decide (mid < mid + m - st) && decide (mid + m - st < b) then rec d2 mid (mid + m - st) b else d2
def sg (d : List α) (p s : Int) : Bool := !decide (c (gt z d (p - s)) (gt z d s) < 0)
def sst (d : List α) (a m b : Int) : Int :=
  bif decide ((a + b) / 2 < m) then bs (sg z c d ((a + b) / 2 + m - 1)) (((a + b) / 2 - ((a + b) / 2 + m - b)).toNat + 1) ((a + b) / 2 + m - b) ((a + b) / 2)
  else bs (sg z c d ((a + b) / 2 + m - 1)) ((m - a).toNat + 1) a m
def st1 (d : List α) (a m b : Int) : Int := bs (fun h => decide (c (gt z d h) (gt z d a) < 0)) ((b - m).toNat + 1) m b
def st3 (d : List α) (a m : Int) : Int := bs (fun h => !decide (c (gt z d m) (gt z d h) < 0)) ((m - a).toNat + 1) a m
def sym : Nat → List α → Int → Int → Int → List α
  | 0, d, _, _, _ => d
  | k + 1, d, a, m, b =>
    bif m - a == 1 then mv1 z ((st1 z c d a m b - a).toNat + 1) (st1 z c d a m b) d a
    else bif b - m == 1 then mv3 z ((m - st3 z c d a m).toNat + 1) (st3 z c d a m) d m
    else sym2 z (sym k) d a m b ((a + b) / 2) (sst z c d a m b)
variable {c}
theorem lt_of_le_lt (T : Tot c) {y l x : α} (h : le c y l) (g : c l x < 0) : c y x < 0 := by
  by_cases e : c y x < 0
  · exact e
  · exact absurd g (T.tr x y l e h)
theorem lt_of_lt_le (T : Tot c) {l x w : α} (g : c l x < 0) (h : le c x w) : c l w < 0 := by
  by_cases e : c l w < 0
  · exact e
  · exact absurd g (T.tr x w l h e)
theorem last_le (T : Tot c) {V : List α} {l : α} (h : Up c (V ++ [l])) : ∀ y ∈ V ++ [l], le c y l := by
  intro y hy
  rcases List.mem_append.1 hy with e | e
  · exact (List.pairwise_append.1 h).2.2 y e l (by simp)
  · rw [List.mem_singleton.1 e]
    exact T.refl l
theorem head_le (T : Tot c) {V : List α} {l : α} (h : Up c (l :: V)) : ∀ y ∈ l :: V, le c l y := by
  intro y hy
  rcases List.mem_cons.1 hy with e | e
  · rw [e]
    exact T.refl l
  · exact (List.pairwise_cons.1 h).1 y e
theorem one1 (T : Tot c) {A V C : List α} {x : α} {a m b : Int} (ha : a = (A.length : Int)) (hm : m = a + 1) (hb : b = m + (V.length : Int)) (hV : Up c V) :
    ∃ W, mv1 z ((st1 z c (A ++ x :: (V ++ C)) a m b - a).toNat + 1) (st1 z c (A ++ x :: (V ++ C)) a m b) (A ++ x :: (V ++ C)) a = A ++ (W ++ C) ∧ Up c W ∧ F c ([x] ++ V) W := by
  obtain ⟨h1, h2, h3, h4⟩ := bs_spec (fun h => decide (c (gt z (A ++ x :: (V ++ C)) h) (gt z (A ++ x :: (V ++ C)) a) < 0)) ((b - m).toNat + 1) m b (by omega) (by omega)
  change m ≤ st1 z c (A ++ x :: (V ++ C)) a m b at h1
  change st1 z c (A ++ x :: (V ++ C)) a m b ≤ b at h2
  change st1 z c (A ++ x :: (V ++ C)) a m b = m ∨ decide (c (gt z _ (st1 z c (A ++ x :: (V ++ C)) a m b - 1)) _ < 0) = true at h3
  change st1 z c (A ++ x :: (V ++ C)) a m b = b ∨ decide (c (gt z _ (st1 z c (A ++ x :: (V ++ C)) a m b)) _ < 0) = false at h4
  generalize st1 z c (A ++ x :: (V ++ C)) a m b = t at h1 h2 h3 h4
  rw [gt_at z (A := A) (C := V ++ C) (x := x) rfl ha] at h3 h4
  have hV12 : V = V.take (t - m).toNat ++ V.drop (t - m).toNat := (List.take_append_drop _ _).symm
  have l1 : (V.take (t - m).toNat).length = (t - m).toNat := by simp; omega
  generalize V.take (t - m).toNat = V1 at hV12 l1
  generalize V.drop (t - m).toNat = V2 at hV12
  subst hV12
  rw [List.length_append] at hb
  have hu := List.pairwise_append.1 hV
  have k1 : ∀ y ∈ V1, c y x < 0 := by
    rcases List.eq_nil_or_concat V1 with e | ⟨L, l, e⟩
    · subst e
      intro y hy
      cases hy
    · subst e
      simp only [List.concat_eq_append] at *
      rcases h3 with e | e
      · simp at l1
        omega
      · rw [gt_at z (A := A ++ x :: L) (x := l) (C := V2 ++ C) (by simp) (by simp at l1 ⊢; omega)] at e
        exact fun y hy => lt_of_le_lt T (last_le T hu.1 y hy) (of_decide_eq_true e)
  have k2 : ∀ y ∈ V2, le c x y := by
    cases V2 with
    | nil =>
      intro y hy
      cases hy
    | cons w V2 =>
      rcases h4 with e | e
      · simp at hb
        omega
      · rw [gt_at z (A := A ++ x :: V1) (x := w) (C := V2 ++ C) (by simp) (by simp; omega)] at e
        exact fun y hy => T.tr x w y (of_decide_eq_false e) (head_le T hu.2.1 y hy)
  refine ⟨V1 ++ x :: V2, ?_, ?_, ?_⟩
  · have e := mv1_spec z x (V2 ++ C) t V1 A ((t - a).toNat + 1) a ha (by omega) (by omega)
    rw [List.append_assoc, e]
    simp
  · refine List.pairwise_append.2 ⟨hu.1, List.pairwise_cons.2 ⟨k2, hu.2.1⟩, fun y hy w hw => ?_⟩
    rcases List.mem_cons.1 hw with e | e
    · rw [e]
      exact T.asym _ _ (k1 y hy)
    · exact hu.2.2 y hy w e
  · have e : F c ([x] ++ V1) (V1 ++ [x]) := F.swap T (by simpa using k1)
    have e2 := e.app (F.rfl (l := V2))
    simpa using e2
theorem one3 (T : Tot c) {A U C : List α} {y : α} {a m : Int} (ha : a = (A.length : Int)) (hm : m = a + (U.length : Int)) (hU : Up c U) :
    ∃ W, mv3 z ((m - st3 z c (A ++ (U ++ y :: C)) a m).toNat + 1) (st3 z c (A ++ (U ++ y :: C)) a m) (A ++ (U ++ y :: C)) m = A ++ (W ++ C) ∧ Up c W ∧ F c (U ++ [y]) W := by
  obtain ⟨h1, h2, h3, h4⟩ := bs_spec (fun h => !decide (c (gt z (A ++ (U ++ y :: C)) m) (gt z (A ++ (U ++ y :: C)) h) < 0)) ((m - a).toNat + 1) a m (by omega) (by omega)
  change a ≤ st3 z c (A ++ (U ++ y :: C)) a m at h1
  change st3 z c (A ++ (U ++ y :: C)) a m ≤ m at h2
  change st3 z c (A ++ (U ++ y :: C)) a m = a ∨ (!decide (c _ (gt z _ (st3 z c (A ++ (U ++ y :: C)) a m - 1)) < 0)) = true at h3
  change st3 z c (A ++ (U ++ y :: C)) a m = m ∨ (!decide (c _ (gt z _ (st3 z c (A ++ (U ++ y :: C)) a m)) < 0)) = false at h4
  generalize st3 z c (A ++ (U ++ y :: C)) a m = t at h1 h2 h3 h4
  rw [gt_at z (A := A ++ U) (C := C) (x := y) (by simp) (by simp; omega)] at h3 h4
  have hU12 : U = U.take (t - a).toNat ++ U.drop (t - a).toNat := (List.take_append_drop _ _).symm
  have l1 : (U.take (t - a).toNat).length = (t - a).toNat := by simp; omega
  generalize U.take (t - a).toNat = U1 at hU12 l1
  generalize U.drop (t - a).toNat = U2 at hU12
  subst hU12
  rw [List.length_append] at hm
  have hu := List.pairwise_append.1 hU
  have k1 : ∀ u ∈ U1, le c u y := by
    rcases List.eq_nil_or_concat U1 with e | ⟨L, l, e⟩
    · subst e
      intro y hy
      cases hy
    · subst e
      simp only [List.concat_eq_append] at *
      rcases h3 with e | e
      · simp at l1
        omega
      · rw [gt_at z (A := A ++ L) (x := l) (C := U2 ++ y :: C) (by simp) (by simp at l1 ⊢; omega)] at e
        exact fun u hu' => T.tr u l y (last_le T hu.1 u hu') (by simpa using e)
  have k2 : ∀ u ∈ U2, c y u < 0 := by
    cases U2 with
    | nil =>
      intro y hy
      cases hy
    | cons w U2 =>
      rcases h4 with e | e
      · simp at hm
        omega
      · rw [gt_at z (A := A ++ U1) (x := w) (C := U2 ++ y :: C) (by simp) (by simp; omega)] at e
        exact fun u hu' => lt_of_lt_le T (by simpa using e) (head_le T hu.2.1 u hu')
  refine ⟨U1 ++ y :: U2, ?_, ?_, ?_⟩
  · have e := mv3_spec z y (A ++ U1) t (by simp; omega) U2.reverse C ((m - t).toNat + 1) m (by simp; omega) (by simp; omega)
    rw [List.reverse_reverse] at e
    have e2 : A ++ (U1 ++ U2 ++ y :: C) = (A ++ U1) ++ (U2 ++ y :: C) := by simp
    rw [e2, e]
    simp
  · refine List.pairwise_append.2 ⟨hu.1, List.pairwise_cons.2 ⟨fun u hu' => T.asym _ _ (k2 u hu'), hu.2.1⟩, fun u hu' w hw => ?_⟩
    rcases List.mem_cons.1 hw with e | e
    · rw [e]
      exact k1 u hu'
    · exact hu.2.2 u hu' w e
  · have e : F c (U2 ++ [y]) ([y] ++ U2) := F.swap T (fun u hu' b hb => by rw [List.mem_singleton.1 hb]; exact k2 u hu')
    have e2 := (F.rfl (l := U1)).app e
    simpa using e2
end
end Go.Pv.Srt
end

section
/- The library's stable sort: merging in general, blocks, the whole. Program-free. -/
namespace Go.Pv.Srt
section
variable {α : Type} (z : α) {c : α → α → Int}
theorem two (T : Tot c) (rec : List α → Int → Int → Int → List α) {A U V C d : List α} {a m b mid st : Int} (hd : d = A ++ (U ++ (V ++ C))) (ha : a = (A.length : Int)) (hm : m = a + (U.length : Int)) (hb : b = m + (V.length : Int)) (hU : Up c U) (hV : Up c V)
    (b1 : a ≤ st) (b2 : st ≤ m) (b3 : st ≤ mid) (b4 : mid + m - st ≤ b) (b5 : a < mid) (b6 : mid < b)
    (g1 : st = a ∨ mid + m - st = b ∨ ¬ c (gt z d (mid + m - st)) (gt z d (st - 1)) < 0)
    (g2 : st = m ∨ st = mid ∨ c (gt z d (mid + m - 1 - st)) (gt z d st) < 0)
    (hrec : ∀ (A U V C : List α) (a' m' b' : Int), a' = (A.length : Int) → m' = a' + (U.length : Int) → b' = m' + (V.length : Int) → 0 < U.length → 0 < V.length → Up c U → Up c V → b' - a' < b - a → ∃ W, rec (A ++ (U ++ (V ++ C))) a' m' b' = A ++ (W ++ C) ∧ Up c W ∧ F c (U ++ V) W) :
    ∃ W, sym2 z rec d a m b mid st = A ++ (W ++ C) ∧ Up c W ∧ F c (U ++ V) W := by
  have hU12 : U = U.take (st - a).toNat ++ U.drop (st - a).toNat := (List.take_append_drop _ _).symm
  have l1 : (U.take (st - a).toNat).length = (st - a).toNat := by simp; omega
  generalize U.take (st - a).toNat = U1 at hU12 l1
  generalize U.drop (st - a).toNat = U2 at hU12
  subst hU12
  have hV12 : V = V.take (mid - st).toNat ++ V.drop (mid - st).toNat := (List.take_append_drop _ _).symm
  have l2 : (V.take (mid - st).toNat).length = (mid - st).toNat := by simp; omega
  generalize V.take (mid - st).toNat = V1 at hV12 l2
  generalize V.drop (mid - st).toNat = V2 at hV12
  subst hV12
  rw [List.length_append] at hm hb
  have hu := List.pairwise_append.1 hU
  have hv := List.pairwise_append.1 hV
  have hd' : d = A ++ (U1 ++ (U2 ++ (V1 ++ (V2 ++ C)))) := by rw [hd]; simp
  clear hd
  have c1 : ∀ x ∈ U1, ∀ y ∈ V2, le c x y := by
    rcases List.eq_nil_or_concat U1 with e | ⟨L, l, e⟩
    · subst e
      intro x hx
      cases hx
    · cases V2 with
      | nil =>
        intro x _ y hy
        cases hy
      | cons w V2 =>
        subst e
        simp only [List.concat_eq_append, List.length_append, List.length_cons, List.length_nil] at *
        rcases g1 with e | e | e
        · omega
        · omega
        · rw [gt_at z (d := d) (i := st - 1) (A := A ++ L) (x := l) (C := U2 ++ (V1 ++ (w :: V2 ++ C))) (by rw [hd']; simp) (by simp; omega),
            gt_at z (d := d) (i := mid + m - st) (A := A ++ (L ++ [l]) ++ U2 ++ V1) (x := w) (C := V2 ++ C) (by rw [hd']; simp) (by simp; omega)] at e
          exact fun x hx y hy => T.tr x w y (T.tr x l w (last_le T hu.1 x hx) e) (head_le T hv.2.1 y hy)
  have c2 : ∀ x ∈ U2, ∀ y ∈ V1, c y x < 0 := by
    rcases List.eq_nil_or_concat V1 with e | ⟨L, l, e⟩
    · subst e
      intro x _ y hy
      cases hy
    · cases U2 with
      | nil =>
        intro x hx
        cases hx
      | cons w U2 =>
        subst e
        simp only [List.concat_eq_append, List.length_append, List.length_cons, List.length_nil] at *
        rcases g2 with e | e | e
        · omega
        · omega
        · rw [gt_at z (d := d) (i := st) (A := A ++ U1) (x := w) (C := U2 ++ ((L ++ [l]) ++ (V2 ++ C))) (by rw [hd']; simp) (by simp; omega),
            gt_at z (d := d) (i := mid + m - 1 - st) (A := A ++ U1 ++ (w :: U2) ++ L) (x := l) (C := V2 ++ C) (by rw [hd']; simp) (by simp; omega)] at e
          exact fun x hx y hy => lt_of_lt_le T (lt_of_le_lt T (last_le T hv.1 y hy) e) (head_le T hu.2.1 x hx)
  unfold sym2
  -- the exchange
  have hd1 : (bif decide (st < m) && decide (m < mid + m - st) then rot z d st m (mid + m - st) else d) = A ++ (U1 ++ (V1 ++ (U2 ++ (V2 ++ C)))) := by
    by_cases h : st < m ∧ m < mid + m - st
    · rw [show (decide (st < m) && decide (m < mid + m - st)) = true by simpa using h, cond_true]
      rw [rot_spec z (A := A ++ U1) (U := U2) (V := V1) (C := V2 ++ C) (by rw [hd']; simp) (by simp; omega) (by omega) (by omega) (by omega) (by omega)]
      simp
    · rw [show (decide (st < m) && decide (m < mid + m - st)) = false by rw [Bool.eq_false_iff]; simpa using h, cond_false, hd']
      by_cases h2 : U2.length = 0
      · rw [List.length_eq_zero_iff.1 h2]
        simp
      · have h3 : V1.length = 0 := by omega
        rw [List.length_eq_zero_iff.1 h3]
        simp
  simp only [hd1]
  -- the left
  have hl : ∃ W1, (bif decide (a < st) && decide (st < mid) then rec (A ++ (U1 ++ (V1 ++ (U2 ++ (V2 ++ C))))) a st mid else A ++ (U1 ++ (V1 ++ (U2 ++ (V2 ++ C))))) = A ++ (W1 ++ (U2 ++ (V2 ++ C))) ∧ Up c W1 ∧ F c (U1 ++ V1) W1 := by
    by_cases h : a < st ∧ st < mid
    · rw [show (decide (a < st) && decide (st < mid)) = true by simpa using h, cond_true]
      exact hrec A U1 V1 (U2 ++ (V2 ++ C)) a st mid ha (by omega) (by omega) (by omega) (by omega) hu.1 hv.1 (by omega)
    · rw [show (decide (a < st) && decide (st < mid)) = false by rw [Bool.eq_false_iff]; simpa using h, cond_false]
      refine ⟨U1 ++ V1, by simp, ?_, F.rfl⟩
      by_cases h2 : U1.length = 0
      · rw [List.length_eq_zero_iff.1 h2]
        exact hv.1
      · have h3 : V1.length = 0 := by omega
        rw [List.length_eq_zero_iff.1 h3, List.append_nil]
        exact hu.1
  obtain ⟨W1, e1, u1, f1⟩ := hl
  rw [e1]
  have lw : W1.length = (st - a).toNat + (mid - st).toNat := by have := f1.1; rw [List.length_append] at this; omega
  have hr : ∃ W2, (bif decide (mid < mid + m - st) && decide (mid + m - st < b) then rec (A ++ (W1 ++ (U2 ++ (V2 ++ C)))) mid (mid + m - st) b else A ++ (W1 ++ (U2 ++ (V2 ++ C)))) = A ++ (W1 ++ (W2 ++ C)) ∧ Up c W2 ∧ F c (U2 ++ V2) W2 := by
    by_cases h : mid < mid + m - st ∧ mid + m - st < b
    · rw [show (decide (mid < mid + m - st) && decide (mid + m - st < b)) = true by simpa using h, cond_true]
      obtain ⟨W2, e2, u2, f2⟩ := hrec (A ++ W1) U2 V2 C mid (mid + m - st) b (by simp; omega) (by omega) (by omega) (by omega) (by omega) hu.2.1 hv.2.1 (by omega)
      refine ⟨W2, ?_, u2, f2⟩
      rw [List.append_assoc, List.append_assoc] at e2
      exact e2
    · rw [show (decide (mid < mid + m - st) && decide (mid + m - st < b)) = false by rw [Bool.eq_false_iff]; simpa using h, cond_false]
      refine ⟨U2 ++ V2, by simp, ?_, F.rfl⟩
      by_cases h2 : U2.length = 0
      · rw [List.length_eq_zero_iff.1 h2]
        exact hv.2.1
      · have h3 : V2.length = 0 := by omega
        rw [List.length_eq_zero_iff.1 h3, List.append_nil]
        exact hu.2.1
  obtain ⟨W2, e2, u2, f2⟩ := hr
  refine ⟨W1 ++ W2, by rw [e2]; simp, List.pairwise_append.2 ⟨u1, u2, fun x hx y hy => ?_⟩, ?_⟩
  · rcases List.mem_append.1 (f1.symm.mem T hx) with hx | hx <;> rcases List.mem_append.1 (f2.symm.mem T hy) with hy | hy
    · exact hu.2.2 x hx y hy
    · exact c1 x hx y hy
    · exact T.asym _ _ (c2 y hy x hx)
    · exact hv.2.2 x hx y hy
  · have e : F c (U1 ++ (U2 ++ V1) ++ V2) (U1 ++ (V1 ++ U2) ++ V2) := (F.rfl.app (F.swap T c2)).app F.rfl
    have e' := f1.app f2
    refine F.trans (r := U1 ++ (V1 ++ U2) ++ V2) ?_ (F.trans (r := (U1 ++ V1) ++ (U2 ++ V2)) (by simpa using F.rfl) e')
    simpa using e
theorem sym_spec (T : Tot c) : ∀ (k : Nat) (A U V C : List α) (a m b : Int), a = (A.length : Int) → m = a + (U.length : Int) → b = m + (V.length : Int) → 0 < U.length → 0 < V.length → Up c U → Up c V → (b - a).toNat < k →
    ∃ W, sym z c k (A ++ (U ++ (V ++ C))) a m b = A ++ (W ++ C) ∧ Up c W ∧ F c (U ++ V) W
  | 0, _, _, _, _, _, _, _, _, _, _, _, _, _, _, h => absurd h (Nat.not_lt_zero _)
  | k + 1, A, U, V, C, a, m, b, ha, hm, hb, lU, lV, hU, hV, hk => by
    rw [sym]
    by_cases h1 : m - a = 1
    · rw [show (m - a == 1) = true by simpa using h1, cond_true]
      obtain ⟨x, rfl⟩ := List.length_eq_one_iff.1 (show U.length = 1 by omega)
      exact one1 z T ha (by omega) hb hV
    · rw [show (m - a == 1) = false by simpa using h1, cond_false]
      by_cases h2 : b - m = 1
      · rw [show (b - m == 1) = true by simpa using h2, cond_true]
        obtain ⟨y, rfl⟩ := List.length_eq_one_iff.1 (show V.length = 1 by omega)
        exact one3 z T ha hm hU
      · rw [show (b - m == 1) = false by simpa using h2, cond_false]
        have hs : a ≤ sst z c (A ++ (U ++ (V ++ C))) a m b ∧ sst z c (A ++ (U ++ (V ++ C))) a m b ≤ m ∧ sst z c (A ++ (U ++ (V ++ C))) a m b ≤ (a + b) / 2 ∧ (a + b) / 2 + m - sst z c (A ++ (U ++ (V ++ C))) a m b ≤ b ∧
            (sst z c (A ++ (U ++ (V ++ C))) a m b = a ∨ (a + b) / 2 + m - sst z c (A ++ (U ++ (V ++ C))) a m b = b ∨ sg z c (A ++ (U ++ (V ++ C))) ((a + b) / 2 + m - 1) (sst z c (A ++ (U ++ (V ++ C))) a m b - 1) = true) ∧
            (sst z c (A ++ (U ++ (V ++ C))) a m b = m ∨ sst z c (A ++ (U ++ (V ++ C))) a m b = (a + b) / 2 ∨ sg z c (A ++ (U ++ (V ++ C))) ((a + b) / 2 + m - 1) (sst z c (A ++ (U ++ (V ++ C))) a m b) = false) := by
          unfold sst
          by_cases h3 : (a + b) / 2 < m
          · rw [show decide ((a + b) / 2 < m) = true by simpa using h3]
            simp only [cond_true]
            obtain ⟨q1, q2, q3, q4⟩ := bs_spec (sg z c (A ++ (U ++ (V ++ C))) ((a + b) / 2 + m - 1)) (((a + b) / 2 - ((a + b) / 2 + m - b)).toNat + 1) ((a + b) / 2 + m - b) ((a + b) / 2) (by omega) (by omega)
            refine ⟨by omega, by omega, q2, by omega, ?_, ?_⟩
            · rcases q3 with e | e
              · exact Or.inr (Or.inl (by omega))
              · exact Or.inr (Or.inr e)
            · rcases q4 with e | e
              · exact Or.inr (Or.inl e)
              · exact Or.inr (Or.inr e)
          · rw [show decide ((a + b) / 2 < m) = false by simpa using h3]
            simp only [cond_false]
            obtain ⟨q1, q2, q3, q4⟩ := bs_spec (sg z c (A ++ (U ++ (V ++ C))) ((a + b) / 2 + m - 1)) ((m - a).toNat + 1) a m (by omega) (by omega)
            refine ⟨q1, q2, by omega, by omega, ?_, ?_⟩
            · rcases q3 with e | e
              · exact Or.inl e
              · exact Or.inr (Or.inr e)
            · rcases q4 with e | e
              · exact Or.inl e
              · exact Or.inr (Or.inr e)
        generalize sst z c (A ++ (U ++ (V ++ C))) a m b = st at hs
        obtain ⟨s1, s2, s3, s4, s5, s6⟩ := hs
        refine two z T (sym z c k) rfl ha hm hb hU hV s1 s2 s3 s4 (by omega) (by omega) ?_ ?_ (fun A U V C a' m' b' p1 p2 p3 p4 p5 p6 p7 p8 => sym_spec T k A U V C a' m' b' p1 p2 p3 p4 p5 p6 p7 (by omega))
        · rcases s5 with e | e | e
          · exact Or.inl e
          · exact Or.inr (Or.inl e)
          · refine Or.inr (Or.inr ?_)
            unfold sg at e
            rw [show (a + b) / 2 + m - 1 - (st - 1) = (a + b) / 2 + m - st by omega] at e
            simpa using e
        · rcases s6 with e | e | e
          · exact Or.inl e
          · exact Or.inr (Or.inl e)
          · refine Or.inr (Or.inr ?_)
            unfold sg at e
            simpa using e
end
end Go.Pv.Srt
end

section
/- The library's stable sort: blocks, and the whole: it answers what insertion answers. Program-free. -/
namespace Go.Pv.Srt
section
variable {α : Type} (z : α) (c : α → α → Int)
def stb0 (n : Int) : Nat → List α → Int → Int → List α × Int
  | 0, v, a, _ => (v, a)
  | k + 1, v, a, b => bif decide (b ≤ n) then stb0 n k (ins z c v a b) b (b + 20) else (v, a)
def stb2 (n : Int) : Nat → List α → Int → Int → Int → List α × Int × Int
  | 0, v, a, _, s => (v, s, a)
  | k + 1, v, a, b, s => bif decide (b ≤ n) then stb2 n k (sym z c ((b - a).toNat + 1) v a (a + s) b) b (b + (2 * s)) s else (v, s, a)
def stb2' (n : Int) (v : List α) (s : Int) : List α × Int × Int := stb2 z c n ((n + 2 * s - (2 * s)).toNat + 1) v 0 (2 * s) s
def stb1 (n : Int) : Nat → List α → Int → List α
  | 0, v, _ => v
  | k + 1, v, s =>
    bif decide (s < n) then
      bif decide ((stb2' z c n v s).2.2 + (stb2' z c n v s).2.1 < n) then
        stb1 n k (sym z c ((n - (stb2' z c n v s).2.2).toNat + 1) (stb2' z c n v s).1 (stb2' z c n v s).2.2 ((stb2' z c n v s).2.2 + (stb2' z c n v s).2.1) n) ((stb2' z c n v s).2.1 * 2)
      else stb1 n k (stb2' z c n v s).1 ((stb2' z c n v s).2.1 * 2)
    else v
def stb (d : List α) (n : Int) : List α :=
  stb1 z c n ((n - 20).toNat + 1) (ins z c (stb0 z c n ((n + 20 - 20).toNat + 1) d 0 20).1 (stb0 z c n ((n + 20 - 20).toNat + 1) d 0 20).2 n) 20
inductive Bl (s : Nat) : List α → Prop
  | last {l : List α} : l.length ≤ s → Up c l → Bl s l
  | cons {l r : List α} : l.length = s → Up c l → Bl s r → Bl s (l ++ r)
inductive Fu (s : Nat) : List α → Prop
  | nil : Fu s []
  | snoc {p l : List α} : Fu s p → l.length = s → Up c l → Fu s (p ++ l)
variable {c}
theorem Fu.bl {s : Nat} {P : List α} (h : Fu c s P) : ∀ {Q : List α}, Bl c s Q → Bl c s (P ++ Q) := by
  induction h with
  | nil => exact fun h => h
  | snoc _ h1 h2 ih =>
    intro Q hQ
    rw [List.append_assoc]
    exact ih (Bl.cons h1 h2 hQ)
theorem Bl.one {s : Nat} {Q : List α} (h : Bl c s Q) (hl : Q.length ≤ s) : Up c Q := by
  cases h with
  | last _ h => exact h
  | cons h1 h2 h3 =>
    rename_i l r
    rw [List.length_append] at hl
    rw [List.length_eq_zero_iff.1 (show r.length = 0 by omega), List.append_nil]
    exact h2
theorem Bl.split {s : Nat} {Q : List α} (h : Bl c s Q) (hl : s < Q.length) : ∃ l r, Q = l ++ r ∧ l.length = s ∧ Up c l ∧ Bl c s r := by
  cases h with
  | last h _ => omega
  | cons h1 h2 h3 => exact ⟨_, _, rfl, h1, h2, h3⟩
theorem Bl.two {s : Nat} {Q : List α} (hs : 0 < s) (h : Bl c s Q) (hl : 2 * s ≤ Q.length) : ∃ l m r, Q = l ++ (m ++ r) ∧ l.length = s ∧ m.length = s ∧ Up c l ∧ Up c m ∧ Bl c s r := by
  obtain ⟨l, r, rfl, h1, h2, h3⟩ := h.split (by omega)
  rw [List.length_append] at hl
  by_cases h4 : s < r.length
  · obtain ⟨m, r, rfl, h5, h6, h7⟩ := h3.split h4
    exact ⟨l, m, r, rfl, h1, h5, h2, h6, h7⟩
  · exact ⟨l, r, [], by simp, h1, by omega, h2, h3.one (by omega), Bl.last (by simp) List.Pairwise.nil⟩
theorem stb0_spec (T : Tot c) (n : Int) : ∀ (k : Nat) (P Q : List α) (a b : Int), a = (P.length : Int) → b = a + 20 → n = (P.length : Int) + (Q.length : Int) → Fu c 20 P → (n + 20 - b).toNat < k →
    ∃ P' Q', stb0 z c n k (P ++ Q) a b = (P' ++ Q', (P'.length : Int)) ∧ Fu c 20 P' ∧ Q'.length < 20 ∧ F c (P ++ Q) (P' ++ Q')
  | 0, _, _, _, _, _, _, _, _, h => absurd h (Nat.not_lt_zero _)
  | k + 1, P, Q, a, b, ha, hb, hn, hP, hk => by
    rw [stb0]
    by_cases h : b ≤ n
    · rw [show decide (b ≤ n) = true by simpa using h, cond_true]
      have e : P ++ Q = P ++ (Q.take 20 ++ Q.drop 20) := by rw [List.take_append_drop]
      have l1 : (Q.take 20).length = 20 := by simp; omega
      rw [e, ins_spec z c rfl ha (show b = a + ((Q.take 20).length : Int) by omega)]
      have f := isort_F T (Q.take 20)
      have l2 : (isort c (Q.take 20)).length = 20 := by have := f.1; omega
      have l3 : (Q.drop 20).length = Q.length - 20 := by simp
      rw [← List.append_assoc]
      obtain ⟨P', Q', h1, h2, h3, h4⟩ := stb0_spec T n k (P ++ isort c (Q.take 20)) (Q.drop 20) b (b + 20) (by rw [List.length_append]; omega) rfl (by rw [List.length_append]; omega) (Fu.snoc hP l2 (isort_up T _)) (by omega)
      refine ⟨P', Q', h1, h2, h3, F.trans ?_ h4⟩
      rw [List.append_assoc]
      exact F.rfl.app (f.app F.rfl)
    · rw [show decide (b ≤ n) = false by simpa using h, cond_false]
      exact ⟨P, Q, by rw [ha], hP, by omega, F.rfl⟩
theorem stb2_spec (T : Tot c) (n : Int) (t : Nat) (s : Int) (hs : s = (t : Int)) (ht : 0 < t) : ∀ (k : Nat) (P Q : List α) (a b : Int), a = (P.length : Int) → b = a + 2 * s → n = (P.length : Int) + (Q.length : Int) → Fu c (2 * t) P → Bl c t Q → (n + 2 * s - b).toNat < k →
    ∃ P' Q', stb2 z c n k (P ++ Q) a b s = (P' ++ Q', s, (P'.length : Int)) ∧ Fu c (2 * t) P' ∧ Bl c t Q' ∧ Q'.length < 2 * t ∧ F c (P ++ Q) (P' ++ Q')
  | 0, _, _, _, _, _, _, _, _, _, h => absurd h (Nat.not_lt_zero _)
  | k + 1, P, Q, a, b, ha, hb, hn, hP, hQ, hk => by
    rw [stb2]
    by_cases h : b ≤ n
    · rw [show decide (b ≤ n) = true by simpa using h, cond_true]
      obtain ⟨l, m, r, rfl, h1, h2, h3, h4, h5⟩ := hQ.two ht (by omega)
      simp only [List.length_append] at hn
      obtain ⟨W, e1, e2, e3⟩ := sym_spec z T ((b - a).toNat + 1) P l m r a (a + s) b ha (by omega) (by omega) (by omega) (by omega) h3 h4 (by omega)
      have lW : W.length = 2 * t := by have := e3.1; rw [List.length_append] at this; omega
      rw [e1, ← List.append_assoc]
      obtain ⟨P', Q', g1, g2, g3, g4, g5⟩ := stb2_spec T n t s hs ht k (P ++ W) r b (b + 2 * s) (by rw [List.length_append]; omega) rfl (by rw [List.length_append]; omega) (Fu.snoc hP lW e2) h5 (by omega)
      refine ⟨P', Q', g1, g2, g3, g4, F.trans ?_ g5⟩
      rw [List.append_assoc, ← List.append_assoc l]
      exact F.rfl.app (e3.app F.rfl)
    · rw [show decide (b ≤ n) = false by simpa using h, cond_false]
      exact ⟨P, Q, by rw [ha], hP, hQ, by omega, F.rfl⟩
theorem stb1_spec (T : Tot c) (n : Int) : ∀ (k : Nat) (v : List α) (t : Nat) (s : Int), s = (t : Int) → 0 < t → n = (v.length : Int) → Bl c t v → (n - s).toNat < k → Up c (stb1 z c n k v s) ∧ F c v (stb1 z c n k v s)
  | 0, _, _, _, _, _, _, _, h => absurd h (Nat.not_lt_zero _)
  | k + 1, v, t, s, hs, ht, hn, hv, hk => by
    rw [stb1]
    by_cases h : s < n
    · rw [show decide (s < n) = true by simpa using h, cond_true]
      obtain ⟨P, Q, g1, g2, g3, g4, g5⟩ := stb2_spec z T n t s hs ht ((n + 2 * s - (2 * s)).toNat + 1) [] v 0 (2 * s) rfl (by omega) (by simpa using hn) Fu.nil hv (by omega)
      have e : stb2' z c n v s = (P ++ Q, s, (P.length : Int)) := g1
      rw [e]
      have hl := g5.1
      simp only [List.nil_append, List.length_append] at hl
      simp only
      by_cases h2 : (P.length : Int) + s < n
      · rw [show decide ((P.length : Int) + s < n) = true by simpa using h2, cond_true]
        obtain ⟨l, r, rfl, h3, h4, h5⟩ := g3.split (by omega)
        rw [List.length_append] at g4 hl
        obtain ⟨W, e1, e2, e3⟩ := sym_spec z T ((n - (P.length : Int)).toNat + 1) P l r [] (P.length : Int) ((P.length : Int) + s) n rfl (by omega) (by omega) (by omega) (by omega) h4 (h5.one (by omega)) (by omega)
        rw [List.append_nil, List.append_nil] at e1
        rw [e1]
        have lW : W.length ≤ 2 * t := by have := e3.1; rw [List.length_append] at this; omega
        have lW' : (P ++ W).length = v.length := by have := e3.1; rw [List.length_append] at this ⊢; omega
        obtain ⟨q1, q2⟩ := stb1_spec T n k (P ++ W) (2 * t) (s * 2) (by omega) (by omega) (by omega) (g2.bl (Bl.last lW e2)) (by omega)
        exact ⟨q1, F.trans (F.trans g5 (F.rfl.app e3)) q2⟩
      · rw [show decide ((P.length : Int) + s < n) = false by simpa using h2, cond_false]
        obtain ⟨q1, q2⟩ := stb1_spec T n k (P ++ Q) (2 * t) (s * 2) (by omega) (by omega) (by rw [List.length_append]; omega) (g2.bl (Bl.last (by omega) (g3.one (by omega)))) (by omega)
        exact ⟨q1, F.trans g5 q2⟩
    · rw [show decide (s < n) = false by simpa using h, cond_false]
      exact ⟨hv.one (by omega), F.rfl⟩
/-- the library's stable sort answers what insertion answers -/
theorem stb_isort (T : Tot c) (d : List α) (n : Int) (hn : n = (d.length : Int)) : stb z c d n = isort c d := by
  unfold stb
  obtain ⟨P, Q, g1, g2, g3, g4⟩ := stb0_spec z T n ((n + 20 - 20).toNat + 1) [] d 0 20 rfl rfl (by simpa using hn) Fu.nil (by omega)
  rw [List.nil_append] at g1 g4
  rw [g1]
  simp only
  have hl := g4.1
  rw [List.length_append] at hl
  have e := ins_spec z c (d := P ++ Q) (A := P) (M := Q) (C := []) (a := (P.length : Int)) (b := n) (by simp) rfl (by omega)
  rw [e, List.append_nil]
  have f := isort_F T Q
  obtain ⟨q1, q2⟩ := stb1_spec z T n ((n - 20).toNat + 1) (P ++ isort c Q) 20 20 rfl (by omega) (by rw [List.length_append, ← f.1]; omega) (g2.bl (Bl.last (by rw [← f.1]; omega) (isort_up T Q))) (by omega)
  exact uniq T q1 (isort_up T d) (F.trans q2.symm (F.trans (F.rfl.app f.symm) (F.trans g4.symm (isort_F T d))))
end
end Go.Pv.Srt
end

section
/- The printed functions of the library's stable sort are the plain ones (printed by a program). -/
namespace Go.Proofs.Ytedohmdgbilicaa
open Go.Pv Go.Pv.Srt
abbrev sz_f51 : Fld := (Fld.mk (⟨#[]⟩ : ByteArray) (Val.mk 0 0 (⟨#[]⟩ : ByteArray) [] []))
theorem q_ins1_f51 (n0 : Nat) (a b i : Int) : ∀ (k : Nat) (v : List Fld) (j : Int), l_K13_b1 n0 a b i k v j = ins1 sz_f51 s_K1i a k v j
  | 0, _, _ => rfl
  | k + 1, v, j => by
    rw [l_K13_b1, ins1, q_ins1_f51 n0 a b i k]
    rfl
theorem q_ins0_f51 (n0 : Nat) (a b : Int) : ∀ (k : Nat) (i : Int) (v : List Fld), l_K13_b0 n0 a b k i v = ins0 sz_f51 s_K1i a b k i v
  | 0, _, _ => rfl
  | k + 1, i, v => by
    rw [l_K13_b0, ins0, q_ins0_f51 n0 a b k, q_ins1_f51]
theorem q_ins_f51 (n0 : Nat) (d : List Fld) (a b : Int) : s_K13_f51 n0 d a b = ins sz_f51 s_K1i d a b := q_ins0_f51 n0 a b _ _ _
theorem q_swr1_f51 (n0 : Nat) (p q n : Int) : ∀ (k : Nat) (v : List Fld) (i : Int), l_K16_b0 n0 p q n k v i = swr1 sz_f51 p q n k v i
  | 0, _, _ => rfl
  | k + 1, v, i => by
    rw [l_K16_b0, swr1, q_swr1_f51 n0 p q n k]
    rfl
theorem q_swr_f51 (n0 : Nat) (d : List Fld) (p q n : Int) : s_K16_f51 n0 d p q n = swr sz_f51 d p q n := q_swr1_f51 n0 p q n _ _ _
theorem q_rot1_f51 (n0 : Nat) (m : Int) : ∀ (k : Nat) (i j : Int) (v : List Fld), l_K14_b0 n0 m k i j v = rot1 sz_f51 m k i j v
  | 0, _, _, _ => rfl
  | k + 1, i, j, v => by
    rw [l_K14_b0, rot1, q_rot1_f51 n0 m k, q_rot1_f51 n0 m k, q_swr_f51, q_swr_f51]
theorem q_rot_f51 (n0 : Nat) (d : List Fld) (a m b : Int) : s_K14_f51 n0 d a m b = rot sz_f51 d a m b := by
  unfold s_K14_f51 rot
  rw [q_rot1_f51, q_swr_f51]
theorem q_bs0_f51 (n0 : Nat) (d : List Fld) (a m b : Int) : ∀ (k : Nat) (i j : Int), l_K17_b0 n0 d a m b k i j = bs (fun h => decide (s_K1i (gt sz_f51 d h) (gt sz_f51 d a) < 0)) k i j
  | 0, _, _ => rfl
  | k + 1, i, j => by
    rw [l_K17_b0, bs, q_bs0_f51 n0 d a m b k, q_bs0_f51 n0 d a m b k]
    rfl
theorem q_mv1_f51 (n0 : Nat) : ∀ (k : Nat) (t : Int) (v : List Fld) (i : Int), l_K17_b1 n0 k t v i = mv1 sz_f51 k t v i
  | 0, _, _, _ => rfl
  | k + 1, t, v, i => by
    rw [l_K17_b1, mv1, q_mv1_f51 n0 k]
    rfl
theorem q_bs2_f51 (n0 : Nat) (d : List Fld) (a m : Int) : ∀ (k : Nat) (j i : Int), l_K17_b2 n0 d a m k j i = bs (fun h => !decide (s_K1i (gt sz_f51 d m) (gt sz_f51 d h) < 0)) k i j
  | 0, _, _ => rfl
  | k + 1, j, i => by
    rw [l_K17_b2, bs, q_bs2_f51 n0 d a m k, q_bs2_f51 n0 d a m k]
    cases decide (i < j) with
    | false => rfl
    | true =>
      show (bif decide (s_K1i (gt sz_f51 d m) (gt sz_f51 d ((i + j) / 2)) < 0) then _ else _) = bif !decide (s_K1i (gt sz_f51 d m) (gt sz_f51 d ((i + j) / 2)) < 0) then _ else _
      cases decide (s_K1i (gt sz_f51 d m) (gt sz_f51 d ((i + j) / 2)) < 0) <;> rfl
theorem q_mv3_f51 (n0 : Nat) : ∀ (k : Nat) (t : Int) (v : List Fld) (i : Int), l_K17_b3 n0 k t v i = mv3 sz_f51 k t v i
  | 0, _, _, _ => rfl
  | k + 1, t, v, i => by
    rw [l_K17_b3, mv3, q_mv3_f51 n0 k]
    rfl
theorem q_bs4_f51 (n0 : Nat) (d : List Fld) (a m b mid n p : Int) : ∀ (k : Nat) (i j : Int), l_K17_b4 n0 d a m b k mid n i j p = (mid, n, bs (sg sz_f51 s_K1i d p) k i j)
  | 0, _, _ => rfl
  | k + 1, i, j => by
    rw [l_K17_b4, bs, q_bs4_f51 n0 d a m b mid n p k, q_bs4_f51 n0 d a m b mid n p k]
    cases decide (i < j) with
    | false => rfl
    | true =>
      show (bif decide (s_K1i (gt sz_f51 d (p - (i + j) / 2)) (gt sz_f51 d ((i + j) / 2)) < 0) then _ else _) = (mid, n, bif !decide (s_K1i (gt sz_f51 d (p - (i + j) / 2)) (gt sz_f51 d ((i + j) / 2)) < 0) then _ else _)
      cases decide (s_K1i (gt sz_f51 d (p - (i + j) / 2)) (gt sz_f51 d ((i + j) / 2)) < 0) <;> rfl
theorem q_sym_f51 (n0 : Nat) : ∀ (k : Nat) (d : List Fld) (a m b : Int), s_K17_f51 k n0 d a m b = sym sz_f51 s_K1i k d a m b
  | 0, _, _, _, _ => rfl
  | k + 1, d, a, m, b => by
    rw [s_K17_f51, sym]
    simp only [q_sym_f51 n0 k, q_bs0_f51, q_mv1_f51, q_bs2_f51, q_mv3_f51, q_bs4_f51, q_rot_f51]
    cases (m - a == 1) with
    | true => rfl
    | false =>
      cases (b - m == 1) with
      | true => rfl
      | false =>
        simp only [cond_false]
        unfold sst
        cases decide ((a + b) / 2 < m) with
        | true =>
          simp only [cond_true]
          generalize bs (sg sz_f51 s_K1i d ((a + b) / 2 + m - 1)) (((a + b) / 2 - ((a + b) / 2 + m - b)).toNat + 1) ((a + b) / 2 + m - b) ((a + b) / 2) = st
          unfold sym2
          generalize (a + b) / 2 = mid
          cases decide (st < m) <;> cases decide (m < mid + m - st) <;> cases decide (a < st) <;> cases decide (st < mid) <;> cases decide (mid < mid + m - st) <;> cases decide (mid + m - st < b) <;> rfl
        | false =>
          simp only [cond_false]
          generalize bs (sg sz_f51 s_K1i d ((a + b) / 2 + m - 1)) ((m - a).toNat + 1) a m = st
          unfold sym2
          generalize (a + b) / 2 = mid
          cases decide (st < m) <;> cases decide (m < mid + m - st) <;> cases decide (a < st) <;> cases decide (st < mid) <;> cases decide (mid < mid + m - st) <;> cases decide (mid + m - st < b) <;> rfl
theorem q_stb0_f51 (n0 : Nat) (n : Int) : ∀ (k : Nat) (v : List Fld) (a b : Int), l_K15_b0 n0 n k v a b = stb0 sz_f51 s_K1i n k v a b
  | 0, _, _, _ => rfl
  | k + 1, v, a, b => by
    rw [l_K15_b0, stb0, q_stb0_f51 n0 n k, q_ins_f51]
theorem q_stb2_f51 (n0 : Nat) (n : Int) : ∀ (k : Nat) (v : List Fld) (a b s : Int), l_K15_b2 n0 n k v a b s = stb2 sz_f51 s_K1i n k v a b s
  | 0, _, _, _, _ => rfl
  | k + 1, v, a, b, s => by
    rw [l_K15_b2, stb2, q_stb2_f51 n0 n k, q_sym_f51]
theorem q_stb1_f51 (n0 : Nat) (n : Int) : ∀ (k : Nat) (v : List Fld) (s : Int), l_K15_b1 n0 n k v s = stb1 sz_f51 s_K1i n k v s
  | 0, _, _ => rfl
  | k + 1, v, s => by
    rw [l_K15_b1, stb1]
    simp only [q_stb1_f51 n0 n k, q_stb2_f51, q_sym_f51]
    rfl
theorem q_stb_f51 (n0 : Nat) (d : List Fld) (n : Int) : s_K15_f51 n0 d n = stb sz_f51 s_K1i d n := by
  unfold s_K15_f51 stb
  simp only [q_stb1_f51, q_ins_f51, q_stb0_f51]
theorem q_sort_f51 (T : Tot s_K1i) (d : List Fld) : s_K12_f51 d.length d = isort s_K1i d := by
  unfold s_K12_f51
  rw [q_stb_f51, stb_isort _ T d _ rfl]
end Go.Proofs.Ytedohmdgbilicaa
end

section
/- What setting and taking out a field computes (printed by a program). -/
namespace Go.Proofs.Ytedohmdgbilicaa
open Go.Pv
def s_K1n (p0 : Val) (p1 : ByteArray) (p2 : Val) : Val :=
  (s_K1h (List.take (s_K1r p0 p1).1 (s_K1r p0 p1).2 ++ [(Fld.mk p1 p2)]))
def c_K1n (p0 : Val) (p1 : ByteArray) (p2 : Val) : En := .call 33 [.agg (Val.cells p0), .str p1, .agg (Val.cells p2)] []
def a_K1n (p0 : Val) (p1 : ByteArray) (p2 : Val) : Rs := .ret (.agg (Val.cells (s_K1n p0 p1 p2))) []
def H_K1n (p0 : Val) (p1 : ByteArray) (p2 : Val) : Prop := (H_K1r p0 p1) ∧ ((s_K1r p0 p1).1 ≤ List.length (s_K1r p0 p1).2) ∧ (((s_K1r p0 p1).1 + 1) * 96 ≤ 140737488355328) ∧ (H_K1h (List.take (s_K1r p0 p1).1 (s_K1r p0 p1).2 ++ [(Fld.mk p1 p2)])) ∧ True
theorem t_K1n (p0 : Val) (p1 : ByteArray) (p2 : Val) (H : H_K1n p0 p1 p2) : Tells G (c_K1n p0 p1 p2) (a_K1n p0 p1 p2) := by
  unfold a_K1n s_K1n
  exact tells_VI (fn := Ir.K1n) rfl VOK.nil [hQ (Fld.rowsView (s_K1r p0 p1).2 6 rfl), hV 10 [(640, Fld.rows (List.take (s_K1r p0 p1).1 (s_K1r p0 p1).2 ++ [(Fld.mk p1 p2)]))] (apt_ok 320 576 640 6 96 0 true (Fld.rows (s_K1r p0 p1).2) (Fld.rows (List.take (s_K1r p0 p1).1 (s_K1r p0 p1).2 ++ [(Fld.mk p1 p2)])) (Fld.cells (Fld.mk p1 p2)) (s_K1r p0 p1).1 (List.length (List.take (s_K1r p0 p1).1 (s_K1r p0 p1).2 ++ [(Fld.mk p1 p2)])) rfl (by rw [Fld.rowsLen]; exact (H.2.1)) (Fld.rowsLen (List.take (s_K1r p0 p1).1 (s_K1r p0 p1).2 ++ [(Fld.mk p1 p2)])).symm (by rw [Fld.rowsSnoc, Fld.rowsTake]) (Fld.rowsSize (s_K1r p0 p1).2) rfl (H.2.2.1)), hS 0 true (Fld.rowsView (List.take (s_K1r p0 p1).1 (s_K1r p0 p1).2 ++ [(Fld.mk p1 p2)]) 6 rfl), hQ (Fld.rowsLen (List.take (s_K1r p0 p1).1 (s_K1r p0 p1).2 ++ [(Fld.mk p1 p2)])).symm] [aV [(0, Fld.rows (s_K1r p0 p1).2)] (t_K1r p0 p1 H.1), aN (t_K1h (List.take (s_K1r p0 p1).1 (s_K1r p0 p1).2 ++ [(Fld.mk p1 p2)]) H.2.2.2.1)] (by kernel_rfl)
def s_K1o (p0 : Val) (p1 : ByteArray) : Val :=
  bif (p0.kind == 5) then
    (s_K1h (s_K1r p0 p1).2)
  else
    p0
def c_K1o (p0 : Val) (p1 : ByteArray) : En := .call 35 [.agg (Val.cells p0), .str p1] []
def a_K1o (p0 : Val) (p1 : ByteArray) : Rs := .ret (.agg (Val.cells (s_K1o p0 p1))) []
def H_K1o (p0 : Val) (p1 : ByteArray) : Prop := (H_K1r p0 p1) ∧ ((p0.kind == 5) = true → (s_K1r p0 p1).1 = List.length (s_K1r p0 p1).2) ∧ (H_K1h (s_K1r p0 p1).2) ∧ (H_K1p p0) ∧ True
theorem t_K1o (p0 : Val) (p1 : ByteArray) (H : H_K1o p0 p1) : Tells G (c_K1o p0 p1) (a_K1o p0 p1) := by
  unfold a_K1o s_K1o
  cases h0 : (p0.kind == 5) with
  | true =>
   exact tells_VI (fn := Ir.K1o) rfl VOK.nil [hP 4 (dec (!(p0.kind == 5)) false (by rw [h0]; rfl)), hQ (Fld.rowsView (s_K1r p0 p1).2 6 rfl), hQ ((H.2.1 h0).trans (Fld.rowsLen (s_K1r p0 p1).2).symm)] [aV [(0, Fld.rows (s_K1r p0 p1).2)] (t_K1r p0 p1 H.1), aN (t_K1h (s_K1r p0 p1).2 H.2.2.1)] (by kernel_rfl)
  | false =>
   exact tells_VI (fn := Ir.K1o) rfl VOK.nil [hP 4 (dec (!(p0.kind == 5)) true (by rw [h0]; rfl))] [aN (t_K1p p0 H.2.2.2.1)] (by kernel_rfl)
end Go.Proofs.Ytedohmdgbilicaa
end

section
/- Comparisons that answer -1, 0 or 1; the order of strings. -/
namespace Go.Pv
def R3 (a : Int) : Prop := a = -1 ∨ a = 0 ∨ a = 1
/-- what two answers say of the third -/
def T3 (a b e : Int) : Prop := (a = 0 → e = b) ∧ (b = 0 → e = a) ∧ (a = b → e = a)
def lx (a b : Int) : Int := if a = 0 then b else a
def icmp (a b : Int) : Int := if a < b then -1 else if b < a then 1 else 0
theorem lx_neg (a b : Int) : lx (-a) (-b) = -lx a b := by
  unfold lx
  split <;> split <;> omega
theorem lx_t3 {a b e a' b' e' : Int} (_ha : R3 a) (_hb : R3 b) (_he : R3 e) (t : T3 a b e) (t' : T3 a' b' e') : T3 (lx a a') (lx b b') (lx e e') := by
  unfold T3 at *
  unfold lx R3 at *
  split <;> split <;> split <;> omega
theorem icmp_r3 (a b : Int) : R3 (icmp a b) := by
  unfold icmp R3
  split
  · omega
  · split <;> omega
theorem icmp_neg (a b : Int) : icmp b a = -icmp a b := by
  unfold icmp
  split <;> split <;> first | omega | (split <;> omega) | skip
  all_goals omega
theorem icmp_t3 (a b e : Int) : T3 (icmp a b) (icmp b e) (icmp a e) := by
  unfold T3 icmp
  split <;> split <;> split <;> (try split) <;> (try split) <;> (try split) <;> omega
theorem icmp_zero {a b : Int} : icmp a b = 0 ↔ a = b := by
  unfold icmp
  constructor
  · intro h
    split at h
    · omega
    · split at h <;> omega
  · intro h
    rw [if_neg (by omega), if_neg (by omega)]
theorem cmpL_r3 : ∀ a b : List UInt8, R3 (cmpL a b)
  | [], [] => Or.inr (Or.inl rfl)
  | [], _ :: _ => Or.inl rfl
  | _ :: _, [] => Or.inr (Or.inr rfl)
  | x :: a, y :: b => by
    rw [cmpL]
    split
    · exact Or.inl rfl
    · split
      · exact Or.inr (Or.inr rfl)
      · exact cmpL_r3 a b
theorem cmpL_step (x y : UInt8) (a b : List UInt8) : cmpL (x :: a) (y :: b) = lx (icmp (x.toNat : Int) (y.toNat : Int)) (cmpL a b) := by
  rw [cmpL]
  unfold lx icmp
  simp only [UInt8.lt_iff_toNat_lt]
  by_cases h1 : x.toNat < y.toNat
  · rw [if_pos h1, if_pos (show (x.toNat : Int) < (y.toNat : Int) by omega)]
    rfl
  · by_cases h2 : y.toNat < x.toNat
    · rw [if_neg h1, if_pos h2, if_neg (show ¬ (x.toNat : Int) < (y.toNat : Int) by omega), if_pos (show (y.toNat : Int) < (x.toNat : Int) by omega)]
      rfl
    · rw [if_neg h1, if_neg h2, if_neg (show ¬ (x.toNat : Int) < (y.toNat : Int) by omega), if_neg (show ¬ (y.toNat : Int) < (x.toNat : Int) by omega)]
      rfl
theorem cmpL_neg : ∀ a b : List UInt8, cmpL b a = -cmpL a b
  | [], [] => rfl
  | [], _ :: _ => rfl
  | _ :: _, [] => rfl
  | x :: a, y :: b => by rw [cmpL_step, cmpL_step, cmpL_neg a b, icmp_neg (x.toNat : Int) (y.toNat : Int), lx_neg]
theorem cmpL_t3 : ∀ a b d : List UInt8, T3 (cmpL a b) (cmpL b d) (cmpL a d)
  | [], [], [] => by simp [T3, cmpL]
  | [], [], _ :: _ => by simp [T3, cmpL]
  | [], _ :: _, [] => by simp [T3, cmpL]
  | [], _ :: _, _ :: _ => by simp [T3, cmpL]
  | _ :: _, [], [] => by simp [T3, cmpL]
  | _ :: _, [], _ :: _ => by simp [T3, cmpL]
  | x :: a, y :: b, [] => by
    have h := cmpL_r3 (x :: a) (y :: b)
    unfold R3 at h
    unfold T3
    rw [show cmpL (y :: b) [] = 1 from rfl, show cmpL (x :: a) [] = 1 from rfl]
    omega
  | x :: a, y :: b, w :: d => by
    rw [cmpL_step, cmpL_step, cmpL_step]
    exact lx_t3 (icmp_r3 _ _) (icmp_r3 _ _) (icmp_r3 _ _) (icmp_t3 _ _ _) (cmpL_t3 a b d)
theorem cmpL_zero : ∀ a b : List UInt8, cmpL a b = 0 → a = b
  | [], [], _ => rfl
  | [], _ :: _, h => by simp [cmpL] at h
  | _ :: _, [], h => by simp [cmpL] at h
  | x :: a, y :: b, h => by
    rw [cmpL_step] at h
    unfold lx at h
    split at h
    · rename_i e
      have := icmp_zero.1 e
      rw [UInt8.toNat_inj.1 (show x.toNat = y.toNat by omega), cmpL_zero a b h]
    · omega
theorem cmpL_self (a : List UInt8) : cmpL a a = 0 := by
  have := cmpL_neg a a
  omega
theorem less_cmp : ∀ a b : List UInt8, Op.bytesLess a b = decide (cmpL a b < 0)
  | [], [] => rfl
  | [], _ :: _ => rfl
  | _ :: _, [] => rfl
  | x :: a, y :: b => by
    have ih := less_cmp a b
    rw [Op.bytesLess, cmpL, ih]
    by_cases h : x < y
    · simp [h]
    · by_cases h2 : y < x
      · have h3 : ¬ x = y := fun e => h (e ▸ h2)
        simp [h, h2, h3]
      · have h3 : x = y := by
          rw [UInt8.lt_iff_toNat_lt] at h h2
          exact UInt8.toNat_inj.1 (by omega)
        simp [h3]
theorem sCmp_r3 (a b : ByteArray) : R3 (sCmp a b) := cmpL_r3 _ _
theorem sCmp_neg (a b : ByteArray) : sCmp b a = -sCmp a b := cmpL_neg _ _
theorem sCmp_t3 (a b d : ByteArray) : T3 (sCmp a b) (sCmp b d) (sCmp a d) := cmpL_t3 _ _ _
theorem sCmp_zero {a b : ByteArray} : sCmp a b = 0 ↔ a = b := ⟨fun h => toList_inj (cmpL_zero _ _ h), fun h => by rw [h]; exact cmpL_self _⟩
theorem sLt_cmp (a b : ByteArray) : sLt a b = decide (sCmp a b < 0) := less_cmp _ _
theorem sEq_cmp (a b : ByteArray) : sEq a b = decide (sCmp a b = 0) := by
  rw [sEq_dec]
  simp only [sCmp_zero]
/-- the order of an order's answers: -1, 0, 1 -/
theorem sCmp_of (a b : ByteArray) : sCmp a b = if sLt a b = true then -1 else if (!(sLt a b || sEq a b)) = true then 1 else 0 := by
  rw [sLt_cmp, sEq_cmp]
  have := sCmp_r3 a b
  unfold R3 at this
  rcases this with h | h | h <;> rw [h] <;> rfl
end Go.Pv
end

section
/- Values in plain words: sizes, depths and validity agree; comparisons agree and are orders. -/
namespace Go.Proofs.Ytedohmdgbilicaa
open Go.Pv
theorem vind {P : Val → Prop} (h : ∀ v : Val, (∀ x ∈ v.list, P x) → (∀ f ∈ v.fields, P f.v) → P v) : ∀ v, P v := by
  have key : ∀ (k : Nat) (v : Val), SizeOf.sizeOf v < k → P v := by
    intro k
    induction k with
    | zero => intro v hv; exact absurd hv (Nat.not_lt_zero _)
    | succ k ih => intro v hv; exact h v (fun x hx => ih x (by have := szM hx; omega)) (fun f hf => ih f.v (by have := szN hf; omega))
  exact fun v => key _ v (Nat.lt_succ_self _)
theorem smallH (v : Val) (h : Val_ok v) : H_Ka v := ⟨⟨h.sm, trivial⟩, trivial⟩
def orL : List Int → Int
  | [] => 0
  | a :: l => lx a (orL l)
theorem or_b0 (p : List Int) : ∀ (l : List Int) (i : Nat), (match l_K1_b0 p l i 0 with | .k0 y => y | .k1 y => y) = orL l
  | [], _ => rfl
  | a :: l, i => by
    rw [l_K1_b0, orL]
    unfold lx
    by_cases h : a = 0
    · rw [show (a == 0) = true by simpa using h, cond_true, if_pos h]
      exact or_b0 p l (i + 1)
    · rw [show (a == 0) = false by simpa using h, cond_false, if_neg h]
theorem or_eq (l : List Int) : s_K1 l = orL l := by
  rw [← or_b0 l l 0]
  rfl
theorem lx0 (a : Int) : lx a 0 = a := by
  unfold lx
  split <;> omega
theorem comp_eq (a b : Int) : s_K0 a b = icmp a b := by
  unfold s_K0 s_K2 icmp
  simp only [beq_self_eq_true, Bool.not_true, cond_false]
  by_cases h1 : a < b
  · rw [show decide (a < b) = true by simpa using h1, if_pos h1]
    rfl
  · rw [show decide (a < b) = false by simpa using h1, if_neg h1]
    by_cases h2 : b < a
    · rw [show decide (b < a) = true by simpa using h2, if_pos h2]
      rfl
    · rw [show decide (b < a) = false by simpa using h2, if_neg h2]
      rfl
theorem order_int (a b : Int) : s_Kt (decide (a < b)) (decide (b < a)) = icmp a b := by
  unfold s_Kt icmp
  by_cases h1 : a < b
  · rw [show decide (a < b) = true by simpa using h1, if_pos h1]
    cases decide (b < a) <;> rfl
  · rw [show decide (a < b) = false by simpa using h1, if_neg h1]
    by_cases h2 : b < a
    · rw [show decide (b < a) = true by simpa using h2, if_pos h2]
      rfl
    · rw [show decide (b < a) = false by simpa using h2, if_neg h2]
      rfl
theorem order_str (a b : ByteArray) : s_Kt (sLt a b) (!(sLt a b || sEq a b)) = sCmp a b := by
  rw [sCmp_of]
  unfold s_Kt
  cases sLt a b <;> cases sEq a b <;> rfl
theorem vcmp (a b : Val) : s_K1a a b = lx (icmp a.kind b.kind) (lx (icmp a.n b.n) (lx (sCmp a.s b.s) (lx (lcV a.list b.list) (lcF a.fields b.fields)))) := by
  rw [s_K1a, or_eq, comp_eq, comp_eq]
  show lx _ (lx _ (lx _ (lx _ (lx _ 0)))) = _
  rw [lx0]
  rfl
theorem fcmp (x y : Fld) : s_K1 [s_K18 x.name y.name, s_K1a x.v y.v] = lx (sCmp x.name y.name) (s_K1a x.v y.v) := by
  rw [or_eq]
  show lx _ (lx _ 0) = _
  rw [lx0]
  rfl
theorem lcV_cons (x y : Val) (l m : List Val) : lcV (x :: l) (y :: m) = lx (s_K1a x y) (lcV l m) := by
  rw [lcV]
  unfold lx
  by_cases h : s_K1a x y = 0
  · rw [show (s_K1a x y == 0) = true by simpa using h, cond_true, if_pos h]
  · rw [show (s_K1a x y == 0) = false by simpa using h, cond_false, if_neg h]
theorem lcF_cons (x y : Fld) (l m : List Fld) : lcF (x :: l) (y :: m) = lx (lx (sCmp x.name y.name) (s_K1a x.v y.v)) (lcF l m) := by
  rw [lcF, fcmp]
  generalize lx (sCmp x.name y.name) (s_K1a x.v y.v) = c
  unfold lx
  by_cases h : c = 0
  · rw [show (c == 0) = true by simpa using h, cond_true, if_pos h]
  · rw [show (c == 0) = false by simpa using h, cond_false, if_neg h]
theorem lcV_n1 (y : Val) (m : List Val) : lcV [] (y :: m) = -1 := by rw [lcV]
theorem lcV_n2 (x : Val) (l : List Val) : lcV (x :: l) [] = 1 := by rw [lcV]
theorem lcV_nn : lcV [] [] = 0 := by rw [lcV]
theorem lcF_n1 (y : Fld) (m : List Fld) : lcF [] (y :: m) = -1 := by rw [lcF]
theorem lcF_n2 (x : Fld) (l : List Fld) : lcF (x :: l) [] = 1 := by rw [lcF]
theorem lcF_nn : lcF [] [] = 0 := by rw [lcF]
theorem lcV_neg : ∀ (l m : List Val), (∀ x ∈ l, ∀ y, s_K1a y x = -s_K1a x y) → lcV m l = -lcV l m
  | [], [], _ => by rw [lcV_nn]; rfl
  | [], _ :: _, _ => by rw [lcV_n1, lcV_n2]; rfl
  | _ :: _, [], _ => by rw [lcV_n1, lcV_n2]
  | x :: l, y :: m, h => by rw [lcV_cons, lcV_cons, h x List.mem_cons_self y, lcV_neg l m fun z hz => h z (List.mem_cons_of_mem _ hz), lx_neg]
theorem lcF_neg : ∀ (l m : List Fld), (∀ x ∈ l, ∀ y, s_K1a y x.v = -s_K1a x.v y) → lcF m l = -lcF l m
  | [], [], _ => by rw [lcF_nn]; rfl
  | [], _ :: _, _ => by rw [lcF_n1, lcF_n2]; rfl
  | _ :: _, [], _ => by rw [lcF_n1, lcF_n2]
  | x :: l, y :: m, h => by rw [lcF_cons, lcF_cons, h x List.mem_cons_self y.v, sCmp_neg x.name y.name, lx_neg, lcF_neg l m fun z hz => h z (List.mem_cons_of_mem _ hz), lx_neg]
theorem cmp_neg : ∀ a b : Val, s_K1a b a = -s_K1a a b := vind fun a h1 h2 b => by
  rw [vcmp, vcmp, icmp_neg a.kind b.kind, icmp_neg a.n b.n, sCmp_neg a.s b.s, lcV_neg _ _ h1, lcF_neg _ _ h2, lx_neg, lx_neg, lx_neg, lx_neg]
theorem cmp_self (a : Val) : s_K1a a a = 0 := by
  have := cmp_neg a a
  omega
theorem equal_iff (a b : Val) : s_K1d a b = (s_K1a a b == 0) := rfl
theorem lx_assoc (a b c : Int) : lx (lx a b) c = lx a (lx b c) := by
  unfold lx
  by_cases h : a = 0
  · rw [if_pos h, if_pos h]
  · rw [if_neg h, if_neg h, if_neg h]
theorem bz (x y : Int) : (bif (x == 0) then y else x) = lx x y := by
  unfold lx
  by_cases h : x = 0
  · rw [show (x == 0) = true by simpa using h, if_pos h]
    rfl
  · rw [show (x == 0) = false by simpa using h, if_neg h]
    rfl
theorem bz3 (x y z : Int) : (bif (x == 0) then y else lx x z) = lx x y := by
  unfold lx
  by_cases h : x = 0
  · rw [show (x == 0) = true by simpa using h, if_pos h, if_pos h]
    rfl
  · rw [show (x == 0) = false by simpa using h, if_neg h, if_neg h]
    rfl
theorem lx_ne {a : Int} (h : a ≠ 0) (b : Int) : lx a b = a := by
  unfold lx
  rw [if_neg h]
theorem lx_z (b : Int) : lx 0 b = b := rfl
theorem rb0_ne (a b : Val) {c : Int} (h : c ≠ 0) : ∀ (l : List Val) (i : Nat), l_Kc_b0 a b l i c = c
  | [], i => by rw [l_Kc_b0]
  | x :: l, i => by
    rw [l_Kc_b0, show (c == 0) = false by simpa using h]
    cases decide ((i : Int) < ((b.list.length : Nat) : Int)) <;> rfl
theorem rb1_ne (a b : Val) {c : Int} (h : c ≠ 0) : ∀ (l : List Fld) (i : Nat), l_Kc_b1 a b l i c = c
  | [], i => by rw [l_Kc_b1]
  | x :: l, i => by
    rw [l_Kc_b1, show (c == 0) = false by simpa using h]
    cases decide ((i : Int) < ((b.fields.length : Nat) : Int)) <;> rfl
theorem getV (b : List Val) (i : Nat) (h : i < b.length) (z : Val) : b.getD i z = b[i] := by rw [List.getD_eq_getElem?_getD, List.getElem?_eq_getElem h]; rfl
theorem getF (b : List Fld) (i : Nat) (h : i < b.length) (z : Fld) : b.getD i z = b[i] := by rw [List.getD_eq_getElem?_getD, List.getElem?_eq_getElem h]; rfl
theorem rb0 (a b : Val) : ∀ (l : List Val) (i : Nat), i ≤ b.list.length → (∀ x ∈ l, ∀ y, s_Kc x y = s_K1a x y) →
    lx (l_Kc_b0 a b l i 0) (icmp ((i + l.length : Nat) : Int) ((b.list.length : Nat) : Int)) = lcV l (b.list.drop i)
  | [], i, hi, _ => by
    rw [l_Kc_b0, lx_z]
    unfold icmp
    by_cases h : i < b.list.length
    · rw [List.drop_eq_getElem_cons h, lcV_n1, if_pos (by simp; omega)]
    · rw [List.drop_eq_nil_of_le (by omega), lcV_nn, if_neg (by simp; omega), if_neg (by simp; omega)]
  | x :: l, i, hi, h => by
    rw [l_Kc_b0]
    by_cases hb : i < b.list.length
    · rw [show decide ((i : Int) < ((b.list.length : Nat) : Int)) = true by simpa using hb, cond_true, show ((0 : Int) == 0) = true from rfl, cond_true, getV _ _ hb, h x List.mem_cons_self, List.drop_eq_getElem_cons hb, lcV_cons]
      have ih := rb0 a b l (i + 1) hb (fun y hy => h y (List.mem_cons_of_mem _ hy))
      by_cases hc : s_K1a x b.list[i] = 0
      · rw [hc, lx_z, ← ih, show i + (x :: l).length = i + 1 + l.length by rw [List.length_cons]; omega]
      · rw [rb0_ne a b hc, lx_ne hc, lx_ne hc]
    · rw [show decide ((i : Int) < ((b.list.length : Nat) : Int)) = false by simpa using hb, cond_false, lx_z, List.drop_eq_nil_of_le (by omega), lcV_n2]
      unfold icmp
      rw [if_neg (by rw [List.length_cons]; omega), if_pos (by rw [List.length_cons]; omega)]
theorem rb1 (a b : Val) : ∀ (l : List Fld) (i : Nat), i ≤ b.fields.length → (∀ x ∈ l, ∀ y, s_Kc x.v y = s_K1a x.v y) →
    lx (l_Kc_b1 a b l i 0) (icmp ((i + l.length : Nat) : Int) ((b.fields.length : Nat) : Int)) = lcF l (b.fields.drop i)
  | [], i, hi, _ => by
    rw [l_Kc_b1, lx_z]
    unfold icmp
    by_cases h : i < b.fields.length
    · rw [List.drop_eq_getElem_cons h, lcF_n1, if_pos (by simp; omega)]
    · rw [List.drop_eq_nil_of_le (by omega), lcF_nn, if_neg (by simp; omega), if_neg (by simp; omega)]
  | x :: l, i, hi, h => by
    rw [l_Kc_b1]
    by_cases hb : i < b.fields.length
    · rw [show decide ((i : Int) < ((b.fields.length : Nat) : Int)) = true by simpa using hb, cond_true, show ((0 : Int) == 0) = true from rfl, cond_true, getF _ _ hb, h x List.mem_cons_self, List.drop_eq_getElem_cons hb, lcF_cons, order_str]
      have ih := rb1 a b l (i + 1) hb (fun y hy => h y (List.mem_cons_of_mem _ hy))
      by_cases hs : sCmp x.name b.fields[i].name = 0
      · rw [show (sCmp x.name b.fields[i].name == 0) = true by simpa using hs, cond_true, hs, lx_z]
        by_cases hc : s_K1a x.v b.fields[i].v = 0
        · rw [hc, lx_z, ← ih, show i + (x :: l).length = i + 1 + l.length by rw [List.length_cons]; omega]
        · rw [rb1_ne a b hc, lx_ne hc, lx_ne hc]
      · rw [show (sCmp x.name b.fields[i].name == 0) = false by simpa using hs, cond_false, rb1_ne a b hs, lx_ne hs, lx_ne hs, lx_ne hs]
    · rw [show decide ((i : Int) < ((b.fields.length : Nat) : Int)) = false by simpa using hb, cond_false, lx_z, List.drop_eq_nil_of_le (by omega), lcF_n2]
      unfold icmp
      rw [if_neg (by rw [List.length_cons]; omega), if_pos (by rw [List.length_cons]; omega)]
theorem ref_eq : ∀ a b : Val, s_Kc a b = s_K1a a b := vind fun a h1 h2 b => by
  have P0 : ∀ c, lx (l_Kc_b0 a b a.list 0 c) (icmp ((a.list.length : Nat) : Int) ((b.list.length : Nat) : Int)) = lx c (lcV a.list b.list) := fun c => by
    by_cases h : c = 0
    · have := rb0 a b a.list 0 (Nat.zero_le _) h1
      rw [Nat.zero_add, List.drop_zero] at this
      rw [h, this, lx_z]
    · rw [rb0_ne a b h, lx_ne h, lx_ne h]
  have P1 : ∀ c, lx (l_Kc_b1 a b a.fields 0 c) (icmp ((a.fields.length : Nat) : Int) ((b.fields.length : Nat) : Int)) = lx c (lcF a.fields b.fields) := fun c => by
    by_cases h : c = 0
    · have := rb1 a b a.fields 0 (Nat.zero_le _) h2
      rw [Nat.zero_add, List.drop_zero] at this
      rw [h, this, lx_z]
    · rw [rb1_ne a b h, lx_ne h, lx_ne h]
  rw [s_Kc, vcmp]
  simp only [order_int, order_str, bz, P1, bz3, ← lx_assoc, P0]
  simp only [lx_assoc, bz3]
theorem requal_eq (a b : Val) : s_Kf a b = s_K1d a b := by
  unfold s_Kf
  rw [ref_eq]
  rfl
end Go.Proofs.Ytedohmdgbilicaa
end

section
/- Lists of fields: strictly sorted lists are known by their members; keeping the last field of each name of a sorted list; putting a field into a sorted list. -/
namespace Go.Pv
open Srt
theorem sCmp_self (a : ByteArray) : sCmp a a = 0 := sCmp_zero.2 rfl
theorem sCmp_tr {a b d : ByteArray} (h : sCmp a b < 0) (g : sCmp b d < 0) : sCmp a d < 0 := by
  have t := sCmp_t3 a b d
  have h1 := sCmp_r3 a b
  have h2 := sCmp_r3 b d
  unfold R3 at h1 h2
  unfold T3 at t
  omega
theorem sEq_ne {a b : ByteArray} : sEq a b = false ↔ a ≠ b := by
  cases h : sEq a b with
  | true => simp [sEq_iff.1 h]
  | false => exact ⟨fun _ e => (by rw [sEq_iff.2 e] at h; cases h), fun _ => rfl⟩
theorem sCmp_tri (a b : ByteArray) : sCmp a b < 0 ∨ a = b ∨ sCmp b a < 0 := by
  have h1 := sCmp_r3 a b
  have h2 := sCmp_neg a b
  have h3 : sCmp a b = 0 → a = b := sCmp_zero.1
  unfold R3 at h1
  by_cases e : sCmp a b = 0
  · exact .inr (.inl (h3 e))
  · omega
theorem tot_sCmp {α : Type} (f : α → ByteArray) : Tot (fun x y : α => sCmp (f x) (f y)) := by
  refine ⟨fun x y h => ?_, fun x y w h g => ?_⟩
  · rw [sCmp_neg]
    omega
  · have t := sCmp_t3 (f w) (f y) (f x)
    have h1 := sCmp_r3 (f w) (f y)
    have h2 := sCmp_r3 (f y) (f x)
    rw [sCmp_neg] at h
    rw [sCmp_neg] at g
    have h3 := sCmp_neg (f w) (f y)
    have h4 := sCmp_neg (f y) (f x)
    have h5 := sCmp_neg (f y) (f w)
    have h6 := sCmp_neg (f x) (f y)
    unfold R3 at h1 h2
    unfold T3 at t
    omega
abbrev nlt (x y : Fld) : Prop := sCmp x.name y.name < 0
/-- names rise -/
def SS (l : List Fld) : Prop := l.Pairwise nlt
theorem SS.cons {x : Fld} {l : List Fld} : SS (x :: l) ↔ (∀ y ∈ l, nlt x y) ∧ SS l := List.pairwise_cons
theorem SS.nil : SS [] := List.Pairwise.nil
theorem nlt_irr (x : Fld) : ¬ nlt x x := by unfold nlt; rw [sCmp_self]; omega
theorem ss_ext : ∀ {l r : List Fld}, SS l → SS r → (∀ f, f ∈ l ↔ f ∈ r) → l = r
  | [], [], _, _, _ => rfl
  | [], y :: r, _, _, h => by have := (h y).2 List.mem_cons_self; cases this
  | x :: l, [], _, _, h => by have := (h x).1 List.mem_cons_self; cases this
  | x :: l, y :: r, hl, hr, h => by
    obtain ⟨hx, hl'⟩ := SS.cons.1 hl
    obtain ⟨hy, hr'⟩ := SS.cons.1 hr
    have e : x = y := by
      rcases List.mem_cons.1 ((h x).1 List.mem_cons_self) with e | e
      · exact e
      · rcases List.mem_cons.1 ((h y).2 List.mem_cons_self) with e' | e'
        · exact e'.symm
        · exact absurd (sCmp_tr (hx y e') (hy x e)) (nlt_irr x)
    subst e
    have k1 : ∀ f, f ∈ l → f ∈ r := fun f hf => by
      rcases List.mem_cons.1 ((h f).1 (List.mem_cons_of_mem _ hf)) with e | e
      · subst e; exact absurd (hx _ hf) (nlt_irr _)
      · exact e
    have k2 : ∀ f, f ∈ r → f ∈ l := fun f hf => by
      rcases List.mem_cons.1 ((h f).2 (List.mem_cons_of_mem _ hf)) with e | e
      · subst e; exact absurd (hy _ hf) (nlt_irr _)
      · exact e
    rw [ss_ext hl' hr' fun f => ⟨k1 f, k2 f⟩]
theorem SS.filter {l : List Fld} (h : SS l) (p : Fld → Bool) : SS (l.filter p) := h.sublist List.filter_sublist
theorem SS.inj {l : List Fld} (h : SS l) {x y : Fld} (hx : x ∈ l) (hy : y ∈ l) (e : x.name = y.name) : x = y := by
  induction l with
  | nil => cases hx
  | cons z l ih =>
    obtain ⟨hz, hl⟩ := SS.cons.1 h
    rcases List.mem_cons.1 hx with e1 | hx' <;> rcases List.mem_cons.1 hy with e2 | hy'
    · rw [e1, e2]
    · subst e1; have := hz y hy'; unfold nlt at this; rw [e, sCmp_self] at this; omega
    · subst e2; have := hz x hx'; unfold nlt at this; rw [e, sCmp_self] at this; omega
    · exact ih hl hx' hy'
/-- the last field of its name -/
def lastOf (l : List Fld) (f : Fld) : Prop := (l.filter fun y => decide (y.name = f.name)).getLast? = some f
theorem lastOf_nil (f : Fld) : ¬ lastOf [] f := by simp [lastOf]
theorem lastOf_snoc (l : List Fld) (x f : Fld) : lastOf (l ++ [x]) f ↔ f = x ∨ (lastOf l f ∧ f.name ≠ x.name) := by
  unfold lastOf
  rw [List.filter_append]
  by_cases h : x.name = f.name
  · rw [show ([x].filter fun y => decide (y.name = f.name)) = [x] by simp [h], List.getLast?_append]
    simp [h, eq_comm]
  · rw [show ([x].filter fun y => decide (y.name = f.name)) = [] by simp [h], List.append_nil]
    exact ⟨fun g => .inr ⟨g, fun e => h e.symm⟩, fun g => by
      rcases g with rfl | g
      · exact absurd rfl h
      · exact g.1⟩
theorem lastOf_cons (x f : Fld) (l : List Fld) : lastOf (x :: l) f ↔ lastOf l f ∨ (f = x ∧ ∀ y ∈ l, y.name ≠ x.name) := by
  unfold lastOf
  by_cases h : x.name = f.name
  · rw [List.filter_cons_of_pos (by simpa using h)]
    cases e : l.filter fun y => decide (y.name = f.name) with
    | nil =>
      have := List.filter_eq_nil_iff.1 e
      simp only [List.getLast?_singleton, Option.some.injEq, List.getLast?_nil, reduceCtorEq, false_or]
      exact ⟨fun g => ⟨g.symm, fun y hy => by have := this y hy; rw [h]; simpa using this⟩, fun g => g.1.symm⟩
    | cons a r =>
      rw [List.getLast?_cons_cons]
      refine ⟨.inl, fun g => ?_⟩
      rcases g with g | g
      · exact g
      · have : a ∈ l.filter fun y => decide (y.name = f.name) := by rw [e]; exact List.mem_cons_self
        obtain ⟨h1, h2⟩ := List.mem_filter.1 this
        exact absurd ((of_decide_eq_true h2).trans (by rw [g.1])) (g.2 a h1)
  · rw [List.filter_cons_of_neg (by simpa using h)]
    exact ⟨.inl, fun g => by
      rcases g with g | g
      · exact g
      · exact absurd (by rw [g.1]) h⟩
theorem lastOf_mem {l : List Fld} {f : Fld} (h : lastOf l f) : f ∈ l := (List.mem_filter.1 (List.mem_of_getLast? h)).1
theorem lastOf_ss {l : List Fld} (h : SS l) (f : Fld) : lastOf l f ↔ f ∈ l := by
  induction l with
  | nil => exact ⟨fun g => absurd g (lastOf_nil f), fun g => by cases g⟩
  | cons x l ih =>
    obtain ⟨hx, hl⟩ := SS.cons.1 h
    rw [lastOf_cons, ih hl, List.mem_cons]
    exact ⟨fun g => g.elim .inr fun g => .inl g.1, fun g => g.elim (fun g => .inr ⟨g, fun y hy e => by have := hx y hy; unfold nlt at this; rw [e, sCmp_self] at this; omega⟩) .inl⟩
/-- of fields that stand in the order of their names the last of each name -/
def lasts : List Fld → List Fld
  | [] => []
  | [x] => [x]
  | x :: y :: r => bif sEq y.name x.name then lasts (y :: r) else x :: lasts (y :: r)
abbrev cNm (x y : Fld) : Int := sCmp x.name y.name
theorem lasts_mem : ∀ (l : List Fld), Up cNm l → ∀ f, f ∈ lasts l ↔ lastOf l f
  | [], _, f => ⟨fun g => (by cases g), fun g => absurd g (lastOf_nil f)⟩
  | [x], _, f => by
    rw [lastOf_cons]
    simp [lasts, lastOf_nil]
  | x :: y :: r, h, f => by
    have h' := List.pairwise_cons.1 h
    have ih := lasts_mem (y :: r) h'.2 f
    rw [lasts, lastOf_cons]
    cases e : sEq y.name x.name with
    | true =>
      rw [cond_true, ih]
      exact ⟨.inl, fun g => g.elim id fun g => absurd (sEq_iff.1 e) (g.2 y List.mem_cons_self)⟩
    | false =>
      rw [cond_false, List.mem_cons, ih]
      refine ⟨fun g => g.elim (fun g => .inr ⟨g, fun w hw hn => ?_⟩) .inl, fun g => g.elim .inr fun g => .inl g.1⟩
      have e := sEq_ne.1 e
      rcases List.mem_cons.1 hw with rfl | hw
      · exact e hn
      · have h1 := (List.pairwise_cons.1 h'.2).1 w hw
        have h2 := h'.1 y List.mem_cons_self
        unfold le cNm at h1 h2
        rw [hn] at h1
        rcases sCmp_tri x.name y.name with g | g | g
        · exact h1 g
        · exact e g.symm
        · exact h2 g
theorem lasts_sub : ∀ (l : List Fld), (lasts l).Sublist l
  | [] => List.Sublist.slnil
  | [x] => List.Sublist.refl _
  | x :: y :: r => by
    rw [lasts]
    cases sEq y.name x.name with
    | true => exact (lasts_sub (y :: r)).cons x
    | false => exact (lasts_sub (y :: r)).cons_cons x
theorem lasts_ss (l : List Fld) (h : Up cNm l) : SS (lasts l) := by
  induction l with
  | nil => exact SS.nil
  | cons x l ih =>
    cases l with
    | nil => exact SS.cons.2 ⟨fun _ g => (by cases g), SS.nil⟩
    | cons y r =>
      have h' := List.pairwise_cons.1 h
      rw [lasts]
      cases e : sEq y.name x.name with
      | true => exact ih h'.2
      | false =>
        rw [cond_false]
        refine SS.cons.2 ⟨fun w hw => ?_, ih h'.2⟩
        have e := sEq_ne.1 e
        have h2 := h'.1 y List.mem_cons_self
        unfold le cNm at h2
        have hxy : sCmp x.name y.name < 0 := by
          rcases sCmp_tri x.name y.name with g | g | g
          · exact g
          · exact absurd g.symm e
          · exact absurd g h2
        rcases List.mem_cons.1 ((lasts_sub _).mem hw) with rfl | hw
        · exact hxy
        · have h1 := (List.pairwise_cons.1 h'.2).1 w hw
          unfold le cNm at h1
          unfold nlt
          rcases sCmp_tri y.name w.name with g | g | g
          · exact sCmp_tr hxy g
          · rw [← g]; exact hxy
          · exact absurd g h1
theorem eqv_nm (x y : Fld) : Srt.eqv cNm x y = decide (y.name = x.name) := by
  unfold Srt.eqv cNm
  have h1 : (y.name = x.name) ↔ (¬ sCmp x.name y.name < 0 ∧ ¬ sCmp y.name x.name < 0) := by
    constructor
    · intro e; rw [e, sCmp_self]; omega
    · intro ⟨g1, g2⟩
      rcases sCmp_tri x.name y.name with g | g | g
      · exact absurd g g1
      · exact g.symm
      · exact absurd g g2
  rw [← Bool.decide_and]
  exact decide_eq_decide.2 h1.symm
theorem lastOf_F {l r : List Fld} (h : F cNm l r) (f : Fld) : lastOf l f ↔ lastOf r f := by
  have := h.2 f
  unfold lastOf
  rw [show (fun y : Fld => decide (y.name = f.name)) = Srt.eqv cNm f from funext fun y => (eqv_nm f y).symm, this]
/-- of a list the last field of each name, in the order of the names -/
def mapOf (l : List Fld) : List Fld := lasts (isort cNm l)
theorem mapOf_ss (l : List Fld) : SS (mapOf l) := lasts_ss _ (isort_up (tot_sCmp Fld.name) l)
theorem mapOf_mem (l : List Fld) (f : Fld) : f ∈ mapOf l ↔ lastOf l f := by
  unfold mapOf
  rw [lasts_mem _ (isort_up (tot_sCmp Fld.name) l)]
  exact (lastOf_F (isort_F (tot_sCmp Fld.name) l) f).symm
theorem mapOf_of_ss {l : List Fld} (h : SS l) : mapOf l = l := ss_ext (mapOf_ss l) h fun f => by rw [mapOf_mem, lastOf_ss h]
theorem mapOf_eq {l r : List Fld} (h : SS r) (g : ∀ f, f ∈ r ↔ lastOf l f) : mapOf l = r := ss_ext (mapOf_ss l) h fun f => by rw [mapOf_mem, g]
theorem isort_len {α : Type} (c : α → α → Int) (T : Tot c) (l : List α) : (isort c l).length = l.length := (isort_F T l).1.symm
theorem mapOf_len (l : List Fld) : (mapOf l).length ≤ l.length := Nat.le_trans (lasts_sub _).length_le (Nat.le_of_eq (isort_len _ (tot_sCmp Fld.name) l))
theorem mapOf_sub {l : List Fld} {f : Fld} (h : f ∈ mapOf l) : f ∈ l := lastOf_mem ((mapOf_mem l f).1 h)
def insF (x : Fld) : List Fld → List Fld
  | [] => [x]
  | y :: r => if sCmp y.name x.name < 0 then y :: insF x r else if y.name = x.name then x :: r else x :: y :: r
theorem insF_mem {x : Fld} : ∀ {l : List Fld}, SS l → ∀ f, f ∈ insF x l ↔ f = x ∨ (f ∈ l ∧ f.name ≠ x.name)
  | [], _, f => by simp [insF]
  | y :: r, h, f => by
    obtain ⟨hy, hr⟩ := SS.cons.1 h
    rw [insF]
    split
    · rename_i c
      rw [List.mem_cons, insF_mem hr, List.mem_cons]
      have : y.name ≠ x.name := fun e => by rw [e, sCmp_self] at c; omega
      exact ⟨fun g => by
        rcases g with g | g | g
        · subst g; exact .inr ⟨.inl rfl, this⟩
        · exact .inl g
        · exact .inr ⟨.inr g.1, g.2⟩, fun g => by
        rcases g with g | ⟨g | g, g'⟩
        · exact .inr (.inl g)
        · exact .inl g
        · exact .inr (.inr ⟨g, g'⟩)⟩
    · rename_i c
      have ge : ∀ w ∈ r, w.name ≠ x.name := fun w hw e => by
        have := hy w hw
        unfold nlt at this
        rw [e] at this
        exact c this
      split
      · rename_i e
        rw [List.mem_cons, List.mem_cons]
        exact ⟨fun g => g.elim .inl fun g => .inr ⟨.inr g, ge f g⟩, fun g => g.elim .inl fun g => g.1.elim (fun g1 => by subst g1; exact absurd e g.2) .inr⟩
      · rename_i e
        rw [List.mem_cons, List.mem_cons]
        exact ⟨fun g => by
          rcases g with g | g | g
          · exact .inl g
          · subst g; exact .inr ⟨.inl rfl, e⟩
          · exact .inr ⟨.inr g, ge f g⟩, fun g => g.elim .inl fun g => .inr g.1⟩
theorem insF_ss {x : Fld} : ∀ {l : List Fld}, SS l → SS (insF x l)
  | [], _ => SS.cons.2 ⟨fun _ g => (by cases g), SS.nil⟩
  | y :: r, h => by
    obtain ⟨hy, hr⟩ := SS.cons.1 h
    rw [insF]
    split
    · rename_i c
      exact SS.cons.2 ⟨fun w hw => by
        rcases (insF_mem hr w).1 hw with g | g
        · rw [g]; exact c
        · exact hy w g.1, insF_ss hr⟩
    · rename_i c
      split
      · rename_i e
        exact SS.cons.2 ⟨fun w hw => by have := hy w hw; unfold nlt at this ⊢; rw [← e]; exact this, hr⟩
      · rename_i e
        have g : sCmp x.name y.name < 0 := by
          rcases sCmp_tri x.name y.name with g | g | g
          · exact g
          · exact absurd g.symm e
          · exact absurd g c
        exact SS.cons.2 ⟨fun w hw => by
          rcases List.mem_cons.1 hw with e | hw
          · subst e; exact g
          · exact sCmp_tr g (hy w hw), h⟩
theorem mapOf_snoc (l : List Fld) (x : Fld) : mapOf (l ++ [x]) = insF x (mapOf l) :=
  mapOf_eq (insF_ss (mapOf_ss l)) fun f => by rw [insF_mem (mapOf_ss l), mapOf_mem, lastOf_snoc]
end Go.Pv
end

section
/- Fields in plain words: a copy is the value, taking out is filtering, a map keeps the last field of each name; the two programs agree. -/
namespace Go.Proofs.Ytedohmdgbilicaa
open Go.Pv Go.Pv.Srt
theorem count_b0 (p : Val) (d : Int) : ∀ (l : List Val) (i : Nat) (a : Int), a ≤ 400 → (∀ x ∈ l, ∀ n d, n ≤ 400 → 0 ≤ s_Ks x n d → s_Ks x n d < n ∧ Val.Sm 400 x) → 0 ≤ l_Ks_b0 p d l i a → l_Ks_b0 p d l i a + l.length ≤ a ∧ ∀ x ∈ l, Val.Sm 400 x
  | [], i, a, _, _, h => by
    rw [l_Ks_b0] at h ⊢
    exact ⟨by simp, fun _ g => by cases g⟩
  | x :: l, i, a, ha, hx, h => by
    rw [l_Ks_b0] at h ⊢
    by_cases c : 0 ≤ a
    · rw [show decide (0 ≤ a) = true by simpa using c, cond_true] at h ⊢
      have key : 0 ≤ s_Ks x a (w64 (d - 1)) := by
        apply Decidable.byContradiction
        intro hn
        have e : ∀ (l : List Val) (i : Nat) (a : Int), ¬ 0 ≤ a → l_Ks_b0 p d l i a = a := fun l i a hn => by
          cases l with
          | nil => rw [l_Ks_b0]
          | cons y r => rw [l_Ks_b0, show decide (0 ≤ a) = false by simpa using hn, cond_false]
        rw [e _ _ _ hn] at h
        exact hn h
      obtain ⟨h1, h2⟩ := hx x List.mem_cons_self a _ ha key
      obtain ⟨h3, h4⟩ := count_b0 p d l (i + 1) _ (by omega) (fun y hy => hx y (List.mem_cons_of_mem _ hy)) h
      refine ⟨by rw [List.length_cons]; omega, fun y hy => ?_⟩
      rcases List.mem_cons.1 hy with e | hy
      · rw [e]; exact h2
      · exact h4 y hy
    · rw [show decide (0 ≤ a) = false by simpa using c, cond_false] at h
      exact absurd h c
def kC : R_Ks_b1 → Int | .k0 y => y | .k1 => -1
theorem count_b1 (p : Val) (d : Int) : ∀ (l : List Fld) (i : Nat) (a : Int), a ≤ 400 → (∀ x ∈ l, ∀ n d, n ≤ 400 → 0 ≤ s_Ks x.v n d → s_Ks x.v n d < n ∧ Val.Sm 400 x.v) → 0 ≤ kC (l_Ks_b1 p d l i a) → kC (l_Ks_b1 p d l i a) + l.length ≤ a ∧ ∀ x ∈ l, Val.Sm 400 x.v
  | [], i, a, _, _, h => by
    rw [l_Ks_b1] at h ⊢
    exact ⟨by simp [kC], fun _ g => by cases g⟩
  | x :: l, i, a, ha, hx, h => by
    rw [l_Ks_b1] at h ⊢
    by_cases c : 0 ≤ a
    · rw [show decide (0 ≤ a) = true by simpa using c, cond_true] at h ⊢
      cases hs : decide (1000 < (ByteArray.size x.name : Int)) with
      | true => rw [hs, cond_true] at h; exact absurd h (by simp [kC])
      | false =>
        rw [hs, cond_false] at h
        rw [cond_false]
        have key : 0 ≤ s_Ks x.v a (w64 (d - 1)) := by
          apply Decidable.byContradiction
          intro hn
          have e : ∀ (l : List Fld) (i : Nat) (a : Int), ¬ 0 ≤ a → kC (l_Ks_b1 p d l i a) = a := fun l i a hn => by
            cases l with
            | nil => rw [l_Ks_b1]; rfl
            | cons y r => rw [l_Ks_b1, show decide (0 ≤ a) = false by simpa using hn, cond_false]; rfl
          rw [e _ _ _ hn] at h
          exact hn h
        obtain ⟨h1, h2⟩ := hx x List.mem_cons_self a _ ha key
        obtain ⟨h3, h4⟩ := count_b1 p d l (i + 1) _ (by omega) (fun y hy => hx y (List.mem_cons_of_mem _ hy)) h
        refine ⟨by rw [List.length_cons]; omega, fun y hy => ?_⟩
        rcases List.mem_cons.1 hy with e | hy
        · rw [e]; exact h2
        · exact h4 y hy
    · rw [show decide (0 ≤ a) = false by simpa using c, cond_false] at h
      exact absurd h c
theorem count_sm : ∀ v : Val, ∀ n d, n ≤ 400 → 0 ≤ s_Ks v n d → s_Ks v n d < n ∧ Val.Sm 400 v := vind fun v h1 h2 n d hn h => by
  rw [s_Ks] at h ⊢
  cases a1 : decide (n ≤ 0) with
  | true => rw [a1] at h; exact absurd h (by simp)
  | false =>
    rw [a1, cond_false] at h
    rw [cond_false]
    cases a2 : decide (d ≤ 0) with
    | true => rw [a2] at h; exact absurd h (by simp)
    | false =>
      rw [a2, cond_false] at h
      rw [cond_false]
      cases a3 : decide (1000 < (ByteArray.size v.s : Int)) with
      | true => rw [a3] at h; exact absurd h (by simp)
      | false =>
        rw [a3, cond_false] at h
        rw [cond_false]
        have hp : 0 < n := by simpa using a1
        rw [w64_of (by omega)] at h ⊢
        change 0 ≤ kC (l_Ks_b1 v d v.fields 0 (l_Ks_b0 v d v.list 0 (n - 1))) at h
        change kC (l_Ks_b1 v d v.fields 0 (l_Ks_b0 v d v.list 0 (n - 1))) < n ∧ _
        have hb : 0 ≤ l_Ks_b0 v d v.list 0 (n - 1) := by
          apply Decidable.byContradiction
          intro hn'
          have e : ∀ (l : List Fld) (i : Nat) (a : Int), ¬ 0 ≤ a → kC (l_Ks_b1 v d l i a) = a := fun l i a hn => by
            cases l with
            | nil => rw [l_Ks_b1]; rfl
            | cons y r => rw [l_Ks_b1, show decide (0 ≤ a) = false by simpa using hn, cond_false]; rfl
          rw [e _ _ _ hn'] at h
          exact hn' h
        obtain ⟨g1, g2⟩ := count_b0 v d v.list 0 (n - 1) (by omega) (fun x hx => h1 x hx) hb
        obtain ⟨g3, g4⟩ := count_b1 v d v.fields 0 _ (by omega) (fun x hx => h2 x hx) h
        exact ⟨by omega, .mk v (by omega) (by omega) g2 g4⟩
theorem small_sm {v : Val} (h : s_Ka v = true) : Val.Sm 400 v := by
  have h : decide (0 ≤ s_Ks v 400 400) = true := h
  exact (count_sm v 400 400 (by omega) (of_decide_eq_true h)).2
theorem Val.eta (v : Val) : Val.mk v.kind v.n v.s v.list v.fields = v := by cases v; rfl
theorem Fld.eta (f : Fld) : Fld.mk f.name f.v = f := by cases f; rfl
theorem isortN_len (p : List Fld) : (isort cNm p).length = p.length := isort_len _ (tot_sCmp Fld.name) p
def found (v : Val) (n : ByteArray) : Option Fld := bif v.kind == 5 then v.fields.find? (fun f => sEq f.name n) else none
def gotF : Option Fld → Val × Bool
  | some f => (f.v, true)
  | none => (.mk 0 0 ⟨#[]⟩ [] [], false)
theorem vget (v : Val) (n : ByteArray) : s_K1e v n = gotF (found v n) := by
  unfold s_K1e found
  cases v.kind == 5 with
  | false => rfl
  | true =>
    simp only [cond_true]
    have : ∀ (l : List Fld) (i : Nat), (match l_K1e_b0 v n l i with | .k0 => (Val.mk 0 0 ⟨#[]⟩ [] [], false) | .k1 y => (y, true)) = gotF (l.find? fun f => sEq f.name n) := by
      intro l
      induction l with
      | nil => intro i; rfl
      | cons x l ih =>
        intro i
        rw [l_K1e_b0, List.find?_cons]
        cases sEq x.name n with
        | true => rfl
        | false => exact ih (i + 1)
    exact this _ _
def oth (v : Val) (n : ByteArray) : List Fld := bif v.kind == 5 then v.fields.filter (fun f => !sEq f.name n) else []
theorem index_b0 (p : List Fld) (o : ByteArray) : ∀ (l : List Fld) (i : Nat), match l_K11_b0 p o l i with
    | .k0 => ∀ x ∈ l, s_K1s x o = false
    | .k1 q => ∃ A x C, l = A ++ x :: C ∧ (∀ y ∈ A, s_K1s y o = false) ∧ s_K1s x o = true ∧ q = (i : Int) + (A.length : Int)
  | [], i => fun _ h => by cases h
  | x :: l, i => by
    rw [l_K11_b0]
    have ih := index_b0 p o l (i + 1)
    cases h : s_K1s x o with
    | true => exact ⟨[], x, l, rfl, fun _ g => (by cases g), h, by simp⟩
    | false =>
      rw [cond_false]
      cases e : l_K11_b0 p o l (i + 1) with
      | k0 =>
        rw [e] at ih
        intro y hy
        rcases List.mem_cons.1 hy with g | hy
        · rw [g]; exact h
        · exact ih y hy
      | k1 q =>
        rw [e] at ih
        obtain ⟨A, z, C, h1, h2, h3, h4⟩ := ih
        refine ⟨x :: A, z, C, by rw [h1]; rfl, fun y hy => ?_, h3, by rw [h4]; simp; omega⟩
        rcases List.mem_cons.1 hy with g | hy
        · rw [g]; exact h
        · exact h2 y hy
theorem del_b0 (n : Nat) (o : ByteArray) : ∀ (C : List Fld) (k i j : Nat) (v : List Fld), v.length = n → i < j → v.drop j = C → C.length < k →
    (l_K10_b0 n o k i j v).2 = ((i + (C.filter fun f => !s_K1s f o).length : Nat) : Int) ∧
    List.take (i + (C.filter fun f => !s_K1s f o).length) (l_K10_b0 n o k i j v).1 = v.take i ++ C.filter fun f => !s_K1s f o
  | _, 0, _, _, _, _, _, _, hk => absurd hk (Nat.not_lt_zero _)
  | [], k + 1, i, j, v, hl, hij, hd, _ => by
    have : n ≤ j := by have := List.drop_eq_nil_iff.1 hd; omega
    rw [l_K10_b0, show decide ((j : Int) < (n : Int)) = false by simp; omega, cond_false]
    simp
  | x :: C, k + 1, i, j, v, hl, hij, hd, hk => by
    obtain ⟨hx, hj, hd'⟩ := drop_get hd
    have hx' : List.getD v (Int.toNat (j : Int)) (Fld.mk (⟨#[]⟩ : ByteArray) (Val.mk 0 0 (⟨#[]⟩ : ByteArray) [] [])) = x := by rw [Int.toNat_natCast, List.getD_eq_getElem?_getD, hx]; rfl
    rw [l_K10_b0, show decide ((j : Int) < (n : Int)) = true by simp; omega, cond_true, hx']
    simp only [List.length_cons] at hk
    cases h : s_K1s x o with
    | true =>
      rw [cond_true, List.filter_cons_of_neg (by simp [h])]
      exact del_b0 n o C k i (j + 1) v hl (by omega) hd' (by omega)
    | false =>
      rw [cond_false, List.filter_cons_of_pos (by simp [h])]
      have hi : i < v.length := by omega
      have e : (v.set i x).take (i + 1) = v.take i ++ [x] := by
        rw [List.take_add_one, List.getElem?_set_self hi, List.take_set, List.set_eq_of_length_le (by rw [List.length_take]; omega)]
        rfl
      have ih := del_b0 n o C k (i + 1) (j + 1) (v.set i x) (by rw [List.length_set]; exact hl) (by omega) (by rw [List.drop_set_of_lt (by omega)]; exact hd') (by omega)
      rw [e, show i + 1 + (C.filter fun f => !s_K1s f o).length = i + ((x :: C.filter fun f => !s_K1s f o)).length by simp; omega] at ih
      rw [Int.toNat_natCast]
      refine ⟨ih.1, ih.2.trans ?_⟩
      simp
theorem del_eq (l : List Fld) (o : ByteArray) : s_K10 l.length l o = ((l.filter fun f => !sEq f.name o).length, l.filter fun f => !sEq f.name o) := by
  have h := index_b0 l o l 0
  unfold s_K10 s_K11
  cases e : l_K11_b0 l o l 0 with
  | k0 =>
    rw [e] at h
    have : l.filter (fun f => !sEq f.name o) = l := List.filter_eq_self.2 fun x hx => by have := h x hx; unfold s_K1s at this; rw [this]; rfl
    rw [this]
    rfl
  | k1 q =>
    rw [e] at h
    obtain ⟨A, x, C, h1, h2, h3, h4⟩ := h
    have hA : A.filter (fun f => !sEq f.name o) = A := List.filter_eq_self.2 fun x hx => by have := h2 x hx; unfold s_K1s at this; rw [this]; rfl
    have hf : l.filter (fun f => !sEq f.name o) = A ++ C.filter fun f => !sEq f.name o := by
      rw [h1, List.filter_append, List.filter_cons_of_neg (by unfold s_K1s at h3; simp [h3]), hA]
    have hl : l.length = A.length + (C.length + 1) := by rw [h1]; simp
    simp only
    rw [show (q == (-1 : Int)) = false by simp; omega, cond_false]
    have g := del_b0 l.length o C (Int.toNat ((l.length : Int) - (q + 1)) + 1) A.length (A.length + 1) l rfl (by omega) (by rw [h1]; simp) (by omega)
    rw [show (A.length : Int) = q by omega, show ((A.length + 1 : Nat) : Int) = q + 1 by omega] at g
    obtain ⟨g1, g2⟩ := g
    rw [g1, Int.toNat_natCast, g2, hf]
    change (_, _) = _
    rw [show List.take A.length l = A by rw [h1]; simp]
    unfold s_K1s
    simp
theorem voth (v : Val) (n : ByteArray) : s_K1r v n = ((oth v n).length, oth v n) := by
  unfold s_K1r oth
  cases v.kind == 5 with
  | false => rfl
  | true => rw [cond_true, cond_true, del_eq]
theorem map1 : s_K1i = cNm := rfl
theorem sort_is (l : List Fld) : s_K12_f51 l.length l = isort cNm l := by
  have := q_sort_f51 (by rw [map1]; exact tot_sCmp Fld.name) l
  rwa [map1] at this
theorem map_b0 (p : List Fld) : ∀ (r : List Fld) (i : Nat) (a : List Fld), (isort cNm p).drop i = r → l_K1h_b0 p r i a = a ++ lasts r
  | [], i, a, _ => by rw [l_K1h_b0, lasts]; simp
  | [x], i, a, hd => by
    have hl := isortN_len p
    have h := congrArg List.length hd
    rw [List.length_drop, List.length_singleton] at h
    rw [l_K1h_b0, show (((i + 1 : Nat) : Int) == (List.length p : Int)) = true by simp; omega, cond_true, l_K1h_b0]
    rfl
  | x :: y :: r, i, a, hd => by
    have hl := isortN_len p
    have h := congrArg List.length hd
    rw [List.length_drop, List.length_cons, List.length_cons] at h
    obtain ⟨_, _, hd'⟩ := drop_get hd
    obtain ⟨hy, _, _⟩ := drop_get hd'
    rw [l_K1h_b0, show (((i + 1 : Nat) : Int) == (List.length p : Int)) = false by simp; omega, cond_false, sort_is, Int.toNat_natCast, List.getD_eq_getElem?_getD, hy, Option.getD_some, lasts]
    cases sEq y.name x.name with
    | true => rw [cond_true, cond_true, map_b0 p (y :: r) (i + 1) a hd']
    | false => rw [cond_false, cond_false, map_b0 p (y :: r) (i + 1) _ hd']; simp
theorem vmap_fields (p : List Fld) : l_K1h_b0 p (s_K12_f51 p.length p) 0 [] = mapOf p := by
  rw [map_b0 p _ 0 [] (by rw [sort_is]; rfl), sort_is]
  rfl
theorem vmap (p : List Fld) : s_K1h p = .mk 5 0 ⟨#[]⟩ [] (mapOf p) := by
  unfold s_K1h
  rw [vmap_fields]
/-- a map of fields -/
abbrev mp (l : List Fld) : Val := .mk 5 0 ⟨#[]⟩ [] (mapOf l)
theorem vwith (v : Val) (n : ByteArray) (x : Val) : s_K1n v n x = mp (oth v n ++ [.mk n x]) := by
  unfold s_K1n
  rw [voth, vmap, List.take_length]
theorem vwithout (v : Val) (n : ByteArray) : s_K1o v n = bif v.kind == 5 then mp (oth v n) else v := by
  unfold s_K1o
  rw [voth, vmap]
theorem requal_self (v : Val) : s_Kf v v = true := by rw [requal_eq, equal_iff, cmp_self]; rfl
theorem Sm_mp {B : Nat} {l : List Fld} (hl : l.length ≤ B) (h : ∀ f ∈ l, Val.Sm B f.v) : Val.Sm B (mp l) :=
  .mk _ (Nat.zero_le _) (Nat.le_trans (mapOf_len l) hl) (fun _ g => by cases g) fun f hf => h f (mapOf_sub hf)
theorem HvMap {l : List Fld} (hl : l.length ≤ 1000) (h : ∀ f ∈ l, Val.Sm 1000 f.v) : H_K1h l := by
  refine ⟨by omega, by omega, ⟨?_, trivial⟩, ?_, trivial⟩
  · rw [sort_is, isortN_len]
    omega
  · rw [vmap_fields]
    exact Sm_mp hl h
theorem oth_sub {v : Val} {n : ByteArray} {f : Fld} (h : f ∈ oth v n) : f ∈ v.fields := by
  unfold oth at h
  cases e : v.kind == 5 with
  | true => rw [e] at h; exact (List.mem_filter.1 h).1
  | false => rw [e] at h; cases h
theorem oth_len (v : Val) (n : ByteArray) : (oth v n).length ≤ v.fields.length := by
  unfold oth
  cases v.kind == 5 with
  | true => exact List.length_filter_le _ _
  | false => exact Nat.zero_le _
theorem Hvoth {v : Val} (h : Val.Sm 999 v) (n : ByteArray) : H_K1r v n := by
  have := h.all.2.1
  exact ⟨by omega, fun _ => by omega, ⟨⟨⟨by omega, trivial⟩, trivial⟩, trivial⟩, trivial⟩
theorem sm_snoc {v : Val} (h : Val.Sm 999 v) (n : ByteArray) {x : Val} (hx : Val.Sm 1000 x) : (oth v n ++ [Fld.mk n x]).length ≤ 1000 ∧ ∀ f ∈ oth v n ++ [Fld.mk n x], Val.Sm 1000 f.v := by
  have h1 := h.all
  have h2 := oth_len v n
  refine ⟨by simp; omega, fun f hf => ?_⟩
  rcases List.mem_append.1 hf with g | g
  · exact (h1.2.2.2 f (oth_sub g)).mono (by omega)
  · rw [List.mem_singleton.1 g]
    exact hx
theorem sm_oth {v : Val} (h : Val.Sm 999 v) (n : ByteArray) : (oth v n).length ≤ 1000 ∧ ∀ f ∈ oth v n, Val.Sm 1000 f.v := by
  have h1 := h.all
  have h2 := oth_len v n
  exact ⟨by omega, fun f hf => (h1.2.2.2 f (oth_sub hf)).mono (by omega)⟩
theorem HvWith {v : Val} (h : Val.Sm 999 v) (n : ByteArray) {x : Val} (hx : Val.Sm 1000 x) : H_K1n v n x := by
  have h2 := oth_len v n
  have h3 := h.all.2.1
  refine ⟨Hvoth h n, ?_, ?_, ?_, trivial⟩
  · rw [voth]; exact Nat.le_refl _
  · rw [voth]; simp only; omega
  · rw [voth, List.take_length]; exact HvMap (sm_snoc h n hx).1 (sm_snoc h n hx).2
theorem HvWithout {v : Val} (h : Val.Sm 999 v) (n : ByteArray) : H_K1o v n := by
  refine ⟨Hvoth h n, fun _ => by rw [voth], ?_, h.mono (by omega), trivial⟩
  rw [voth]; exact HvMap (sm_oth h n).1 (sm_oth h n).2
theorem HvGet {v : Val} (h : Val.Sm 1000 v) (n : ByteArray) : H_K1e v n := ⟨⟨by have := h.all.2.1; omega, h.all.2.2.2, trivial⟩, trivial⟩
theorem sm_got {v : Val} {B : Nat} (h : Val.Sm B v) (n : ByteArray) : Val.Sm B (gotF (found v n)).1 := by
  unfold found
  cases v.kind == 5 with
  | false => exact Val.Sm.leaf _ _ _
  | true =>
    rw [cond_true]
    cases e : v.fields.find? fun f => sEq f.name n with
    | none => exact Val.Sm.leaf _ _ _
    | some f => exact h.all.2.2.2 f (List.mem_of_find?_eq_some e)
theorem Heq {v : Val} {B : Nat} (h : Val.Sm B v) (hB : B ≤ 4611686018427387904) (w : Val) : H_Kf v w := ⟨h.mono hB, trivial⟩
end Go.Proofs.Ytedohmdgbilicaa
end

section
/- What the law ValueFields computes (printed by a program). -/
namespace Go.Proofs.Ytedohmdgbilicaa
open Go.Pv
end Go.Proofs.Ytedohmdgbilicaa
end

section
/- What the law ValueMaps computes (printed by a program). -/
namespace Go.Proofs.Ytedohmdgbilicaa
open Go.Pv
def s_K6 (p0 : Val) (p1 : ByteArray) (p2 : ByteArray) (p3 : Val) : Bool :=
  bif (s_Ka p0) then
    bif (s_Ka p3) then
      bif (decide (200 < (ByteArray.size p1 : Int))) then
        true
      else
        bif (decide (200 < (ByteArray.size p2 : Int))) then
          true
        else
          bif (s_K1m p0) then
            bif (p0.kind == 5) then
              bif (s_K1e (s_K1n p0 p1 p3) p1).2 then
                bif (s_Kf (s_K1e (s_K1n p0 p1 p3) p1).1 p3) then
                  bif (s_Kf (s_K1o (s_K1n p0 p1 p3) p1) (s_K1o p0 p1)) then
                    bif (s_K1e (s_K1o p0 p1) p1).2 then
                      false
                    else
                      bif (s_K1e p0 p1).2 then
                        bif (s_Kf (s_K1n p0 p1 (s_K1e p0 p1).1) p0) then
                          bif (sEq p2 p1) then
                            true
                          else
                            bif ((s_K1e p0 p2).2 == (s_K1e (s_K1n p0 p1 p3) p2).2) then
                              bif (s_Kf (s_K1e p0 p2).1 (s_K1e (s_K1n p0 p1 p3) p2).1) then
                                true
                              else
                                false
                            else
                              false
                        else
                          false
                      else
                        bif (sEq p2 p1) then
                          true
                        else
                          bif ((s_K1e p0 p2).2 == (s_K1e (s_K1n p0 p1 p3) p2).2) then
                            bif (s_Kf (s_K1e p0 p2).1 (s_K1e (s_K1n p0 p1 p3) p2).1) then
                              true
                            else
                              false
                          else
                            false
                  else
                    false
                else
                  false
              else
                false
            else
              true
          else
            true
    else
      true
  else
    true
def c_K6 (p0 : Val) (p1 : ByteArray) (p2 : ByteArray) (p3 : Val) : En := .call 8 [.agg (Val.cells p0), .str p1, .str p2, .agg (Val.cells p3)] []
def a_K6 (p0 : Val) (p1 : ByteArray) (p2 : ByteArray) (p3 : Val) : Rs := .ret (.bool (s_K6 p0 p1 p2 p3)) []
def H_K6 (p0 : Val) (p1 : ByteArray) (p2 : ByteArray) (p3 : Val) : Prop := (H_Ka p0) ∧ ((s_Ka p0) = true → H_Ka p3) ∧ ((s_Ka p0) = true → (s_Ka p3) = true → (decide (200 < (ByteArray.size p1 : Int))) = false → (decide (200 < (ByteArray.size p2 : Int))) = false → H_K1m p0) ∧ ((s_Ka p0) = true → (s_Ka p3) = true → (decide (200 < (ByteArray.size p1 : Int))) = false → (decide (200 < (ByteArray.size p2 : Int))) = false → (s_K1m p0) = true → (p0.kind == 5) = true → H_K1n p0 p1 p3) ∧ ((s_Ka p0) = true → (s_Ka p3) = true → (decide (200 < (ByteArray.size p1 : Int))) = false → (decide (200 < (ByteArray.size p2 : Int))) = false → (s_K1m p0) = true → (p0.kind == 5) = true → H_K1e (s_K1n p0 p1 p3) p1) ∧ ((s_Ka p0) = true → (s_Ka p3) = true → (decide (200 < (ByteArray.size p1 : Int))) = false → (decide (200 < (ByteArray.size p2 : Int))) = false → (s_K1m p0) = true → (p0.kind == 5) = true → (s_K1e (s_K1n p0 p1 p3) p1).2 = true → H_Kf (s_K1e (s_K1n p0 p1 p3) p1).1 p3) ∧ ((s_Ka p0) = true → (s_Ka p3) = true → (decide (200 < (ByteArray.size p1 : Int))) = false → (decide (200 < (ByteArray.size p2 : Int))) = false → (s_K1m p0) = true → (p0.kind == 5) = true → (s_K1e (s_K1n p0 p1 p3) p1).2 = true → (s_Kf (s_K1e (s_K1n p0 p1 p3) p1).1 p3) = true → H_K1o (s_K1n p0 p1 p3) p1) ∧ ((s_Ka p0) = true → (s_Ka p3) = true → (decide (200 < (ByteArray.size p1 : Int))) = false → (decide (200 < (ByteArray.size p2 : Int))) = false → (s_K1m p0) = true → (p0.kind == 5) = true → (s_K1e (s_K1n p0 p1 p3) p1).2 = true → (s_Kf (s_K1e (s_K1n p0 p1 p3) p1).1 p3) = true → H_K1o p0 p1) ∧ ((s_Ka p0) = true → (s_Ka p3) = true → (decide (200 < (ByteArray.size p1 : Int))) = false → (decide (200 < (ByteArray.size p2 : Int))) = false → (s_K1m p0) = true → (p0.kind == 5) = true → (s_K1e (s_K1n p0 p1 p3) p1).2 = true → (s_Kf (s_K1e (s_K1n p0 p1 p3) p1).1 p3) = true → H_Kf (s_K1o (s_K1n p0 p1 p3) p1) (s_K1o p0 p1)) ∧ ((s_Ka p0) = true → (s_Ka p3) = true → (decide (200 < (ByteArray.size p1 : Int))) = false → (decide (200 < (ByteArray.size p2 : Int))) = false → (s_K1m p0) = true → (p0.kind == 5) = true → (s_K1e (s_K1n p0 p1 p3) p1).2 = true → (s_Kf (s_K1e (s_K1n p0 p1 p3) p1).1 p3) = true → (s_Kf (s_K1o (s_K1n p0 p1 p3) p1) (s_K1o p0 p1)) = true → H_K1o p0 p1) ∧ ((s_Ka p0) = true → (s_Ka p3) = true → (decide (200 < (ByteArray.size p1 : Int))) = false → (decide (200 < (ByteArray.size p2 : Int))) = false → (s_K1m p0) = true → (p0.kind == 5) = true → (s_K1e (s_K1n p0 p1 p3) p1).2 = true → (s_Kf (s_K1e (s_K1n p0 p1 p3) p1).1 p3) = true → (s_Kf (s_K1o (s_K1n p0 p1 p3) p1) (s_K1o p0 p1)) = true → H_K1e (s_K1o p0 p1) p1) ∧ ((s_Ka p0) = true → (s_Ka p3) = true → (decide (200 < (ByteArray.size p1 : Int))) = false → (decide (200 < (ByteArray.size p2 : Int))) = false → (s_K1m p0) = true → (p0.kind == 5) = true → (s_K1e (s_K1n p0 p1 p3) p1).2 = true → (s_Kf (s_K1e (s_K1n p0 p1 p3) p1).1 p3) = true → (s_Kf (s_K1o (s_K1n p0 p1 p3) p1) (s_K1o p0 p1)) = true → (s_K1e (s_K1o p0 p1) p1).2 = false → H_K1e p0 p1) ∧ ((s_Ka p0) = true → (s_Ka p3) = true → (decide (200 < (ByteArray.size p1 : Int))) = false → (decide (200 < (ByteArray.size p2 : Int))) = false → (s_K1m p0) = true → (p0.kind == 5) = true → (s_K1e (s_K1n p0 p1 p3) p1).2 = true → (s_Kf (s_K1e (s_K1n p0 p1 p3) p1).1 p3) = true → (s_Kf (s_K1o (s_K1n p0 p1 p3) p1) (s_K1o p0 p1)) = true → (s_K1e (s_K1o p0 p1) p1).2 = false → (s_K1e p0 p1).2 = true → H_K1n p0 p1 (s_K1e p0 p1).1) ∧ ((s_Ka p0) = true → (s_Ka p3) = true → (decide (200 < (ByteArray.size p1 : Int))) = false → (decide (200 < (ByteArray.size p2 : Int))) = false → (s_K1m p0) = true → (p0.kind == 5) = true → (s_K1e (s_K1n p0 p1 p3) p1).2 = true → (s_Kf (s_K1e (s_K1n p0 p1 p3) p1).1 p3) = true → (s_Kf (s_K1o (s_K1n p0 p1 p3) p1) (s_K1o p0 p1)) = true → (s_K1e (s_K1o p0 p1) p1).2 = false → (s_K1e p0 p1).2 = true → H_Kf (s_K1n p0 p1 (s_K1e p0 p1).1) p0) ∧ ((s_Ka p0) = true → (s_Ka p3) = true → (decide (200 < (ByteArray.size p1 : Int))) = false → (decide (200 < (ByteArray.size p2 : Int))) = false → (s_K1m p0) = true → (p0.kind == 5) = true → (s_K1e (s_K1n p0 p1 p3) p1).2 = true → (s_Kf (s_K1e (s_K1n p0 p1 p3) p1).1 p3) = true → (s_Kf (s_K1o (s_K1n p0 p1 p3) p1) (s_K1o p0 p1)) = true → (s_K1e (s_K1o p0 p1) p1).2 = false → (s_K1e p0 p1).2 = true → (s_Kf (s_K1n p0 p1 (s_K1e p0 p1).1) p0) = true → H_K1e p0 p2) ∧ ((s_Ka p0) = true → (s_Ka p3) = true → (decide (200 < (ByteArray.size p1 : Int))) = false → (decide (200 < (ByteArray.size p2 : Int))) = false → (s_K1m p0) = true → (p0.kind == 5) = true → (s_K1e (s_K1n p0 p1 p3) p1).2 = true → (s_Kf (s_K1e (s_K1n p0 p1 p3) p1).1 p3) = true → (s_Kf (s_K1o (s_K1n p0 p1 p3) p1) (s_K1o p0 p1)) = true → (s_K1e (s_K1o p0 p1) p1).2 = false → (s_K1e p0 p1).2 = true → (s_Kf (s_K1n p0 p1 (s_K1e p0 p1).1) p0) = true → H_K1e (s_K1n p0 p1 p3) p2) ∧ ((s_Ka p0) = true → (s_Ka p3) = true → (decide (200 < (ByteArray.size p1 : Int))) = false → (decide (200 < (ByteArray.size p2 : Int))) = false → (s_K1m p0) = true → (p0.kind == 5) = true → (s_K1e (s_K1n p0 p1 p3) p1).2 = true → (s_Kf (s_K1e (s_K1n p0 p1 p3) p1).1 p3) = true → (s_Kf (s_K1o (s_K1n p0 p1 p3) p1) (s_K1o p0 p1)) = true → (s_K1e (s_K1o p0 p1) p1).2 = false → (s_K1e p0 p1).2 = true → (s_Kf (s_K1n p0 p1 (s_K1e p0 p1).1) p0) = true → (sEq p2 p1) = false → ((s_K1e p0 p2).2 == (s_K1e (s_K1n p0 p1 p3) p2).2) = true → H_Kf (s_K1e p0 p2).1 (s_K1e (s_K1n p0 p1 p3) p2).1) ∧ ((s_Ka p0) = true → (s_Ka p3) = true → (decide (200 < (ByteArray.size p1 : Int))) = false → (decide (200 < (ByteArray.size p2 : Int))) = false → (s_K1m p0) = true → (p0.kind == 5) = true → (s_K1e (s_K1n p0 p1 p3) p1).2 = true → (s_Kf (s_K1e (s_K1n p0 p1 p3) p1).1 p3) = true → (s_Kf (s_K1o (s_K1n p0 p1 p3) p1) (s_K1o p0 p1)) = true → (s_K1e (s_K1o p0 p1) p1).2 = false → (s_K1e p0 p1).2 = false → H_K1e p0 p2) ∧ ((s_Ka p0) = true → (s_Ka p3) = true → (decide (200 < (ByteArray.size p1 : Int))) = false → (decide (200 < (ByteArray.size p2 : Int))) = false → (s_K1m p0) = true → (p0.kind == 5) = true → (s_K1e (s_K1n p0 p1 p3) p1).2 = true → (s_Kf (s_K1e (s_K1n p0 p1 p3) p1).1 p3) = true → (s_Kf (s_K1o (s_K1n p0 p1 p3) p1) (s_K1o p0 p1)) = true → (s_K1e (s_K1o p0 p1) p1).2 = false → (s_K1e p0 p1).2 = false → H_K1e (s_K1n p0 p1 p3) p2) ∧ ((s_Ka p0) = true → (s_Ka p3) = true → (decide (200 < (ByteArray.size p1 : Int))) = false → (decide (200 < (ByteArray.size p2 : Int))) = false → (s_K1m p0) = true → (p0.kind == 5) = true → (s_K1e (s_K1n p0 p1 p3) p1).2 = true → (s_Kf (s_K1e (s_K1n p0 p1 p3) p1).1 p3) = true → (s_Kf (s_K1o (s_K1n p0 p1 p3) p1) (s_K1o p0 p1)) = true → (s_K1e (s_K1o p0 p1) p1).2 = false → (s_K1e p0 p1).2 = false → (sEq p2 p1) = false → ((s_K1e p0 p2).2 == (s_K1e (s_K1n p0 p1 p3) p2).2) = true → H_Kf (s_K1e p0 p2).1 (s_K1e (s_K1n p0 p1 p3) p2).1) ∧ True
theorem t_K6_0 (p0 : Val) (p1 : ByteArray) (p2 : ByteArray) (p3 : Val) (H : H_K6 p0 p1 p2 p3) (h0 : (s_Ka p0) = true) (h1 : (s_Ka p3) = true) (h2 : (decide (200 < (ByteArray.size p1 : Int))) = true) : Tells G (c_K6 p0 p1 p2 p3) (.ret (.bool (true)) []) := by
  exact tells_VI (fn := Ir.K6) rfl VOK.nil [hB 14 h2] [aB (t_Ka p0 (H.1)) h0, aB (t_Ka p3 (H.2.1 h0)) h1, aN t_K9] (by kernel_rfl)
theorem t_K6_1 (p0 : Val) (p1 : ByteArray) (p2 : ByteArray) (p3 : Val) (H : H_K6 p0 p1 p2 p3) (h0 : (s_Ka p0) = true) (h1 : (s_Ka p3) = true) (h2 : (decide (200 < (ByteArray.size p1 : Int))) = false) (h3 : (decide (200 < (ByteArray.size p2 : Int))) = true) : Tells G (c_K6 p0 p1 p2 p3) (.ret (.bool (true)) []) := by
  exact tells_VI (fn := Ir.K6) rfl VOK.nil [hB 14 h2, hB 4 h3] [aB (t_Ka p0 (H.1)) h0, aB (t_Ka p3 (H.2.1 h0)) h1, aN t_K9] (by kernel_rfl)
theorem t_K6_2 (p0 : Val) (p1 : ByteArray) (p2 : ByteArray) (p3 : Val) (H : H_K6 p0 p1 p2 p3) (h0 : (s_Ka p0) = true) (h1 : (s_Ka p3) = true) (h2 : (decide (200 < (ByteArray.size p1 : Int))) = false) (h3 : (decide (200 < (ByteArray.size p2 : Int))) = false) (h4 : (s_K1m p0) = true) (h5 : (p0.kind == 5) = true) (h6 : (s_K1e (s_K1n p0 p1 p3) p1).2 = true) (h7 : (s_Kf (s_K1e (s_K1n p0 p1 p3) p1).1 p3) = true) (h8 : (s_Kf (s_K1o (s_K1n p0 p1 p3) p1) (s_K1o p0 p1)) = true) (h9 : (s_K1e (s_K1o p0 p1) p1).2 = true) : Tells G (c_K6 p0 p1 p2 p3) (.ret (.bool (false)) []) := by
  exact tells_VI (fn := Ir.K6) rfl VOK.nil [hB 14 h2, hB 4 h3, hP 9 (dec (!(p0.kind == 5)) false (by rw [h5]; rfl)), hB 12 h6, hB 28 h9] [aB (t_Ka p0 (H.1)) h0, aB (t_Ka p3 (H.2.1 h0)) h1, aB (t_K1m p0 (H.2.2.1 h0 h1 h2 h3)) h4, aN (t_K1n p0 p1 p3 (H.2.2.2.1 h0 h1 h2 h3 h4 h5)), aN (t_K1e (s_K1n p0 p1 p3) p1 (H.2.2.2.2.1 h0 h1 h2 h3 h4 h5)), aB (t_Kf (s_K1e (s_K1n p0 p1 p3) p1).1 p3 (H.2.2.2.2.2.1 h0 h1 h2 h3 h4 h5 h6)) h7, aN (t_K1o (s_K1n p0 p1 p3) p1 (H.2.2.2.2.2.2.1 h0 h1 h2 h3 h4 h5 h6 h7)), aN (t_K1o p0 p1 (H.2.2.2.2.2.2.2.1 h0 h1 h2 h3 h4 h5 h6 h7)), aB (t_Kf (s_K1o (s_K1n p0 p1 p3) p1) (s_K1o p0 p1) (H.2.2.2.2.2.2.2.2.1 h0 h1 h2 h3 h4 h5 h6 h7)) h8, aN (t_K1o p0 p1 (H.2.2.2.2.2.2.2.2.2.1 h0 h1 h2 h3 h4 h5 h6 h7 h8)), aN (t_K1e (s_K1o p0 p1) p1 (H.2.2.2.2.2.2.2.2.2.2.1 h0 h1 h2 h3 h4 h5 h6 h7 h8))] (by kernel_rfl)
theorem t_K6_3 (p0 : Val) (p1 : ByteArray) (p2 : ByteArray) (p3 : Val) (H : H_K6 p0 p1 p2 p3) (h0 : (s_Ka p0) = true) (h1 : (s_Ka p3) = true) (h2 : (decide (200 < (ByteArray.size p1 : Int))) = false) (h3 : (decide (200 < (ByteArray.size p2 : Int))) = false) (h4 : (s_K1m p0) = true) (h5 : (p0.kind == 5) = true) (h6 : (s_K1e (s_K1n p0 p1 p3) p1).2 = true) (h7 : (s_Kf (s_K1e (s_K1n p0 p1 p3) p1).1 p3) = true) (h8 : (s_Kf (s_K1o (s_K1n p0 p1 p3) p1) (s_K1o p0 p1)) = true) (h9 : (s_K1e (s_K1o p0 p1) p1).2 = false) (h10 : (s_K1e p0 p1).2 = true) : Tells G (c_K6 p0 p1 p2 p3) (.ret (.bool (bif (s_Kf (s_K1n p0 p1 (s_K1e p0 p1).1) p0) then
    bif (sEq p2 p1) then
      true
    else
      bif ((s_K1e p0 p2).2 == (s_K1e (s_K1n p0 p1 p3) p2).2) then
        bif (s_Kf (s_K1e p0 p2).1 (s_K1e (s_K1n p0 p1 p3) p2).1) then
          true
        else
          false
      else
        false
  else
    false)) []) := by
  cases h11 : (s_Kf (s_K1n p0 p1 (s_K1e p0 p1).1) p0) with
  | true =>
   cases h12 : (sEq p2 p1) with
   | true =>
    exact tells_VI (fn := Ir.K6) rfl VOK.nil [hB 14 h2, hB 4 h3, hP 9 (dec (!(p0.kind == 5)) false (by rw [h5]; rfl)), hB 12 h6, hB 28 h9, hB 9 h10, hB 33 h12] [aB (t_Ka p0 (H.1)) h0, aB (t_Ka p3 (H.2.1 h0)) h1, aB (t_K1m p0 (H.2.2.1 h0 h1 h2 h3)) h4, aN (t_K1n p0 p1 p3 (H.2.2.2.1 h0 h1 h2 h3 h4 h5)), aN (t_K1e (s_K1n p0 p1 p3) p1 (H.2.2.2.2.1 h0 h1 h2 h3 h4 h5)), aB (t_Kf (s_K1e (s_K1n p0 p1 p3) p1).1 p3 (H.2.2.2.2.2.1 h0 h1 h2 h3 h4 h5 h6)) h7, aN (t_K1o (s_K1n p0 p1 p3) p1 (H.2.2.2.2.2.2.1 h0 h1 h2 h3 h4 h5 h6 h7)), aN (t_K1o p0 p1 (H.2.2.2.2.2.2.2.1 h0 h1 h2 h3 h4 h5 h6 h7)), aB (t_Kf (s_K1o (s_K1n p0 p1 p3) p1) (s_K1o p0 p1) (H.2.2.2.2.2.2.2.2.1 h0 h1 h2 h3 h4 h5 h6 h7)) h8, aN (t_K1o p0 p1 (H.2.2.2.2.2.2.2.2.2.1 h0 h1 h2 h3 h4 h5 h6 h7 h8)), aN (t_K1e (s_K1o p0 p1) p1 (H.2.2.2.2.2.2.2.2.2.2.1 h0 h1 h2 h3 h4 h5 h6 h7 h8)), aN (t_K1e p0 p1 (H.2.2.2.2.2.2.2.2.2.2.2.1 h0 h1 h2 h3 h4 h5 h6 h7 h8 h9)), aN (t_K1n p0 p1 (s_K1e p0 p1).1 (H.2.2.2.2.2.2.2.2.2.2.2.2.1 h0 h1 h2 h3 h4 h5 h6 h7 h8 h9 h10)), aB (t_Kf (s_K1n p0 p1 (s_K1e p0 p1).1) p0 (H.2.2.2.2.2.2.2.2.2.2.2.2.2.1 h0 h1 h2 h3 h4 h5 h6 h7 h8 h9 h10)) h11, aN (t_K1e p0 p2 (H.2.2.2.2.2.2.2.2.2.2.2.2.2.2.1 h0 h1 h2 h3 h4 h5 h6 h7 h8 h9 h10 h11)), aN (t_K1e (s_K1n p0 p1 p3) p2 (H.2.2.2.2.2.2.2.2.2.2.2.2.2.2.2.1 h0 h1 h2 h3 h4 h5 h6 h7 h8 h9 h10 h11)), aN t_K9] (by kernel_rfl)
   | false =>
    cases h13 : ((s_K1e p0 p2).2 == (s_K1e (s_K1n p0 p1 p3) p2).2) with
    | true =>
     cases h14 : (s_Kf (s_K1e p0 p2).1 (s_K1e (s_K1n p0 p1 p3) p2).1) with
     | true =>
      exact tells_VI (fn := Ir.K6) rfl VOK.nil [hB 14 h2, hB 4 h3, hP 9 (dec (!(p0.kind == 5)) false (by rw [h5]; rfl)), hB 12 h6, hB 28 h9, hB 9 h10, hB 33 h12, hB 3 h13] [aB (t_Ka p0 (H.1)) h0, aB (t_Ka p3 (H.2.1 h0)) h1, aB (t_K1m p0 (H.2.2.1 h0 h1 h2 h3)) h4, aN (t_K1n p0 p1 p3 (H.2.2.2.1 h0 h1 h2 h3 h4 h5)), aN (t_K1e (s_K1n p0 p1 p3) p1 (H.2.2.2.2.1 h0 h1 h2 h3 h4 h5)), aB (t_Kf (s_K1e (s_K1n p0 p1 p3) p1).1 p3 (H.2.2.2.2.2.1 h0 h1 h2 h3 h4 h5 h6)) h7, aN (t_K1o (s_K1n p0 p1 p3) p1 (H.2.2.2.2.2.2.1 h0 h1 h2 h3 h4 h5 h6 h7)), aN (t_K1o p0 p1 (H.2.2.2.2.2.2.2.1 h0 h1 h2 h3 h4 h5 h6 h7)), aB (t_Kf (s_K1o (s_K1n p0 p1 p3) p1) (s_K1o p0 p1) (H.2.2.2.2.2.2.2.2.1 h0 h1 h2 h3 h4 h5 h6 h7)) h8, aN (t_K1o p0 p1 (H.2.2.2.2.2.2.2.2.2.1 h0 h1 h2 h3 h4 h5 h6 h7 h8)), aN (t_K1e (s_K1o p0 p1) p1 (H.2.2.2.2.2.2.2.2.2.2.1 h0 h1 h2 h3 h4 h5 h6 h7 h8)), aN (t_K1e p0 p1 (H.2.2.2.2.2.2.2.2.2.2.2.1 h0 h1 h2 h3 h4 h5 h6 h7 h8 h9)), aN (t_K1n p0 p1 (s_K1e p0 p1).1 (H.2.2.2.2.2.2.2.2.2.2.2.2.1 h0 h1 h2 h3 h4 h5 h6 h7 h8 h9 h10)), aB (t_Kf (s_K1n p0 p1 (s_K1e p0 p1).1) p0 (H.2.2.2.2.2.2.2.2.2.2.2.2.2.1 h0 h1 h2 h3 h4 h5 h6 h7 h8 h9 h10)) h11, aN (t_K1e p0 p2 (H.2.2.2.2.2.2.2.2.2.2.2.2.2.2.1 h0 h1 h2 h3 h4 h5 h6 h7 h8 h9 h10 h11)), aN (t_K1e (s_K1n p0 p1 p3) p2 (H.2.2.2.2.2.2.2.2.2.2.2.2.2.2.2.1 h0 h1 h2 h3 h4 h5 h6 h7 h8 h9 h10 h11)), aB (t_Kf (s_K1e p0 p2).1 (s_K1e (s_K1n p0 p1 p3) p2).1 (H.2.2.2.2.2.2.2.2.2.2.2.2.2.2.2.2.1 h0 h1 h2 h3 h4 h5 h6 h7 h8 h9 h10 h11 h12 h13)) h14, aN t_K9] (by kernel_rfl)
     | false =>
      exact tells_VI (fn := Ir.K6) rfl VOK.nil [hB 14 h2, hB 4 h3, hP 9 (dec (!(p0.kind == 5)) false (by rw [h5]; rfl)), hB 12 h6, hB 28 h9, hB 9 h10, hB 33 h12, hB 3 h13] [aB (t_Ka p0 (H.1)) h0, aB (t_Ka p3 (H.2.1 h0)) h1, aB (t_K1m p0 (H.2.2.1 h0 h1 h2 h3)) h4, aN (t_K1n p0 p1 p3 (H.2.2.2.1 h0 h1 h2 h3 h4 h5)), aN (t_K1e (s_K1n p0 p1 p3) p1 (H.2.2.2.2.1 h0 h1 h2 h3 h4 h5)), aB (t_Kf (s_K1e (s_K1n p0 p1 p3) p1).1 p3 (H.2.2.2.2.2.1 h0 h1 h2 h3 h4 h5 h6)) h7, aN (t_K1o (s_K1n p0 p1 p3) p1 (H.2.2.2.2.2.2.1 h0 h1 h2 h3 h4 h5 h6 h7)), aN (t_K1o p0 p1 (H.2.2.2.2.2.2.2.1 h0 h1 h2 h3 h4 h5 h6 h7)), aB (t_Kf (s_K1o (s_K1n p0 p1 p3) p1) (s_K1o p0 p1) (H.2.2.2.2.2.2.2.2.1 h0 h1 h2 h3 h4 h5 h6 h7)) h8, aN (t_K1o p0 p1 (H.2.2.2.2.2.2.2.2.2.1 h0 h1 h2 h3 h4 h5 h6 h7 h8)), aN (t_K1e (s_K1o p0 p1) p1 (H.2.2.2.2.2.2.2.2.2.2.1 h0 h1 h2 h3 h4 h5 h6 h7 h8)), aN (t_K1e p0 p1 (H.2.2.2.2.2.2.2.2.2.2.2.1 h0 h1 h2 h3 h4 h5 h6 h7 h8 h9)), aN (t_K1n p0 p1 (s_K1e p0 p1).1 (H.2.2.2.2.2.2.2.2.2.2.2.2.1 h0 h1 h2 h3 h4 h5 h6 h7 h8 h9 h10)), aB (t_Kf (s_K1n p0 p1 (s_K1e p0 p1).1) p0 (H.2.2.2.2.2.2.2.2.2.2.2.2.2.1 h0 h1 h2 h3 h4 h5 h6 h7 h8 h9 h10)) h11, aN (t_K1e p0 p2 (H.2.2.2.2.2.2.2.2.2.2.2.2.2.2.1 h0 h1 h2 h3 h4 h5 h6 h7 h8 h9 h10 h11)), aN (t_K1e (s_K1n p0 p1 p3) p2 (H.2.2.2.2.2.2.2.2.2.2.2.2.2.2.2.1 h0 h1 h2 h3 h4 h5 h6 h7 h8 h9 h10 h11)), aB (t_Kf (s_K1e p0 p2).1 (s_K1e (s_K1n p0 p1 p3) p2).1 (H.2.2.2.2.2.2.2.2.2.2.2.2.2.2.2.2.1 h0 h1 h2 h3 h4 h5 h6 h7 h8 h9 h10 h11 h12 h13)) h14] (by kernel_rfl)
    | false =>
     exact tells_VI (fn := Ir.K6) rfl VOK.nil [hB 14 h2, hB 4 h3, hP 9 (dec (!(p0.kind == 5)) false (by rw [h5]; rfl)), hB 12 h6, hB 28 h9, hB 9 h10, hB 33 h12, hB 3 h13] [aB (t_Ka p0 (H.1)) h0, aB (t_Ka p3 (H.2.1 h0)) h1, aB (t_K1m p0 (H.2.2.1 h0 h1 h2 h3)) h4, aN (t_K1n p0 p1 p3 (H.2.2.2.1 h0 h1 h2 h3 h4 h5)), aN (t_K1e (s_K1n p0 p1 p3) p1 (H.2.2.2.2.1 h0 h1 h2 h3 h4 h5)), aB (t_Kf (s_K1e (s_K1n p0 p1 p3) p1).1 p3 (H.2.2.2.2.2.1 h0 h1 h2 h3 h4 h5 h6)) h7, aN (t_K1o (s_K1n p0 p1 p3) p1 (H.2.2.2.2.2.2.1 h0 h1 h2 h3 h4 h5 h6 h7)), aN (t_K1o p0 p1 (H.2.2.2.2.2.2.2.1 h0 h1 h2 h3 h4 h5 h6 h7)), aB (t_Kf (s_K1o (s_K1n p0 p1 p3) p1) (s_K1o p0 p1) (H.2.2.2.2.2.2.2.2.1 h0 h1 h2 h3 h4 h5 h6 h7)) h8, aN (t_K1o p0 p1 (H.2.2.2.2.2.2.2.2.2.1 h0 h1 h2 h3 h4 h5 h6 h7 h8)), aN (t_K1e (s_K1o p0 p1) p1 (H.2.2.2.2.2.2.2.2.2.2.1 h0 h1 h2 h3 h4 h5 h6 h7 h8)), aN (t_K1e p0 p1 (H.2.2.2.2.2.2.2.2.2.2.2.1 h0 h1 h2 h3 h4 h5 h6 h7 h8 h9)), aN (t_K1n p0 p1 (s_K1e p0 p1).1 (H.2.2.2.2.2.2.2.2.2.2.2.2.1 h0 h1 h2 h3 h4 h5 h6 h7 h8 h9 h10)), aB (t_Kf (s_K1n p0 p1 (s_K1e p0 p1).1) p0 (H.2.2.2.2.2.2.2.2.2.2.2.2.2.1 h0 h1 h2 h3 h4 h5 h6 h7 h8 h9 h10)) h11, aN (t_K1e p0 p2 (H.2.2.2.2.2.2.2.2.2.2.2.2.2.2.1 h0 h1 h2 h3 h4 h5 h6 h7 h8 h9 h10 h11)), aN (t_K1e (s_K1n p0 p1 p3) p2 (H.2.2.2.2.2.2.2.2.2.2.2.2.2.2.2.1 h0 h1 h2 h3 h4 h5 h6 h7 h8 h9 h10 h11))] (by kernel_rfl)
  | false =>
   exact tells_VI (fn := Ir.K6) rfl VOK.nil [hB 14 h2, hB 4 h3, hP 9 (dec (!(p0.kind == 5)) false (by rw [h5]; rfl)), hB 12 h6, hB 28 h9, hB 9 h10] [aB (t_Ka p0 (H.1)) h0, aB (t_Ka p3 (H.2.1 h0)) h1, aB (t_K1m p0 (H.2.2.1 h0 h1 h2 h3)) h4, aN (t_K1n p0 p1 p3 (H.2.2.2.1 h0 h1 h2 h3 h4 h5)), aN (t_K1e (s_K1n p0 p1 p3) p1 (H.2.2.2.2.1 h0 h1 h2 h3 h4 h5)), aB (t_Kf (s_K1e (s_K1n p0 p1 p3) p1).1 p3 (H.2.2.2.2.2.1 h0 h1 h2 h3 h4 h5 h6)) h7, aN (t_K1o (s_K1n p0 p1 p3) p1 (H.2.2.2.2.2.2.1 h0 h1 h2 h3 h4 h5 h6 h7)), aN (t_K1o p0 p1 (H.2.2.2.2.2.2.2.1 h0 h1 h2 h3 h4 h5 h6 h7)), aB (t_Kf (s_K1o (s_K1n p0 p1 p3) p1) (s_K1o p0 p1) (H.2.2.2.2.2.2.2.2.1 h0 h1 h2 h3 h4 h5 h6 h7)) h8, aN (t_K1o p0 p1 (H.2.2.2.2.2.2.2.2.2.1 h0 h1 h2 h3 h4 h5 h6 h7 h8)), aN (t_K1e (s_K1o p0 p1) p1 (H.2.2.2.2.2.2.2.2.2.2.1 h0 h1 h2 h3 h4 h5 h6 h7 h8)), aN (t_K1e p0 p1 (H.2.2.2.2.2.2.2.2.2.2.2.1 h0 h1 h2 h3 h4 h5 h6 h7 h8 h9)), aN (t_K1n p0 p1 (s_K1e p0 p1).1 (H.2.2.2.2.2.2.2.2.2.2.2.2.1 h0 h1 h2 h3 h4 h5 h6 h7 h8 h9 h10)), aB (t_Kf (s_K1n p0 p1 (s_K1e p0 p1).1) p0 (H.2.2.2.2.2.2.2.2.2.2.2.2.2.1 h0 h1 h2 h3 h4 h5 h6 h7 h8 h9 h10)) h11] (by kernel_rfl)
theorem t_K6_4 (p0 : Val) (p1 : ByteArray) (p2 : ByteArray) (p3 : Val) (H : H_K6 p0 p1 p2 p3) (h0 : (s_Ka p0) = true) (h1 : (s_Ka p3) = true) (h2 : (decide (200 < (ByteArray.size p1 : Int))) = false) (h3 : (decide (200 < (ByteArray.size p2 : Int))) = false) (h4 : (s_K1m p0) = true) (h5 : (p0.kind == 5) = true) (h6 : (s_K1e (s_K1n p0 p1 p3) p1).2 = true) (h7 : (s_Kf (s_K1e (s_K1n p0 p1 p3) p1).1 p3) = true) (h8 : (s_Kf (s_K1o (s_K1n p0 p1 p3) p1) (s_K1o p0 p1)) = true) (h9 : (s_K1e (s_K1o p0 p1) p1).2 = false) (h10 : (s_K1e p0 p1).2 = false) : Tells G (c_K6 p0 p1 p2 p3) (.ret (.bool (bif (sEq p2 p1) then
    true
  else
    bif ((s_K1e p0 p2).2 == (s_K1e (s_K1n p0 p1 p3) p2).2) then
      bif (s_Kf (s_K1e p0 p2).1 (s_K1e (s_K1n p0 p1 p3) p2).1) then
        true
      else
        false
    else
      false)) []) := by
  cases h11 : (sEq p2 p1) with
  | true =>
   exact tells_VI (fn := Ir.K6) rfl VOK.nil [hB 14 h2, hB 4 h3, hP 9 (dec (!(p0.kind == 5)) false (by rw [h5]; rfl)), hB 12 h6, hB 28 h9, hB 9 h10, hB 33 h11] [aB (t_Ka p0 (H.1)) h0, aB (t_Ka p3 (H.2.1 h0)) h1, aB (t_K1m p0 (H.2.2.1 h0 h1 h2 h3)) h4, aN (t_K1n p0 p1 p3 (H.2.2.2.1 h0 h1 h2 h3 h4 h5)), aN (t_K1e (s_K1n p0 p1 p3) p1 (H.2.2.2.2.1 h0 h1 h2 h3 h4 h5)), aB (t_Kf (s_K1e (s_K1n p0 p1 p3) p1).1 p3 (H.2.2.2.2.2.1 h0 h1 h2 h3 h4 h5 h6)) h7, aN (t_K1o (s_K1n p0 p1 p3) p1 (H.2.2.2.2.2.2.1 h0 h1 h2 h3 h4 h5 h6 h7)), aN (t_K1o p0 p1 (H.2.2.2.2.2.2.2.1 h0 h1 h2 h3 h4 h5 h6 h7)), aB (t_Kf (s_K1o (s_K1n p0 p1 p3) p1) (s_K1o p0 p1) (H.2.2.2.2.2.2.2.2.1 h0 h1 h2 h3 h4 h5 h6 h7)) h8, aN (t_K1o p0 p1 (H.2.2.2.2.2.2.2.2.2.1 h0 h1 h2 h3 h4 h5 h6 h7 h8)), aN (t_K1e (s_K1o p0 p1) p1 (H.2.2.2.2.2.2.2.2.2.2.1 h0 h1 h2 h3 h4 h5 h6 h7 h8)), aN (t_K1e p0 p1 (H.2.2.2.2.2.2.2.2.2.2.2.1 h0 h1 h2 h3 h4 h5 h6 h7 h8 h9)), aN (t_K1e p0 p2 (H.2.2.2.2.2.2.2.2.2.2.2.2.2.2.2.2.2.1 h0 h1 h2 h3 h4 h5 h6 h7 h8 h9 h10)), aN (t_K1e (s_K1n p0 p1 p3) p2 (H.2.2.2.2.2.2.2.2.2.2.2.2.2.2.2.2.2.2.1 h0 h1 h2 h3 h4 h5 h6 h7 h8 h9 h10)), aN t_K9] (by kernel_rfl)
  | false =>
   cases h12 : ((s_K1e p0 p2).2 == (s_K1e (s_K1n p0 p1 p3) p2).2) with
   | true =>
    cases h13 : (s_Kf (s_K1e p0 p2).1 (s_K1e (s_K1n p0 p1 p3) p2).1) with
    | true =>
     exact tells_VI (fn := Ir.K6) rfl VOK.nil [hB 14 h2, hB 4 h3, hP 9 (dec (!(p0.kind == 5)) false (by rw [h5]; rfl)), hB 12 h6, hB 28 h9, hB 9 h10, hB 33 h11, hB 3 h12] [aB (t_Ka p0 (H.1)) h0, aB (t_Ka p3 (H.2.1 h0)) h1, aB (t_K1m p0 (H.2.2.1 h0 h1 h2 h3)) h4, aN (t_K1n p0 p1 p3 (H.2.2.2.1 h0 h1 h2 h3 h4 h5)), aN (t_K1e (s_K1n p0 p1 p3) p1 (H.2.2.2.2.1 h0 h1 h2 h3 h4 h5)), aB (t_Kf (s_K1e (s_K1n p0 p1 p3) p1).1 p3 (H.2.2.2.2.2.1 h0 h1 h2 h3 h4 h5 h6)) h7, aN (t_K1o (s_K1n p0 p1 p3) p1 (H.2.2.2.2.2.2.1 h0 h1 h2 h3 h4 h5 h6 h7)), aN (t_K1o p0 p1 (H.2.2.2.2.2.2.2.1 h0 h1 h2 h3 h4 h5 h6 h7)), aB (t_Kf (s_K1o (s_K1n p0 p1 p3) p1) (s_K1o p0 p1) (H.2.2.2.2.2.2.2.2.1 h0 h1 h2 h3 h4 h5 h6 h7)) h8, aN (t_K1o p0 p1 (H.2.2.2.2.2.2.2.2.2.1 h0 h1 h2 h3 h4 h5 h6 h7 h8)), aN (t_K1e (s_K1o p0 p1) p1 (H.2.2.2.2.2.2.2.2.2.2.1 h0 h1 h2 h3 h4 h5 h6 h7 h8)), aN (t_K1e p0 p1 (H.2.2.2.2.2.2.2.2.2.2.2.1 h0 h1 h2 h3 h4 h5 h6 h7 h8 h9)), aN (t_K1e p0 p2 (H.2.2.2.2.2.2.2.2.2.2.2.2.2.2.2.2.2.1 h0 h1 h2 h3 h4 h5 h6 h7 h8 h9 h10)), aN (t_K1e (s_K1n p0 p1 p3) p2 (H.2.2.2.2.2.2.2.2.2.2.2.2.2.2.2.2.2.2.1 h0 h1 h2 h3 h4 h5 h6 h7 h8 h9 h10)), aB (t_Kf (s_K1e p0 p2).1 (s_K1e (s_K1n p0 p1 p3) p2).1 (H.2.2.2.2.2.2.2.2.2.2.2.2.2.2.2.2.2.2.2.1 h0 h1 h2 h3 h4 h5 h6 h7 h8 h9 h10 h11 h12)) h13, aN t_K9] (by kernel_rfl)
    | false =>
     exact tells_VI (fn := Ir.K6) rfl VOK.nil [hB 14 h2, hB 4 h3, hP 9 (dec (!(p0.kind == 5)) false (by rw [h5]; rfl)), hB 12 h6, hB 28 h9, hB 9 h10, hB 33 h11, hB 3 h12] [aB (t_Ka p0 (H.1)) h0, aB (t_Ka p3 (H.2.1 h0)) h1, aB (t_K1m p0 (H.2.2.1 h0 h1 h2 h3)) h4, aN (t_K1n p0 p1 p3 (H.2.2.2.1 h0 h1 h2 h3 h4 h5)), aN (t_K1e (s_K1n p0 p1 p3) p1 (H.2.2.2.2.1 h0 h1 h2 h3 h4 h5)), aB (t_Kf (s_K1e (s_K1n p0 p1 p3) p1).1 p3 (H.2.2.2.2.2.1 h0 h1 h2 h3 h4 h5 h6)) h7, aN (t_K1o (s_K1n p0 p1 p3) p1 (H.2.2.2.2.2.2.1 h0 h1 h2 h3 h4 h5 h6 h7)), aN (t_K1o p0 p1 (H.2.2.2.2.2.2.2.1 h0 h1 h2 h3 h4 h5 h6 h7)), aB (t_Kf (s_K1o (s_K1n p0 p1 p3) p1) (s_K1o p0 p1) (H.2.2.2.2.2.2.2.2.1 h0 h1 h2 h3 h4 h5 h6 h7)) h8, aN (t_K1o p0 p1 (H.2.2.2.2.2.2.2.2.2.1 h0 h1 h2 h3 h4 h5 h6 h7 h8)), aN (t_K1e (s_K1o p0 p1) p1 (H.2.2.2.2.2.2.2.2.2.2.1 h0 h1 h2 h3 h4 h5 h6 h7 h8)), aN (t_K1e p0 p1 (H.2.2.2.2.2.2.2.2.2.2.2.1 h0 h1 h2 h3 h4 h5 h6 h7 h8 h9)), aN (t_K1e p0 p2 (H.2.2.2.2.2.2.2.2.2.2.2.2.2.2.2.2.2.1 h0 h1 h2 h3 h4 h5 h6 h7 h8 h9 h10)), aN (t_K1e (s_K1n p0 p1 p3) p2 (H.2.2.2.2.2.2.2.2.2.2.2.2.2.2.2.2.2.2.1 h0 h1 h2 h3 h4 h5 h6 h7 h8 h9 h10)), aB (t_Kf (s_K1e p0 p2).1 (s_K1e (s_K1n p0 p1 p3) p2).1 (H.2.2.2.2.2.2.2.2.2.2.2.2.2.2.2.2.2.2.2.1 h0 h1 h2 h3 h4 h5 h6 h7 h8 h9 h10 h11 h12)) h13] (by kernel_rfl)
   | false =>
    exact tells_VI (fn := Ir.K6) rfl VOK.nil [hB 14 h2, hB 4 h3, hP 9 (dec (!(p0.kind == 5)) false (by rw [h5]; rfl)), hB 12 h6, hB 28 h9, hB 9 h10, hB 33 h11, hB 3 h12] [aB (t_Ka p0 (H.1)) h0, aB (t_Ka p3 (H.2.1 h0)) h1, aB (t_K1m p0 (H.2.2.1 h0 h1 h2 h3)) h4, aN (t_K1n p0 p1 p3 (H.2.2.2.1 h0 h1 h2 h3 h4 h5)), aN (t_K1e (s_K1n p0 p1 p3) p1 (H.2.2.2.2.1 h0 h1 h2 h3 h4 h5)), aB (t_Kf (s_K1e (s_K1n p0 p1 p3) p1).1 p3 (H.2.2.2.2.2.1 h0 h1 h2 h3 h4 h5 h6)) h7, aN (t_K1o (s_K1n p0 p1 p3) p1 (H.2.2.2.2.2.2.1 h0 h1 h2 h3 h4 h5 h6 h7)), aN (t_K1o p0 p1 (H.2.2.2.2.2.2.2.1 h0 h1 h2 h3 h4 h5 h6 h7)), aB (t_Kf (s_K1o (s_K1n p0 p1 p3) p1) (s_K1o p0 p1) (H.2.2.2.2.2.2.2.2.1 h0 h1 h2 h3 h4 h5 h6 h7)) h8, aN (t_K1o p0 p1 (H.2.2.2.2.2.2.2.2.2.1 h0 h1 h2 h3 h4 h5 h6 h7 h8)), aN (t_K1e (s_K1o p0 p1) p1 (H.2.2.2.2.2.2.2.2.2.2.1 h0 h1 h2 h3 h4 h5 h6 h7 h8)), aN (t_K1e p0 p1 (H.2.2.2.2.2.2.2.2.2.2.2.1 h0 h1 h2 h3 h4 h5 h6 h7 h8 h9)), aN (t_K1e p0 p2 (H.2.2.2.2.2.2.2.2.2.2.2.2.2.2.2.2.2.1 h0 h1 h2 h3 h4 h5 h6 h7 h8 h9 h10)), aN (t_K1e (s_K1n p0 p1 p3) p2 (H.2.2.2.2.2.2.2.2.2.2.2.2.2.2.2.2.2.2.1 h0 h1 h2 h3 h4 h5 h6 h7 h8 h9 h10))] (by kernel_rfl)
theorem t_K6_5 (p0 : Val) (p1 : ByteArray) (p2 : ByteArray) (p3 : Val) (H : H_K6 p0 p1 p2 p3) (h0 : (s_Ka p0) = true) (h1 : (s_Ka p3) = true) (h2 : (decide (200 < (ByteArray.size p1 : Int))) = false) (h3 : (decide (200 < (ByteArray.size p2 : Int))) = false) (h4 : (s_K1m p0) = true) (h5 : (p0.kind == 5) = true) (h6 : (s_K1e (s_K1n p0 p1 p3) p1).2 = true) (h7 : (s_Kf (s_K1e (s_K1n p0 p1 p3) p1).1 p3) = true) (h8 : (s_Kf (s_K1o (s_K1n p0 p1 p3) p1) (s_K1o p0 p1)) = false) : Tells G (c_K6 p0 p1 p2 p3) (.ret (.bool (false)) []) := by
  exact tells_VI (fn := Ir.K6) rfl VOK.nil [hB 14 h2, hB 4 h3, hP 9 (dec (!(p0.kind == 5)) false (by rw [h5]; rfl)), hB 12 h6] [aB (t_Ka p0 (H.1)) h0, aB (t_Ka p3 (H.2.1 h0)) h1, aB (t_K1m p0 (H.2.2.1 h0 h1 h2 h3)) h4, aN (t_K1n p0 p1 p3 (H.2.2.2.1 h0 h1 h2 h3 h4 h5)), aN (t_K1e (s_K1n p0 p1 p3) p1 (H.2.2.2.2.1 h0 h1 h2 h3 h4 h5)), aB (t_Kf (s_K1e (s_K1n p0 p1 p3) p1).1 p3 (H.2.2.2.2.2.1 h0 h1 h2 h3 h4 h5 h6)) h7, aN (t_K1o (s_K1n p0 p1 p3) p1 (H.2.2.2.2.2.2.1 h0 h1 h2 h3 h4 h5 h6 h7)), aN (t_K1o p0 p1 (H.2.2.2.2.2.2.2.1 h0 h1 h2 h3 h4 h5 h6 h7)), aB (t_Kf (s_K1o (s_K1n p0 p1 p3) p1) (s_K1o p0 p1) (H.2.2.2.2.2.2.2.2.1 h0 h1 h2 h3 h4 h5 h6 h7)) h8] (by kernel_rfl)
theorem t_K6_6 (p0 : Val) (p1 : ByteArray) (p2 : ByteArray) (p3 : Val) (H : H_K6 p0 p1 p2 p3) (h0 : (s_Ka p0) = true) (h1 : (s_Ka p3) = true) (h2 : (decide (200 < (ByteArray.size p1 : Int))) = false) (h3 : (decide (200 < (ByteArray.size p2 : Int))) = false) (h4 : (s_K1m p0) = true) (h5 : (p0.kind == 5) = true) (h6 : (s_K1e (s_K1n p0 p1 p3) p1).2 = true) (h7 : (s_Kf (s_K1e (s_K1n p0 p1 p3) p1).1 p3) = false) : Tells G (c_K6 p0 p1 p2 p3) (.ret (.bool (false)) []) := by
  exact tells_VI (fn := Ir.K6) rfl VOK.nil [hB 14 h2, hB 4 h3, hP 9 (dec (!(p0.kind == 5)) false (by rw [h5]; rfl)), hB 12 h6] [aB (t_Ka p0 (H.1)) h0, aB (t_Ka p3 (H.2.1 h0)) h1, aB (t_K1m p0 (H.2.2.1 h0 h1 h2 h3)) h4, aN (t_K1n p0 p1 p3 (H.2.2.2.1 h0 h1 h2 h3 h4 h5)), aN (t_K1e (s_K1n p0 p1 p3) p1 (H.2.2.2.2.1 h0 h1 h2 h3 h4 h5)), aB (t_Kf (s_K1e (s_K1n p0 p1 p3) p1).1 p3 (H.2.2.2.2.2.1 h0 h1 h2 h3 h4 h5 h6)) h7] (by kernel_rfl)
theorem t_K6_7 (p0 : Val) (p1 : ByteArray) (p2 : ByteArray) (p3 : Val) (H : H_K6 p0 p1 p2 p3) (h0 : (s_Ka p0) = true) (h1 : (s_Ka p3) = true) (h2 : (decide (200 < (ByteArray.size p1 : Int))) = false) (h3 : (decide (200 < (ByteArray.size p2 : Int))) = false) (h4 : (s_K1m p0) = true) (h5 : (p0.kind == 5) = true) (h6 : (s_K1e (s_K1n p0 p1 p3) p1).2 = false) : Tells G (c_K6 p0 p1 p2 p3) (.ret (.bool (false)) []) := by
  exact tells_VI (fn := Ir.K6) rfl VOK.nil [hB 14 h2, hB 4 h3, hP 9 (dec (!(p0.kind == 5)) false (by rw [h5]; rfl)), hB 12 h6] [aB (t_Ka p0 (H.1)) h0, aB (t_Ka p3 (H.2.1 h0)) h1, aB (t_K1m p0 (H.2.2.1 h0 h1 h2 h3)) h4, aN (t_K1n p0 p1 p3 (H.2.2.2.1 h0 h1 h2 h3 h4 h5)), aN (t_K1e (s_K1n p0 p1 p3) p1 (H.2.2.2.2.1 h0 h1 h2 h3 h4 h5))] (by kernel_rfl)
theorem t_K6_8 (p0 : Val) (p1 : ByteArray) (p2 : ByteArray) (p3 : Val) (H : H_K6 p0 p1 p2 p3) (h0 : (s_Ka p0) = true) (h1 : (s_Ka p3) = true) (h2 : (decide (200 < (ByteArray.size p1 : Int))) = false) (h3 : (decide (200 < (ByteArray.size p2 : Int))) = false) (h4 : (s_K1m p0) = true) (h5 : (p0.kind == 5) = false) : Tells G (c_K6 p0 p1 p2 p3) (.ret (.bool (true)) []) := by
  exact tells_VI (fn := Ir.K6) rfl VOK.nil [hB 14 h2, hB 4 h3, hP 9 (dec (!(p0.kind == 5)) true (by rw [h5]; rfl))] [aB (t_Ka p0 (H.1)) h0, aB (t_Ka p3 (H.2.1 h0)) h1, aB (t_K1m p0 (H.2.2.1 h0 h1 h2 h3)) h4, aN t_K9] (by kernel_rfl)
theorem t_K6_9 (p0 : Val) (p1 : ByteArray) (p2 : ByteArray) (p3 : Val) (H : H_K6 p0 p1 p2 p3) (h0 : (s_Ka p0) = true) (h1 : (s_Ka p3) = true) (h2 : (decide (200 < (ByteArray.size p1 : Int))) = false) (h3 : (decide (200 < (ByteArray.size p2 : Int))) = false) (h4 : (s_K1m p0) = false) : Tells G (c_K6 p0 p1 p2 p3) (.ret (.bool (true)) []) := by
  exact tells_VI (fn := Ir.K6) rfl VOK.nil [hB 14 h2, hB 4 h3] [aB (t_Ka p0 (H.1)) h0, aB (t_Ka p3 (H.2.1 h0)) h1, aB (t_K1m p0 (H.2.2.1 h0 h1 h2 h3)) h4, aN t_K9] (by kernel_rfl)
theorem t_K6_10 (p0 : Val) (p1 : ByteArray) (p2 : ByteArray) (p3 : Val) (H : H_K6 p0 p1 p2 p3) (h0 : (s_Ka p0) = true) (h1 : (s_Ka p3) = false) : Tells G (c_K6 p0 p1 p2 p3) (.ret (.bool (true)) []) := by
  exact tells_VI (fn := Ir.K6) rfl VOK.nil [] [aB (t_Ka p0 (H.1)) h0, aB (t_Ka p3 (H.2.1 h0)) h1, aN t_K9] (by kernel_rfl)
theorem t_K6_11 (p0 : Val) (p1 : ByteArray) (p2 : ByteArray) (p3 : Val) (H : H_K6 p0 p1 p2 p3) (h0 : (s_Ka p0) = false) : Tells G (c_K6 p0 p1 p2 p3) (.ret (.bool (true)) []) := by
  exact tells_VI (fn := Ir.K6) rfl VOK.nil [] [aB (t_Ka p0 (H.1)) h0, aN t_K9] (by kernel_rfl)
theorem t_K6 (p0 : Val) (p1 : ByteArray) (p2 : ByteArray) (p3 : Val) (H : H_K6 p0 p1 p2 p3) : Tells G (c_K6 p0 p1 p2 p3) (a_K6 p0 p1 p2 p3) := by
  unfold a_K6 s_K6
  cases h0 : (s_Ka p0) with
  | true =>
   cases h1 : (s_Ka p3) with
   | true =>
    cases h2 : (decide (200 < (ByteArray.size p1 : Int))) with
    | true =>
     exact t_K6_0 p0 p1 p2 p3 H h0 h1 h2
    | false =>
     cases h3 : (decide (200 < (ByteArray.size p2 : Int))) with
     | true =>
      exact t_K6_1 p0 p1 p2 p3 H h0 h1 h2 h3
     | false =>
      cases h4 : (s_K1m p0) with
      | true =>
       cases h5 : (p0.kind == 5) with
       | true =>
        cases h6 : (s_K1e (s_K1n p0 p1 p3) p1).2 with
        | true =>
         cases h7 : (s_Kf (s_K1e (s_K1n p0 p1 p3) p1).1 p3) with
         | true =>
          cases h8 : (s_Kf (s_K1o (s_K1n p0 p1 p3) p1) (s_K1o p0 p1)) with
          | true =>
           cases h9 : (s_K1e (s_K1o p0 p1) p1).2 with
           | true =>
            exact t_K6_2 p0 p1 p2 p3 H h0 h1 h2 h3 h4 h5 h6 h7 h8 h9
           | false =>
            cases h10 : (s_K1e p0 p1).2 with
            | true =>
             exact t_K6_3 p0 p1 p2 p3 H h0 h1 h2 h3 h4 h5 h6 h7 h8 h9 h10
            | false =>
             exact t_K6_4 p0 p1 p2 p3 H h0 h1 h2 h3 h4 h5 h6 h7 h8 h9 h10
          | false =>
           exact t_K6_5 p0 p1 p2 p3 H h0 h1 h2 h3 h4 h5 h6 h7 h8
         | false =>
          exact t_K6_6 p0 p1 p2 p3 H h0 h1 h2 h3 h4 h5 h6 h7
        | false =>
         exact t_K6_7 p0 p1 p2 p3 H h0 h1 h2 h3 h4 h5 h6
       | false =>
        exact t_K6_8 p0 p1 p2 p3 H h0 h1 h2 h3 h4 h5
      | false =>
       exact t_K6_9 p0 p1 p2 p3 H h0 h1 h2 h3 h4
   | false =>
    exact t_K6_10 p0 p1 p2 p3 H h0 h1
  | false =>
   exact t_K6_11 p0 p1 p2 p3 H h0
def tysValueMaps : List Ty := [.nm 25, .str, .str, .nm 25]
theorem pureValueMaps (hp : ∀ (p0 : Val) (p1 : ByteArray) (p2 : ByteArray) (p3 : Val), Val_ok p0 → okS p1 → okS p2 → Val_ok p3 → H_K6 p0 p1 p2 p3 ∧ s_K6 p0 p1 p2 p3 = true) : ∀ qs, Args Γ tysValueMaps qs → ∃ n, runs G n (.call 8 qs []) = some (.ret (.bool true) []) := by
  intro qs h
  cases qs with
  | nil => cases h
  | cons q0 qs =>
  obtain ⟨h0, h⟩ := h
  cases qs with
  | nil => cases h
  | cons q1 qs =>
  obtain ⟨h1, h⟩ := h
  cases qs with
  | nil => cases h
  | cons q2 qs =>
  obtain ⟨h2, h⟩ := h
  cases qs with
  | nil => cases h
  | cons q3 qs =>
  obtain ⟨h3, h⟩ := h
  cases qs with
  | cons _ _ => cases h
  | nil =>
  obtain ⟨c0, rfl, g0⟩ := h0.agg rfl
  obtain ⟨p0, rfl, k0⟩ := (Val_open (gam_at 25) g0)
  have g1 := h1.one rfl
  obtain ⟨p1, e1, k1⟩ := g1.str1
  injection e1 with e1
  subst e1
  have g2 := h2.one rfl
  obtain ⟨p2, e2, k2⟩ := g2.str1
  injection e2 with e2
  subst e2
  obtain ⟨c3, rfl, g3⟩ := h3.agg rfl
  obtain ⟨p3, rfl, k3⟩ := (Val_open (gam_at 25) g3)
  have e := hp p0 p1 p2 p3 k0 k1 k2 k3
  have t := t_K6 p0 p1 p2 p3 e.1
  unfold a_K6 at t
  rw [e.2] at t
  exact t
end Go.Proofs.Ytedohmdgbilicaa
end

section
/- ValueFields and ValueMaps in plain words. -/
namespace Go.Proofs.Ytedohmdgbilicaa
open Go.Pv Go.Pv.Srt
theorem valid_b1_ss (p : Val) (k : Int) (hp : p.fields.length ≤ 64) : ∀ (r : List Fld) (i : Nat), p.fields.drop i = r → l_K1v_b1 p k r i = .k0 → SS r ∧ (0 < i → ∀ y ∈ r, sCmp (p.fields.getD (i - 1) (.mk ⟨#[]⟩ (.mk 0 0 ⟨#[]⟩ [] []))).name y.name < 0)
  | [], i, _, _ => ⟨SS.nil, fun _ _ g => by cases g⟩
  | x :: r, i, hd, h => by
    obtain ⟨hx, hi, hd'⟩ := drop_get hd
    rw [l_K1v_b1] at h
    have hw : 0 < i → Int.toNat (w64 ((i : Int) - 1)) = i - 1 := fun h => by rw [w64_of (by omega)]; omega
    have pr : l_K1v_b1 p k r (i + 1) = .k0 ∧ (0 < i → sCmp (p.fields.getD (i - 1) (.mk ⟨#[]⟩ (.mk 0 0 ⟨#[]⟩ [] []))).name x.name < 0) := by
      cases a : s_K1q x.name with
      | false => rw [a] at h; cases h
      | true =>
        rw [a, cond_true] at h
        by_cases c : 0 < i
        · rw [show decide (0 < (i : Int)) = true by simp; omega, cond_true, hw c] at h
          cases b : sLt (p.fields.getD (i - 1) (.mk ⟨#[]⟩ (.mk 0 0 ⟨#[]⟩ [] []))).name x.name with
          | false => rw [b] at h; cases h
          | true =>
            rw [b, cond_true] at h
            cases d : s_K1v x.v (w64 (k - 1)) with
            | false => rw [d] at h; cases h
            | true =>
              rw [d] at h
              refine ⟨h, fun _ => ?_⟩
              rw [sLt_cmp] at b
              exact of_decide_eq_true b
        · rw [show decide (0 < (i : Int)) = false by simp; omega, cond_false] at h
          cases d : s_K1v x.v (w64 (k - 1)) with
          | false => rw [d] at h; cases h
          | true => rw [d] at h; exact ⟨h, fun g => absurd g c⟩
    obtain ⟨s, t⟩ := valid_b1_ss p k hp r (i + 1) hd' pr.1
    have e : p.fields.getD (i + 1 - 1) (.mk ⟨#[]⟩ (.mk 0 0 ⟨#[]⟩ [] [])) = x := by rw [Nat.add_sub_cancel, List.getD_eq_getElem?_getD, hx]; rfl
    rw [e] at t
    refine ⟨SS.cons.2 ⟨t (by omega), s⟩, fun c y hy => ?_⟩
    rcases List.mem_cons.1 hy with g | g
    · rw [g]; exact pr.2 c
    · exact sCmp_tr (pr.2 c) (t (by omega) y g)
theorem valid_map {v : Val} (h : s_K1m v = true) (hk : (v.kind == 5) = true) : SS v.fields ∧ v = .mk 5 0 ⟨#[]⟩ [] v.fields := by
  have hk' : v.kind = 5 := by simpa using hk
  have h1 : s_K1v v 12 = true := by
    unfold s_K1m at h
    cases e : s_K1v v 12 with
    | true => rfl
    | false => rw [e] at h; cases h
  rw [s_K1v] at h1
  have h4 : (v.kind == 4) = false := by rw [hk']; rfl
  rw [show ((12 : Int) == 0) = false from rfl, cond_false] at h1
  cases sc : s_K1t v with
  | false => rw [sc] at h1; cases h1
  | true =>
    rw [sc, cond_true, h4, cond_false] at h1
    cases ll : decide (0 < (v.list.length : Int)) with
    | true => rw [ll] at h1; cases h1
    | false =>
      rw [ll, cond_false, hk, cond_true] at h1
      cases l6 : decide (64 < (v.list.length : Int)) with
      | true => rw [l6] at h1; cases h1
      | false =>
        rw [l6, cond_false] at h1
        cases f6 : decide (64 < (v.fields.length : Int)) with
        | true => rw [f6] at h1; cases h1
        | false =>
          rw [f6, cond_false] at h1
          have hf : v.fields.length ≤ 64 := by have := of_decide_eq_false f6; omega
          have hl : v.list = [] := List.length_eq_zero_iff.1 (by have := of_decide_eq_false ll; omega)
          cases b0 : l_K1v_b0 v 12 v.list 0 with
          | k1 => rw [b0] at h1; cases h1
          | k0 =>
            rw [b0] at h1
            cases b1 : l_K1v_b1 v 12 v.fields 0 with
            | k1 => rw [b1] at h1; cases h1
            | k0 =>
              refine ⟨(valid_b1_ss v 12 hf v.fields 0 rfl b1).1, ?_⟩
              unfold s_K1t at sc
              rw [hk'] at sc
              simp only [show ((5 : Int) == 1) = false from rfl, show ((5 : Int) == 2) = false from rfl, show ((5 : Int) == 3) = false from rfl, show ((5 : Int) == 0) = false from rfl, show ((5 : Int) == 4) = false from rfl, show ((5 : Int) == 5) = true from rfl, cond_false, cond_true] at sc
              cases n0 : v.n == 0 with
              | false => rw [n0] at sc; cases sc
              | true =>
                rw [n0, cond_true] at sc
                cases s0 : sEq v.s ⟨#[]⟩ with
                | false => rw [s0] at sc; cases sc
                | true =>
                  have := Val.eta v
                  rw [hk', show v.n = 0 by simpa using n0, sEq_iff.1 s0, hl] at this
                  exact this.symm
theorem find_ss {l : List Fld} (h : SS l) (n : ByteArray) (f : Fld) : l.find? (fun y => sEq y.name n) = some f ↔ f ∈ l ∧ f.name = n := by
  constructor
  · intro g
    exact ⟨List.mem_of_find?_eq_some g, sEq_iff.1 (List.find?_some (p := fun y : Fld => sEq y.name n) g)⟩
  · intro ⟨g1, g2⟩
    cases e : l.find? fun y => sEq y.name n with
    | none =>
      have := List.find?_eq_none.1 e f g1
      exact absurd (sEq_iff.2 g2) this
    | some y => rw [h.inj g1 (List.mem_of_find?_eq_some e) (g2.trans (sEq_iff.1 (List.find?_some (p := fun y : Fld => sEq y.name n) e)).symm)]
theorem find_eq {l r : List Fld} (hl : SS l) (hr : SS r) (n : ByteArray) (h : ∀ f, f.name = n → (f ∈ l ↔ f ∈ r)) : l.find? (fun y => sEq y.name n) = r.find? fun y => sEq y.name n := by
  apply Option.ext
  intro f
  rw [find_ss hl, find_ss hr]
  exact ⟨fun g => ⟨(h f g.2).1 g.1, g.2⟩, fun g => ⟨(h f g.2).2 g.1, g.2⟩⟩
theorem mem_oth {F : List Fld} (n : ByteArray) (f : Fld) : f ∈ F.filter (fun y => !sEq y.name n) ↔ f ∈ F ∧ f.name ≠ n := by
  rw [List.mem_filter]
  constructor
  · intro g
    exact ⟨g.1, sEq_ne.1 (by simpa using g.2)⟩
  · intro g
    exact ⟨g.1, by simpa using sEq_ne.2 g.2⟩
theorem oth_map {v : Val} (hE : v = .mk 5 0 ⟨#[]⟩ [] v.fields) (n : ByteArray) : oth v n = v.fields.filter fun y => !sEq y.name n := by
  rw [hE]
  rfl
theorem with_map {v : Val} (hS : SS v.fields) (hE : v = .mk 5 0 ⟨#[]⟩ [] v.fields) (n : ByteArray) (x : Val) : s_K1n v n x = .mk 5 0 ⟨#[]⟩ [] (insF (.mk n x) (v.fields.filter fun y => !sEq y.name n)) := by
  rw [vwith]
  unfold mp
  rw [mapOf_snoc, oth_map hE, mapOf_of_ss (hS.filter _)]
theorem without_map {v : Val} (hS : SS v.fields) (hE : v = .mk 5 0 ⟨#[]⟩ [] v.fields) (n : ByteArray) : s_K1o v n = .mk 5 0 ⟨#[]⟩ [] (v.fields.filter fun y => !sEq y.name n) := by
  rw [vwithout, show (v.kind == 5) = true by rw [hE]; rfl, cond_true]
  unfold mp
  rw [oth_map hE, mapOf_of_ss (hS.filter _)]
theorem found_map {v : Val} (hE : v = .mk 5 0 ⟨#[]⟩ [] v.fields) (n : ByteArray) : found v n = v.fields.find? fun y => sEq y.name n := by
  rw [hE]
  rfl
theorem get_mk (l : List Fld) (n : ByteArray) : s_K1e (.mk 5 0 ⟨#[]⟩ [] l) n = gotF (l.find? fun y => sEq y.name n) := by
  rw [vget]
  rfl
theorem maps_facts {v : Val} (hS : SS v.fields) (hE : v = .mk 5 0 ⟨#[]⟩ [] v.fields) (n m : ByteArray) (x : Val) :
    s_K1e (s_K1n v n x) n = (x, true) ∧ s_K1o (s_K1n v n x) n = s_K1o v n ∧ (s_K1e (s_K1o v n) n).2 = false ∧
    ((s_K1e v n).2 = true → s_K1n v n (s_K1e v n).1 = v) ∧ (m ≠ n → s_K1e v m = s_K1e (s_K1n v n x) m) := by
  have hO : SS (v.fields.filter fun y => !sEq y.name n) := hS.filter _
  have hI : ∀ x, SS (insF (.mk n x) (v.fields.filter fun y => !sEq y.name n)) := fun x => insF_ss hO
  have mI : ∀ x f, f ∈ insF (.mk n x) (v.fields.filter fun y => !sEq y.name n) ↔ f = .mk n x ∨ (f ∈ v.fields ∧ f.name ≠ n) := fun x f => by
    rw [insF_mem hO, mem_oth]
    exact ⟨fun g => g.elim .inl fun g => .inr g.1, fun g => g.elim .inl fun g => .inr ⟨g, g.2⟩⟩
  refine ⟨?_, ?_, ?_, fun h => ?_, fun hm => ?_⟩
  · rw [with_map hS hE, get_mk, (find_ss (hI x) n (.mk n x)).2 ⟨(mI x _).2 (.inl rfl), rfl⟩]
    rfl
  · rw [with_map hS hE, without_map (v := .mk 5 0 ⟨#[]⟩ [] (insF (.mk n x) (v.fields.filter fun y => !sEq y.name n))) (hI x) rfl, without_map hS hE]
    refine congrArg (Val.mk 5 0 ⟨#[]⟩ []) (ss_ext ((hI x).filter _) hO fun f => ?_)
    change f ∈ (insF (.mk n x) (v.fields.filter fun y => !sEq y.name n)).filter (fun y => !sEq y.name n) ↔ _
    rw [mem_oth, mI, mem_oth]
    exact ⟨fun g => g.1.elim (fun e => absurd (by rw [e]; rfl) g.2) id, fun g => ⟨.inr g, g.2⟩⟩
  · rw [without_map hS hE, get_mk]
    cases e : (v.fields.filter fun y => !sEq y.name n).find? fun y => sEq y.name n with
    | none => rfl
    | some f =>
      have := (find_ss hO n f).1 e
      exact absurd this.2 ((mem_oth n f).1 this.1).2
  · rw [with_map hS hE]
    rw [vget, found_map hE] at h ⊢
    cases e : v.fields.find? fun y => sEq y.name n with
    | none => rw [e] at h; cases h
    | some f =>
      obtain ⟨g1, g2⟩ := (find_ss hS n f).1 e
      have : insF (.mk n f.v) (v.fields.filter fun y => !sEq y.name n) = v.fields := ss_ext (hI f.v) hS fun y => by
        rw [mI, ← g2, Fld.eta]
        refine ⟨fun g => g.elim (fun e => by rw [e]; exact g1) And.left, fun g => ?_⟩
        by_cases c : y.name = f.name
        · exact .inl (hS.inj g g1 c)
        · exact .inr ⟨g, c⟩
      change Val.mk 5 0 ⟨#[]⟩ [] (insF (.mk n f.v) (v.fields.filter fun y => !sEq y.name n)) = v
      rw [this]
      exact hE.symm
  · rw [vget, found_map hE, with_map hS hE, get_mk]
    congr 1
    refine find_eq hS (hI x) m fun f hf => ?_
    rw [mI]
    exact ⟨fun g => .inr ⟨g, fun e => hm (hf.symm.trans e)⟩, fun g => g.elim (fun e => absurd (by rw [← hf, e]; rfl) hm) And.left⟩
theorem maps_holds (v : Val) (n m : ByteArray) (x : Val) (hv : Val_ok v) (_ : okS n) (_ : okS m) (hx : Val_ok x) : H_K6 v n m x ∧ s_K6 v n m x = true := by
  have key : s_Ka v = true → Val.Sm 400 v := small_sm
  have keyx : s_Ka x = true → Val.Sm 400 x := small_sm
  have S9 : s_Ka v = true → Val.Sm 999 v := fun a => (key a).mono (by omega)
  have S1 : s_Ka v = true → Val.Sm 1000 v := fun a => (key a).mono (by omega)
  have W9 : s_Ka v = true → s_Ka x = true → Val.Sm 999 (s_K1n v n x) := fun a b => by
    have h := (key a).all
    have g := oth_len v n
    rw [vwith]
    refine Sm_mp (by simp; omega) fun f hf => ?_
    rcases List.mem_append.1 hf with q | q
    · exact (h.2.2.2 f (oth_sub q)).mono (by omega)
    · rw [List.mem_singleton.1 q]; exact (keyx b).mono (by omega)
  have O9 : ∀ w, Val.Sm 999 w → Val.Sm 1000 (s_K1o w n) := fun w a => by
    have h := sm_oth a n
    rw [vwithout]
    cases w.kind == 5 with
    | true => exact Sm_mp h.1 h.2
    | false => exact a.mono (by omega)
  have G : ∀ w k B, Val.Sm B w → Val.Sm B (s_K1e w k).1 := fun w k B a => by rw [vget]; exact sm_got a k
  have E : ∀ w u B, Val.Sm B w → B ≤ 4611686018427387904 → H_Kf w u := fun w u B a b => Heq a b u
  refine ⟨⟨smallH v hv, fun _ => smallH x hx, fun _ _ _ _ => ⟨hv, hv.sm, trivial⟩, fun a b _ _ _ _ => HvWith (S9 a) n ((keyx b).mono (by omega)), fun a b _ _ _ _ => HvGet ((W9 a b).mono (by omega)) n,
    fun a b _ _ _ _ _ => E _ _ _ (G _ _ _ (W9 a b)) (by omega), fun a b _ _ _ _ _ _ => HvWithout (W9 a b) n, fun a _ _ _ _ _ _ _ => HvWithout (S9 a) n, fun a b _ _ _ _ _ _ => E _ _ _ (O9 _ (W9 a b)) (by omega),
    fun a _ _ _ _ _ _ _ _ => HvWithout (S9 a) n, fun a _ _ _ _ _ _ _ _ => HvGet (O9 _ (S9 a)) n, fun a _ _ _ _ _ _ _ _ _ => HvGet (S1 a) n, fun a _ _ _ _ _ _ _ _ _ _ => HvWith (S9 a) n (G _ _ _ (S1 a)),
    fun a _ _ _ _ _ _ _ _ _ _ => ?_, fun a _ _ _ _ _ _ _ _ _ _ _ => HvGet (S1 a) m, fun a b _ _ _ _ _ _ _ _ _ _ => HvGet ((W9 a b).mono (by omega)) m, fun a _ _ _ _ _ _ _ _ _ _ _ _ _ => E _ _ _ (G _ _ _ (S1 a)) (by omega),
    fun a _ _ _ _ _ _ _ _ _ _ => HvGet (S1 a) m, fun a b _ _ _ _ _ _ _ _ _ => HvGet ((W9 a b).mono (by omega)) m, fun a _ _ _ _ _ _ _ _ _ _ _ _ => E _ _ _ (G _ _ _ (S1 a)) (by omega), trivial⟩, ?_⟩
  · have h := sm_snoc (S9 a) n (x := (s_K1e v n).1) (G _ _ _ (S1 a))
    rw [vwith]
    exact E _ _ _ (Sm_mp h.1 h.2) (by omega)
  · unfold s_K6
    cases s_Ka v with
    | false => rfl
    | true =>
      cases s_Ka x with
      | false => rfl
      | true =>
        cases decide (200 < (ByteArray.size n : Int)) with
        | true => rfl
        | false =>
          cases decide (200 < (ByteArray.size m : Int)) with
          | true => rfl
          | false =>
            cases hV : s_K1m v with
            | false => rfl
            | true =>
              cases hk : v.kind == 5 with
              | false => rfl
              | true =>
                obtain ⟨hS, hE⟩ := valid_map hV hk
                obtain ⟨f1, f2, f3, f4, f5⟩ := maps_facts hS hE n m x
                simp only [cond_true, cond_false, f1, f2, f3, requal_self]
                have last : (bif sEq m n then true else bif (s_K1e v m).2 == (s_K1e (s_K1n v n x) m).2 then bif s_Kf (s_K1e v m).1 (s_K1e (s_K1n v n x) m).1 then true else false else false) = true := by
                  cases c : sEq m n with
                  | true => rfl
                  | false => rw [← f5 (sEq_ne.1 c), requal_self]; simp
                cases c : (s_K1e v n).2 with
                | true => rw [f4 c, requal_self]; simpa using last
                | false => simpa using last
end Go.Proofs.Ytedohmdgbilicaa
end

section
/- The library's comparison of two strings, walked: it answers as the evaluator's cmpL. -/
namespace Go.Proofs.Ytedohmdgbilicaa
open Go.Pv
theorem cmpL_eq : ∀ (a b : List UInt8), cmpL a b = Lib.compareBytes a b
  | [], [] => rfl
  | [], _ :: _ => rfl
  | _ :: _, [] => rfl
  | a :: x, b :: y => by
    rw [Lib.compareBytes, ← cmpL_eq x y]
    rfl
set_option maxHeartbeats 1000000 in
set_option maxRecDepth 100000 in
theorem comparing (a b : ByteArray) (w : World) :
    Calls Try.prog 62 #[.string a, .string b] w fun e w' => e = .returned (.int .i64 (Lib.compareBytes a.data.toList b.data.toList)) ∧ w' = w := by
  go_enter Try.func62, Try.ntmps62
  go_wp2
  rw [run_callFunc_extern Try.func69 (by kernel_rfl) (by kernel_rfl) (by kernel_rfl) (e := Extern.BytealgCompare.compare) (by kernel_rfl), Lib.run_compareString]
  simp only [Result.andThen]
  rw [Oper.upon_value]
  go_wp2
  go_ret
  exact ⟨rfl, rfl⟩
theorem cmpOK : CmpOK Try.prog 62 := by
  refine ⟨⟨_, Try.func62, by kernel_rfl, by kernel_rfl⟩, fun x y w => ?_⟩
  have h := comparing x y w
  rw [← cmpL_eq, ← toList_data, ← toList_data] at h
  exact h
end Go.Proofs.Ytedohmdgbilicaa
end

