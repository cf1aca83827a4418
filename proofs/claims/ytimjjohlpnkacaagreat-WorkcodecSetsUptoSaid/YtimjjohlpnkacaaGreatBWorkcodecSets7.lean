/- Texts of the claim, merged by a program; what the statement does not reach is left out. -/
import Derived.Test.YtimjjohlpnkacaaGreatBWorkcodecSets6
import Derived.Lib.Strings
import Derived.Lib.Slices
import Derived.Lib.Walk
import Derived.Lib.Bytealg
import Derived.Test.YtimjjohlpnkacaaGreatRows

section
/- What the reference's encoders compute (printed by a program). -/
namespace Go.Proofs.YtimjjohlpnkacaaGreat
open Go.Pv
def Qi (p0 : List Fld) (i0 : Nat) (v0_1 : List Fld) : Nat → Int → Int
 | 0, v1_0 => v1_0
 | k1 + 1, v1_0 =>
  bif (decide (v1_0 < ((List.length v0_1) : Int))) then
   bif (sLt (List.getD v0_1 (Int.toNat v1_0) zF).name (List.getD p0 i0 zF).name) then
    Qi p0 i0 v0_1 k1 (v1_0 + 1)
   else
    v1_0
  else
   v1_0
def Qvl (p0 : List Fld) (i0 : Nat) (v0_1 : List Fld) (v1_0 : Int) : List PV :=
  [.sl (Fld.rows p0), .un, .bx 0 0, .ms 1 6 0 (List.length v0_1), .int .i64 (i0 : Int), .int .i64 v1_0] ++ nuns 46
def Qhz (_p0 : List Fld) (_i0 : Nat) (v0_1 : List Fld) (_v1_0 : Int) : List Ob :=
  [⟨5, 0, true, [.int .i64 0, .int .i64 0, .str eB, .ms 2 5 0 0, .ms 3 6 0 0]⟩, ⟨6, 0, true, (Fld.rows v0_1).flatten⟩, ⟨5, 0, true, []⟩, ⟨6, 0, true, []⟩]
def Q8c (p0 : List Fld) (i0 : Nat) (v0_1 : List Fld) (v1_0 : Int) : En := .loop 0 Ir.Qjc Ir.Q1gb (Qvl p0 i0 v0_1 v1_0) (Qhz p0 i0 v0_1 v1_0)
def Q7t (p0 : List Fld) (i0 : Nat) (v0_1 : List Fld) (q0 : Int) (z : Nat → PV) (_zo : Nat → List PV) : St :=
  ⟨[.sl (Fld.rows p0), z 1, .bx 0 0, .ms 1 6 0 (List.length v0_1), .int .i64 (i0 : Int), .int .i64 q0] ++ zr z 6 46, [(0, ⟨5, 0, true, [.int .i64 0, .int .i64 0, .str eB, .ms 2 5 0 0, .ms 3 6 0 0]⟩), (1, ⟨6, 0, true, (Fld.rows v0_1).flatten⟩), (2, ⟨5, 0, true, []⟩), (3, ⟨6, 0, true, []⟩)], 1092⟩
theorem Qtj (p0 : List Fld) (i0 : Nat) (v0_1 : List Fld) (v1_0 : Int) : VOK (Go.Pv.look (number 0 (Qhz p0 i0 v0_1 v1_0))) [(1, Fld.rows v0_1)] := (VOK.cons (show Seen _ _ from Q3k (ob := ⟨6, 0, true, (Fld.rows v0_1).flatten⟩) (Fld.Qb v0_1 6 rfl)) VOK.nil)
def Qc6 (p0 : List Fld) (i0 : Nat) (v0_1 : List Fld) (e : En) (q : Int) : Prop := ∃ z zo, Q7 G e (.st (.exit 2) (Q7t p0 i0 v0_1 q z zo))
theorem Qso (p0 : List Fld) (i0 : Nat) (v0_1 : List Fld) {e e' : En} (h : ∀ r, Q7 G e r → Q7 G e' r) : ∀ q, Qc6 p0 i0 v0_1 e q → Qc6 p0 i0 v0_1 e' q
  | _, ⟨z, zo, hz⟩ => ⟨z, zo, h _ hz⟩
theorem Q16h (p0 : List Fld) (i0 : Nat) (v0_1 : List Fld) (v1_0 : Int) (ho1_0 : 0 ≤ v1_0) (_ho1_1 : v1_0 ≤ (List.length v0_1 : Int)) (ho1_2 : i0 < List.length p0) (ho1_3 : List.length (v0_1 : List Fld) ≤ 137438953472) (h0 : (decide (v1_0 < ((List.length v0_1) : Int))) = true) (h1 : (sLt (List.getD v0_1 (Int.toNat v1_0) zF).name (List.getD p0 i0 zF).name) = true) {r : Rs} (hr : Q7 G (Q8c p0 i0 v0_1 (v1_0 + 1)) r) : Q7 G (Q8c p0 i0 v0_1 v1_0) r := by
 have e0 := of_decide_eq_true h0
 exact Ql (Qtj p0 i0 v0_1 v1_0) (y := (Qvl p0 i0 v0_1 (v1_0 + 1), Qhz p0 i0 v0_1 (v1_0 + 1))) [hB 3 h0, hP 3 (Q4n 1 6 (List.length v0_1) v1_0 (Int.toNat v1_0) rfl (by omega) (by omega)), hP 1 (Qan 1 6 0 true ((Fld.rows v0_1).flatten) (Fld.rows v0_1) 1 false (Int.toNat v1_0) 0 ((Int.toNat v1_0) * 6) (Fld.cells (List.getD v0_1 (Int.toNat v1_0) zF)) (.str (List.getD v0_1 (Int.toNat v1_0) zF).name) rfl rfl (Fld.Qo (Q4u v0_1 (Int.toNat v1_0) zF (by omega))) (Fld.Qu v0_1) (by decide) rfl), hP 2 (Q1gz 6 (Fld.rows p0) (i0 : Int) _ (by omega) (Fld.Qo (Q4u p0 (Int.toNat (i0 : Int)) zF (by omega))) rfl), hB 2 h1, hP 2 (w_ok (v1_0 + 1) (by omega))] [] (by kernel_rfl) hr
def Qpp (p0 : List Fld) (i0 : Nat) (v0_1 : List Fld) (v1_0 : Int) : List PV :=
  nuns 13 ++ [.int .i64 v1_0, .ms 1 6 0 (List.length v0_1), .int .i64 ((List.length v0_1) : Int), .bool true, .bool true, .ms 1 6 0 (List.length v0_1), .int .i64 v1_0, .bx 1 ((Int.toNat v1_0) * 6), .bx 1 ((Int.toNat v1_0) * 6), .str (List.getD v0_1 (Int.toNat v1_0) zF).name, .sl (Fld.rows p0), .int .i64 (i0 : Int), .rf [.str (List.getD p0 i0 zF).name, .int .i64 (List.getD p0 i0 zF).v.kind, .int .i64 (List.getD p0 i0 zF).v.n, .str (List.getD p0 i0 zF).v.s, .sl (Val.rows (List.getD p0 i0 zF).v.list), .sl (Fld.rows (List.getD p0 i0 zF).v.fields)], .rf [.str (List.getD p0 i0 zF).name, .int .i64 (List.getD p0 i0 zF).v.kind, .int .i64 (List.getD p0 i0 zF).v.n, .str (List.getD p0 i0 zF).v.s, .sl (Val.rows (List.getD p0 i0 zF).v.list), .sl (Fld.rows (List.getD p0 i0 zF).v.fields)], .str (List.getD p0 i0 zF).name, .bool false, .bool false]
def Qkv (_p0 : List Fld) (_i0 : Nat) (_v0_1 : List Fld) (_v1_0 : Int) : List (Nat × List PV) :=
  []
theorem Q18k (p0 : List Fld) (i0 : Nat) (v0_1 : List Fld) (v1_0 : Int) (ho1_0 : 0 ≤ v1_0) (_ho1_1 : v1_0 ≤ (List.length v0_1 : Int)) (ho1_2 : i0 < List.length p0) (ho1_3 : List.length (v0_1 : List Fld) ≤ 137438953472) (h0 : (decide (v1_0 < ((List.length v0_1) : Int))) = true) (h1 : (sLt (List.getD v0_1 (Int.toNat v1_0) zF).name (List.getD p0 i0 zF).name) = false) : Qc6 p0 i0 v0_1 (Q8c p0 i0 v0_1 v1_0) v1_0 := by
 have e0 := of_decide_eq_true h0
 exact ⟨(envF (Qpp p0 i0 v0_1 v1_0)), (zoF (Qkv p0 i0 v0_1 v1_0)), Qm (Qtj p0 i0 v0_1 v1_0) (x := ((.exit 2), Q7t p0 i0 v0_1 v1_0 (envF (Qpp p0 i0 v0_1 v1_0)) (zoF (Qkv p0 i0 v0_1 v1_0)))) [hB 3 h0, hP 3 (Q4n 1 6 (List.length v0_1) v1_0 (Int.toNat v1_0) rfl (by omega) (by omega)), hP 1 (Qan 1 6 0 true ((Fld.rows v0_1).flatten) (Fld.rows v0_1) 1 false (Int.toNat v1_0) 0 ((Int.toNat v1_0) * 6) (Fld.cells (List.getD v0_1 (Int.toNat v1_0) zF)) (.str (List.getD v0_1 (Int.toNat v1_0) zF).name) rfl rfl (Fld.Qo (Q4u v0_1 (Int.toNat v1_0) zF (by omega))) (Fld.Qu v0_1) (by decide) rfl), hP 2 (Q1gz 6 (Fld.rows p0) (i0 : Int) _ (by omega) (Fld.Qo (Q4u p0 (Int.toNat (i0 : Int)) zF (by omega))) rfl), hB 2 h1] [] (by kernel_rfl)⟩
def Qpq (_p0 : List Fld) (_i0 : Nat) (v0_1 : List Fld) (v1_0 : Int) : List PV :=
  nuns 13 ++ [.int .i64 v1_0, .ms 1 6 0 (List.length v0_1), .int .i64 ((List.length v0_1) : Int), .bool false, .bool false, .tup [], .tup [], .tup [], .tup [], .tup [], .tup [], .tup [], .tup [], .tup [], .tup [], .tup [], .bool false]
def Qkw (_p0 : List Fld) (_i0 : Nat) (_v0_1 : List Fld) (_v1_0 : Int) : List (Nat × List PV) :=
  []
theorem Q18l (p0 : List Fld) (i0 : Nat) (v0_1 : List Fld) (v1_0 : Int) (_ho1_0 : 0 ≤ v1_0) (_ho1_1 : v1_0 ≤ (List.length v0_1 : Int)) (_ho1_2 : i0 < List.length p0) (_ho1_3 : List.length (v0_1 : List Fld) ≤ 137438953472) (h0 : (decide (v1_0 < ((List.length v0_1) : Int))) = false) : Qc6 p0 i0 v0_1 (Q8c p0 i0 v0_1 v1_0) v1_0 := by
 exact ⟨(envF (Qpq p0 i0 v0_1 v1_0)), (zoF (Qkw p0 i0 v0_1 v1_0)), Qm (Qtj p0 i0 v0_1 v1_0) (x := ((.exit 2), Q7t p0 i0 v0_1 v1_0 (envF (Qpq p0 i0 v0_1 v1_0)) (zoF (Qkw p0 i0 v0_1 v1_0)))) [hB 3 h0] [] (by kernel_rfl)⟩
theorem Qyi (p0 : List Fld) (i0 : Nat) (v0_1 : List Fld) : ∀ (k1 : Nat) (v1_0 : Int), 0 ≤ v1_0 → v1_0 ≤ (List.length v0_1 : Int) → i0 < List.length p0 → List.length (v0_1 : List Fld) ≤ 137438953472 → Int.toNat ((List.length v0_1 : Int) - v1_0) < k1 → Qc6 p0 i0 v0_1 (Q8c p0 i0 v0_1 v1_0) (Qi p0 i0 v0_1 k1 v1_0)
 | 0, v1_0, _, _, _, _, hm => absurd hm (Nat.not_lt_zero _)
 | k1 + 1, v1_0, ho1_0, ho1_1, ho1_2, ho1_3, hm => by
  rw [Qi]
  cases h0 : (decide (v1_0 < ((List.length v0_1) : Int))) with
  | true =>
   have e0 := of_decide_eq_true h0
   cases h1 : (sLt (List.getD v0_1 (Int.toNat v1_0) zF).name (List.getD p0 i0 zF).name) with
   | true =>
    exact Qso p0 i0 v0_1 (fun r hr => Q16h p0 i0 v0_1 v1_0 ho1_0 ho1_1 ho1_2 ho1_3 h0 h1 hr) _ (Qyi p0 i0 v0_1 k1 (v1_0 + 1) (by omega) (by omega) (by omega) (by omega) (by omega))
   | false =>
    exact Q18k p0 i0 v0_1 v1_0 ho1_0 ho1_1 ho1_2 ho1_3 h0 h1
  | false =>
   exact Q18l p0 i0 v0_1 v1_0 ho1_0 ho1_1 ho1_2 ho1_3 h0
theorem Q38 (p0 : List Fld) (i0 : Nat) (v0_1 : List Fld) : ∀ (k1 : Nat) (v1_0 : Int), 0 ≤ v1_0 → v1_0 ≤ (List.length v0_1 : Int) → i0 < List.length p0 → List.length (v0_1 : List Fld) ≤ 137438953472 → Int.toNat ((List.length v0_1 : Int) - v1_0) < k1 → 0 ≤ (Qi p0 i0 v0_1 k1 v1_0) ∧ (Qi p0 i0 v0_1 k1 v1_0) ≤ (List.length v0_1 : Int)
 | 0, v1_0, _, _, _, _, hm => absurd hm (Nat.not_lt_zero _)
 | k1 + 1, v1_0, ho1_0, ho1_1, ho1_2, ho1_3, hm => by
  rw [Qi]
  cases h0 : (decide (v1_0 < ((List.length v0_1) : Int))) with
  | true =>
   have e0 := of_decide_eq_true h0
   cases h1 : (sLt (List.getD v0_1 (Int.toNat v1_0) zF).name (List.getD p0 i0 zF).name) with
   | true =>
    exact Q38 p0 i0 v0_1 k1 (v1_0 + 1) (by omega) (by omega) (by omega) (by omega) (by omega)
   | false =>
    exact (show 0 ≤ v1_0 ∧ v1_0 ≤ (List.length v0_1 : Int) from ⟨(by omega), (by omega)⟩)
  | false =>
   have e0 := of_decide_eq_false h0
   exact (show 0 ≤ v1_0 ∧ v1_0 ≤ (List.length v0_1 : Int) from ⟨(by omega), (by omega)⟩)
def Q6o (p0 : List Fld) : List Fld → Nat → (List Fld) → List Fld
 | [], _i0, v0_1 =>
  v0_1
 | x0 :: r0, i0, v0_1 =>
  bif ((Int.toNat (Qi p0 i0 v0_1 ((Int.toNat ((List.length v0_1 : Int) - 0)) + 1) 0)) == 0) then
   Q6o p0 r0 (i0 + 1) ([x0] ++ (List.take ((List.length v0_1) - (Int.toNat (Qi p0 i0 v0_1 ((Int.toNat ((List.length v0_1 : Int) - 0)) + 1) 0))) (List.drop (Int.toNat (Qi p0 i0 v0_1 ((Int.toNat ((List.length v0_1 : Int) - 0)) + 1) 0)) v0_1)))
  else
   Q6o p0 r0 (i0 + 1) (((List.take (Int.toNat (Qi p0 i0 v0_1 ((Int.toNat ((List.length v0_1 : Int) - 0)) + 1) 0)) v0_1) ++ [x0]) ++ (List.take ((List.length v0_1) - (Int.toNat (Qi p0 i0 v0_1 ((Int.toNat ((List.length v0_1 : Int) - 0)) + 1) 0))) (List.drop (Int.toNat (Qi p0 i0 v0_1 ((Int.toNat ((List.length v0_1 : Int) - 0)) + 1) 0)) v0_1)))
def Qhm (p0 : List Fld) (i0 : Nat) (v0_1 : List Fld) : List PV :=
  [.sl (Fld.rows p0), .un, .bx 0 0, .ms 1 6 0 (List.length v0_1), .int .i64 (i0 : Int)] ++ nuns 47
def Qbu (_p0 : List Fld) (_i0 : Nat) (v0_1 : List Fld) : List Ob :=
  [⟨5, 0, true, [.int .i64 0, .int .i64 0, .str eB, .ms 2 5 0 0, .ms 3 6 0 0]⟩, ⟨6, 0, true, (Fld.rows v0_1).flatten⟩, ⟨5, 0, true, []⟩, ⟨6, 0, true, []⟩]
def Q9z (p0 : List Fld) (i0 : Nat) (v0_1 : List Fld) : En := .loop 0 Ir.Qjb Ir.Q1ga (Qhm p0 i0 v0_1) (Qbu p0 i0 v0_1)
def Qo6 (_p0 : List Fld) (q0 : List Fld) (z : Nat → PV) (_zo : Nat → List PV) : St :=
  ⟨[z 0, z 1, .bx 0 0, .ms 1 6 0 (List.length q0)] ++ zr z 4 48, [(0, ⟨5, 0, true, [.int .i64 0, .int .i64 0, .str eB, .ms 2 5 0 0, .ms 3 6 0 0]⟩), (1, ⟨6, 0, true, (Fld.rows q0).flatten⟩), (2, ⟨5, 0, true, []⟩), (3, ⟨6, 0, true, []⟩)], 260⟩
theorem Qti (p0 : List Fld) (i0 : Nat) (v0_1 : List Fld) : VOK (Go.Pv.look (number 0 (Qbu p0 i0 v0_1))) [(1, Fld.rows v0_1)] := (VOK.cons (show Seen _ _ from Q3k (ob := ⟨6, 0, true, (Fld.rows v0_1).flatten⟩) (Fld.Qb v0_1 6 rfl)) VOK.nil)
def Qgu (p0 : List Fld) (e : En) (q : List Fld) : Prop := ∃ z zo, Q7 G e (.st (.exit 0) (Qo6 p0 q z zo))
theorem Qc5 (p0 : List Fld) {e e' : En} (h : ∀ r, Q7 G e r → Q7 G e' r) : ∀ q, Qgu p0 e q → Qgu p0 e' q
  | _, ⟨z, zo, hz⟩ => ⟨z, zo, h _ hz⟩
def Qby (p0 : List Fld) : Prop := (List.length p0 ≤ 137438953472) ∧ (∀ (i0 : Nat) (v0_1 : List Fld) (x0 : Fld), p0[i0]? = some x0 → List.length v0_1 ≤ i0 → List.length (v0_1 : List Fld) ≤ i0 → ((Int.toNat (Qi p0 i0 v0_1 ((Int.toNat ((List.length v0_1 : Int) - 0)) + 1) 0)) == 0) = false → ((List.length (List.take (Int.toNat (Qi p0 i0 v0_1 ((Int.toNat ((List.length v0_1 : Int) - 0)) + 1) 0)) v0_1)) + 1) * 96 ≤ 140737488355328) ∧ (∀ (i0 : Nat) (v0_1 : List Fld) (x0 : Fld), p0[i0]? = some x0 → List.length v0_1 ≤ i0 → List.length (v0_1 : List Fld) ≤ i0 → ((Int.toNat (Qi p0 i0 v0_1 ((Int.toNat ((List.length v0_1 : Int) - 0)) + 1) 0)) == 0) = true → List.length (([x0] ++ (List.take ((List.length v0_1) - (Int.toNat (Qi p0 i0 v0_1 ((Int.toNat ((List.length v0_1 : Int) - 0)) + 1) 0))) (List.drop (Int.toNat (Qi p0 i0 v0_1 ((Int.toNat ((List.length v0_1 : Int) - 0)) + 1) 0)) v0_1))) : List Fld) ≤ (i0 + 1)) ∧ (∀ (i0 : Nat) (v0_1 : List Fld) (x0 : Fld), p0[i0]? = some x0 → List.length v0_1 ≤ i0 → List.length (v0_1 : List Fld) ≤ i0 → ((Int.toNat (Qi p0 i0 v0_1 ((Int.toNat ((List.length v0_1 : Int) - 0)) + 1) 0)) == 0) = false → List.length ((((List.take (Int.toNat (Qi p0 i0 v0_1 ((Int.toNat ((List.length v0_1 : Int) - 0)) + 1) 0)) v0_1) ++ [x0]) ++ (List.take ((List.length v0_1) - (Int.toNat (Qi p0 i0 v0_1 ((Int.toNat ((List.length v0_1 : Int) - 0)) + 1) 0))) (List.drop (Int.toNat (Qi p0 i0 v0_1 ((Int.toNat ((List.length v0_1 : Int) - 0)) + 1) 0)) v0_1))) : List Fld) ≤ (i0 + 1)) ∧ True
def Qpo (p0 : List Fld) (i0 : Nat) (_v0_1 : List Fld) : List PV :=
  [.sl (Fld.rows p0), .un, .un, .un, .int .i64 (i0 : Int), .un, .un, .int .i64 (i0 : Int), .sl (Fld.rows p0), .int .i64 ((List.length p0) : Int), .bool false]
def Qku (_p0 : List Fld) (_i0 : Nat) (_v0_1 : List Fld) : List (Nat × List PV) :=
  []
theorem Q18j (p0 : List Fld) (_H : Qby p0) (i0 : Nat) (v0_1 : List Fld) (_ho0_0 : List.length v0_1 ≤ i0) (_ho0_1 : List.length (v0_1 : List Fld) ≤ i0) (hc0 : (decide ((i0 : Int) < ((List.length p0) : Int))) = false) : Qgu p0 (Q9z p0 i0 v0_1) v0_1 := by
 exact ⟨(envF (Qpo p0 i0 v0_1)), (zoF (Qku p0 i0 v0_1)), Qm (Qti p0 i0 v0_1) (x := ((.exit 0), Qo6 p0 v0_1 (envF (Qpo p0 i0 v0_1)) (zoF (Qku p0 i0 v0_1)))) [hP 2 (Q11 (Fld.rows p0) (List.length p0) (Fld.Q9 p0)), hB 0 hc0] [] (by kernel_rfl)⟩
theorem Q16f (p0 : List Fld) (H : Qby p0) (x0 : Fld) (i0 : Nat) (v0_1 : List Fld) (hx0 : p0[i0]? = some x0) (hi0 : i0 < List.length p0) (ho0_0 : List.length v0_1 ≤ i0) (_ho0_1 : List.length (v0_1 : List Fld) ≤ i0) (hc0 : (decide ((i0 : Int) < ((List.length p0) : Int))) = true) (z0 : Nat → PV) (zo0 : Nat → List PV) (hl0 : Q7 G (Q8c p0 i0 v0_1 0) (.st (.exit 2) (Q7t p0 i0 v0_1 (Qi p0 i0 v0_1 ((Int.toNat ((List.length v0_1 : Int) - 0)) + 1) 0) z0 zo0))) (h0 : ((Int.toNat (Qi p0 i0 v0_1 ((Int.toNat ((List.length v0_1 : Int) - 0)) + 1) 0)) == 0) = true) {r : Rs} (hr : Q7 G (Q9z p0 (i0 + 1) ([x0] ++ (List.take ((List.length v0_1) - (Int.toNat (Qi p0 i0 v0_1 ((Int.toNat ((List.length v0_1 : Int) - 0)) + 1) 0))) (List.drop (Int.toNat (Qi p0 i0 v0_1 ((Int.toNat ((List.length v0_1 : Int) - 0)) + 1) 0)) v0_1)))) r) : Q7 G (Q9z p0 i0 v0_1) r := by
 have hB0 := H.1; have e0 := eq_of_beq h0
 exact Ql (Qti p0 i0 v0_1) (y := (Qhm p0 (i0 + 1) ([x0] ++ (List.take ((List.length v0_1) - (Int.toNat (Qi p0 i0 v0_1 ((Int.toNat ((List.length v0_1 : Int) - 0)) + 1) 0))) (List.drop (Int.toNat (Qi p0 i0 v0_1 ((Int.toNat ((List.length v0_1 : Int) - 0)) + 1) 0)) v0_1))), Qbu p0 (i0 + 1) ([x0] ++ (List.take ((List.length v0_1) - (Int.toNat (Qi p0 i0 v0_1 ((Int.toNat ((List.length v0_1 : Int) - 0)) + 1) 0))) (List.drop (Int.toNat (Qi p0 i0 v0_1 ((Int.toNat ((List.length v0_1 : Int) - 0)) + 1) 0)) v0_1))))) [hP 2 (Q11 (Fld.rows p0) (List.length p0) (Fld.Q9 p0)), hB 0 hc0, hS 0 true (Fld.Qb v0_1 6 rfl), hP 5 (Q14k 1 6 (List.length v0_1) (Qi p0 i0 v0_1 ((Int.toNat ((List.length v0_1 : Int) - 0)) + 1) 0) (by have g0 := Q38 p0 i0 v0_1 ((Int.toNat ((List.length v0_1 : Int) - 0)) + 1) 0 (by omega) (by omega) (by omega) (by omega) (by omega); omega) (by have g0 := Q38 p0 i0 v0_1 ((Int.toNat ((List.length v0_1 : Int) - 0)) + 1) 0 (by omega) (by omega) (by omega) (by omega) (by omega); omega)), hP 0 (Q1dj 1 1412 6 96 0 true (Fld.rows v0_1) 0 (Int.toNat (Qi p0 i0 v0_1 ((Int.toNat ((List.length v0_1 : Int) - 0)) + 1) 0)) (Fld.Qu v0_1) (by rw [Fld.Q9]; exact (by have g0 := Q38 p0 i0 v0_1 ((Int.toNat ((List.length v0_1 : Int) - 0)) + 1) 0 (by omega) (by omega) (by omega) (by omega) (by omega); omega)) (eq_of_beq h0)), hP 4 (Q2s 6 (Fld.rows p0) i0 _ (Fld.Qo hx0) rfl), hP 7 (Q12p 1 6 (List.length v0_1) (Qi p0 i0 v0_1 ((Int.toNat ((List.length v0_1 : Int) - 0)) + 1) 0) (by have g0 := Q38 p0 i0 v0_1 ((Int.toNat ((List.length v0_1 : Int) - 0)) + 1) 0 (by omega) (by omega) (by omega) (by omega) (by omega); omega) (by have g0 := Q38 p0 i0 v0_1 ((Int.toNat ((List.length v0_1 : Int) - 0)) + 1) 0 (by omega) (by omega) (by omega) (by omega) (by omega); omega)), hV 0 [(2308, Fld.rows ([x0] ++ (List.take ((List.length v0_1) - (Int.toNat (Qi p0 i0 v0_1 ((Int.toNat ((List.length v0_1 : Int) - 0)) + 1) 0))) (List.drop (Int.toNat (Qi p0 i0 v0_1 ((Int.toNat ((List.length v0_1 : Int) - 0)) + 1) 0)) v0_1))))] (Q1a0 1924 1 2308 6 96 0 [.str x0.name, .int .i64 x0.v.kind, .int .i64 x0.v.n, .str x0.v.s, .sl (Val.rows x0.v.list), .sl (Fld.rows x0.v.fields)] (Fld.rows [x0]) 0 true (Fld.rows v0_1) (Fld.rows ([x0] ++ (List.take ((List.length v0_1) - (Int.toNat (Qi p0 i0 v0_1 ((Int.toNat ((List.length v0_1 : Int) - 0)) + 1) 0))) (List.drop (Int.toNat (Qi p0 i0 v0_1 ((Int.toNat ((List.length v0_1 : Int) - 0)) + 1) 0)) v0_1)))) 1 (Int.toNat (Qi p0 i0 v0_1 ((Int.toNat ((List.length v0_1 : Int) - 0)) + 1) 0)) ((List.length v0_1) - (Int.toNat (Qi p0 i0 v0_1 ((Int.toNat ((List.length v0_1 : Int) - 0)) + 1) 0))) (List.length ([x0] ++ (List.take ((List.length v0_1) - (Int.toNat (Qi p0 i0 v0_1 ((Int.toNat ((List.length v0_1 : Int) - 0)) + 1) 0))) (List.drop (Int.toNat (Qi p0 i0 v0_1 ((Int.toNat ((List.length v0_1 : Int) - 0)) + 1) 0)) v0_1)))) rfl (by simp only [Fld.Qy, Fld.Q1b]; rfl) (Fld.Q9 [x0]).symm (Fld.Q9 ([x0] ++ (List.take ((List.length v0_1) - (Int.toNat (Qi p0 i0 v0_1 ((Int.toNat ((List.length v0_1 : Int) - 0)) + 1) 0))) (List.drop (Int.toNat (Qi p0 i0 v0_1 ((Int.toNat ((List.length v0_1 : Int) - 0)) + 1) 0)) v0_1)))).symm (by rw [Fld.Q10z, Fld.Qhh, Fld.Quk]) (Fld.Qu [x0]) (Fld.Qu v0_1) (by rw [Fld.Q9]; exact (by have g0 := Q38 p0 i0 v0_1 ((Int.toNat ((List.length v0_1 : Int) - 0)) + 1) 0 (by omega) (by omega) (by omega) (by omega) (by omega); omega)) (by have g0 := Q38 p0 i0 v0_1 ((Int.toNat ((List.length v0_1 : Int) - 0)) + 1) 0 (by omega) (by omega) (by omega) (by omega) (by omega); omega)), hS 0 true (Fld.Qb ([x0] ++ (List.take ((List.length v0_1) - (Int.toNat (Qi p0 i0 v0_1 ((Int.toNat ((List.length v0_1 : Int) - 0)) + 1) 0))) (List.drop (Int.toNat (Qi p0 i0 v0_1 ((Int.toNat ((List.length v0_1 : Int) - 0)) + 1) 0)) v0_1))) 6 rfl), hP 4 (Q2g i0 (by omega))] [aV [(1, Fld.rows v0_1)] hl0] (by kernel_rfl) hr
theorem Q16g (p0 : List Fld) (H : Qby p0) (x0 : Fld) (i0 : Nat) (v0_1 : List Fld) (hx0 : p0[i0]? = some x0) (hi0 : i0 < List.length p0) (ho0_0 : List.length v0_1 ≤ i0) (ho0_1 : List.length (v0_1 : List Fld) ≤ i0) (hc0 : (decide ((i0 : Int) < ((List.length p0) : Int))) = true) (z0 : Nat → PV) (zo0 : Nat → List PV) (hl0 : Q7 G (Q8c p0 i0 v0_1 0) (.st (.exit 2) (Q7t p0 i0 v0_1 (Qi p0 i0 v0_1 ((Int.toNat ((List.length v0_1 : Int) - 0)) + 1) 0) z0 zo0))) (h0 : ((Int.toNat (Qi p0 i0 v0_1 ((Int.toNat ((List.length v0_1 : Int) - 0)) + 1) 0)) == 0) = false) {r : Rs} (hr : Q7 G (Q9z p0 (i0 + 1) (((List.take (Int.toNat (Qi p0 i0 v0_1 ((Int.toNat ((List.length v0_1 : Int) - 0)) + 1) 0)) v0_1) ++ [x0]) ++ (List.take ((List.length v0_1) - (Int.toNat (Qi p0 i0 v0_1 ((Int.toNat ((List.length v0_1 : Int) - 0)) + 1) 0))) (List.drop (Int.toNat (Qi p0 i0 v0_1 ((Int.toNat ((List.length v0_1 : Int) - 0)) + 1) 0)) v0_1)))) r) : Q7 G (Q9z p0 i0 v0_1) r := by
 have hB0 := H.1; have e0 := beq_eq_false_iff_ne.1 h0
 exact Ql (Qti p0 i0 v0_1) (y := (Qhm p0 (i0 + 1) (((List.take (Int.toNat (Qi p0 i0 v0_1 ((Int.toNat ((List.length v0_1 : Int) - 0)) + 1) 0)) v0_1) ++ [x0]) ++ (List.take ((List.length v0_1) - (Int.toNat (Qi p0 i0 v0_1 ((Int.toNat ((List.length v0_1 : Int) - 0)) + 1) 0))) (List.drop (Int.toNat (Qi p0 i0 v0_1 ((Int.toNat ((List.length v0_1 : Int) - 0)) + 1) 0)) v0_1))), Qbu p0 (i0 + 1) (((List.take (Int.toNat (Qi p0 i0 v0_1 ((Int.toNat ((List.length v0_1 : Int) - 0)) + 1) 0)) v0_1) ++ [x0]) ++ (List.take ((List.length v0_1) - (Int.toNat (Qi p0 i0 v0_1 ((Int.toNat ((List.length v0_1 : Int) - 0)) + 1) 0))) (List.drop (Int.toNat (Qi p0 i0 v0_1 ((Int.toNat ((List.length v0_1 : Int) - 0)) + 1) 0)) v0_1))))) [hP 2 (Q11 (Fld.rows p0) (List.length p0) (Fld.Q9 p0)), hB 0 hc0, hS 0 true (Fld.Qb v0_1 6 rfl), hP 5 (Q14k 1 6 (List.length v0_1) (Qi p0 i0 v0_1 ((Int.toNat ((List.length v0_1 : Int) - 0)) + 1) 0) (by have g0 := Q38 p0 i0 v0_1 ((Int.toNat ((List.length v0_1 : Int) - 0)) + 1) 0 (by omega) (by omega) (by omega) (by omega) (by omega); omega) (by have g0 := Q38 p0 i0 v0_1 ((Int.toNat ((List.length v0_1 : Int) - 0)) + 1) 0 (by omega) (by omega) (by omega) (by omega) (by omega); omega)), hV 0 [(1412, Fld.rows (List.take (Int.toNat (Qi p0 i0 v0_1 ((Int.toNat ((List.length v0_1 : Int) - 0)) + 1) 0)) v0_1))] (Q1pw 1 1412 6 96 0 true (Fld.rows v0_1) (Fld.rows (List.take (Int.toNat (Qi p0 i0 v0_1 ((Int.toNat ((List.length v0_1 : Int) - 0)) + 1) 0)) v0_1)) 0 (Int.toNat (Qi p0 i0 v0_1 ((Int.toNat ((List.length v0_1 : Int) - 0)) + 1) 0)) (List.length (List.take (Int.toNat (Qi p0 i0 v0_1 ((Int.toNat ((List.length v0_1 : Int) - 0)) + 1) 0)) v0_1)) (Fld.Qu v0_1) (by rw [Fld.Q9]; exact (by have g0 := Q38 p0 i0 v0_1 ((Int.toNat ((List.length v0_1 : Int) - 0)) + 1) 0 (by omega) (by omega) (by omega) (by omega) (by omega); omega)) (beq_eq_false_iff_ne.1 h0) (by rw [Fld.Qhh]; rfl) (by have g0 := Q38 p0 i0 v0_1 ((Int.toNat ((List.length v0_1 : Int) - 0)) + 1) 0 (by omega) (by omega) (by omega) (by omega) (by omega); try simp only [List.length_take]; omega) (by have g0 := Q38 p0 i0 v0_1 ((Int.toNat ((List.length v0_1 : Int) - 0)) + 1) 0 (by omega) (by omega) (by omega) (by omega) (by omega); omega)), hS 0 true (Fld.Qb (List.take (Int.toNat (Qi p0 i0 v0_1 ((Int.toNat ((List.length v0_1 : Int) - 0)) + 1) 0)) v0_1) 6 rfl), hP 4 (Q2s 6 (Fld.rows p0) i0 _ (Fld.Qo hx0) rfl), hV 2 [(1924, Fld.rows ((List.take (Int.toNat (Qi p0 i0 v0_1 ((Int.toNat ((List.length v0_1 : Int) - 0)) + 1) 0)) v0_1) ++ [x0]))] (Q42 1412 1860 1924 6 96 0 0 true (Fld.rows (List.take (Int.toNat (Qi p0 i0 v0_1 ((Int.toNat ((List.length v0_1 : Int) - 0)) + 1) 0)) v0_1)) (Fld.rows ((List.take (Int.toNat (Qi p0 i0 v0_1 ((Int.toNat ((List.length v0_1 : Int) - 0)) + 1) 0)) v0_1) ++ [x0])) (Fld.cells x0) (List.length (List.take (Int.toNat (Qi p0 i0 v0_1 ((Int.toNat ((List.length v0_1 : Int) - 0)) + 1) 0)) v0_1)) (List.length ((List.take (Int.toNat (Qi p0 i0 v0_1 ((Int.toNat ((List.length v0_1 : Int) - 0)) + 1) 0)) v0_1) ++ [x0])) rfl (Fld.Q9 (List.take (Int.toNat (Qi p0 i0 v0_1 ((Int.toNat ((List.length v0_1 : Int) - 0)) + 1) 0)) v0_1)).symm (Fld.Q9 ((List.take (Int.toNat (Qi p0 i0 v0_1 ((Int.toNat ((List.length v0_1 : Int) - 0)) + 1) 0)) v0_1) ++ [x0])).symm (Fld.Q1t (List.take (Int.toNat (Qi p0 i0 v0_1 ((Int.toNat ((List.length v0_1 : Int) - 0)) + 1) 0)) v0_1) x0) (Fld.Qu (List.take (Int.toNat (Qi p0 i0 v0_1 ((Int.toNat ((List.length v0_1 : Int) - 0)) + 1) 0)) v0_1)) rfl ((H.2.1 i0 v0_1 x0 hx0 ho0_0 ho0_1) h0)), hS 0 true (Fld.Qb ((List.take (Int.toNat (Qi p0 i0 v0_1 ((Int.toNat ((List.length v0_1 : Int) - 0)) + 1) 0)) v0_1) ++ [x0]) 6 rfl), hP 4 (Q12p 1 6 (List.length v0_1) (Qi p0 i0 v0_1 ((Int.toNat ((List.length v0_1 : Int) - 0)) + 1) 0) (by have g0 := Q38 p0 i0 v0_1 ((Int.toNat ((List.length v0_1 : Int) - 0)) + 1) 0 (by omega) (by omega) (by omega) (by omega) (by omega); omega) (by have g0 := Q38 p0 i0 v0_1 ((Int.toNat ((List.length v0_1 : Int) - 0)) + 1) 0 (by omega) (by omega) (by omega) (by omega) (by omega); omega)), hV 0 [(2308, Fld.rows (((List.take (Int.toNat (Qi p0 i0 v0_1 ((Int.toNat ((List.length v0_1 : Int) - 0)) + 1) 0)) v0_1) ++ [x0]) ++ (List.take ((List.length v0_1) - (Int.toNat (Qi p0 i0 v0_1 ((Int.toNat ((List.length v0_1 : Int) - 0)) + 1) 0))) (List.drop (Int.toNat (Qi p0 i0 v0_1 ((Int.toNat ((List.length v0_1 : Int) - 0)) + 1) 0)) v0_1))))] (Q1a0 1924 1 2308 6 96 0 ((Fld.rows ((List.take (Int.toNat (Qi p0 i0 v0_1 ((Int.toNat ((List.length v0_1 : Int) - 0)) + 1) 0)) v0_1) ++ [x0])).flatten) (Fld.rows ((List.take (Int.toNat (Qi p0 i0 v0_1 ((Int.toNat ((List.length v0_1 : Int) - 0)) + 1) 0)) v0_1) ++ [x0])) 0 true (Fld.rows v0_1) (Fld.rows (((List.take (Int.toNat (Qi p0 i0 v0_1 ((Int.toNat ((List.length v0_1 : Int) - 0)) + 1) 0)) v0_1) ++ [x0]) ++ (List.take ((List.length v0_1) - (Int.toNat (Qi p0 i0 v0_1 ((Int.toNat ((List.length v0_1 : Int) - 0)) + 1) 0))) (List.drop (Int.toNat (Qi p0 i0 v0_1 ((Int.toNat ((List.length v0_1 : Int) - 0)) + 1) 0)) v0_1)))) (List.length ((List.take (Int.toNat (Qi p0 i0 v0_1 ((Int.toNat ((List.length v0_1 : Int) - 0)) + 1) 0)) v0_1) ++ [x0])) (Int.toNat (Qi p0 i0 v0_1 ((Int.toNat ((List.length v0_1 : Int) - 0)) + 1) 0)) ((List.length v0_1) - (Int.toNat (Qi p0 i0 v0_1 ((Int.toNat ((List.length v0_1 : Int) - 0)) + 1) 0))) (List.length (((List.take (Int.toNat (Qi p0 i0 v0_1 ((Int.toNat ((List.length v0_1 : Int) - 0)) + 1) 0)) v0_1) ++ [x0]) ++ (List.take ((List.length v0_1) - (Int.toNat (Qi p0 i0 v0_1 ((Int.toNat ((List.length v0_1 : Int) - 0)) + 1) 0))) (List.drop (Int.toNat (Qi p0 i0 v0_1 ((Int.toNat ((List.length v0_1 : Int) - 0)) + 1) 0)) v0_1)))) rfl rfl (Fld.Q9 ((List.take (Int.toNat (Qi p0 i0 v0_1 ((Int.toNat ((List.length v0_1 : Int) - 0)) + 1) 0)) v0_1) ++ [x0])).symm (Fld.Q9 (((List.take (Int.toNat (Qi p0 i0 v0_1 ((Int.toNat ((List.length v0_1 : Int) - 0)) + 1) 0)) v0_1) ++ [x0]) ++ (List.take ((List.length v0_1) - (Int.toNat (Qi p0 i0 v0_1 ((Int.toNat ((List.length v0_1 : Int) - 0)) + 1) 0))) (List.drop (Int.toNat (Qi p0 i0 v0_1 ((Int.toNat ((List.length v0_1 : Int) - 0)) + 1) 0)) v0_1)))).symm (by rw [Fld.Q10z, Fld.Qhh, Fld.Quk]) (Fld.Qu ((List.take (Int.toNat (Qi p0 i0 v0_1 ((Int.toNat ((List.length v0_1 : Int) - 0)) + 1) 0)) v0_1) ++ [x0])) (Fld.Qu v0_1) (by rw [Fld.Q9]; exact (by have g0 := Q38 p0 i0 v0_1 ((Int.toNat ((List.length v0_1 : Int) - 0)) + 1) 0 (by omega) (by omega) (by omega) (by omega) (by omega); omega)) (by have g0 := Q38 p0 i0 v0_1 ((Int.toNat ((List.length v0_1 : Int) - 0)) + 1) 0 (by omega) (by omega) (by omega) (by omega) (by omega); try simp only [List.length_append, List.length_cons, List.length_nil, List.length_take]; omega)), hS 0 true (Fld.Qb (((List.take (Int.toNat (Qi p0 i0 v0_1 ((Int.toNat ((List.length v0_1 : Int) - 0)) + 1) 0)) v0_1) ++ [x0]) ++ (List.take ((List.length v0_1) - (Int.toNat (Qi p0 i0 v0_1 ((Int.toNat ((List.length v0_1 : Int) - 0)) + 1) 0))) (List.drop (Int.toNat (Qi p0 i0 v0_1 ((Int.toNat ((List.length v0_1 : Int) - 0)) + 1) 0)) v0_1))) 6 rfl), hP 4 (Q2g i0 (by omega))] [aV [(1, Fld.rows v0_1)] hl0] (by kernel_rfl) hr
theorem Qm6 (p0 : List Fld) (H : Qby p0) : ∀ (r0 : List Fld) (i0 : Nat) (v0_1 : List Fld), List.drop i0 p0 = r0 → List.length v0_1 ≤ i0 → List.length (v0_1 : List Fld) ≤ i0 → Qgu p0 (Q9z p0 i0 v0_1) (Q6o p0 r0 i0 v0_1)
 | [], i0, v0_1, hd, ho0_0, ho0_1 => by
  have hc0 : (decide ((i0 : Int) < ((List.length p0) : Int))) = false := by have := Q1m hd; simp; omega
  rw [Q6o]
  exact Q18j p0 H i0 v0_1 ho0_0 ho0_1 hc0
 | x0 :: r0, i0, v0_1, hd, ho0_0, ho0_1 => by
  obtain ⟨hx0, hi0, hd'⟩ := Q1k hd
  have hB0 := H.1
  have hc0 : (decide ((i0 : Int) < ((List.length p0) : Int))) = true := by simp; omega
  rw [Q6o]
  have hl0 := Qyi p0 i0 v0_1 ((Int.toNat ((List.length v0_1 : Int) - 0)) + 1) 0 (by omega) (by omega) (by omega) (by omega) (by omega)
  obtain ⟨z0, zo0, hl0⟩ := hl0
  cases h0 : ((Int.toNat (Qi p0 i0 v0_1 ((Int.toNat ((List.length v0_1 : Int) - 0)) + 1) 0)) == 0) with
  | true =>
   have e0 := eq_of_beq h0
   exact Qc5 p0 (fun r hr => Q16f p0 H x0 i0 v0_1 hx0 hi0 ho0_0 ho0_1 hc0 z0 zo0 hl0 h0 hr) _ (Qm6 p0 H r0 (i0 + 1) ([x0] ++ (List.take ((List.length v0_1) - (Int.toNat (Qi p0 i0 v0_1 ((Int.toNat ((List.length v0_1 : Int) - 0)) + 1) 0))) (List.drop (Int.toNat (Qi p0 i0 v0_1 ((Int.toNat ((List.length v0_1 : Int) - 0)) + 1) 0)) v0_1))) hd' (by first | omega | (simp; omega)) ((H.2.2.1 i0 v0_1 x0 hx0 ho0_0 ho0_1) h0))
  | false =>
   have e0 := beq_eq_false_iff_ne.1 h0
   exact Qc5 p0 (fun r hr => Q16g p0 H x0 i0 v0_1 hx0 hi0 ho0_0 ho0_1 hc0 z0 zo0 hl0 h0 hr) _ (Qm6 p0 H r0 (i0 + 1) (((List.take (Int.toNat (Qi p0 i0 v0_1 ((Int.toNat ((List.length v0_1 : Int) - 0)) + 1) 0)) v0_1) ++ [x0]) ++ (List.take ((List.length v0_1) - (Int.toNat (Qi p0 i0 v0_1 ((Int.toNat ((List.length v0_1 : Int) - 0)) + 1) 0))) (List.drop (Int.toNat (Qi p0 i0 v0_1 ((Int.toNat ((List.length v0_1 : Int) - 0)) + 1) 0)) v0_1))) hd' (by first | omega | (simp; omega)) ((H.2.2.2.1 i0 v0_1 x0 hx0 ho0_0 ho0_1) h0))
def Q1o (p0 : List Fld) : Val :=
 (Val.mk 5 0 eB [] (Q6o p0 p0 0 []))
def Q9g (p0 : List Fld) : En := .call 163 [.sl (Fld.rows p0)] []
def Q1o4 (p0 : List Fld) : Rs := .ret (.agg (Val.cells (Q1o p0))) []
def Q1ms (p0 : List Fld) : Prop := List.length p0 ≤ 20
theorem Q132 (p0 : List Fld) (H : Q1ms p0) : (Qby p0) ∧ (List.length ([] : List Fld) ≤ 0) ∧ True := by
  have H' : p0.length ≤ 20 := H
  have hl : ∀ (i : Nat) (x : Fld), p0[i]? = some x → i < 20 := fun i x h => Nat.lt_of_lt_of_le (List.getElem?_eq_some_iff.1 h).1 H'
  refine ⟨⟨by omega, fun i v x hx a _ _ => ?_, fun i v x hx a _ _ => ?_, fun i v x hx a _ _ => ?_, trivial⟩, by simp, trivial⟩ <;>
  · have := hl i x hx
    simp only [List.length_append, List.length_take, List.length_drop, List.length_cons, List.length_nil]
    omega
theorem Qaq (p0 : List Fld) (H : Q1ms p0) : Q7 G (Q9g p0) (Q1o4 p0) := by
 unfold Q1o4 Q1o
 have hl0 := Qm6 p0 ((Q132 p0 H).1) p0 0 [] (by simp) (by simp) ((Q132 p0 H).2.1)
 obtain ⟨z0, zo0, hl0⟩ := hl0
 exact Q8 (fn := Ir.K2h) rfl VOK.nil [hS 0 true (Fld.Qb (Q6o p0 p0 0 []) 6 rfl), hQ (Fld.Q9 (Q6o p0 p0 0 [])).symm] [aV [(1, Fld.rows (Q6o p0 p0 0 []))] hl0] (by kernel_rfl)
def Qr (p0 : Int) : Val :=
 (Val.mk 2 p0 eB [] [])
def Q1wu (p0 : Int) : En := .call 164 [.int .i64 p0] []
def Q1o2 (p0 : Int) : Rs := .ret (.agg (Val.cells (Qr p0))) []
theorem Q51 (p0 : Int) : Q7 G (Q1wu p0) (Q1o2 p0) := by
 unfold Q1o2 Qr
 exact Q8 (fn := Ir.K2c) rfl VOK.nil [] [] (by kernel_rfl)
def Q17 (p0 : BA) : Val :=
 (Val.mk 3 0 p0 [] [])
def Q1x5 (p0 : BA) : En := .call 169 [.str p0] []
def Q1oe (p0 : BA) : Rs := .ret (.agg (Val.cells (Q17 p0))) []
theorem Qmr (p0 : BA) : Q7 G (Q1x5 p0) (Q1oe p0) := by
 unfold Q1oe Q17
 exact Q8 (fn := Ir.K2w) rfl VOK.nil [] [] (by kernel_rfl)
def Q5a (p0 : List ByteArray) : List ByteArray → Nat → (List Val) → List Val
 | [], _i0, v0_1 =>
  v0_1
 | x0 :: r0, i0, v0_1 =>
  Q5a p0 r0 (i0 + 1) (v0_1 ++ [(Q17 x0)])
theorem Q149 (p0 : List ByteArray) : ∀ (l : List ByteArray) (i : Nat) (a : List Val), Q5a p0 l i a = a ++ l.map (fun x0 => (Q17 x0))
  | [], _, _ => by simp [Q5a]
  | x :: r, i, a => by rw [Q5a, Q149 p0 r]; simp
def Qvr (p0 : List ByteArray) (i0 : Nat) (v0_1 : List Val) : List PV :=
  [.sl (Qn p0), .un, .bx 0 0, .ms 1 5 0 (List.length v0_1), .int .i64 (i0 : Int)] ++ nuns 16
def Qi5 (_p0 : List ByteArray) (_i0 : Nat) (v0_1 : List Val) : List Ob :=
  [⟨5, 0, true, [.int .i64 0, .int .i64 0, .str eB, .ms 2 5 0 0, .ms 3 6 0 0]⟩, ⟨5, 0, true, (Val.rows v0_1).flatten⟩, ⟨5, 0, true, []⟩, ⟨6, 0, true, []⟩]
def Qff (p0 : List ByteArray) (i0 : Nat) (v0_1 : List Val) : En := .loop 0 Ir.Qji Ir.Q1gh (Qvr p0 i0 v0_1) (Qi5 p0 i0 v0_1)
def Qoc (_p0 : List ByteArray) (q0 : List Val) (z : Nat → PV) (_zo : Nat → List PV) : St :=
  ⟨[z 0, z 1, .bx 0 0, .ms 1 5 0 (List.length q0)] ++ zr z 4 17, [(0, ⟨5, 0, true, [.int .i64 0, .int .i64 0, .str eB, .ms 2 5 0 0, .ms 3 6 0 0]⟩), (1, ⟨5, 0, true, (Val.rows q0).flatten⟩), (2, ⟨5, 0, true, []⟩), (3, ⟨6, 0, true, []⟩)], 260⟩
theorem Q128 (p0 : List ByteArray) (i0 : Nat) (v0_1 : List Val) : VOK (Go.Pv.look (number 0 (Qi5 p0 i0 v0_1))) [(1, Val.rows v0_1)] := (VOK.cons (show Seen _ _ from Q3k (ob := ⟨5, 0, true, (Val.rows v0_1).flatten⟩) (Val.Qb v0_1 5 rfl)) VOK.nil)
def Qh0 (p0 : List ByteArray) (e : En) (q : List Val) : Prop := ∃ z zo, Q7 G e (.st (.exit 0) (Qoc p0 q z zo))
theorem Qsu (p0 : List ByteArray) {e e' : En} (h : ∀ r, Q7 G e r → Q7 G e' r) : ∀ q, Qh0 p0 e q → Qh0 p0 e' q
  | _, ⟨z, zo, hz⟩ => ⟨z, zo, h _ hz⟩
def Qga (p0 : List ByteArray) : Prop := (List.length p0 ≤ 137438953472) ∧ True
def Qpw (p0 : List ByteArray) (i0 : Nat) (_v0_1 : List Val) : List PV :=
  [.sl (Qn p0), .un, .un, .un, .int .i64 (i0 : Int), .int .i64 (i0 : Int), .sl (Qn p0), .int .i64 ((List.length p0) : Int), .bool false]
def Ql2 (_p0 : List ByteArray) (_i0 : Nat) (_v0_1 : List Val) : List (Nat × List PV) :=
  []
theorem Q18r (p0 : List ByteArray) (_H : Qga p0) (i0 : Nat) (v0_1 : List Val) (_ho0_0 : List.length v0_1 ≤ i0) (hc0 : (decide ((i0 : Int) < ((List.length p0) : Int))) = false) : Qh0 p0 (Qff p0 i0 v0_1) v0_1 := by
 exact ⟨(envF (Qpw p0 i0 v0_1)), (zoF (Ql2 p0 i0 v0_1)), Qm (Q128 p0 i0 v0_1) (x := ((.exit 0), Qoc p0 v0_1 (envF (Qpw p0 i0 v0_1)) (zoF (Ql2 p0 i0 v0_1)))) [hP 2 (Q11 (Qn p0) (List.length p0) (Q2f p0)), hB 0 hc0] [] (by kernel_rfl)⟩
theorem Q16n (p0 : List ByteArray) (H : Qga p0) (x0 : BA) (i0 : Nat) (v0_1 : List Val) (hx0 : p0[i0]? = some x0) (hi0 : i0 < List.length p0) (ho0_0 : List.length v0_1 ≤ i0) (hc0 : (decide ((i0 : Int) < ((List.length p0) : Int))) = true) {r : Rs} (hr : Q7 G (Qff p0 (i0 + 1) (v0_1 ++ [(Q17 x0)])) r) : Q7 G (Qff p0 i0 v0_1) r := by
 have hB0 := H.1
 exact Ql (Q128 p0 i0 v0_1) (y := (Qvr p0 (i0 + 1) (v0_1 ++ [(Q17 x0)]), Qi5 p0 (i0 + 1) (v0_1 ++ [(Q17 x0)]))) [hP 2 (Q11 (Qn p0) (List.length p0) (Q2f p0)), hB 0 hc0, hP 3 (Q2s 1 (Qn p0) i0 _ (Q88 hx0) rfl), hV 3 [(708, Val.rows (v0_1 ++ [(Q17 x0)]))] (Q42 1 644 708 5 80 0 0 true (Val.rows v0_1) (Val.rows (v0_1 ++ [(Q17 x0)])) (Val.cells (Q17 x0)) (List.length v0_1) (List.length (v0_1 ++ [(Q17 x0)])) rfl (Val.Q9 v0_1).symm (Val.Q9 (v0_1 ++ [(Q17 x0)])).symm (Val.Q1t v0_1 (Q17 x0)) (Val.Qu v0_1) rfl (by omega)), hS 0 true (Val.Qb (v0_1 ++ [(Q17 x0)]) 5 rfl), hP 2 (Q2g i0 (by omega))] [aN (Qmr x0)] (by kernel_rfl) hr
theorem Qyo (p0 : List ByteArray) (H : Qga p0) : ∀ (r0 : List ByteArray) (i0 : Nat) (v0_1 : List Val), List.drop i0 p0 = r0 → List.length v0_1 ≤ i0 → Qh0 p0 (Qff p0 i0 v0_1) (Q5a p0 r0 i0 v0_1)
 | [], i0, v0_1, hd, ho0_0 => by
  have hc0 : (decide ((i0 : Int) < ((List.length p0) : Int))) = false := by have := Q1m hd; simp; omega
  rw [Q5a]
  exact Q18r p0 H i0 v0_1 ho0_0 hc0
 | x0 :: r0, i0, v0_1, hd, ho0_0 => by
  obtain ⟨hx0, hi0, hd'⟩ := Q1k hd
  have hc0 : (decide ((i0 : Int) < ((List.length p0) : Int))) = true := by simp; omega
  rw [Q5a]
  exact Qsu p0 (fun r hr => Q16n p0 H x0 i0 v0_1 hx0 hi0 ho0_0 hc0 hr) _ (Qyo p0 H r0 (i0 + 1) (v0_1 ++ [(Q17 x0)]) hd' (by first | omega | (simp; omega)))
def Q9q (p0 : List ByteArray) : Val := vL (p0.map vS)
theorem Q1za (p0 : List ByteArray) : Q9q p0 = ((Val.mk 4 0 eB (Q5a p0 p0 0 []) [])) := by
  rw [Q149]
  kernel_rfl
def Q1x6 (p0 : List ByteArray) : En := .call 212 [.sl (Qn p0)] []
def Q1of (p0 : List ByteArray) : Rs := .ret (.agg (Val.cells (Q9q p0))) []
def Q1hx (p0 : List ByteArray) : Prop := LSm (fun _ : ByteArray => True) p0
theorem Q1e7 (p0 : List ByteArray) (H : Q1hx p0) : (Qga p0) ∧ True := by
  exact ⟨⟨Nat.le_trans H.1 (Nat.le_of_ble_eq_true rfl), trivial⟩, trivial⟩
theorem Q21q (p0 : List ByteArray) (H : Q1hx p0) : Q7 G (Q1x6 p0) (Q1of p0) := by
 unfold Q1of
 rw [Q1za]
 have hl0 := Qyo p0 ((Q1e7 p0 H).1) p0 0 [] (by simp) (by simp)
 obtain ⟨z0, zo0, hl0⟩ := hl0
 exact Q8 (fn := Ir.K2x) rfl VOK.nil [hS 0 true (Val.Qb (Q5a p0 p0 0 []) 5 rfl), hQ (Val.Q9 (Q5a p0 p0 0 [])).symm] [aV [(1, Val.rows (Q5a p0 p0 0 []))] hl0] (by kernel_rfl)
def Q58 (p0 : List Requirement) : List Requirement → Nat → (List Val) → List Val
 | [], _i0, v0_1 =>
  v0_1
 | x0 :: r0, i0, v0_1 =>
  Q58 p0 r0 (i0 + 1) (v0_1 ++ [(Q1o ([(Fld.mk Qz (Q17 x0.key)), (Fld.mk Q3w (Qr x0.op)), (Fld.mk Q1g (Q9q x0.values))]))])
theorem Q147 (p0 : List Requirement) : ∀ (l : List Requirement) (i : Nat) (a : List Val), Q58 p0 l i a = a ++ l.map (fun x0 => (Q1o ([(Fld.mk Qz (Q17 x0.key)), (Fld.mk Q3w (Qr x0.op)), (Fld.mk Q1g (Q9q x0.values))])))
  | [], _, _ => by simp [Q58]
  | x :: r, i, a => by rw [Q58, Q147 p0 r]; simp
def Qvp (p0 : List Requirement) (i0 : Nat) (v0_1 : List Val) : List PV :=
  [.sl (Requirement.rows p0), .un, .bx 0 0, .ms 1 5 0 (List.length v0_1), .int .i64 (i0 : Int)] ++ nuns 34
def Qi3 (_p0 : List Requirement) (_i0 : Nat) (v0_1 : List Val) : List Ob :=
  [⟨5, 0, true, [.int .i64 0, .int .i64 0, .str eB, .ms 2 5 0 0, .ms 3 6 0 0]⟩, ⟨5, 0, true, (Val.rows v0_1).flatten⟩, ⟨5, 0, true, []⟩, ⟨6, 0, true, []⟩]
def Qfd (p0 : List Requirement) (i0 : Nat) (v0_1 : List Val) : En := .loop 0 Ir.Qjg Ir.Q1gf (Qvp p0 i0 v0_1) (Qi3 p0 i0 v0_1)
def Qoa (_p0 : List Requirement) (q0 : List Val) (z : Nat → PV) (_zo : Nat → List PV) : St :=
  ⟨[z 0, z 1, .bx 0 0, .ms 1 5 0 (List.length q0)] ++ zr z 4 35, [(0, ⟨5, 0, true, [.int .i64 0, .int .i64 0, .str eB, .ms 2 5 0 0, .ms 3 6 0 0]⟩), (1, ⟨5, 0, true, (Val.rows q0).flatten⟩), (2, ⟨5, 0, true, []⟩), (3, ⟨6, 0, true, []⟩)], 260⟩
theorem Q126 (p0 : List Requirement) (i0 : Nat) (v0_1 : List Val) : VOK (Go.Pv.look (number 0 (Qi3 p0 i0 v0_1))) [(1, Val.rows v0_1)] := (VOK.cons (show Seen _ _ from Q3k (ob := ⟨5, 0, true, (Val.rows v0_1).flatten⟩) (Val.Qb v0_1 5 rfl)) VOK.nil)
def Qgy (p0 : List Requirement) (e : En) (q : List Val) : Prop := ∃ z zo, Q7 G e (.st (.exit 0) (Qoa p0 q z zo))
theorem Qss (p0 : List Requirement) {e e' : En} (h : ∀ r, Q7 G e r → Q7 G e' r) : ∀ q, Qgy p0 e q → Qgy p0 e' q
  | _, ⟨z, zo, hz⟩ => ⟨z, zo, h _ hz⟩
def Qg8 (p0 : List Requirement) : Prop := (List.length p0 ≤ 137438953472) ∧ (∀ x0 ∈ p0, Q1hx x0.values) ∧ True
def Qpu (p0 : List Requirement) (i0 : Nat) (_v0_1 : List Val) : List PV :=
  [.sl (Requirement.rows p0), .un, .un, .un, .int .i64 (i0 : Int), .int .i64 (i0 : Int), .sl (Requirement.rows p0), .int .i64 ((List.length p0) : Int), .bool false]
def Ql0 (_p0 : List Requirement) (_i0 : Nat) (_v0_1 : List Val) : List (Nat × List PV) :=
  []
theorem Q18p (p0 : List Requirement) (_H : Qg8 p0) (i0 : Nat) (v0_1 : List Val) (_ho0_0 : List.length v0_1 ≤ i0) (hc0 : (decide ((i0 : Int) < ((List.length p0) : Int))) = false) : Qgy p0 (Qfd p0 i0 v0_1) v0_1 := by
 exact ⟨(envF (Qpu p0 i0 v0_1)), (zoF (Ql0 p0 i0 v0_1)), Qm (Q126 p0 i0 v0_1) (x := ((.exit 0), Qoa p0 v0_1 (envF (Qpu p0 i0 v0_1)) (zoF (Ql0 p0 i0 v0_1)))) [hP 2 (Q11 (Requirement.rows p0) (List.length p0) (Requirement.Q9 p0)), hB 0 hc0] [] (by kernel_rfl)⟩
theorem Q16l (p0 : List Requirement) (H : Qg8 p0) (x0 : Requirement) (i0 : Nat) (v0_1 : List Val) (hx0 : p0[i0]? = some x0) (hi0 : i0 < List.length p0) (ho0_0 : List.length v0_1 ≤ i0) (hc0 : (decide ((i0 : Int) < ((List.length p0) : Int))) = true) {r : Rs} (hr : Q7 G (Qfd p0 (i0 + 1) (v0_1 ++ [(Q1o ([(Fld.mk Qz (Q17 x0.key)), (Fld.mk Q3w (Qr x0.op)), (Fld.mk Q1g (Q9q x0.values))]))])) r) : Q7 G (Qfd p0 i0 v0_1) r := by
 have hB0 := H.1
 exact Ql (Q126 p0 i0 v0_1) (y := (Qvp p0 (i0 + 1) (v0_1 ++ [(Q1o ([(Fld.mk Qz (Q17 x0.key)), (Fld.mk Q3w (Qr x0.op)), (Fld.mk Q1g (Q9q x0.values))]))]), Qi3 p0 (i0 + 1) (v0_1 ++ [(Q1o ([(Fld.mk Qz (Q17 x0.key)), (Fld.mk Q3w (Qr x0.op)), (Fld.mk Q1g (Q9q x0.values))]))]))) [hP 2 (Q11 (Requirement.rows p0) (List.length p0) (Requirement.Q9 p0)), hB 0 hc0, hP 3 (Q2s 3 (Requirement.rows p0) i0 _ (Requirement.Qo hx0) rfl), hP 6 (Q2s 3 (Requirement.rows p0) i0 _ (Requirement.Qo hx0) rfl), hP 6 (Q2s 3 (Requirement.rows p0) i0 _ (Requirement.Qo hx0) rfl), hV 7 [(1860, Val.rows (v0_1 ++ [(Q1o ([(Fld.mk Qz (Q17 x0.key)), (Fld.mk Q3w (Qr x0.op)), (Fld.mk Q1g (Q9q x0.values))]))]))] (Q42 1 1796 1860 5 80 0 0 true (Val.rows v0_1) (Val.rows (v0_1 ++ [(Q1o ([(Fld.mk Qz (Q17 x0.key)), (Fld.mk Q3w (Qr x0.op)), (Fld.mk Q1g (Q9q x0.values))]))])) (Val.cells (Q1o ([(Fld.mk Qz (Q17 x0.key)), (Fld.mk Q3w (Qr x0.op)), (Fld.mk Q1g (Q9q x0.values))]))) (List.length v0_1) (List.length (v0_1 ++ [(Q1o ([(Fld.mk Qz (Q17 x0.key)), (Fld.mk Q3w (Qr x0.op)), (Fld.mk Q1g (Q9q x0.values))]))])) rfl (Val.Q9 v0_1).symm (Val.Q9 (v0_1 ++ [(Q1o ([(Fld.mk Qz (Q17 x0.key)), (Fld.mk Q3w (Qr x0.op)), (Fld.mk Q1g (Q9q x0.values))]))])).symm (Val.Q1t v0_1 (Q1o ([(Fld.mk Qz (Q17 x0.key)), (Fld.mk Q3w (Qr x0.op)), (Fld.mk Q1g (Q9q x0.values))]))) (Val.Qu v0_1) rfl (by omega)), hS 0 true (Val.Qb (v0_1 ++ [(Q1o ([(Fld.mk Qz (Q17 x0.key)), (Fld.mk Q3w (Qr x0.op)), (Fld.mk Q1g (Q9q x0.values))]))]) 5 rfl), hP 2 (Q2g i0 (by omega))] [aN (Qmr x0.key), aN (Q51 x0.op), aN (Q21q x0.values (H.2.1 x0 (Q2l hx0))), aN (Q4j (e' := .call 163 [.sl [(Fld.cells (Fld.mk Qz (Q17 x0.key))), (Fld.cells (Fld.mk Q3w (Qr x0.op))), (Fld.cells (Fld.mk Q1g (Q9q x0.values)))]] []) (Qaq ([(Fld.mk Qz (Q17 x0.key)), (Fld.mk Q3w (Qr x0.op)), (Fld.mk Q1g (Q9q x0.values))]) (Nat.le_of_ble_eq_true rfl)) (by simp only [Q9g, Fld.Qy, Fld.Q1b]))] (by kernel_rfl) hr
theorem Qym (p0 : List Requirement) (H : Qg8 p0) : ∀ (r0 : List Requirement) (i0 : Nat) (v0_1 : List Val), List.drop i0 p0 = r0 → List.length v0_1 ≤ i0 → Qgy p0 (Qfd p0 i0 v0_1) (Q58 p0 r0 i0 v0_1)
 | [], i0, v0_1, hd, ho0_0 => by
  have hc0 : (decide ((i0 : Int) < ((List.length p0) : Int))) = false := by have := Q1m hd; simp; omega
  rw [Q58]
  exact Q18p p0 H i0 v0_1 ho0_0 hc0
 | x0 :: r0, i0, v0_1, hd, ho0_0 => by
  obtain ⟨hx0, hi0, hd'⟩ := Q1k hd
  have hc0 : (decide ((i0 : Int) < ((List.length p0) : Int))) = true := by simp; omega
  rw [Q58]
  exact Qss p0 (fun r hr => Q16l p0 H x0 i0 v0_1 hx0 hi0 ho0_0 hc0 hr) _ (Qym p0 H r0 (i0 + 1) (v0_1 ++ [(Q1o ([(Fld.mk Qz (Q17 x0.key)), (Fld.mk Q3w (Qr x0.op)), (Fld.mk Q1g (Q9q x0.values))]))]) hd' (by first | omega | (simp; omega)))
def Q2z (p0 : List Requirement) : Val := vL (p0.map Requirement.enc)
theorem Q1z7 (p0 : List Requirement) : Q2z p0 = ((Val.mk 4 0 eB (Q58 p0 p0 0 []) [])) := by
  rw [Q147]
  kernel_rfl
def Q1x2 (p0 : List Requirement) : En := .call 165 [.sl (Requirement.rows p0)] []
def Q1ob (p0 : List Requirement) : Rs := .ret (.agg (Val.cells (Q2z p0))) []
def Qrw (p0 : List Requirement) : Prop := LSm Requirement.sm p0
theorem Q1e5 (p0 : List Requirement) (H : Qrw p0) : (Qg8 p0) ∧ True := by
  exact ⟨⟨Nat.le_trans H.1 (Nat.le_of_ble_eq_true rfl), (by first | exact H.2 | exact fun x hx => (H.2 x hx).1 | exact fun x hx => (H.2 x hx).2.1 | exact fun x hx => (H.2 x hx).2.2.1 | exact fun x hx => (H.2 x hx).2.2.2.1 | exact fun x hx => (H.2 x hx).2.2.2.2.1), trivial⟩, trivial⟩
theorem Q117 (p0 : List Requirement) (H : Qrw p0) : Q7 G (Q1x2 p0) (Q1ob p0) := by
 unfold Q1ob
 rw [Q1z7]
 have hl0 := Qym p0 ((Q1e5 p0 H).1) p0 0 [] (by simp) (by simp)
 obtain ⟨z0, zo0, hl0⟩ := hl0
 exact Q8 (fn := Ir.K2s) rfl VOK.nil [hS 0 true (Val.Qb (Q58 p0 p0 0 []) 5 rfl), hQ (Val.Q9 (Q58 p0 p0 0 [])).symm] [aV [(1, Val.rows (Q58 p0 p0 0 []))] hl0] (by kernel_rfl)
def Q54 (p0 : List Label) : List Label → Nat → (List Val) → List Val
 | [], _i0, v0_1 =>
  v0_1
 | x0 :: r0, i0, v0_1 =>
  Q54 p0 r0 (i0 + 1) (v0_1 ++ [(Q1o ([(Fld.mk Qz (Q17 x0.key)), (Fld.mk Q13 (Q17 x0.value))]))])
theorem Q143 (p0 : List Label) : ∀ (l : List Label) (i : Nat) (a : List Val), Q54 p0 l i a = a ++ l.map (fun x0 => (Q1o ([(Fld.mk Qz (Q17 x0.key)), (Fld.mk Q13 (Q17 x0.value))])))
  | [], _, _ => by simp [Q54]
  | x :: r, i, a => by rw [Q54, Q143 p0 r]; simp
def Qvk (p0 : List Label) (i0 : Nat) (v0_1 : List Val) : List PV :=
  [.sl (Label.rows p0), .un, .bx 0 0, .ms 1 5 0 (List.length v0_1), .int .i64 (i0 : Int)] ++ nuns 27
def Qhy (_p0 : List Label) (_i0 : Nat) (v0_1 : List Val) : List Ob :=
  [⟨5, 0, true, [.int .i64 0, .int .i64 0, .str eB, .ms 2 5 0 0, .ms 3 6 0 0]⟩, ⟨5, 0, true, (Val.rows v0_1).flatten⟩, ⟨5, 0, true, []⟩, ⟨6, 0, true, []⟩]
def Qf9 (p0 : List Label) (i0 : Nat) (v0_1 : List Val) : En := .loop 0 Ir.Qja Ir.Q1g9 (Qvk p0 i0 v0_1) (Qhy p0 i0 v0_1)
def Qo5 (_p0 : List Label) (q0 : List Val) (z : Nat → PV) (_zo : Nat → List PV) : St :=
  ⟨[z 0, z 1, .bx 0 0, .ms 1 5 0 (List.length q0)] ++ zr z 4 28, [(0, ⟨5, 0, true, [.int .i64 0, .int .i64 0, .str eB, .ms 2 5 0 0, .ms 3 6 0 0]⟩), (1, ⟨5, 0, true, (Val.rows q0).flatten⟩), (2, ⟨5, 0, true, []⟩), (3, ⟨6, 0, true, []⟩)], 260⟩
theorem Q122 (p0 : List Label) (i0 : Nat) (v0_1 : List Val) : VOK (Go.Pv.look (number 0 (Qhy p0 i0 v0_1))) [(1, Val.rows v0_1)] := (VOK.cons (show Seen _ _ from Q3k (ob := ⟨5, 0, true, (Val.rows v0_1).flatten⟩) (Val.Qb v0_1 5 rfl)) VOK.nil)
def Qgt (p0 : List Label) (e : En) (q : List Val) : Prop := ∃ z zo, Q7 G e (.st (.exit 0) (Qo5 p0 q z zo))
theorem Qsn (p0 : List Label) {e e' : En} (h : ∀ r, Q7 G e r → Q7 G e' r) : ∀ q, Qgt p0 e q → Qgt p0 e' q
  | _, ⟨z, zo, hz⟩ => ⟨z, zo, h _ hz⟩
def Qg4 (p0 : List Label) : Prop := (List.length p0 ≤ 137438953472) ∧ True
def Qpn (p0 : List Label) (i0 : Nat) (_v0_1 : List Val) : List PV :=
  [.sl (Label.rows p0), .un, .un, .un, .int .i64 (i0 : Int), .int .i64 (i0 : Int), .sl (Label.rows p0), .int .i64 ((List.length p0) : Int), .bool false]
def Qkt (_p0 : List Label) (_i0 : Nat) (_v0_1 : List Val) : List (Nat × List PV) :=
  []
theorem Q18i (p0 : List Label) (_H : Qg4 p0) (i0 : Nat) (v0_1 : List Val) (_ho0_0 : List.length v0_1 ≤ i0) (hc0 : (decide ((i0 : Int) < ((List.length p0) : Int))) = false) : Qgt p0 (Qf9 p0 i0 v0_1) v0_1 := by
 exact ⟨(envF (Qpn p0 i0 v0_1)), (zoF (Qkt p0 i0 v0_1)), Qm (Q122 p0 i0 v0_1) (x := ((.exit 0), Qo5 p0 v0_1 (envF (Qpn p0 i0 v0_1)) (zoF (Qkt p0 i0 v0_1)))) [hP 2 (Q11 (Label.rows p0) (List.length p0) (Label.Q9 p0)), hB 0 hc0] [] (by kernel_rfl)⟩
theorem Q16e (p0 : List Label) (H : Qg4 p0) (x0 : Label) (i0 : Nat) (v0_1 : List Val) (hx0 : p0[i0]? = some x0) (hi0 : i0 < List.length p0) (ho0_0 : List.length v0_1 ≤ i0) (hc0 : (decide ((i0 : Int) < ((List.length p0) : Int))) = true) {r : Rs} (hr : Q7 G (Qf9 p0 (i0 + 1) (v0_1 ++ [(Q1o ([(Fld.mk Qz (Q17 x0.key)), (Fld.mk Q13 (Q17 x0.value))]))])) r) : Q7 G (Qf9 p0 i0 v0_1) r := by
 have hB0 := H.1
 exact Ql (Q122 p0 i0 v0_1) (y := (Qvk p0 (i0 + 1) (v0_1 ++ [(Q1o ([(Fld.mk Qz (Q17 x0.key)), (Fld.mk Q13 (Q17 x0.value))]))]), Qhy p0 (i0 + 1) (v0_1 ++ [(Q1o ([(Fld.mk Qz (Q17 x0.key)), (Fld.mk Q13 (Q17 x0.value))]))]))) [hP 2 (Q11 (Label.rows p0) (List.length p0) (Label.Q9 p0)), hB 0 hc0, hP 3 (Q2s 2 (Label.rows p0) i0 _ (Label.Qo hx0) rfl), hP 6 (Q2s 2 (Label.rows p0) i0 _ (Label.Qo hx0) rfl), hV 7 [(1412, Val.rows (v0_1 ++ [(Q1o ([(Fld.mk Qz (Q17 x0.key)), (Fld.mk Q13 (Q17 x0.value))]))]))] (Q42 1 1348 1412 5 80 0 0 true (Val.rows v0_1) (Val.rows (v0_1 ++ [(Q1o ([(Fld.mk Qz (Q17 x0.key)), (Fld.mk Q13 (Q17 x0.value))]))])) (Val.cells (Q1o ([(Fld.mk Qz (Q17 x0.key)), (Fld.mk Q13 (Q17 x0.value))]))) (List.length v0_1) (List.length (v0_1 ++ [(Q1o ([(Fld.mk Qz (Q17 x0.key)), (Fld.mk Q13 (Q17 x0.value))]))])) rfl (Val.Q9 v0_1).symm (Val.Q9 (v0_1 ++ [(Q1o ([(Fld.mk Qz (Q17 x0.key)), (Fld.mk Q13 (Q17 x0.value))]))])).symm (Val.Q1t v0_1 (Q1o ([(Fld.mk Qz (Q17 x0.key)), (Fld.mk Q13 (Q17 x0.value))]))) (Val.Qu v0_1) rfl (by omega)), hS 0 true (Val.Qb (v0_1 ++ [(Q1o ([(Fld.mk Qz (Q17 x0.key)), (Fld.mk Q13 (Q17 x0.value))]))]) 5 rfl), hP 2 (Q2g i0 (by omega))] [aN (Qmr x0.key), aN (Qmr x0.value), aN (Q4j (e' := .call 163 [.sl [(Fld.cells (Fld.mk Qz (Q17 x0.key))), (Fld.cells (Fld.mk Q13 (Q17 x0.value)))]] []) (Qaq ([(Fld.mk Qz (Q17 x0.key)), (Fld.mk Q13 (Q17 x0.value))]) (Nat.le_of_ble_eq_true rfl)) (by simp only [Q9g, Fld.Qy, Fld.Q1b]))] (by kernel_rfl) hr
theorem Qyh (p0 : List Label) (H : Qg4 p0) : ∀ (r0 : List Label) (i0 : Nat) (v0_1 : List Val), List.drop i0 p0 = r0 → List.length v0_1 ≤ i0 → Qgt p0 (Qf9 p0 i0 v0_1) (Q54 p0 r0 i0 v0_1)
 | [], i0, v0_1, hd, ho0_0 => by
  have hc0 : (decide ((i0 : Int) < ((List.length p0) : Int))) = false := by have := Q1m hd; simp; omega
  rw [Q54]
  exact Q18i p0 H i0 v0_1 ho0_0 hc0
 | x0 :: r0, i0, v0_1, hd, ho0_0 => by
  obtain ⟨hx0, hi0, hd'⟩ := Q1k hd
  have hc0 : (decide ((i0 : Int) < ((List.length p0) : Int))) = true := by simp; omega
  rw [Q54]
  exact Qsn p0 (fun r hr => Q16e p0 H x0 i0 v0_1 hx0 hi0 ho0_0 hc0 hr) _ (Qyh p0 H r0 (i0 + 1) (v0_1 ++ [(Q1o ([(Fld.mk Qz (Q17 x0.key)), (Fld.mk Q13 (Q17 x0.value))]))]) hd' (by first | omega | (simp; omega)))
def Q1cf (p0 : List Label) : Val := vL (p0.map Label.enc)
theorem Q1z0 (p0 : List Label) : Q1cf p0 = ((Val.mk 4 0 eB (Q54 p0 p0 0 []) [])) := by
  rw [Q143]
  kernel_rfl
def Q1wv (p0 : List Label) : En := .call 213 [.sl (Label.rows p0)] []
def Q1o3 (p0 : List Label) : Rs := .ret (.agg (Val.cells (Q1cf p0))) []
def Q1hq (p0 : List Label) : Prop := LSm Label.sm p0
theorem Q1e1 (p0 : List Label) (H : Q1hq p0) : (Qg4 p0) ∧ True := by
  exact ⟨⟨Nat.le_trans H.1 (Nat.le_of_ble_eq_true rfl), trivial⟩, trivial⟩
theorem Q21j (p0 : List Label) (H : Q1hq p0) : Q7 G (Q1wv p0) (Q1o3 p0) := by
 unfold Q1o3
 rw [Q1z0]
 have hl0 := Qyh p0 ((Q1e1 p0 H).1) p0 0 [] (by simp) (by simp)
 obtain ⟨z0, zo0, hl0⟩ := hl0
 exact Q8 (fn := Ir.K2g) rfl VOK.nil [hS 0 true (Val.Qb (Q54 p0 p0 0 []) 5 rfl), hQ (Val.Q9 (Q54 p0 p0 0 [])).symm] [aV [(1, Val.rows (Q54 p0 p0 0 []))] hl0] (by kernel_rfl)
def Q4p (p0 : Resources) : Val := Resources.enc p0
theorem Q1z6 (p0 : Resources) : Q4p p0 = ((Q1o ([(Fld.mk Q4y (Qr p0.cPU)), (Fld.mk Q32 (Qr p0.memory)), (Fld.mk Q4i (Qr p0.disk))]))) := by
  kernel_rfl
def Q1x1 (p0 : Resources) : En := .call 211 [.agg (Resources.cells p0)] []
def Q1oa (p0 : Resources) : Rs := .ret (.agg (Val.cells (Q4p p0))) []
theorem Q1ra (p0 : Resources) : Q7 G (Q1x1 p0) (Q1oa p0) := by
 unfold Q1oa
 rw [Q1z6]
 exact Q8 (fn := Ir.K2r) rfl VOK.nil [] [aN (Q51 p0.cPU), aN (Q51 p0.memory), aN (Q51 p0.disk), aN (Q4j (e' := .call 163 [.sl [(Fld.cells (Fld.mk Q4y (Qr p0.cPU))), (Fld.cells (Fld.mk Q32 (Qr p0.memory))), (Fld.cells (Fld.mk Q4i (Qr p0.disk)))]] []) (Qaq ([(Fld.mk Q4y (Qr p0.cPU)), (Fld.mk Q32 (Qr p0.memory)), (Fld.mk Q4i (Qr p0.disk))]) (Nat.le_of_ble_eq_true rfl)) (by simp only [Q9g, Fld.Qy, Fld.Q1b]))] (by kernel_rfl)
def Q57 (p0 : List Probe) : List Probe → Nat → (List Val) → List Val
 | [], _i0, v0_1 =>
  v0_1
 | x0 :: r0, i0, v0_1 =>
  Q57 p0 r0 (i0 + 1) (v0_1 ++ [(Q1o ([(Fld.mk Q29 (Qr x0.delay)), (Fld.mk Q23 (Qr x0.period)), (Fld.mk Q1s (Qr x0.success)), (Fld.mk Q1y (Qr x0.failure))]))])
theorem Q146 (p0 : List Probe) : ∀ (l : List Probe) (i : Nat) (a : List Val), Q57 p0 l i a = a ++ l.map (fun x0 => (Q1o ([(Fld.mk Q29 (Qr x0.delay)), (Fld.mk Q23 (Qr x0.period)), (Fld.mk Q1s (Qr x0.success)), (Fld.mk Q1y (Qr x0.failure))])))
  | [], _, _ => by simp [Q57]
  | x :: r, i, a => by rw [Q57, Q146 p0 r]; simp
def Qvo (p0 : List Probe) (i0 : Nat) (v0_1 : List Val) : List PV :=
  [.sl (Probe.rows p0), .un, .bx 0 0, .ms 1 5 0 (List.length v0_1), .int .i64 (i0 : Int)] ++ nuns 41
def Qi2 (_p0 : List Probe) (_i0 : Nat) (v0_1 : List Val) : List Ob :=
  [⟨5, 0, true, [.int .i64 0, .int .i64 0, .str eB, .ms 2 5 0 0, .ms 3 6 0 0]⟩, ⟨5, 0, true, (Val.rows v0_1).flatten⟩, ⟨5, 0, true, []⟩, ⟨6, 0, true, []⟩]
def Qfc (p0 : List Probe) (i0 : Nat) (v0_1 : List Val) : En := .loop 0 Ir.Qjf Ir.Q1ge (Qvo p0 i0 v0_1) (Qi2 p0 i0 v0_1)
def Qo9 (_p0 : List Probe) (q0 : List Val) (z : Nat → PV) (_zo : Nat → List PV) : St :=
  ⟨[z 0, z 1, .bx 0 0, .ms 1 5 0 (List.length q0)] ++ zr z 4 42, [(0, ⟨5, 0, true, [.int .i64 0, .int .i64 0, .str eB, .ms 2 5 0 0, .ms 3 6 0 0]⟩), (1, ⟨5, 0, true, (Val.rows q0).flatten⟩), (2, ⟨5, 0, true, []⟩), (3, ⟨6, 0, true, []⟩)], 260⟩
theorem Q125 (p0 : List Probe) (i0 : Nat) (v0_1 : List Val) : VOK (Go.Pv.look (number 0 (Qi2 p0 i0 v0_1))) [(1, Val.rows v0_1)] := (VOK.cons (show Seen _ _ from Q3k (ob := ⟨5, 0, true, (Val.rows v0_1).flatten⟩) (Val.Qb v0_1 5 rfl)) VOK.nil)
def Qgx (p0 : List Probe) (e : En) (q : List Val) : Prop := ∃ z zo, Q7 G e (.st (.exit 0) (Qo9 p0 q z zo))
theorem Qsr (p0 : List Probe) {e e' : En} (h : ∀ r, Q7 G e r → Q7 G e' r) : ∀ q, Qgx p0 e q → Qgx p0 e' q
  | _, ⟨z, zo, hz⟩ => ⟨z, zo, h _ hz⟩
def Qg7 (p0 : List Probe) : Prop := (List.length p0 ≤ 137438953472) ∧ True
def Qpt (p0 : List Probe) (i0 : Nat) (_v0_1 : List Val) : List PV :=
  [.sl (Probe.rows p0), .un, .un, .un, .int .i64 (i0 : Int), .int .i64 (i0 : Int), .sl (Probe.rows p0), .int .i64 ((List.length p0) : Int), .bool false]
def Qkz (_p0 : List Probe) (_i0 : Nat) (_v0_1 : List Val) : List (Nat × List PV) :=
  []
theorem Q18o (p0 : List Probe) (_H : Qg7 p0) (i0 : Nat) (v0_1 : List Val) (_ho0_0 : List.length v0_1 ≤ i0) (hc0 : (decide ((i0 : Int) < ((List.length p0) : Int))) = false) : Qgx p0 (Qfc p0 i0 v0_1) v0_1 := by
 exact ⟨(envF (Qpt p0 i0 v0_1)), (zoF (Qkz p0 i0 v0_1)), Qm (Q125 p0 i0 v0_1) (x := ((.exit 0), Qo9 p0 v0_1 (envF (Qpt p0 i0 v0_1)) (zoF (Qkz p0 i0 v0_1)))) [hP 2 (Q11 (Probe.rows p0) (List.length p0) (Probe.Q9 p0)), hB 0 hc0] [] (by kernel_rfl)⟩
theorem Q16k (p0 : List Probe) (H : Qg7 p0) (x0 : Probe) (i0 : Nat) (v0_1 : List Val) (hx0 : p0[i0]? = some x0) (hi0 : i0 < List.length p0) (ho0_0 : List.length v0_1 ≤ i0) (hc0 : (decide ((i0 : Int) < ((List.length p0) : Int))) = true) {r : Rs} (hr : Q7 G (Qfc p0 (i0 + 1) (v0_1 ++ [(Q1o ([(Fld.mk Q29 (Qr x0.delay)), (Fld.mk Q23 (Qr x0.period)), (Fld.mk Q1s (Qr x0.success)), (Fld.mk Q1y (Qr x0.failure))]))])) r) : Q7 G (Qfc p0 i0 v0_1) r := by
 have hB0 := H.1
 exact Ql (Q125 p0 i0 v0_1) (y := (Qvo p0 (i0 + 1) (v0_1 ++ [(Q1o ([(Fld.mk Q29 (Qr x0.delay)), (Fld.mk Q23 (Qr x0.period)), (Fld.mk Q1s (Qr x0.success)), (Fld.mk Q1y (Qr x0.failure))]))]), Qi2 p0 (i0 + 1) (v0_1 ++ [(Q1o ([(Fld.mk Q29 (Qr x0.delay)), (Fld.mk Q23 (Qr x0.period)), (Fld.mk Q1s (Qr x0.success)), (Fld.mk Q1y (Qr x0.failure))]))]))) [hP 2 (Q11 (Probe.rows p0) (List.length p0) (Probe.Q9 p0)), hB 0 hc0, hP 3 (Q2s 4 (Probe.rows p0) i0 _ (Probe.Qo hx0) rfl), hP 6 (Q2s 4 (Probe.rows p0) i0 _ (Probe.Qo hx0) rfl), hP 6 (Q2s 4 (Probe.rows p0) i0 _ (Probe.Qo hx0) rfl), hP 6 (Q2s 4 (Probe.rows p0) i0 _ (Probe.Qo hx0) rfl), hV 7 [(2308, Val.rows (v0_1 ++ [(Q1o ([(Fld.mk Q29 (Qr x0.delay)), (Fld.mk Q23 (Qr x0.period)), (Fld.mk Q1s (Qr x0.success)), (Fld.mk Q1y (Qr x0.failure))]))]))] (Q42 1 2244 2308 5 80 0 0 true (Val.rows v0_1) (Val.rows (v0_1 ++ [(Q1o ([(Fld.mk Q29 (Qr x0.delay)), (Fld.mk Q23 (Qr x0.period)), (Fld.mk Q1s (Qr x0.success)), (Fld.mk Q1y (Qr x0.failure))]))])) (Val.cells (Q1o ([(Fld.mk Q29 (Qr x0.delay)), (Fld.mk Q23 (Qr x0.period)), (Fld.mk Q1s (Qr x0.success)), (Fld.mk Q1y (Qr x0.failure))]))) (List.length v0_1) (List.length (v0_1 ++ [(Q1o ([(Fld.mk Q29 (Qr x0.delay)), (Fld.mk Q23 (Qr x0.period)), (Fld.mk Q1s (Qr x0.success)), (Fld.mk Q1y (Qr x0.failure))]))])) rfl (Val.Q9 v0_1).symm (Val.Q9 (v0_1 ++ [(Q1o ([(Fld.mk Q29 (Qr x0.delay)), (Fld.mk Q23 (Qr x0.period)), (Fld.mk Q1s (Qr x0.success)), (Fld.mk Q1y (Qr x0.failure))]))])).symm (Val.Q1t v0_1 (Q1o ([(Fld.mk Q29 (Qr x0.delay)), (Fld.mk Q23 (Qr x0.period)), (Fld.mk Q1s (Qr x0.success)), (Fld.mk Q1y (Qr x0.failure))]))) (Val.Qu v0_1) rfl (by omega)), hS 0 true (Val.Qb (v0_1 ++ [(Q1o ([(Fld.mk Q29 (Qr x0.delay)), (Fld.mk Q23 (Qr x0.period)), (Fld.mk Q1s (Qr x0.success)), (Fld.mk Q1y (Qr x0.failure))]))]) 5 rfl), hP 2 (Q2g i0 (by omega))] [aN (Q51 x0.delay), aN (Q51 x0.period), aN (Q51 x0.success), aN (Q51 x0.failure), aN (Q4j (e' := .call 163 [.sl [(Fld.cells (Fld.mk Q29 (Qr x0.delay))), (Fld.cells (Fld.mk Q23 (Qr x0.period))), (Fld.cells (Fld.mk Q1s (Qr x0.success))), (Fld.cells (Fld.mk Q1y (Qr x0.failure)))]] []) (Qaq ([(Fld.mk Q29 (Qr x0.delay)), (Fld.mk Q23 (Qr x0.period)), (Fld.mk Q1s (Qr x0.success)), (Fld.mk Q1y (Qr x0.failure))]) (Nat.le_of_ble_eq_true rfl)) (by simp only [Q9g, Fld.Qy, Fld.Q1b]))] (by kernel_rfl) hr
theorem Qyl (p0 : List Probe) (H : Qg7 p0) : ∀ (r0 : List Probe) (i0 : Nat) (v0_1 : List Val), List.drop i0 p0 = r0 → List.length v0_1 ≤ i0 → Qgx p0 (Qfc p0 i0 v0_1) (Q57 p0 r0 i0 v0_1)
 | [], i0, v0_1, hd, ho0_0 => by
  have hc0 : (decide ((i0 : Int) < ((List.length p0) : Int))) = false := by have := Q1m hd; simp; omega
  rw [Q57]
  exact Q18o p0 H i0 v0_1 ho0_0 hc0
 | x0 :: r0, i0, v0_1, hd, ho0_0 => by
  obtain ⟨hx0, hi0, hd'⟩ := Q1k hd
  have hc0 : (decide ((i0 : Int) < ((List.length p0) : Int))) = true := by simp; omega
  rw [Q57]
  exact Qsr p0 (fun r hr => Q16k p0 H x0 i0 v0_1 hx0 hi0 ho0_0 hc0 hr) _ (Qyl p0 H r0 (i0 + 1) (v0_1 ++ [(Q1o ([(Fld.mk Q29 (Qr x0.delay)), (Fld.mk Q23 (Qr x0.period)), (Fld.mk Q1s (Qr x0.success)), (Fld.mk Q1y (Qr x0.failure))]))]) hd' (by first | omega | (simp; omega)))
def Q3i (p0 : List Probe) : Val := vL (p0.map Probe.enc)
theorem Q1z4 (p0 : List Probe) : Q3i p0 = ((Val.mk 4 0 eB (Q57 p0 p0 0 []) [])) := by
  rw [Q146]
  kernel_rfl
def Q1wz (p0 : List Probe) : En := .call 274 [.sl (Probe.rows p0)] []
def Q1o8 (p0 : List Probe) : Rs := .ret (.agg (Val.cells (Q3i p0))) []
def Q19a (p0 : List Probe) : Prop := LSm Probe.sm p0
theorem Q1e4 (p0 : List Probe) (H : Q19a p0) : (Qg7 p0) ∧ True := by
  exact ⟨⟨Nat.le_trans H.1 (Nat.le_of_ble_eq_true rfl), trivial⟩, trivial⟩
theorem Q1j4 (p0 : List Probe) (H : Q19a p0) : Q7 G (Q1wz p0) (Q1o8 p0) := by
 unfold Q1o8
 rw [Q1z4]
 have hl0 := Qyl p0 ((Q1e4 p0 H).1) p0 0 [] (by simp) (by simp)
 obtain ⟨z0, zo0, hl0⟩ := hl0
 exact Q8 (fn := Ir.K2n) rfl VOK.nil [hS 0 true (Val.Qb (Q57 p0 p0 0 []) 5 rfl), hQ (Val.Q9 (Q57 p0 p0 0 [])).symm] [aV [(1, Val.rows (Q57 p0 p0 0 []))] hl0] (by kernel_rfl)
def Q53 (p0 : List Container) : List Container → Nat → (List Val) → List Val
 | [], _i0, v0_1 =>
  v0_1
 | x0 :: r0, i0, v0_1 =>
  Q53 p0 r0 (i0 + 1) (v0_1 ++ [(Q1o ([(Fld.mk Q12 (Q17 x0.name)), (Fld.mk Qx (Q17 x0.image)), (Fld.mk Qj (Q4p x0.request)), (Fld.mk Q1n (Q4p x0.limit)), (Fld.mk Q2u (Q3i x0.live)), (Fld.mk Q1c (Q3i x0.ready)), (Fld.mk Q20 (Q3i x0.startup))]))])
theorem Q142 (p0 : List Container) : ∀ (l : List Container) (i : Nat) (a : List Val), Q53 p0 l i a = a ++ l.map (fun x0 => (Q1o ([(Fld.mk Q12 (Q17 x0.name)), (Fld.mk Qx (Q17 x0.image)), (Fld.mk Qj (Q4p x0.request)), (Fld.mk Q1n (Q4p x0.limit)), (Fld.mk Q2u (Q3i x0.live)), (Fld.mk Q1c (Q3i x0.ready)), (Fld.mk Q20 (Q3i x0.startup))])))
  | [], _, _ => by simp [Q53]
  | x :: r, i, a => by rw [Q53, Q142 p0 r]; simp
def Qvj (p0 : List Container) (i0 : Nat) (v0_1 : List Val) : List PV :=
  [.sl (Container.rows p0), .un, .bx 0 0, .ms 1 5 0 (List.length v0_1), .int .i64 (i0 : Int)] ++ nuns 46
def Qhx (_p0 : List Container) (_i0 : Nat) (v0_1 : List Val) : List Ob :=
  [⟨5, 0, true, [.int .i64 0, .int .i64 0, .str eB, .ms 2 5 0 0, .ms 3 6 0 0]⟩, ⟨5, 0, true, (Val.rows v0_1).flatten⟩, ⟨5, 0, true, []⟩, ⟨6, 0, true, []⟩]
def Qf8 (p0 : List Container) (i0 : Nat) (v0_1 : List Val) : En := .loop 0 Ir.Qj9 Ir.Q1g8 (Qvj p0 i0 v0_1) (Qhx p0 i0 v0_1)
def Qo4 (_p0 : List Container) (q0 : List Val) (z : Nat → PV) (_zo : Nat → List PV) : St :=
  ⟨[z 0, z 1, .bx 0 0, .ms 1 5 0 (List.length q0)] ++ zr z 4 47, [(0, ⟨5, 0, true, [.int .i64 0, .int .i64 0, .str eB, .ms 2 5 0 0, .ms 3 6 0 0]⟩), (1, ⟨5, 0, true, (Val.rows q0).flatten⟩), (2, ⟨5, 0, true, []⟩), (3, ⟨6, 0, true, []⟩)], 260⟩
theorem Q121 (p0 : List Container) (i0 : Nat) (v0_1 : List Val) : VOK (Go.Pv.look (number 0 (Qhx p0 i0 v0_1))) [(1, Val.rows v0_1)] := (VOK.cons (show Seen _ _ from Q3k (ob := ⟨5, 0, true, (Val.rows v0_1).flatten⟩) (Val.Qb v0_1 5 rfl)) VOK.nil)
def Qgs (p0 : List Container) (e : En) (q : List Val) : Prop := ∃ z zo, Q7 G e (.st (.exit 0) (Qo4 p0 q z zo))
theorem Qsm (p0 : List Container) {e e' : En} (h : ∀ r, Q7 G e r → Q7 G e' r) : ∀ q, Qgs p0 e q → Qgs p0 e' q
  | _, ⟨z, zo, hz⟩ => ⟨z, zo, h _ hz⟩
def Qg3 (p0 : List Container) : Prop := (List.length p0 ≤ 137438953472) ∧ (∀ x0 ∈ p0, Q19a x0.live) ∧ (∀ x0 ∈ p0, Q19a x0.ready) ∧ (∀ x0 ∈ p0, Q19a x0.startup) ∧ True
def Qpm (p0 : List Container) (i0 : Nat) (_v0_1 : List Val) : List PV :=
  [.sl (Container.rows p0), .un, .un, .un, .int .i64 (i0 : Int), .un, .int .i64 (i0 : Int), .sl (Container.rows p0), .int .i64 ((List.length p0) : Int), .bool false]
def Qks (_p0 : List Container) (_i0 : Nat) (_v0_1 : List Val) : List (Nat × List PV) :=
  []
theorem Q18h (p0 : List Container) (_H : Qg3 p0) (i0 : Nat) (v0_1 : List Val) (_ho0_0 : List.length v0_1 ≤ i0) (hc0 : (decide ((i0 : Int) < ((List.length p0) : Int))) = false) : Qgs p0 (Qf8 p0 i0 v0_1) v0_1 := by
 exact ⟨(envF (Qpm p0 i0 v0_1)), (zoF (Qks p0 i0 v0_1)), Qm (Q121 p0 i0 v0_1) (x := ((.exit 0), Qo4 p0 v0_1 (envF (Qpm p0 i0 v0_1)) (zoF (Qks p0 i0 v0_1)))) [hP 2 (Q11 (Container.rows p0) (List.length p0) (Container.Q9 p0)), hB 0 hc0] [] (by kernel_rfl)⟩
theorem Q16d (p0 : List Container) (H : Qg3 p0) (x0 : Container) (i0 : Nat) (v0_1 : List Val) (hx0 : p0[i0]? = some x0) (hi0 : i0 < List.length p0) (ho0_0 : List.length v0_1 ≤ i0) (hc0 : (decide ((i0 : Int) < ((List.length p0) : Int))) = true) {r : Rs} (hr : Q7 G (Qf8 p0 (i0 + 1) (v0_1 ++ [(Q1o ([(Fld.mk Q12 (Q17 x0.name)), (Fld.mk Qx (Q17 x0.image)), (Fld.mk Qj (Q4p x0.request)), (Fld.mk Q1n (Q4p x0.limit)), (Fld.mk Q2u (Q3i x0.live)), (Fld.mk Q1c (Q3i x0.ready)), (Fld.mk Q20 (Q3i x0.startup))]))])) r) : Q7 G (Qf8 p0 i0 v0_1) r := by
 have hB0 := H.1
 exact Ql (Q121 p0 i0 v0_1) (y := (Qvj p0 (i0 + 1) (v0_1 ++ [(Q1o ([(Fld.mk Q12 (Q17 x0.name)), (Fld.mk Qx (Q17 x0.image)), (Fld.mk Qj (Q4p x0.request)), (Fld.mk Q1n (Q4p x0.limit)), (Fld.mk Q2u (Q3i x0.live)), (Fld.mk Q1c (Q3i x0.ready)), (Fld.mk Q20 (Q3i x0.startup))]))]), Qhx p0 (i0 + 1) (v0_1 ++ [(Q1o ([(Fld.mk Q12 (Q17 x0.name)), (Fld.mk Qx (Q17 x0.image)), (Fld.mk Qj (Q4p x0.request)), (Fld.mk Q1n (Q4p x0.limit)), (Fld.mk Q2u (Q3i x0.live)), (Fld.mk Q1c (Q3i x0.ready)), (Fld.mk Q20 (Q3i x0.startup))]))]))) [hP 2 (Q11 (Container.rows p0) (List.length p0) (Container.Q9 p0)), hB 0 hc0, hP 2 (Q2s 11 (Container.rows p0) i0 _ (Container.Qo hx0) rfl), hV 35 [(2692, Val.rows (v0_1 ++ [(Q1o ([(Fld.mk Q12 (Q17 x0.name)), (Fld.mk Qx (Q17 x0.image)), (Fld.mk Qj (Q4p x0.request)), (Fld.mk Q1n (Q4p x0.limit)), (Fld.mk Q2u (Q3i x0.live)), (Fld.mk Q1c (Q3i x0.ready)), (Fld.mk Q20 (Q3i x0.startup))]))]))] (Q42 1 2628 2692 5 80 0 0 true (Val.rows v0_1) (Val.rows (v0_1 ++ [(Q1o ([(Fld.mk Q12 (Q17 x0.name)), (Fld.mk Qx (Q17 x0.image)), (Fld.mk Qj (Q4p x0.request)), (Fld.mk Q1n (Q4p x0.limit)), (Fld.mk Q2u (Q3i x0.live)), (Fld.mk Q1c (Q3i x0.ready)), (Fld.mk Q20 (Q3i x0.startup))]))])) (Val.cells (Q1o ([(Fld.mk Q12 (Q17 x0.name)), (Fld.mk Qx (Q17 x0.image)), (Fld.mk Qj (Q4p x0.request)), (Fld.mk Q1n (Q4p x0.limit)), (Fld.mk Q2u (Q3i x0.live)), (Fld.mk Q1c (Q3i x0.ready)), (Fld.mk Q20 (Q3i x0.startup))]))) (List.length v0_1) (List.length (v0_1 ++ [(Q1o ([(Fld.mk Q12 (Q17 x0.name)), (Fld.mk Qx (Q17 x0.image)), (Fld.mk Qj (Q4p x0.request)), (Fld.mk Q1n (Q4p x0.limit)), (Fld.mk Q2u (Q3i x0.live)), (Fld.mk Q1c (Q3i x0.ready)), (Fld.mk Q20 (Q3i x0.startup))]))])) rfl (Val.Q9 v0_1).symm (Val.Q9 (v0_1 ++ [(Q1o ([(Fld.mk Q12 (Q17 x0.name)), (Fld.mk Qx (Q17 x0.image)), (Fld.mk Qj (Q4p x0.request)), (Fld.mk Q1n (Q4p x0.limit)), (Fld.mk Q2u (Q3i x0.live)), (Fld.mk Q1c (Q3i x0.ready)), (Fld.mk Q20 (Q3i x0.startup))]))])).symm (Val.Q1t v0_1 (Q1o ([(Fld.mk Q12 (Q17 x0.name)), (Fld.mk Qx (Q17 x0.image)), (Fld.mk Qj (Q4p x0.request)), (Fld.mk Q1n (Q4p x0.limit)), (Fld.mk Q2u (Q3i x0.live)), (Fld.mk Q1c (Q3i x0.ready)), (Fld.mk Q20 (Q3i x0.startup))]))) (Val.Qu v0_1) rfl (by omega)), hS 0 true (Val.Qb (v0_1 ++ [(Q1o ([(Fld.mk Q12 (Q17 x0.name)), (Fld.mk Qx (Q17 x0.image)), (Fld.mk Qj (Q4p x0.request)), (Fld.mk Q1n (Q4p x0.limit)), (Fld.mk Q2u (Q3i x0.live)), (Fld.mk Q1c (Q3i x0.ready)), (Fld.mk Q20 (Q3i x0.startup))]))]) 5 rfl), hP 2 (Q2g i0 (by omega))] [aN (Qmr x0.name), aN (Qmr x0.image), aN (Q1ra x0.request), aN (Q1ra x0.limit), aN (Q1j4 x0.live (H.2.1 x0 (Q2l hx0))), aN (Q1j4 x0.ready (H.2.2.1 x0 (Q2l hx0))), aN (Q1j4 x0.startup (H.2.2.2.1 x0 (Q2l hx0))), aN (Q4j (e' := .call 163 [.sl [(Fld.cells (Fld.mk Q12 (Q17 x0.name))), (Fld.cells (Fld.mk Qx (Q17 x0.image))), (Fld.cells (Fld.mk Qj (Q4p x0.request))), (Fld.cells (Fld.mk Q1n (Q4p x0.limit))), (Fld.cells (Fld.mk Q2u (Q3i x0.live))), (Fld.cells (Fld.mk Q1c (Q3i x0.ready))), (Fld.cells (Fld.mk Q20 (Q3i x0.startup)))]] []) (Qaq ([(Fld.mk Q12 (Q17 x0.name)), (Fld.mk Qx (Q17 x0.image)), (Fld.mk Qj (Q4p x0.request)), (Fld.mk Q1n (Q4p x0.limit)), (Fld.mk Q2u (Q3i x0.live)), (Fld.mk Q1c (Q3i x0.ready)), (Fld.mk Q20 (Q3i x0.startup))]) (Nat.le_of_ble_eq_true rfl)) (by simp only [Q9g, Fld.Qy, Fld.Q1b]))] (by kernel_rfl) hr
theorem Qyg (p0 : List Container) (H : Qg3 p0) : ∀ (r0 : List Container) (i0 : Nat) (v0_1 : List Val), List.drop i0 p0 = r0 → List.length v0_1 ≤ i0 → Qgs p0 (Qf8 p0 i0 v0_1) (Q53 p0 r0 i0 v0_1)
 | [], i0, v0_1, hd, ho0_0 => by
  have hc0 : (decide ((i0 : Int) < ((List.length p0) : Int))) = false := by have := Q1m hd; simp; omega
  rw [Q53]
  exact Q18h p0 H i0 v0_1 ho0_0 hc0
 | x0 :: r0, i0, v0_1, hd, ho0_0 => by
  obtain ⟨hx0, hi0, hd'⟩ := Q1k hd
  have hc0 : (decide ((i0 : Int) < ((List.length p0) : Int))) = true := by simp; omega
  rw [Q53]
  exact Qsm p0 (fun r hr => Q16d p0 H x0 i0 v0_1 hx0 hi0 ho0_0 hc0 hr) _ (Qyg p0 H r0 (i0 + 1) (v0_1 ++ [(Q1o ([(Fld.mk Q12 (Q17 x0.name)), (Fld.mk Qx (Q17 x0.image)), (Fld.mk Qj (Q4p x0.request)), (Fld.mk Q1n (Q4p x0.limit)), (Fld.mk Q2u (Q3i x0.live)), (Fld.mk Q1c (Q3i x0.ready)), (Fld.mk Q20 (Q3i x0.startup))]))]) hd' (by first | omega | (simp; omega)))
def Q1ce (p0 : List Container) : Val := vL (p0.map Container.enc)
theorem Q1yy (p0 : List Container) : Q1ce p0 = ((Val.mk 4 0 eB (Q53 p0 p0 0 []) [])) := by
  rw [Q142]
  kernel_rfl
def Q1ws (p0 : List Container) : En := .call 233 [.sl (Container.rows p0)] []
def Q1o0 (p0 : List Container) : Rs := .ret (.agg (Val.cells (Q1ce p0))) []
def Q1ho (p0 : List Container) : Prop := LSm Container.sm p0
theorem Q1e0 (p0 : List Container) (H : Q1ho p0) : (Qg3 p0) ∧ True := by
  exact ⟨⟨Nat.le_trans H.1 (Nat.le_of_ble_eq_true rfl), (by first | exact H.2 | exact fun x hx => (H.2 x hx).1 | exact fun x hx => (H.2 x hx).2.1 | exact fun x hx => (H.2 x hx).2.2.1 | exact fun x hx => (H.2 x hx).2.2.2.1 | exact fun x hx => (H.2 x hx).2.2.2.2.1), (by first | exact H.2 | exact fun x hx => (H.2 x hx).1 | exact fun x hx => (H.2 x hx).2.1 | exact fun x hx => (H.2 x hx).2.2.1 | exact fun x hx => (H.2 x hx).2.2.2.1 | exact fun x hx => (H.2 x hx).2.2.2.2.1), (by first | exact H.2 | exact fun x hx => (H.2 x hx).1 | exact fun x hx => (H.2 x hx).2.1 | exact fun x hx => (H.2 x hx).2.2.1 | exact fun x hx => (H.2 x hx).2.2.2.1 | exact fun x hx => (H.2 x hx).2.2.2.2.1), trivial⟩, trivial⟩
theorem Q21h (p0 : List Container) (H : Q1ho p0) : Q7 G (Q1ws p0) (Q1o0 p0) := by
 unfold Q1o0
 rw [Q1yy]
 have hl0 := Qyg p0 ((Q1e0 p0 H).1) p0 0 [] (by simp) (by simp)
 obtain ⟨z0, zo0, hl0⟩ := hl0
 exact Q8 (fn := Ir.K27) rfl VOK.nil [hS 0 true (Val.Qb (Q53 p0 p0 0 []) 5 rfl), hQ (Val.Q9 (Q53 p0 p0 0 [])).symm] [aV [(1, Val.rows (Q53 p0 p0 0 []))] hl0] (by kernel_rfl)
def Q2b (p0 : Bool) : Val := vB p0
theorem Q1yx (p0 : Bool) : Q2b p0 = (bif p0 then
    (Val.mk 1 1 eB [] [])
  else
    (Val.mk 1 0 eB [] [])) := by
  cases p0 <;> rfl
def Q1wr (p0 : Bool) : En := .call 167 [.bool p0] []
def Q1nz (p0 : Bool) : Rs := .ret (.agg (Val.cells (Q2b p0))) []
theorem Qzn (p0 : Bool) : Q7 G (Q1wr p0) (Q1nz p0) := by
 unfold Q1nz
 rw [Q1yx]
 cases h0 : p0 with
 | true =>
  exact Q8 (fn := Ir.K24) rfl VOK.nil [] [] (by kernel_rfl)
 | false =>
  exact Q8 (fn := Ir.K24) rfl VOK.nil [] [] (by kernel_rfl)
def Q55 (p0 : List NodeTerm) : List NodeTerm → Nat → (List Val) → List Val
 | [], _i0, v0_1 =>
  v0_1
 | x0 :: r0, i0, v0_1 =>
  Q55 p0 r0 (i0 + 1) (v0_1 ++ [(Q1o ([(Fld.mk Qa (Q2b x0.required)), (Fld.mk Q5 (Q2z x0.selector)), (Fld.mk Q10 (Qr x0.weight))]))])
theorem Q144 (p0 : List NodeTerm) : ∀ (l : List NodeTerm) (i : Nat) (a : List Val), Q55 p0 l i a = a ++ l.map (fun x0 => (Q1o ([(Fld.mk Qa (Q2b x0.required)), (Fld.mk Q5 (Q2z x0.selector)), (Fld.mk Q10 (Qr x0.weight))])))
  | [], _, _ => by simp [Q55]
  | x :: r, i, a => by rw [Q55, Q144 p0 r]; simp
def Qvm (p0 : List NodeTerm) (i0 : Nat) (v0_1 : List Val) : List PV :=
  [.sl (NodeTerm.rows p0), .un, .bx 0 0, .ms 1 5 0 (List.length v0_1), .int .i64 (i0 : Int)] ++ nuns 34
def Qi0 (_p0 : List NodeTerm) (_i0 : Nat) (v0_1 : List Val) : List Ob :=
  [⟨5, 0, true, [.int .i64 0, .int .i64 0, .str eB, .ms 2 5 0 0, .ms 3 6 0 0]⟩, ⟨5, 0, true, (Val.rows v0_1).flatten⟩, ⟨5, 0, true, []⟩, ⟨6, 0, true, []⟩]
def Qfa (p0 : List NodeTerm) (i0 : Nat) (v0_1 : List Val) : En := .loop 0 Ir.Qjd Ir.Q1gc (Qvm p0 i0 v0_1) (Qi0 p0 i0 v0_1)
def Qo7 (_p0 : List NodeTerm) (q0 : List Val) (z : Nat → PV) (_zo : Nat → List PV) : St :=
  ⟨[z 0, z 1, .bx 0 0, .ms 1 5 0 (List.length q0)] ++ zr z 4 35, [(0, ⟨5, 0, true, [.int .i64 0, .int .i64 0, .str eB, .ms 2 5 0 0, .ms 3 6 0 0]⟩), (1, ⟨5, 0, true, (Val.rows q0).flatten⟩), (2, ⟨5, 0, true, []⟩), (3, ⟨6, 0, true, []⟩)], 260⟩
theorem Q123 (p0 : List NodeTerm) (i0 : Nat) (v0_1 : List Val) : VOK (Go.Pv.look (number 0 (Qi0 p0 i0 v0_1))) [(1, Val.rows v0_1)] := (VOK.cons (show Seen _ _ from Q3k (ob := ⟨5, 0, true, (Val.rows v0_1).flatten⟩) (Val.Qb v0_1 5 rfl)) VOK.nil)
def Qgv (p0 : List NodeTerm) (e : En) (q : List Val) : Prop := ∃ z zo, Q7 G e (.st (.exit 0) (Qo7 p0 q z zo))
theorem Qsp (p0 : List NodeTerm) {e e' : En} (h : ∀ r, Q7 G e r → Q7 G e' r) : ∀ q, Qgv p0 e q → Qgv p0 e' q
  | _, ⟨z, zo, hz⟩ => ⟨z, zo, h _ hz⟩
def Qg5 (p0 : List NodeTerm) : Prop := (List.length p0 ≤ 137438953472) ∧ (∀ x0 ∈ p0, Qrw x0.selector) ∧ True
def Qpr (p0 : List NodeTerm) (i0 : Nat) (_v0_1 : List Val) : List PV :=
  [.sl (NodeTerm.rows p0), .un, .un, .un, .int .i64 (i0 : Int), .int .i64 (i0 : Int), .sl (NodeTerm.rows p0), .int .i64 ((List.length p0) : Int), .bool false]
def Qkx (_p0 : List NodeTerm) (_i0 : Nat) (_v0_1 : List Val) : List (Nat × List PV) :=
  []
theorem Q18m (p0 : List NodeTerm) (_H : Qg5 p0) (i0 : Nat) (v0_1 : List Val) (_ho0_0 : List.length v0_1 ≤ i0) (hc0 : (decide ((i0 : Int) < ((List.length p0) : Int))) = false) : Qgv p0 (Qfa p0 i0 v0_1) v0_1 := by
 exact ⟨(envF (Qpr p0 i0 v0_1)), (zoF (Qkx p0 i0 v0_1)), Qm (Q123 p0 i0 v0_1) (x := ((.exit 0), Qo7 p0 v0_1 (envF (Qpr p0 i0 v0_1)) (zoF (Qkx p0 i0 v0_1)))) [hP 2 (Q11 (NodeTerm.rows p0) (List.length p0) (NodeTerm.Q9 p0)), hB 0 hc0] [] (by kernel_rfl)⟩
theorem Q16i (p0 : List NodeTerm) (H : Qg5 p0) (x0 : NodeTerm) (i0 : Nat) (v0_1 : List Val) (hx0 : p0[i0]? = some x0) (hi0 : i0 < List.length p0) (ho0_0 : List.length v0_1 ≤ i0) (hc0 : (decide ((i0 : Int) < ((List.length p0) : Int))) = true) {r : Rs} (hr : Q7 G (Qfa p0 (i0 + 1) (v0_1 ++ [(Q1o ([(Fld.mk Qa (Q2b x0.required)), (Fld.mk Q5 (Q2z x0.selector)), (Fld.mk Q10 (Qr x0.weight))]))])) r) : Q7 G (Qfa p0 i0 v0_1) r := by
 have hB0 := H.1
 exact Ql (Q123 p0 i0 v0_1) (y := (Qvm p0 (i0 + 1) (v0_1 ++ [(Q1o ([(Fld.mk Qa (Q2b x0.required)), (Fld.mk Q5 (Q2z x0.selector)), (Fld.mk Q10 (Qr x0.weight))]))]), Qi0 p0 (i0 + 1) (v0_1 ++ [(Q1o ([(Fld.mk Qa (Q2b x0.required)), (Fld.mk Q5 (Q2z x0.selector)), (Fld.mk Q10 (Qr x0.weight))]))]))) [hP 2 (Q11 (NodeTerm.rows p0) (List.length p0) (NodeTerm.Q9 p0)), hB 0 hc0, hP 3 (Q2s 3 (NodeTerm.rows p0) i0 _ (NodeTerm.Qo hx0) rfl), hP 6 (Q2s 3 (NodeTerm.rows p0) i0 _ (NodeTerm.Qo hx0) rfl), hP 6 (Q2s 3 (NodeTerm.rows p0) i0 _ (NodeTerm.Qo hx0) rfl), hV 7 [(1860, Val.rows (v0_1 ++ [(Q1o ([(Fld.mk Qa (Q2b x0.required)), (Fld.mk Q5 (Q2z x0.selector)), (Fld.mk Q10 (Qr x0.weight))]))]))] (Q42 1 1796 1860 5 80 0 0 true (Val.rows v0_1) (Val.rows (v0_1 ++ [(Q1o ([(Fld.mk Qa (Q2b x0.required)), (Fld.mk Q5 (Q2z x0.selector)), (Fld.mk Q10 (Qr x0.weight))]))])) (Val.cells (Q1o ([(Fld.mk Qa (Q2b x0.required)), (Fld.mk Q5 (Q2z x0.selector)), (Fld.mk Q10 (Qr x0.weight))]))) (List.length v0_1) (List.length (v0_1 ++ [(Q1o ([(Fld.mk Qa (Q2b x0.required)), (Fld.mk Q5 (Q2z x0.selector)), (Fld.mk Q10 (Qr x0.weight))]))])) rfl (Val.Q9 v0_1).symm (Val.Q9 (v0_1 ++ [(Q1o ([(Fld.mk Qa (Q2b x0.required)), (Fld.mk Q5 (Q2z x0.selector)), (Fld.mk Q10 (Qr x0.weight))]))])).symm (Val.Q1t v0_1 (Q1o ([(Fld.mk Qa (Q2b x0.required)), (Fld.mk Q5 (Q2z x0.selector)), (Fld.mk Q10 (Qr x0.weight))]))) (Val.Qu v0_1) rfl (by omega)), hS 0 true (Val.Qb (v0_1 ++ [(Q1o ([(Fld.mk Qa (Q2b x0.required)), (Fld.mk Q5 (Q2z x0.selector)), (Fld.mk Q10 (Qr x0.weight))]))]) 5 rfl), hP 2 (Q2g i0 (by omega))] [aN (Qzn x0.required), aN (Q117 x0.selector (H.2.1 x0 (Q2l hx0))), aN (Q51 x0.weight), aN (Q4j (e' := .call 163 [.sl [(Fld.cells (Fld.mk Qa (Q2b x0.required))), (Fld.cells (Fld.mk Q5 (Q2z x0.selector))), (Fld.cells (Fld.mk Q10 (Qr x0.weight)))]] []) (Qaq ([(Fld.mk Qa (Q2b x0.required)), (Fld.mk Q5 (Q2z x0.selector)), (Fld.mk Q10 (Qr x0.weight))]) (Nat.le_of_ble_eq_true rfl)) (by simp only [Q9g, Fld.Qy, Fld.Q1b]))] (by kernel_rfl) hr
theorem Qyj (p0 : List NodeTerm) (H : Qg5 p0) : ∀ (r0 : List NodeTerm) (i0 : Nat) (v0_1 : List Val), List.drop i0 p0 = r0 → List.length v0_1 ≤ i0 → Qgv p0 (Qfa p0 i0 v0_1) (Q55 p0 r0 i0 v0_1)
 | [], i0, v0_1, hd, ho0_0 => by
  have hc0 : (decide ((i0 : Int) < ((List.length p0) : Int))) = false := by have := Q1m hd; simp; omega
  rw [Q55]
  exact Q18m p0 H i0 v0_1 ho0_0 hc0
 | x0 :: r0, i0, v0_1, hd, ho0_0 => by
  obtain ⟨hx0, hi0, hd'⟩ := Q1k hd
  have hc0 : (decide ((i0 : Int) < ((List.length p0) : Int))) = true := by simp; omega
  rw [Q55]
  exact Qsp p0 (fun r hr => Q16i p0 H x0 i0 v0_1 hx0 hi0 ho0_0 hc0 hr) _ (Qyj p0 H r0 (i0 + 1) (v0_1 ++ [(Q1o ([(Fld.mk Qa (Q2b x0.required)), (Fld.mk Q5 (Q2z x0.selector)), (Fld.mk Q10 (Qr x0.weight))]))]) hd' (by first | omega | (simp; omega)))
def Q1cg (p0 : List NodeTerm) : Val := vL (p0.map NodeTerm.enc)
theorem Q1z1 (p0 : List NodeTerm) : Q1cg p0 = ((Val.mk 4 0 eB (Q55 p0 p0 0 []) [])) := by
  rw [Q144]
  kernel_rfl
def Q1ww (p0 : List NodeTerm) : En := .call 234 [.sl (NodeTerm.rows p0)] []
def Q1o5 (p0 : List NodeTerm) : Rs := .ret (.agg (Val.cells (Q1cg p0))) []
def Q1hr (p0 : List NodeTerm) : Prop := LSm NodeTerm.sm p0
theorem Q1e2 (p0 : List NodeTerm) (H : Q1hr p0) : (Qg5 p0) ∧ True := by
  exact ⟨⟨Nat.le_trans H.1 (Nat.le_of_ble_eq_true rfl), (by first | exact H.2 | exact fun x hx => (H.2 x hx).1 | exact fun x hx => (H.2 x hx).2.1 | exact fun x hx => (H.2 x hx).2.2.1 | exact fun x hx => (H.2 x hx).2.2.2.1 | exact fun x hx => (H.2 x hx).2.2.2.2.1), trivial⟩, trivial⟩
theorem Q21k (p0 : List NodeTerm) (H : Q1hr p0) : Q7 G (Q1ww p0) (Q1o5 p0) := by
 unfold Q1o5
 rw [Q1z1]
 have hl0 := Qyj p0 ((Q1e2 p0 H).1) p0 0 [] (by simp) (by simp)
 obtain ⟨z0, zo0, hl0⟩ := hl0
 exact Q8 (fn := Ir.K2j) rfl VOK.nil [hS 0 true (Val.Qb (Q55 p0 p0 0 []) 5 rfl), hQ (Val.Q9 (Q55 p0 p0 0 [])).symm] [aV [(1, Val.rows (Q55 p0 p0 0 []))] hl0] (by kernel_rfl)
def Q56 (p0 : List PodTerm) : List PodTerm → Nat → (List Val) → List Val
 | [], _i0, v0_1 =>
  v0_1
 | x0 :: r0, i0, v0_1 =>
  Q56 p0 r0 (i0 + 1) (v0_1 ++ [(Q1o ([(Fld.mk Qa (Q2b x0.required)), (Fld.mk Q2q (Q2b x0.anti)), (Fld.mk Q5 (Q2z x0.selector)), (Fld.mk Qk (Q17 x0.topology)), (Fld.mk Q10 (Qr x0.weight))]))])
theorem Q145 (p0 : List PodTerm) : ∀ (l : List PodTerm) (i : Nat) (a : List Val), Q56 p0 l i a = a ++ l.map (fun x0 => (Q1o ([(Fld.mk Qa (Q2b x0.required)), (Fld.mk Q2q (Q2b x0.anti)), (Fld.mk Q5 (Q2z x0.selector)), (Fld.mk Qk (Q17 x0.topology)), (Fld.mk Q10 (Qr x0.weight))])))
  | [], _, _ => by simp [Q56]
  | x :: r, i, a => by rw [Q56, Q145 p0 r]; simp
def Qvn (p0 : List PodTerm) (i0 : Nat) (v0_1 : List Val) : List PV :=
  [.sl (PodTerm.rows p0), .un, .bx 0 0, .ms 1 5 0 (List.length v0_1), .int .i64 (i0 : Int)] ++ nuns 38
def Qi1 (_p0 : List PodTerm) (_i0 : Nat) (v0_1 : List Val) : List Ob :=
  [⟨5, 0, true, [.int .i64 0, .int .i64 0, .str eB, .ms 2 5 0 0, .ms 3 6 0 0]⟩, ⟨5, 0, true, (Val.rows v0_1).flatten⟩, ⟨5, 0, true, []⟩, ⟨6, 0, true, []⟩]
def Qfb (p0 : List PodTerm) (i0 : Nat) (v0_1 : List Val) : En := .loop 0 Ir.Qje Ir.Q1gd (Qvn p0 i0 v0_1) (Qi1 p0 i0 v0_1)
def Qo8 (_p0 : List PodTerm) (q0 : List Val) (z : Nat → PV) (_zo : Nat → List PV) : St :=
  ⟨[z 0, z 1, .bx 0 0, .ms 1 5 0 (List.length q0)] ++ zr z 4 39, [(0, ⟨5, 0, true, [.int .i64 0, .int .i64 0, .str eB, .ms 2 5 0 0, .ms 3 6 0 0]⟩), (1, ⟨5, 0, true, (Val.rows q0).flatten⟩), (2, ⟨5, 0, true, []⟩), (3, ⟨6, 0, true, []⟩)], 260⟩
theorem Q124 (p0 : List PodTerm) (i0 : Nat) (v0_1 : List Val) : VOK (Go.Pv.look (number 0 (Qi1 p0 i0 v0_1))) [(1, Val.rows v0_1)] := (VOK.cons (show Seen _ _ from Q3k (ob := ⟨5, 0, true, (Val.rows v0_1).flatten⟩) (Val.Qb v0_1 5 rfl)) VOK.nil)
def Qgw (p0 : List PodTerm) (e : En) (q : List Val) : Prop := ∃ z zo, Q7 G e (.st (.exit 0) (Qo8 p0 q z zo))
theorem Qsq (p0 : List PodTerm) {e e' : En} (h : ∀ r, Q7 G e r → Q7 G e' r) : ∀ q, Qgw p0 e q → Qgw p0 e' q
  | _, ⟨z, zo, hz⟩ => ⟨z, zo, h _ hz⟩
def Qg6 (p0 : List PodTerm) : Prop := (List.length p0 ≤ 137438953472) ∧ (∀ x0 ∈ p0, Qrw x0.selector) ∧ True
def Qps (p0 : List PodTerm) (i0 : Nat) (_v0_1 : List Val) : List PV :=
  [.sl (PodTerm.rows p0), .un, .un, .un, .int .i64 (i0 : Int), .un, .int .i64 (i0 : Int), .sl (PodTerm.rows p0), .int .i64 ((List.length p0) : Int), .bool false]
def Qky (_p0 : List PodTerm) (_i0 : Nat) (_v0_1 : List Val) : List (Nat × List PV) :=
  []
theorem Q18n (p0 : List PodTerm) (_H : Qg6 p0) (i0 : Nat) (v0_1 : List Val) (_ho0_0 : List.length v0_1 ≤ i0) (hc0 : (decide ((i0 : Int) < ((List.length p0) : Int))) = false) : Qgw p0 (Qfb p0 i0 v0_1) v0_1 := by
 exact ⟨(envF (Qps p0 i0 v0_1)), (zoF (Qky p0 i0 v0_1)), Qm (Q124 p0 i0 v0_1) (x := ((.exit 0), Qo8 p0 v0_1 (envF (Qps p0 i0 v0_1)) (zoF (Qky p0 i0 v0_1)))) [hP 2 (Q11 (PodTerm.rows p0) (List.length p0) (PodTerm.Q9 p0)), hB 0 hc0] [] (by kernel_rfl)⟩
theorem Q16j (p0 : List PodTerm) (H : Qg6 p0) (x0 : PodTerm) (i0 : Nat) (v0_1 : List Val) (hx0 : p0[i0]? = some x0) (hi0 : i0 < List.length p0) (ho0_0 : List.length v0_1 ≤ i0) (hc0 : (decide ((i0 : Int) < ((List.length p0) : Int))) = true) {r : Rs} (hr : Q7 G (Qfb p0 (i0 + 1) (v0_1 ++ [(Q1o ([(Fld.mk Qa (Q2b x0.required)), (Fld.mk Q2q (Q2b x0.anti)), (Fld.mk Q5 (Q2z x0.selector)), (Fld.mk Qk (Q17 x0.topology)), (Fld.mk Q10 (Qr x0.weight))]))])) r) : Q7 G (Qfb p0 i0 v0_1) r := by
 have hB0 := H.1
 exact Ql (Q124 p0 i0 v0_1) (y := (Qvn p0 (i0 + 1) (v0_1 ++ [(Q1o ([(Fld.mk Qa (Q2b x0.required)), (Fld.mk Q2q (Q2b x0.anti)), (Fld.mk Q5 (Q2z x0.selector)), (Fld.mk Qk (Q17 x0.topology)), (Fld.mk Q10 (Qr x0.weight))]))]), Qi1 p0 (i0 + 1) (v0_1 ++ [(Q1o ([(Fld.mk Qa (Q2b x0.required)), (Fld.mk Q2q (Q2b x0.anti)), (Fld.mk Q5 (Q2z x0.selector)), (Fld.mk Qk (Q17 x0.topology)), (Fld.mk Q10 (Qr x0.weight))]))]))) [hP 2 (Q11 (PodTerm.rows p0) (List.length p0) (PodTerm.Q9 p0)), hB 0 hc0, hP 2 (Q2s 5 (PodTerm.rows p0) i0 _ (PodTerm.Qo hx0) rfl), hV 27 [(2180, Val.rows (v0_1 ++ [(Q1o ([(Fld.mk Qa (Q2b x0.required)), (Fld.mk Q2q (Q2b x0.anti)), (Fld.mk Q5 (Q2z x0.selector)), (Fld.mk Qk (Q17 x0.topology)), (Fld.mk Q10 (Qr x0.weight))]))]))] (Q42 1 2116 2180 5 80 0 0 true (Val.rows v0_1) (Val.rows (v0_1 ++ [(Q1o ([(Fld.mk Qa (Q2b x0.required)), (Fld.mk Q2q (Q2b x0.anti)), (Fld.mk Q5 (Q2z x0.selector)), (Fld.mk Qk (Q17 x0.topology)), (Fld.mk Q10 (Qr x0.weight))]))])) (Val.cells (Q1o ([(Fld.mk Qa (Q2b x0.required)), (Fld.mk Q2q (Q2b x0.anti)), (Fld.mk Q5 (Q2z x0.selector)), (Fld.mk Qk (Q17 x0.topology)), (Fld.mk Q10 (Qr x0.weight))]))) (List.length v0_1) (List.length (v0_1 ++ [(Q1o ([(Fld.mk Qa (Q2b x0.required)), (Fld.mk Q2q (Q2b x0.anti)), (Fld.mk Q5 (Q2z x0.selector)), (Fld.mk Qk (Q17 x0.topology)), (Fld.mk Q10 (Qr x0.weight))]))])) rfl (Val.Q9 v0_1).symm (Val.Q9 (v0_1 ++ [(Q1o ([(Fld.mk Qa (Q2b x0.required)), (Fld.mk Q2q (Q2b x0.anti)), (Fld.mk Q5 (Q2z x0.selector)), (Fld.mk Qk (Q17 x0.topology)), (Fld.mk Q10 (Qr x0.weight))]))])).symm (Val.Q1t v0_1 (Q1o ([(Fld.mk Qa (Q2b x0.required)), (Fld.mk Q2q (Q2b x0.anti)), (Fld.mk Q5 (Q2z x0.selector)), (Fld.mk Qk (Q17 x0.topology)), (Fld.mk Q10 (Qr x0.weight))]))) (Val.Qu v0_1) rfl (by omega)), hS 0 true (Val.Qb (v0_1 ++ [(Q1o ([(Fld.mk Qa (Q2b x0.required)), (Fld.mk Q2q (Q2b x0.anti)), (Fld.mk Q5 (Q2z x0.selector)), (Fld.mk Qk (Q17 x0.topology)), (Fld.mk Q10 (Qr x0.weight))]))]) 5 rfl), hP 2 (Q2g i0 (by omega))] [aN (Qzn x0.required), aN (Qzn x0.anti), aN (Q117 x0.selector (H.2.1 x0 (Q2l hx0))), aN (Qmr x0.topology), aN (Q51 x0.weight), aN (Q4j (e' := .call 163 [.sl [(Fld.cells (Fld.mk Qa (Q2b x0.required))), (Fld.cells (Fld.mk Q2q (Q2b x0.anti))), (Fld.cells (Fld.mk Q5 (Q2z x0.selector))), (Fld.cells (Fld.mk Qk (Q17 x0.topology))), (Fld.cells (Fld.mk Q10 (Qr x0.weight)))]] []) (Qaq ([(Fld.mk Qa (Q2b x0.required)), (Fld.mk Q2q (Q2b x0.anti)), (Fld.mk Q5 (Q2z x0.selector)), (Fld.mk Qk (Q17 x0.topology)), (Fld.mk Q10 (Qr x0.weight))]) (Nat.le_of_ble_eq_true rfl)) (by simp only [Q9g, Fld.Qy, Fld.Q1b]))] (by kernel_rfl) hr
theorem Qyk (p0 : List PodTerm) (H : Qg6 p0) : ∀ (r0 : List PodTerm) (i0 : Nat) (v0_1 : List Val), List.drop i0 p0 = r0 → List.length v0_1 ≤ i0 → Qgw p0 (Qfb p0 i0 v0_1) (Q56 p0 r0 i0 v0_1)
 | [], i0, v0_1, hd, ho0_0 => by
  have hc0 : (decide ((i0 : Int) < ((List.length p0) : Int))) = false := by have := Q1m hd; simp; omega
  rw [Q56]
  exact Q18n p0 H i0 v0_1 ho0_0 hc0
 | x0 :: r0, i0, v0_1, hd, ho0_0 => by
  obtain ⟨hx0, hi0, hd'⟩ := Q1k hd
  have hc0 : (decide ((i0 : Int) < ((List.length p0) : Int))) = true := by simp; omega
  rw [Q56]
  exact Qsq p0 (fun r hr => Q16j p0 H x0 i0 v0_1 hx0 hi0 ho0_0 hc0 hr) _ (Qyk p0 H r0 (i0 + 1) (v0_1 ++ [(Q1o ([(Fld.mk Qa (Q2b x0.required)), (Fld.mk Q2q (Q2b x0.anti)), (Fld.mk Q5 (Q2z x0.selector)), (Fld.mk Qk (Q17 x0.topology)), (Fld.mk Q10 (Qr x0.weight))]))]) hd' (by first | omega | (simp; omega)))
def Q1ci (p0 : List PodTerm) : Val := vL (p0.map PodTerm.enc)
theorem Q1z3 (p0 : List PodTerm) : Q1ci p0 = ((Val.mk 4 0 eB (Q56 p0 p0 0 []) [])) := by
  rw [Q145]
  kernel_rfl
def Q1wy (p0 : List PodTerm) : En := .call 235 [.sl (PodTerm.rows p0)] []
def Q1o7 (p0 : List PodTerm) : Rs := .ret (.agg (Val.cells (Q1ci p0))) []
def Q1ht (p0 : List PodTerm) : Prop := LSm PodTerm.sm p0
theorem Q1e3 (p0 : List PodTerm) (H : Q1ht p0) : (Qg6 p0) ∧ True := by
  exact ⟨⟨Nat.le_trans H.1 (Nat.le_of_ble_eq_true rfl), (by first | exact H.2 | exact fun x hx => (H.2 x hx).1 | exact fun x hx => (H.2 x hx).2.1 | exact fun x hx => (H.2 x hx).2.2.1 | exact fun x hx => (H.2 x hx).2.2.2.1 | exact fun x hx => (H.2 x hx).2.2.2.2.1), trivial⟩, trivial⟩
theorem Q21m (p0 : List PodTerm) (H : Q1ht p0) : Q7 G (Q1wy p0) (Q1o7 p0) := by
 unfold Q1o7
 rw [Q1z3]
 have hl0 := Qyk p0 ((Q1e3 p0 H).1) p0 0 [] (by simp) (by simp)
 obtain ⟨z0, zo0, hl0⟩ := hl0
 exact Q8 (fn := Ir.K2l) rfl VOK.nil [hS 0 true (Val.Qb (Q56 p0 p0 0 []) 5 rfl), hQ (Val.Q9 (Q56 p0 p0 0 [])).symm] [aV [(1, Val.rows (Q56 p0 p0 0 []))] hl0] (by kernel_rfl)
def Q59 (p0 : List SpreadRule) : List SpreadRule → Nat → (List Val) → List Val
 | [], _i0, v0_1 =>
  v0_1
 | x0 :: r0, i0, v0_1 =>
  Q59 p0 r0 (i0 + 1) (v0_1 ++ [(Q1o ([(Fld.mk Q1l (Qr x0.maxSkew)), (Fld.mk Qk (Q17 x0.topology)), (Fld.mk Q5 (Q2z x0.selector)), (Fld.mk Qa (Q2b x0.required))]))])
theorem Q148 (p0 : List SpreadRule) : ∀ (l : List SpreadRule) (i : Nat) (a : List Val), Q59 p0 l i a = a ++ l.map (fun x0 => (Q1o ([(Fld.mk Q1l (Qr x0.maxSkew)), (Fld.mk Qk (Q17 x0.topology)), (Fld.mk Q5 (Q2z x0.selector)), (Fld.mk Qa (Q2b x0.required))])))
  | [], _, _ => by simp [Q59]
  | x :: r, i, a => by rw [Q59, Q148 p0 r]; simp
def Qvq (p0 : List SpreadRule) (i0 : Nat) (v0_1 : List Val) : List PV :=
  [.sl (SpreadRule.rows p0), .un, .bx 0 0, .ms 1 5 0 (List.length v0_1), .int .i64 (i0 : Int)] ++ nuns 34
def Qi4 (_p0 : List SpreadRule) (_i0 : Nat) (v0_1 : List Val) : List Ob :=
  [⟨5, 0, true, [.int .i64 0, .int .i64 0, .str eB, .ms 2 5 0 0, .ms 3 6 0 0]⟩, ⟨5, 0, true, (Val.rows v0_1).flatten⟩, ⟨5, 0, true, []⟩, ⟨6, 0, true, []⟩]
def Qfe (p0 : List SpreadRule) (i0 : Nat) (v0_1 : List Val) : En := .loop 0 Ir.Qjh Ir.Q1gg (Qvq p0 i0 v0_1) (Qi4 p0 i0 v0_1)
def Qob (_p0 : List SpreadRule) (q0 : List Val) (z : Nat → PV) (_zo : Nat → List PV) : St :=
  ⟨[z 0, z 1, .bx 0 0, .ms 1 5 0 (List.length q0)] ++ zr z 4 35, [(0, ⟨5, 0, true, [.int .i64 0, .int .i64 0, .str eB, .ms 2 5 0 0, .ms 3 6 0 0]⟩), (1, ⟨5, 0, true, (Val.rows q0).flatten⟩), (2, ⟨5, 0, true, []⟩), (3, ⟨6, 0, true, []⟩)], 260⟩
theorem Q127 (p0 : List SpreadRule) (i0 : Nat) (v0_1 : List Val) : VOK (Go.Pv.look (number 0 (Qi4 p0 i0 v0_1))) [(1, Val.rows v0_1)] := (VOK.cons (show Seen _ _ from Q3k (ob := ⟨5, 0, true, (Val.rows v0_1).flatten⟩) (Val.Qb v0_1 5 rfl)) VOK.nil)
def Qgz (p0 : List SpreadRule) (e : En) (q : List Val) : Prop := ∃ z zo, Q7 G e (.st (.exit 0) (Qob p0 q z zo))
theorem Qst (p0 : List SpreadRule) {e e' : En} (h : ∀ r, Q7 G e r → Q7 G e' r) : ∀ q, Qgz p0 e q → Qgz p0 e' q
  | _, ⟨z, zo, hz⟩ => ⟨z, zo, h _ hz⟩
def Qg9 (p0 : List SpreadRule) : Prop := (List.length p0 ≤ 137438953472) ∧ (∀ x0 ∈ p0, Qrw x0.selector) ∧ True
def Qpv (p0 : List SpreadRule) (i0 : Nat) (_v0_1 : List Val) : List PV :=
  [.sl (SpreadRule.rows p0), .un, .un, .un, .int .i64 (i0 : Int), .un, .int .i64 (i0 : Int), .sl (SpreadRule.rows p0), .int .i64 ((List.length p0) : Int), .bool false]
def Ql1 (_p0 : List SpreadRule) (_i0 : Nat) (_v0_1 : List Val) : List (Nat × List PV) :=
  []
theorem Q18q (p0 : List SpreadRule) (_H : Qg9 p0) (i0 : Nat) (v0_1 : List Val) (_ho0_0 : List.length v0_1 ≤ i0) (hc0 : (decide ((i0 : Int) < ((List.length p0) : Int))) = false) : Qgz p0 (Qfe p0 i0 v0_1) v0_1 := by
 exact ⟨(envF (Qpv p0 i0 v0_1)), (zoF (Ql1 p0 i0 v0_1)), Qm (Q127 p0 i0 v0_1) (x := ((.exit 0), Qob p0 v0_1 (envF (Qpv p0 i0 v0_1)) (zoF (Ql1 p0 i0 v0_1)))) [hP 2 (Q11 (SpreadRule.rows p0) (List.length p0) (SpreadRule.Q9 p0)), hB 0 hc0] [] (by kernel_rfl)⟩
theorem Q16m (p0 : List SpreadRule) (H : Qg9 p0) (x0 : SpreadRule) (i0 : Nat) (v0_1 : List Val) (hx0 : p0[i0]? = some x0) (hi0 : i0 < List.length p0) (ho0_0 : List.length v0_1 ≤ i0) (hc0 : (decide ((i0 : Int) < ((List.length p0) : Int))) = true) {r : Rs} (hr : Q7 G (Qfe p0 (i0 + 1) (v0_1 ++ [(Q1o ([(Fld.mk Q1l (Qr x0.maxSkew)), (Fld.mk Qk (Q17 x0.topology)), (Fld.mk Q5 (Q2z x0.selector)), (Fld.mk Qa (Q2b x0.required))]))])) r) : Q7 G (Qfe p0 i0 v0_1) r := by
 have hB0 := H.1
 exact Ql (Q127 p0 i0 v0_1) (y := (Qvq p0 (i0 + 1) (v0_1 ++ [(Q1o ([(Fld.mk Q1l (Qr x0.maxSkew)), (Fld.mk Qk (Q17 x0.topology)), (Fld.mk Q5 (Q2z x0.selector)), (Fld.mk Qa (Q2b x0.required))]))]), Qi4 p0 (i0 + 1) (v0_1 ++ [(Q1o ([(Fld.mk Q1l (Qr x0.maxSkew)), (Fld.mk Qk (Q17 x0.topology)), (Fld.mk Q5 (Q2z x0.selector)), (Fld.mk Qa (Q2b x0.required))]))]))) [hP 2 (Q11 (SpreadRule.rows p0) (List.length p0) (SpreadRule.Q9 p0)), hB 0 hc0, hP 2 (Q2s 4 (SpreadRule.rows p0) i0 _ (SpreadRule.Qo hx0) rfl), hV 23 [(1924, Val.rows (v0_1 ++ [(Q1o ([(Fld.mk Q1l (Qr x0.maxSkew)), (Fld.mk Qk (Q17 x0.topology)), (Fld.mk Q5 (Q2z x0.selector)), (Fld.mk Qa (Q2b x0.required))]))]))] (Q42 1 1860 1924 5 80 0 0 true (Val.rows v0_1) (Val.rows (v0_1 ++ [(Q1o ([(Fld.mk Q1l (Qr x0.maxSkew)), (Fld.mk Qk (Q17 x0.topology)), (Fld.mk Q5 (Q2z x0.selector)), (Fld.mk Qa (Q2b x0.required))]))])) (Val.cells (Q1o ([(Fld.mk Q1l (Qr x0.maxSkew)), (Fld.mk Qk (Q17 x0.topology)), (Fld.mk Q5 (Q2z x0.selector)), (Fld.mk Qa (Q2b x0.required))]))) (List.length v0_1) (List.length (v0_1 ++ [(Q1o ([(Fld.mk Q1l (Qr x0.maxSkew)), (Fld.mk Qk (Q17 x0.topology)), (Fld.mk Q5 (Q2z x0.selector)), (Fld.mk Qa (Q2b x0.required))]))])) rfl (Val.Q9 v0_1).symm (Val.Q9 (v0_1 ++ [(Q1o ([(Fld.mk Q1l (Qr x0.maxSkew)), (Fld.mk Qk (Q17 x0.topology)), (Fld.mk Q5 (Q2z x0.selector)), (Fld.mk Qa (Q2b x0.required))]))])).symm (Val.Q1t v0_1 (Q1o ([(Fld.mk Q1l (Qr x0.maxSkew)), (Fld.mk Qk (Q17 x0.topology)), (Fld.mk Q5 (Q2z x0.selector)), (Fld.mk Qa (Q2b x0.required))]))) (Val.Qu v0_1) rfl (by omega)), hS 0 true (Val.Qb (v0_1 ++ [(Q1o ([(Fld.mk Q1l (Qr x0.maxSkew)), (Fld.mk Qk (Q17 x0.topology)), (Fld.mk Q5 (Q2z x0.selector)), (Fld.mk Qa (Q2b x0.required))]))]) 5 rfl), hP 2 (Q2g i0 (by omega))] [aN (Q51 x0.maxSkew), aN (Qmr x0.topology), aN (Q117 x0.selector (H.2.1 x0 (Q2l hx0))), aN (Qzn x0.required), aN (Q4j (e' := .call 163 [.sl [(Fld.cells (Fld.mk Q1l (Qr x0.maxSkew))), (Fld.cells (Fld.mk Qk (Q17 x0.topology))), (Fld.cells (Fld.mk Q5 (Q2z x0.selector))), (Fld.cells (Fld.mk Qa (Q2b x0.required)))]] []) (Qaq ([(Fld.mk Q1l (Qr x0.maxSkew)), (Fld.mk Qk (Q17 x0.topology)), (Fld.mk Q5 (Q2z x0.selector)), (Fld.mk Qa (Q2b x0.required))]) (Nat.le_of_ble_eq_true rfl)) (by simp only [Q9g, Fld.Qy, Fld.Q1b]))] (by kernel_rfl) hr
theorem Qyn (p0 : List SpreadRule) (H : Qg9 p0) : ∀ (r0 : List SpreadRule) (i0 : Nat) (v0_1 : List Val), List.drop i0 p0 = r0 → List.length v0_1 ≤ i0 → Qgz p0 (Qfe p0 i0 v0_1) (Q59 p0 r0 i0 v0_1)
 | [], i0, v0_1, hd, ho0_0 => by
  have hc0 : (decide ((i0 : Int) < ((List.length p0) : Int))) = false := by have := Q1m hd; simp; omega
  rw [Q59]
  exact Q18q p0 H i0 v0_1 ho0_0 hc0
 | x0 :: r0, i0, v0_1, hd, ho0_0 => by
  obtain ⟨hx0, hi0, hd'⟩ := Q1k hd
  have hc0 : (decide ((i0 : Int) < ((List.length p0) : Int))) = true := by simp; omega
  rw [Q59]
  exact Qst p0 (fun r hr => Q16m p0 H x0 i0 v0_1 hx0 hi0 ho0_0 hc0 hr) _ (Qyn p0 H r0 (i0 + 1) (v0_1 ++ [(Q1o ([(Fld.mk Q1l (Qr x0.maxSkew)), (Fld.mk Qk (Q17 x0.topology)), (Fld.mk Q5 (Q2z x0.selector)), (Fld.mk Qa (Q2b x0.required))]))]) hd' (by first | omega | (simp; omega)))
def Q1cj (p0 : List SpreadRule) : Val := vL (p0.map SpreadRule.enc)
theorem Q1z8 (p0 : List SpreadRule) : Q1cj p0 = ((Val.mk 4 0 eB (Q59 p0 p0 0 []) [])) := by
  rw [Q148]
  kernel_rfl
def Q1x3 (p0 : List SpreadRule) : En := .call 236 [.sl (SpreadRule.rows p0)] []
def Q1oc (p0 : List SpreadRule) : Rs := .ret (.agg (Val.cells (Q1cj p0))) []
def Q1hv (p0 : List SpreadRule) : Prop := LSm SpreadRule.sm p0
theorem Q1e6 (p0 : List SpreadRule) (H : Q1hv p0) : (Qg9 p0) ∧ True := by
  exact ⟨⟨Nat.le_trans H.1 (Nat.le_of_ble_eq_true rfl), (by first | exact H.2 | exact fun x hx => (H.2 x hx).1 | exact fun x hx => (H.2 x hx).2.1 | exact fun x hx => (H.2 x hx).2.2.1 | exact fun x hx => (H.2 x hx).2.2.2.1 | exact fun x hx => (H.2 x hx).2.2.2.2.1), trivial⟩, trivial⟩
theorem Q21o (p0 : List SpreadRule) (H : Q1hv p0) : Q7 G (Q1x3 p0) (Q1oc p0) := by
 unfold Q1oc
 rw [Q1z8]
 have hl0 := Qyn p0 ((Q1e6 p0 H).1) p0 0 [] (by simp) (by simp)
 obtain ⟨z0, zo0, hl0⟩ := hl0
 exact Q8 (fn := Ir.K2u) rfl VOK.nil [hS 0 true (Val.Qb (Q59 p0 p0 0 []) 5 rfl), hQ (Val.Q9 (Q59 p0 p0 0 [])).symm] [aV [(1, Val.rows (Q59 p0 p0 0 []))] hl0] (by kernel_rfl)
def Q5b (p0 : List Toleration) : List Toleration → Nat → (List Val) → List Val
 | [], _i0, v0_1 =>
  v0_1
 | x0 :: r0, i0, v0_1 =>
  Q5b p0 r0 (i0 + 1) (v0_1 ++ [(Q1o ([(Fld.mk Qz (Q17 x0.key)), (Fld.mk Q13 (Q17 x0.value)), (Fld.mk Q22 (Q2b x0.exists_)), (Fld.mk Q27 (Qr x0.effect)), (Fld.mk Q1z (Qr x0.seconds))]))])
theorem Q14a (p0 : List Toleration) : ∀ (l : List Toleration) (i : Nat) (a : List Val), Q5b p0 l i a = a ++ l.map (fun x0 => (Q1o ([(Fld.mk Qz (Q17 x0.key)), (Fld.mk Q13 (Q17 x0.value)), (Fld.mk Q22 (Q2b x0.exists_)), (Fld.mk Q27 (Qr x0.effect)), (Fld.mk Q1z (Qr x0.seconds))])))
  | [], _, _ => by simp [Q5b]
  | x :: r, i, a => by rw [Q5b, Q14a p0 r]; simp
def Qvs (p0 : List Toleration) (i0 : Nat) (v0_1 : List Val) : List PV :=
  [.sl (Toleration.rows p0), .un, .bx 0 0, .ms 1 5 0 (List.length v0_1), .int .i64 (i0 : Int)] ++ nuns 38
def Qi6 (_p0 : List Toleration) (_i0 : Nat) (v0_1 : List Val) : List Ob :=
  [⟨5, 0, true, [.int .i64 0, .int .i64 0, .str eB, .ms 2 5 0 0, .ms 3 6 0 0]⟩, ⟨5, 0, true, (Val.rows v0_1).flatten⟩, ⟨5, 0, true, []⟩, ⟨6, 0, true, []⟩]
def Qfg (p0 : List Toleration) (i0 : Nat) (v0_1 : List Val) : En := .loop 0 Ir.Qjj Ir.Q1gi (Qvs p0 i0 v0_1) (Qi6 p0 i0 v0_1)
def Qod (_p0 : List Toleration) (q0 : List Val) (z : Nat → PV) (_zo : Nat → List PV) : St :=
  ⟨[z 0, z 1, .bx 0 0, .ms 1 5 0 (List.length q0)] ++ zr z 4 39, [(0, ⟨5, 0, true, [.int .i64 0, .int .i64 0, .str eB, .ms 2 5 0 0, .ms 3 6 0 0]⟩), (1, ⟨5, 0, true, (Val.rows q0).flatten⟩), (2, ⟨5, 0, true, []⟩), (3, ⟨6, 0, true, []⟩)], 260⟩
theorem Q129 (p0 : List Toleration) (i0 : Nat) (v0_1 : List Val) : VOK (Go.Pv.look (number 0 (Qi6 p0 i0 v0_1))) [(1, Val.rows v0_1)] := (VOK.cons (show Seen _ _ from Q3k (ob := ⟨5, 0, true, (Val.rows v0_1).flatten⟩) (Val.Qb v0_1 5 rfl)) VOK.nil)
def Qh1 (p0 : List Toleration) (e : En) (q : List Val) : Prop := ∃ z zo, Q7 G e (.st (.exit 0) (Qod p0 q z zo))
theorem Qsv (p0 : List Toleration) {e e' : En} (h : ∀ r, Q7 G e r → Q7 G e' r) : ∀ q, Qh1 p0 e q → Qh1 p0 e' q
  | _, ⟨z, zo, hz⟩ => ⟨z, zo, h _ hz⟩
def Qgb (p0 : List Toleration) : Prop := (List.length p0 ≤ 137438953472) ∧ True
def Qpx (p0 : List Toleration) (i0 : Nat) (_v0_1 : List Val) : List PV :=
  [.sl (Toleration.rows p0), .un, .un, .un, .int .i64 (i0 : Int), .un, .int .i64 (i0 : Int), .sl (Toleration.rows p0), .int .i64 ((List.length p0) : Int), .bool false]
def Ql3 (_p0 : List Toleration) (_i0 : Nat) (_v0_1 : List Val) : List (Nat × List PV) :=
  []
theorem Q18s (p0 : List Toleration) (_H : Qgb p0) (i0 : Nat) (v0_1 : List Val) (_ho0_0 : List.length v0_1 ≤ i0) (hc0 : (decide ((i0 : Int) < ((List.length p0) : Int))) = false) : Qh1 p0 (Qfg p0 i0 v0_1) v0_1 := by
 exact ⟨(envF (Qpx p0 i0 v0_1)), (zoF (Ql3 p0 i0 v0_1)), Qm (Q129 p0 i0 v0_1) (x := ((.exit 0), Qod p0 v0_1 (envF (Qpx p0 i0 v0_1)) (zoF (Ql3 p0 i0 v0_1)))) [hP 2 (Q11 (Toleration.rows p0) (List.length p0) (Toleration.Q9 p0)), hB 0 hc0] [] (by kernel_rfl)⟩
theorem Q16o (p0 : List Toleration) (H : Qgb p0) (x0 : Toleration) (i0 : Nat) (v0_1 : List Val) (hx0 : p0[i0]? = some x0) (hi0 : i0 < List.length p0) (ho0_0 : List.length v0_1 ≤ i0) (hc0 : (decide ((i0 : Int) < ((List.length p0) : Int))) = true) {r : Rs} (hr : Q7 G (Qfg p0 (i0 + 1) (v0_1 ++ [(Q1o ([(Fld.mk Qz (Q17 x0.key)), (Fld.mk Q13 (Q17 x0.value)), (Fld.mk Q22 (Q2b x0.exists_)), (Fld.mk Q27 (Qr x0.effect)), (Fld.mk Q1z (Qr x0.seconds))]))])) r) : Q7 G (Qfg p0 i0 v0_1) r := by
 have hB0 := H.1
 exact Ql (Q129 p0 i0 v0_1) (y := (Qvs p0 (i0 + 1) (v0_1 ++ [(Q1o ([(Fld.mk Qz (Q17 x0.key)), (Fld.mk Q13 (Q17 x0.value)), (Fld.mk Q22 (Q2b x0.exists_)), (Fld.mk Q27 (Qr x0.effect)), (Fld.mk Q1z (Qr x0.seconds))]))]), Qi6 p0 (i0 + 1) (v0_1 ++ [(Q1o ([(Fld.mk Qz (Q17 x0.key)), (Fld.mk Q13 (Q17 x0.value)), (Fld.mk Q22 (Q2b x0.exists_)), (Fld.mk Q27 (Qr x0.effect)), (Fld.mk Q1z (Qr x0.seconds))]))]))) [hP 2 (Q11 (Toleration.rows p0) (List.length p0) (Toleration.Q9 p0)), hB 0 hc0, hP 2 (Q2s 5 (Toleration.rows p0) i0 _ (Toleration.Qo hx0) rfl), hV 27 [(2180, Val.rows (v0_1 ++ [(Q1o ([(Fld.mk Qz (Q17 x0.key)), (Fld.mk Q13 (Q17 x0.value)), (Fld.mk Q22 (Q2b x0.exists_)), (Fld.mk Q27 (Qr x0.effect)), (Fld.mk Q1z (Qr x0.seconds))]))]))] (Q42 1 2116 2180 5 80 0 0 true (Val.rows v0_1) (Val.rows (v0_1 ++ [(Q1o ([(Fld.mk Qz (Q17 x0.key)), (Fld.mk Q13 (Q17 x0.value)), (Fld.mk Q22 (Q2b x0.exists_)), (Fld.mk Q27 (Qr x0.effect)), (Fld.mk Q1z (Qr x0.seconds))]))])) (Val.cells (Q1o ([(Fld.mk Qz (Q17 x0.key)), (Fld.mk Q13 (Q17 x0.value)), (Fld.mk Q22 (Q2b x0.exists_)), (Fld.mk Q27 (Qr x0.effect)), (Fld.mk Q1z (Qr x0.seconds))]))) (List.length v0_1) (List.length (v0_1 ++ [(Q1o ([(Fld.mk Qz (Q17 x0.key)), (Fld.mk Q13 (Q17 x0.value)), (Fld.mk Q22 (Q2b x0.exists_)), (Fld.mk Q27 (Qr x0.effect)), (Fld.mk Q1z (Qr x0.seconds))]))])) rfl (Val.Q9 v0_1).symm (Val.Q9 (v0_1 ++ [(Q1o ([(Fld.mk Qz (Q17 x0.key)), (Fld.mk Q13 (Q17 x0.value)), (Fld.mk Q22 (Q2b x0.exists_)), (Fld.mk Q27 (Qr x0.effect)), (Fld.mk Q1z (Qr x0.seconds))]))])).symm (Val.Q1t v0_1 (Q1o ([(Fld.mk Qz (Q17 x0.key)), (Fld.mk Q13 (Q17 x0.value)), (Fld.mk Q22 (Q2b x0.exists_)), (Fld.mk Q27 (Qr x0.effect)), (Fld.mk Q1z (Qr x0.seconds))]))) (Val.Qu v0_1) rfl (by omega)), hS 0 true (Val.Qb (v0_1 ++ [(Q1o ([(Fld.mk Qz (Q17 x0.key)), (Fld.mk Q13 (Q17 x0.value)), (Fld.mk Q22 (Q2b x0.exists_)), (Fld.mk Q27 (Qr x0.effect)), (Fld.mk Q1z (Qr x0.seconds))]))]) 5 rfl), hP 2 (Q2g i0 (by omega))] [aN (Qmr x0.key), aN (Qmr x0.value), aN (Qzn x0.exists_), aN (Q51 x0.effect), aN (Q51 x0.seconds), aN (Q4j (e' := .call 163 [.sl [(Fld.cells (Fld.mk Qz (Q17 x0.key))), (Fld.cells (Fld.mk Q13 (Q17 x0.value))), (Fld.cells (Fld.mk Q22 (Q2b x0.exists_))), (Fld.cells (Fld.mk Q27 (Qr x0.effect))), (Fld.cells (Fld.mk Q1z (Qr x0.seconds)))]] []) (Qaq ([(Fld.mk Qz (Q17 x0.key)), (Fld.mk Q13 (Q17 x0.value)), (Fld.mk Q22 (Q2b x0.exists_)), (Fld.mk Q27 (Qr x0.effect)), (Fld.mk Q1z (Qr x0.seconds))]) (Nat.le_of_ble_eq_true rfl)) (by simp only [Q9g, Fld.Qy, Fld.Q1b]))] (by kernel_rfl) hr
theorem Qyp (p0 : List Toleration) (H : Qgb p0) : ∀ (r0 : List Toleration) (i0 : Nat) (v0_1 : List Val), List.drop i0 p0 = r0 → List.length v0_1 ≤ i0 → Qh1 p0 (Qfg p0 i0 v0_1) (Q5b p0 r0 i0 v0_1)
 | [], i0, v0_1, hd, ho0_0 => by
  have hc0 : (decide ((i0 : Int) < ((List.length p0) : Int))) = false := by have := Q1m hd; simp; omega
  rw [Q5b]
  exact Q18s p0 H i0 v0_1 ho0_0 hc0
 | x0 :: r0, i0, v0_1, hd, ho0_0 => by
  obtain ⟨hx0, hi0, hd'⟩ := Q1k hd
  have hc0 : (decide ((i0 : Int) < ((List.length p0) : Int))) = true := by simp; omega
  rw [Q5b]
  exact Qsv p0 (fun r hr => Q16o p0 H x0 i0 v0_1 hx0 hi0 ho0_0 hc0 hr) _ (Qyp p0 H r0 (i0 + 1) (v0_1 ++ [(Q1o ([(Fld.mk Qz (Q17 x0.key)), (Fld.mk Q13 (Q17 x0.value)), (Fld.mk Q22 (Q2b x0.exists_)), (Fld.mk Q27 (Qr x0.effect)), (Fld.mk Q1z (Qr x0.seconds))]))]) hd' (by first | omega | (simp; omega)))
def Q1ck (p0 : List Toleration) : Val := vL (p0.map Toleration.enc)
theorem Q1zc (p0 : List Toleration) : Q1ck p0 = ((Val.mk 4 0 eB (Q5b p0 p0 0 []) [])) := by
  rw [Q14a]
  kernel_rfl
def Q1x8 (p0 : List Toleration) : En := .call 237 [.sl (Toleration.rows p0)] []
def Q1oh (p0 : List Toleration) : Rs := .ret (.agg (Val.cells (Q1ck p0))) []
def Q1hy (p0 : List Toleration) : Prop := LSm Toleration.sm p0
theorem Q1e8 (p0 : List Toleration) (H : Q1hy p0) : (Qgb p0) ∧ True := by
  exact ⟨⟨Nat.le_trans H.1 (Nat.le_of_ble_eq_true rfl), trivial⟩, trivial⟩
theorem Q21r (p0 : List Toleration) (H : Q1hy p0) : Q7 G (Q1x8 p0) (Q1oh p0) := by
 unfold Q1oh
 rw [Q1zc]
 have hl0 := Qyp p0 ((Q1e8 p0 H).1) p0 0 [] (by simp) (by simp)
 obtain ⟨z0, zo0, hl0⟩ := hl0
 exact Q8 (fn := Ir.K2z) rfl VOK.nil [hS 0 true (Val.Qb (Q5b p0 p0 0 []) 5 rfl), hQ (Val.Q9 (Q5b p0 p0 0 [])).symm] [aV [(1, Val.rows (Q5b p0 p0 0 []))] hl0] (by kernel_rfl)
def Q1ch (p0 : PodSpec) : Val := PodSpec.enc p0
theorem Q1z2 (p0 : PodSpec) : Q1ch p0 = ((Q1o ([(Fld.mk Q2r (Q17 p0.node)), (Fld.mk Q1f (Qr p0.priority)), (Fld.mk Q1r (Qr p0.restart)), (Fld.mk Q2o (Qr p0.grace)), (Fld.mk Q1d (Q1ce p0.containers)), (Fld.mk Q19 (Q2z p0.nodeSelector)), (Fld.mk Q1v (Q1cg p0.nodeTerms)), (Fld.mk Q2d (Q1ci p0.podTerms)), (Fld.mk Q33 (Q1cj p0.spread)), (Fld.mk Q26 (Q1ck p0.tolerations))]))) := by
  kernel_rfl
def Q1wx (p0 : PodSpec) : En := .call 214 [.agg (PodSpec.cells p0)] []
def Q1o6 (p0 : PodSpec) : Rs := .ret (.agg (Val.cells (Q1ch p0))) []
def Q1hs (p0 : PodSpec) : Prop := PodSpec.sm p0
theorem Qah (p0 : PodSpec) (H : Q1hs p0) : (Q1ho p0.containers) ∧ (Qrw p0.nodeSelector) ∧ (Q1hr p0.nodeTerms) ∧ (Q1ht p0.podTerms) ∧ (Q1hv p0.spread) ∧ (Q1hy p0.tolerations) ∧ True := by
  exact ⟨(by first | exact True.intro | exact H | exact H.1 | exact H.2.1 | exact H.2.2.1 | exact H.2.2.2.1 | exact H.2.2.2.2.1 | exact H.2.2.2.2.2.1 | exact ⟨H.1, trivial⟩ | exact ⟨H.2.1, trivial⟩), (by first | exact True.intro | exact H | exact H.1 | exact H.2.1 | exact H.2.2.1 | exact H.2.2.2.1 | exact H.2.2.2.2.1 | exact H.2.2.2.2.2.1 | exact ⟨H.1, trivial⟩ | exact ⟨H.2.1, trivial⟩), (by first | exact True.intro | exact H | exact H.1 | exact H.2.1 | exact H.2.2.1 | exact H.2.2.2.1 | exact H.2.2.2.2.1 | exact H.2.2.2.2.2.1 | exact ⟨H.1, trivial⟩ | exact ⟨H.2.1, trivial⟩), (by first | exact True.intro | exact H | exact H.1 | exact H.2.1 | exact H.2.2.1 | exact H.2.2.2.1 | exact H.2.2.2.2.1 | exact H.2.2.2.2.2.1 | exact ⟨H.1, trivial⟩ | exact ⟨H.2.1, trivial⟩), (by first | exact True.intro | exact H | exact H.1 | exact H.2.1 | exact H.2.2.1 | exact H.2.2.2.1 | exact H.2.2.2.2.1 | exact H.2.2.2.2.2.1 | exact ⟨H.1, trivial⟩ | exact ⟨H.2.1, trivial⟩), (by first | exact True.intro | exact H | exact H.1 | exact H.2.1 | exact H.2.2.1 | exact H.2.2.2.1 | exact H.2.2.2.2.1 | exact H.2.2.2.2.2.1 | exact ⟨H.1, trivial⟩ | exact ⟨H.2.1, trivial⟩), trivial⟩
theorem Q21l (p0 : PodSpec) (H : Q1hs p0) : Q7 G (Q1wx p0) (Q1o6 p0) := by
 unfold Q1o6
 rw [Q1z2]
 exact Q8 (fn := Ir.K2k) rfl VOK.nil [] [aN (Qmr p0.node), aN (Q51 p0.priority), aN (Q51 p0.restart), aN (Q51 p0.grace), aN (Q21h p0.containers (Qah p0 H).1), aN (Q117 p0.nodeSelector (Qah p0 H).2.1), aN (Q21k p0.nodeTerms (Qah p0 H).2.2.1), aN (Q21m p0.podTerms (Qah p0 H).2.2.2.1), aN (Q21o p0.spread (Qah p0 H).2.2.2.2.1), aN (Q21r p0.tolerations (Qah p0 H).2.2.2.2.2.1), aN (Q4j (e' := .call 163 [.sl [(Fld.cells (Fld.mk Q2r (Q17 p0.node))), (Fld.cells (Fld.mk Q1f (Qr p0.priority))), (Fld.cells (Fld.mk Q1r (Qr p0.restart))), (Fld.cells (Fld.mk Q2o (Qr p0.grace))), (Fld.cells (Fld.mk Q1d (Q1ce p0.containers))), (Fld.cells (Fld.mk Q19 (Q2z p0.nodeSelector))), (Fld.cells (Fld.mk Q1v (Q1cg p0.nodeTerms))), (Fld.cells (Fld.mk Q2d (Q1ci p0.podTerms))), (Fld.cells (Fld.mk Q33 (Q1cj p0.spread))), (Fld.cells (Fld.mk Q26 (Q1ck p0.tolerations)))]] []) (Qaq ([(Fld.mk Q2r (Q17 p0.node)), (Fld.mk Q1f (Qr p0.priority)), (Fld.mk Q1r (Qr p0.restart)), (Fld.mk Q2o (Qr p0.grace)), (Fld.mk Q1d (Q1ce p0.containers)), (Fld.mk Q19 (Q2z p0.nodeSelector)), (Fld.mk Q1v (Q1cg p0.nodeTerms)), (Fld.mk Q2d (Q1ci p0.podTerms)), (Fld.mk Q33 (Q1cj p0.spread)), (Fld.mk Q26 (Q1ck p0.tolerations))]) (Nat.le_of_ble_eq_true rfl)) (by simp only [Q9g, Fld.Qy, Fld.Q1b]))] (by kernel_rfl)
def Qml (p0 : Template) : Val := Template.enc p0
theorem Q1zb (p0 : Template) : Qml p0 = ((Q1o ([(Fld.mk Q1x (Q1cf p0.labels)), (Fld.mk Q2w (Q1ch p0.spec))]))) := by
  kernel_rfl
def Q1x7 (p0 : Template) : En := .call 166 [.agg (Template.cells p0)] []
def Q1og (p0 : Template) : Rs := .ret (.agg (Val.cells (Qml p0))) []
def Q19b (p0 : Template) : Prop := Template.sm p0
theorem Q135 (p0 : Template) (H : Q19b p0) : (Q1hq p0.labels) ∧ (Q1hs p0.spec) ∧ True := by
  exact ⟨(by first | exact True.intro | exact H | exact H.1 | exact H.2.1 | exact ⟨H.1, trivial⟩ | exact ⟨H.2.1, trivial⟩), (by first | exact True.intro | exact H | exact H.1 | exact H.2.1 | exact ⟨H.1, trivial⟩ | exact ⟨H.2.1, trivial⟩), trivial⟩
theorem Q1j5 (p0 : Template) (H : Q19b p0) : Q7 G (Q1x7 p0) (Q1og p0) := by
 unfold Q1og
 rw [Q1zb]
 exact Q8 (fn := Ir.K2y) rfl VOK.nil [] [aN (Q21j p0.labels (Q135 p0 H).1), aN (Q21l p0.spec (Q135 p0 H).2.1), aN (Q4j (e' := .call 163 [.sl [(Fld.cells (Fld.mk Q1x (Q1cf p0.labels))), (Fld.cells (Fld.mk Q2w (Q1ch p0.spec)))]] []) (Qaq ([(Fld.mk Q1x (Q1cf p0.labels)), (Fld.mk Q2w (Q1ch p0.spec))]) (Nat.le_of_ble_eq_true rfl)) (by simp only [Q9g, Fld.Qy, Fld.Q1b]))] (by kernel_rfl)
def Q1cd (p0 : Amount) : Val := Amount.enc p0
theorem Q1yw (p0 : Amount) : Q1cd p0 = ((Q1o ([(Fld.mk Q2n (Q2b p0.percent)), (Fld.mk kw_n (Qr p0.n))]))) := by
  kernel_rfl
def Q1wq (p0 : Amount) : En := .call 168 [.agg (Amount.cells p0)] []
def Q1ny (p0 : Amount) : Rs := .ret (.agg (Val.cells (Q1cd p0))) []
theorem Q21g (p0 : Amount) : Q7 G (Q1wq p0) (Q1ny p0) := by
 unfold Q1ny
 rw [Q1yw]
 exact Q8 (fn := Ir.K20) rfl VOK.nil [] [aN (Qzn p0.percent), aN (Q51 p0.n), aN (Q4j (e' := .call 163 [.sl [(Fld.cells (Fld.mk Q2n (Q2b p0.percent))), (Fld.cells (Fld.mk kw_n (Qr p0.n)))]] []) (Qaq ([(Fld.mk Q2n (Q2b p0.percent)), (Fld.mk kw_n (Qr p0.n))]) (Nat.le_of_ble_eq_true rfl)) (by simp only [Q9g, Fld.Qy, Fld.Q1b]))] (by kernel_rfl)
def Qzh (p0 : WorkStatus) : Val := WorkStatus.enc p0
theorem Q1zd (p0 : WorkStatus) : Qzh p0 = ((Q1o ([(Fld.mk Q1j (Qr p0.observed)), (Fld.mk Q6 (Qr p0.replicas)), (Fld.mk Q25 (Qr p0.updated)), (Fld.mk Q1c (Qr p0.ready)), (Fld.mk Q1u (Qr p0.available)), (Fld.mk Q2e (Qr p0.progress)), (Fld.mk Q31 (Q2b p0.failed))]))) := by
  kernel_rfl
def Q1x9 (p0 : WorkStatus) : En := .call 60 [.agg (WorkStatus.cells p0)] []
def Q1oi (p0 : WorkStatus) : Rs := .ret (.agg (Val.cells (Qzh p0))) []
theorem Q1j6 (p0 : WorkStatus) : Q7 G (Q1x9 p0) (Q1oi p0) := by
 unfold Q1oi
 rw [Q1zd]
 exact Q8 (fn := Ir.K30) rfl VOK.nil [] [aN (Q51 p0.observed), aN (Q51 p0.replicas), aN (Q51 p0.updated), aN (Q51 p0.ready), aN (Q51 p0.available), aN (Q51 p0.progress), aN (Qzn p0.failed), aN (Q4j (e' := .call 163 [.sl [(Fld.cells (Fld.mk Q1j (Qr p0.observed))), (Fld.cells (Fld.mk Q6 (Qr p0.replicas))), (Fld.cells (Fld.mk Q25 (Qr p0.updated))), (Fld.cells (Fld.mk Q1c (Qr p0.ready))), (Fld.cells (Fld.mk Q1u (Qr p0.available))), (Fld.cells (Fld.mk Q2e (Qr p0.progress))), (Fld.cells (Fld.mk Q31 (Q2b p0.failed)))]] []) (Qaq ([(Fld.mk Q1j (Qr p0.observed)), (Fld.mk Q6 (Qr p0.replicas)), (Fld.mk Q25 (Qr p0.updated)), (Fld.mk Q1c (Qr p0.ready)), (Fld.mk Q1u (Qr p0.available)), (Fld.mk Q2e (Qr p0.progress)), (Fld.mk Q31 (Q2b p0.failed))]) (Nat.le_of_ble_eq_true rfl)) (by simp only [Q9g, Fld.Qy, Fld.Q1b]))] (by kernel_rfl)
def Q1cl (p0 : BA) (p1 : Meta) (p2 : Val) (p3 : Val) : Object :=
 (Object.mk (Meta.mk p0 p1.namespace_ p1.name p1.uid p1.version p1.generation p1.created p1.deleting p1.deleteAt p1.labels p1.owners p1.finalizers p1.managers) p2 p3)
def Q1xd (p0 : BA) (p1 : Meta) (p2 : Val) (p3 : Val) : En := .call 58 [.str p0, .agg (Meta.cells p1), .agg (Val.cells p2), .agg (Val.cells p3)] []
def Q1om (p0 : BA) (p1 : Meta) (p2 : Val) (p3 : Val) : Rs := .ret (.agg (Object.cells (Q1cl p0 p1 p2 p3))) []
theorem Q1j7 (p0 : BA) (p1 : Meta) (p2 : Val) (p3 : Val) : Q7 G (Q1xd p0 p1 p2 p3) (Q1om p0 p1 p2 p3) := by
 unfold Q1om Q1cl
 exact Q8 (fn := Ir.K49) rfl VOK.nil [] [] (by kernel_rfl)
def Q1fc (p0 : ReplicaSet) : Val := ReplicaSet.encS p0
theorem Q1z5 (p0 : ReplicaSet) : Q1fc p0 = ((Q1o ([(Fld.mk Q6 (Qr p0.replicas)), (Fld.mk Q0 (Qr p0.minReady)), (Fld.mk Q16 (Qr p0.revision)), (Fld.mk Q5 (Q2z p0.selector)), (Fld.mk Qg (Qml p0.template))]))) := by
  kernel_rfl
def Q1x0 (p0 : ReplicaSet) : En := .call 99 [.agg (ReplicaSet.cells p0)] []
def Q1o9 (p0 : ReplicaSet) : Rs := .ret (.agg (Val.cells (Q1fc p0))) []
def Q1hu (p0 : ReplicaSet) : Prop := ReplicaSet.sm p0
theorem Q133 (p0 : ReplicaSet) (H : Q1hu p0) : (Qrw p0.selector) ∧ (Q19b p0.template) ∧ True := by
  exact ⟨(by first | exact True.intro | exact H | exact H.1 | exact H.2.1 | exact H.2.2.1 | exact ⟨H.1, trivial⟩ | exact ⟨H.2.1, trivial⟩), (by first | exact True.intro | exact H | exact H.1 | exact H.2.1 | exact H.2.2.1 | exact ⟨H.1, trivial⟩ | exact ⟨H.2.1, trivial⟩), trivial⟩
theorem Q21n (p0 : ReplicaSet) (H : Q1hu p0) : Q7 G (Q1x0 p0) (Q1o9 p0) := by
 unfold Q1o9
 rw [Q1z5]
 exact Q8 (fn := Ir.K2q) rfl VOK.nil [] [aN (Q51 p0.replicas), aN (Q51 p0.minReady), aN (Q51 p0.revision), aN (Q117 p0.selector (Q133 p0 H).1), aN (Q1j5 p0.template (Q133 p0 H).2.1), aN (Q4j (e' := .call 163 [.sl [(Fld.cells (Fld.mk Q6 (Qr p0.replicas))), (Fld.cells (Fld.mk Q0 (Qr p0.minReady))), (Fld.cells (Fld.mk Q16 (Qr p0.revision))), (Fld.cells (Fld.mk Q5 (Q2z p0.selector))), (Fld.cells (Fld.mk Qg (Qml p0.template)))]] []) (Qaq ([(Fld.mk Q6 (Qr p0.replicas)), (Fld.mk Q0 (Qr p0.minReady)), (Fld.mk Q16 (Qr p0.revision)), (Fld.mk Q5 (Q2z p0.selector)), (Fld.mk Qg (Qml p0.template))]) (Nat.le_of_ble_eq_true rfl)) (by simp only [Q9g, Fld.Qy, Fld.Q1b]))] (by kernel_rfl)
def Q30 (p0 : ReplicaSet) : Object := ReplicaSet.obj p0
theorem Q1zf (p0 : ReplicaSet) : Q30 p0 = ((Q1cl Qf p0.meta_ (Q1fc p0) (Qzh p0.status))) := by
  first | rfl | kernel_rfl
def Q1xb (p0 : ReplicaSet) : En := .call 18 [.agg (ReplicaSet.cells p0)] []
def Q1ok (p0 : ReplicaSet) : Rs := .ret (.agg (Object.cells (Q30 p0))) []
def Q19d (p0 : ReplicaSet) : Prop := ReplicaSet.sm p0
theorem Q1ea (p0 : ReplicaSet) (H : Q19d p0) : (Q1hu p0) ∧ True := by
  exact ⟨(by first | exact True.intro | exact H | exact H.1 | exact H.2.1 | exact H.2.2.1 | exact ⟨H.1, trivial⟩ | exact ⟨H.2.1, trivial⟩), trivial⟩
theorem Qzp (p0 : ReplicaSet) (H : Q19d p0) : Q7 G (Q1xb p0) (Q1ok p0) := by
 unfold Q1ok
 rw [Q1zf]
 exact Q8 (fn := Ir.K3t) rfl VOK.nil [] [aN (Q21n p0 (Q1ea p0 H).1), aN (Q1j6 p0.status), aN (Q1j7 Qf p0.meta_ (Q1fc p0) (Qzh p0.status))] (by kernel_rfl)
def Q1fd (p0 : StatefulSet) : Val := StatefulSet.encS p0
theorem Q1z9 (p0 : StatefulSet) : Q1fd p0 = ((Q1o ([(Fld.mk Q6 (Qr p0.replicas)), (Fld.mk Qs (Qr p0.partition)), (Fld.mk Q0 (Qr p0.minReady)), (Fld.mk Q15 (Q2b p0.parallel)), (Fld.mk Q5 (Q2z p0.selector)), (Fld.mk Qg (Qml p0.template))]))) := by
  kernel_rfl
def Q1x4 (p0 : StatefulSet) : En := .call 132 [.agg (StatefulSet.cells p0)] []
def Q1od (p0 : StatefulSet) : Rs := .ret (.agg (Val.cells (Q1fd p0))) []
def Q1hw (p0 : StatefulSet) : Prop := StatefulSet.sm p0
theorem Q134 (p0 : StatefulSet) (H : Q1hw p0) : (Qrw p0.selector) ∧ (Q19b p0.template) ∧ True := by
  exact ⟨(by first | exact True.intro | exact H | exact H.1 | exact H.2.1 | exact H.2.2.1 | exact ⟨H.1, trivial⟩ | exact ⟨H.2.1, trivial⟩), (by first | exact True.intro | exact H | exact H.1 | exact H.2.1 | exact H.2.2.1 | exact ⟨H.1, trivial⟩ | exact ⟨H.2.1, trivial⟩), trivial⟩
theorem Q21p (p0 : StatefulSet) (H : Q1hw p0) : Q7 G (Q1x4 p0) (Q1od p0) := by
 unfold Q1od
 rw [Q1z9]
 exact Q8 (fn := Ir.K2v) rfl VOK.nil [] [aN (Q51 p0.replicas), aN (Q51 p0.partition), aN (Q51 p0.minReady), aN (Qzn p0.parallel), aN (Q117 p0.selector (Q134 p0 H).1), aN (Q1j5 p0.template (Q134 p0 H).2.1), aN (Q4j (e' := .call 163 [.sl [(Fld.cells (Fld.mk Q6 (Qr p0.replicas))), (Fld.cells (Fld.mk Qs (Qr p0.partition))), (Fld.cells (Fld.mk Q0 (Qr p0.minReady))), (Fld.cells (Fld.mk Q15 (Q2b p0.parallel))), (Fld.cells (Fld.mk Q5 (Q2z p0.selector))), (Fld.cells (Fld.mk Qg (Qml p0.template)))]] []) (Qaq ([(Fld.mk Q6 (Qr p0.replicas)), (Fld.mk Qs (Qr p0.partition)), (Fld.mk Q0 (Qr p0.minReady)), (Fld.mk Q15 (Q2b p0.parallel)), (Fld.mk Q5 (Q2z p0.selector)), (Fld.mk Qg (Qml p0.template))]) (Nat.le_of_ble_eq_true rfl)) (by simp only [Q9g, Fld.Qy, Fld.Q1b]))] (by kernel_rfl)
def Q35 (p0 : StatefulSet) : Object := StatefulSet.obj p0
theorem Q1zg (p0 : StatefulSet) : Q35 p0 = ((Q1cl Qc p0.meta_ (Q1fd p0) (Qzh p0.status))) := by
  first | rfl | kernel_rfl
def Q1xc (p0 : StatefulSet) : En := .call 33 [.agg (StatefulSet.cells p0)] []
def Q1ol (p0 : StatefulSet) : Rs := .ret (.agg (Object.cells (Q35 p0))) []
def Q19e (p0 : StatefulSet) : Prop := StatefulSet.sm p0
theorem Q1eb (p0 : StatefulSet) (H : Q19e p0) : (Q1hw p0) ∧ True := by
  exact ⟨(by first | exact True.intro | exact H | exact H.1 | exact H.2.1 | exact H.2.2.1 | exact ⟨H.1, trivial⟩ | exact ⟨H.2.1, trivial⟩), trivial⟩
theorem Qzq (p0 : StatefulSet) (H : Q19e p0) : Q7 G (Q1xc p0) (Q1ol p0) := by
 unfold Q1ol
 rw [Q1zg]
 exact Q8 (fn := Ir.K3v) rfl VOK.nil [] [aN (Q21p p0 (Q1eb p0 H).1), aN (Q1j6 p0.status), aN (Q1j7 Qc p0.meta_ (Q1fd p0) (Qzh p0.status))] (by kernel_rfl)
def Q1fb (p0 : DaemonSet) : Val := DaemonSet.encS p0
theorem Q1yz (p0 : DaemonSet) : Q1fb p0 = ((Q1o ([(Fld.mk Q0 (Qr p0.minReady)), (Fld.mk Qe (Q1cd p0.unavailable)), (Fld.mk Q5 (Q2z p0.selector)), (Fld.mk Qg (Qml p0.template))]))) := by
  kernel_rfl
def Q1wt (p0 : DaemonSet) : En := .call 133 [.agg (DaemonSet.cells p0)] []
def Q1o1 (p0 : DaemonSet) : Rs := .ret (.agg (Val.cells (Q1fb p0))) []
def Q1hp (p0 : DaemonSet) : Prop := DaemonSet.sm p0
theorem Q131 (p0 : DaemonSet) (H : Q1hp p0) : (Qrw p0.selector) ∧ (Q19b p0.template) ∧ True := by
  exact ⟨(by first | exact True.intro | exact H | exact H.1 | exact H.2.1 | exact H.2.2.1 | exact H.2.2.2.1 | exact ⟨H.1, trivial⟩ | exact ⟨H.2.1, trivial⟩), (by first | exact True.intro | exact H | exact H.1 | exact H.2.1 | exact H.2.2.1 | exact H.2.2.2.1 | exact ⟨H.1, trivial⟩ | exact ⟨H.2.1, trivial⟩), trivial⟩
theorem Q21i (p0 : DaemonSet) (H : Q1hp p0) : Q7 G (Q1wt p0) (Q1o1 p0) := by
 unfold Q1o1
 rw [Q1yz]
 exact Q8 (fn := Ir.K29) rfl VOK.nil [] [aN (Q51 p0.minReady), aN (Q21g p0.unavailable), aN (Q117 p0.selector (Q131 p0 H).1), aN (Q1j5 p0.template (Q131 p0 H).2.1), aN (Q4j (e' := .call 163 [.sl [(Fld.cells (Fld.mk Q0 (Qr p0.minReady))), (Fld.cells (Fld.mk Qe (Q1cd p0.unavailable))), (Fld.cells (Fld.mk Q5 (Q2z p0.selector))), (Fld.cells (Fld.mk Qg (Qml p0.template)))]] []) (Qaq ([(Fld.mk Q0 (Qr p0.minReady)), (Fld.mk Qe (Q1cd p0.unavailable)), (Fld.mk Q5 (Q2z p0.selector)), (Fld.mk Qg (Qml p0.template))]) (Nat.le_of_ble_eq_true rfl)) (by simp only [Q9g, Fld.Qy, Fld.Q1b]))] (by kernel_rfl)
def Q39 (p0 : DaemonSet) : Object := DaemonSet.obj p0
theorem Q1ze (p0 : DaemonSet) : Q39 p0 = ((Q1cl Qd p0.meta_ (Q1fb p0) (Qzh p0.status))) := by
  first | rfl | kernel_rfl
def Q1xa (p0 : DaemonSet) : En := .call 34 [.agg (DaemonSet.cells p0)] []
def Q1oj (p0 : DaemonSet) : Rs := .ret (.agg (Object.cells (Q39 p0))) []
def Q19c (p0 : DaemonSet) : Prop := DaemonSet.sm p0
theorem Q1e9 (p0 : DaemonSet) (H : Q19c p0) : (Q1hp p0) ∧ True := by
  exact ⟨(by first | exact True.intro | exact H | exact H.1 | exact H.2.1 | exact H.2.2.1 | exact H.2.2.2.1 | exact ⟨H.1, trivial⟩ | exact ⟨H.2.1, trivial⟩), trivial⟩
theorem Qzo (p0 : DaemonSet) (H : Q19c p0) : Q7 G (Q1xa p0) (Q1oj p0) := by
 unfold Q1oj
 rw [Q1ze]
 exact Q8 (fn := Ir.K3n) rfl VOK.nil [] [aN (Q21i p0 (Q1e9 p0 H).1), aN (Q1j6 p0.status), aN (Q1j7 Qd p0.meta_ (Q1fb p0) (Qzh p0.status))] (by kernel_rfl)
end Go.Proofs.YtimjjohlpnkacaaGreat
end

section
/- What the reference's encoders compute (printed by a program). -/
namespace Go.Proofs.YtimjjohlpnkacaaGreat
open Go.Pv
end Go.Proofs.YtimjjohlpnkacaaGreat
end

section
/- Equality of metadata and objects that are the same; what is small (printed by a program). -/
namespace Go.Proofs.YtimjjohlpnkacaaGreat
open Go.Pv
def Q1it (p0 : BA) (p1 : BA) (p2 : BA) : ByteArray :=
 ((((p0 ++ (⟨#[47]⟩ : BA)) ++ p1) ++ (⟨#[47]⟩ : BA)) ++ p2)
def Q1wm (p0 : BA) (p1 : BA) (p2 : BA) : En := .call 199 [.str p0, .str p1, .str p2] []
def Q1nu (p0 : BA) (p1 : BA) (p2 : BA) : Rs := .ret (.str (Q1it p0 p1 p2)) []
def Q1mq (p0 : BA) (p1 : BA) (p2 : BA) : Prop := (ByteArray.size p0 + ByteArray.size (⟨#[47]⟩ : BA) ≤ 9223372036854775807) ∧ (ByteArray.size (p0 ++ (⟨#[47]⟩ : BA)) + ByteArray.size p1 ≤ 9223372036854775807) ∧ (ByteArray.size ((p0 ++ (⟨#[47]⟩ : BA)) ++ p1) + ByteArray.size (⟨#[47]⟩ : BA) ≤ 9223372036854775807) ∧ (ByteArray.size (((p0 ++ (⟨#[47]⟩ : BA)) ++ p1) ++ (⟨#[47]⟩ : BA)) + ByteArray.size p2 ≤ 9223372036854775807) ∧ True
theorem Q21e (p0 : BA) (p1 : BA) (p2 : BA) (H : Q1mq p0 p1 p2) : Q7 G (Q1wm p0 p1 p2) (Q1nu p0 p1 p2) := by
 unfold Q1nu Q1it
 exact Q8 (fn := Ir.K1w) rfl VOK.nil [hP 2 (Q12k p0 (⟨#[47]⟩ : BA) H.1), hP 1 (Q12k (p0 ++ (⟨#[47]⟩ : BA)) p1 H.2.1), hP 0 (Q12k ((p0 ++ (⟨#[47]⟩ : BA)) ++ p1) (⟨#[47]⟩ : BA) H.2.2.1), hP 1 (Q12k (((p0 ++ (⟨#[47]⟩ : BA)) ++ p1) ++ (⟨#[47]⟩ : BA)) p2 H.2.2.2.1)] [] (by kernel_rfl)
def Q1fa (p0 : Meta) : ByteArray :=
 (Q1it p0.kind p0.namespace_ p0.name)
def Q1wn (p0 : Meta) : En := .call 119 [.agg (Meta.cells p0)] []
def Q1nv (p0 : Meta) : Rs := .ret (.str (Q1fa p0)) []
def Q1mr (p0 : Meta) : Prop := (Q1mq p0.kind p0.namespace_ p0.name) ∧ True
theorem Q1r8 (p0 : Meta) (H : Q1mr p0) : Q7 G (Q1wn p0) (Q1nv p0) := by
 unfold Q1nv Q1fa
 exact Q8 (fn := Ir.K1x) rfl VOK.nil [] [aN (Q21e p0.kind p0.namespace_ p0.name H.1)] (by kernel_rfl)
def Q13i (p0 : Meta) : List Label → Nat → Unit
 | [], _i0 =>
  ()
 | _x0 :: r0, i0 =>
  Q13i p0 r0 (i0 + 1)
def Qvf (_p0 : Meta) (i0 : Nat) : List PV :=
  [.un, .un, .bx 0 0, .bx 1 0, .un, .int .i64 (i0 : Int)] ++ nuns 168
def Qw8 (p0 : Meta) (_i0 : Nat) : List Ob :=
  [⟨13, 0, true, [.str p0.kind, .str p0.namespace_, .str p0.name, .int .i64 p0.uid, .int .i64 p0.version, .int .i64 p0.generation, .int .i64 p0.created, .bool p0.deleting, .int .i64 p0.deleteAt, .sl (Label.rows p0.labels), .sl (Owner.rows p0.owners), .sl (Qn p0.finalizers), .sl (Manager.rows p0.managers)]⟩, ⟨13, 0, true, [.str p0.kind, .str p0.namespace_, .str p0.name, .int .i64 p0.uid, .int .i64 p0.version, .int .i64 p0.generation, .int .i64 p0.created, .bool p0.deleting, .int .i64 p0.deleteAt, .sl (Label.rows p0.labels), .sl (Owner.rows p0.owners), .sl (Qn p0.finalizers), .sl (Manager.rows p0.managers)]⟩]
def Qf4 (p0 : Meta) (i0 : Nat) : En := .loop 0 Ir.Qj5 Ir.Q1g4 (Qvf p0 i0) (Qw8 p0 i0)
def Qo0 (p0 : Meta) (z : Nat → PV) (_zo : Nat → List PV) : St :=
  ⟨[z 0, z 1, .bx 0 0, .bx 1 0] ++ zr z 4 170, [(0, ⟨13, 0, true, [.str p0.kind, .str p0.namespace_, .str p0.name, .int .i64 p0.uid, .int .i64 p0.version, .int .i64 p0.generation, .int .i64 p0.created, .bool p0.deleting, .int .i64 p0.deleteAt, .sl (Label.rows p0.labels), .sl (Owner.rows p0.owners), .sl (Qn p0.finalizers), .sl (Manager.rows p0.managers)]⟩), (1, ⟨13, 0, true, [.str p0.kind, .str p0.namespace_, .str p0.name, .int .i64 p0.uid, .int .i64 p0.version, .int .i64 p0.generation, .int .i64 p0.created, .bool p0.deleting, .int .i64 p0.deleteAt, .sl (Label.rows p0.labels), .sl (Owner.rows p0.owners), .sl (Qn p0.finalizers), .sl (Manager.rows p0.managers)]⟩)], 322⟩
def Qa6 (p0 : Meta) (e : En) (_q : Unit) : Prop := ∃ z zo, Q7 G e (.st (.exit 0) (Qo0 p0 z zo))
theorem Qsi (p0 : Meta) {e e' : En} (h : ∀ r, Q7 G e r → Q7 G e' r) : ∀ q, Qa6 p0 e q → Qa6 p0 e' q
  | _, ⟨z, zo, hz⟩ => ⟨z, zo, h _ hz⟩
def Qfz (p0 : Meta) : Prop := (List.length p0.labels ≤ 4611686018427387904) ∧ True
def Qpi (p0 : Meta) (i0 : Nat) : List PV :=
  nuns 5 ++ [.int .i64 (i0 : Int)] ++ nuns 96 ++ [.int .i64 (i0 : Int), .bx 0 9, .sl (Label.rows p0.labels), .int .i64 ((List.length p0.labels) : Int), .bool false]
def Qko (_p0 : Meta) (_i0 : Nat) : List (Nat × List PV) :=
  []
theorem Q18d (p0 : Meta) (_H : Qfz p0) (i0 : Nat) (hc0 : (decide ((i0 : Int) < ((List.length p0.labels) : Int))) = false) : Qa6 p0 (Qf4 p0 i0) () := by
 exact ⟨(envF (Qpi p0 i0)), (zoF (Qko p0 i0)), Qm VOK.nil (x := ((.exit 0), Qo0 p0 (envF (Qpi p0 i0)) (zoF (Qko p0 i0)))) [hP 3 (Q11 (Label.rows p0.labels) (List.length p0.labels) (Label.Q9 p0.labels)), hB 0 hc0] [] (by kernel_rfl)⟩
theorem Q169 (p0 : Meta) (H : Qfz p0) (x0 : Label) (i0 : Nat) (hx0 : p0.labels[i0]? = some x0) (hi0 : i0 < List.length p0.labels) (hc0 : (decide ((i0 : Int) < ((List.length p0.labels) : Int))) = true) {r : Rs} (hr : Q7 G (Qf4 p0 (i0 + 1)) r) : Q7 G (Qf4 p0 i0) r := by
 have hB0 := H.1
 exact Ql VOK.nil (y := (Qvf p0 (i0 + 1), Qw8 p0 (i0 + 1))) [hP 3 (Q11 (Label.rows p0.labels) (List.length p0.labels) (Label.Q9 p0.labels)), hB 0 hc0, hP 3 (Q2s 2 (Label.rows p0.labels) i0 _ (Label.Qo hx0) rfl), hP 4 (Q2s 2 (Label.rows p0.labels) i0 _ (Label.Qo hx0) rfl), hP 1 (dec (!((sEq x0.key x0.key) && ((sEq x0.value x0.value) && true))) false (by rw [(and_tt (Q3v.2 rfl) (and_tt (Q3v.2 rfl) rfl))]; rfl)), hP 1 (Q2g i0 (by omega))] [] (by kernel_rfl) hr
theorem Qyc (p0 : Meta) (H : Qfz p0) : ∀ (r0 : List Label) (i0 : Nat), List.drop i0 p0.labels = r0 → Qa6 p0 (Qf4 p0 i0) (Q13i p0 r0 i0)
 | [], i0, hd => by
  have hc0 : (decide ((i0 : Int) < ((List.length p0.labels) : Int))) = false := by have := Q1m hd; simp; omega
  show Qa6 p0 _ ()
  exact Q18d p0 H i0 hc0
 | x0 :: r0, i0, hd => by
  obtain ⟨hx0, hi0, hd'⟩ := Q1k hd
  have hc0 : (decide ((i0 : Int) < ((List.length p0.labels) : Int))) = true := by simp; omega
  show Qa6 p0 _ ()
  exact Qsi p0 (fun r hr => Q169 p0 H x0 i0 hx0 hi0 hc0 hr) _ (Qyc p0 H r0 (i0 + 1) hd')
def Q13j (p0 : Meta) : List Owner → Nat → Unit
 | [], _i1 =>
  ()
 | _x1 :: r1, i1 =>
  Q13j p0 r1 (i1 + 1)
def Qvg (_p0 : Meta) (i1 : Nat) : List PV :=
  [.un, .un, .bx 0 0, .bx 1 0, .un, .un, .int .i64 (i1 : Int)] ++ nuns 167
def Qw9 (p0 : Meta) (_i1 : Nat) : List Ob :=
  [⟨13, 0, true, [.str p0.kind, .str p0.namespace_, .str p0.name, .int .i64 p0.uid, .int .i64 p0.version, .int .i64 p0.generation, .int .i64 p0.created, .bool p0.deleting, .int .i64 p0.deleteAt, .sl (Label.rows p0.labels), .sl (Owner.rows p0.owners), .sl (Qn p0.finalizers), .sl (Manager.rows p0.managers)]⟩, ⟨13, 0, true, [.str p0.kind, .str p0.namespace_, .str p0.name, .int .i64 p0.uid, .int .i64 p0.version, .int .i64 p0.generation, .int .i64 p0.created, .bool p0.deleting, .int .i64 p0.deleteAt, .sl (Label.rows p0.labels), .sl (Owner.rows p0.owners), .sl (Qn p0.finalizers), .sl (Manager.rows p0.managers)]⟩]
def Qf5 (p0 : Meta) (i1 : Nat) : En := .loop 0 Ir.Qj6 Ir.Q1g5 (Qvg p0 i1) (Qw9 p0 i1)
def Qo1 (p0 : Meta) (z : Nat → PV) (_zo : Nat → List PV) : St :=
  ⟨[z 0, z 1, .bx 0 0, .bx 1 0] ++ zr z 4 170, [(0, ⟨13, 0, true, [.str p0.kind, .str p0.namespace_, .str p0.name, .int .i64 p0.uid, .int .i64 p0.version, .int .i64 p0.generation, .int .i64 p0.created, .bool p0.deleting, .int .i64 p0.deleteAt, .sl (Label.rows p0.labels), .sl (Owner.rows p0.owners), .sl (Qn p0.finalizers), .sl (Manager.rows p0.managers)]⟩), (1, ⟨13, 0, true, [.str p0.kind, .str p0.namespace_, .str p0.name, .int .i64 p0.uid, .int .i64 p0.version, .int .i64 p0.generation, .int .i64 p0.created, .bool p0.deleting, .int .i64 p0.deleteAt, .sl (Label.rows p0.labels), .sl (Owner.rows p0.owners), .sl (Qn p0.finalizers), .sl (Manager.rows p0.managers)]⟩)], 322⟩
def Qa7 (p0 : Meta) (e : En) (_q : Unit) : Prop := ∃ z zo, Q7 G e (.st (.exit 2) (Qo1 p0 z zo))
theorem Qsj (p0 : Meta) {e e' : En} (h : ∀ r, Q7 G e r → Q7 G e' r) : ∀ q, Qa7 p0 e q → Qa7 p0 e' q
  | _, ⟨z, zo, hz⟩ => ⟨z, zo, h _ hz⟩
def Qg0 (p0 : Meta) : Prop := (List.length p0.owners ≤ 4611686018427387904) ∧ True
def Qpj (p0 : Meta) (i1 : Nat) : List PV :=
  nuns 6 ++ [.int .i64 (i1 : Int)] ++ nuns 113 ++ [.int .i64 (i1 : Int), .bx 0 10, .sl (Owner.rows p0.owners), .int .i64 ((List.length p0.owners) : Int), .bool false]
def Qkp (_p0 : Meta) (_i1 : Nat) : List (Nat × List PV) :=
  []
theorem Q18e (p0 : Meta) (_H : Qg0 p0) (i1 : Nat) (hc1 : (decide ((i1 : Int) < ((List.length p0.owners) : Int))) = false) : Qa7 p0 (Qf5 p0 i1) () := by
 exact ⟨(envF (Qpj p0 i1)), (zoF (Qkp p0 i1)), Qm VOK.nil (x := ((.exit 2), Qo1 p0 (envF (Qpj p0 i1)) (zoF (Qkp p0 i1)))) [hP 3 (Q11 (Owner.rows p0.owners) (List.length p0.owners) (Owner.Q9 p0.owners)), hB 0 hc1] [] (by kernel_rfl)⟩
theorem Q16a (p0 : Meta) (H : Qg0 p0) (x1 : Owner) (i1 : Nat) (hx1 : p0.owners[i1]? = some x1) (hi1 : i1 < List.length p0.owners) (hc1 : (decide ((i1 : Int) < ((List.length p0.owners) : Int))) = true) {r : Rs} (hr : Q7 G (Qf5 p0 (i1 + 1)) r) : Q7 G (Qf5 p0 i1) r := by
 have hB0 := H.1
 exact Ql VOK.nil (y := (Qvg p0 (i1 + 1), Qw9 p0 (i1 + 1))) [hP 3 (Q11 (Owner.rows p0.owners) (List.length p0.owners) (Owner.Q9 p0.owners)), hB 0 hc1, hP 3 (Q2s 5 (Owner.rows p0.owners) i1 _ (Owner.Qo hx1) rfl), hP 4 (Q2s 5 (Owner.rows p0.owners) i1 _ (Owner.Qo hx1) rfl), hP 1 (dec (!((sEq x1.kind x1.kind) && ((sEq x1.name x1.name) && ((x1.uid == x1.uid) && ((x1.controller == x1.controller) && ((x1.block == x1.block) && true)))))) false (by rw [(and_tt (Q3v.2 rfl) (and_tt (Q3v.2 rfl) (and_tt (beq_self_eq_true _) (and_tt (beq_self_eq_true _) (and_tt (beq_self_eq_true _) rfl)))))]; rfl)), hP 1 (Q2g i1 (by omega))] [] (by kernel_rfl) hr
theorem Qyd (p0 : Meta) (H : Qg0 p0) : ∀ (r1 : List Owner) (i1 : Nat), List.drop i1 p0.owners = r1 → Qa7 p0 (Qf5 p0 i1) (Q13j p0 r1 i1)
 | [], i1, hd => by
  have hc1 : (decide ((i1 : Int) < ((List.length p0.owners) : Int))) = false := by have := Q1m hd; simp; omega
  show Qa7 p0 _ ()
  exact Q18e p0 H i1 hc1
 | x1 :: r1, i1, hd => by
  obtain ⟨hx1, hi1, hd'⟩ := Q1k hd
  have hc1 : (decide ((i1 : Int) < ((List.length p0.owners) : Int))) = true := by simp; omega
  show Qa7 p0 _ ()
  exact Qsj p0 (fun r hr => Q16a p0 H x1 i1 hx1 hi1 hc1 hr) _ (Qyd p0 H r1 (i1 + 1) hd')
def Q13k (p0 : Meta) : List Manager → Nat → Unit
 | [], _i2 =>
  ()
 | _x2 :: r2, i2 =>
  Q13k p0 r2 (i2 + 1)
def Qvh (_p0 : Meta) (i2 : Nat) : List PV :=
  [.un, .un, .bx 0 0, .bx 1 0, .un, .un, .un, .int .i64 (i2 : Int)] ++ nuns 166
def Qwa (p0 : Meta) (_i2 : Nat) : List Ob :=
  [⟨13, 0, true, [.str p0.kind, .str p0.namespace_, .str p0.name, .int .i64 p0.uid, .int .i64 p0.version, .int .i64 p0.generation, .int .i64 p0.created, .bool p0.deleting, .int .i64 p0.deleteAt, .sl (Label.rows p0.labels), .sl (Owner.rows p0.owners), .sl (Qn p0.finalizers), .sl (Manager.rows p0.managers)]⟩, ⟨13, 0, true, [.str p0.kind, .str p0.namespace_, .str p0.name, .int .i64 p0.uid, .int .i64 p0.version, .int .i64 p0.generation, .int .i64 p0.created, .bool p0.deleting, .int .i64 p0.deleteAt, .sl (Label.rows p0.labels), .sl (Owner.rows p0.owners), .sl (Qn p0.finalizers), .sl (Manager.rows p0.managers)]⟩]
def Qf6 (p0 : Meta) (i2 : Nat) : En := .loop 0 Ir.Qj7 Ir.Q1g6 (Qvh p0 i2) (Qwa p0 i2)
def Qo2 (p0 : Meta) (z : Nat → PV) (_zo : Nat → List PV) : St :=
  ⟨zr z 0 174, [(0, ⟨13, 0, true, [.str p0.kind, .str p0.namespace_, .str p0.name, .int .i64 p0.uid, .int .i64 p0.version, .int .i64 p0.generation, .int .i64 p0.created, .bool p0.deleting, .int .i64 p0.deleteAt, .sl (Label.rows p0.labels), .sl (Owner.rows p0.owners), .sl (Qn p0.finalizers), .sl (Manager.rows p0.managers)]⟩), (1, ⟨13, 0, true, [.str p0.kind, .str p0.namespace_, .str p0.name, .int .i64 p0.uid, .int .i64 p0.version, .int .i64 p0.generation, .int .i64 p0.created, .bool p0.deleting, .int .i64 p0.deleteAt, .sl (Label.rows p0.labels), .sl (Owner.rows p0.owners), .sl (Qn p0.finalizers), .sl (Manager.rows p0.managers)]⟩)], 322⟩
def Qa8 (p0 : Meta) (e : En) (_q : Unit) : Prop := ∃ z zo, Q7 G e (.st (.exit 4) (Qo2 p0 z zo))
theorem Qsk (p0 : Meta) {e e' : En} (h : ∀ r, Q7 G e r → Q7 G e' r) : ∀ q, Qa8 p0 e q → Qa8 p0 e' q
  | _, ⟨z, zo, hz⟩ => ⟨z, zo, h _ hz⟩
def Qg1 (p0 : Meta) : Prop := (List.length p0.managers ≤ 4611686018427387904) ∧ (∀ x2 ∈ p0.managers, Q1hn x2.fields) ∧ True
def Qpk (p0 : Meta) (i2 : Nat) : List PV :=
  [.un, .un, .bx 0 0, .bx 1 0, .un, .un, .un, .int .i64 (i2 : Int)] ++ nuns 130 ++ [.int .i64 (i2 : Int), .bx 0 12, .sl (Manager.rows p0.managers), .int .i64 ((List.length p0.managers) : Int), .bool false]
def Qkq (_p0 : Meta) (_i2 : Nat) : List (Nat × List PV) :=
  []
theorem Q18f (p0 : Meta) (_H : Qg1 p0) (i2 : Nat) (hc2 : (decide ((i2 : Int) < ((List.length p0.managers) : Int))) = false) : Qa8 p0 (Qf6 p0 i2) () := by
 exact ⟨(envF (Qpk p0 i2)), (zoF (Qkq p0 i2)), Qm VOK.nil (x := ((.exit 4), Qo2 p0 (envF (Qpk p0 i2)) (zoF (Qkq p0 i2)))) [hP 3 (Q11 (Manager.rows p0.managers) (List.length p0.managers) (Manager.Q9 p0.managers)), hB 0 hc2] [] (by kernel_rfl)⟩
theorem Q16b (p0 : Meta) (H : Qg1 p0) (x2 : Manager) (i2 : Nat) (hx2 : p0.managers[i2]? = some x2) (hi2 : i2 < List.length p0.managers) (hc2 : (decide ((i2 : Int) < ((List.length p0.managers) : Int))) = true) {r : Rs} (hr : Q7 G (Qf6 p0 (i2 + 1)) r) : Q7 G (Qf6 p0 i2) r := by
 have hB0 := H.1
 exact Ql VOK.nil (y := (Qvh p0 (i2 + 1), Qwa p0 (i2 + 1))) [hP 3 (Q11 (Manager.rows p0.managers) (List.length p0.managers) (Manager.Q9 p0.managers)), hB 0 hc2, hP 3 (Q2s 2 (Manager.rows p0.managers) i2 _ (Manager.Qo hx2) rfl), hP 5 (Q2s 2 (Manager.rows p0.managers) i2 _ (Manager.Qo hx2) rfl), hP 2 (dec (!(sEq x2.name x2.name)) false (by rw [(Q3v.2 rfl)]; rfl)), hP 4 (Q2s 2 (Manager.rows p0.managers) i2 _ (Manager.Qo hx2) rfl), hP 5 (Q2s 2 (Manager.rows p0.managers) i2 _ (Manager.Qo hx2) rfl), hP 6 (Q2g i2 (by omega))] [aN (Q3p (c := fun y => .call 120 [.sl (Qn x2.fields), .sl (Qn y)] []) rfl (Q1r9 x2.fields (H.2.1 x2 (Q2l hx2))))] (by kernel_rfl) hr
theorem Qye (p0 : Meta) (H : Qg1 p0) : ∀ (r2 : List Manager) (i2 : Nat), List.drop i2 p0.managers = r2 → Qa8 p0 (Qf6 p0 i2) (Q13k p0 r2 i2)
 | [], i2, hd => by
  have hc2 : (decide ((i2 : Int) < ((List.length p0.managers) : Int))) = false := by have := Q1m hd; simp; omega
  show Qa8 p0 _ ()
  exact Q18f p0 H i2 hc2
 | x2 :: r2, i2, hd => by
  obtain ⟨hx2, hi2, hd'⟩ := Q1k hd
  have hc2 : (decide ((i2 : Int) < ((List.length p0.managers) : Int))) = true := by simp; omega
  show Qa8 p0 _ ()
  exact Qsk p0 (fun r hr => Q16b p0 H x2 i2 hx2 hi2 hc2 hr) _ (Qye p0 H r2 (i2 + 1) hd')
def Q1qq (_p0 : Meta) : Bool :=
 true
def Q1wo (p0 : Meta) : En := .call 27 [.agg (Meta.cells p0), .agg (Meta.cells p0)] []
def Q1nw (p0 : Meta) : Rs := .ret (.bool (Q1qq p0)) []
def Q1hm (p0 : Meta) : Prop := (Q1mr p0) ∧ (Q1hn p0.finalizers) ∧ (Qfz p0) ∧ (Qg0 p0) ∧ (Qg1 p0) ∧ True
theorem Q21f (p0 : Meta) (H : Q1hm p0) : Q7 G (Q1wo p0) (Q1nw p0) := by
 unfold Q1nw Q1qq
 have hl0 := Qyc p0 (H.2.2.1) p0.labels 0 (by simp)
 obtain ⟨z0, zo0, hl0⟩ := hl0
 have hl1 := Qyd p0 (H.2.2.2.1) p0.owners 0 (by simp)
 obtain ⟨z1, zo1, hl1⟩ := hl1
 have hl2 := Qye p0 (H.2.2.2.2.1) p0.managers 0 (by simp)
 obtain ⟨z2, zo2, hl2⟩ := hl2
 exact Q8 (fn := Ir.K1y) rfl VOK.nil [hP 7 (dec (!(sEq (Q1fa p0) (Q1fa p0))) false (by rw [(Q3v.2 rfl)]; rfl)), hP 5 (dec (!(sEq p0.kind p0.kind)) false (by rw [(Q3v.2 rfl)]; rfl)), hP 6 (dec (!(sEq p0.namespace_ p0.namespace_)) false (by rw [(Q3v.2 rfl)]; rfl)), hP 6 (dec (!(p0.uid == p0.uid)) false (by rw [(beq_self_eq_true _)]; rfl)), hP 6 (dec (!(p0.version == p0.version)) false (by rw [(beq_self_eq_true _)]; rfl)), hP 6 (dec (!(p0.generation == p0.generation)) false (by rw [(beq_self_eq_true _)]; rfl)), hP 6 (dec (!(p0.created == p0.created)) false (by rw [(beq_self_eq_true _)]; rfl)), hP 6 (dec (!(p0.deleting == p0.deleting)) false (by rw [(beq_self_eq_true _)]; rfl)), hP 6 (dec (!(p0.deleteAt == p0.deleteAt)) false (by rw [(beq_self_eq_true _)]; rfl)), hP 3 (Q11 (Label.rows p0.labels) (List.length p0.labels) (Label.Q9 p0.labels)), hP 2 (Q11 (Label.rows p0.labels) (List.length p0.labels) (Label.Q9 p0.labels)), hP 0 (dec (!(((List.length p0.labels) : Int) == ((List.length p0.labels) : Int))) false (by rw [(beq_self_eq_true _)]; rfl)), hP 3 (Q11 (Owner.rows p0.owners) (List.length p0.owners) (Owner.Q9 p0.owners)), hP 2 (Q11 (Owner.rows p0.owners) (List.length p0.owners) (Owner.Q9 p0.owners)), hP 0 (dec (!(((List.length p0.owners) : Int) == ((List.length p0.owners) : Int))) false (by rw [(beq_self_eq_true _)]; rfl)), hP 4 (Q11 (Manager.rows p0.managers) (List.length p0.managers) (Manager.Q9 p0.managers)), hP 2 (Q11 (Manager.rows p0.managers) (List.length p0.managers) (Manager.Q9 p0.managers)), hP 0 (dec (!(((List.length p0.managers) : Int) == ((List.length p0.managers) : Int))) false (by rw [(beq_self_eq_true _)]; rfl))] [aN (Q1r8 p0 H.1), aN (Q1r8 p0 H.1), aN (Q3p (c := fun y => .call 120 [.sl (Qn p0.finalizers), .sl (Qn y)] []) rfl (Q1r9 p0.finalizers H.2.1)), aN hl0, aN hl1, aN hl2] (by kernel_rfl)
def Q1qp (_p0 : Object) : Bool :=
 true
def Q1wl (p0 : Object) : En := .call 17 [.agg (Object.cells p0), .agg (Object.cells p0)] []
def Q1nt (p0 : Object) : Rs := .ret (.bool (Q1qp p0)) []
def Qih (p0 : Object) : Prop := (Q1hm p0.meta_) ∧ (Q1hk p0.spec) ∧ (Q1hk p0.status) ∧ True
theorem Qbn (p0 : Object) (H : Qih p0) : Q7 G (Q1wl p0) (Q1nt p0) := by
 unfold Q1nt Q1qp
 exact Q8 (fn := Ir.K1v) rfl VOK.nil [] [aN (Q3p (c := fun y => .call 27 [.agg (Meta.cells p0.meta_), .agg (Meta.cells y)] []) rfl (Q21f p0.meta_ H.1)), aN (Q3p (c := fun y => .call 98 [.agg (Val.cells p0.spec), .agg (Val.cells y)] []) rfl (Q1r7 p0.spec H.2.1)), aN (Q3p (c := fun y => .call 98 [.agg (Val.cells p0.status), .agg (Val.cells y)] []) rfl (Q1r7 p0.status H.2.2.1))] (by kernel_rfl)
inductive Q19m where
  | k0
  | k1
def Qb4 (p0 : Object) : List Manager → Nat → Q19m
 | [], _i0 =>
  (.k0)
 | x0 :: r0, i0 =>
  bif (decide (60 < ((List.length x0.fields) : Int))) then
   (.k1)
  else
   Qb4 p0 r0 (i0 + 1)
def Q11e (_p0 : Object) (i0 : Nat) : List PV :=
  [.un, .bx 0 0, .un, .bx 1 0, .int .i64 (i0 : Int)] ++ nuns 47
def Q11n (p0 : Object) (_i0 : Nat) : List Ob :=
  [⟨23, 0, true, [.str p0.meta_.kind, .str p0.meta_.namespace_, .str p0.meta_.name, .int .i64 p0.meta_.uid, .int .i64 p0.meta_.version, .int .i64 p0.meta_.generation, .int .i64 p0.meta_.created, .bool p0.meta_.deleting, .int .i64 p0.meta_.deleteAt, .sl (Label.rows p0.meta_.labels), .sl (Owner.rows p0.meta_.owners), .sl (Qn p0.meta_.finalizers), .sl (Manager.rows p0.meta_.managers), .int .i64 p0.spec.kind, .int .i64 p0.spec.n, .str p0.spec.s, .sl (Val.rows p0.spec.list), .sl (Fld.rows p0.spec.fields), .int .i64 p0.status.kind, .int .i64 p0.status.n, .str p0.status.s, .sl (Val.rows p0.status.list), .sl (Fld.rows p0.status.fields)]⟩, ⟨13, 0, true, [.str p0.meta_.kind, .str p0.meta_.namespace_, .str p0.meta_.name, .int .i64 p0.meta_.uid, .int .i64 p0.meta_.version, .int .i64 p0.meta_.generation, .int .i64 p0.meta_.created, .bool p0.meta_.deleting, .int .i64 p0.meta_.deleteAt, .sl (Label.rows p0.meta_.labels), .sl (Owner.rows p0.meta_.owners), .sl (Qn p0.meta_.finalizers), .sl (Manager.rows p0.meta_.managers)]⟩]
def Qav (p0 : Object) (i0 : Nat) : En := .loop 0 Ir.Qn9 Ir.Q1n1 (Q11e p0 i0) (Q11n p0 i0)
def Qk3 (p0 : Object) (z : Nat → PV) (_zo : Nat → List PV) : St :=
  ⟨[z 0, .bx 0 0] ++ zr z 2 50, [(0, ⟨23, 0, true, [.str p0.meta_.kind, .str p0.meta_.namespace_, .str p0.meta_.name, .int .i64 p0.meta_.uid, .int .i64 p0.meta_.version, .int .i64 p0.meta_.generation, .int .i64 p0.meta_.created, .bool p0.meta_.deleting, .int .i64 p0.meta_.deleteAt, .sl (Label.rows p0.meta_.labels), .sl (Owner.rows p0.meta_.owners), .sl (Qn p0.meta_.finalizers), .sl (Manager.rows p0.meta_.managers), .int .i64 p0.spec.kind, .int .i64 p0.spec.n, .str p0.spec.s, .sl (Val.rows p0.spec.list), .sl (Fld.rows p0.spec.fields), .int .i64 p0.status.kind, .int .i64 p0.status.n, .str p0.status.s, .sl (Val.rows p0.status.list), .sl (Fld.rows p0.status.fields)]⟩), (1, ⟨13, 0, true, [.str p0.meta_.kind, .str p0.meta_.namespace_, .str p0.meta_.name, .int .i64 p0.meta_.uid, .int .i64 p0.meta_.version, .int .i64 p0.meta_.generation, .int .i64 p0.meta_.created, .bool p0.meta_.deleting, .int .i64 p0.meta_.deleteAt, .sl (Label.rows p0.meta_.labels), .sl (Owner.rows p0.meta_.owners), .sl (Qn p0.meta_.finalizers), .sl (Manager.rows p0.meta_.managers)]⟩)], 322⟩
def Qk4 (_p0 : Object) (z : Nat → PV) (zo : Nat → List PV) : St :=
  ⟨[z 0, z 1, .bool false] ++ zr z 3 49, [(0, ⟨23, 0, true, zo 0⟩), (1, ⟨13, 0, true, zo 1⟩)], 898⟩
def Qk1 (p0 : Object) (e : En) : Q19m → Prop
  | .k0 => ∃ z zo, Q7 G e (.st (.exit 0) (Qk3 p0 z zo))
  | .k1 => ∃ z zo, Q7 G e (.st .ret (Qk4 p0 z zo))
theorem Qwj (p0 : Object) {e e' : En} (h : ∀ r, Q7 G e r → Q7 G e' r) : ∀ q, Qk1 p0 e q → Qk1 p0 e' q
  | .k0, ⟨z, zo, hz⟩ => ⟨z, zo, h _ hz⟩
  | .k1, ⟨z, zo, hz⟩ => ⟨z, zo, h _ hz⟩
def Qii (p0 : Object) : Prop := (List.length p0.meta_.managers ≤ 4611686018427387904) ∧ True
def Qx3 (p0 : Object) (i0 : Nat) : List PV :=
  [.un, .un, .un, .bx 1 0, .int .i64 (i0 : Int)] ++ nuns 24 ++ [.int .i64 (i0 : Int), .bx 1 12, .sl (Manager.rows p0.meta_.managers), .int .i64 ((List.length p0.meta_.managers) : Int), .bool false]
def Qor (_p0 : Object) (_i0 : Nat) : List (Nat × List PV) :=
  []
theorem Q1cv (p0 : Object) (_H : Qii p0) (i0 : Nat) (hc0 : (decide ((i0 : Int) < ((List.length p0.meta_.managers) : Int))) = false) : Qk1 p0 (Qav p0 i0) (.k0) := by
 exact ⟨(envF (Qx3 p0 i0)), (zoF (Qor p0 i0)), Qm VOK.nil (x := ((.exit 0), Qk3 p0 (envF (Qx3 p0 i0)) (zoF (Qor p0 i0)))) [hP 3 (Q11 (Manager.rows p0.meta_.managers) (List.length p0.meta_.managers) (Manager.Q9 p0.meta_.managers)), hB 0 hc0] [] (by kernel_rfl)⟩
def Qx4 (p0 : Object) (i0 : Nat) (x0 : Manager) : List PV :=
  [.un, .bx 0 0, .un, .bx 1 0, .int .i64 (i0 : Int)] ++ nuns 24 ++ [.int .i64 (i0 : Int), .bx 1 12, .sl (Manager.rows p0.meta_.managers), .int .i64 ((List.length p0.meta_.managers) : Int), .bool true, .un, .un, .bx 1 12, .sl (Manager.rows p0.meta_.managers), .int .i64 (i0 : Int), .rf [.str x0.name, .sl (Qn x0.fields)], .rf [.sl (Qn x0.fields)], .sl (Qn x0.fields), .int .i64 ((List.length x0.fields) : Int), .bool true]
def Qos (p0 : Object) (_i0 : Nat) (_x0 : Manager) : List (Nat × List PV) :=
  [(0, [.str p0.meta_.kind, .str p0.meta_.namespace_, .str p0.meta_.name, .int .i64 p0.meta_.uid, .int .i64 p0.meta_.version, .int .i64 p0.meta_.generation, .int .i64 p0.meta_.created, .bool p0.meta_.deleting, .int .i64 p0.meta_.deleteAt, .sl (Label.rows p0.meta_.labels), .sl (Owner.rows p0.meta_.owners), .sl (Qn p0.meta_.finalizers), .sl (Manager.rows p0.meta_.managers), .int .i64 p0.spec.kind, .int .i64 p0.spec.n, .str p0.spec.s, .sl (Val.rows p0.spec.list), .sl (Fld.rows p0.spec.fields), .int .i64 p0.status.kind, .int .i64 p0.status.n, .str p0.status.s, .sl (Val.rows p0.status.list), .sl (Fld.rows p0.status.fields)]), (1, [.str p0.meta_.kind, .str p0.meta_.namespace_, .str p0.meta_.name, .int .i64 p0.meta_.uid, .int .i64 p0.meta_.version, .int .i64 p0.meta_.generation, .int .i64 p0.meta_.created, .bool p0.meta_.deleting, .int .i64 p0.meta_.deleteAt, .sl (Label.rows p0.meta_.labels), .sl (Owner.rows p0.meta_.owners), .sl (Qn p0.meta_.finalizers), .sl (Manager.rows p0.meta_.managers)])]
theorem Q1cw (p0 : Object) (_H : Qii p0) (x0 : Manager) (i0 : Nat) (hx0 : p0.meta_.managers[i0]? = some x0) (_hi0 : i0 < List.length p0.meta_.managers) (hc0 : (decide ((i0 : Int) < ((List.length p0.meta_.managers) : Int))) = true) (h0 : (decide (60 < ((List.length x0.fields) : Int))) = true) : Qk1 p0 (Qav p0 i0) (.k1) := by
 exact ⟨(envF (Qx4 p0 i0 x0)), (zoF (Qos p0 i0 x0)), Qm VOK.nil (x := (.ret, Qk4 p0 (envF (Qx4 p0 i0 x0)) (zoF (Qos p0 i0 x0)))) [hP 3 (Q11 (Manager.rows p0.meta_.managers) (List.length p0.meta_.managers) (Manager.Q9 p0.meta_.managers)), hB 0 hc0, hP 3 (Q2s 2 (Manager.rows p0.meta_.managers) i0 _ (Manager.Qo hx0) rfl), hP 2 (Q11 (Qn x0.fields) (List.length x0.fields) (Q2f x0.fields)), hB 0 h0] [] (by kernel_rfl)⟩
theorem Q1b8 (p0 : Object) (H : Qii p0) (x0 : Manager) (i0 : Nat) (hx0 : p0.meta_.managers[i0]? = some x0) (hi0 : i0 < List.length p0.meta_.managers) (hc0 : (decide ((i0 : Int) < ((List.length p0.meta_.managers) : Int))) = true) (h0 : (decide (60 < ((List.length x0.fields) : Int))) = false) {r : Rs} (hr : Q7 G (Qav p0 (i0 + 1)) r) : Q7 G (Qav p0 i0) r := by
 have hB0 := H.1; have e0 := of_decide_eq_false h0
 exact Ql VOK.nil (y := (Q11e p0 (i0 + 1), Q11n p0 (i0 + 1))) [hP 3 (Q11 (Manager.rows p0.meta_.managers) (List.length p0.meta_.managers) (Manager.Q9 p0.meta_.managers)), hB 0 hc0, hP 3 (Q2s 2 (Manager.rows p0.meta_.managers) i0 _ (Manager.Qo hx0) rfl), hP 2 (Q11 (Qn x0.fields) (List.length x0.fields) (Q2f x0.fields)), hB 0 h0, hP 1 (Q2g i0 (by omega))] [] (by kernel_rfl) hr
theorem Q13s (p0 : Object) (H : Qii p0) : ∀ (r0 : List Manager) (i0 : Nat), List.drop i0 p0.meta_.managers = r0 → Qk1 p0 (Qav p0 i0) (Qb4 p0 r0 i0)
 | [], i0, hd => by
  have hc0 : (decide ((i0 : Int) < ((List.length p0.meta_.managers) : Int))) = false := by have := Q1m hd; simp; omega
  rw [Qb4]
  exact Q1cv p0 H i0 hc0
 | x0 :: r0, i0, hd => by
  obtain ⟨hx0, hi0, hd'⟩ := Q1k hd
  have hc0 : (decide ((i0 : Int) < ((List.length p0.meta_.managers) : Int))) = true := by simp; omega
  rw [Qb4]
  cases h0 : (decide (60 < ((List.length x0.fields) : Int))) with
  | true =>
   exact Q1cw p0 H x0 i0 hx0 hi0 hc0 h0
  | false =>
   exact Qwj p0 (fun r hr => Q1b8 p0 H x0 i0 hx0 hi0 hc0 h0 hr) _ (Q13s p0 H r0 (i0 + 1) hd')
def s_K8 (p0 : Object) : Bool :=
 bif (decide (40 < ((List.length p0.meta_.labels) : Int))) then
  false
 else
  bif (decide (40 < ((List.length p0.meta_.owners) : Int))) then
   false
  else
   bif (decide (40 < ((List.length p0.meta_.finalizers) : Int))) then
    false
   else
    bif (decide (40 < ((List.length p0.meta_.managers) : Int))) then
     false
    else
     (match (Qb4 p0 p0.meta_.managers 0) with
     | .k0 => bif (Qun p0.spec 900) then
       (Qun p0.status 300)
      else
       false
     | .k1 => false)
def c_K8 (p0 : Object) : En := .call 11 [.agg (Object.cells p0)] []
def a_K8 (p0 : Object) : Rs := .ret (.bool (s_K8 p0)) []
def H_K8 (p0 : Object) : Prop := (Qii p0) ∧ (Q1hl p0.spec 900) ∧ (Q1hl p0.status 300) ∧ True
theorem Q1re (p0 : Object) (_H : H_K8 p0) (h0 : (decide (40 < ((List.length p0.meta_.labels) : Int))) = true) : Q7 G (c_K8 p0) (.ret (.bool (false)) []) := by
 exact Q8 (fn := Ir.K8) rfl VOK.nil [hP 8 (Q11 (Label.rows p0.meta_.labels) (List.length p0.meta_.labels) (Label.Q9 p0.meta_.labels)), hB 0 h0] [] (by kernel_rfl)
theorem Q1rf (p0 : Object) (_H : H_K8 p0) (h0 : (decide (40 < ((List.length p0.meta_.labels) : Int))) = false) (h1 : (decide (40 < ((List.length p0.meta_.owners) : Int))) = true) : Q7 G (c_K8 p0) (.ret (.bool (false)) []) := by
 exact Q8 (fn := Ir.K8) rfl VOK.nil [hP 8 (Q11 (Label.rows p0.meta_.labels) (List.length p0.meta_.labels) (Label.Q9 p0.meta_.labels)), hB 0 h0, hP 3 (Q11 (Owner.rows p0.meta_.owners) (List.length p0.meta_.owners) (Owner.Q9 p0.meta_.owners)), hB 0 h1] [] (by kernel_rfl)
theorem Q1rg (p0 : Object) (_H : H_K8 p0) (h0 : (decide (40 < ((List.length p0.meta_.labels) : Int))) = false) (h1 : (decide (40 < ((List.length p0.meta_.owners) : Int))) = false) (h2 : (decide (40 < ((List.length p0.meta_.finalizers) : Int))) = true) : Q7 G (c_K8 p0) (.ret (.bool (false)) []) := by
 exact Q8 (fn := Ir.K8) rfl VOK.nil [hP 8 (Q11 (Label.rows p0.meta_.labels) (List.length p0.meta_.labels) (Label.Q9 p0.meta_.labels)), hB 0 h0, hP 3 (Q11 (Owner.rows p0.meta_.owners) (List.length p0.meta_.owners) (Owner.Q9 p0.meta_.owners)), hB 0 h1, hP 4 (Q11 (Qn p0.meta_.finalizers) (List.length p0.meta_.finalizers) (Q2f p0.meta_.finalizers)), hB 0 h2] [] (by kernel_rfl)
theorem Q1rh (p0 : Object) (_H : H_K8 p0) (h0 : (decide (40 < ((List.length p0.meta_.labels) : Int))) = false) (h1 : (decide (40 < ((List.length p0.meta_.owners) : Int))) = false) (h2 : (decide (40 < ((List.length p0.meta_.finalizers) : Int))) = false) (h3 : (decide (40 < ((List.length p0.meta_.managers) : Int))) = true) : Q7 G (c_K8 p0) (.ret (.bool (false)) []) := by
 exact Q8 (fn := Ir.K8) rfl VOK.nil [hP 8 (Q11 (Label.rows p0.meta_.labels) (List.length p0.meta_.labels) (Label.Q9 p0.meta_.labels)), hB 0 h0, hP 3 (Q11 (Owner.rows p0.meta_.owners) (List.length p0.meta_.owners) (Owner.Q9 p0.meta_.owners)), hB 0 h1, hP 4 (Q11 (Qn p0.meta_.finalizers) (List.length p0.meta_.finalizers) (Q2f p0.meta_.finalizers)), hB 0 h2, hP 4 (Q11 (Manager.rows p0.meta_.managers) (List.length p0.meta_.managers) (Manager.Q9 p0.meta_.managers)), hB 0 h3] [] (by kernel_rfl)
theorem Q1ri (p0 : Object) (H : H_K8 p0) (h0 : (decide (40 < ((List.length p0.meta_.labels) : Int))) = false) (h1 : (decide (40 < ((List.length p0.meta_.owners) : Int))) = false) (h2 : (decide (40 < ((List.length p0.meta_.finalizers) : Int))) = false) (h3 : (decide (40 < ((List.length p0.meta_.managers) : Int))) = false) (z4 : Nat → PV) (zo4 : Nat → List PV) (hl4 : Q7 G (Qav p0 0) (.st (.exit 0) (Qk3 p0 z4 zo4))) : Q7 G (c_K8 p0) (.ret (.bool (bif (Qun p0.spec 900) then
   (Qun p0.status 300)
 else
   false)) []) := by
 cases h4 : (Qun p0.spec 900) with
 | true =>
  exact Q8 (fn := Ir.K8) rfl VOK.nil [hP 8 (Q11 (Label.rows p0.meta_.labels) (List.length p0.meta_.labels) (Label.Q9 p0.meta_.labels)), hB 0 h0, hP 3 (Q11 (Owner.rows p0.meta_.owners) (List.length p0.meta_.owners) (Owner.Q9 p0.meta_.owners)), hB 0 h1, hP 4 (Q11 (Qn p0.meta_.finalizers) (List.length p0.meta_.finalizers) (Q2f p0.meta_.finalizers)), hB 0 h2, hP 4 (Q11 (Manager.rows p0.meta_.managers) (List.length p0.meta_.managers) (Manager.Q9 p0.meta_.managers)), hB 0 h3] [aN hl4, aB (Q1j3 p0.spec 900 H.2.1) h4, aN (Q1j3 p0.status 300 H.2.2.1)] (by kernel_rfl)
 | false =>
  exact Q8 (fn := Ir.K8) rfl VOK.nil [hP 8 (Q11 (Label.rows p0.meta_.labels) (List.length p0.meta_.labels) (Label.Q9 p0.meta_.labels)), hB 0 h0, hP 3 (Q11 (Owner.rows p0.meta_.owners) (List.length p0.meta_.owners) (Owner.Q9 p0.meta_.owners)), hB 0 h1, hP 4 (Q11 (Qn p0.meta_.finalizers) (List.length p0.meta_.finalizers) (Q2f p0.meta_.finalizers)), hB 0 h2, hP 4 (Q11 (Manager.rows p0.meta_.managers) (List.length p0.meta_.managers) (Manager.Q9 p0.meta_.managers)), hB 0 h3] [aN hl4, aB (Q1j3 p0.spec 900 H.2.1) h4] (by kernel_rfl)
theorem Q1rj (p0 : Object) (_H : H_K8 p0) (h0 : (decide (40 < ((List.length p0.meta_.labels) : Int))) = false) (h1 : (decide (40 < ((List.length p0.meta_.owners) : Int))) = false) (h2 : (decide (40 < ((List.length p0.meta_.finalizers) : Int))) = false) (h3 : (decide (40 < ((List.length p0.meta_.managers) : Int))) = false) (z4 : Nat → PV) (zo4 : Nat → List PV) (hl4 : Q7 G (Qav p0 0) (.st .ret (Qk4 p0 z4 zo4))) : Q7 G (c_K8 p0) (.ret (.bool (false)) []) := by
 exact Q8 (fn := Ir.K8) rfl VOK.nil [hP 8 (Q11 (Label.rows p0.meta_.labels) (List.length p0.meta_.labels) (Label.Q9 p0.meta_.labels)), hB 0 h0, hP 3 (Q11 (Owner.rows p0.meta_.owners) (List.length p0.meta_.owners) (Owner.Q9 p0.meta_.owners)), hB 0 h1, hP 4 (Q11 (Qn p0.meta_.finalizers) (List.length p0.meta_.finalizers) (Q2f p0.meta_.finalizers)), hB 0 h2, hP 4 (Q11 (Manager.rows p0.meta_.managers) (List.length p0.meta_.managers) (Manager.Q9 p0.meta_.managers)), hB 0 h3] [aN hl4] (by kernel_rfl)
theorem t_K8 (p0 : Object) (H : H_K8 p0) : Q7 G (c_K8 p0) (a_K8 p0) := by
 unfold a_K8 s_K8
 cases h0 : (decide (40 < ((List.length p0.meta_.labels) : Int))) with
 | true =>
  exact Q1re p0 H h0
 | false =>
  cases h1 : (decide (40 < ((List.length p0.meta_.owners) : Int))) with
  | true =>
   exact Q1rf p0 H h0 h1
  | false =>
   cases h2 : (decide (40 < ((List.length p0.meta_.finalizers) : Int))) with
   | true =>
    exact Q1rg p0 H h0 h1 h2
   | false =>
    cases h3 : (decide (40 < ((List.length p0.meta_.managers) : Int))) with
    | true =>
     exact Q1rh p0 H h0 h1 h2 h3
    | false =>
     have hl4 := Q13s p0 (H.1) p0.meta_.managers 0 (by simp)
     cases hr4 : (Qb4 p0 p0.meta_.managers 0) with
     | k0 =>
      rw [hr4] at hl4
      obtain ⟨z4, zo4, hl4⟩ := hl4
      try dsimp only
      exact Q1ri p0 H h0 h1 h2 h3 z4 zo4 hl4
     | k1 =>
      rw [hr4] at hl4
      obtain ⟨z4, zo4, hl4⟩ := hl4
      exact Q1rj p0 H h0 h1 h2 h3 z4 zo4 hl4
end Go.Proofs.YtimjjohlpnkacaaGreat
end

section
/- The chapter's examples (printed by a program). -/
namespace Go.Proofs.YtimjjohlpnkacaaGreat
open Go.Pv
theorem t_K6 : Q7 G (.call 12 [] []) (.ret (.bool true) []) := ⟨400, by kernel_rfl⟩
end Go.Proofs.YtimjjohlpnkacaaGreat
end

section
/- What the laws ask of their arguments (printed by a program). -/
namespace Go.Proofs.YtimjjohlpnkacaaGreat
open Go.Pv
def Qry : Ty := .st [.str, .str]
def Qc3 (x : Label) : Prop := okS x.key ∧ okS x.value
theorem Qni {c : List PV} (h : Of Γ Qry c) : ∃ x : Label, c = x.cells ∧ Qc3 x := by
  have g0 := h.st1
  obtain ⟨a0, b0, rfl, h0, g1⟩ := g0.Q18
  obtain ⟨x0, rfl, k0⟩ := h0.str1
  obtain ⟨a1, b1, rfl, h1, g2⟩ := g1.Q18
  obtain ⟨x1, rfl, k1⟩ := h1.str1
  have e := g2.empty
  subst e
  exact ⟨⟨x0, x1⟩, rfl, ⟨k0, k1⟩⟩
def Q11o : Ty := .st [.str, .str, .int .i64, .bool, .bool]
def Qs3 (x : Owner) : Prop := okS x.kind ∧ okS x.name ∧ Q3s x.uid ∧ (fun _ : Bool => True) x.controller ∧ (fun _ : Bool => True) x.block
theorem Q14r {c : List PV} (h : Of Γ Q11o c) : ∃ x : Owner, c = x.cells ∧ Qs3 x := by
  have g0 := h.st1
  obtain ⟨a0, b0, rfl, h0, g1⟩ := g0.Q18
  obtain ⟨x0, rfl, k0⟩ := h0.str1
  obtain ⟨a1, b1, rfl, h1, g2⟩ := g1.Q18
  obtain ⟨x1, rfl, k1⟩ := h1.str1
  obtain ⟨a2, b2, rfl, h2, g3⟩ := g2.Q18
  obtain ⟨x2, rfl, k2⟩ := h2.i64
  obtain ⟨a3, b3, rfl, h3, g4⟩ := g3.Q18
  obtain ⟨x3, rfl, k3⟩ := h3.bool2
  obtain ⟨a4, b4, rfl, h4, g5⟩ := g4.Q18
  obtain ⟨x4, rfl, k4⟩ := h4.bool2
  have e := g5.empty
  subst e
  exact ⟨⟨x0, x1, x2, x3, x4⟩, rfl, ⟨k0, k1, k2, k3, k4⟩⟩
def Qnj : Ty := .st [.str, .sl 16 .str]
def Qde (x : Manager) : Prop := okS x.name ∧ (okL 16 okS) x.fields
theorem Qwh {c : List PV} (h : Of Γ Qnj c) : ∃ x : Manager, c = x.cells ∧ Qde x := by
  have g0 := h.st1
  obtain ⟨a0, b0, rfl, h0, g1⟩ := g0.Q18
  obtain ⟨x0, rfl, k0⟩ := h0.str1
  obtain ⟨a1, b1, rfl, h1, g2⟩ := g1.Q18
  obtain ⟨x1, rfl, k1⟩ := (h1.sl1 (f := (fun s : ByteArray => [.str s])) (ok := okS) fun r hr => hr.str1)
  have e := g2.empty
  subst e
  exact ⟨⟨x0, x1⟩, rfl, ⟨k0, k1⟩⟩
def Qs1 : Ty := .st [.str, .str, .str, .int .i64, .int .i64, .int .i64, .int .i64, .bool, .int .i64, .sl 32 Qry, .sl 48 Q11o, .sl 16 .str, .sl 40 Qnj]
def Q66 (x : Meta) : Prop := okS x.kind ∧ okS x.namespace_ ∧ okS x.name ∧ Q3s x.uid ∧ Q3s x.version ∧ Q3s x.generation ∧ Q3s x.created ∧ (fun _ : Bool => True) x.deleting ∧ Q3s x.deleteAt ∧ (okL 32 Qc3) x.labels ∧ (okL 48 Qs3) x.owners ∧ (okL 16 okS) x.finalizers ∧ (okL 40 Qde) x.managers
theorem Qjz {c : List PV} (h : Of Γ Qs1 c) : ∃ x : Meta, c = x.cells ∧ Q66 x := by
  have g0 := h.st1
  obtain ⟨a0, b0, rfl, h0, g1⟩ := g0.Q18
  obtain ⟨x0, rfl, k0⟩ := h0.str1
  obtain ⟨a1, b1, rfl, h1, g2⟩ := g1.Q18
  obtain ⟨x1, rfl, k1⟩ := h1.str1
  obtain ⟨a2, b2, rfl, h2, g3⟩ := g2.Q18
  obtain ⟨x2, rfl, k2⟩ := h2.str1
  obtain ⟨a3, b3, rfl, h3, g4⟩ := g3.Q18
  obtain ⟨x3, rfl, k3⟩ := h3.i64
  obtain ⟨a4, b4, rfl, h4, g5⟩ := g4.Q18
  obtain ⟨x4, rfl, k4⟩ := h4.i64
  obtain ⟨a5, b5, rfl, h5, g6⟩ := g5.Q18
  obtain ⟨x5, rfl, k5⟩ := h5.i64
  obtain ⟨a6, b6, rfl, h6, g7⟩ := g6.Q18
  obtain ⟨x6, rfl, k6⟩ := h6.i64
  obtain ⟨a7, b7, rfl, h7, g8⟩ := g7.Q18
  obtain ⟨x7, rfl, k7⟩ := h7.bool2
  obtain ⟨a8, b8, rfl, h8, g9⟩ := g8.Q18
  obtain ⟨x8, rfl, k8⟩ := h8.i64
  obtain ⟨a9, b9, rfl, h9, g10⟩ := g9.Q18
  obtain ⟨x9, rfl, k9⟩ := (h9.sl1 (f := Label.cells) (ok := Qc3) fun r hr => (Qni hr))
  obtain ⟨a10, b10, rfl, h10, g11⟩ := g10.Q18
  obtain ⟨x10, rfl, k10⟩ := (h10.sl1 (f := Owner.cells) (ok := Qs3) fun r hr => (Q14r hr))
  obtain ⟨a11, b11, rfl, h11, g12⟩ := g11.Q18
  obtain ⟨x11, rfl, k11⟩ := (h11.sl1 (f := (fun s : ByteArray => [.str s])) (ok := okS) fun r hr => hr.str1)
  obtain ⟨a12, b12, rfl, h12, g13⟩ := g12.Q18
  obtain ⟨x12, rfl, k12⟩ := (h12.sl1 (f := Manager.cells) (ok := Qde) fun r hr => (Qwh hr))
  have e := g13.empty
  subst e
  exact ⟨⟨x0, x1, x2, x3, x4, x5, x6, x7, x8, x9, x10, x11, x12⟩, rfl, ⟨k0, k1, k2, k3, k4, k5, k6, k7, k8, k9, k10, k11, k12⟩⟩
def Q3f : Ty := .st [.str, .int .i64, .sl 16 .str]
def Q28 (x : Requirement) : Prop := okS x.key ∧ Q3s x.op ∧ (okL 16 okS) x.values
theorem Q3b {c : List PV} (h : Of Γ Q3f c) : ∃ x : Requirement, c = x.cells ∧ Q28 x := by
  have g0 := h.st1
  obtain ⟨a0, b0, rfl, h0, g1⟩ := g0.Q18
  obtain ⟨x0, rfl, k0⟩ := h0.str1
  obtain ⟨a1, b1, rfl, h1, g2⟩ := g1.Q18
  obtain ⟨x1, rfl, k1⟩ := h1.i64
  obtain ⟨a2, b2, rfl, h2, g3⟩ := g2.Q18
  obtain ⟨x2, rfl, k2⟩ := (h2.sl1 (f := (fun s : ByteArray => [.str s])) (ok := okS) fun r hr => hr.str1)
  have e := g3.empty
  subst e
  exact ⟨⟨x0, x1, x2⟩, rfl, ⟨k0, k1, k2⟩⟩
def Q9c : Ty := .st [.int .i64, .int .i64, .int .i64]
def Q9b (x : Resources) : Prop := Q3s x.cPU ∧ Q3s x.memory ∧ Q3s x.disk
theorem Qar {c : List PV} (h : Of Γ Q9c c) : ∃ x : Resources, c = x.cells ∧ Q9b x := by
  have g0 := h.st1
  obtain ⟨a0, b0, rfl, h0, g1⟩ := g0.Q18
  obtain ⟨x0, rfl, k0⟩ := h0.i64
  obtain ⟨a1, b1, rfl, h1, g2⟩ := g1.Q18
  obtain ⟨x1, rfl, k1⟩ := h1.i64
  obtain ⟨a2, b2, rfl, h2, g3⟩ := g2.Q18
  obtain ⟨x2, rfl, k2⟩ := h2.i64
  have e := g3.empty
  subst e
  exact ⟨⟨x0, x1, x2⟩, rfl, ⟨k0, k1, k2⟩⟩
def Qh9 : Ty := .st [.int .i64, .int .i64, .int .i64, .int .i64]
def Q8g (x : Probe) : Prop := Q3s x.delay ∧ Q3s x.period ∧ Q3s x.success ∧ Q3s x.failure
theorem Qdh {c : List PV} (h : Of Γ Qh9 c) : ∃ x : Probe, c = x.cells ∧ Q8g x := by
  have g0 := h.st1
  obtain ⟨a0, b0, rfl, h0, g1⟩ := g0.Q18
  obtain ⟨x0, rfl, k0⟩ := h0.i64
  obtain ⟨a1, b1, rfl, h1, g2⟩ := g1.Q18
  obtain ⟨x1, rfl, k1⟩ := h1.i64
  obtain ⟨a2, b2, rfl, h2, g3⟩ := g2.Q18
  obtain ⟨x2, rfl, k2⟩ := h2.i64
  obtain ⟨a3, b3, rfl, h3, g4⟩ := g3.Q18
  obtain ⟨x3, rfl, k3⟩ := h3.i64
  have e := g4.empty
  subst e
  exact ⟨⟨x0, x1, x2, x3⟩, rfl, ⟨k0, k1, k2, k3⟩⟩
def Qe3 : Ty := .st [.str, .str, Q9c, Q9c, .sl 32 Qh9, .sl 32 Qh9, .sl 32 Qh9]
def Q93 (x : Container) : Prop := okS x.name ∧ okS x.image ∧ Q9b x.request ∧ Q9b x.limit ∧ (okL 32 Q8g) x.live ∧ (okL 32 Q8g) x.ready ∧ (okL 32 Q8g) x.startup
theorem Qmz {c : List PV} (h : Of Γ Qe3 c) : ∃ x : Container, c = x.cells ∧ Q93 x := by
  have g0 := h.st1
  obtain ⟨a0, b0, rfl, h0, g1⟩ := g0.Q18
  obtain ⟨x0, rfl, k0⟩ := h0.str1
  obtain ⟨a1, b1, rfl, h1, g2⟩ := g1.Q18
  obtain ⟨x1, rfl, k1⟩ := h1.str1
  obtain ⟨a2, b2, rfl, h2, g3⟩ := g2.Q18
  obtain ⟨x2, rfl, k2⟩ := (Qar h2)
  obtain ⟨a3, b3, rfl, h3, g4⟩ := g3.Q18
  obtain ⟨x3, rfl, k3⟩ := (Qar h3)
  obtain ⟨a4, b4, rfl, h4, g5⟩ := g4.Q18
  obtain ⟨x4, rfl, k4⟩ := (h4.sl1 (f := Probe.cells) (ok := Q8g) fun r hr => (Qdh hr))
  obtain ⟨a5, b5, rfl, h5, g6⟩ := g5.Q18
  obtain ⟨x5, rfl, k5⟩ := (h5.sl1 (f := Probe.cells) (ok := Q8g) fun r hr => (Qdh hr))
  obtain ⟨a6, b6, rfl, h6, g7⟩ := g6.Q18
  obtain ⟨x6, rfl, k6⟩ := (h6.sl1 (f := Probe.cells) (ok := Q8g) fun r hr => (Qdh hr))
  have e := g7.empty
  subst e
  exact ⟨⟨x0, x1, x2, x3, x4, x5, x6⟩, rfl, ⟨k0, k1, k2, k3, k4, k5, k6⟩⟩
def Qk0 : Ty := .st [.bool, .sl 48 Q3f, .int .i64]
def Qaw (x : NodeTerm) : Prop := (fun _ : Bool => True) x.required ∧ (okL 48 Q28) x.selector ∧ Q3s x.weight
theorem Qs2 {c : List PV} (h : Of Γ Qk0 c) : ∃ x : NodeTerm, c = x.cells ∧ Qaw x := by
  have g0 := h.st1
  obtain ⟨a0, b0, rfl, h0, g1⟩ := g0.Q18
  obtain ⟨x0, rfl, k0⟩ := h0.bool2
  obtain ⟨a1, b1, rfl, h1, g2⟩ := g1.Q18
  obtain ⟨x1, rfl, k1⟩ := (h1.sl1 (f := Requirement.cells) (ok := Q28) fun r hr => (Q3b hr))
  obtain ⟨a2, b2, rfl, h2, g3⟩ := g2.Q18
  obtain ⟨x2, rfl, k2⟩ := h2.i64
  have e := g3.empty
  subst e
  exact ⟨⟨x0, x1, x2⟩, rfl, ⟨k0, k1, k2⟩⟩
def Qnm : Ty := .st [.bool, .bool, .sl 48 Q3f, .str, .int .i64]
def Qdg (x : PodTerm) : Prop := (fun _ : Bool => True) x.required ∧ (fun _ : Bool => True) x.anti ∧ (okL 48 Q28) x.selector ∧ okS x.topology ∧ Q3s x.weight
theorem Qwt {c : List PV} (h : Of Γ Qnm c) : ∃ x : PodTerm, c = x.cells ∧ Qdg x := by
  have g0 := h.st1
  obtain ⟨a0, b0, rfl, h0, g1⟩ := g0.Q18
  obtain ⟨x0, rfl, k0⟩ := h0.bool2
  obtain ⟨a1, b1, rfl, h1, g2⟩ := g1.Q18
  obtain ⟨x1, rfl, k1⟩ := h1.bool2
  obtain ⟨a2, b2, rfl, h2, g3⟩ := g2.Q18
  obtain ⟨x2, rfl, k2⟩ := (h2.sl1 (f := Requirement.cells) (ok := Q28) fun r hr => (Q3b hr))
  obtain ⟨a3, b3, rfl, h3, g4⟩ := g3.Q18
  obtain ⟨x3, rfl, k3⟩ := h3.str1
  obtain ⟨a4, b4, rfl, h4, g5⟩ := g4.Q18
  obtain ⟨x4, rfl, k4⟩ := h4.i64
  have e := g5.empty
  subst e
  exact ⟨⟨x0, x1, x2, x3, x4⟩, rfl, ⟨k0, k1, k2, k3, k4⟩⟩
def Qca : Ty := .st [.int .i64, .str, .sl 48 Q3f, .bool]
def Q8i (x : SpreadRule) : Prop := Q3s x.maxSkew ∧ okS x.topology ∧ (okL 48 Q28) x.selector ∧ (fun _ : Bool => True) x.required
theorem Qk5 {c : List PV} (h : Of Γ Qca c) : ∃ x : SpreadRule, c = x.cells ∧ Q8i x := by
  have g0 := h.st1
  obtain ⟨a0, b0, rfl, h0, g1⟩ := g0.Q18
  obtain ⟨x0, rfl, k0⟩ := h0.i64
  obtain ⟨a1, b1, rfl, h1, g2⟩ := g1.Q18
  obtain ⟨x1, rfl, k1⟩ := h1.str1
  obtain ⟨a2, b2, rfl, h2, g3⟩ := g2.Q18
  obtain ⟨x2, rfl, k2⟩ := (h2.sl1 (f := Requirement.cells) (ok := Q28) fun r hr => (Q3b hr))
  obtain ⟨a3, b3, rfl, h3, g4⟩ := g3.Q18
  obtain ⟨x3, rfl, k3⟩ := h3.bool2
  have e := g4.empty
  subst e
  exact ⟨⟨x0, x1, x2, x3⟩, rfl, ⟨k0, k1, k2, k3⟩⟩
def Qcb : Ty := .st [.str, .str, .bool, .int .i64, .int .i64]
def Q8m (x : Toleration) : Prop := okS x.key ∧ okS x.value ∧ (fun _ : Bool => True) x.exists_ ∧ Q3s x.effect ∧ Q3s x.seconds
theorem Qk6 {c : List PV} (h : Of Γ Qcb c) : ∃ x : Toleration, c = x.cells ∧ Q8m x := by
  have g0 := h.st1
  obtain ⟨a0, b0, rfl, h0, g1⟩ := g0.Q18
  obtain ⟨x0, rfl, k0⟩ := h0.str1
  obtain ⟨a1, b1, rfl, h1, g2⟩ := g1.Q18
  obtain ⟨x1, rfl, k1⟩ := h1.str1
  obtain ⟨a2, b2, rfl, h2, g3⟩ := g2.Q18
  obtain ⟨x2, rfl, k2⟩ := h2.bool2
  obtain ⟨a3, b3, rfl, h3, g4⟩ := g3.Q18
  obtain ⟨x3, rfl, k3⟩ := h3.i64
  obtain ⟨a4, b4, rfl, h4, g5⟩ := g4.Q18
  obtain ⟨x4, rfl, k4⟩ := h4.i64
  have e := g5.empty
  subst e
  exact ⟨⟨x0, x1, x2, x3, x4⟩, rfl, ⟨k0, k1, k2, k3, k4⟩⟩
def Qnl : Ty := .st [.str, .int .i64, .int .i64, .int .i64, .sl 152 Qe3, .sl 48 Q3f, .sl 40 Qk0, .sl 56 Qnm, .sl 56 Qca, .sl 56 Qcb]
def Qnk (x : PodSpec) : Prop := okS x.node ∧ Q3s x.priority ∧ Q3s x.restart ∧ Q3s x.grace ∧ (okL 152 Q93) x.containers ∧ (okL 48 Q28) x.nodeSelector ∧ (okL 40 Qaw) x.nodeTerms ∧ (okL 56 Qdg) x.podTerms ∧ (okL 56 Q8i) x.spread ∧ (okL 56 Q8m) x.tolerations
theorem Qws {c : List PV} (h : Of Γ Qnl c) : ∃ x : PodSpec, c = x.cells ∧ Qnk x := by
  have g0 := h.st1
  obtain ⟨a0, b0, rfl, h0, g1⟩ := g0.Q18
  obtain ⟨x0, rfl, k0⟩ := h0.str1
  obtain ⟨a1, b1, rfl, h1, g2⟩ := g1.Q18
  obtain ⟨x1, rfl, k1⟩ := h1.i64
  obtain ⟨a2, b2, rfl, h2, g3⟩ := g2.Q18
  obtain ⟨x2, rfl, k2⟩ := h2.i64
  obtain ⟨a3, b3, rfl, h3, g4⟩ := g3.Q18
  obtain ⟨x3, rfl, k3⟩ := h3.i64
  obtain ⟨a4, b4, rfl, h4, g5⟩ := g4.Q18
  obtain ⟨x4, rfl, k4⟩ := (h4.sl1 (f := Container.cells) (ok := Q93) fun r hr => (Qmz hr))
  obtain ⟨a5, b5, rfl, h5, g6⟩ := g5.Q18
  obtain ⟨x5, rfl, k5⟩ := (h5.sl1 (f := Requirement.cells) (ok := Q28) fun r hr => (Q3b hr))
  obtain ⟨a6, b6, rfl, h6, g7⟩ := g6.Q18
  obtain ⟨x6, rfl, k6⟩ := (h6.sl1 (f := NodeTerm.cells) (ok := Qaw) fun r hr => (Qs2 hr))
  obtain ⟨a7, b7, rfl, h7, g8⟩ := g7.Q18
  obtain ⟨x7, rfl, k7⟩ := (h7.sl1 (f := PodTerm.cells) (ok := Qdg) fun r hr => (Qwt hr))
  obtain ⟨a8, b8, rfl, h8, g9⟩ := g8.Q18
  obtain ⟨x8, rfl, k8⟩ := (h8.sl1 (f := SpreadRule.cells) (ok := Q8i) fun r hr => (Qk5 hr))
  obtain ⟨a9, b9, rfl, h9, g10⟩ := g9.Q18
  obtain ⟨x9, rfl, k9⟩ := (h9.sl1 (f := Toleration.cells) (ok := Q8m) fun r hr => (Qk6 hr))
  have e := g10.empty
  subst e
  exact ⟨⟨x0, x1, x2, x3, x4, x5, x6, x7, x8, x9⟩, rfl, ⟨k0, k1, k2, k3, k4, k5, k6, k7, k8, k9⟩⟩
def Q8l : Ty := .st [.sl 32 Qry, Qnl]
def Q8j (x : Template) : Prop := (okL 32 Qc3) x.labels ∧ Qnk x.spec
theorem Q8k {c : List PV} (h : Of Γ Q8l c) : ∃ x : Template, c = x.cells ∧ Q8j x := by
  have g0 := h.st1
  obtain ⟨a0, b0, rfl, h0, g1⟩ := g0.Q18
  obtain ⟨x0, rfl, k0⟩ := (h0.sl1 (f := Label.cells) (ok := Qc3) fun r hr => (Qni hr))
  obtain ⟨a1, b1, rfl, h1, g2⟩ := g1.Q18
  obtain ⟨x1, rfl, k1⟩ := (Qws h1)
  have e := g2.empty
  subst e
  exact ⟨⟨x0, x1⟩, rfl, ⟨k0, k1⟩⟩
def Qv0 : Ty := .st [.bool, .int .i64]
def Quz (x : Amount) : Prop := (fun _ : Bool => True) x.percent ∧ Q3s x.n
theorem Qzt {c : List PV} (h : Of Γ Qv0 c) : ∃ x : Amount, c = x.cells ∧ Quz x := by
  have g0 := h.st1
  obtain ⟨a0, b0, rfl, h0, g1⟩ := g0.Q18
  obtain ⟨x0, rfl, k0⟩ := h0.bool2
  obtain ⟨a1, b1, rfl, h1, g2⟩ := g1.Q18
  obtain ⟨x1, rfl, k1⟩ := h1.i64
  have e := g2.empty
  subst e
  exact ⟨⟨x0, x1⟩, rfl, ⟨k0, k1⟩⟩
def Q6l : Ty := .st [.int .i64, .int .i64, .int .i64, .int .i64, .int .i64, .int .i64, .bool]
def Q6k (x : WorkStatus) : Prop := Q3s x.observed ∧ Q3s x.replicas ∧ Q3s x.updated ∧ Q3s x.ready ∧ Q3s x.available ∧ Q3s x.progress ∧ (fun _ : Bool => True) x.failed
theorem Q6w {c : List PV} (h : Of Γ Q6l c) : ∃ x : WorkStatus, c = x.cells ∧ Q6k x := by
  have g0 := h.st1
  obtain ⟨a0, b0, rfl, h0, g1⟩ := g0.Q18
  obtain ⟨x0, rfl, k0⟩ := h0.i64
  obtain ⟨a1, b1, rfl, h1, g2⟩ := g1.Q18
  obtain ⟨x1, rfl, k1⟩ := h1.i64
  obtain ⟨a2, b2, rfl, h2, g3⟩ := g2.Q18
  obtain ⟨x2, rfl, k2⟩ := h2.i64
  obtain ⟨a3, b3, rfl, h3, g4⟩ := g3.Q18
  obtain ⟨x3, rfl, k3⟩ := h3.i64
  obtain ⟨a4, b4, rfl, h4, g5⟩ := g4.Q18
  obtain ⟨x4, rfl, k4⟩ := h4.i64
  obtain ⟨a5, b5, rfl, h5, g6⟩ := g5.Q18
  obtain ⟨x5, rfl, k5⟩ := h5.i64
  obtain ⟨a6, b6, rfl, h6, g7⟩ := g6.Q18
  obtain ⟨x6, rfl, k6⟩ := h6.bool2
  have e := g7.empty
  subst e
  exact ⟨⟨x0, x1, x2, x3, x4, x5, x6⟩, rfl, ⟨k0, k1, k2, k3, k4, k5, k6⟩⟩
def Qc9 : Ty := .st [Qs1, .int .i64, .int .i64, .int .i64, .sl 48 Q3f, Q8l, Q6l]
def Q8h (x : ReplicaSet) : Prop := Q66 x.meta_ ∧ Q3s x.replicas ∧ Q3s x.minReady ∧ Q3s x.revision ∧ (okL 48 Q28) x.selector ∧ Q8j x.template ∧ Q6k x.status
theorem Qk2 {c : List PV} (h : Of Γ Qc9 c) : ∃ x : ReplicaSet, c = x.cells ∧ Q8h x := by
  have g0 := h.st1
  obtain ⟨a0, b0, rfl, h0, g1⟩ := g0.Q18
  obtain ⟨x0, rfl, k0⟩ := (Qjz h0)
  obtain ⟨a1, b1, rfl, h1, g2⟩ := g1.Q18
  obtain ⟨x1, rfl, k1⟩ := h1.i64
  obtain ⟨a2, b2, rfl, h2, g3⟩ := g2.Q18
  obtain ⟨x2, rfl, k2⟩ := h2.i64
  obtain ⟨a3, b3, rfl, h3, g4⟩ := g3.Q18
  obtain ⟨x3, rfl, k3⟩ := h3.i64
  obtain ⟨a4, b4, rfl, h4, g5⟩ := g4.Q18
  obtain ⟨x4, rfl, k4⟩ := (h4.sl1 (f := Requirement.cells) (ok := Q28) fun r hr => (Q3b hr))
  obtain ⟨a5, b5, rfl, h5, g6⟩ := g5.Q18
  obtain ⟨x5, rfl, k5⟩ := (Q8k h5)
  obtain ⟨a6, b6, rfl, h6, g7⟩ := g6.Q18
  obtain ⟨x6, rfl, k6⟩ := (Q6w h6)
  have e := g7.empty
  subst e
  exact ⟨⟨x0, x1, x2, x3, x4, x5, x6⟩, rfl, ⟨k0, k1, k2, k3, k4, k5, k6⟩⟩
def Qas : Ty := .st [Qs1, .int .i64, .int .i64, .int .i64, .bool, .sl 48 Q3f, Q8l, Q6l]
def Q7i (x : StatefulSet) : Prop := Q66 x.meta_ ∧ Q3s x.replicas ∧ Q3s x.partition ∧ Q3s x.minReady ∧ (fun _ : Bool => True) x.parallel ∧ (okL 48 Q28) x.selector ∧ Q8j x.template ∧ Q6k x.status
theorem Qej {c : List PV} (h : Of Γ Qas c) : ∃ x : StatefulSet, c = x.cells ∧ Q7i x := by
  have g0 := h.st1
  obtain ⟨a0, b0, rfl, h0, g1⟩ := g0.Q18
  obtain ⟨x0, rfl, k0⟩ := (Qjz h0)
  obtain ⟨a1, b1, rfl, h1, g2⟩ := g1.Q18
  obtain ⟨x1, rfl, k1⟩ := h1.i64
  obtain ⟨a2, b2, rfl, h2, g3⟩ := g2.Q18
  obtain ⟨x2, rfl, k2⟩ := h2.i64
  obtain ⟨a3, b3, rfl, h3, g4⟩ := g3.Q18
  obtain ⟨x3, rfl, k3⟩ := h3.i64
  obtain ⟨a4, b4, rfl, h4, g5⟩ := g4.Q18
  obtain ⟨x4, rfl, k4⟩ := h4.bool2
  obtain ⟨a5, b5, rfl, h5, g6⟩ := g5.Q18
  obtain ⟨x5, rfl, k5⟩ := (h5.sl1 (f := Requirement.cells) (ok := Q28) fun r hr => (Q3b hr))
  obtain ⟨a6, b6, rfl, h6, g7⟩ := g6.Q18
  obtain ⟨x6, rfl, k6⟩ := (Q8k h6)
  obtain ⟨a7, b7, rfl, h7, g8⟩ := g7.Q18
  obtain ⟨x7, rfl, k7⟩ := (Q6w h7)
  have e := g8.empty
  subst e
  exact ⟨⟨x0, x1, x2, x3, x4, x5, x6, x7⟩, rfl, ⟨k0, k1, k2, k3, k4, k5, k6, k7⟩⟩
def Qe4 : Ty := .st [Qs1, .int .i64, Qv0, .sl 48 Q3f, Q8l, Q6l]
def Q94 (x : DaemonSet) : Prop := Q66 x.meta_ ∧ Q3s x.minReady ∧ Quz x.unavailable ∧ (okL 48 Q28) x.selector ∧ Q8j x.template ∧ Q6k x.status
theorem Qn0 {c : List PV} (h : Of Γ Qe4 c) : ∃ x : DaemonSet, c = x.cells ∧ Q94 x := by
  have g0 := h.st1
  obtain ⟨a0, b0, rfl, h0, g1⟩ := g0.Q18
  obtain ⟨x0, rfl, k0⟩ := (Qjz h0)
  obtain ⟨a1, b1, rfl, h1, g2⟩ := g1.Q18
  obtain ⟨x1, rfl, k1⟩ := h1.i64
  obtain ⟨a2, b2, rfl, h2, g3⟩ := g2.Q18
  obtain ⟨x2, rfl, k2⟩ := (Qzt h2)
  obtain ⟨a3, b3, rfl, h3, g4⟩ := g3.Q18
  obtain ⟨x3, rfl, k3⟩ := (h3.sl1 (f := Requirement.cells) (ok := Q28) fun r hr => (Q3b hr))
  obtain ⟨a4, b4, rfl, h4, g5⟩ := g4.Q18
  obtain ⟨x4, rfl, k4⟩ := (Q8k h4)
  obtain ⟨a5, b5, rfl, h5, g6⟩ := g5.Q18
  obtain ⟨x5, rfl, k5⟩ := (Q6w h5)
  have e := g6.empty
  subst e
  exact ⟨⟨x0, x1, x2, x3, x4, x5⟩, rfl, ⟨k0, k1, k2, k3, k4, k5⟩⟩
def Q2y (N : Nat) (x : Requirement) : Prop := (fun s : ByteArray => s.size ≤ N) x.key ∧ (fun l : List ByteArray => l.length ≤ N ∧ ∀ x ∈ l, (fun s : ByteArray => s.size ≤ N) x) x.values
theorem Q34 {N : Nat} {x : Requirement} (h : CapL N x.cells) : Q2y N x := ⟨(let g : CapL N [.str x.key] := fun p hp => h p (by simp only [List.mem_cons, List.not_mem_nil, or_false] at hp; rcases hp with rfl <;> simp [Requirement.cells]); (g _ List.mem_cons_self).strI), (let g : CapL N [.sl (Qn x.values)] := fun p hp => h p (by simp only [List.mem_cons, List.not_mem_nil, or_false] at hp; rcases hp with rfl <;> simp [Requirement.cells]); (let r := Cap.Q74 (f := (fun s : ByteArray => [.str s])) (g _ List.mem_cons_self); ⟨r.1, fun x hx => ((r.2 x hx) _ List.mem_cons_self).strI⟩))⟩
theorem Requirement.Q2t {N : Nat} (hN : N ≤ sB) {x : Requirement} (c : Q2y N x) : Requirement.sm x := ⟨⟨Nat.le_trans c.2.1 hN, fun _ _hx => trivial⟩, trivial⟩
def Qc2 (N : Nat) (x : Label) : Prop := (fun s : ByteArray => s.size ≤ N) x.key ∧ (fun s : ByteArray => s.size ≤ N) x.value
theorem Qjx {N : Nat} {x : Label} (h : CapL N x.cells) : Qc2 N x := ⟨(let g : CapL N [.str x.key] := fun p hp => h p (by simp only [List.mem_cons, List.not_mem_nil, or_false] at hp; rcases hp with rfl <;> simp [Label.cells]); (g _ List.mem_cons_self).strI), (let g : CapL N [.str x.value] := fun p hp => h p (by simp only [List.mem_cons, List.not_mem_nil, or_false] at hp; rcases hp with rfl <;> simp [Label.cells]); (g _ List.mem_cons_self).strI)⟩
theorem Label.Q2t {N : Nat} (_ : N ≤ sB) {x : Label} (_ : Qc2 N x) : Label.sm x := trivial
def Q6j (_N : Nat) (_x : Resources) : Prop := True
theorem Q9a {N : Nat} {x : Resources} (_h : CapL N x.cells) : Q6j N x := trivial
theorem Resources.Q2t {N : Nat} (_ : N ≤ sB) {x : Resources} (_ : Q6j N x) : Resources.sm x := trivial
def Q99 (_N : Nat) (_x : Probe) : Prop := True
theorem Qaz {N : Nat} {x : Probe} (_h : CapL N x.cells) : Q99 N x := trivial
theorem Probe.Q2t {N : Nat} (_ : N ≤ sB) {x : Probe} (_ : Q99 N x) : Probe.sm x := trivial
def Q8b (N : Nat) (x : Container) : Prop := (fun s : ByteArray => s.size ≤ N) x.name ∧ (fun s : ByteArray => s.size ≤ N) x.image ∧ (Q6j N) x.request ∧ (Q6j N) x.limit ∧ (fun l : List Probe => l.length ≤ N ∧ ∀ x ∈ l, (Q99 N) x) x.live ∧ (fun l : List Probe => l.length ≤ N ∧ ∀ x ∈ l, (Q99 N) x) x.ready ∧ (fun l : List Probe => l.length ≤ N ∧ ∀ x ∈ l, (Q99 N) x) x.startup
theorem Qhk {N : Nat} {x : Container} (h : CapL N x.cells) : Q8b N x := ⟨(let g : CapL N [.str x.name] := fun p hp => h p (by simp only [List.mem_cons, List.not_mem_nil, or_false] at hp; rcases hp with rfl <;> simp [Container.cells]); (g _ List.mem_cons_self).strI), (let g : CapL N [.str x.image] := fun p hp => h p (by simp only [List.mem_cons, List.not_mem_nil, or_false] at hp; rcases hp with rfl <;> simp [Container.cells]); (g _ List.mem_cons_self).strI), (let g : CapL N [.int .i64 x.request.cPU, .int .i64 x.request.memory, .int .i64 x.request.disk] := fun p hp => h p (by simp only [List.mem_cons, List.not_mem_nil, or_false] at hp; rcases hp with rfl | rfl | rfl <;> simp [Container.cells]); (Q9a g)), (let g : CapL N [.int .i64 x.limit.cPU, .int .i64 x.limit.memory, .int .i64 x.limit.disk] := fun p hp => h p (by simp only [List.mem_cons, List.not_mem_nil, or_false] at hp; rcases hp with rfl | rfl | rfl <;> simp [Container.cells]); (Q9a g)), (let g : CapL N [.sl (Probe.rows x.live)] := fun p hp => h p (by simp only [List.mem_cons, List.not_mem_nil, or_false] at hp; rcases hp with rfl <;> simp [Container.cells]); (let r := Cap.Q74 (f := Probe.cells) (g _ List.mem_cons_self); ⟨r.1, fun x hx => (Qaz (r.2 x hx))⟩)), (let g : CapL N [.sl (Probe.rows x.ready)] := fun p hp => h p (by simp only [List.mem_cons, List.not_mem_nil, or_false] at hp; rcases hp with rfl <;> simp [Container.cells]); (let r := Cap.Q74 (f := Probe.cells) (g _ List.mem_cons_self); ⟨r.1, fun x hx => (Qaz (r.2 x hx))⟩)), (let g : CapL N [.sl (Probe.rows x.startup)] := fun p hp => h p (by simp only [List.mem_cons, List.not_mem_nil, or_false] at hp; rcases hp with rfl <;> simp [Container.cells]); (let r := Cap.Q74 (f := Probe.cells) (g _ List.mem_cons_self); ⟨r.1, fun x hx => (Qaz (r.2 x hx))⟩))⟩
theorem Container.Q2t {N : Nat} (hN : N ≤ sB) {x : Container} (c : Q8b N x) : Container.sm x := ⟨Resources.Q2t hN c.2.2.1, Resources.Q2t hN c.2.2.2.1, ⟨Nat.le_trans c.2.2.2.2.1.1 hN, fun _ hx => Probe.Q2t hN (c.2.2.2.2.1.2 _ hx)⟩, ⟨Nat.le_trans c.2.2.2.2.2.1.1 hN, fun _ hx => Probe.Q2t hN (c.2.2.2.2.2.1.2 _ hx)⟩, ⟨Nat.le_trans c.2.2.2.2.2.2.1 hN, fun _ hx => Probe.Q2t hN (c.2.2.2.2.2.2.2 _ hx)⟩, trivial⟩
def Q98 (N : Nat) (x : NodeTerm) : Prop := (fun l : List Requirement => l.length ≤ N ∧ ∀ x ∈ l, (Q2y N) x) x.selector
theorem Qn3 {N : Nat} {x : NodeTerm} (h : CapL N x.cells) : Q98 N x := (let g : CapL N [.sl (Requirement.rows x.selector)] := fun p hp => h p (by simp only [List.mem_cons, List.not_mem_nil, or_false] at hp; rcases hp with rfl <;> simp [NodeTerm.cells]); (let r := Cap.Q74 (f := Requirement.cells) (g _ List.mem_cons_self); ⟨r.1, fun x hx => (Q34 (r.2 x hx))⟩))
theorem NodeTerm.Q2t {N : Nat} (hN : N ≤ sB) {x : NodeTerm} (c : Q98 N x) : NodeTerm.sm x := ⟨⟨Nat.le_trans c.1 hN, fun _ hx => Requirement.Q2t hN (c.2 _ hx)⟩, trivial⟩
def Qay (N : Nat) (x : PodTerm) : Prop := (fun l : List Requirement => l.length ≤ N ∧ ∀ x ∈ l, (Q2y N) x) x.selector ∧ (fun s : ByteArray => s.size ≤ N) x.topology
theorem Qtg {N : Nat} {x : PodTerm} (h : CapL N x.cells) : Qay N x := ⟨(let g : CapL N [.sl (Requirement.rows x.selector)] := fun p hp => h p (by simp only [List.mem_cons, List.not_mem_nil, or_false] at hp; rcases hp with rfl <;> simp [PodTerm.cells]); (let r := Cap.Q74 (f := Requirement.cells) (g _ List.mem_cons_self); ⟨r.1, fun x hx => (Q34 (r.2 x hx))⟩)), (let g : CapL N [.str x.topology] := fun p hp => h p (by simp only [List.mem_cons, List.not_mem_nil, or_false] at hp; rcases hp with rfl <;> simp [PodTerm.cells]); (g _ List.mem_cons_self).strI)⟩
theorem PodTerm.Q2t {N : Nat} (hN : N ≤ sB) {x : PodTerm} (c : Qay N x) : PodTerm.sm x := ⟨⟨Nat.le_trans c.1.1 hN, fun _ hx => Requirement.Q2t hN (c.1.2 _ hx)⟩, trivial⟩
def Q7h (N : Nat) (x : SpreadRule) : Prop := (fun s : ByteArray => s.size ≤ N) x.topology ∧ (fun l : List Requirement => l.length ≤ N ∧ ∀ x ∈ l, (Q2y N) x) x.selector
theorem Qei {N : Nat} {x : SpreadRule} (h : CapL N x.cells) : Q7h N x := ⟨(let g : CapL N [.str x.topology] := fun p hp => h p (by simp only [List.mem_cons, List.not_mem_nil, or_false] at hp; rcases hp with rfl <;> simp [SpreadRule.cells]); (g _ List.mem_cons_self).strI), (let g : CapL N [.sl (Requirement.rows x.selector)] := fun p hp => h p (by simp only [List.mem_cons, List.not_mem_nil, or_false] at hp; rcases hp with rfl <;> simp [SpreadRule.cells]); (let r := Cap.Q74 (f := Requirement.cells) (g _ List.mem_cons_self); ⟨r.1, fun x hx => (Q34 (r.2 x hx))⟩))⟩
theorem SpreadRule.Q2t {N : Nat} (hN : N ≤ sB) {x : SpreadRule} (c : Q7h N x) : SpreadRule.sm x := ⟨⟨Nat.le_trans c.2.1 hN, fun _ hx => Requirement.Q2t hN (c.2.2 _ hx)⟩, trivial⟩
def Q7k (N : Nat) (x : Toleration) : Prop := (fun s : ByteArray => s.size ≤ N) x.key ∧ (fun s : ByteArray => s.size ≤ N) x.value
theorem Qek {N : Nat} {x : Toleration} (h : CapL N x.cells) : Q7k N x := ⟨(let g : CapL N [.str x.key] := fun p hp => h p (by simp only [List.mem_cons, List.not_mem_nil, or_false] at hp; rcases hp with rfl <;> simp [Toleration.cells]); (g _ List.mem_cons_self).strI), (let g : CapL N [.str x.value] := fun p hp => h p (by simp only [List.mem_cons, List.not_mem_nil, or_false] at hp; rcases hp with rfl <;> simp [Toleration.cells]); (g _ List.mem_cons_self).strI)⟩
theorem Toleration.Q2t {N : Nat} (_ : N ≤ sB) {x : Toleration} (_ : Q7k N x) : Toleration.sm x := trivial
def Qax (N : Nat) (x : PodSpec) : Prop := (fun s : ByteArray => s.size ≤ N) x.node ∧ (fun l : List Container => l.length ≤ N ∧ ∀ x ∈ l, (Q8b N) x) x.containers ∧ (fun l : List Requirement => l.length ≤ N ∧ ∀ x ∈ l, (Q2y N) x) x.nodeSelector ∧ (fun l : List NodeTerm => l.length ≤ N ∧ ∀ x ∈ l, (Q98 N) x) x.nodeTerms ∧ (fun l : List PodTerm => l.length ≤ N ∧ ∀ x ∈ l, (Qay N) x) x.podTerms ∧ (fun l : List SpreadRule => l.length ≤ N ∧ ∀ x ∈ l, (Q7h N) x) x.spread ∧ (fun l : List Toleration => l.length ≤ N ∧ ∀ x ∈ l, (Q7k N) x) x.tolerations
theorem Qtf {N : Nat} {x : PodSpec} (h : CapL N x.cells) : Qax N x := ⟨(let g : CapL N [.str x.node] := fun p hp => h p (by simp only [List.mem_cons, List.not_mem_nil, or_false] at hp; rcases hp with rfl <;> simp [PodSpec.cells]); (g _ List.mem_cons_self).strI), (let g : CapL N [.sl (Container.rows x.containers)] := fun p hp => h p (by simp only [List.mem_cons, List.not_mem_nil, or_false] at hp; rcases hp with rfl <;> simp [PodSpec.cells]); (let r := Cap.Q74 (f := Container.cells) (g _ List.mem_cons_self); ⟨r.1, fun x hx => (Qhk (r.2 x hx))⟩)), (let g : CapL N [.sl (Requirement.rows x.nodeSelector)] := fun p hp => h p (by simp only [List.mem_cons, List.not_mem_nil, or_false] at hp; rcases hp with rfl <;> simp [PodSpec.cells]); (let r := Cap.Q74 (f := Requirement.cells) (g _ List.mem_cons_self); ⟨r.1, fun x hx => (Q34 (r.2 x hx))⟩)), (let g : CapL N [.sl (NodeTerm.rows x.nodeTerms)] := fun p hp => h p (by simp only [List.mem_cons, List.not_mem_nil, or_false] at hp; rcases hp with rfl <;> simp [PodSpec.cells]); (let r := Cap.Q74 (f := NodeTerm.cells) (g _ List.mem_cons_self); ⟨r.1, fun x hx => (Qn3 (r.2 x hx))⟩)), (let g : CapL N [.sl (PodTerm.rows x.podTerms)] := fun p hp => h p (by simp only [List.mem_cons, List.not_mem_nil, or_false] at hp; rcases hp with rfl <;> simp [PodSpec.cells]); (let r := Cap.Q74 (f := PodTerm.cells) (g _ List.mem_cons_self); ⟨r.1, fun x hx => (Qtg (r.2 x hx))⟩)), (let g : CapL N [.sl (SpreadRule.rows x.spread)] := fun p hp => h p (by simp only [List.mem_cons, List.not_mem_nil, or_false] at hp; rcases hp with rfl <;> simp [PodSpec.cells]); (let r := Cap.Q74 (f := SpreadRule.cells) (g _ List.mem_cons_self); ⟨r.1, fun x hx => (Qei (r.2 x hx))⟩)), (let g : CapL N [.sl (Toleration.rows x.tolerations)] := fun p hp => h p (by simp only [List.mem_cons, List.not_mem_nil, or_false] at hp; rcases hp with rfl <;> simp [PodSpec.cells]); (let r := Cap.Q74 (f := Toleration.cells) (g _ List.mem_cons_self); ⟨r.1, fun x hx => (Qek (r.2 x hx))⟩))⟩
theorem PodSpec.Q2t {N : Nat} (hN : N ≤ sB) {x : PodSpec} (c : Qax N x) : PodSpec.sm x := ⟨⟨Nat.le_trans c.2.1.1 hN, fun _ hx => Container.Q2t hN (c.2.1.2 _ hx)⟩, ⟨Nat.le_trans c.2.2.1.1 hN, fun _ hx => Requirement.Q2t hN (c.2.2.1.2 _ hx)⟩, ⟨Nat.le_trans c.2.2.2.1.1 hN, fun _ hx => NodeTerm.Q2t hN (c.2.2.2.1.2 _ hx)⟩, ⟨Nat.le_trans c.2.2.2.2.1.1 hN, fun _ hx => PodTerm.Q2t hN (c.2.2.2.2.1.2 _ hx)⟩, ⟨Nat.le_trans c.2.2.2.2.2.1.1 hN, fun _ hx => SpreadRule.Q2t hN (c.2.2.2.2.2.1.2 _ hx)⟩, ⟨Nat.le_trans c.2.2.2.2.2.2.1 hN, fun _ hx => Toleration.Q2t hN (c.2.2.2.2.2.2.2 _ hx)⟩, trivial⟩
def Q60 (N : Nat) (x : Template) : Prop := (fun l : List Label => l.length ≤ N ∧ ∀ x ∈ l, (Qc2 N) x) x.labels ∧ (Qax N) x.spec
theorem Q7j {N : Nat} {x : Template} (h : CapL N x.cells) : Q60 N x := ⟨(let g : CapL N [.sl (Label.rows x.labels)] := fun p hp => h p (by simp only [List.mem_cons, List.not_mem_nil, or_false] at hp; rcases hp with rfl <;> simp [Template.cells]); (let r := Cap.Q74 (f := Label.cells) (g _ List.mem_cons_self); ⟨r.1, fun x hx => (Qjx (r.2 x hx))⟩)), (let g : CapL N [.str x.spec.node, .int .i64 x.spec.priority, .int .i64 x.spec.restart, .int .i64 x.spec.grace, .sl (Container.rows x.spec.containers), .sl (Requirement.rows x.spec.nodeSelector), .sl (NodeTerm.rows x.spec.nodeTerms), .sl (PodTerm.rows x.spec.podTerms), .sl (SpreadRule.rows x.spec.spread), .sl (Toleration.rows x.spec.tolerations)] := fun p hp => h p (by simp only [List.mem_cons, List.not_mem_nil, or_false] at hp; rcases hp with rfl | rfl | rfl | rfl | rfl | rfl | rfl | rfl | rfl | rfl <;> simp [Template.cells]); (Qtf g))⟩
theorem Template.Q2t {N : Nat} (hN : N ≤ sB) {x : Template} (c : Q60 N x) : Template.sm x := ⟨⟨Nat.le_trans c.1.1 hN, fun _ hx => Label.Q2t hN (c.1.2 _ hx)⟩, PodSpec.Q2t hN c.2, trivial⟩
def Qd4 (_N : Nat) (_x : Amount) : Prop := True
theorem Quy {N : Nat} {x : Amount} (_h : CapL N x.cells) : Qd4 N x := trivial
theorem Amount.Q2t {N : Nat} (_ : N ≤ sB) {x : Amount} (_ : Qd4 N x) : Amount.sm x := trivial
def Q4l (_N : Nat) (_x : WorkStatus) : Prop := True
theorem Q67 {N : Nat} {x : WorkStatus} (_h : CapL N x.cells) : Q4l N x := trivial
theorem WorkStatus.Q2t {N : Nat} (_ : N ≤ sB) {x : WorkStatus} (_ : Q4l N x) : WorkStatus.sm x := trivial
def Qwi (N : Nat) (x : Owner) : Prop := (fun s : ByteArray => s.size ≤ N) x.kind ∧ (fun s : ByteArray => s.size ≤ N) x.name
theorem Q101 {N : Nat} {x : Owner} (h : CapL N x.cells) : Qwi N x := ⟨(let g : CapL N [.str x.kind] := fun p hp => h p (by simp only [List.mem_cons, List.not_mem_nil, or_false] at hp; rcases hp with rfl <;> simp [Owner.cells]); (g _ List.mem_cons_self).strI), (let g : CapL N [.str x.name] := fun p hp => h p (by simp only [List.mem_cons, List.not_mem_nil, or_false] at hp; rcases hp with rfl <;> simp [Owner.cells]); (g _ List.mem_cons_self).strI)⟩
def Qjy (N : Nat) (x : Manager) : Prop := (fun s : ByteArray => s.size ≤ N) x.name ∧ (fun l : List ByteArray => l.length ≤ N ∧ ∀ x ∈ l, (fun s : ByteArray => s.size ≤ N) x) x.fields
theorem Qs0 {N : Nat} {x : Manager} (h : CapL N x.cells) : Qjy N x := ⟨(let g : CapL N [.str x.name] := fun p hp => h p (by simp only [List.mem_cons, List.not_mem_nil, or_false] at hp; rcases hp with rfl <;> simp [Manager.cells]); (g _ List.mem_cons_self).strI), (let g : CapL N [.sl (Qn x.fields)] := fun p hp => h p (by simp only [List.mem_cons, List.not_mem_nil, or_false] at hp; rcases hp with rfl <;> simp [Manager.cells]); (let r := Cap.Q74 (f := (fun s : ByteArray => [.str s])) (g _ List.mem_cons_self); ⟨r.1, fun x hx => ((r.2 x hx) _ List.mem_cons_self).strI⟩))⟩
def Qgh (N : Nat) (x : Meta) : Prop := (fun s : ByteArray => s.size ≤ N) x.kind ∧ (fun s : ByteArray => s.size ≤ N) x.namespace_ ∧ (fun s : ByteArray => s.size ≤ N) x.name ∧ (fun l : List Label => l.length ≤ N ∧ ∀ x ∈ l, (Qc2 N) x) x.labels ∧ (fun l : List Owner => l.length ≤ N ∧ ∀ x ∈ l, (Qwi N) x) x.owners ∧ (fun l : List ByteArray => l.length ≤ N ∧ ∀ x ∈ l, (fun s : ByteArray => s.size ≤ N) x) x.finalizers ∧ (fun l : List Manager => l.length ≤ N ∧ ∀ x ∈ l, (Qjy N) x) x.managers
theorem Qdf {N : Nat} {x : Meta} (h : CapL N x.cells) : Qgh N x := ⟨(let g : CapL N [.str x.kind] := fun p hp => h p (by simp only [List.mem_cons, List.not_mem_nil, or_false] at hp; rcases hp with rfl <;> simp [Meta.cells]); (g _ List.mem_cons_self).strI), (let g : CapL N [.str x.namespace_] := fun p hp => h p (by simp only [List.mem_cons, List.not_mem_nil, or_false] at hp; rcases hp with rfl <;> simp [Meta.cells]); (g _ List.mem_cons_self).strI), (let g : CapL N [.str x.name] := fun p hp => h p (by simp only [List.mem_cons, List.not_mem_nil, or_false] at hp; rcases hp with rfl <;> simp [Meta.cells]); (g _ List.mem_cons_self).strI), (let g : CapL N [.sl (Label.rows x.labels)] := fun p hp => h p (by simp only [List.mem_cons, List.not_mem_nil, or_false] at hp; rcases hp with rfl <;> simp [Meta.cells]); (let r := Cap.Q74 (f := Label.cells) (g _ List.mem_cons_self); ⟨r.1, fun x hx => (Qjx (r.2 x hx))⟩)), (let g : CapL N [.sl (Owner.rows x.owners)] := fun p hp => h p (by simp only [List.mem_cons, List.not_mem_nil, or_false] at hp; rcases hp with rfl <;> simp [Meta.cells]); (let r := Cap.Q74 (f := Owner.cells) (g _ List.mem_cons_self); ⟨r.1, fun x hx => (Q101 (r.2 x hx))⟩)), (let g : CapL N [.sl (Qn x.finalizers)] := fun p hp => h p (by simp only [List.mem_cons, List.not_mem_nil, or_false] at hp; rcases hp with rfl <;> simp [Meta.cells]); (let r := Cap.Q74 (f := (fun s : ByteArray => [.str s])) (g _ List.mem_cons_self); ⟨r.1, fun x hx => ((r.2 x hx) _ List.mem_cons_self).strI⟩)), (let g : CapL N [.sl (Manager.rows x.managers)] := fun p hp => h p (by simp only [List.mem_cons, List.not_mem_nil, or_false] at hp; rcases hp with rfl <;> simp [Meta.cells]); (let r := Cap.Q74 (f := Manager.cells) (g _ List.mem_cons_self); ⟨r.1, fun x hx => (Qs0 (r.2 x hx))⟩))⟩
def Q5y (N : Nat) (x : ReplicaSet) : Prop := (Qgh N) x.meta_ ∧ (fun l : List Requirement => l.length ≤ N ∧ ∀ x ∈ l, (Q2y N) x) x.selector ∧ (Q60 N) x.template ∧ (Q4l N) x.status
theorem Qeh {N : Nat} {x : ReplicaSet} (h : CapL N x.cells) : Q5y N x := ⟨(let g : CapL N [.str x.meta_.kind, .str x.meta_.namespace_, .str x.meta_.name, .int .i64 x.meta_.uid, .int .i64 x.meta_.version, .int .i64 x.meta_.generation, .int .i64 x.meta_.created, .bool x.meta_.deleting, .int .i64 x.meta_.deleteAt, .sl (Label.rows x.meta_.labels), .sl (Owner.rows x.meta_.owners), .sl (Qn x.meta_.finalizers), .sl (Manager.rows x.meta_.managers)] := fun p hp => h p (by simp only [List.mem_cons, List.not_mem_nil, or_false] at hp; rcases hp with rfl | rfl | rfl | rfl | rfl | rfl | rfl | rfl | rfl | rfl | rfl | rfl | rfl <;> simp [ReplicaSet.cells]); (Qdf g)), (let g : CapL N [.sl (Requirement.rows x.selector)] := fun p hp => h p (by simp only [List.mem_cons, List.not_mem_nil, or_false] at hp; rcases hp with rfl <;> simp [ReplicaSet.cells]); (let r := Cap.Q74 (f := Requirement.cells) (g _ List.mem_cons_self); ⟨r.1, fun x hx => (Q34 (r.2 x hx))⟩)), (let g : CapL N [.sl (Label.rows x.template.labels), .str x.template.spec.node, .int .i64 x.template.spec.priority, .int .i64 x.template.spec.restart, .int .i64 x.template.spec.grace, .sl (Container.rows x.template.spec.containers), .sl (Requirement.rows x.template.spec.nodeSelector), .sl (NodeTerm.rows x.template.spec.nodeTerms), .sl (PodTerm.rows x.template.spec.podTerms), .sl (SpreadRule.rows x.template.spec.spread), .sl (Toleration.rows x.template.spec.tolerations)] := fun p hp => h p (by simp only [List.mem_cons, List.not_mem_nil, or_false] at hp; rcases hp with rfl | rfl | rfl | rfl | rfl | rfl | rfl | rfl | rfl | rfl | rfl <;> simp [ReplicaSet.cells]); (Q7j g)), (let g : CapL N [.int .i64 x.status.observed, .int .i64 x.status.replicas, .int .i64 x.status.updated, .int .i64 x.status.ready, .int .i64 x.status.available, .int .i64 x.status.progress, .bool x.status.failed] := fun p hp => h p (by simp only [List.mem_cons, List.not_mem_nil, or_false] at hp; rcases hp with rfl | rfl | rfl | rfl | rfl | rfl | rfl <;> simp [ReplicaSet.cells]); (Q67 g))⟩
theorem ReplicaSet.Q2t {N : Nat} (hN : N ≤ sB) {x : ReplicaSet} (c : Q5y N x) : ReplicaSet.sm x := ⟨⟨Nat.le_trans c.2.1.1 hN, fun _ hx => Requirement.Q2t hN (c.2.1.2 _ hx)⟩, Template.Q2t hN c.2.2.1, WorkStatus.Q2t hN c.2.2.2, trivial⟩
def Q52 (N : Nat) (x : StatefulSet) : Prop := (Qgh N) x.meta_ ∧ (fun l : List Requirement => l.length ≤ N ∧ ∀ x ∈ l, (Q2y N) x) x.selector ∧ (Q60 N) x.template ∧ (Q4l N) x.status
theorem Qdk {N : Nat} {x : StatefulSet} (h : CapL N x.cells) : Q52 N x := ⟨(let g : CapL N [.str x.meta_.kind, .str x.meta_.namespace_, .str x.meta_.name, .int .i64 x.meta_.uid, .int .i64 x.meta_.version, .int .i64 x.meta_.generation, .int .i64 x.meta_.created, .bool x.meta_.deleting, .int .i64 x.meta_.deleteAt, .sl (Label.rows x.meta_.labels), .sl (Owner.rows x.meta_.owners), .sl (Qn x.meta_.finalizers), .sl (Manager.rows x.meta_.managers)] := fun p hp => h p (by simp only [List.mem_cons, List.not_mem_nil, or_false] at hp; rcases hp with rfl | rfl | rfl | rfl | rfl | rfl | rfl | rfl | rfl | rfl | rfl | rfl | rfl <;> simp [StatefulSet.cells]); (Qdf g)), (let g : CapL N [.sl (Requirement.rows x.selector)] := fun p hp => h p (by simp only [List.mem_cons, List.not_mem_nil, or_false] at hp; rcases hp with rfl <;> simp [StatefulSet.cells]); (let r := Cap.Q74 (f := Requirement.cells) (g _ List.mem_cons_self); ⟨r.1, fun x hx => (Q34 (r.2 x hx))⟩)), (let g : CapL N [.sl (Label.rows x.template.labels), .str x.template.spec.node, .int .i64 x.template.spec.priority, .int .i64 x.template.spec.restart, .int .i64 x.template.spec.grace, .sl (Container.rows x.template.spec.containers), .sl (Requirement.rows x.template.spec.nodeSelector), .sl (NodeTerm.rows x.template.spec.nodeTerms), .sl (PodTerm.rows x.template.spec.podTerms), .sl (SpreadRule.rows x.template.spec.spread), .sl (Toleration.rows x.template.spec.tolerations)] := fun p hp => h p (by simp only [List.mem_cons, List.not_mem_nil, or_false] at hp; rcases hp with rfl | rfl | rfl | rfl | rfl | rfl | rfl | rfl | rfl | rfl | rfl <;> simp [StatefulSet.cells]); (Q7j g)), (let g : CapL N [.int .i64 x.status.observed, .int .i64 x.status.replicas, .int .i64 x.status.updated, .int .i64 x.status.ready, .int .i64 x.status.available, .int .i64 x.status.progress, .bool x.status.failed] := fun p hp => h p (by simp only [List.mem_cons, List.not_mem_nil, or_false] at hp; rcases hp with rfl | rfl | rfl | rfl | rfl | rfl | rfl <;> simp [StatefulSet.cells]); (Q67 g))⟩
theorem StatefulSet.Q2t {N : Nat} (hN : N ≤ sB) {x : StatefulSet} (c : Q52 N x) : StatefulSet.sm x := ⟨⟨Nat.le_trans c.2.1.1 hN, fun _ hx => Requirement.Q2t hN (c.2.1.2 _ hx)⟩, Template.Q2t hN c.2.2.1, WorkStatus.Q2t hN c.2.2.2, trivial⟩
def Q6i (N : Nat) (x : DaemonSet) : Prop := (Qgh N) x.meta_ ∧ (Qd4 N) x.unavailable ∧ (fun l : List Requirement => l.length ≤ N ∧ ∀ x ∈ l, (Q2y N) x) x.selector ∧ (Q60 N) x.template ∧ (Q4l N) x.status
theorem Qhl {N : Nat} {x : DaemonSet} (h : CapL N x.cells) : Q6i N x := ⟨(let g : CapL N [.str x.meta_.kind, .str x.meta_.namespace_, .str x.meta_.name, .int .i64 x.meta_.uid, .int .i64 x.meta_.version, .int .i64 x.meta_.generation, .int .i64 x.meta_.created, .bool x.meta_.deleting, .int .i64 x.meta_.deleteAt, .sl (Label.rows x.meta_.labels), .sl (Owner.rows x.meta_.owners), .sl (Qn x.meta_.finalizers), .sl (Manager.rows x.meta_.managers)] := fun p hp => h p (by simp only [List.mem_cons, List.not_mem_nil, or_false] at hp; rcases hp with rfl | rfl | rfl | rfl | rfl | rfl | rfl | rfl | rfl | rfl | rfl | rfl | rfl <;> simp [DaemonSet.cells]); (Qdf g)), (let g : CapL N [.bool x.unavailable.percent, .int .i64 x.unavailable.n] := fun p hp => h p (by simp only [List.mem_cons, List.not_mem_nil, or_false] at hp; rcases hp with rfl | rfl <;> simp [DaemonSet.cells]); (Quy g)), (let g : CapL N [.sl (Requirement.rows x.selector)] := fun p hp => h p (by simp only [List.mem_cons, List.not_mem_nil, or_false] at hp; rcases hp with rfl <;> simp [DaemonSet.cells]); (let r := Cap.Q74 (f := Requirement.cells) (g _ List.mem_cons_self); ⟨r.1, fun x hx => (Q34 (r.2 x hx))⟩)), (let g : CapL N [.sl (Label.rows x.template.labels), .str x.template.spec.node, .int .i64 x.template.spec.priority, .int .i64 x.template.spec.restart, .int .i64 x.template.spec.grace, .sl (Container.rows x.template.spec.containers), .sl (Requirement.rows x.template.spec.nodeSelector), .sl (NodeTerm.rows x.template.spec.nodeTerms), .sl (PodTerm.rows x.template.spec.podTerms), .sl (SpreadRule.rows x.template.spec.spread), .sl (Toleration.rows x.template.spec.tolerations)] := fun p hp => h p (by simp only [List.mem_cons, List.not_mem_nil, or_false] at hp; rcases hp with rfl | rfl | rfl | rfl | rfl | rfl | rfl | rfl | rfl | rfl | rfl <;> simp [DaemonSet.cells]); (Q7j g)), (let g : CapL N [.int .i64 x.status.observed, .int .i64 x.status.replicas, .int .i64 x.status.updated, .int .i64 x.status.ready, .int .i64 x.status.available, .int .i64 x.status.progress, .bool x.status.failed] := fun p hp => h p (by simp only [List.mem_cons, List.not_mem_nil, or_false] at hp; rcases hp with rfl | rfl | rfl | rfl | rfl | rfl | rfl <;> simp [DaemonSet.cells]); (Q67 g))⟩
theorem DaemonSet.Q2t {N : Nat} (hN : N ≤ sB) {x : DaemonSet} (c : Q6i N x) : DaemonSet.sm x := ⟨Amount.Q2t hN c.2.1, ⟨Nat.le_trans c.2.2.1.1 hN, fun _ hx => Requirement.Q2t hN (c.2.2.1.2 _ hx)⟩, Template.Q2t hN c.2.2.2.1, WorkStatus.Q2t hN c.2.2.2.2, trivial⟩
end Go.Proofs.YtimjjohlpnkacaaGreat
end

section
/- What the law WorkcodecSets computes (printed by a program). -/
namespace Go.Proofs.YtimjjohlpnkacaaGreat
open Go.Pv
def s_K5 (p0 : ReplicaSet) (p1 : StatefulSet) (p2 : DaemonSet) : Bool :=
 bif (s_K8 (Q30 p0)) then
  bif (s_K8 (Q35 p1)) then
   bif (s_K8 (Q39 p2)) then
    bif (sEq (ReplicaSet.at p0).meta_.kind Qf) then
     bif (sEq (StatefulSet.at p1).meta_.kind Qc) then
      bif (sEq (DaemonSet.at p2).meta_.kind Qd) then
       true
      else
       false
     else
      false
    else
     false
   else
    true
  else
   true
 else
  true
def c_K5 (p0 : ReplicaSet) (p1 : StatefulSet) (p2 : DaemonSet) : En := .call 8 [.agg (ReplicaSet.cells p0), .agg (StatefulSet.cells p1), .agg (DaemonSet.cells p2)] []
def a_K5 (p0 : ReplicaSet) (p1 : StatefulSet) (p2 : DaemonSet) : Rs := .ret (.bool (s_K5 p0 p1 p2)) []
def H_K5 (p0 : ReplicaSet) (p1 : StatefulSet) (p2 : DaemonSet) : Prop := (Q19d p0) ∧ (Q19e p1) ∧ (Q19c p2) ∧ (H_K8 (Q30 p0)) ∧ ((s_K8 (Q30 p0)) = true → H_K8 (Q35 p1)) ∧ ((s_K8 (Q30 p0)) = true → (s_K8 (Q35 p1)) = true → H_K8 (Q39 p2)) ∧ ((s_K8 (Q30 p0)) = true → (s_K8 (Q35 p1)) = true → (s_K8 (Q39 p2)) = true → Q1db p0) ∧ ((s_K8 (Q30 p0)) = true → (s_K8 (Q35 p1)) = true → (s_K8 (Q39 p2)) = true → (Qep p0) = (Q30 p0)) ∧ ((s_K8 (Q30 p0)) = true → (s_K8 (Q35 p1)) = true → (s_K8 (Q39 p2)) = true → Qih (Qep p0)) ∧ ((s_K8 (Q30 p0)) = true → (s_K8 (Q35 p1)) = true → (s_K8 (Q39 p2)) = true → Q1dc p1) ∧ ((s_K8 (Q30 p0)) = true → (s_K8 (Q35 p1)) = true → (s_K8 (Q39 p2)) = true → (Qeq p1) = (Q35 p1)) ∧ ((s_K8 (Q30 p0)) = true → (s_K8 (Q35 p1)) = true → (s_K8 (Q39 p2)) = true → Qih (Qeq p1)) ∧ ((s_K8 (Q30 p0)) = true → (s_K8 (Q35 p1)) = true → (s_K8 (Q39 p2)) = true → Q1da p2) ∧ ((s_K8 (Q30 p0)) = true → (s_K8 (Q35 p1)) = true → (s_K8 (Q39 p2)) = true → (Qeo p2) = (Q39 p2)) ∧ ((s_K8 (Q30 p0)) = true → (s_K8 (Q35 p1)) = true → (s_K8 (Q39 p2)) = true → Qih (Qeo p2)) ∧ ((s_K8 (Q30 p0)) = true → (s_K8 (Q35 p1)) = true → (s_K8 (Q39 p2)) = true → Q1de (Q30 p0)) ∧ ((s_K8 (Q30 p0)) = true → (s_K8 (Q35 p1)) = true → (s_K8 (Q39 p2)) = true → Q1cn (Q30 p0) = ((ReplicaSet.at p0), 0)) ∧ ((s_K8 (Q30 p0)) = true → (s_K8 (Q35 p1)) = true → (s_K8 (Q39 p2)) = true → Q1df (Q35 p1)) ∧ ((s_K8 (Q30 p0)) = true → (s_K8 (Q35 p1)) = true → (s_K8 (Q39 p2)) = true → Q1co (Q35 p1) = ((StatefulSet.at p1), 0)) ∧ ((s_K8 (Q30 p0)) = true → (s_K8 (Q35 p1)) = true → (s_K8 (Q39 p2)) = true → Q1dd (Q39 p2)) ∧ ((s_K8 (Q30 p0)) = true → (s_K8 (Q35 p1)) = true → (s_K8 (Q39 p2)) = true → Q1cm (Q39 p2) = ((DaemonSet.at p2), 0)) ∧ ((s_K8 (Q30 p0)) = true → (s_K8 (Q35 p1)) = true → (s_K8 (Q39 p2)) = true → (sEq (ReplicaSet.at p0).meta_.kind Qf) = true → (sEq (StatefulSet.at p1).meta_.kind Qc) = true → (sEq (DaemonSet.at p2).meta_.kind Qd) = true → Q19d (ReplicaSet.at p0)) ∧ ((s_K8 (Q30 p0)) = true → (s_K8 (Q35 p1)) = true → (s_K8 (Q39 p2)) = true → (sEq (ReplicaSet.at p0).meta_.kind Qf) = true → (sEq (StatefulSet.at p1).meta_.kind Qc) = true → (sEq (DaemonSet.at p2).meta_.kind Qd) = true → (Q30 (ReplicaSet.at p0)) = (Q30 p0)) ∧ ((s_K8 (Q30 p0)) = true → (s_K8 (Q35 p1)) = true → (s_K8 (Q39 p2)) = true → (sEq (ReplicaSet.at p0).meta_.kind Qf) = true → (sEq (StatefulSet.at p1).meta_.kind Qc) = true → (sEq (DaemonSet.at p2).meta_.kind Qd) = true → Qih (Q30 (ReplicaSet.at p0))) ∧ ((s_K8 (Q30 p0)) = true → (s_K8 (Q35 p1)) = true → (s_K8 (Q39 p2)) = true → (sEq (ReplicaSet.at p0).meta_.kind Qf) = true → (sEq (StatefulSet.at p1).meta_.kind Qc) = true → (sEq (DaemonSet.at p2).meta_.kind Qd) = true → Q19e (StatefulSet.at p1)) ∧ ((s_K8 (Q30 p0)) = true → (s_K8 (Q35 p1)) = true → (s_K8 (Q39 p2)) = true → (sEq (ReplicaSet.at p0).meta_.kind Qf) = true → (sEq (StatefulSet.at p1).meta_.kind Qc) = true → (sEq (DaemonSet.at p2).meta_.kind Qd) = true → (Q35 (StatefulSet.at p1)) = (Q35 p1)) ∧ ((s_K8 (Q30 p0)) = true → (s_K8 (Q35 p1)) = true → (s_K8 (Q39 p2)) = true → (sEq (ReplicaSet.at p0).meta_.kind Qf) = true → (sEq (StatefulSet.at p1).meta_.kind Qc) = true → (sEq (DaemonSet.at p2).meta_.kind Qd) = true → Qih (Q35 (StatefulSet.at p1))) ∧ ((s_K8 (Q30 p0)) = true → (s_K8 (Q35 p1)) = true → (s_K8 (Q39 p2)) = true → (sEq (ReplicaSet.at p0).meta_.kind Qf) = true → (sEq (StatefulSet.at p1).meta_.kind Qc) = true → (sEq (DaemonSet.at p2).meta_.kind Qd) = true → Q19c (DaemonSet.at p2)) ∧ ((s_K8 (Q30 p0)) = true → (s_K8 (Q35 p1)) = true → (s_K8 (Q39 p2)) = true → (sEq (ReplicaSet.at p0).meta_.kind Qf) = true → (sEq (StatefulSet.at p1).meta_.kind Qc) = true → (sEq (DaemonSet.at p2).meta_.kind Qd) = true → (Q39 (DaemonSet.at p2)) = (Q39 p2)) ∧ ((s_K8 (Q30 p0)) = true → (s_K8 (Q35 p1)) = true → (s_K8 (Q39 p2)) = true → (sEq (ReplicaSet.at p0).meta_.kind Qf) = true → (sEq (StatefulSet.at p1).meta_.kind Qc) = true → (sEq (DaemonSet.at p2).meta_.kind Qd) = true → Qih (Q39 (DaemonSet.at p2))) ∧ True
theorem Q1rc (p0 : ReplicaSet) (p1 : StatefulSet) (p2 : DaemonSet) (H : H_K5 p0 p1 p2) (h0 : (s_K8 (Q30 p0)) = true) : Q7 G (c_K5 p0 p1 p2) (.ret (.bool (bif (s_K8 (Q35 p1)) then
   bif (s_K8 (Q39 p2)) then
     bif (sEq (ReplicaSet.at p0).meta_.kind Qf) then
       bif (sEq (StatefulSet.at p1).meta_.kind Qc) then
        bif (sEq (DaemonSet.at p2).meta_.kind Qd) then
         true
        else
         false
       else
        false
     else
       false
   else
     true
 else
   true)) []) := by
 cases h1 : (s_K8 (Q35 p1)) with
 | true =>
  cases h2 : (s_K8 (Q39 p2)) with
  | true =>
   cases h3 : (sEq (ReplicaSet.at p0).meta_.kind Qf) with
   | true =>
    cases h4 : (sEq (StatefulSet.at p1).meta_.kind Qc) with
    | true =>
     cases h5 : (sEq (DaemonSet.at p2).meta_.kind Qd) with
     | true =>
      exact Q8 (fn := Ir.K5) rfl VOK.nil [hP 75 (dec (!(sEq (ReplicaSet.at p0).meta_.kind Qf)) false (by rw [h3]; rfl)), hP 4 (dec (!(sEq (StatefulSet.at p1).meta_.kind Qc)) false (by rw [h4]; rfl)), hP 5 (dec (!(sEq (DaemonSet.at p2).meta_.kind Qd)) false (by rw [h5]; rfl))] [aN (Qzp p0 (H.1)), aN (Qzq p1 (H.2.1)), aN (Qzo p2 (H.2.2.1)), aB (t_K8 (Q30 p0) (H.2.2.2.1)) h0, aB (t_K8 (Q35 p1) (H.2.2.2.2.1 h0)) h1, aB (t_K8 (Q39 p2) (H.2.2.2.2.2.1 h0 h1)) h2, aN (Q1fi p0 (H.2.2.2.2.2.2.1 h0 h1 h2)), aN (Q3p (c := fun y => .call 17 [.agg (Object.cells (Qep p0)), .agg (Object.cells y)] []) (H.2.2.2.2.2.2.2.1 h0 h1 h2) (Qbn (Qep p0) (H.2.2.2.2.2.2.2.2.1 h0 h1 h2))), aN (Q1fj p1 (H.2.2.2.2.2.2.2.2.2.1 h0 h1 h2)), aN (Q3p (c := fun y => .call 17 [.agg (Object.cells (Qeq p1)), .agg (Object.cells y)] []) (H.2.2.2.2.2.2.2.2.2.2.1 h0 h1 h2) (Qbn (Qeq p1) (H.2.2.2.2.2.2.2.2.2.2.2.1 h0 h1 h2))), aN (Q1fh p2 (H.2.2.2.2.2.2.2.2.2.2.2.2.1 h0 h1 h2)), aN (Q3p (c := fun y => .call 17 [.agg (Object.cells (Qeo p2)), .agg (Object.cells y)] []) (H.2.2.2.2.2.2.2.2.2.2.2.2.2.1 h0 h1 h2) (Qbn (Qeo p2) (H.2.2.2.2.2.2.2.2.2.2.2.2.2.2.1 h0 h1 h2))), aN (toldOf (Q1fl (Q30 p0) (H.2.2.2.2.2.2.2.2.2.2.2.2.2.2.2.1 h0 h1 h2)) (congrArg (fun z : ReplicaSet × Int => Rs.ret (.tup [.agg (ReplicaSet.cells z.1), .int .i64 z.2]) []) (H.2.2.2.2.2.2.2.2.2.2.2.2.2.2.2.2.1 h0 h1 h2))), aN (toldOf (Q1fm (Q35 p1) (H.2.2.2.2.2.2.2.2.2.2.2.2.2.2.2.2.2.1 h0 h1 h2)) (congrArg (fun z : StatefulSet × Int => Rs.ret (.tup [.agg (StatefulSet.cells z.1), .int .i64 z.2]) []) (H.2.2.2.2.2.2.2.2.2.2.2.2.2.2.2.2.2.2.1 h0 h1 h2))), aN (toldOf (Q1fk (Q39 p2) (H.2.2.2.2.2.2.2.2.2.2.2.2.2.2.2.2.2.2.2.1 h0 h1 h2)) (congrArg (fun z : DaemonSet × Int => Rs.ret (.tup [.agg (DaemonSet.cells z.1), .int .i64 z.2]) []) (H.2.2.2.2.2.2.2.2.2.2.2.2.2.2.2.2.2.2.2.2.1 h0 h1 h2))), aN (Qzp (ReplicaSet.at p0) (H.2.2.2.2.2.2.2.2.2.2.2.2.2.2.2.2.2.2.2.2.2.1 h0 h1 h2 h3 h4 h5)), aN (Q3p (c := fun y => .call 17 [.agg (Object.cells (Q30 (ReplicaSet.at p0))), .agg (Object.cells y)] []) (H.2.2.2.2.2.2.2.2.2.2.2.2.2.2.2.2.2.2.2.2.2.2.1 h0 h1 h2 h3 h4 h5) (Qbn (Q30 (ReplicaSet.at p0)) (H.2.2.2.2.2.2.2.2.2.2.2.2.2.2.2.2.2.2.2.2.2.2.2.1 h0 h1 h2 h3 h4 h5))), aN (Qzq (StatefulSet.at p1) (H.2.2.2.2.2.2.2.2.2.2.2.2.2.2.2.2.2.2.2.2.2.2.2.2.1 h0 h1 h2 h3 h4 h5)), aN (Q3p (c := fun y => .call 17 [.agg (Object.cells (Q35 (StatefulSet.at p1))), .agg (Object.cells y)] []) (H.2.2.2.2.2.2.2.2.2.2.2.2.2.2.2.2.2.2.2.2.2.2.2.2.2.1 h0 h1 h2 h3 h4 h5) (Qbn (Q35 (StatefulSet.at p1)) (H.2.2.2.2.2.2.2.2.2.2.2.2.2.2.2.2.2.2.2.2.2.2.2.2.2.2.1 h0 h1 h2 h3 h4 h5))), aN (Qzo (DaemonSet.at p2) (H.2.2.2.2.2.2.2.2.2.2.2.2.2.2.2.2.2.2.2.2.2.2.2.2.2.2.2.1 h0 h1 h2 h3 h4 h5)), aN (Q3p (c := fun y => .call 17 [.agg (Object.cells (Q39 (DaemonSet.at p2))), .agg (Object.cells y)] []) (H.2.2.2.2.2.2.2.2.2.2.2.2.2.2.2.2.2.2.2.2.2.2.2.2.2.2.2.2.1 h0 h1 h2 h3 h4 h5) (Qbn (Q39 (DaemonSet.at p2)) (H.2.2.2.2.2.2.2.2.2.2.2.2.2.2.2.2.2.2.2.2.2.2.2.2.2.2.2.2.2.1 h0 h1 h2 h3 h4 h5))), aN t_K6] (by kernel_rfl)
     | false =>
      exact Q8 (fn := Ir.K5) rfl VOK.nil [hP 75 (dec (!(sEq (ReplicaSet.at p0).meta_.kind Qf)) false (by rw [h3]; rfl)), hP 4 (dec (!(sEq (StatefulSet.at p1).meta_.kind Qc)) false (by rw [h4]; rfl)), hP 5 (dec (!(sEq (DaemonSet.at p2).meta_.kind Qd)) true (by rw [h5]; rfl))] [aN (Qzp p0 (H.1)), aN (Qzq p1 (H.2.1)), aN (Qzo p2 (H.2.2.1)), aB (t_K8 (Q30 p0) (H.2.2.2.1)) h0, aB (t_K8 (Q35 p1) (H.2.2.2.2.1 h0)) h1, aB (t_K8 (Q39 p2) (H.2.2.2.2.2.1 h0 h1)) h2, aN (Q1fi p0 (H.2.2.2.2.2.2.1 h0 h1 h2)), aN (Q3p (c := fun y => .call 17 [.agg (Object.cells (Qep p0)), .agg (Object.cells y)] []) (H.2.2.2.2.2.2.2.1 h0 h1 h2) (Qbn (Qep p0) (H.2.2.2.2.2.2.2.2.1 h0 h1 h2))), aN (Q1fj p1 (H.2.2.2.2.2.2.2.2.2.1 h0 h1 h2)), aN (Q3p (c := fun y => .call 17 [.agg (Object.cells (Qeq p1)), .agg (Object.cells y)] []) (H.2.2.2.2.2.2.2.2.2.2.1 h0 h1 h2) (Qbn (Qeq p1) (H.2.2.2.2.2.2.2.2.2.2.2.1 h0 h1 h2))), aN (Q1fh p2 (H.2.2.2.2.2.2.2.2.2.2.2.2.1 h0 h1 h2)), aN (Q3p (c := fun y => .call 17 [.agg (Object.cells (Qeo p2)), .agg (Object.cells y)] []) (H.2.2.2.2.2.2.2.2.2.2.2.2.2.1 h0 h1 h2) (Qbn (Qeo p2) (H.2.2.2.2.2.2.2.2.2.2.2.2.2.2.1 h0 h1 h2))), aN (toldOf (Q1fl (Q30 p0) (H.2.2.2.2.2.2.2.2.2.2.2.2.2.2.2.1 h0 h1 h2)) (congrArg (fun z : ReplicaSet × Int => Rs.ret (.tup [.agg (ReplicaSet.cells z.1), .int .i64 z.2]) []) (H.2.2.2.2.2.2.2.2.2.2.2.2.2.2.2.2.1 h0 h1 h2))), aN (toldOf (Q1fm (Q35 p1) (H.2.2.2.2.2.2.2.2.2.2.2.2.2.2.2.2.2.1 h0 h1 h2)) (congrArg (fun z : StatefulSet × Int => Rs.ret (.tup [.agg (StatefulSet.cells z.1), .int .i64 z.2]) []) (H.2.2.2.2.2.2.2.2.2.2.2.2.2.2.2.2.2.2.1 h0 h1 h2))), aN (toldOf (Q1fk (Q39 p2) (H.2.2.2.2.2.2.2.2.2.2.2.2.2.2.2.2.2.2.2.1 h0 h1 h2)) (congrArg (fun z : DaemonSet × Int => Rs.ret (.tup [.agg (DaemonSet.cells z.1), .int .i64 z.2]) []) (H.2.2.2.2.2.2.2.2.2.2.2.2.2.2.2.2.2.2.2.2.1 h0 h1 h2)))] (by kernel_rfl)
    | false =>
     exact Q8 (fn := Ir.K5) rfl VOK.nil [hP 75 (dec (!(sEq (ReplicaSet.at p0).meta_.kind Qf)) false (by rw [h3]; rfl)), hP 4 (dec (!(sEq (StatefulSet.at p1).meta_.kind Qc)) true (by rw [h4]; rfl))] [aN (Qzp p0 (H.1)), aN (Qzq p1 (H.2.1)), aN (Qzo p2 (H.2.2.1)), aB (t_K8 (Q30 p0) (H.2.2.2.1)) h0, aB (t_K8 (Q35 p1) (H.2.2.2.2.1 h0)) h1, aB (t_K8 (Q39 p2) (H.2.2.2.2.2.1 h0 h1)) h2, aN (Q1fi p0 (H.2.2.2.2.2.2.1 h0 h1 h2)), aN (Q3p (c := fun y => .call 17 [.agg (Object.cells (Qep p0)), .agg (Object.cells y)] []) (H.2.2.2.2.2.2.2.1 h0 h1 h2) (Qbn (Qep p0) (H.2.2.2.2.2.2.2.2.1 h0 h1 h2))), aN (Q1fj p1 (H.2.2.2.2.2.2.2.2.2.1 h0 h1 h2)), aN (Q3p (c := fun y => .call 17 [.agg (Object.cells (Qeq p1)), .agg (Object.cells y)] []) (H.2.2.2.2.2.2.2.2.2.2.1 h0 h1 h2) (Qbn (Qeq p1) (H.2.2.2.2.2.2.2.2.2.2.2.1 h0 h1 h2))), aN (Q1fh p2 (H.2.2.2.2.2.2.2.2.2.2.2.2.1 h0 h1 h2)), aN (Q3p (c := fun y => .call 17 [.agg (Object.cells (Qeo p2)), .agg (Object.cells y)] []) (H.2.2.2.2.2.2.2.2.2.2.2.2.2.1 h0 h1 h2) (Qbn (Qeo p2) (H.2.2.2.2.2.2.2.2.2.2.2.2.2.2.1 h0 h1 h2))), aN (toldOf (Q1fl (Q30 p0) (H.2.2.2.2.2.2.2.2.2.2.2.2.2.2.2.1 h0 h1 h2)) (congrArg (fun z : ReplicaSet × Int => Rs.ret (.tup [.agg (ReplicaSet.cells z.1), .int .i64 z.2]) []) (H.2.2.2.2.2.2.2.2.2.2.2.2.2.2.2.2.1 h0 h1 h2))), aN (toldOf (Q1fm (Q35 p1) (H.2.2.2.2.2.2.2.2.2.2.2.2.2.2.2.2.2.1 h0 h1 h2)) (congrArg (fun z : StatefulSet × Int => Rs.ret (.tup [.agg (StatefulSet.cells z.1), .int .i64 z.2]) []) (H.2.2.2.2.2.2.2.2.2.2.2.2.2.2.2.2.2.2.1 h0 h1 h2))), aN (toldOf (Q1fk (Q39 p2) (H.2.2.2.2.2.2.2.2.2.2.2.2.2.2.2.2.2.2.2.1 h0 h1 h2)) (congrArg (fun z : DaemonSet × Int => Rs.ret (.tup [.agg (DaemonSet.cells z.1), .int .i64 z.2]) []) (H.2.2.2.2.2.2.2.2.2.2.2.2.2.2.2.2.2.2.2.2.1 h0 h1 h2)))] (by kernel_rfl)
   | false =>
    exact Q8 (fn := Ir.K5) rfl VOK.nil [hP 75 (dec (!(sEq (ReplicaSet.at p0).meta_.kind Qf)) true (by rw [h3]; rfl))] [aN (Qzp p0 (H.1)), aN (Qzq p1 (H.2.1)), aN (Qzo p2 (H.2.2.1)), aB (t_K8 (Q30 p0) (H.2.2.2.1)) h0, aB (t_K8 (Q35 p1) (H.2.2.2.2.1 h0)) h1, aB (t_K8 (Q39 p2) (H.2.2.2.2.2.1 h0 h1)) h2, aN (Q1fi p0 (H.2.2.2.2.2.2.1 h0 h1 h2)), aN (Q3p (c := fun y => .call 17 [.agg (Object.cells (Qep p0)), .agg (Object.cells y)] []) (H.2.2.2.2.2.2.2.1 h0 h1 h2) (Qbn (Qep p0) (H.2.2.2.2.2.2.2.2.1 h0 h1 h2))), aN (Q1fj p1 (H.2.2.2.2.2.2.2.2.2.1 h0 h1 h2)), aN (Q3p (c := fun y => .call 17 [.agg (Object.cells (Qeq p1)), .agg (Object.cells y)] []) (H.2.2.2.2.2.2.2.2.2.2.1 h0 h1 h2) (Qbn (Qeq p1) (H.2.2.2.2.2.2.2.2.2.2.2.1 h0 h1 h2))), aN (Q1fh p2 (H.2.2.2.2.2.2.2.2.2.2.2.2.1 h0 h1 h2)), aN (Q3p (c := fun y => .call 17 [.agg (Object.cells (Qeo p2)), .agg (Object.cells y)] []) (H.2.2.2.2.2.2.2.2.2.2.2.2.2.1 h0 h1 h2) (Qbn (Qeo p2) (H.2.2.2.2.2.2.2.2.2.2.2.2.2.2.1 h0 h1 h2))), aN (toldOf (Q1fl (Q30 p0) (H.2.2.2.2.2.2.2.2.2.2.2.2.2.2.2.1 h0 h1 h2)) (congrArg (fun z : ReplicaSet × Int => Rs.ret (.tup [.agg (ReplicaSet.cells z.1), .int .i64 z.2]) []) (H.2.2.2.2.2.2.2.2.2.2.2.2.2.2.2.2.1 h0 h1 h2))), aN (toldOf (Q1fm (Q35 p1) (H.2.2.2.2.2.2.2.2.2.2.2.2.2.2.2.2.2.1 h0 h1 h2)) (congrArg (fun z : StatefulSet × Int => Rs.ret (.tup [.agg (StatefulSet.cells z.1), .int .i64 z.2]) []) (H.2.2.2.2.2.2.2.2.2.2.2.2.2.2.2.2.2.2.1 h0 h1 h2))), aN (toldOf (Q1fk (Q39 p2) (H.2.2.2.2.2.2.2.2.2.2.2.2.2.2.2.2.2.2.2.1 h0 h1 h2)) (congrArg (fun z : DaemonSet × Int => Rs.ret (.tup [.agg (DaemonSet.cells z.1), .int .i64 z.2]) []) (H.2.2.2.2.2.2.2.2.2.2.2.2.2.2.2.2.2.2.2.2.1 h0 h1 h2)))] (by kernel_rfl)
  | false =>
   exact Q8 (fn := Ir.K5) rfl VOK.nil [] [aN (Qzp p0 (H.1)), aN (Qzq p1 (H.2.1)), aN (Qzo p2 (H.2.2.1)), aB (t_K8 (Q30 p0) (H.2.2.2.1)) h0, aB (t_K8 (Q35 p1) (H.2.2.2.2.1 h0)) h1, aB (t_K8 (Q39 p2) (H.2.2.2.2.2.1 h0 h1)) h2, aN t_K6] (by kernel_rfl)
 | false =>
  exact Q8 (fn := Ir.K5) rfl VOK.nil [] [aN (Qzp p0 (H.1)), aN (Qzq p1 (H.2.1)), aN (Qzo p2 (H.2.2.1)), aB (t_K8 (Q30 p0) (H.2.2.2.1)) h0, aB (t_K8 (Q35 p1) (H.2.2.2.2.1 h0)) h1, aN t_K6] (by kernel_rfl)
theorem Q1rd (p0 : ReplicaSet) (p1 : StatefulSet) (p2 : DaemonSet) (H : H_K5 p0 p1 p2) (h0 : (s_K8 (Q30 p0)) = false) : Q7 G (c_K5 p0 p1 p2) (.ret (.bool (true)) []) := by
 exact Q8 (fn := Ir.K5) rfl VOK.nil [] [aN (Qzp p0 (H.1)), aN (Qzq p1 (H.2.1)), aN (Qzo p2 (H.2.2.1)), aB (t_K8 (Q30 p0) (H.2.2.2.1)) h0, aN t_K6] (by kernel_rfl)
theorem t_K5 (p0 : ReplicaSet) (p1 : StatefulSet) (p2 : DaemonSet) (H : H_K5 p0 p1 p2) : Q7 G (c_K5 p0 p1 p2) (a_K5 p0 p1 p2) := by
 unfold a_K5 s_K5
 cases h0 : (s_K8 (Q30 p0)) with
 | true =>
  exact Q1rc p0 p1 p2 H h0
 | false =>
  exact Q1rd p0 p1 p2 H h0
def tysWorkcodecSets : List Ty := [Qc9, Qas, Qe4]
theorem pureWorkcodecSets {N : Nat} (hp : ∀ (p0 : ReplicaSet) (p1 : StatefulSet) (p2 : DaemonSet), Q8h p0 → Q7i p1 → Q94 p2 → (Q5y N) p0 → (Q52 N) p1 → (Q6i N) p2 → H_K5 p0 p1 p2 ∧ s_K5 p0 p1 p2 = true) : ∀ qs, Q198 Γ N tysWorkcodecSets qs → ∃ n, runs G n (.call 8 qs []) = some (.ret (.bool true) []) := by
  intro qs h
  cases qs with
  | nil => cases h
  | cons q0 qs =>
  obtain ⟨h0, h⟩ := h
  cases qs with
  | nil => cases h
  | cons q1 qs =>
  obtain ⟨h1, h⟩ := h
  cases qs with
  | nil => cases h
  | cons q2 qs =>
  obtain ⟨h2, h⟩ := h
  cases qs with
  | cons _ _ => cases h
  | nil =>
  obtain ⟨c0, rfl, g0, b0⟩ := h0.agg rfl
  obtain ⟨p0, rfl, k0⟩ := (Qk2 g0)
  obtain ⟨c1, rfl, g1, b1⟩ := h1.agg rfl
  obtain ⟨p1, rfl, k1⟩ := (Qej g1)
  obtain ⟨c2, rfl, g2, b2⟩ := h2.agg rfl
  obtain ⟨p2, rfl, k2⟩ := (Qn0 g2)
  have e := hp p0 p1 p2 k0 k1 k2 (Qeh b0) (Qdk b1) (Qhl b2)
  have t := t_K5 p0 p1 p2 e.1
  unfold a_K5 at t
  rw [e.2] at t
  exact t
end Go.Proofs.YtimjjohlpnkacaaGreat
end

section
/- What is small by the reference's count; what is demanded of metadata and objects (printed by a program). -/
namespace Go.Proofs.YtimjjohlpnkacaaGreat
open Go.Pv
def cv : Qth → Int
  | .k0 y => y
  | .k1 => -1
theorem Q12l (p : Val) (d : Int) (l : List Val) (i : Nat) {a : Int} (h : ¬ 0 ≤ a) : Q3l p d l i a = a := by
  cases l with
  | nil => rw [Q3l]
  | cons x l => rw [Q3l, show decide (0 ≤ a) = false by simpa using h, cond_false]
theorem Qtp (p : Val) (d : Int) (l : List Fld) (i : Nat) {a : Int} (h : ¬ 0 ≤ a) : cv (Q3x p d l i a) = a := by
  cases l with
  | nil => rw [Q3x]; rfl
  | cons x l => rw [Q3x, show decide (0 ≤ a) = false by simpa using h, cond_false]; rfl
def Q1h9 (v : Val) : Prop := ∀ n d, n ≤ 1000 → 0 ≤ Q92 v n d → Val.Sm 1000 v ∧ Q92 v n d + 1 ≤ n
theorem Q12m (p : Val) (d : Int) : ∀ (l : List Val) (i : Nat) (a : Int), a ≤ 1000 → (∀ x ∈ l, Q1h9 x) → 0 ≤ Q3l p d l i a → (∀ x ∈ l, Val.Sm 1000 x) ∧ Q3l p d l i a + (l.length : Int) ≤ a
  | [], i, a, _, _, _ => by
    rw [Q3l]
    exact ⟨fun _ h => (by cases h), by simp⟩
  | x :: l, i, a, ha, hx, h => by
    by_cases c : 0 ≤ a
    · rw [Q3l, show decide (0 ≤ a) = true by simpa using c, cond_true] at h ⊢
      have k : 0 ≤ Q92 x a (w64 (d - 1)) := by
        apply Decidable.byContradiction
        intro hn
        rw [Q12l p d l _ hn] at h
        exact hn h
      have h1 := hx x List.mem_cons_self a _ ha k
      have h2 := Q12m p d l (i + 1) _ (by omega) (fun y hy => hx y (List.mem_cons_of_mem _ hy)) h
      refine ⟨List.forall_mem_cons.2 ⟨h1.1, h2.1⟩, ?_⟩
      have := h1.2
      have := h2.2
      rw [List.length_cons]
      omega
    · rw [Q12l p d _ i c] at h
      exact absurd h c
theorem Q12n (p : Val) (d : Int) : ∀ (l : List Fld) (i : Nat) (a : Int), a ≤ 1000 → (∀ x ∈ l, Q1h9 x.v) → 0 ≤ cv (Q3x p d l i a) → (∀ x ∈ l, Val.Sm 1000 x.v) ∧ cv (Q3x p d l i a) + (l.length : Int) ≤ a
  | [], i, a, _, _, _ => by
    rw [Q3x]
    exact ⟨fun _ h => (by cases h), by simp [cv]⟩
  | x :: l, i, a, ha, hx, h => by
    by_cases c : 0 ≤ a
    · rw [Q3x, show decide (0 ≤ a) = true by simpa using c, cond_true] at h ⊢
      cases e : decide (1000 < (ByteArray.size x.name : Int)) with
      | true =>
        rw [e] at h
        exact absurd (show (0 : Int) ≤ -1 from h) (by decide)
      | false =>
        rw [e, cond_false] at h
        rw [cond_false]
        have k : 0 ≤ Q92 x.v a (w64 (d - 1)) := by
          apply Decidable.byContradiction
          intro hn
          rw [Qtp p d l _ hn] at h
          exact hn h
        have h1 := hx x List.mem_cons_self a _ ha k
        have h2 := Q12n p d l (i + 1) _ (by omega) (fun y hy => hx y (List.mem_cons_of_mem _ hy)) h
        refine ⟨List.forall_mem_cons.2 ⟨h1.1, h2.1⟩, ?_⟩
        have := h1.2
        have := h2.2
        rw [List.length_cons]
        omega
    · rw [Qtp p d _ i c] at h
      exact absurd h c
theorem Q1dr : ∀ v, Q1h9 v := vind fun v h1 h2 n d hn h => by
  rw [Q92] at h ⊢
  cases c1 : decide (n ≤ 0) with
  | true => rw [c1] at h; exact absurd (show (0 : Int) ≤ -1 from h) (by decide)
  | false =>
    cases c2 : decide (d ≤ 0) with
    | true => rw [c1, c2] at h; exact absurd (show (0 : Int) ≤ -1 from h) (by decide)
    | false =>
      cases c3 : decide (1000 < (ByteArray.size v.s : Int)) with
      | true => rw [c1, c2, c3] at h; exact absurd (show (0 : Int) ≤ -1 from h) (by decide)
      | false =>
        have e1 := of_decide_eq_false c1
        rw [c1, c2, c3, cond_false, cond_false, cond_false, Qzs (by omega)] at h
        rw [cond_false, cond_false, cond_false, Qzs (by omega)]
        change 0 ≤ cv (Q3x v d v.fields 0 (Q3l v d v.list 0 (n - 1))) at h
        change _ ∧ cv (Q3x v d v.fields 0 (Q3l v d v.list 0 (n - 1))) + 1 ≤ n
        have k : 0 ≤ Q3l v d v.list 0 (n - 1) := by
          apply Decidable.byContradiction
          intro hn
          rw [Qtp v d _ _ hn] at h
          exact hn h
        have g0 := Q12m v d v.list 0 (n - 1) (by omega) h1 k
        have g1 := Q12n v d v.fields 0 _ (by have := g0.2; omega) h2 h
        have := g0.2
        have := g1.2
        exact ⟨.mk _ (by omega) (by omega) g0.1 g1.1, by omega⟩
theorem Q14i {v : Val} {n : Int} (hn : n ≤ 1000) (h : Qun v n = true) : Val.Sm 1000 v := (Q1dr v n n hn (of_decide_eq_true h)).1
theorem Qtz {o : Object} (h : s_K8 o = true) : Val.Sm 1000 o.spec ∧ Val.Sm 1000 o.status := by
  unfold s_K8 at h
  cases c1 : decide (40 < ((List.length o.meta_.labels) : Int)) with
  | true => rw [c1] at h; cases h
  | false =>
    cases c2 : decide (40 < ((List.length o.meta_.owners) : Int)) with
    | true => rw [c1, c2] at h; cases h
    | false =>
      cases c3 : decide (40 < ((List.length o.meta_.finalizers) : Int)) with
      | true => rw [c1, c2, c3] at h; cases h
      | false =>
        cases c4 : decide (40 < ((List.length o.meta_.managers) : Int)) with
        | true => rw [c1, c2, c3, c4] at h; cases h
        | false =>
          rw [c1, c2, c3, c4, cond_false, cond_false, cond_false, cond_false] at h
          cases c5 : Qb4 o o.meta_.managers 0 with
          | k1 => rw [c5] at h; cases h
          | k0 =>
            rw [c5] at h
            cases c6 : Qun o.spec 900 with
            | false =>
              simp only [c6, cond_false] at h
              cases h
            | true =>
              simp only [c6, cond_true] at h
              exact ⟨Q14i (by decide) c6, Q14i (by decide) h⟩
theorem Qz3 {m : Meta} (k : Q66 m) : Qeg m ∧ Q1hm m ∧ m.managers.length ≤ 4611686018427387904 := by
  obtain ⟨k1, k2, k3, _, _, _, _, _, _, kl, ko, kf, km⟩ := k
  have hl := kl.1
  have ho := ko.1
  have hf := kf.1
  have hm := km.1
  unfold okS at k1 k2 k3
  have hx : ∀ x ∈ m.managers, x.fields.length * 16 ≤ 140737488351232 := fun x hx => (km.2 x hx).2.1
  have e0 : (⟨#[47]⟩ : BA).size = 1 := rfl
  refine ⟨⟨by omega, by omega, by omega, by omega, ⟨by omega, fun x h => by have := hx x h; omega, trivial⟩, trivial⟩, ⟨⟨⟨?_, ?_, ?_, ?_, trivial⟩, trivial⟩, ⟨⟨by omega, trivial⟩, trivial⟩, ⟨by omega, trivial⟩, ⟨by omega, trivial⟩, ⟨by omega, fun x h => ⟨⟨by have := hx x h; omega, trivial⟩, trivial⟩, trivial⟩, trivial⟩, by omega⟩ <;>
  · simp only [ByteArray.size_append, e0]
    omega
theorem Q1bk {m : Meta} (k : Q66 m) (s : BA) (h : s.size ≤ 140737488351232) : Q66 { m with kind := s } := ⟨h, k.2⟩
theorem Q1ax {o : Object} (k : Q66 o.meta_) (g : Object.sm o) : H_K8 o := ⟨⟨(Qz3 k).2.2, trivial⟩, ⟨g.1.mono (Nat.le_of_ble_eq_true rfl), trivial⟩, ⟨g.2.mono (Nat.le_of_ble_eq_true rfl), trivial⟩, trivial⟩
theorem Q1a9 {o : Object} (k : Q66 o.meta_) (g : Object.sm o) : Qih o := ⟨(Qz3 k).2.1, ⟨g.1.mono (Nat.le_of_ble_eq_true rfl), trivial⟩, ⟨g.2.mono (Nat.le_of_ble_eq_true rfl), trivial⟩, trivial⟩
def Q102 (x : ReplicaSet) : Prop := Q19d x ∧ H_K8 (Q30 x) ∧ Q1db x ∧ Qih (Q30 x) ∧ Q1de (Q30 x) ∧ (s_K8 (Q30 x) = true → Q1cn (Q30 x) = (ReplicaSet.at x, 0))
theorem ReplicaSet.facts {x : ReplicaSet} (k : Q66 x.meta_) (a : ReplicaSet.sm x) : Q102 x := by
  have m := Q1bk k Qf (Nat.le_of_ble_eq_true rfl)
  have g : Object.sm (ReplicaSet.obj x) := ReplicaSet.Qz6 a
  exact ⟨a, Q1ax (o := ReplicaSet.obj x) m g, ⟨(Qz3 k).1, a⟩, Q1a9 (o := ReplicaSet.obj x) m g, ⟨(Qz3 m).1, g⟩, fun h => (ReplicaSet.rc (o := ReplicaSet.obj x) (Qtz h)).trans (ReplicaSet.R_at x)⟩
def Qx2 (x : StatefulSet) : Prop := Q19e x ∧ H_K8 (Q35 x) ∧ Q1dc x ∧ Qih (Q35 x) ∧ Q1df (Q35 x) ∧ (s_K8 (Q35 x) = true → Q1co (Q35 x) = (StatefulSet.at x, 0))
theorem StatefulSet.facts {x : StatefulSet} (k : Q66 x.meta_) (a : StatefulSet.sm x) : Qx2 x := by
  have m := Q1bk k Qc (Nat.le_of_ble_eq_true rfl)
  have g : Object.sm (StatefulSet.obj x) := StatefulSet.Qz6 a
  exact ⟨a, Q1ax (o := StatefulSet.obj x) m g, ⟨(Qz3 k).1, a⟩, Q1a9 (o := StatefulSet.obj x) m g, ⟨(Qz3 m).1, g⟩, fun h => (StatefulSet.rc (o := StatefulSet.obj x) (Qtz h)).trans (StatefulSet.R_at x)⟩
def Q14q (x : DaemonSet) : Prop := Q19c x ∧ H_K8 (Q39 x) ∧ Q1da x ∧ Qih (Q39 x) ∧ Q1dd (Q39 x) ∧ (s_K8 (Q39 x) = true → Q1cm (Q39 x) = (DaemonSet.at x, 0))
theorem DaemonSet.facts {x : DaemonSet} (k : Q66 x.meta_) (a : DaemonSet.sm x) : Q14q x := by
  have m := Q1bk k Qd (Nat.le_of_ble_eq_true rfl)
  have g : Object.sm (DaemonSet.obj x) := DaemonSet.Qz6 a
  exact ⟨a, Q1ax (o := DaemonSet.obj x) m g, ⟨(Qz3 k).1, a⟩, Q1a9 (o := DaemonSet.obj x) m g, ⟨(Qz3 m).1, g⟩, fun h => (DaemonSet.rc (o := DaemonSet.obj x) (Qtz h)).trans (DaemonSet.R_at x)⟩
end Go.Proofs.YtimjjohlpnkacaaGreat
end

section
/- The law WorkcodecSets in plain words: what was encoded is decoded to what it was. -/
namespace Go.Proofs.YtimjjohlpnkacaaGreat
open Go.Pv
theorem lawSets (p0 : ReplicaSet) (p1 : StatefulSet) (p2 : DaemonSet) (k0 : Q8h p0) (k1 : Q7i p1) (k2 : Q94 p2) (c0 : Q5y 1048576 p0) (c1 : Q52 1048576 p1) (c2 : Q6i 1048576 p2) : H_K5 p0 p1 p2 ∧ s_K5 p0 p1 p2 = true := by
  have f0 := ReplicaSet.facts k0.1 (ReplicaSet.Q2t (Nat.le_of_ble_eq_true rfl) c0)
  have f1 := StatefulSet.facts k1.1 (StatefulSet.Q2t (Nat.le_of_ble_eq_true rfl) c1)
  have f2 := DaemonSet.facts k2.1 (DaemonSet.Q2t (Nat.le_of_ble_eq_true rfl) c2)
  refine ⟨?_, ?_⟩
  · unfold H_K5
    repeat' with_reducible apply And.intro
    all_goals first | exact True.intro | (intros; first | rfl | exact f0.1 | exact f0.2.1 | exact f0.2.2.1 | exact f0.2.2.2.1 | exact f0.2.2.2.2.1 | exact f0.2.2.2.2.2 (by assumption) | exact f1.1 | exact f1.2.1 | exact f1.2.2.1 | exact f1.2.2.2.1 | exact f1.2.2.2.2.1 | exact f1.2.2.2.2.2 (by assumption) | exact f2.1 | exact f2.2.1 | exact f2.2.2.1 | exact f2.2.2.2.1 | exact f2.2.2.2.2.1 | exact f2.2.2.2.2.2 (by assumption))
  · unfold s_K5
    simp only [show sEq (ReplicaSet.at p0).meta_.kind Qf = true from Q3v.2 rfl, show sEq (StatefulSet.at p1).meta_.kind Qc = true from Q3v.2 rfl, show sEq (DaemonSet.at p2).meta_.kind Qd = true from Q3v.2 rfl]
    cases s_K8 (Q30 p0) <;> cases s_K8 (Q35 p1) <;> cases s_K8 (Q39 p2)
    all_goals rfl
end Go.Proofs.YtimjjohlpnkacaaGreat
end

section
/- The library's comparison of two strings, walked: it answers as the evaluator's cmpL. -/
namespace Go.Proofs.YtimjjohlpnkacaaGreat
open Go.Pv
theorem cmpL_eq : ∀ (a b : List UInt8), cmpL a b = Lib.compareBytes a b
  | [], [] => rfl
  | [], _ :: _ => rfl
  | _ :: _, [] => rfl
  | a :: x, b :: y => by
    rw [Lib.compareBytes, ← cmpL_eq x y]
    rfl
set_option maxHeartbeats 1000000 in
set_option maxRecDepth 100000 in
theorem comparing (a b : BA) (w : World) :
    Calls Tryz.prog 221 #[.string a, .string b] w fun e w' => e = .returned (.int .i64 (Lib.compareBytes a.data.toList b.data.toList)) ∧ w' = w := by
  go_enter Tryz.func221, Tryz.ntmps221
  go_wp2
  rw [run_callFunc_extern Tryz.func255 (by kernel_rfl) (by kernel_rfl) (by kernel_rfl) (e := Extern.BytealgCompare.compare) (by kernel_rfl), Lib.run_compareString]
  simp only [Result.andThen]
  rw [Oper.upon_value]
  go_wp2
  go_ret
  exact ⟨rfl, rfl⟩
theorem cmpOK : Q1d7 Tryz.prog 221 := by
  refine ⟨⟨_, Tryz.func221, by kernel_rfl, by kernel_rfl⟩, fun x y w => ?_⟩
  have h := comparing x y w
  rw [← cmpL_eq, ← toList_data, ← toList_data] at h
  exact h
end Go.Proofs.YtimjjohlpnkacaaGreat
end

section
/- What is of bounded bulk holds nothing longer. -/
namespace Go.Proofs.YtimjjohlpnkacaaGreat.bulks
open Go.Pv
theorem one_le {H : Type} (d : DataW H) : 1 ≤ Rows.uptoBulk d := by
  cases d with
  | lit l => cases l <;> simp [Rows.uptoBulk]
  | nil => simp [Rows.uptoBulk]
  | ptr d => simp [Rows.uptoBulk]
  | slice elems spare => simp [Rows.uptoBulk]
  | agg parts => simp [Rows.uptoBulk]
  | iface t d => simp [Rows.uptoBulk]
  | map entries => simp [Rows.uptoBulk]
  | held h => simp [Rows.uptoBulk]
theorem Q10u {H : Type} {d : DataW H} {l : List (DataW H)} (h : d ∈ l) : Rows.uptoBulk d ≤ Rows.uptoBulkAll l := by
  induction l with
  | nil => cases h
  | cons x r ih =>
    simp only [Rows.uptoBulkAll]
    rcases List.mem_cons.1 h with e | e
    · subst e; omega
    · have := ih e; omega
theorem length_le {H : Type} (l : List (DataW H)) : l.length ≤ Rows.uptoBulkAll l := by
  induction l with
  | nil => simp [Rows.uptoBulkAll]
  | cons x r ih => have := one_le x; simp only [Rows.uptoBulkAll, List.length_cons]; omega
theorem Q1a3 {H : Type} {N : Nat} : ∀ (k : Nat) (d : DataW H), Rows.uptoBulk d ≤ k → k ≤ N → CapD N d
  | 0, d, h, _ => by have := one_le d; omega
  | k + 1, d, h, hk => by
    cases d with
    | lit l => exact .lit l (fun b e => by subst e; simp only [Rows.uptoBulk] at h; omega)
    | nil => exact .nil
    | ptr d => exact .ptr d
    | slice elems spare =>
      simp only [Rows.uptoBulk] at h
      exact .slice elems spare (by have := length_le elems; omega) (fun z hz => Q1a3 k z (by have := Q10u hz; omega) (by omega))
    | agg parts =>
      simp only [Rows.uptoBulk] at h
      exact .agg parts (fun z hz => Q1a3 k z (by have := Q10u hz; omega) (by omega))
    | iface t d => exact .iface t d
    | map entries => exact .map entries
    | held x => exact .held x
theorem caps {H : Type} {ds gs : List (DataW H)} (hk : Rows.uptoSmall H (ds ++ gs) = true) : ∀ d ∈ ds, CapD 1048576 d := fun d hd =>
  Q1a3 1048576 d (Nat.le_trans (Q10u (List.mem_append_left _ hd)) (of_decide_eq_true hk)) (Nat.le_refl _)
end Go.Proofs.YtimjjohlpnkacaaGreat.bulks
end

