/- Texts of the claim, merged by a program; what the statement does not reach is left out. -/
import Derived.Test.YtimjjohlpnkacaaGreatBWorkcodecScaled7
import Derived.Lib.Strings
import Derived.Lib.Slices
import Derived.Lib.Walk
import Derived.Lib.Bytealg
import Derived.Test.YtimjjohlpnkacaaGreatRows

section
/- What the reference's encoders compute (printed by a program). -/
namespace Go.Proofs.YtimjjohlpnkacaaGreat
open Go.Pv
def Qw (p0 : List Fld) (i0 : Nat) (v0_1 : List Fld) : Nat → Int → Int
 | 0, v1_0 => v1_0
 | k1 + 1, v1_0 =>
  bif (decide (v1_0 < ((List.length v0_1) : Int))) then
   bif (sLt (List.getD v0_1 (Int.toNat v1_0) zF).name (List.getD p0 i0 zF).name) then
    Qw p0 i0 v0_1 k1 (v1_0 + 1)
   else
    v1_0
  else
   v1_0
def Qxn (p0 : List Fld) (i0 : Nat) (v0_1 : List Fld) (v1_0 : Int) : List PV :=
  [.sl (Fld.rows p0), .un, .bx 0 0, .ms 1 6 0 (List.length v0_1), .int .i64 (i0 : Int), .int .i64 v1_0] ++ nuns 46
def Qj2 (_p0 : List Fld) (_i0 : Nat) (v0_1 : List Fld) (_v1_0 : Int) : List Ob :=
  [⟨5, 0, true, [.int .i64 0, .int .i64 0, .str eB, .ms 2 5 0 0, .ms 3 6 0 0]⟩, ⟨6, 0, true, (Fld.rows v0_1).flatten⟩, ⟨5, 0, true, []⟩, ⟨6, 0, true, []⟩]
def Q92 (p0 : List Fld) (i0 : Nat) (v0_1 : List Fld) (v1_0 : Int) : En := .loop 0 Ir.Qkm Ir.Q1jt (Qxn p0 i0 v0_1 v1_0) (Qj2 p0 i0 v0_1 v1_0)
def Q8k (p0 : List Fld) (i0 : Nat) (v0_1 : List Fld) (q0 : Int) (z : Nat → PV) (_zo : Nat → List PV) : St :=
  ⟨[.sl (Fld.rows p0), z 1, .bx 0 0, .ms 1 6 0 (List.length v0_1), .int .i64 (i0 : Int), .int .i64 q0] ++ zr z 6 46, [(0, ⟨5, 0, true, [.int .i64 0, .int .i64 0, .str eB, .ms 2 5 0 0, .ms 3 6 0 0]⟩), (1, ⟨6, 0, true, (Fld.rows v0_1).flatten⟩), (2, ⟨5, 0, true, []⟩), (3, ⟨6, 0, true, []⟩)], 1092⟩
theorem Qvk (p0 : List Fld) (i0 : Nat) (v0_1 : List Fld) (v1_0 : Int) : VOK (Go.Pv.look (number 0 (Qj2 p0 i0 v0_1 v1_0))) [(1, Fld.rows v0_1)] := (VOK.cons (show Seen _ _ from Q3r (ob := ⟨6, 0, true, (Fld.rows v0_1).flatten⟩) (Fld.Qk v0_1 6 rfl)) VOK.nil)
def Qcr (p0 : List Fld) (i0 : Nat) (v0_1 : List Fld) (e : En) (q : Int) : Prop := ∃ z zo, Qd G e (.st (.exit 2) (Q8k p0 i0 v0_1 q z zo))
theorem Quk (p0 : List Fld) (i0 : Nat) (v0_1 : List Fld) {e e' : En} (h : ∀ r, Qd G e r → Qd G e' r) : ∀ q, Qcr p0 i0 v0_1 e q → Qcr p0 i0 v0_1 e' q
  | _, ⟨z, zo, hz⟩ => ⟨z, zo, h _ hz⟩
theorem Q19c (p0 : List Fld) (i0 : Nat) (v0_1 : List Fld) (v1_0 : Int) (ho1_0 : 0 ≤ v1_0) (_ho1_1 : v1_0 ≤ (List.length v0_1 : Int)) (ho1_2 : i0 < List.length p0) (ho1_3 : List.length (v0_1 : List Fld) ≤ 137438953472) (h0 : (decide (v1_0 < ((List.length v0_1) : Int))) = true) (h1 : (sLt (List.getD v0_1 (Int.toNat v1_0) zF).name (List.getD p0 i0 zF).name) = true) {r : Rs} (hr : Qd G (Q92 p0 i0 v0_1 (v1_0 + 1)) r) : Qd G (Q92 p0 i0 v0_1 v1_0) r := by
 have e0 := of_decide_eq_true h0
 exact Qu (Qvk p0 i0 v0_1 v1_0) (y := (Qxn p0 i0 v0_1 (v1_0 + 1), Qj2 p0 i0 v0_1 (v1_0 + 1))) [hB 3 h0, hP 3 (Q58 1 6 (List.length v0_1) v1_0 (Int.toNat v1_0) rfl (by omega) (by omega)), hP 1 (Qba 1 6 0 true ((Fld.rows v0_1).flatten) (Fld.rows v0_1) 1 false (Int.toNat v1_0) 0 ((Int.toNat v1_0) * 6) (Fld.cells (List.getD v0_1 (Int.toNat v1_0) zF)) (.str (List.getD v0_1 (Int.toNat v1_0) zF).name) rfl rfl (Fld.Qz (Q5j v0_1 (Int.toNat v1_0) zF (by omega))) (Fld.Q12 v0_1) (by decide) rfl), hP 2 (Q1km 6 (Fld.rows p0) (i0 : Int) _ (by omega) (Fld.Qz (Q5j p0 (Int.toNat (i0 : Int)) zF (by omega))) rfl), hB 2 h1, hP 2 (w_ok (v1_0 + 1) (by omega))] [] (by kernel_rfl) hr
def Qrf (p0 : List Fld) (i0 : Nat) (v0_1 : List Fld) (v1_0 : Int) : List PV :=
  nuns 13 ++ [.int .i64 v1_0, .ms 1 6 0 (List.length v0_1), .int .i64 ((List.length v0_1) : Int), .bool true, .bool true, .ms 1 6 0 (List.length v0_1), .int .i64 v1_0, .bx 1 ((Int.toNat v1_0) * 6), .bx 1 ((Int.toNat v1_0) * 6), .str (List.getD v0_1 (Int.toNat v1_0) zF).name, .sl (Fld.rows p0), .int .i64 (i0 : Int), .rf [.str (List.getD p0 i0 zF).name, .int .i64 (List.getD p0 i0 zF).v.kind, .int .i64 (List.getD p0 i0 zF).v.n, .str (List.getD p0 i0 zF).v.s, .sl (Val.rows (List.getD p0 i0 zF).v.list), .sl (Fld.rows (List.getD p0 i0 zF).v.fields)], .rf [.str (List.getD p0 i0 zF).name, .int .i64 (List.getD p0 i0 zF).v.kind, .int .i64 (List.getD p0 i0 zF).v.n, .str (List.getD p0 i0 zF).v.s, .sl (Val.rows (List.getD p0 i0 zF).v.list), .sl (Fld.rows (List.getD p0 i0 zF).v.fields)], .str (List.getD p0 i0 zF).name, .bool false, .bool false]
def Qmd (_p0 : List Fld) (_i0 : Nat) (_v0_1 : List Fld) (_v1_0 : Int) : List (Nat × List PV) :=
  []
theorem Q1bp (p0 : List Fld) (i0 : Nat) (v0_1 : List Fld) (v1_0 : Int) (ho1_0 : 0 ≤ v1_0) (_ho1_1 : v1_0 ≤ (List.length v0_1 : Int)) (ho1_2 : i0 < List.length p0) (ho1_3 : List.length (v0_1 : List Fld) ≤ 137438953472) (h0 : (decide (v1_0 < ((List.length v0_1) : Int))) = true) (h1 : (sLt (List.getD v0_1 (Int.toNat v1_0) zF).name (List.getD p0 i0 zF).name) = false) : Qcr p0 i0 v0_1 (Q92 p0 i0 v0_1 v1_0) v1_0 := by
 have e0 := of_decide_eq_true h0
 exact ⟨(envF (Qrf p0 i0 v0_1 v1_0)), (zoF (Qmd p0 i0 v0_1 v1_0)), Qv (Qvk p0 i0 v0_1 v1_0) (x := ((.exit 2), Q8k p0 i0 v0_1 v1_0 (envF (Qrf p0 i0 v0_1 v1_0)) (zoF (Qmd p0 i0 v0_1 v1_0)))) [hB 3 h0, hP 3 (Q58 1 6 (List.length v0_1) v1_0 (Int.toNat v1_0) rfl (by omega) (by omega)), hP 1 (Qba 1 6 0 true ((Fld.rows v0_1).flatten) (Fld.rows v0_1) 1 false (Int.toNat v1_0) 0 ((Int.toNat v1_0) * 6) (Fld.cells (List.getD v0_1 (Int.toNat v1_0) zF)) (.str (List.getD v0_1 (Int.toNat v1_0) zF).name) rfl rfl (Fld.Qz (Q5j v0_1 (Int.toNat v1_0) zF (by omega))) (Fld.Q12 v0_1) (by decide) rfl), hP 2 (Q1km 6 (Fld.rows p0) (i0 : Int) _ (by omega) (Fld.Qz (Q5j p0 (Int.toNat (i0 : Int)) zF (by omega))) rfl), hB 2 h1] [] (by kernel_rfl)⟩
def Qrg (_p0 : List Fld) (_i0 : Nat) (v0_1 : List Fld) (v1_0 : Int) : List PV :=
  nuns 13 ++ [.int .i64 v1_0, .ms 1 6 0 (List.length v0_1), .int .i64 ((List.length v0_1) : Int), .bool false, .bool false, .tup [], .tup [], .tup [], .tup [], .tup [], .tup [], .tup [], .tup [], .tup [], .tup [], .tup [], .bool false]
def Qme (_p0 : List Fld) (_i0 : Nat) (_v0_1 : List Fld) (_v1_0 : Int) : List (Nat × List PV) :=
  []
theorem Q1bq (p0 : List Fld) (i0 : Nat) (v0_1 : List Fld) (v1_0 : Int) (_ho1_0 : 0 ≤ v1_0) (_ho1_1 : v1_0 ≤ (List.length v0_1 : Int)) (_ho1_2 : i0 < List.length p0) (_ho1_3 : List.length (v0_1 : List Fld) ≤ 137438953472) (h0 : (decide (v1_0 < ((List.length v0_1) : Int))) = false) : Qcr p0 i0 v0_1 (Q92 p0 i0 v0_1 v1_0) v1_0 := by
 exact ⟨(envF (Qrg p0 i0 v0_1 v1_0)), (zoF (Qme p0 i0 v0_1 v1_0)), Qv (Qvk p0 i0 v0_1 v1_0) (x := ((.exit 2), Q8k p0 i0 v0_1 v1_0 (envF (Qrg p0 i0 v0_1 v1_0)) (zoF (Qme p0 i0 v0_1 v1_0)))) [hB 3 h0] [] (by kernel_rfl)⟩
theorem Q10w (p0 : List Fld) (i0 : Nat) (v0_1 : List Fld) : ∀ (k1 : Nat) (v1_0 : Int), 0 ≤ v1_0 → v1_0 ≤ (List.length v0_1 : Int) → i0 < List.length p0 → List.length (v0_1 : List Fld) ≤ 137438953472 → Int.toNat ((List.length v0_1 : Int) - v1_0) < k1 → Qcr p0 i0 v0_1 (Q92 p0 i0 v0_1 v1_0) (Qw p0 i0 v0_1 k1 v1_0)
 | 0, v1_0, _, _, _, _, hm => absurd hm (Nat.not_lt_zero _)
 | k1 + 1, v1_0, ho1_0, ho1_1, ho1_2, ho1_3, hm => by
  rw [Qw]
  cases h0 : (decide (v1_0 < ((List.length v0_1) : Int))) with
  | true =>
   have e0 := of_decide_eq_true h0
   cases h1 : (sLt (List.getD v0_1 (Int.toNat v1_0) zF).name (List.getD p0 i0 zF).name) with
   | true =>
    exact Quk p0 i0 v0_1 (fun r hr => Q19c p0 i0 v0_1 v1_0 ho1_0 ho1_1 ho1_2 ho1_3 h0 h1 hr) _ (Q10w p0 i0 v0_1 k1 (v1_0 + 1) (by omega) (by omega) (by omega) (by omega) (by omega))
   | false =>
    exact Q1bp p0 i0 v0_1 v1_0 ho1_0 ho1_1 ho1_2 ho1_3 h0 h1
  | false =>
   exact Q1bq p0 i0 v0_1 v1_0 ho1_0 ho1_1 ho1_2 ho1_3 h0
theorem Q3p (p0 : List Fld) (i0 : Nat) (v0_1 : List Fld) : ∀ (k1 : Nat) (v1_0 : Int), 0 ≤ v1_0 → v1_0 ≤ (List.length v0_1 : Int) → i0 < List.length p0 → List.length (v0_1 : List Fld) ≤ 137438953472 → Int.toNat ((List.length v0_1 : Int) - v1_0) < k1 → 0 ≤ (Qw p0 i0 v0_1 k1 v1_0) ∧ (Qw p0 i0 v0_1 k1 v1_0) ≤ (List.length v0_1 : Int)
 | 0, v1_0, _, _, _, _, hm => absurd hm (Nat.not_lt_zero _)
 | k1 + 1, v1_0, ho1_0, ho1_1, ho1_2, ho1_3, hm => by
  rw [Qw]
  cases h0 : (decide (v1_0 < ((List.length v0_1) : Int))) with
  | true =>
   have e0 := of_decide_eq_true h0
   cases h1 : (sLt (List.getD v0_1 (Int.toNat v1_0) zF).name (List.getD p0 i0 zF).name) with
   | true =>
    exact Q3p p0 i0 v0_1 k1 (v1_0 + 1) (by omega) (by omega) (by omega) (by omega) (by omega)
   | false =>
    exact (show 0 ≤ v1_0 ∧ v1_0 ≤ (List.length v0_1 : Int) from ⟨(by omega), (by omega)⟩)
  | false =>
   have e0 := of_decide_eq_false h0
   exact (show 0 ≤ v1_0 ∧ v1_0 ≤ (List.length v0_1 : Int) from ⟨(by omega), (by omega)⟩)
def Q7a (p0 : List Fld) : List Fld → Nat → (List Fld) → List Fld
 | [], _i0, v0_1 =>
  v0_1
 | x0 :: r0, i0, v0_1 =>
  bif ((Int.toNat (Qw p0 i0 v0_1 ((Int.toNat ((List.length v0_1 : Int) - 0)) + 1) 0)) == 0) then
   Q7a p0 r0 (i0 + 1) ([x0] ++ (List.take ((List.length v0_1) - (Int.toNat (Qw p0 i0 v0_1 ((Int.toNat ((List.length v0_1 : Int) - 0)) + 1) 0))) (List.drop (Int.toNat (Qw p0 i0 v0_1 ((Int.toNat ((List.length v0_1 : Int) - 0)) + 1) 0)) v0_1)))
  else
   Q7a p0 r0 (i0 + 1) (((List.take (Int.toNat (Qw p0 i0 v0_1 ((Int.toNat ((List.length v0_1 : Int) - 0)) + 1) 0)) v0_1) ++ [x0]) ++ (List.take ((List.length v0_1) - (Int.toNat (Qw p0 i0 v0_1 ((Int.toNat ((List.length v0_1 : Int) - 0)) + 1) 0))) (List.drop (Int.toNat (Qw p0 i0 v0_1 ((Int.toNat ((List.length v0_1 : Int) - 0)) + 1) 0)) v0_1)))
def Qin (p0 : List Fld) (i0 : Nat) (v0_1 : List Fld) : List PV :=
  [.sl (Fld.rows p0), .un, .bx 0 0, .ms 1 6 0 (List.length v0_1), .int .i64 (i0 : Int)] ++ nuns 47
def Qcd (_p0 : List Fld) (_i0 : Nat) (v0_1 : List Fld) : List Ob :=
  [⟨5, 0, true, [.int .i64 0, .int .i64 0, .str eB, .ms 2 5 0 0, .ms 3 6 0 0]⟩, ⟨6, 0, true, (Fld.rows v0_1).flatten⟩, ⟨5, 0, true, []⟩, ⟨6, 0, true, []⟩]
def Qan (p0 : List Fld) (i0 : Nat) (v0_1 : List Fld) : En := .loop 0 Ir.Qkl Ir.Q1js (Qin p0 i0 v0_1) (Qcd p0 i0 v0_1)
def Qpq (_p0 : List Fld) (q0 : List Fld) (z : Nat → PV) (_zo : Nat → List PV) : St :=
  ⟨[z 0, z 1, .bx 0 0, .ms 1 6 0 (List.length q0)] ++ zr z 4 48, [(0, ⟨5, 0, true, [.int .i64 0, .int .i64 0, .str eB, .ms 2 5 0 0, .ms 3 6 0 0]⟩), (1, ⟨6, 0, true, (Fld.rows q0).flatten⟩), (2, ⟨5, 0, true, []⟩), (3, ⟨6, 0, true, []⟩)], 260⟩
theorem Qvj (p0 : List Fld) (i0 : Nat) (v0_1 : List Fld) : VOK (Go.Pv.look (number 0 (Qcd p0 i0 v0_1))) [(1, Fld.rows v0_1)] := (VOK.cons (show Seen _ _ from Q3r (ob := ⟨6, 0, true, (Fld.rows v0_1).flatten⟩) (Fld.Qk v0_1 6 rfl)) VOK.nil)
def Qho (p0 : List Fld) (e : En) (q : List Fld) : Prop := ∃ z zo, Qd G e (.st (.exit 0) (Qpq p0 q z zo))
theorem Qcq (p0 : List Fld) {e e' : En} (h : ∀ r, Qd G e r → Qd G e' r) : ∀ q, Qho p0 e q → Qho p0 e' q
  | _, ⟨z, zo, hz⟩ => ⟨z, zo, h _ hz⟩
def Qch (p0 : List Fld) : Prop := (List.length p0 ≤ 137438953472) ∧ (∀ (i0 : Nat) (v0_1 : List Fld) (x0 : Fld), p0[i0]? = some x0 → List.length v0_1 ≤ i0 → List.length (v0_1 : List Fld) ≤ i0 → ((Int.toNat (Qw p0 i0 v0_1 ((Int.toNat ((List.length v0_1 : Int) - 0)) + 1) 0)) == 0) = false → ((List.length (List.take (Int.toNat (Qw p0 i0 v0_1 ((Int.toNat ((List.length v0_1 : Int) - 0)) + 1) 0)) v0_1)) + 1) * 96 ≤ 140737488355328) ∧ (∀ (i0 : Nat) (v0_1 : List Fld) (x0 : Fld), p0[i0]? = some x0 → List.length v0_1 ≤ i0 → List.length (v0_1 : List Fld) ≤ i0 → ((Int.toNat (Qw p0 i0 v0_1 ((Int.toNat ((List.length v0_1 : Int) - 0)) + 1) 0)) == 0) = true → List.length (([x0] ++ (List.take ((List.length v0_1) - (Int.toNat (Qw p0 i0 v0_1 ((Int.toNat ((List.length v0_1 : Int) - 0)) + 1) 0))) (List.drop (Int.toNat (Qw p0 i0 v0_1 ((Int.toNat ((List.length v0_1 : Int) - 0)) + 1) 0)) v0_1))) : List Fld) ≤ (i0 + 1)) ∧ (∀ (i0 : Nat) (v0_1 : List Fld) (x0 : Fld), p0[i0]? = some x0 → List.length v0_1 ≤ i0 → List.length (v0_1 : List Fld) ≤ i0 → ((Int.toNat (Qw p0 i0 v0_1 ((Int.toNat ((List.length v0_1 : Int) - 0)) + 1) 0)) == 0) = false → List.length ((((List.take (Int.toNat (Qw p0 i0 v0_1 ((Int.toNat ((List.length v0_1 : Int) - 0)) + 1) 0)) v0_1) ++ [x0]) ++ (List.take ((List.length v0_1) - (Int.toNat (Qw p0 i0 v0_1 ((Int.toNat ((List.length v0_1 : Int) - 0)) + 1) 0))) (List.drop (Int.toNat (Qw p0 i0 v0_1 ((Int.toNat ((List.length v0_1 : Int) - 0)) + 1) 0)) v0_1))) : List Fld) ≤ (i0 + 1)) ∧ True
def Qre (p0 : List Fld) (i0 : Nat) (_v0_1 : List Fld) : List PV :=
  [.sl (Fld.rows p0), .un, .un, .un, .int .i64 (i0 : Int), .un, .un, .int .i64 (i0 : Int), .sl (Fld.rows p0), .int .i64 ((List.length p0) : Int), .bool false]
def Qmc (_p0 : List Fld) (_i0 : Nat) (_v0_1 : List Fld) : List (Nat × List PV) :=
  []
theorem Q1bo (p0 : List Fld) (_H : Qch p0) (i0 : Nat) (v0_1 : List Fld) (_ho0_0 : List.length v0_1 ≤ i0) (_ho0_1 : List.length (v0_1 : List Fld) ≤ i0) (hc0 : (decide ((i0 : Int) < ((List.length p0) : Int))) = false) : Qho p0 (Qan p0 i0 v0_1) v0_1 := by
 exact ⟨(envF (Qre p0 i0 v0_1)), (zoF (Qmc p0 i0 v0_1)), Qv (Qvj p0 i0 v0_1) (x := ((.exit 0), Qpq p0 v0_1 (envF (Qre p0 i0 v0_1)) (zoF (Qmc p0 i0 v0_1)))) [hP 2 (Q1g (Fld.rows p0) (List.length p0) (Fld.Qa p0)), hB 0 hc0] [] (by kernel_rfl)⟩
theorem Q19a (p0 : List Fld) (H : Qch p0) (x0 : Fld) (i0 : Nat) (v0_1 : List Fld) (hx0 : p0[i0]? = some x0) (hi0 : i0 < List.length p0) (ho0_0 : List.length v0_1 ≤ i0) (_ho0_1 : List.length (v0_1 : List Fld) ≤ i0) (hc0 : (decide ((i0 : Int) < ((List.length p0) : Int))) = true) (z0 : Nat → PV) (zo0 : Nat → List PV) (hl0 : Qd G (Q92 p0 i0 v0_1 0) (.st (.exit 2) (Q8k p0 i0 v0_1 (Qw p0 i0 v0_1 ((Int.toNat ((List.length v0_1 : Int) - 0)) + 1) 0) z0 zo0))) (h0 : ((Int.toNat (Qw p0 i0 v0_1 ((Int.toNat ((List.length v0_1 : Int) - 0)) + 1) 0)) == 0) = true) {r : Rs} (hr : Qd G (Qan p0 (i0 + 1) ([x0] ++ (List.take ((List.length v0_1) - (Int.toNat (Qw p0 i0 v0_1 ((Int.toNat ((List.length v0_1 : Int) - 0)) + 1) 0))) (List.drop (Int.toNat (Qw p0 i0 v0_1 ((Int.toNat ((List.length v0_1 : Int) - 0)) + 1) 0)) v0_1)))) r) : Qd G (Qan p0 i0 v0_1) r := by
 have hB0 := H.1; have e0 := eq_of_beq h0
 exact Qu (Qvj p0 i0 v0_1) (y := (Qin p0 (i0 + 1) ([x0] ++ (List.take ((List.length v0_1) - (Int.toNat (Qw p0 i0 v0_1 ((Int.toNat ((List.length v0_1 : Int) - 0)) + 1) 0))) (List.drop (Int.toNat (Qw p0 i0 v0_1 ((Int.toNat ((List.length v0_1 : Int) - 0)) + 1) 0)) v0_1))), Qcd p0 (i0 + 1) ([x0] ++ (List.take ((List.length v0_1) - (Int.toNat (Qw p0 i0 v0_1 ((Int.toNat ((List.length v0_1 : Int) - 0)) + 1) 0))) (List.drop (Int.toNat (Qw p0 i0 v0_1 ((Int.toNat ((List.length v0_1 : Int) - 0)) + 1) 0)) v0_1))))) [hP 2 (Q1g (Fld.rows p0) (List.length p0) (Fld.Qa p0)), hB 0 hc0, hS 0 true (Fld.Qk v0_1 6 rfl), hP 5 (Q17d 1 6 (List.length v0_1) (Qw p0 i0 v0_1 ((Int.toNat ((List.length v0_1 : Int) - 0)) + 1) 0) (by have g0 := Q3p p0 i0 v0_1 ((Int.toNat ((List.length v0_1 : Int) - 0)) + 1) 0 (by omega) (by omega) (by omega) (by omega) (by omega); omega) (by have g0 := Q3p p0 i0 v0_1 ((Int.toNat ((List.length v0_1 : Int) - 0)) + 1) 0 (by omega) (by omega) (by omega) (by omega) (by omega); omega)), hP 0 (Q1go 1 1412 6 96 0 true (Fld.rows v0_1) 0 (Int.toNat (Qw p0 i0 v0_1 ((Int.toNat ((List.length v0_1 : Int) - 0)) + 1) 0)) (Fld.Q12 v0_1) (by rw [Fld.Qa]; exact (by have g0 := Q3p p0 i0 v0_1 ((Int.toNat ((List.length v0_1 : Int) - 0)) + 1) 0 (by omega) (by omega) (by omega) (by omega) (by omega); omega)) (eq_of_beq h0)), hP 4 (Q35 6 (Fld.rows p0) i0 _ (Fld.Qz hx0) rfl), hP 7 (Q158 1 6 (List.length v0_1) (Qw p0 i0 v0_1 ((Int.toNat ((List.length v0_1 : Int) - 0)) + 1) 0) (by have g0 := Q3p p0 i0 v0_1 ((Int.toNat ((List.length v0_1 : Int) - 0)) + 1) 0 (by omega) (by omega) (by omega) (by omega) (by omega); omega) (by have g0 := Q3p p0 i0 v0_1 ((Int.toNat ((List.length v0_1 : Int) - 0)) + 1) 0 (by omega) (by omega) (by omega) (by omega) (by omega); omega)), hV 0 [(2308, Fld.rows ([x0] ++ (List.take ((List.length v0_1) - (Int.toNat (Qw p0 i0 v0_1 ((Int.toNat ((List.length v0_1 : Int) - 0)) + 1) 0))) (List.drop (Int.toNat (Qw p0 i0 v0_1 ((Int.toNat ((List.length v0_1 : Int) - 0)) + 1) 0)) v0_1))))] (Q1d2 1924 1 2308 6 96 0 [.str x0.name, .int .i64 x0.v.kind, .int .i64 x0.v.n, .str x0.v.s, .sl (Val.rows x0.v.list), .sl (Fld.rows x0.v.fields)] (Fld.rows [x0]) 0 true (Fld.rows v0_1) (Fld.rows ([x0] ++ (List.take ((List.length v0_1) - (Int.toNat (Qw p0 i0 v0_1 ((Int.toNat ((List.length v0_1 : Int) - 0)) + 1) 0))) (List.drop (Int.toNat (Qw p0 i0 v0_1 ((Int.toNat ((List.length v0_1 : Int) - 0)) + 1) 0)) v0_1)))) 1 (Int.toNat (Qw p0 i0 v0_1 ((Int.toNat ((List.length v0_1 : Int) - 0)) + 1) 0)) ((List.length v0_1) - (Int.toNat (Qw p0 i0 v0_1 ((Int.toNat ((List.length v0_1 : Int) - 0)) + 1) 0))) (List.length ([x0] ++ (List.take ((List.length v0_1) - (Int.toNat (Qw p0 i0 v0_1 ((Int.toNat ((List.length v0_1 : Int) - 0)) + 1) 0))) (List.drop (Int.toNat (Qw p0 i0 v0_1 ((Int.toNat ((List.length v0_1 : Int) - 0)) + 1) 0)) v0_1)))) rfl (by simp only [Fld.Q1b, Fld.Q1r]; rfl) (Fld.Qa [x0]).symm (Fld.Qa ([x0] ++ (List.take ((List.length v0_1) - (Int.toNat (Qw p0 i0 v0_1 ((Int.toNat ((List.length v0_1 : Int) - 0)) + 1) 0))) (List.drop (Int.toNat (Qw p0 i0 v0_1 ((Int.toNat ((List.length v0_1 : Int) - 0)) + 1) 0)) v0_1)))).symm (by rw [Fld.Q13e, Fld.Qif, Fld.Qwm]) (Fld.Q12 [x0]) (Fld.Q12 v0_1) (by rw [Fld.Qa]; exact (by have g0 := Q3p p0 i0 v0_1 ((Int.toNat ((List.length v0_1 : Int) - 0)) + 1) 0 (by omega) (by omega) (by omega) (by omega) (by omega); omega)) (by have g0 := Q3p p0 i0 v0_1 ((Int.toNat ((List.length v0_1 : Int) - 0)) + 1) 0 (by omega) (by omega) (by omega) (by omega) (by omega); omega)), hS 0 true (Fld.Qk ([x0] ++ (List.take ((List.length v0_1) - (Int.toNat (Qw p0 i0 v0_1 ((Int.toNat ((List.length v0_1 : Int) - 0)) + 1) 0))) (List.drop (Int.toNat (Qw p0 i0 v0_1 ((Int.toNat ((List.length v0_1 : Int) - 0)) + 1) 0)) v0_1))) 6 rfl), hP 4 (Q2s i0 (by omega))] [aV [(1, Fld.rows v0_1)] hl0] (by kernel_rfl) hr
theorem Q19b (p0 : List Fld) (H : Qch p0) (x0 : Fld) (i0 : Nat) (v0_1 : List Fld) (hx0 : p0[i0]? = some x0) (hi0 : i0 < List.length p0) (ho0_0 : List.length v0_1 ≤ i0) (ho0_1 : List.length (v0_1 : List Fld) ≤ i0) (hc0 : (decide ((i0 : Int) < ((List.length p0) : Int))) = true) (z0 : Nat → PV) (zo0 : Nat → List PV) (hl0 : Qd G (Q92 p0 i0 v0_1 0) (.st (.exit 2) (Q8k p0 i0 v0_1 (Qw p0 i0 v0_1 ((Int.toNat ((List.length v0_1 : Int) - 0)) + 1) 0) z0 zo0))) (h0 : ((Int.toNat (Qw p0 i0 v0_1 ((Int.toNat ((List.length v0_1 : Int) - 0)) + 1) 0)) == 0) = false) {r : Rs} (hr : Qd G (Qan p0 (i0 + 1) (((List.take (Int.toNat (Qw p0 i0 v0_1 ((Int.toNat ((List.length v0_1 : Int) - 0)) + 1) 0)) v0_1) ++ [x0]) ++ (List.take ((List.length v0_1) - (Int.toNat (Qw p0 i0 v0_1 ((Int.toNat ((List.length v0_1 : Int) - 0)) + 1) 0))) (List.drop (Int.toNat (Qw p0 i0 v0_1 ((Int.toNat ((List.length v0_1 : Int) - 0)) + 1) 0)) v0_1)))) r) : Qd G (Qan p0 i0 v0_1) r := by
 have hB0 := H.1; have e0 := beq_eq_false_iff_ne.1 h0
 exact Qu (Qvj p0 i0 v0_1) (y := (Qin p0 (i0 + 1) (((List.take (Int.toNat (Qw p0 i0 v0_1 ((Int.toNat ((List.length v0_1 : Int) - 0)) + 1) 0)) v0_1) ++ [x0]) ++ (List.take ((List.length v0_1) - (Int.toNat (Qw p0 i0 v0_1 ((Int.toNat ((List.length v0_1 : Int) - 0)) + 1) 0))) (List.drop (Int.toNat (Qw p0 i0 v0_1 ((Int.toNat ((List.length v0_1 : Int) - 0)) + 1) 0)) v0_1))), Qcd p0 (i0 + 1) (((List.take (Int.toNat (Qw p0 i0 v0_1 ((Int.toNat ((List.length v0_1 : Int) - 0)) + 1) 0)) v0_1) ++ [x0]) ++ (List.take ((List.length v0_1) - (Int.toNat (Qw p0 i0 v0_1 ((Int.toNat ((List.length v0_1 : Int) - 0)) + 1) 0))) (List.drop (Int.toNat (Qw p0 i0 v0_1 ((Int.toNat ((List.length v0_1 : Int) - 0)) + 1) 0)) v0_1))))) [hP 2 (Q1g (Fld.rows p0) (List.length p0) (Fld.Qa p0)), hB 0 hc0, hS 0 true (Fld.Qk v0_1 6 rfl), hP 5 (Q17d 1 6 (List.length v0_1) (Qw p0 i0 v0_1 ((Int.toNat ((List.length v0_1 : Int) - 0)) + 1) 0) (by have g0 := Q3p p0 i0 v0_1 ((Int.toNat ((List.length v0_1 : Int) - 0)) + 1) 0 (by omega) (by omega) (by omega) (by omega) (by omega); omega) (by have g0 := Q3p p0 i0 v0_1 ((Int.toNat ((List.length v0_1 : Int) - 0)) + 1) 0 (by omega) (by omega) (by omega) (by omega) (by omega); omega)), hV 0 [(1412, Fld.rows (List.take (Int.toNat (Qw p0 i0 v0_1 ((Int.toNat ((List.length v0_1 : Int) - 0)) + 1) 0)) v0_1))] (Q1tb 1 1412 6 96 0 true (Fld.rows v0_1) (Fld.rows (List.take (Int.toNat (Qw p0 i0 v0_1 ((Int.toNat ((List.length v0_1 : Int) - 0)) + 1) 0)) v0_1)) 0 (Int.toNat (Qw p0 i0 v0_1 ((Int.toNat ((List.length v0_1 : Int) - 0)) + 1) 0)) (List.length (List.take (Int.toNat (Qw p0 i0 v0_1 ((Int.toNat ((List.length v0_1 : Int) - 0)) + 1) 0)) v0_1)) (Fld.Q12 v0_1) (by rw [Fld.Qa]; exact (by have g0 := Q3p p0 i0 v0_1 ((Int.toNat ((List.length v0_1 : Int) - 0)) + 1) 0 (by omega) (by omega) (by omega) (by omega) (by omega); omega)) (beq_eq_false_iff_ne.1 h0) (by rw [Fld.Qif]; rfl) (by have g0 := Q3p p0 i0 v0_1 ((Int.toNat ((List.length v0_1 : Int) - 0)) + 1) 0 (by omega) (by omega) (by omega) (by omega) (by omega); try simp only [List.length_take]; omega) (by have g0 := Q3p p0 i0 v0_1 ((Int.toNat ((List.length v0_1 : Int) - 0)) + 1) 0 (by omega) (by omega) (by omega) (by omega) (by omega); omega)), hS 0 true (Fld.Qk (List.take (Int.toNat (Qw p0 i0 v0_1 ((Int.toNat ((List.length v0_1 : Int) - 0)) + 1) 0)) v0_1) 6 rfl), hP 4 (Q35 6 (Fld.rows p0) i0 _ (Fld.Qz hx0) rfl), hV 2 [(1924, Fld.rows ((List.take (Int.toNat (Qw p0 i0 v0_1 ((Int.toNat ((List.length v0_1 : Int) - 0)) + 1) 0)) v0_1) ++ [x0]))] (Q4a 1412 1860 1924 6 96 0 0 true (Fld.rows (List.take (Int.toNat (Qw p0 i0 v0_1 ((Int.toNat ((List.length v0_1 : Int) - 0)) + 1) 0)) v0_1)) (Fld.rows ((List.take (Int.toNat (Qw p0 i0 v0_1 ((Int.toNat ((List.length v0_1 : Int) - 0)) + 1) 0)) v0_1) ++ [x0])) (Fld.cells x0) (List.length (List.take (Int.toNat (Qw p0 i0 v0_1 ((Int.toNat ((List.length v0_1 : Int) - 0)) + 1) 0)) v0_1)) (List.length ((List.take (Int.toNat (Qw p0 i0 v0_1 ((Int.toNat ((List.length v0_1 : Int) - 0)) + 1) 0)) v0_1) ++ [x0])) rfl (Fld.Qa (List.take (Int.toNat (Qw p0 i0 v0_1 ((Int.toNat ((List.length v0_1 : Int) - 0)) + 1) 0)) v0_1)).symm (Fld.Qa ((List.take (Int.toNat (Qw p0 i0 v0_1 ((Int.toNat ((List.length v0_1 : Int) - 0)) + 1) 0)) v0_1) ++ [x0])).symm (Fld.Q23 (List.take (Int.toNat (Qw p0 i0 v0_1 ((Int.toNat ((List.length v0_1 : Int) - 0)) + 1) 0)) v0_1) x0) (Fld.Q12 (List.take (Int.toNat (Qw p0 i0 v0_1 ((Int.toNat ((List.length v0_1 : Int) - 0)) + 1) 0)) v0_1)) rfl ((H.2.1 i0 v0_1 x0 hx0 ho0_0 ho0_1) h0)), hS 0 true (Fld.Qk ((List.take (Int.toNat (Qw p0 i0 v0_1 ((Int.toNat ((List.length v0_1 : Int) - 0)) + 1) 0)) v0_1) ++ [x0]) 6 rfl), hP 4 (Q158 1 6 (List.length v0_1) (Qw p0 i0 v0_1 ((Int.toNat ((List.length v0_1 : Int) - 0)) + 1) 0) (by have g0 := Q3p p0 i0 v0_1 ((Int.toNat ((List.length v0_1 : Int) - 0)) + 1) 0 (by omega) (by omega) (by omega) (by omega) (by omega); omega) (by have g0 := Q3p p0 i0 v0_1 ((Int.toNat ((List.length v0_1 : Int) - 0)) + 1) 0 (by omega) (by omega) (by omega) (by omega) (by omega); omega)), hV 0 [(2308, Fld.rows (((List.take (Int.toNat (Qw p0 i0 v0_1 ((Int.toNat ((List.length v0_1 : Int) - 0)) + 1) 0)) v0_1) ++ [x0]) ++ (List.take ((List.length v0_1) - (Int.toNat (Qw p0 i0 v0_1 ((Int.toNat ((List.length v0_1 : Int) - 0)) + 1) 0))) (List.drop (Int.toNat (Qw p0 i0 v0_1 ((Int.toNat ((List.length v0_1 : Int) - 0)) + 1) 0)) v0_1))))] (Q1d2 1924 1 2308 6 96 0 ((Fld.rows ((List.take (Int.toNat (Qw p0 i0 v0_1 ((Int.toNat ((List.length v0_1 : Int) - 0)) + 1) 0)) v0_1) ++ [x0])).flatten) (Fld.rows ((List.take (Int.toNat (Qw p0 i0 v0_1 ((Int.toNat ((List.length v0_1 : Int) - 0)) + 1) 0)) v0_1) ++ [x0])) 0 true (Fld.rows v0_1) (Fld.rows (((List.take (Int.toNat (Qw p0 i0 v0_1 ((Int.toNat ((List.length v0_1 : Int) - 0)) + 1) 0)) v0_1) ++ [x0]) ++ (List.take ((List.length v0_1) - (Int.toNat (Qw p0 i0 v0_1 ((Int.toNat ((List.length v0_1 : Int) - 0)) + 1) 0))) (List.drop (Int.toNat (Qw p0 i0 v0_1 ((Int.toNat ((List.length v0_1 : Int) - 0)) + 1) 0)) v0_1)))) (List.length ((List.take (Int.toNat (Qw p0 i0 v0_1 ((Int.toNat ((List.length v0_1 : Int) - 0)) + 1) 0)) v0_1) ++ [x0])) (Int.toNat (Qw p0 i0 v0_1 ((Int.toNat ((List.length v0_1 : Int) - 0)) + 1) 0)) ((List.length v0_1) - (Int.toNat (Qw p0 i0 v0_1 ((Int.toNat ((List.length v0_1 : Int) - 0)) + 1) 0))) (List.length (((List.take (Int.toNat (Qw p0 i0 v0_1 ((Int.toNat ((List.length v0_1 : Int) - 0)) + 1) 0)) v0_1) ++ [x0]) ++ (List.take ((List.length v0_1) - (Int.toNat (Qw p0 i0 v0_1 ((Int.toNat ((List.length v0_1 : Int) - 0)) + 1) 0))) (List.drop (Int.toNat (Qw p0 i0 v0_1 ((Int.toNat ((List.length v0_1 : Int) - 0)) + 1) 0)) v0_1)))) rfl rfl (Fld.Qa ((List.take (Int.toNat (Qw p0 i0 v0_1 ((Int.toNat ((List.length v0_1 : Int) - 0)) + 1) 0)) v0_1) ++ [x0])).symm (Fld.Qa (((List.take (Int.toNat (Qw p0 i0 v0_1 ((Int.toNat ((List.length v0_1 : Int) - 0)) + 1) 0)) v0_1) ++ [x0]) ++ (List.take ((List.length v0_1) - (Int.toNat (Qw p0 i0 v0_1 ((Int.toNat ((List.length v0_1 : Int) - 0)) + 1) 0))) (List.drop (Int.toNat (Qw p0 i0 v0_1 ((Int.toNat ((List.length v0_1 : Int) - 0)) + 1) 0)) v0_1)))).symm (by rw [Fld.Q13e, Fld.Qif, Fld.Qwm]) (Fld.Q12 ((List.take (Int.toNat (Qw p0 i0 v0_1 ((Int.toNat ((List.length v0_1 : Int) - 0)) + 1) 0)) v0_1) ++ [x0])) (Fld.Q12 v0_1) (by rw [Fld.Qa]; exact (by have g0 := Q3p p0 i0 v0_1 ((Int.toNat ((List.length v0_1 : Int) - 0)) + 1) 0 (by omega) (by omega) (by omega) (by omega) (by omega); omega)) (by have g0 := Q3p p0 i0 v0_1 ((Int.toNat ((List.length v0_1 : Int) - 0)) + 1) 0 (by omega) (by omega) (by omega) (by omega) (by omega); try simp only [List.length_append, List.length_cons, List.length_nil, List.length_take]; omega)), hS 0 true (Fld.Qk (((List.take (Int.toNat (Qw p0 i0 v0_1 ((Int.toNat ((List.length v0_1 : Int) - 0)) + 1) 0)) v0_1) ++ [x0]) ++ (List.take ((List.length v0_1) - (Int.toNat (Qw p0 i0 v0_1 ((Int.toNat ((List.length v0_1 : Int) - 0)) + 1) 0))) (List.drop (Int.toNat (Qw p0 i0 v0_1 ((Int.toNat ((List.length v0_1 : Int) - 0)) + 1) 0)) v0_1))) 6 rfl), hP 4 (Q2s i0 (by omega))] [aV [(1, Fld.rows v0_1)] hl0] (by kernel_rfl) hr
theorem Qnq (p0 : List Fld) (H : Qch p0) : ∀ (r0 : List Fld) (i0 : Nat) (v0_1 : List Fld), List.drop i0 p0 = r0 → List.length v0_1 ≤ i0 → List.length (v0_1 : List Fld) ≤ i0 → Qho p0 (Qan p0 i0 v0_1) (Q7a p0 r0 i0 v0_1)
 | [], i0, v0_1, hd, ho0_0, ho0_1 => by
  have hc0 : (decide ((i0 : Int) < ((List.length p0) : Int))) = false := by have := Q1y hd; simp; omega
  rw [Q7a]
  exact Q1bo p0 H i0 v0_1 ho0_0 ho0_1 hc0
 | x0 :: r0, i0, v0_1, hd, ho0_0, ho0_1 => by
  obtain ⟨hx0, hi0, hd'⟩ := Q1v hd
  have hB0 := H.1
  have hc0 : (decide ((i0 : Int) < ((List.length p0) : Int))) = true := by simp; omega
  rw [Q7a]
  have hl0 := Q10w p0 i0 v0_1 ((Int.toNat ((List.length v0_1 : Int) - 0)) + 1) 0 (by omega) (by omega) (by omega) (by omega) (by omega)
  obtain ⟨z0, zo0, hl0⟩ := hl0
  cases h0 : ((Int.toNat (Qw p0 i0 v0_1 ((Int.toNat ((List.length v0_1 : Int) - 0)) + 1) 0)) == 0) with
  | true =>
   have e0 := eq_of_beq h0
   exact Qcq p0 (fun r hr => Q19a p0 H x0 i0 v0_1 hx0 hi0 ho0_0 ho0_1 hc0 z0 zo0 hl0 h0 hr) _ (Qnq p0 H r0 (i0 + 1) ([x0] ++ (List.take ((List.length v0_1) - (Int.toNat (Qw p0 i0 v0_1 ((Int.toNat ((List.length v0_1 : Int) - 0)) + 1) 0))) (List.drop (Int.toNat (Qw p0 i0 v0_1 ((Int.toNat ((List.length v0_1 : Int) - 0)) + 1) 0)) v0_1))) hd' (by first | omega | (simp; omega)) ((H.2.2.1 i0 v0_1 x0 hx0 ho0_0 ho0_1) h0))
  | false =>
   have e0 := beq_eq_false_iff_ne.1 h0
   exact Qcq p0 (fun r hr => Q19b p0 H x0 i0 v0_1 hx0 hi0 ho0_0 ho0_1 hc0 z0 zo0 hl0 h0 hr) _ (Qnq p0 H r0 (i0 + 1) (((List.take (Int.toNat (Qw p0 i0 v0_1 ((Int.toNat ((List.length v0_1 : Int) - 0)) + 1) 0)) v0_1) ++ [x0]) ++ (List.take ((List.length v0_1) - (Int.toNat (Qw p0 i0 v0_1 ((Int.toNat ((List.length v0_1 : Int) - 0)) + 1) 0))) (List.drop (Int.toNat (Qw p0 i0 v0_1 ((Int.toNat ((List.length v0_1 : Int) - 0)) + 1) 0)) v0_1))) hd' (by first | omega | (simp; omega)) ((H.2.2.2.1 i0 v0_1 x0 hx0 ho0_0 ho0_1) h0))
def Q1u (p0 : List Fld) : Val :=
 (Val.mk 5 0 eB [] (Q7a p0 p0 0 []))
def Q9a (p0 : List Fld) : En := .call 163 [.sl (Fld.rows p0)] []
def Q1rj (p0 : List Fld) : Rs := .ret (.agg (Val.cells (Q1u p0))) []
def Q1q5 (p0 : List Fld) : Prop := List.length p0 ≤ 20
theorem Q15l (p0 : List Fld) (H : Q1q5 p0) : (Qch p0) ∧ (List.length ([] : List Fld) ≤ 0) ∧ True := by
  have H' : p0.length ≤ 20 := H
  have hl : ∀ (i : Nat) (x : Fld), p0[i]? = some x → i < 20 := fun i x h => Nat.lt_of_lt_of_le (List.getElem?_eq_some_iff.1 h).1 H'
  refine ⟨⟨by omega, fun i v x hx a _ _ => ?_, fun i v x hx a _ _ => ?_, fun i v x hx a _ _ => ?_, trivial⟩, by simp, trivial⟩ <;>
  · have := hl i x hx
    simp only [List.length_append, List.length_take, List.length_drop, List.length_cons, List.length_nil]
    omega
theorem Q9s (p0 : List Fld) (H : Q1q5 p0) : Qd G (Q9a p0) (Q1rj p0) := by
 unfold Q1rj Q1u
 have hl0 := Qnq p0 ((Q15l p0 H).1) p0 0 [] (by simp) (by simp) ((Q15l p0 H).2.1)
 obtain ⟨z0, zo0, hl0⟩ := hl0
 exact Qj (fn := Ir.K2h) rfl VOK.nil [hS 0 true (Fld.Qk (Q7a p0 p0 0 []) 6 rfl), hQ (Fld.Qa (Q7a p0 p0 0 [])).symm] [aV [(1, Fld.rows (Q7a p0 p0 0 []))] hl0] (by kernel_rfl)
def Qt (p0 : Int) : Val :=
 (Val.mk 2 p0 eB [] [])
def Q20k (p0 : Int) : En := .call 164 [.int .i64 p0] []
def Q1rh (p0 : Int) : Rs := .ret (.agg (Val.cells (Qt p0))) []
theorem Q4h (p0 : Int) : Qd G (Q20k p0) (Q1rh p0) := by
 unfold Q1rh Qt
 exact Qj (fn := Ir.K2c) rfl VOK.nil [] [] (by kernel_rfl)
def Q1i (p0 : BA) : Val :=
 (Val.mk 3 0 p0 [] [])
def Q20t (p0 : BA) : En := .call 169 [.str p0] []
def Q1rr (p0 : BA) : Rs := .ret (.agg (Val.cells (Q1i p0))) []
theorem Qdo (p0 : BA) : Qd G (Q20t p0) (Q1rr p0) := by
 unfold Q1rr Q1i
 exact Qj (fn := Ir.K2w) rfl VOK.nil [] [] (by kernel_rfl)
def Q5y (p0 : List ByteArray) : List ByteArray → Nat → (List Val) → List Val
 | [], _i0, v0_1 =>
  v0_1
 | x0 :: r0, i0, v0_1 =>
  Q5y p0 r0 (i0 + 1) (v0_1 ++ [(Q1i x0)])
theorem Q16y (p0 : List ByteArray) : ∀ (l : List ByteArray) (i : Nat) (a : List Val), Q5y p0 l i a = a ++ l.map (fun x0 => (Q1i x0))
  | [], _, _ => by simp [Q5y]
  | x :: r, i, a => by rw [Q5y, Q16y p0 r]; simp
def Qxt (p0 : List ByteArray) (i0 : Nat) (v0_1 : List Val) : List PV :=
  [.sl (Q10 p0), .un, .bx 0 0, .ms 1 5 0 (List.length v0_1), .int .i64 (i0 : Int)] ++ nuns 16
def Qj8 (_p0 : List ByteArray) (_i0 : Nat) (v0_1 : List Val) : List Ob :=
  [⟨5, 0, true, [.int .i64 0, .int .i64 0, .str eB, .ms 2 5 0 0, .ms 3 6 0 0]⟩, ⟨5, 0, true, (Val.rows v0_1).flatten⟩, ⟨5, 0, true, []⟩, ⟨6, 0, true, []⟩]
def Qg0 (p0 : List ByteArray) (i0 : Nat) (v0_1 : List Val) : En := .loop 0 Ir.Qks Ir.Q1jz (Qxt p0 i0 v0_1) (Qj8 p0 i0 v0_1)
def Qpw (_p0 : List ByteArray) (q0 : List Val) (z : Nat → PV) (_zo : Nat → List PV) : St :=
  ⟨[z 0, z 1, .bx 0 0, .ms 1 5 0 (List.length q0)] ++ zr z 4 17, [(0, ⟨5, 0, true, [.int .i64 0, .int .i64 0, .str eB, .ms 2 5 0 0, .ms 3 6 0 0]⟩), (1, ⟨5, 0, true, (Val.rows q0).flatten⟩), (2, ⟨5, 0, true, []⟩), (3, ⟨6, 0, true, []⟩)], 260⟩
theorem Q14n (p0 : List ByteArray) (i0 : Nat) (v0_1 : List Val) : VOK (Go.Pv.look (number 0 (Qj8 p0 i0 v0_1))) [(1, Val.rows v0_1)] := (VOK.cons (show Seen _ _ from Q3r (ob := ⟨5, 0, true, (Val.rows v0_1).flatten⟩) (Val.Qk v0_1 5 rfl)) VOK.nil)
def Qhu (p0 : List ByteArray) (e : En) (q : List Val) : Prop := ∃ z zo, Qd G e (.st (.exit 0) (Qpw p0 q z zo))
theorem Quq (p0 : List ByteArray) {e e' : En} (h : ∀ r, Qd G e r → Qd G e' r) : ∀ q, Qhu p0 e q → Qhu p0 e' q
  | _, ⟨z, zo, hz⟩ => ⟨z, zo, h _ hz⟩
def Qh1 (p0 : List ByteArray) : Prop := (List.length p0 ≤ 137438953472) ∧ True
def Qrm (p0 : List ByteArray) (i0 : Nat) (_v0_1 : List Val) : List PV :=
  [.sl (Q10 p0), .un, .un, .un, .int .i64 (i0 : Int), .int .i64 (i0 : Int), .sl (Q10 p0), .int .i64 ((List.length p0) : Int), .bool false]
def Qmk (_p0 : List ByteArray) (_i0 : Nat) (_v0_1 : List Val) : List (Nat × List PV) :=
  []
theorem Q1bw (p0 : List ByteArray) (_H : Qh1 p0) (i0 : Nat) (v0_1 : List Val) (_ho0_0 : List.length v0_1 ≤ i0) (hc0 : (decide ((i0 : Int) < ((List.length p0) : Int))) = false) : Qhu p0 (Qg0 p0 i0 v0_1) v0_1 := by
 exact ⟨(envF (Qrm p0 i0 v0_1)), (zoF (Qmk p0 i0 v0_1)), Qv (Q14n p0 i0 v0_1) (x := ((.exit 0), Qpw p0 v0_1 (envF (Qrm p0 i0 v0_1)) (zoF (Qmk p0 i0 v0_1)))) [hP 2 (Q1g (Q10 p0) (List.length p0) (Q30 p0)), hB 0 hc0] [] (by kernel_rfl)⟩
theorem Q19i (p0 : List ByteArray) (H : Qh1 p0) (x0 : BA) (i0 : Nat) (v0_1 : List Val) (hx0 : p0[i0]? = some x0) (hi0 : i0 < List.length p0) (ho0_0 : List.length v0_1 ≤ i0) (hc0 : (decide ((i0 : Int) < ((List.length p0) : Int))) = true) {r : Rs} (hr : Qd G (Qg0 p0 (i0 + 1) (v0_1 ++ [(Q1i x0)])) r) : Qd G (Qg0 p0 i0 v0_1) r := by
 have hB0 := H.1
 exact Qu (Q14n p0 i0 v0_1) (y := (Qxt p0 (i0 + 1) (v0_1 ++ [(Q1i x0)]), Qj8 p0 (i0 + 1) (v0_1 ++ [(Q1i x0)]))) [hP 2 (Q1g (Q10 p0) (List.length p0) (Q30 p0)), hB 0 hc0, hP 3 (Q35 1 (Q10 p0) i0 _ (Q8v hx0) rfl), hV 3 [(708, Val.rows (v0_1 ++ [(Q1i x0)]))] (Q4a 1 644 708 5 80 0 0 true (Val.rows v0_1) (Val.rows (v0_1 ++ [(Q1i x0)])) (Val.cells (Q1i x0)) (List.length v0_1) (List.length (v0_1 ++ [(Q1i x0)])) rfl (Val.Qa v0_1).symm (Val.Qa (v0_1 ++ [(Q1i x0)])).symm (Val.Q23 v0_1 (Q1i x0)) (Val.Q12 v0_1) rfl (by omega)), hS 0 true (Val.Qk (v0_1 ++ [(Q1i x0)]) 5 rfl), hP 2 (Q2s i0 (by omega))] [aN (Qdo x0)] (by kernel_rfl) hr
theorem Q112 (p0 : List ByteArray) (H : Qh1 p0) : ∀ (r0 : List ByteArray) (i0 : Nat) (v0_1 : List Val), List.drop i0 p0 = r0 → List.length v0_1 ≤ i0 → Qhu p0 (Qg0 p0 i0 v0_1) (Q5y p0 r0 i0 v0_1)
 | [], i0, v0_1, hd, ho0_0 => by
  have hc0 : (decide ((i0 : Int) < ((List.length p0) : Int))) = false := by have := Q1y hd; simp; omega
  rw [Q5y]
  exact Q1bw p0 H i0 v0_1 ho0_0 hc0
 | x0 :: r0, i0, v0_1, hd, ho0_0 => by
  obtain ⟨hx0, hi0, hd'⟩ := Q1v hd
  have hc0 : (decide ((i0 : Int) < ((List.length p0) : Int))) = true := by simp; omega
  rw [Q5y]
  exact Quq p0 (fun r hr => Q19i p0 H x0 i0 v0_1 hx0 hi0 ho0_0 hc0 hr) _ (Q112 p0 H r0 (i0 + 1) (v0_1 ++ [(Q1i x0)]) hd' (by first | omega | (simp; omega)))
def Qag (p0 : List ByteArray) : Val := vL (p0.map vS)
theorem Q230 (p0 : List ByteArray) : Qag p0 = ((Val.mk 4 0 eB (Q5y p0 p0 0 []) [])) := by
  rw [Q16y]
  kernel_rfl
def Q20u (p0 : List ByteArray) : En := .call 212 [.sl (Q10 p0)] []
def Q1rs (p0 : List ByteArray) : Rs := .ret (.agg (Val.cells (Qag p0))) []
def Q1lm (p0 : List ByteArray) : Prop := LSm (fun _ : ByteArray => True) p0
theorem Q1he (p0 : List ByteArray) (H : Q1lm p0) : (Qh1 p0) ∧ True := by
  exact ⟨⟨Nat.le_trans H.1 (Nat.le_of_ble_eq_true rfl), trivial⟩, trivial⟩
theorem Q25n (p0 : List ByteArray) (H : Q1lm p0) : Qd G (Q20u p0) (Q1rs p0) := by
 unfold Q1rs
 rw [Q230]
 have hl0 := Q112 p0 ((Q1he p0 H).1) p0 0 [] (by simp) (by simp)
 obtain ⟨z0, zo0, hl0⟩ := hl0
 exact Qj (fn := Ir.K2x) rfl VOK.nil [hS 0 true (Val.Qk (Q5y p0 p0 0 []) 5 rfl), hQ (Val.Qa (Q5y p0 p0 0 [])).symm] [aV [(1, Val.rows (Q5y p0 p0 0 []))] hl0] (by kernel_rfl)
def Q5w (p0 : List Requirement) : List Requirement → Nat → (List Val) → List Val
 | [], _i0, v0_1 =>
  v0_1
 | x0 :: r0, i0, v0_1 =>
  Q5w p0 r0 (i0 + 1) (v0_1 ++ [(Q1u ([(Fld.mk Q1m (Q1i x0.key)), (Fld.mk Q4b (Qt x0.op)), (Fld.mk Q20 (Qag x0.values))]))])
theorem Q16w (p0 : List Requirement) : ∀ (l : List Requirement) (i : Nat) (a : List Val), Q5w p0 l i a = a ++ l.map (fun x0 => (Q1u ([(Fld.mk Q1m (Q1i x0.key)), (Fld.mk Q4b (Qt x0.op)), (Fld.mk Q20 (Qag x0.values))])))
  | [], _, _ => by simp [Q5w]
  | x :: r, i, a => by rw [Q5w, Q16w p0 r]; simp
def Qxr (p0 : List Requirement) (i0 : Nat) (v0_1 : List Val) : List PV :=
  [.sl (Requirement.rows p0), .un, .bx 0 0, .ms 1 5 0 (List.length v0_1), .int .i64 (i0 : Int)] ++ nuns 34
def Qj6 (_p0 : List Requirement) (_i0 : Nat) (v0_1 : List Val) : List Ob :=
  [⟨5, 0, true, [.int .i64 0, .int .i64 0, .str eB, .ms 2 5 0 0, .ms 3 6 0 0]⟩, ⟨5, 0, true, (Val.rows v0_1).flatten⟩, ⟨5, 0, true, []⟩, ⟨6, 0, true, []⟩]
def Qfy (p0 : List Requirement) (i0 : Nat) (v0_1 : List Val) : En := .loop 0 Ir.Qkq Ir.Q1jx (Qxr p0 i0 v0_1) (Qj6 p0 i0 v0_1)
def Qpu (_p0 : List Requirement) (q0 : List Val) (z : Nat → PV) (_zo : Nat → List PV) : St :=
  ⟨[z 0, z 1, .bx 0 0, .ms 1 5 0 (List.length q0)] ++ zr z 4 35, [(0, ⟨5, 0, true, [.int .i64 0, .int .i64 0, .str eB, .ms 2 5 0 0, .ms 3 6 0 0]⟩), (1, ⟨5, 0, true, (Val.rows q0).flatten⟩), (2, ⟨5, 0, true, []⟩), (3, ⟨6, 0, true, []⟩)], 260⟩
theorem Q14l (p0 : List Requirement) (i0 : Nat) (v0_1 : List Val) : VOK (Go.Pv.look (number 0 (Qj6 p0 i0 v0_1))) [(1, Val.rows v0_1)] := (VOK.cons (show Seen _ _ from Q3r (ob := ⟨5, 0, true, (Val.rows v0_1).flatten⟩) (Val.Qk v0_1 5 rfl)) VOK.nil)
def Qhs (p0 : List Requirement) (e : En) (q : List Val) : Prop := ∃ z zo, Qd G e (.st (.exit 0) (Qpu p0 q z zo))
theorem Quo (p0 : List Requirement) {e e' : En} (h : ∀ r, Qd G e r → Qd G e' r) : ∀ q, Qhs p0 e q → Qhs p0 e' q
  | _, ⟨z, zo, hz⟩ => ⟨z, zo, h _ hz⟩
def Qgz (p0 : List Requirement) : Prop := (List.length p0 ≤ 137438953472) ∧ (∀ x0 ∈ p0, Q1lm x0.values) ∧ True
def Qrk (p0 : List Requirement) (i0 : Nat) (_v0_1 : List Val) : List PV :=
  [.sl (Requirement.rows p0), .un, .un, .un, .int .i64 (i0 : Int), .int .i64 (i0 : Int), .sl (Requirement.rows p0), .int .i64 ((List.length p0) : Int), .bool false]
def Qmi (_p0 : List Requirement) (_i0 : Nat) (_v0_1 : List Val) : List (Nat × List PV) :=
  []
theorem Q1bu (p0 : List Requirement) (_H : Qgz p0) (i0 : Nat) (v0_1 : List Val) (_ho0_0 : List.length v0_1 ≤ i0) (hc0 : (decide ((i0 : Int) < ((List.length p0) : Int))) = false) : Qhs p0 (Qfy p0 i0 v0_1) v0_1 := by
 exact ⟨(envF (Qrk p0 i0 v0_1)), (zoF (Qmi p0 i0 v0_1)), Qv (Q14l p0 i0 v0_1) (x := ((.exit 0), Qpu p0 v0_1 (envF (Qrk p0 i0 v0_1)) (zoF (Qmi p0 i0 v0_1)))) [hP 2 (Q1g (Requirement.rows p0) (List.length p0) (Requirement.Qa p0)), hB 0 hc0] [] (by kernel_rfl)⟩
theorem Q19g (p0 : List Requirement) (H : Qgz p0) (x0 : Requirement) (i0 : Nat) (v0_1 : List Val) (hx0 : p0[i0]? = some x0) (hi0 : i0 < List.length p0) (ho0_0 : List.length v0_1 ≤ i0) (hc0 : (decide ((i0 : Int) < ((List.length p0) : Int))) = true) {r : Rs} (hr : Qd G (Qfy p0 (i0 + 1) (v0_1 ++ [(Q1u ([(Fld.mk Q1m (Q1i x0.key)), (Fld.mk Q4b (Qt x0.op)), (Fld.mk Q20 (Qag x0.values))]))])) r) : Qd G (Qfy p0 i0 v0_1) r := by
 have hB0 := H.1
 exact Qu (Q14l p0 i0 v0_1) (y := (Qxr p0 (i0 + 1) (v0_1 ++ [(Q1u ([(Fld.mk Q1m (Q1i x0.key)), (Fld.mk Q4b (Qt x0.op)), (Fld.mk Q20 (Qag x0.values))]))]), Qj6 p0 (i0 + 1) (v0_1 ++ [(Q1u ([(Fld.mk Q1m (Q1i x0.key)), (Fld.mk Q4b (Qt x0.op)), (Fld.mk Q20 (Qag x0.values))]))]))) [hP 2 (Q1g (Requirement.rows p0) (List.length p0) (Requirement.Qa p0)), hB 0 hc0, hP 3 (Q35 3 (Requirement.rows p0) i0 _ (Requirement.Qz hx0) rfl), hP 6 (Q35 3 (Requirement.rows p0) i0 _ (Requirement.Qz hx0) rfl), hP 6 (Q35 3 (Requirement.rows p0) i0 _ (Requirement.Qz hx0) rfl), hV 7 [(1860, Val.rows (v0_1 ++ [(Q1u ([(Fld.mk Q1m (Q1i x0.key)), (Fld.mk Q4b (Qt x0.op)), (Fld.mk Q20 (Qag x0.values))]))]))] (Q4a 1 1796 1860 5 80 0 0 true (Val.rows v0_1) (Val.rows (v0_1 ++ [(Q1u ([(Fld.mk Q1m (Q1i x0.key)), (Fld.mk Q4b (Qt x0.op)), (Fld.mk Q20 (Qag x0.values))]))])) (Val.cells (Q1u ([(Fld.mk Q1m (Q1i x0.key)), (Fld.mk Q4b (Qt x0.op)), (Fld.mk Q20 (Qag x0.values))]))) (List.length v0_1) (List.length (v0_1 ++ [(Q1u ([(Fld.mk Q1m (Q1i x0.key)), (Fld.mk Q4b (Qt x0.op)), (Fld.mk Q20 (Qag x0.values))]))])) rfl (Val.Qa v0_1).symm (Val.Qa (v0_1 ++ [(Q1u ([(Fld.mk Q1m (Q1i x0.key)), (Fld.mk Q4b (Qt x0.op)), (Fld.mk Q20 (Qag x0.values))]))])).symm (Val.Q23 v0_1 (Q1u ([(Fld.mk Q1m (Q1i x0.key)), (Fld.mk Q4b (Qt x0.op)), (Fld.mk Q20 (Qag x0.values))]))) (Val.Q12 v0_1) rfl (by omega)), hS 0 true (Val.Qk (v0_1 ++ [(Q1u ([(Fld.mk Q1m (Q1i x0.key)), (Fld.mk Q4b (Qt x0.op)), (Fld.mk Q20 (Qag x0.values))]))]) 5 rfl), hP 2 (Q2s i0 (by omega))] [aN (Qdo x0.key), aN (Q4h x0.op), aN (Q25n x0.values (H.2.1 x0 (Q2z hx0))), aN (Q4k (e' := .call 163 [.sl [(Fld.cells (Fld.mk Q1m (Q1i x0.key))), (Fld.cells (Fld.mk Q4b (Qt x0.op))), (Fld.cells (Fld.mk Q20 (Qag x0.values)))]] []) (Q9s ([(Fld.mk Q1m (Q1i x0.key)), (Fld.mk Q4b (Qt x0.op)), (Fld.mk Q20 (Qag x0.values))]) (Nat.le_of_ble_eq_true rfl)) (by simp only [Q9a, Fld.Q1b, Fld.Q1r]))] (by kernel_rfl) hr
theorem Q110 (p0 : List Requirement) (H : Qgz p0) : ∀ (r0 : List Requirement) (i0 : Nat) (v0_1 : List Val), List.drop i0 p0 = r0 → List.length v0_1 ≤ i0 → Qhs p0 (Qfy p0 i0 v0_1) (Q5w p0 r0 i0 v0_1)
 | [], i0, v0_1, hd, ho0_0 => by
  have hc0 : (decide ((i0 : Int) < ((List.length p0) : Int))) = false := by have := Q1y hd; simp; omega
  rw [Q5w]
  exact Q1bu p0 H i0 v0_1 ho0_0 hc0
 | x0 :: r0, i0, v0_1, hd, ho0_0 => by
  obtain ⟨hx0, hi0, hd'⟩ := Q1v hd
  have hc0 : (decide ((i0 : Int) < ((List.length p0) : Int))) = true := by simp; omega
  rw [Q5w]
  exact Quo p0 (fun r hr => Q19g p0 H x0 i0 v0_1 hx0 hi0 ho0_0 hc0 hr) _ (Q110 p0 H r0 (i0 + 1) (v0_1 ++ [(Q1u ([(Fld.mk Q1m (Q1i x0.key)), (Fld.mk Q4b (Qt x0.op)), (Fld.mk Q20 (Qag x0.values))]))]) hd' (by first | omega | (simp; omega)))
def Q3q (p0 : List Requirement) : Val := vL (p0.map Requirement.enc)
theorem Q22y (p0 : List Requirement) : Q3q p0 = ((Val.mk 4 0 eB (Q5w p0 p0 0 []) [])) := by
  rw [Q16w]
  kernel_rfl
def Q20r (p0 : List Requirement) : En := .call 165 [.sl (Requirement.rows p0)] []
def Q1rp (p0 : List Requirement) : Rs := .ret (.agg (Val.cells (Q3q p0))) []
def Q129 (p0 : List Requirement) : Prop := LSm Requirement.sm p0
theorem Q1hc (p0 : List Requirement) (H : Q129 p0) : (Qgz p0) ∧ True := by
  exact ⟨⟨Nat.le_trans H.1 (Nat.le_of_ble_eq_true rfl), (by first | exact H.2 | exact fun x hx => (H.2 x hx).1 | exact fun x hx => (H.2 x hx).2.1 | exact fun x hx => (H.2 x hx).2.2.1 | exact fun x hx => (H.2 x hx).2.2.2.1 | exact fun x hx => (H.2 x hx).2.2.2.2.1), trivial⟩, trivial⟩
theorem Q1fx (p0 : List Requirement) (H : Q129 p0) : Qd G (Q20r p0) (Q1rp p0) := by
 unfold Q1rp
 rw [Q22y]
 have hl0 := Q110 p0 ((Q1hc p0 H).1) p0 0 [] (by simp) (by simp)
 obtain ⟨z0, zo0, hl0⟩ := hl0
 exact Qj (fn := Ir.K2s) rfl VOK.nil [hS 0 true (Val.Qk (Q5w p0 p0 0 []) 5 rfl), hQ (Val.Qa (Q5w p0 p0 0 [])).symm] [aV [(1, Val.rows (Q5w p0 p0 0 []))] hl0] (by kernel_rfl)
def Q5s (p0 : List Label) : List Label → Nat → (List Val) → List Val
 | [], _i0, v0_1 =>
  v0_1
 | x0 :: r0, i0, v0_1 =>
  Q5s p0 r0 (i0 + 1) (v0_1 ++ [(Q1u ([(Fld.mk Q1m (Q1i x0.key)), (Fld.mk Q1q (Q1i x0.value))]))])
theorem Q16s (p0 : List Label) : ∀ (l : List Label) (i : Nat) (a : List Val), Q5s p0 l i a = a ++ l.map (fun x0 => (Q1u ([(Fld.mk Q1m (Q1i x0.key)), (Fld.mk Q1q (Q1i x0.value))])))
  | [], _, _ => by simp [Q5s]
  | x :: r, i, a => by rw [Q5s, Q16s p0 r]; simp
def Qxm (p0 : List Label) (i0 : Nat) (v0_1 : List Val) : List PV :=
  [.sl (Label.rows p0), .un, .bx 0 0, .ms 1 5 0 (List.length v0_1), .int .i64 (i0 : Int)] ++ nuns 27
def Qj1 (_p0 : List Label) (_i0 : Nat) (v0_1 : List Val) : List Ob :=
  [⟨5, 0, true, [.int .i64 0, .int .i64 0, .str eB, .ms 2 5 0 0, .ms 3 6 0 0]⟩, ⟨5, 0, true, (Val.rows v0_1).flatten⟩, ⟨5, 0, true, []⟩, ⟨6, 0, true, []⟩]
def Qfu (p0 : List Label) (i0 : Nat) (v0_1 : List Val) : En := .loop 0 Ir.Qkk Ir.Q1jr (Qxm p0 i0 v0_1) (Qj1 p0 i0 v0_1)
def Qpp (_p0 : List Label) (q0 : List Val) (z : Nat → PV) (_zo : Nat → List PV) : St :=
  ⟨[z 0, z 1, .bx 0 0, .ms 1 5 0 (List.length q0)] ++ zr z 4 28, [(0, ⟨5, 0, true, [.int .i64 0, .int .i64 0, .str eB, .ms 2 5 0 0, .ms 3 6 0 0]⟩), (1, ⟨5, 0, true, (Val.rows q0).flatten⟩), (2, ⟨5, 0, true, []⟩), (3, ⟨6, 0, true, []⟩)], 260⟩
theorem Q14h (p0 : List Label) (i0 : Nat) (v0_1 : List Val) : VOK (Go.Pv.look (number 0 (Qj1 p0 i0 v0_1))) [(1, Val.rows v0_1)] := (VOK.cons (show Seen _ _ from Q3r (ob := ⟨5, 0, true, (Val.rows v0_1).flatten⟩) (Val.Qk v0_1 5 rfl)) VOK.nil)
def Qhn (p0 : List Label) (e : En) (q : List Val) : Prop := ∃ z zo, Qd G e (.st (.exit 0) (Qpp p0 q z zo))
theorem Quj (p0 : List Label) {e e' : En} (h : ∀ r, Qd G e r → Qd G e' r) : ∀ q, Qhn p0 e q → Qhn p0 e' q
  | _, ⟨z, zo, hz⟩ => ⟨z, zo, h _ hz⟩
def Qgv (p0 : List Label) : Prop := (List.length p0 ≤ 137438953472) ∧ True
def Qrd (p0 : List Label) (i0 : Nat) (_v0_1 : List Val) : List PV :=
  [.sl (Label.rows p0), .un, .un, .un, .int .i64 (i0 : Int), .int .i64 (i0 : Int), .sl (Label.rows p0), .int .i64 ((List.length p0) : Int), .bool false]
def Qmb (_p0 : List Label) (_i0 : Nat) (_v0_1 : List Val) : List (Nat × List PV) :=
  []
theorem Q1bn (p0 : List Label) (_H : Qgv p0) (i0 : Nat) (v0_1 : List Val) (_ho0_0 : List.length v0_1 ≤ i0) (hc0 : (decide ((i0 : Int) < ((List.length p0) : Int))) = false) : Qhn p0 (Qfu p0 i0 v0_1) v0_1 := by
 exact ⟨(envF (Qrd p0 i0 v0_1)), (zoF (Qmb p0 i0 v0_1)), Qv (Q14h p0 i0 v0_1) (x := ((.exit 0), Qpp p0 v0_1 (envF (Qrd p0 i0 v0_1)) (zoF (Qmb p0 i0 v0_1)))) [hP 2 (Q1g (Label.rows p0) (List.length p0) (Label.Qa p0)), hB 0 hc0] [] (by kernel_rfl)⟩
theorem Q199 (p0 : List Label) (H : Qgv p0) (x0 : Label) (i0 : Nat) (v0_1 : List Val) (hx0 : p0[i0]? = some x0) (hi0 : i0 < List.length p0) (ho0_0 : List.length v0_1 ≤ i0) (hc0 : (decide ((i0 : Int) < ((List.length p0) : Int))) = true) {r : Rs} (hr : Qd G (Qfu p0 (i0 + 1) (v0_1 ++ [(Q1u ([(Fld.mk Q1m (Q1i x0.key)), (Fld.mk Q1q (Q1i x0.value))]))])) r) : Qd G (Qfu p0 i0 v0_1) r := by
 have hB0 := H.1
 exact Qu (Q14h p0 i0 v0_1) (y := (Qxm p0 (i0 + 1) (v0_1 ++ [(Q1u ([(Fld.mk Q1m (Q1i x0.key)), (Fld.mk Q1q (Q1i x0.value))]))]), Qj1 p0 (i0 + 1) (v0_1 ++ [(Q1u ([(Fld.mk Q1m (Q1i x0.key)), (Fld.mk Q1q (Q1i x0.value))]))]))) [hP 2 (Q1g (Label.rows p0) (List.length p0) (Label.Qa p0)), hB 0 hc0, hP 3 (Q35 2 (Label.rows p0) i0 _ (Label.Qz hx0) rfl), hP 6 (Q35 2 (Label.rows p0) i0 _ (Label.Qz hx0) rfl), hV 7 [(1412, Val.rows (v0_1 ++ [(Q1u ([(Fld.mk Q1m (Q1i x0.key)), (Fld.mk Q1q (Q1i x0.value))]))]))] (Q4a 1 1348 1412 5 80 0 0 true (Val.rows v0_1) (Val.rows (v0_1 ++ [(Q1u ([(Fld.mk Q1m (Q1i x0.key)), (Fld.mk Q1q (Q1i x0.value))]))])) (Val.cells (Q1u ([(Fld.mk Q1m (Q1i x0.key)), (Fld.mk Q1q (Q1i x0.value))]))) (List.length v0_1) (List.length (v0_1 ++ [(Q1u ([(Fld.mk Q1m (Q1i x0.key)), (Fld.mk Q1q (Q1i x0.value))]))])) rfl (Val.Qa v0_1).symm (Val.Qa (v0_1 ++ [(Q1u ([(Fld.mk Q1m (Q1i x0.key)), (Fld.mk Q1q (Q1i x0.value))]))])).symm (Val.Q23 v0_1 (Q1u ([(Fld.mk Q1m (Q1i x0.key)), (Fld.mk Q1q (Q1i x0.value))]))) (Val.Q12 v0_1) rfl (by omega)), hS 0 true (Val.Qk (v0_1 ++ [(Q1u ([(Fld.mk Q1m (Q1i x0.key)), (Fld.mk Q1q (Q1i x0.value))]))]) 5 rfl), hP 2 (Q2s i0 (by omega))] [aN (Qdo x0.key), aN (Qdo x0.value), aN (Q4k (e' := .call 163 [.sl [(Fld.cells (Fld.mk Q1m (Q1i x0.key))), (Fld.cells (Fld.mk Q1q (Q1i x0.value)))]] []) (Q9s ([(Fld.mk Q1m (Q1i x0.key)), (Fld.mk Q1q (Q1i x0.value))]) (Nat.le_of_ble_eq_true rfl)) (by simp only [Q9a, Fld.Q1b, Fld.Q1r]))] (by kernel_rfl) hr
theorem Q10v (p0 : List Label) (H : Qgv p0) : ∀ (r0 : List Label) (i0 : Nat) (v0_1 : List Val), List.drop i0 p0 = r0 → List.length v0_1 ≤ i0 → Qhn p0 (Qfu p0 i0 v0_1) (Q5s p0 r0 i0 v0_1)
 | [], i0, v0_1, hd, ho0_0 => by
  have hc0 : (decide ((i0 : Int) < ((List.length p0) : Int))) = false := by have := Q1y hd; simp; omega
  rw [Q5s]
  exact Q1bn p0 H i0 v0_1 ho0_0 hc0
 | x0 :: r0, i0, v0_1, hd, ho0_0 => by
  obtain ⟨hx0, hi0, hd'⟩ := Q1v hd
  have hc0 : (decide ((i0 : Int) < ((List.length p0) : Int))) = true := by simp; omega
  rw [Q5s]
  exact Quj p0 (fun r hr => Q199 p0 H x0 i0 v0_1 hx0 hi0 ho0_0 hc0 hr) _ (Q10v p0 H r0 (i0 + 1) (v0_1 ++ [(Q1u ([(Fld.mk Q1m (Q1i x0.key)), (Fld.mk Q1q (Q1i x0.value))]))]) hd' (by first | omega | (simp; omega)))
def Q1fk (p0 : List Label) : Val := vL (p0.map Label.enc)
theorem Q22s (p0 : List Label) : Q1fk p0 = ((Val.mk 4 0 eB (Q5s p0 p0 0 []) [])) := by
  rw [Q16s]
  kernel_rfl
def Q20l (p0 : List Label) : En := .call 213 [.sl (Label.rows p0)] []
def Q1ri (p0 : List Label) : Rs := .ret (.agg (Val.cells (Q1fk p0))) []
def Q1lh (p0 : List Label) : Prop := LSm Label.sm p0
theorem Q1h8 (p0 : List Label) (H : Q1lh p0) : (Qgv p0) ∧ True := by
  exact ⟨⟨Nat.le_trans H.1 (Nat.le_of_ble_eq_true rfl), trivial⟩, trivial⟩
theorem Q25i (p0 : List Label) (H : Q1lh p0) : Qd G (Q20l p0) (Q1ri p0) := by
 unfold Q1ri
 rw [Q22s]
 have hl0 := Q10v p0 ((Q1h8 p0 H).1) p0 0 [] (by simp) (by simp)
 obtain ⟨z0, zo0, hl0⟩ := hl0
 exact Qj (fn := Ir.K2g) rfl VOK.nil [hS 0 true (Val.Qk (Q5s p0 p0 0 []) 5 rfl), hQ (Val.Qa (Q5s p0 p0 0 [])).symm] [aV [(1, Val.rows (Q5s p0 p0 0 []))] hl0] (by kernel_rfl)
def Q5c (p0 : Resources) : Val := Resources.enc p0
theorem Q22x (p0 : Resources) : Q5c p0 = ((Q1u ([(Fld.mk Q5o (Qt p0.cPU)), (Fld.mk Q3l (Qt p0.memory)), (Fld.mk Q54 (Qt p0.disk))]))) := by
  kernel_rfl
def Q20q (p0 : Resources) : En := .call 211 [.agg (Resources.cells p0)] []
def Q1ro (p0 : Resources) : Rs := .ret (.agg (Val.cells (Q5c p0))) []
theorem Q1uj (p0 : Resources) : Qd G (Q20q p0) (Q1ro p0) := by
 unfold Q1ro
 rw [Q22x]
 exact Qj (fn := Ir.K2r) rfl VOK.nil [] [aN (Q4h p0.cPU), aN (Q4h p0.memory), aN (Q4h p0.disk), aN (Q4k (e' := .call 163 [.sl [(Fld.cells (Fld.mk Q5o (Qt p0.cPU))), (Fld.cells (Fld.mk Q3l (Qt p0.memory))), (Fld.cells (Fld.mk Q54 (Qt p0.disk)))]] []) (Q9s ([(Fld.mk Q5o (Qt p0.cPU)), (Fld.mk Q3l (Qt p0.memory)), (Fld.mk Q54 (Qt p0.disk))]) (Nat.le_of_ble_eq_true rfl)) (by simp only [Q9a, Fld.Q1b, Fld.Q1r]))] (by kernel_rfl)
def Q5v (p0 : List Probe) : List Probe → Nat → (List Val) → List Val
 | [], _i0, v0_1 =>
  v0_1
 | x0 :: r0, i0, v0_1 =>
  Q5v p0 r0 (i0 + 1) (v0_1 ++ [(Q1u ([(Fld.mk Q2u (Qt x0.delay)), (Fld.mk Q1d (Qt x0.period)), (Fld.mk Q2c (Qt x0.success)), (Fld.mk Q2i (Qt x0.failure))]))])
theorem Q16v (p0 : List Probe) : ∀ (l : List Probe) (i : Nat) (a : List Val), Q5v p0 l i a = a ++ l.map (fun x0 => (Q1u ([(Fld.mk Q2u (Qt x0.delay)), (Fld.mk Q1d (Qt x0.period)), (Fld.mk Q2c (Qt x0.success)), (Fld.mk Q2i (Qt x0.failure))])))
  | [], _, _ => by simp [Q5v]
  | x :: r, i, a => by rw [Q5v, Q16v p0 r]; simp
def Qxq (p0 : List Probe) (i0 : Nat) (v0_1 : List Val) : List PV :=
  [.sl (Probe.rows p0), .un, .bx 0 0, .ms 1 5 0 (List.length v0_1), .int .i64 (i0 : Int)] ++ nuns 41
def Qj5 (_p0 : List Probe) (_i0 : Nat) (v0_1 : List Val) : List Ob :=
  [⟨5, 0, true, [.int .i64 0, .int .i64 0, .str eB, .ms 2 5 0 0, .ms 3 6 0 0]⟩, ⟨5, 0, true, (Val.rows v0_1).flatten⟩, ⟨5, 0, true, []⟩, ⟨6, 0, true, []⟩]
def Qfx (p0 : List Probe) (i0 : Nat) (v0_1 : List Val) : En := .loop 0 Ir.Qkp Ir.Q1jw (Qxq p0 i0 v0_1) (Qj5 p0 i0 v0_1)
def Qpt (_p0 : List Probe) (q0 : List Val) (z : Nat → PV) (_zo : Nat → List PV) : St :=
  ⟨[z 0, z 1, .bx 0 0, .ms 1 5 0 (List.length q0)] ++ zr z 4 42, [(0, ⟨5, 0, true, [.int .i64 0, .int .i64 0, .str eB, .ms 2 5 0 0, .ms 3 6 0 0]⟩), (1, ⟨5, 0, true, (Val.rows q0).flatten⟩), (2, ⟨5, 0, true, []⟩), (3, ⟨6, 0, true, []⟩)], 260⟩
theorem Q14k (p0 : List Probe) (i0 : Nat) (v0_1 : List Val) : VOK (Go.Pv.look (number 0 (Qj5 p0 i0 v0_1))) [(1, Val.rows v0_1)] := (VOK.cons (show Seen _ _ from Q3r (ob := ⟨5, 0, true, (Val.rows v0_1).flatten⟩) (Val.Qk v0_1 5 rfl)) VOK.nil)
def Qhr (p0 : List Probe) (e : En) (q : List Val) : Prop := ∃ z zo, Qd G e (.st (.exit 0) (Qpt p0 q z zo))
theorem Qun (p0 : List Probe) {e e' : En} (h : ∀ r, Qd G e r → Qd G e' r) : ∀ q, Qhr p0 e q → Qhr p0 e' q
  | _, ⟨z, zo, hz⟩ => ⟨z, zo, h _ hz⟩
def Qgy (p0 : List Probe) : Prop := (List.length p0 ≤ 137438953472) ∧ True
def Qrj (p0 : List Probe) (i0 : Nat) (_v0_1 : List Val) : List PV :=
  [.sl (Probe.rows p0), .un, .un, .un, .int .i64 (i0 : Int), .int .i64 (i0 : Int), .sl (Probe.rows p0), .int .i64 ((List.length p0) : Int), .bool false]
def Qmh (_p0 : List Probe) (_i0 : Nat) (_v0_1 : List Val) : List (Nat × List PV) :=
  []
theorem Q1bt (p0 : List Probe) (_H : Qgy p0) (i0 : Nat) (v0_1 : List Val) (_ho0_0 : List.length v0_1 ≤ i0) (hc0 : (decide ((i0 : Int) < ((List.length p0) : Int))) = false) : Qhr p0 (Qfx p0 i0 v0_1) v0_1 := by
 exact ⟨(envF (Qrj p0 i0 v0_1)), (zoF (Qmh p0 i0 v0_1)), Qv (Q14k p0 i0 v0_1) (x := ((.exit 0), Qpt p0 v0_1 (envF (Qrj p0 i0 v0_1)) (zoF (Qmh p0 i0 v0_1)))) [hP 2 (Q1g (Probe.rows p0) (List.length p0) (Probe.Qa p0)), hB 0 hc0] [] (by kernel_rfl)⟩
theorem Q19f (p0 : List Probe) (H : Qgy p0) (x0 : Probe) (i0 : Nat) (v0_1 : List Val) (hx0 : p0[i0]? = some x0) (hi0 : i0 < List.length p0) (ho0_0 : List.length v0_1 ≤ i0) (hc0 : (decide ((i0 : Int) < ((List.length p0) : Int))) = true) {r : Rs} (hr : Qd G (Qfx p0 (i0 + 1) (v0_1 ++ [(Q1u ([(Fld.mk Q2u (Qt x0.delay)), (Fld.mk Q1d (Qt x0.period)), (Fld.mk Q2c (Qt x0.success)), (Fld.mk Q2i (Qt x0.failure))]))])) r) : Qd G (Qfx p0 i0 v0_1) r := by
 have hB0 := H.1
 exact Qu (Q14k p0 i0 v0_1) (y := (Qxq p0 (i0 + 1) (v0_1 ++ [(Q1u ([(Fld.mk Q2u (Qt x0.delay)), (Fld.mk Q1d (Qt x0.period)), (Fld.mk Q2c (Qt x0.success)), (Fld.mk Q2i (Qt x0.failure))]))]), Qj5 p0 (i0 + 1) (v0_1 ++ [(Q1u ([(Fld.mk Q2u (Qt x0.delay)), (Fld.mk Q1d (Qt x0.period)), (Fld.mk Q2c (Qt x0.success)), (Fld.mk Q2i (Qt x0.failure))]))]))) [hP 2 (Q1g (Probe.rows p0) (List.length p0) (Probe.Qa p0)), hB 0 hc0, hP 3 (Q35 4 (Probe.rows p0) i0 _ (Probe.Qz hx0) rfl), hP 6 (Q35 4 (Probe.rows p0) i0 _ (Probe.Qz hx0) rfl), hP 6 (Q35 4 (Probe.rows p0) i0 _ (Probe.Qz hx0) rfl), hP 6 (Q35 4 (Probe.rows p0) i0 _ (Probe.Qz hx0) rfl), hV 7 [(2308, Val.rows (v0_1 ++ [(Q1u ([(Fld.mk Q2u (Qt x0.delay)), (Fld.mk Q1d (Qt x0.period)), (Fld.mk Q2c (Qt x0.success)), (Fld.mk Q2i (Qt x0.failure))]))]))] (Q4a 1 2244 2308 5 80 0 0 true (Val.rows v0_1) (Val.rows (v0_1 ++ [(Q1u ([(Fld.mk Q2u (Qt x0.delay)), (Fld.mk Q1d (Qt x0.period)), (Fld.mk Q2c (Qt x0.success)), (Fld.mk Q2i (Qt x0.failure))]))])) (Val.cells (Q1u ([(Fld.mk Q2u (Qt x0.delay)), (Fld.mk Q1d (Qt x0.period)), (Fld.mk Q2c (Qt x0.success)), (Fld.mk Q2i (Qt x0.failure))]))) (List.length v0_1) (List.length (v0_1 ++ [(Q1u ([(Fld.mk Q2u (Qt x0.delay)), (Fld.mk Q1d (Qt x0.period)), (Fld.mk Q2c (Qt x0.success)), (Fld.mk Q2i (Qt x0.failure))]))])) rfl (Val.Qa v0_1).symm (Val.Qa (v0_1 ++ [(Q1u ([(Fld.mk Q2u (Qt x0.delay)), (Fld.mk Q1d (Qt x0.period)), (Fld.mk Q2c (Qt x0.success)), (Fld.mk Q2i (Qt x0.failure))]))])).symm (Val.Q23 v0_1 (Q1u ([(Fld.mk Q2u (Qt x0.delay)), (Fld.mk Q1d (Qt x0.period)), (Fld.mk Q2c (Qt x0.success)), (Fld.mk Q2i (Qt x0.failure))]))) (Val.Q12 v0_1) rfl (by omega)), hS 0 true (Val.Qk (v0_1 ++ [(Q1u ([(Fld.mk Q2u (Qt x0.delay)), (Fld.mk Q1d (Qt x0.period)), (Fld.mk Q2c (Qt x0.success)), (Fld.mk Q2i (Qt x0.failure))]))]) 5 rfl), hP 2 (Q2s i0 (by omega))] [aN (Q4h x0.delay), aN (Q4h x0.period), aN (Q4h x0.success), aN (Q4h x0.failure), aN (Q4k (e' := .call 163 [.sl [(Fld.cells (Fld.mk Q2u (Qt x0.delay))), (Fld.cells (Fld.mk Q1d (Qt x0.period))), (Fld.cells (Fld.mk Q2c (Qt x0.success))), (Fld.cells (Fld.mk Q2i (Qt x0.failure)))]] []) (Q9s ([(Fld.mk Q2u (Qt x0.delay)), (Fld.mk Q1d (Qt x0.period)), (Fld.mk Q2c (Qt x0.success)), (Fld.mk Q2i (Qt x0.failure))]) (Nat.le_of_ble_eq_true rfl)) (by simp only [Q9a, Fld.Q1b, Fld.Q1r]))] (by kernel_rfl) hr
theorem Q10z (p0 : List Probe) (H : Qgy p0) : ∀ (r0 : List Probe) (i0 : Nat) (v0_1 : List Val), List.drop i0 p0 = r0 → List.length v0_1 ≤ i0 → Qhr p0 (Qfx p0 i0 v0_1) (Q5v p0 r0 i0 v0_1)
 | [], i0, v0_1, hd, ho0_0 => by
  have hc0 : (decide ((i0 : Int) < ((List.length p0) : Int))) = false := by have := Q1y hd; simp; omega
  rw [Q5v]
  exact Q1bt p0 H i0 v0_1 ho0_0 hc0
 | x0 :: r0, i0, v0_1, hd, ho0_0 => by
  obtain ⟨hx0, hi0, hd'⟩ := Q1v hd
  have hc0 : (decide ((i0 : Int) < ((List.length p0) : Int))) = true := by simp; omega
  rw [Q5v]
  exact Qun p0 (fun r hr => Q19f p0 H x0 i0 v0_1 hx0 hi0 ho0_0 hc0 hr) _ (Q10z p0 H r0 (i0 + 1) (v0_1 ++ [(Q1u ([(Fld.mk Q2u (Qt x0.delay)), (Fld.mk Q1d (Qt x0.period)), (Fld.mk Q2c (Qt x0.success)), (Fld.mk Q2i (Qt x0.failure))]))]) hd' (by first | omega | (simp; omega)))
def Q3y (p0 : List Probe) : Val := vL (p0.map Probe.enc)
theorem Q22w (p0 : List Probe) : Q3y p0 = ((Val.mk 4 0 eB (Q5v p0 p0 0 []) [])) := by
  rw [Q16v]
  kernel_rfl
def Q20p (p0 : List Probe) : En := .call 274 [.sl (Probe.rows p0)] []
def Q1rn (p0 : List Probe) : Rs := .ret (.agg (Val.cells (Q3y p0))) []
def Q1cj (p0 : List Probe) : Prop := LSm Probe.sm p0
theorem Q1hb (p0 : List Probe) (H : Q1cj p0) : (Qgy p0) ∧ True := by
  exact ⟨⟨Nat.le_trans H.1 (Nat.le_of_ble_eq_true rfl), trivial⟩, trivial⟩
theorem Q1my (p0 : List Probe) (H : Q1cj p0) : Qd G (Q20p p0) (Q1rn p0) := by
 unfold Q1rn
 rw [Q22w]
 have hl0 := Q10z p0 ((Q1hb p0 H).1) p0 0 [] (by simp) (by simp)
 obtain ⟨z0, zo0, hl0⟩ := hl0
 exact Qj (fn := Ir.K2n) rfl VOK.nil [hS 0 true (Val.Qk (Q5v p0 p0 0 []) 5 rfl), hQ (Val.Qa (Q5v p0 p0 0 [])).symm] [aV [(1, Val.rows (Q5v p0 p0 0 []))] hl0] (by kernel_rfl)
def Q5r (p0 : List Container) : List Container → Nat → (List Val) → List Val
 | [], _i0, v0_1 =>
  v0_1
 | x0 :: r0, i0, v0_1 =>
  Q5r p0 r0 (i0 + 1) (v0_1 ++ [(Q1u ([(Fld.mk Q17 (Q1i x0.name)), (Fld.mk Q1f (Q1i x0.image)), (Fld.mk Qx (Q5c x0.request)), (Fld.mk Q28 (Q5c x0.limit)), (Fld.mk Q3e (Q3y x0.live)), (Fld.mk Q1w (Q3y x0.ready)), (Fld.mk Q2k (Q3y x0.startup))]))])
theorem Q16r (p0 : List Container) : ∀ (l : List Container) (i : Nat) (a : List Val), Q5r p0 l i a = a ++ l.map (fun x0 => (Q1u ([(Fld.mk Q17 (Q1i x0.name)), (Fld.mk Q1f (Q1i x0.image)), (Fld.mk Qx (Q5c x0.request)), (Fld.mk Q28 (Q5c x0.limit)), (Fld.mk Q3e (Q3y x0.live)), (Fld.mk Q1w (Q3y x0.ready)), (Fld.mk Q2k (Q3y x0.startup))])))
  | [], _, _ => by simp [Q5r]
  | x :: r, i, a => by rw [Q5r, Q16r p0 r]; simp
def Qxl (p0 : List Container) (i0 : Nat) (v0_1 : List Val) : List PV :=
  [.sl (Container.rows p0), .un, .bx 0 0, .ms 1 5 0 (List.length v0_1), .int .i64 (i0 : Int)] ++ nuns 46
def Qj0 (_p0 : List Container) (_i0 : Nat) (v0_1 : List Val) : List Ob :=
  [⟨5, 0, true, [.int .i64 0, .int .i64 0, .str eB, .ms 2 5 0 0, .ms 3 6 0 0]⟩, ⟨5, 0, true, (Val.rows v0_1).flatten⟩, ⟨5, 0, true, []⟩, ⟨6, 0, true, []⟩]
def Qft (p0 : List Container) (i0 : Nat) (v0_1 : List Val) : En := .loop 0 Ir.Qkj Ir.Q1jq (Qxl p0 i0 v0_1) (Qj0 p0 i0 v0_1)
def Qpo (_p0 : List Container) (q0 : List Val) (z : Nat → PV) (_zo : Nat → List PV) : St :=
  ⟨[z 0, z 1, .bx 0 0, .ms 1 5 0 (List.length q0)] ++ zr z 4 47, [(0, ⟨5, 0, true, [.int .i64 0, .int .i64 0, .str eB, .ms 2 5 0 0, .ms 3 6 0 0]⟩), (1, ⟨5, 0, true, (Val.rows q0).flatten⟩), (2, ⟨5, 0, true, []⟩), (3, ⟨6, 0, true, []⟩)], 260⟩
theorem Q14g (p0 : List Container) (i0 : Nat) (v0_1 : List Val) : VOK (Go.Pv.look (number 0 (Qj0 p0 i0 v0_1))) [(1, Val.rows v0_1)] := (VOK.cons (show Seen _ _ from Q3r (ob := ⟨5, 0, true, (Val.rows v0_1).flatten⟩) (Val.Qk v0_1 5 rfl)) VOK.nil)
def Qhm (p0 : List Container) (e : En) (q : List Val) : Prop := ∃ z zo, Qd G e (.st (.exit 0) (Qpo p0 q z zo))
theorem Qui (p0 : List Container) {e e' : En} (h : ∀ r, Qd G e r → Qd G e' r) : ∀ q, Qhm p0 e q → Qhm p0 e' q
  | _, ⟨z, zo, hz⟩ => ⟨z, zo, h _ hz⟩
def Qgu (p0 : List Container) : Prop := (List.length p0 ≤ 137438953472) ∧ (∀ x0 ∈ p0, Q1cj x0.live) ∧ (∀ x0 ∈ p0, Q1cj x0.ready) ∧ (∀ x0 ∈ p0, Q1cj x0.startup) ∧ True
def Qrc (p0 : List Container) (i0 : Nat) (_v0_1 : List Val) : List PV :=
  [.sl (Container.rows p0), .un, .un, .un, .int .i64 (i0 : Int), .un, .int .i64 (i0 : Int), .sl (Container.rows p0), .int .i64 ((List.length p0) : Int), .bool false]
def Qma (_p0 : List Container) (_i0 : Nat) (_v0_1 : List Val) : List (Nat × List PV) :=
  []
theorem Q1bm (p0 : List Container) (_H : Qgu p0) (i0 : Nat) (v0_1 : List Val) (_ho0_0 : List.length v0_1 ≤ i0) (hc0 : (decide ((i0 : Int) < ((List.length p0) : Int))) = false) : Qhm p0 (Qft p0 i0 v0_1) v0_1 := by
 exact ⟨(envF (Qrc p0 i0 v0_1)), (zoF (Qma p0 i0 v0_1)), Qv (Q14g p0 i0 v0_1) (x := ((.exit 0), Qpo p0 v0_1 (envF (Qrc p0 i0 v0_1)) (zoF (Qma p0 i0 v0_1)))) [hP 2 (Q1g (Container.rows p0) (List.length p0) (Container.Qa p0)), hB 0 hc0] [] (by kernel_rfl)⟩
theorem Q198 (p0 : List Container) (H : Qgu p0) (x0 : Container) (i0 : Nat) (v0_1 : List Val) (hx0 : p0[i0]? = some x0) (hi0 : i0 < List.length p0) (ho0_0 : List.length v0_1 ≤ i0) (hc0 : (decide ((i0 : Int) < ((List.length p0) : Int))) = true) {r : Rs} (hr : Qd G (Qft p0 (i0 + 1) (v0_1 ++ [(Q1u ([(Fld.mk Q17 (Q1i x0.name)), (Fld.mk Q1f (Q1i x0.image)), (Fld.mk Qx (Q5c x0.request)), (Fld.mk Q28 (Q5c x0.limit)), (Fld.mk Q3e (Q3y x0.live)), (Fld.mk Q1w (Q3y x0.ready)), (Fld.mk Q2k (Q3y x0.startup))]))])) r) : Qd G (Qft p0 i0 v0_1) r := by
 have hB0 := H.1
 exact Qu (Q14g p0 i0 v0_1) (y := (Qxl p0 (i0 + 1) (v0_1 ++ [(Q1u ([(Fld.mk Q17 (Q1i x0.name)), (Fld.mk Q1f (Q1i x0.image)), (Fld.mk Qx (Q5c x0.request)), (Fld.mk Q28 (Q5c x0.limit)), (Fld.mk Q3e (Q3y x0.live)), (Fld.mk Q1w (Q3y x0.ready)), (Fld.mk Q2k (Q3y x0.startup))]))]), Qj0 p0 (i0 + 1) (v0_1 ++ [(Q1u ([(Fld.mk Q17 (Q1i x0.name)), (Fld.mk Q1f (Q1i x0.image)), (Fld.mk Qx (Q5c x0.request)), (Fld.mk Q28 (Q5c x0.limit)), (Fld.mk Q3e (Q3y x0.live)), (Fld.mk Q1w (Q3y x0.ready)), (Fld.mk Q2k (Q3y x0.startup))]))]))) [hP 2 (Q1g (Container.rows p0) (List.length p0) (Container.Qa p0)), hB 0 hc0, hP 2 (Q35 11 (Container.rows p0) i0 _ (Container.Qz hx0) rfl), hV 35 [(2692, Val.rows (v0_1 ++ [(Q1u ([(Fld.mk Q17 (Q1i x0.name)), (Fld.mk Q1f (Q1i x0.image)), (Fld.mk Qx (Q5c x0.request)), (Fld.mk Q28 (Q5c x0.limit)), (Fld.mk Q3e (Q3y x0.live)), (Fld.mk Q1w (Q3y x0.ready)), (Fld.mk Q2k (Q3y x0.startup))]))]))] (Q4a 1 2628 2692 5 80 0 0 true (Val.rows v0_1) (Val.rows (v0_1 ++ [(Q1u ([(Fld.mk Q17 (Q1i x0.name)), (Fld.mk Q1f (Q1i x0.image)), (Fld.mk Qx (Q5c x0.request)), (Fld.mk Q28 (Q5c x0.limit)), (Fld.mk Q3e (Q3y x0.live)), (Fld.mk Q1w (Q3y x0.ready)), (Fld.mk Q2k (Q3y x0.startup))]))])) (Val.cells (Q1u ([(Fld.mk Q17 (Q1i x0.name)), (Fld.mk Q1f (Q1i x0.image)), (Fld.mk Qx (Q5c x0.request)), (Fld.mk Q28 (Q5c x0.limit)), (Fld.mk Q3e (Q3y x0.live)), (Fld.mk Q1w (Q3y x0.ready)), (Fld.mk Q2k (Q3y x0.startup))]))) (List.length v0_1) (List.length (v0_1 ++ [(Q1u ([(Fld.mk Q17 (Q1i x0.name)), (Fld.mk Q1f (Q1i x0.image)), (Fld.mk Qx (Q5c x0.request)), (Fld.mk Q28 (Q5c x0.limit)), (Fld.mk Q3e (Q3y x0.live)), (Fld.mk Q1w (Q3y x0.ready)), (Fld.mk Q2k (Q3y x0.startup))]))])) rfl (Val.Qa v0_1).symm (Val.Qa (v0_1 ++ [(Q1u ([(Fld.mk Q17 (Q1i x0.name)), (Fld.mk Q1f (Q1i x0.image)), (Fld.mk Qx (Q5c x0.request)), (Fld.mk Q28 (Q5c x0.limit)), (Fld.mk Q3e (Q3y x0.live)), (Fld.mk Q1w (Q3y x0.ready)), (Fld.mk Q2k (Q3y x0.startup))]))])).symm (Val.Q23 v0_1 (Q1u ([(Fld.mk Q17 (Q1i x0.name)), (Fld.mk Q1f (Q1i x0.image)), (Fld.mk Qx (Q5c x0.request)), (Fld.mk Q28 (Q5c x0.limit)), (Fld.mk Q3e (Q3y x0.live)), (Fld.mk Q1w (Q3y x0.ready)), (Fld.mk Q2k (Q3y x0.startup))]))) (Val.Q12 v0_1) rfl (by omega)), hS 0 true (Val.Qk (v0_1 ++ [(Q1u ([(Fld.mk Q17 (Q1i x0.name)), (Fld.mk Q1f (Q1i x0.image)), (Fld.mk Qx (Q5c x0.request)), (Fld.mk Q28 (Q5c x0.limit)), (Fld.mk Q3e (Q3y x0.live)), (Fld.mk Q1w (Q3y x0.ready)), (Fld.mk Q2k (Q3y x0.startup))]))]) 5 rfl), hP 2 (Q2s i0 (by omega))] [aN (Qdo x0.name), aN (Qdo x0.image), aN (Q1uj x0.request), aN (Q1uj x0.limit), aN (Q1my x0.live (H.2.1 x0 (Q2z hx0))), aN (Q1my x0.ready (H.2.2.1 x0 (Q2z hx0))), aN (Q1my x0.startup (H.2.2.2.1 x0 (Q2z hx0))), aN (Q4k (e' := .call 163 [.sl [(Fld.cells (Fld.mk Q17 (Q1i x0.name))), (Fld.cells (Fld.mk Q1f (Q1i x0.image))), (Fld.cells (Fld.mk Qx (Q5c x0.request))), (Fld.cells (Fld.mk Q28 (Q5c x0.limit))), (Fld.cells (Fld.mk Q3e (Q3y x0.live))), (Fld.cells (Fld.mk Q1w (Q3y x0.ready))), (Fld.cells (Fld.mk Q2k (Q3y x0.startup)))]] []) (Q9s ([(Fld.mk Q17 (Q1i x0.name)), (Fld.mk Q1f (Q1i x0.image)), (Fld.mk Qx (Q5c x0.request)), (Fld.mk Q28 (Q5c x0.limit)), (Fld.mk Q3e (Q3y x0.live)), (Fld.mk Q1w (Q3y x0.ready)), (Fld.mk Q2k (Q3y x0.startup))]) (Nat.le_of_ble_eq_true rfl)) (by simp only [Q9a, Fld.Q1b, Fld.Q1r]))] (by kernel_rfl) hr
theorem Q10u (p0 : List Container) (H : Qgu p0) : ∀ (r0 : List Container) (i0 : Nat) (v0_1 : List Val), List.drop i0 p0 = r0 → List.length v0_1 ≤ i0 → Qhm p0 (Qft p0 i0 v0_1) (Q5r p0 r0 i0 v0_1)
 | [], i0, v0_1, hd, ho0_0 => by
  have hc0 : (decide ((i0 : Int) < ((List.length p0) : Int))) = false := by have := Q1y hd; simp; omega
  rw [Q5r]
  exact Q1bm p0 H i0 v0_1 ho0_0 hc0
 | x0 :: r0, i0, v0_1, hd, ho0_0 => by
  obtain ⟨hx0, hi0, hd'⟩ := Q1v hd
  have hc0 : (decide ((i0 : Int) < ((List.length p0) : Int))) = true := by simp; omega
  rw [Q5r]
  exact Qui p0 (fun r hr => Q198 p0 H x0 i0 v0_1 hx0 hi0 ho0_0 hc0 hr) _ (Q10u p0 H r0 (i0 + 1) (v0_1 ++ [(Q1u ([(Fld.mk Q17 (Q1i x0.name)), (Fld.mk Q1f (Q1i x0.image)), (Fld.mk Qx (Q5c x0.request)), (Fld.mk Q28 (Q5c x0.limit)), (Fld.mk Q3e (Q3y x0.live)), (Fld.mk Q1w (Q3y x0.ready)), (Fld.mk Q2k (Q3y x0.startup))]))]) hd' (by first | omega | (simp; omega)))
def Q1fj (p0 : List Container) : Val := vL (p0.map Container.enc)
theorem Q22q (p0 : List Container) : Q1fj p0 = ((Val.mk 4 0 eB (Q5r p0 p0 0 []) [])) := by
  rw [Q16r]
  kernel_rfl
def Q20i (p0 : List Container) : En := .call 233 [.sl (Container.rows p0)] []
def Q1rf (p0 : List Container) : Rs := .ret (.agg (Val.cells (Q1fj p0))) []
def Q1lf (p0 : List Container) : Prop := LSm Container.sm p0
theorem Q1h7 (p0 : List Container) (H : Q1lf p0) : (Qgu p0) ∧ True := by
  exact ⟨⟨Nat.le_trans H.1 (Nat.le_of_ble_eq_true rfl), (by first | exact H.2 | exact fun x hx => (H.2 x hx).1 | exact fun x hx => (H.2 x hx).2.1 | exact fun x hx => (H.2 x hx).2.2.1 | exact fun x hx => (H.2 x hx).2.2.2.1 | exact fun x hx => (H.2 x hx).2.2.2.2.1), (by first | exact H.2 | exact fun x hx => (H.2 x hx).1 | exact fun x hx => (H.2 x hx).2.1 | exact fun x hx => (H.2 x hx).2.2.1 | exact fun x hx => (H.2 x hx).2.2.2.1 | exact fun x hx => (H.2 x hx).2.2.2.2.1), (by first | exact H.2 | exact fun x hx => (H.2 x hx).1 | exact fun x hx => (H.2 x hx).2.1 | exact fun x hx => (H.2 x hx).2.2.1 | exact fun x hx => (H.2 x hx).2.2.2.1 | exact fun x hx => (H.2 x hx).2.2.2.2.1), trivial⟩, trivial⟩
theorem Q25g (p0 : List Container) (H : Q1lf p0) : Qd G (Q20i p0) (Q1rf p0) := by
 unfold Q1rf
 rw [Q22q]
 have hl0 := Q10u p0 ((Q1h7 p0 H).1) p0 0 [] (by simp) (by simp)
 obtain ⟨z0, zo0, hl0⟩ := hl0
 exact Qj (fn := Ir.K27) rfl VOK.nil [hS 0 true (Val.Qk (Q5r p0 p0 0 []) 5 rfl), hQ (Val.Qa (Q5r p0 p0 0 [])).symm] [aV [(1, Val.rows (Q5r p0 p0 0 []))] hl0] (by kernel_rfl)
def Q2t (p0 : Bool) : Val := vB p0
theorem Q22p (p0 : Bool) : Q2t p0 = (bif p0 then
    (Val.mk 1 1 eB [] [])
  else
    (Val.mk 1 0 eB [] [])) := by
  cases p0 <;> rfl
def Q20h (p0 : Bool) : En := .call 167 [.bool p0] []
def Q1re (p0 : Bool) : Rs := .ret (.agg (Val.cells (Q2t p0))) []
theorem Qwu (p0 : Bool) : Qd G (Q20h p0) (Q1re p0) := by
 unfold Q1re
 rw [Q22p]
 cases h0 : p0 with
 | true =>
  exact Qj (fn := Ir.K24) rfl VOK.nil [] [] (by kernel_rfl)
 | false =>
  exact Qj (fn := Ir.K24) rfl VOK.nil [] [] (by kernel_rfl)
def Q5t (p0 : List NodeTerm) : List NodeTerm → Nat → (List Val) → List Val
 | [], _i0, v0_1 =>
  v0_1
 | x0 :: r0, i0, v0_1 =>
  Q5t p0 r0 (i0 + 1) (v0_1 ++ [(Q1u ([(Fld.mk Qo (Q2t x0.required)), (Fld.mk Qh (Q3q x0.selector)), (Fld.mk Q1k (Qt x0.weight))]))])
theorem Q16t (p0 : List NodeTerm) : ∀ (l : List NodeTerm) (i : Nat) (a : List Val), Q5t p0 l i a = a ++ l.map (fun x0 => (Q1u ([(Fld.mk Qo (Q2t x0.required)), (Fld.mk Qh (Q3q x0.selector)), (Fld.mk Q1k (Qt x0.weight))])))
  | [], _, _ => by simp [Q5t]
  | x :: r, i, a => by rw [Q5t, Q16t p0 r]; simp
def Qxo (p0 : List NodeTerm) (i0 : Nat) (v0_1 : List Val) : List PV :=
  [.sl (NodeTerm.rows p0), .un, .bx 0 0, .ms 1 5 0 (List.length v0_1), .int .i64 (i0 : Int)] ++ nuns 34
def Qj3 (_p0 : List NodeTerm) (_i0 : Nat) (v0_1 : List Val) : List Ob :=
  [⟨5, 0, true, [.int .i64 0, .int .i64 0, .str eB, .ms 2 5 0 0, .ms 3 6 0 0]⟩, ⟨5, 0, true, (Val.rows v0_1).flatten⟩, ⟨5, 0, true, []⟩, ⟨6, 0, true, []⟩]
def Qfv (p0 : List NodeTerm) (i0 : Nat) (v0_1 : List Val) : En := .loop 0 Ir.Qkn Ir.Q1ju (Qxo p0 i0 v0_1) (Qj3 p0 i0 v0_1)
def Qpr (_p0 : List NodeTerm) (q0 : List Val) (z : Nat → PV) (_zo : Nat → List PV) : St :=
  ⟨[z 0, z 1, .bx 0 0, .ms 1 5 0 (List.length q0)] ++ zr z 4 35, [(0, ⟨5, 0, true, [.int .i64 0, .int .i64 0, .str eB, .ms 2 5 0 0, .ms 3 6 0 0]⟩), (1, ⟨5, 0, true, (Val.rows q0).flatten⟩), (2, ⟨5, 0, true, []⟩), (3, ⟨6, 0, true, []⟩)], 260⟩
theorem Q14i (p0 : List NodeTerm) (i0 : Nat) (v0_1 : List Val) : VOK (Go.Pv.look (number 0 (Qj3 p0 i0 v0_1))) [(1, Val.rows v0_1)] := (VOK.cons (show Seen _ _ from Q3r (ob := ⟨5, 0, true, (Val.rows v0_1).flatten⟩) (Val.Qk v0_1 5 rfl)) VOK.nil)
def Qhp (p0 : List NodeTerm) (e : En) (q : List Val) : Prop := ∃ z zo, Qd G e (.st (.exit 0) (Qpr p0 q z zo))
theorem Qul (p0 : List NodeTerm) {e e' : En} (h : ∀ r, Qd G e r → Qd G e' r) : ∀ q, Qhp p0 e q → Qhp p0 e' q
  | _, ⟨z, zo, hz⟩ => ⟨z, zo, h _ hz⟩
def Qgw (p0 : List NodeTerm) : Prop := (List.length p0 ≤ 137438953472) ∧ (∀ x0 ∈ p0, Q129 x0.selector) ∧ True
def Qrh (p0 : List NodeTerm) (i0 : Nat) (_v0_1 : List Val) : List PV :=
  [.sl (NodeTerm.rows p0), .un, .un, .un, .int .i64 (i0 : Int), .int .i64 (i0 : Int), .sl (NodeTerm.rows p0), .int .i64 ((List.length p0) : Int), .bool false]
def Qmf (_p0 : List NodeTerm) (_i0 : Nat) (_v0_1 : List Val) : List (Nat × List PV) :=
  []
theorem Q1br (p0 : List NodeTerm) (_H : Qgw p0) (i0 : Nat) (v0_1 : List Val) (_ho0_0 : List.length v0_1 ≤ i0) (hc0 : (decide ((i0 : Int) < ((List.length p0) : Int))) = false) : Qhp p0 (Qfv p0 i0 v0_1) v0_1 := by
 exact ⟨(envF (Qrh p0 i0 v0_1)), (zoF (Qmf p0 i0 v0_1)), Qv (Q14i p0 i0 v0_1) (x := ((.exit 0), Qpr p0 v0_1 (envF (Qrh p0 i0 v0_1)) (zoF (Qmf p0 i0 v0_1)))) [hP 2 (Q1g (NodeTerm.rows p0) (List.length p0) (NodeTerm.Qa p0)), hB 0 hc0] [] (by kernel_rfl)⟩
theorem Q19d (p0 : List NodeTerm) (H : Qgw p0) (x0 : NodeTerm) (i0 : Nat) (v0_1 : List Val) (hx0 : p0[i0]? = some x0) (hi0 : i0 < List.length p0) (ho0_0 : List.length v0_1 ≤ i0) (hc0 : (decide ((i0 : Int) < ((List.length p0) : Int))) = true) {r : Rs} (hr : Qd G (Qfv p0 (i0 + 1) (v0_1 ++ [(Q1u ([(Fld.mk Qo (Q2t x0.required)), (Fld.mk Qh (Q3q x0.selector)), (Fld.mk Q1k (Qt x0.weight))]))])) r) : Qd G (Qfv p0 i0 v0_1) r := by
 have hB0 := H.1
 exact Qu (Q14i p0 i0 v0_1) (y := (Qxo p0 (i0 + 1) (v0_1 ++ [(Q1u ([(Fld.mk Qo (Q2t x0.required)), (Fld.mk Qh (Q3q x0.selector)), (Fld.mk Q1k (Qt x0.weight))]))]), Qj3 p0 (i0 + 1) (v0_1 ++ [(Q1u ([(Fld.mk Qo (Q2t x0.required)), (Fld.mk Qh (Q3q x0.selector)), (Fld.mk Q1k (Qt x0.weight))]))]))) [hP 2 (Q1g (NodeTerm.rows p0) (List.length p0) (NodeTerm.Qa p0)), hB 0 hc0, hP 3 (Q35 3 (NodeTerm.rows p0) i0 _ (NodeTerm.Qz hx0) rfl), hP 6 (Q35 3 (NodeTerm.rows p0) i0 _ (NodeTerm.Qz hx0) rfl), hP 6 (Q35 3 (NodeTerm.rows p0) i0 _ (NodeTerm.Qz hx0) rfl), hV 7 [(1860, Val.rows (v0_1 ++ [(Q1u ([(Fld.mk Qo (Q2t x0.required)), (Fld.mk Qh (Q3q x0.selector)), (Fld.mk Q1k (Qt x0.weight))]))]))] (Q4a 1 1796 1860 5 80 0 0 true (Val.rows v0_1) (Val.rows (v0_1 ++ [(Q1u ([(Fld.mk Qo (Q2t x0.required)), (Fld.mk Qh (Q3q x0.selector)), (Fld.mk Q1k (Qt x0.weight))]))])) (Val.cells (Q1u ([(Fld.mk Qo (Q2t x0.required)), (Fld.mk Qh (Q3q x0.selector)), (Fld.mk Q1k (Qt x0.weight))]))) (List.length v0_1) (List.length (v0_1 ++ [(Q1u ([(Fld.mk Qo (Q2t x0.required)), (Fld.mk Qh (Q3q x0.selector)), (Fld.mk Q1k (Qt x0.weight))]))])) rfl (Val.Qa v0_1).symm (Val.Qa (v0_1 ++ [(Q1u ([(Fld.mk Qo (Q2t x0.required)), (Fld.mk Qh (Q3q x0.selector)), (Fld.mk Q1k (Qt x0.weight))]))])).symm (Val.Q23 v0_1 (Q1u ([(Fld.mk Qo (Q2t x0.required)), (Fld.mk Qh (Q3q x0.selector)), (Fld.mk Q1k (Qt x0.weight))]))) (Val.Q12 v0_1) rfl (by omega)), hS 0 true (Val.Qk (v0_1 ++ [(Q1u ([(Fld.mk Qo (Q2t x0.required)), (Fld.mk Qh (Q3q x0.selector)), (Fld.mk Q1k (Qt x0.weight))]))]) 5 rfl), hP 2 (Q2s i0 (by omega))] [aN (Qwu x0.required), aN (Q1fx x0.selector (H.2.1 x0 (Q2z hx0))), aN (Q4h x0.weight), aN (Q4k (e' := .call 163 [.sl [(Fld.cells (Fld.mk Qo (Q2t x0.required))), (Fld.cells (Fld.mk Qh (Q3q x0.selector))), (Fld.cells (Fld.mk Q1k (Qt x0.weight)))]] []) (Q9s ([(Fld.mk Qo (Q2t x0.required)), (Fld.mk Qh (Q3q x0.selector)), (Fld.mk Q1k (Qt x0.weight))]) (Nat.le_of_ble_eq_true rfl)) (by simp only [Q9a, Fld.Q1b, Fld.Q1r]))] (by kernel_rfl) hr
theorem Q10x (p0 : List NodeTerm) (H : Qgw p0) : ∀ (r0 : List NodeTerm) (i0 : Nat) (v0_1 : List Val), List.drop i0 p0 = r0 → List.length v0_1 ≤ i0 → Qhp p0 (Qfv p0 i0 v0_1) (Q5t p0 r0 i0 v0_1)
 | [], i0, v0_1, hd, ho0_0 => by
  have hc0 : (decide ((i0 : Int) < ((List.length p0) : Int))) = false := by have := Q1y hd; simp; omega
  rw [Q5t]
  exact Q1br p0 H i0 v0_1 ho0_0 hc0
 | x0 :: r0, i0, v0_1, hd, ho0_0 => by
  obtain ⟨hx0, hi0, hd'⟩ := Q1v hd
  have hc0 : (decide ((i0 : Int) < ((List.length p0) : Int))) = true := by simp; omega
  rw [Q5t]
  exact Qul p0 (fun r hr => Q19d p0 H x0 i0 v0_1 hx0 hi0 ho0_0 hc0 hr) _ (Q10x p0 H r0 (i0 + 1) (v0_1 ++ [(Q1u ([(Fld.mk Qo (Q2t x0.required)), (Fld.mk Qh (Q3q x0.selector)), (Fld.mk Q1k (Qt x0.weight))]))]) hd' (by first | omega | (simp; omega)))
def Q1fl (p0 : List NodeTerm) : Val := vL (p0.map NodeTerm.enc)
theorem Q22t (p0 : List NodeTerm) : Q1fl p0 = ((Val.mk 4 0 eB (Q5t p0 p0 0 []) [])) := by
  rw [Q16t]
  kernel_rfl
def Q20m (p0 : List NodeTerm) : En := .call 234 [.sl (NodeTerm.rows p0)] []
def Q1rk (p0 : List NodeTerm) : Rs := .ret (.agg (Val.cells (Q1fl p0))) []
def Q1li (p0 : List NodeTerm) : Prop := LSm NodeTerm.sm p0
theorem Q1h9 (p0 : List NodeTerm) (H : Q1li p0) : (Qgw p0) ∧ True := by
  exact ⟨⟨Nat.le_trans H.1 (Nat.le_of_ble_eq_true rfl), (by first | exact H.2 | exact fun x hx => (H.2 x hx).1 | exact fun x hx => (H.2 x hx).2.1 | exact fun x hx => (H.2 x hx).2.2.1 | exact fun x hx => (H.2 x hx).2.2.2.1 | exact fun x hx => (H.2 x hx).2.2.2.2.1), trivial⟩, trivial⟩
theorem Q25j (p0 : List NodeTerm) (H : Q1li p0) : Qd G (Q20m p0) (Q1rk p0) := by
 unfold Q1rk
 rw [Q22t]
 have hl0 := Q10x p0 ((Q1h9 p0 H).1) p0 0 [] (by simp) (by simp)
 obtain ⟨z0, zo0, hl0⟩ := hl0
 exact Qj (fn := Ir.K2j) rfl VOK.nil [hS 0 true (Val.Qk (Q5t p0 p0 0 []) 5 rfl), hQ (Val.Qa (Q5t p0 p0 0 [])).symm] [aV [(1, Val.rows (Q5t p0 p0 0 []))] hl0] (by kernel_rfl)
def Q5u (p0 : List PodTerm) : List PodTerm → Nat → (List Val) → List Val
 | [], _i0, v0_1 =>
  v0_1
 | x0 :: r0, i0, v0_1 =>
  Q5u p0 r0 (i0 + 1) (v0_1 ++ [(Q1u ([(Fld.mk Qo (Q2t x0.required)), (Fld.mk Q3a (Q2t x0.anti)), (Fld.mk Qh (Q3q x0.selector)), (Fld.mk Qy (Q1i x0.topology)), (Fld.mk Q1k (Qt x0.weight))]))])
theorem Q16u (p0 : List PodTerm) : ∀ (l : List PodTerm) (i : Nat) (a : List Val), Q5u p0 l i a = a ++ l.map (fun x0 => (Q1u ([(Fld.mk Qo (Q2t x0.required)), (Fld.mk Q3a (Q2t x0.anti)), (Fld.mk Qh (Q3q x0.selector)), (Fld.mk Qy (Q1i x0.topology)), (Fld.mk Q1k (Qt x0.weight))])))
  | [], _, _ => by simp [Q5u]
  | x :: r, i, a => by rw [Q5u, Q16u p0 r]; simp
def Qxp (p0 : List PodTerm) (i0 : Nat) (v0_1 : List Val) : List PV :=
  [.sl (PodTerm.rows p0), .un, .bx 0 0, .ms 1 5 0 (List.length v0_1), .int .i64 (i0 : Int)] ++ nuns 38
def Qj4 (_p0 : List PodTerm) (_i0 : Nat) (v0_1 : List Val) : List Ob :=
  [⟨5, 0, true, [.int .i64 0, .int .i64 0, .str eB, .ms 2 5 0 0, .ms 3 6 0 0]⟩, ⟨5, 0, true, (Val.rows v0_1).flatten⟩, ⟨5, 0, true, []⟩, ⟨6, 0, true, []⟩]
def Qfw (p0 : List PodTerm) (i0 : Nat) (v0_1 : List Val) : En := .loop 0 Ir.Qko Ir.Q1jv (Qxp p0 i0 v0_1) (Qj4 p0 i0 v0_1)
def Qps (_p0 : List PodTerm) (q0 : List Val) (z : Nat → PV) (_zo : Nat → List PV) : St :=
  ⟨[z 0, z 1, .bx 0 0, .ms 1 5 0 (List.length q0)] ++ zr z 4 39, [(0, ⟨5, 0, true, [.int .i64 0, .int .i64 0, .str eB, .ms 2 5 0 0, .ms 3 6 0 0]⟩), (1, ⟨5, 0, true, (Val.rows q0).flatten⟩), (2, ⟨5, 0, true, []⟩), (3, ⟨6, 0, true, []⟩)], 260⟩
theorem Q14j (p0 : List PodTerm) (i0 : Nat) (v0_1 : List Val) : VOK (Go.Pv.look (number 0 (Qj4 p0 i0 v0_1))) [(1, Val.rows v0_1)] := (VOK.cons (show Seen _ _ from Q3r (ob := ⟨5, 0, true, (Val.rows v0_1).flatten⟩) (Val.Qk v0_1 5 rfl)) VOK.nil)
def Qhq (p0 : List PodTerm) (e : En) (q : List Val) : Prop := ∃ z zo, Qd G e (.st (.exit 0) (Qps p0 q z zo))
theorem Qum (p0 : List PodTerm) {e e' : En} (h : ∀ r, Qd G e r → Qd G e' r) : ∀ q, Qhq p0 e q → Qhq p0 e' q
  | _, ⟨z, zo, hz⟩ => ⟨z, zo, h _ hz⟩
def Qgx (p0 : List PodTerm) : Prop := (List.length p0 ≤ 137438953472) ∧ (∀ x0 ∈ p0, Q129 x0.selector) ∧ True
def Qri (p0 : List PodTerm) (i0 : Nat) (_v0_1 : List Val) : List PV :=
  [.sl (PodTerm.rows p0), .un, .un, .un, .int .i64 (i0 : Int), .un, .int .i64 (i0 : Int), .sl (PodTerm.rows p0), .int .i64 ((List.length p0) : Int), .bool false]
def Qmg (_p0 : List PodTerm) (_i0 : Nat) (_v0_1 : List Val) : List (Nat × List PV) :=
  []
theorem Q1bs (p0 : List PodTerm) (_H : Qgx p0) (i0 : Nat) (v0_1 : List Val) (_ho0_0 : List.length v0_1 ≤ i0) (hc0 : (decide ((i0 : Int) < ((List.length p0) : Int))) = false) : Qhq p0 (Qfw p0 i0 v0_1) v0_1 := by
 exact ⟨(envF (Qri p0 i0 v0_1)), (zoF (Qmg p0 i0 v0_1)), Qv (Q14j p0 i0 v0_1) (x := ((.exit 0), Qps p0 v0_1 (envF (Qri p0 i0 v0_1)) (zoF (Qmg p0 i0 v0_1)))) [hP 2 (Q1g (PodTerm.rows p0) (List.length p0) (PodTerm.Qa p0)), hB 0 hc0] [] (by kernel_rfl)⟩
theorem Q19e (p0 : List PodTerm) (H : Qgx p0) (x0 : PodTerm) (i0 : Nat) (v0_1 : List Val) (hx0 : p0[i0]? = some x0) (hi0 : i0 < List.length p0) (ho0_0 : List.length v0_1 ≤ i0) (hc0 : (decide ((i0 : Int) < ((List.length p0) : Int))) = true) {r : Rs} (hr : Qd G (Qfw p0 (i0 + 1) (v0_1 ++ [(Q1u ([(Fld.mk Qo (Q2t x0.required)), (Fld.mk Q3a (Q2t x0.anti)), (Fld.mk Qh (Q3q x0.selector)), (Fld.mk Qy (Q1i x0.topology)), (Fld.mk Q1k (Qt x0.weight))]))])) r) : Qd G (Qfw p0 i0 v0_1) r := by
 have hB0 := H.1
 exact Qu (Q14j p0 i0 v0_1) (y := (Qxp p0 (i0 + 1) (v0_1 ++ [(Q1u ([(Fld.mk Qo (Q2t x0.required)), (Fld.mk Q3a (Q2t x0.anti)), (Fld.mk Qh (Q3q x0.selector)), (Fld.mk Qy (Q1i x0.topology)), (Fld.mk Q1k (Qt x0.weight))]))]), Qj4 p0 (i0 + 1) (v0_1 ++ [(Q1u ([(Fld.mk Qo (Q2t x0.required)), (Fld.mk Q3a (Q2t x0.anti)), (Fld.mk Qh (Q3q x0.selector)), (Fld.mk Qy (Q1i x0.topology)), (Fld.mk Q1k (Qt x0.weight))]))]))) [hP 2 (Q1g (PodTerm.rows p0) (List.length p0) (PodTerm.Qa p0)), hB 0 hc0, hP 2 (Q35 5 (PodTerm.rows p0) i0 _ (PodTerm.Qz hx0) rfl), hV 27 [(2180, Val.rows (v0_1 ++ [(Q1u ([(Fld.mk Qo (Q2t x0.required)), (Fld.mk Q3a (Q2t x0.anti)), (Fld.mk Qh (Q3q x0.selector)), (Fld.mk Qy (Q1i x0.topology)), (Fld.mk Q1k (Qt x0.weight))]))]))] (Q4a 1 2116 2180 5 80 0 0 true (Val.rows v0_1) (Val.rows (v0_1 ++ [(Q1u ([(Fld.mk Qo (Q2t x0.required)), (Fld.mk Q3a (Q2t x0.anti)), (Fld.mk Qh (Q3q x0.selector)), (Fld.mk Qy (Q1i x0.topology)), (Fld.mk Q1k (Qt x0.weight))]))])) (Val.cells (Q1u ([(Fld.mk Qo (Q2t x0.required)), (Fld.mk Q3a (Q2t x0.anti)), (Fld.mk Qh (Q3q x0.selector)), (Fld.mk Qy (Q1i x0.topology)), (Fld.mk Q1k (Qt x0.weight))]))) (List.length v0_1) (List.length (v0_1 ++ [(Q1u ([(Fld.mk Qo (Q2t x0.required)), (Fld.mk Q3a (Q2t x0.anti)), (Fld.mk Qh (Q3q x0.selector)), (Fld.mk Qy (Q1i x0.topology)), (Fld.mk Q1k (Qt x0.weight))]))])) rfl (Val.Qa v0_1).symm (Val.Qa (v0_1 ++ [(Q1u ([(Fld.mk Qo (Q2t x0.required)), (Fld.mk Q3a (Q2t x0.anti)), (Fld.mk Qh (Q3q x0.selector)), (Fld.mk Qy (Q1i x0.topology)), (Fld.mk Q1k (Qt x0.weight))]))])).symm (Val.Q23 v0_1 (Q1u ([(Fld.mk Qo (Q2t x0.required)), (Fld.mk Q3a (Q2t x0.anti)), (Fld.mk Qh (Q3q x0.selector)), (Fld.mk Qy (Q1i x0.topology)), (Fld.mk Q1k (Qt x0.weight))]))) (Val.Q12 v0_1) rfl (by omega)), hS 0 true (Val.Qk (v0_1 ++ [(Q1u ([(Fld.mk Qo (Q2t x0.required)), (Fld.mk Q3a (Q2t x0.anti)), (Fld.mk Qh (Q3q x0.selector)), (Fld.mk Qy (Q1i x0.topology)), (Fld.mk Q1k (Qt x0.weight))]))]) 5 rfl), hP 2 (Q2s i0 (by omega))] [aN (Qwu x0.required), aN (Qwu x0.anti), aN (Q1fx x0.selector (H.2.1 x0 (Q2z hx0))), aN (Qdo x0.topology), aN (Q4h x0.weight), aN (Q4k (e' := .call 163 [.sl [(Fld.cells (Fld.mk Qo (Q2t x0.required))), (Fld.cells (Fld.mk Q3a (Q2t x0.anti))), (Fld.cells (Fld.mk Qh (Q3q x0.selector))), (Fld.cells (Fld.mk Qy (Q1i x0.topology))), (Fld.cells (Fld.mk Q1k (Qt x0.weight)))]] []) (Q9s ([(Fld.mk Qo (Q2t x0.required)), (Fld.mk Q3a (Q2t x0.anti)), (Fld.mk Qh (Q3q x0.selector)), (Fld.mk Qy (Q1i x0.topology)), (Fld.mk Q1k (Qt x0.weight))]) (Nat.le_of_ble_eq_true rfl)) (by simp only [Q9a, Fld.Q1b, Fld.Q1r]))] (by kernel_rfl) hr
theorem Q10y (p0 : List PodTerm) (H : Qgx p0) : ∀ (r0 : List PodTerm) (i0 : Nat) (v0_1 : List Val), List.drop i0 p0 = r0 → List.length v0_1 ≤ i0 → Qhq p0 (Qfw p0 i0 v0_1) (Q5u p0 r0 i0 v0_1)
 | [], i0, v0_1, hd, ho0_0 => by
  have hc0 : (decide ((i0 : Int) < ((List.length p0) : Int))) = false := by have := Q1y hd; simp; omega
  rw [Q5u]
  exact Q1bs p0 H i0 v0_1 ho0_0 hc0
 | x0 :: r0, i0, v0_1, hd, ho0_0 => by
  obtain ⟨hx0, hi0, hd'⟩ := Q1v hd
  have hc0 : (decide ((i0 : Int) < ((List.length p0) : Int))) = true := by simp; omega
  rw [Q5u]
  exact Qum p0 (fun r hr => Q19e p0 H x0 i0 v0_1 hx0 hi0 ho0_0 hc0 hr) _ (Q10y p0 H r0 (i0 + 1) (v0_1 ++ [(Q1u ([(Fld.mk Qo (Q2t x0.required)), (Fld.mk Q3a (Q2t x0.anti)), (Fld.mk Qh (Q3q x0.selector)), (Fld.mk Qy (Q1i x0.topology)), (Fld.mk Q1k (Qt x0.weight))]))]) hd' (by first | omega | (simp; omega)))
def Q1fn (p0 : List PodTerm) : Val := vL (p0.map PodTerm.enc)
theorem Q22v (p0 : List PodTerm) : Q1fn p0 = ((Val.mk 4 0 eB (Q5u p0 p0 0 []) [])) := by
  rw [Q16u]
  kernel_rfl
def Q20o (p0 : List PodTerm) : En := .call 235 [.sl (PodTerm.rows p0)] []
def Q1rm (p0 : List PodTerm) : Rs := .ret (.agg (Val.cells (Q1fn p0))) []
def Q1lk (p0 : List PodTerm) : Prop := LSm PodTerm.sm p0
theorem Q1ha (p0 : List PodTerm) (H : Q1lk p0) : (Qgx p0) ∧ True := by
  exact ⟨⟨Nat.le_trans H.1 (Nat.le_of_ble_eq_true rfl), (by first | exact H.2 | exact fun x hx => (H.2 x hx).1 | exact fun x hx => (H.2 x hx).2.1 | exact fun x hx => (H.2 x hx).2.2.1 | exact fun x hx => (H.2 x hx).2.2.2.1 | exact fun x hx => (H.2 x hx).2.2.2.2.1), trivial⟩, trivial⟩
theorem Q25l (p0 : List PodTerm) (H : Q1lk p0) : Qd G (Q20o p0) (Q1rm p0) := by
 unfold Q1rm
 rw [Q22v]
 have hl0 := Q10y p0 ((Q1ha p0 H).1) p0 0 [] (by simp) (by simp)
 obtain ⟨z0, zo0, hl0⟩ := hl0
 exact Qj (fn := Ir.K2l) rfl VOK.nil [hS 0 true (Val.Qk (Q5u p0 p0 0 []) 5 rfl), hQ (Val.Qa (Q5u p0 p0 0 [])).symm] [aV [(1, Val.rows (Q5u p0 p0 0 []))] hl0] (by kernel_rfl)
def Q5x (p0 : List SpreadRule) : List SpreadRule → Nat → (List Val) → List Val
 | [], _i0, v0_1 =>
  v0_1
 | x0 :: r0, i0, v0_1 =>
  Q5x p0 r0 (i0 + 1) (v0_1 ++ [(Q1u ([(Fld.mk Q25 (Qt x0.maxSkew)), (Fld.mk Qy (Q1i x0.topology)), (Fld.mk Qh (Q3q x0.selector)), (Fld.mk Qo (Q2t x0.required))]))])
theorem Q16x (p0 : List SpreadRule) : ∀ (l : List SpreadRule) (i : Nat) (a : List Val), Q5x p0 l i a = a ++ l.map (fun x0 => (Q1u ([(Fld.mk Q25 (Qt x0.maxSkew)), (Fld.mk Qy (Q1i x0.topology)), (Fld.mk Qh (Q3q x0.selector)), (Fld.mk Qo (Q2t x0.required))])))
  | [], _, _ => by simp [Q5x]
  | x :: r, i, a => by rw [Q5x, Q16x p0 r]; simp
def Qxs (p0 : List SpreadRule) (i0 : Nat) (v0_1 : List Val) : List PV :=
  [.sl (SpreadRule.rows p0), .un, .bx 0 0, .ms 1 5 0 (List.length v0_1), .int .i64 (i0 : Int)] ++ nuns 34
def Qj7 (_p0 : List SpreadRule) (_i0 : Nat) (v0_1 : List Val) : List Ob :=
  [⟨5, 0, true, [.int .i64 0, .int .i64 0, .str eB, .ms 2 5 0 0, .ms 3 6 0 0]⟩, ⟨5, 0, true, (Val.rows v0_1).flatten⟩, ⟨5, 0, true, []⟩, ⟨6, 0, true, []⟩]
def Qfz (p0 : List SpreadRule) (i0 : Nat) (v0_1 : List Val) : En := .loop 0 Ir.Qkr Ir.Q1jy (Qxs p0 i0 v0_1) (Qj7 p0 i0 v0_1)
def Qpv (_p0 : List SpreadRule) (q0 : List Val) (z : Nat → PV) (_zo : Nat → List PV) : St :=
  ⟨[z 0, z 1, .bx 0 0, .ms 1 5 0 (List.length q0)] ++ zr z 4 35, [(0, ⟨5, 0, true, [.int .i64 0, .int .i64 0, .str eB, .ms 2 5 0 0, .ms 3 6 0 0]⟩), (1, ⟨5, 0, true, (Val.rows q0).flatten⟩), (2, ⟨5, 0, true, []⟩), (3, ⟨6, 0, true, []⟩)], 260⟩
theorem Q14m (p0 : List SpreadRule) (i0 : Nat) (v0_1 : List Val) : VOK (Go.Pv.look (number 0 (Qj7 p0 i0 v0_1))) [(1, Val.rows v0_1)] := (VOK.cons (show Seen _ _ from Q3r (ob := ⟨5, 0, true, (Val.rows v0_1).flatten⟩) (Val.Qk v0_1 5 rfl)) VOK.nil)
def Qht (p0 : List SpreadRule) (e : En) (q : List Val) : Prop := ∃ z zo, Qd G e (.st (.exit 0) (Qpv p0 q z zo))
theorem Qup (p0 : List SpreadRule) {e e' : En} (h : ∀ r, Qd G e r → Qd G e' r) : ∀ q, Qht p0 e q → Qht p0 e' q
  | _, ⟨z, zo, hz⟩ => ⟨z, zo, h _ hz⟩
def Qh0 (p0 : List SpreadRule) : Prop := (List.length p0 ≤ 137438953472) ∧ (∀ x0 ∈ p0, Q129 x0.selector) ∧ True
def Qrl (p0 : List SpreadRule) (i0 : Nat) (_v0_1 : List Val) : List PV :=
  [.sl (SpreadRule.rows p0), .un, .un, .un, .int .i64 (i0 : Int), .un, .int .i64 (i0 : Int), .sl (SpreadRule.rows p0), .int .i64 ((List.length p0) : Int), .bool false]
def Qmj (_p0 : List SpreadRule) (_i0 : Nat) (_v0_1 : List Val) : List (Nat × List PV) :=
  []
theorem Q1bv (p0 : List SpreadRule) (_H : Qh0 p0) (i0 : Nat) (v0_1 : List Val) (_ho0_0 : List.length v0_1 ≤ i0) (hc0 : (decide ((i0 : Int) < ((List.length p0) : Int))) = false) : Qht p0 (Qfz p0 i0 v0_1) v0_1 := by
 exact ⟨(envF (Qrl p0 i0 v0_1)), (zoF (Qmj p0 i0 v0_1)), Qv (Q14m p0 i0 v0_1) (x := ((.exit 0), Qpv p0 v0_1 (envF (Qrl p0 i0 v0_1)) (zoF (Qmj p0 i0 v0_1)))) [hP 2 (Q1g (SpreadRule.rows p0) (List.length p0) (SpreadRule.Qa p0)), hB 0 hc0] [] (by kernel_rfl)⟩
theorem Q19h (p0 : List SpreadRule) (H : Qh0 p0) (x0 : SpreadRule) (i0 : Nat) (v0_1 : List Val) (hx0 : p0[i0]? = some x0) (hi0 : i0 < List.length p0) (ho0_0 : List.length v0_1 ≤ i0) (hc0 : (decide ((i0 : Int) < ((List.length p0) : Int))) = true) {r : Rs} (hr : Qd G (Qfz p0 (i0 + 1) (v0_1 ++ [(Q1u ([(Fld.mk Q25 (Qt x0.maxSkew)), (Fld.mk Qy (Q1i x0.topology)), (Fld.mk Qh (Q3q x0.selector)), (Fld.mk Qo (Q2t x0.required))]))])) r) : Qd G (Qfz p0 i0 v0_1) r := by
 have hB0 := H.1
 exact Qu (Q14m p0 i0 v0_1) (y := (Qxs p0 (i0 + 1) (v0_1 ++ [(Q1u ([(Fld.mk Q25 (Qt x0.maxSkew)), (Fld.mk Qy (Q1i x0.topology)), (Fld.mk Qh (Q3q x0.selector)), (Fld.mk Qo (Q2t x0.required))]))]), Qj7 p0 (i0 + 1) (v0_1 ++ [(Q1u ([(Fld.mk Q25 (Qt x0.maxSkew)), (Fld.mk Qy (Q1i x0.topology)), (Fld.mk Qh (Q3q x0.selector)), (Fld.mk Qo (Q2t x0.required))]))]))) [hP 2 (Q1g (SpreadRule.rows p0) (List.length p0) (SpreadRule.Qa p0)), hB 0 hc0, hP 2 (Q35 4 (SpreadRule.rows p0) i0 _ (SpreadRule.Qz hx0) rfl), hV 23 [(1924, Val.rows (v0_1 ++ [(Q1u ([(Fld.mk Q25 (Qt x0.maxSkew)), (Fld.mk Qy (Q1i x0.topology)), (Fld.mk Qh (Q3q x0.selector)), (Fld.mk Qo (Q2t x0.required))]))]))] (Q4a 1 1860 1924 5 80 0 0 true (Val.rows v0_1) (Val.rows (v0_1 ++ [(Q1u ([(Fld.mk Q25 (Qt x0.maxSkew)), (Fld.mk Qy (Q1i x0.topology)), (Fld.mk Qh (Q3q x0.selector)), (Fld.mk Qo (Q2t x0.required))]))])) (Val.cells (Q1u ([(Fld.mk Q25 (Qt x0.maxSkew)), (Fld.mk Qy (Q1i x0.topology)), (Fld.mk Qh (Q3q x0.selector)), (Fld.mk Qo (Q2t x0.required))]))) (List.length v0_1) (List.length (v0_1 ++ [(Q1u ([(Fld.mk Q25 (Qt x0.maxSkew)), (Fld.mk Qy (Q1i x0.topology)), (Fld.mk Qh (Q3q x0.selector)), (Fld.mk Qo (Q2t x0.required))]))])) rfl (Val.Qa v0_1).symm (Val.Qa (v0_1 ++ [(Q1u ([(Fld.mk Q25 (Qt x0.maxSkew)), (Fld.mk Qy (Q1i x0.topology)), (Fld.mk Qh (Q3q x0.selector)), (Fld.mk Qo (Q2t x0.required))]))])).symm (Val.Q23 v0_1 (Q1u ([(Fld.mk Q25 (Qt x0.maxSkew)), (Fld.mk Qy (Q1i x0.topology)), (Fld.mk Qh (Q3q x0.selector)), (Fld.mk Qo (Q2t x0.required))]))) (Val.Q12 v0_1) rfl (by omega)), hS 0 true (Val.Qk (v0_1 ++ [(Q1u ([(Fld.mk Q25 (Qt x0.maxSkew)), (Fld.mk Qy (Q1i x0.topology)), (Fld.mk Qh (Q3q x0.selector)), (Fld.mk Qo (Q2t x0.required))]))]) 5 rfl), hP 2 (Q2s i0 (by omega))] [aN (Q4h x0.maxSkew), aN (Qdo x0.topology), aN (Q1fx x0.selector (H.2.1 x0 (Q2z hx0))), aN (Qwu x0.required), aN (Q4k (e' := .call 163 [.sl [(Fld.cells (Fld.mk Q25 (Qt x0.maxSkew))), (Fld.cells (Fld.mk Qy (Q1i x0.topology))), (Fld.cells (Fld.mk Qh (Q3q x0.selector))), (Fld.cells (Fld.mk Qo (Q2t x0.required)))]] []) (Q9s ([(Fld.mk Q25 (Qt x0.maxSkew)), (Fld.mk Qy (Q1i x0.topology)), (Fld.mk Qh (Q3q x0.selector)), (Fld.mk Qo (Q2t x0.required))]) (Nat.le_of_ble_eq_true rfl)) (by simp only [Q9a, Fld.Q1b, Fld.Q1r]))] (by kernel_rfl) hr
theorem Q111 (p0 : List SpreadRule) (H : Qh0 p0) : ∀ (r0 : List SpreadRule) (i0 : Nat) (v0_1 : List Val), List.drop i0 p0 = r0 → List.length v0_1 ≤ i0 → Qht p0 (Qfz p0 i0 v0_1) (Q5x p0 r0 i0 v0_1)
 | [], i0, v0_1, hd, ho0_0 => by
  have hc0 : (decide ((i0 : Int) < ((List.length p0) : Int))) = false := by have := Q1y hd; simp; omega
  rw [Q5x]
  exact Q1bv p0 H i0 v0_1 ho0_0 hc0
 | x0 :: r0, i0, v0_1, hd, ho0_0 => by
  obtain ⟨hx0, hi0, hd'⟩ := Q1v hd
  have hc0 : (decide ((i0 : Int) < ((List.length p0) : Int))) = true := by simp; omega
  rw [Q5x]
  exact Qup p0 (fun r hr => Q19h p0 H x0 i0 v0_1 hx0 hi0 ho0_0 hc0 hr) _ (Q111 p0 H r0 (i0 + 1) (v0_1 ++ [(Q1u ([(Fld.mk Q25 (Qt x0.maxSkew)), (Fld.mk Qy (Q1i x0.topology)), (Fld.mk Qh (Q3q x0.selector)), (Fld.mk Qo (Q2t x0.required))]))]) hd' (by first | omega | (simp; omega)))
def Q1fo (p0 : List SpreadRule) : Val := vL (p0.map SpreadRule.enc)
theorem Q22z (p0 : List SpreadRule) : Q1fo p0 = ((Val.mk 4 0 eB (Q5x p0 p0 0 []) [])) := by
  rw [Q16x]
  kernel_rfl
def Q20s (p0 : List SpreadRule) : En := .call 236 [.sl (SpreadRule.rows p0)] []
def Q1rq (p0 : List SpreadRule) : Rs := .ret (.agg (Val.cells (Q1fo p0))) []
def Q1ll (p0 : List SpreadRule) : Prop := LSm SpreadRule.sm p0
theorem Q1hd (p0 : List SpreadRule) (H : Q1ll p0) : (Qh0 p0) ∧ True := by
  exact ⟨⟨Nat.le_trans H.1 (Nat.le_of_ble_eq_true rfl), (by first | exact H.2 | exact fun x hx => (H.2 x hx).1 | exact fun x hx => (H.2 x hx).2.1 | exact fun x hx => (H.2 x hx).2.2.1 | exact fun x hx => (H.2 x hx).2.2.2.1 | exact fun x hx => (H.2 x hx).2.2.2.2.1), trivial⟩, trivial⟩
theorem Q25m (p0 : List SpreadRule) (H : Q1ll p0) : Qd G (Q20s p0) (Q1rq p0) := by
 unfold Q1rq
 rw [Q22z]
 have hl0 := Q111 p0 ((Q1hd p0 H).1) p0 0 [] (by simp) (by simp)
 obtain ⟨z0, zo0, hl0⟩ := hl0
 exact Qj (fn := Ir.K2u) rfl VOK.nil [hS 0 true (Val.Qk (Q5x p0 p0 0 []) 5 rfl), hQ (Val.Qa (Q5x p0 p0 0 [])).symm] [aV [(1, Val.rows (Q5x p0 p0 0 []))] hl0] (by kernel_rfl)
def Q5z (p0 : List Toleration) : List Toleration → Nat → (List Val) → List Val
 | [], _i0, v0_1 =>
  v0_1
 | x0 :: r0, i0, v0_1 =>
  Q5z p0 r0 (i0 + 1) (v0_1 ++ [(Q1u ([(Fld.mk Q1m (Q1i x0.key)), (Fld.mk Q1q (Q1i x0.value)), (Fld.mk Q2m (Q2t x0.exists_)), (Fld.mk Q2r (Qt x0.effect)), (Fld.mk Q2j (Qt x0.seconds))]))])
theorem Q16z (p0 : List Toleration) : ∀ (l : List Toleration) (i : Nat) (a : List Val), Q5z p0 l i a = a ++ l.map (fun x0 => (Q1u ([(Fld.mk Q1m (Q1i x0.key)), (Fld.mk Q1q (Q1i x0.value)), (Fld.mk Q2m (Q2t x0.exists_)), (Fld.mk Q2r (Qt x0.effect)), (Fld.mk Q2j (Qt x0.seconds))])))
  | [], _, _ => by simp [Q5z]
  | x :: r, i, a => by rw [Q5z, Q16z p0 r]; simp
def Qxu (p0 : List Toleration) (i0 : Nat) (v0_1 : List Val) : List PV :=
  [.sl (Toleration.rows p0), .un, .bx 0 0, .ms 1 5 0 (List.length v0_1), .int .i64 (i0 : Int)] ++ nuns 38
def Qj9 (_p0 : List Toleration) (_i0 : Nat) (v0_1 : List Val) : List Ob :=
  [⟨5, 0, true, [.int .i64 0, .int .i64 0, .str eB, .ms 2 5 0 0, .ms 3 6 0 0]⟩, ⟨5, 0, true, (Val.rows v0_1).flatten⟩, ⟨5, 0, true, []⟩, ⟨6, 0, true, []⟩]
def Qg1 (p0 : List Toleration) (i0 : Nat) (v0_1 : List Val) : En := .loop 0 Ir.Qkt Ir.Q1k0 (Qxu p0 i0 v0_1) (Qj9 p0 i0 v0_1)
def Qpx (_p0 : List Toleration) (q0 : List Val) (z : Nat → PV) (_zo : Nat → List PV) : St :=
  ⟨[z 0, z 1, .bx 0 0, .ms 1 5 0 (List.length q0)] ++ zr z 4 39, [(0, ⟨5, 0, true, [.int .i64 0, .int .i64 0, .str eB, .ms 2 5 0 0, .ms 3 6 0 0]⟩), (1, ⟨5, 0, true, (Val.rows q0).flatten⟩), (2, ⟨5, 0, true, []⟩), (3, ⟨6, 0, true, []⟩)], 260⟩
theorem Q14o (p0 : List Toleration) (i0 : Nat) (v0_1 : List Val) : VOK (Go.Pv.look (number 0 (Qj9 p0 i0 v0_1))) [(1, Val.rows v0_1)] := (VOK.cons (show Seen _ _ from Q3r (ob := ⟨5, 0, true, (Val.rows v0_1).flatten⟩) (Val.Qk v0_1 5 rfl)) VOK.nil)
def Qhv (p0 : List Toleration) (e : En) (q : List Val) : Prop := ∃ z zo, Qd G e (.st (.exit 0) (Qpx p0 q z zo))
theorem Qur (p0 : List Toleration) {e e' : En} (h : ∀ r, Qd G e r → Qd G e' r) : ∀ q, Qhv p0 e q → Qhv p0 e' q
  | _, ⟨z, zo, hz⟩ => ⟨z, zo, h _ hz⟩
def Qh2 (p0 : List Toleration) : Prop := (List.length p0 ≤ 137438953472) ∧ True
def Qrn (p0 : List Toleration) (i0 : Nat) (_v0_1 : List Val) : List PV :=
  [.sl (Toleration.rows p0), .un, .un, .un, .int .i64 (i0 : Int), .un, .int .i64 (i0 : Int), .sl (Toleration.rows p0), .int .i64 ((List.length p0) : Int), .bool false]
def Qml (_p0 : List Toleration) (_i0 : Nat) (_v0_1 : List Val) : List (Nat × List PV) :=
  []
theorem Q1bx (p0 : List Toleration) (_H : Qh2 p0) (i0 : Nat) (v0_1 : List Val) (_ho0_0 : List.length v0_1 ≤ i0) (hc0 : (decide ((i0 : Int) < ((List.length p0) : Int))) = false) : Qhv p0 (Qg1 p0 i0 v0_1) v0_1 := by
 exact ⟨(envF (Qrn p0 i0 v0_1)), (zoF (Qml p0 i0 v0_1)), Qv (Q14o p0 i0 v0_1) (x := ((.exit 0), Qpx p0 v0_1 (envF (Qrn p0 i0 v0_1)) (zoF (Qml p0 i0 v0_1)))) [hP 2 (Q1g (Toleration.rows p0) (List.length p0) (Toleration.Qa p0)), hB 0 hc0] [] (by kernel_rfl)⟩
theorem Q19j (p0 : List Toleration) (H : Qh2 p0) (x0 : Toleration) (i0 : Nat) (v0_1 : List Val) (hx0 : p0[i0]? = some x0) (hi0 : i0 < List.length p0) (ho0_0 : List.length v0_1 ≤ i0) (hc0 : (decide ((i0 : Int) < ((List.length p0) : Int))) = true) {r : Rs} (hr : Qd G (Qg1 p0 (i0 + 1) (v0_1 ++ [(Q1u ([(Fld.mk Q1m (Q1i x0.key)), (Fld.mk Q1q (Q1i x0.value)), (Fld.mk Q2m (Q2t x0.exists_)), (Fld.mk Q2r (Qt x0.effect)), (Fld.mk Q2j (Qt x0.seconds))]))])) r) : Qd G (Qg1 p0 i0 v0_1) r := by
 have hB0 := H.1
 exact Qu (Q14o p0 i0 v0_1) (y := (Qxu p0 (i0 + 1) (v0_1 ++ [(Q1u ([(Fld.mk Q1m (Q1i x0.key)), (Fld.mk Q1q (Q1i x0.value)), (Fld.mk Q2m (Q2t x0.exists_)), (Fld.mk Q2r (Qt x0.effect)), (Fld.mk Q2j (Qt x0.seconds))]))]), Qj9 p0 (i0 + 1) (v0_1 ++ [(Q1u ([(Fld.mk Q1m (Q1i x0.key)), (Fld.mk Q1q (Q1i x0.value)), (Fld.mk Q2m (Q2t x0.exists_)), (Fld.mk Q2r (Qt x0.effect)), (Fld.mk Q2j (Qt x0.seconds))]))]))) [hP 2 (Q1g (Toleration.rows p0) (List.length p0) (Toleration.Qa p0)), hB 0 hc0, hP 2 (Q35 5 (Toleration.rows p0) i0 _ (Toleration.Qz hx0) rfl), hV 27 [(2180, Val.rows (v0_1 ++ [(Q1u ([(Fld.mk Q1m (Q1i x0.key)), (Fld.mk Q1q (Q1i x0.value)), (Fld.mk Q2m (Q2t x0.exists_)), (Fld.mk Q2r (Qt x0.effect)), (Fld.mk Q2j (Qt x0.seconds))]))]))] (Q4a 1 2116 2180 5 80 0 0 true (Val.rows v0_1) (Val.rows (v0_1 ++ [(Q1u ([(Fld.mk Q1m (Q1i x0.key)), (Fld.mk Q1q (Q1i x0.value)), (Fld.mk Q2m (Q2t x0.exists_)), (Fld.mk Q2r (Qt x0.effect)), (Fld.mk Q2j (Qt x0.seconds))]))])) (Val.cells (Q1u ([(Fld.mk Q1m (Q1i x0.key)), (Fld.mk Q1q (Q1i x0.value)), (Fld.mk Q2m (Q2t x0.exists_)), (Fld.mk Q2r (Qt x0.effect)), (Fld.mk Q2j (Qt x0.seconds))]))) (List.length v0_1) (List.length (v0_1 ++ [(Q1u ([(Fld.mk Q1m (Q1i x0.key)), (Fld.mk Q1q (Q1i x0.value)), (Fld.mk Q2m (Q2t x0.exists_)), (Fld.mk Q2r (Qt x0.effect)), (Fld.mk Q2j (Qt x0.seconds))]))])) rfl (Val.Qa v0_1).symm (Val.Qa (v0_1 ++ [(Q1u ([(Fld.mk Q1m (Q1i x0.key)), (Fld.mk Q1q (Q1i x0.value)), (Fld.mk Q2m (Q2t x0.exists_)), (Fld.mk Q2r (Qt x0.effect)), (Fld.mk Q2j (Qt x0.seconds))]))])).symm (Val.Q23 v0_1 (Q1u ([(Fld.mk Q1m (Q1i x0.key)), (Fld.mk Q1q (Q1i x0.value)), (Fld.mk Q2m (Q2t x0.exists_)), (Fld.mk Q2r (Qt x0.effect)), (Fld.mk Q2j (Qt x0.seconds))]))) (Val.Q12 v0_1) rfl (by omega)), hS 0 true (Val.Qk (v0_1 ++ [(Q1u ([(Fld.mk Q1m (Q1i x0.key)), (Fld.mk Q1q (Q1i x0.value)), (Fld.mk Q2m (Q2t x0.exists_)), (Fld.mk Q2r (Qt x0.effect)), (Fld.mk Q2j (Qt x0.seconds))]))]) 5 rfl), hP 2 (Q2s i0 (by omega))] [aN (Qdo x0.key), aN (Qdo x0.value), aN (Qwu x0.exists_), aN (Q4h x0.effect), aN (Q4h x0.seconds), aN (Q4k (e' := .call 163 [.sl [(Fld.cells (Fld.mk Q1m (Q1i x0.key))), (Fld.cells (Fld.mk Q1q (Q1i x0.value))), (Fld.cells (Fld.mk Q2m (Q2t x0.exists_))), (Fld.cells (Fld.mk Q2r (Qt x0.effect))), (Fld.cells (Fld.mk Q2j (Qt x0.seconds)))]] []) (Q9s ([(Fld.mk Q1m (Q1i x0.key)), (Fld.mk Q1q (Q1i x0.value)), (Fld.mk Q2m (Q2t x0.exists_)), (Fld.mk Q2r (Qt x0.effect)), (Fld.mk Q2j (Qt x0.seconds))]) (Nat.le_of_ble_eq_true rfl)) (by simp only [Q9a, Fld.Q1b, Fld.Q1r]))] (by kernel_rfl) hr
theorem Q113 (p0 : List Toleration) (H : Qh2 p0) : ∀ (r0 : List Toleration) (i0 : Nat) (v0_1 : List Val), List.drop i0 p0 = r0 → List.length v0_1 ≤ i0 → Qhv p0 (Qg1 p0 i0 v0_1) (Q5z p0 r0 i0 v0_1)
 | [], i0, v0_1, hd, ho0_0 => by
  have hc0 : (decide ((i0 : Int) < ((List.length p0) : Int))) = false := by have := Q1y hd; simp; omega
  rw [Q5z]
  exact Q1bx p0 H i0 v0_1 ho0_0 hc0
 | x0 :: r0, i0, v0_1, hd, ho0_0 => by
  obtain ⟨hx0, hi0, hd'⟩ := Q1v hd
  have hc0 : (decide ((i0 : Int) < ((List.length p0) : Int))) = true := by simp; omega
  rw [Q5z]
  exact Qur p0 (fun r hr => Q19j p0 H x0 i0 v0_1 hx0 hi0 ho0_0 hc0 hr) _ (Q113 p0 H r0 (i0 + 1) (v0_1 ++ [(Q1u ([(Fld.mk Q1m (Q1i x0.key)), (Fld.mk Q1q (Q1i x0.value)), (Fld.mk Q2m (Q2t x0.exists_)), (Fld.mk Q2r (Qt x0.effect)), (Fld.mk Q2j (Qt x0.seconds))]))]) hd' (by first | omega | (simp; omega)))
def Q1fq (p0 : List Toleration) : Val := vL (p0.map Toleration.enc)
theorem Q232 (p0 : List Toleration) : Q1fq p0 = ((Val.mk 4 0 eB (Q5z p0 p0 0 []) [])) := by
  rw [Q16z]
  kernel_rfl
def Q20w (p0 : List Toleration) : En := .call 237 [.sl (Toleration.rows p0)] []
def Q1ru (p0 : List Toleration) : Rs := .ret (.agg (Val.cells (Q1fq p0))) []
def Q1lo (p0 : List Toleration) : Prop := LSm Toleration.sm p0
theorem Q1hf (p0 : List Toleration) (H : Q1lo p0) : (Qh2 p0) ∧ True := by
  exact ⟨⟨Nat.le_trans H.1 (Nat.le_of_ble_eq_true rfl), trivial⟩, trivial⟩
theorem Q25p (p0 : List Toleration) (H : Q1lo p0) : Qd G (Q20w p0) (Q1ru p0) := by
 unfold Q1ru
 rw [Q232]
 have hl0 := Q113 p0 ((Q1hf p0 H).1) p0 0 [] (by simp) (by simp)
 obtain ⟨z0, zo0, hl0⟩ := hl0
 exact Qj (fn := Ir.K2z) rfl VOK.nil [hS 0 true (Val.Qk (Q5z p0 p0 0 []) 5 rfl), hQ (Val.Qa (Q5z p0 p0 0 [])).symm] [aV [(1, Val.rows (Q5z p0 p0 0 []))] hl0] (by kernel_rfl)
def Q1fm (p0 : PodSpec) : Val := PodSpec.enc p0
theorem Q22u (p0 : PodSpec) : Q1fm p0 = ((Q1u ([(Fld.mk Q3b (Q1i p0.node)), (Fld.mk Q1z (Qt p0.priority)), (Fld.mk Q2b (Qt p0.restart)), (Fld.mk Q38 (Qt p0.grace)), (Fld.mk Q1x (Q1fj p0.containers)), (Fld.mk Q1t (Q3q p0.nodeSelector)), (Fld.mk Q2f (Q1fl p0.nodeTerms)), (Fld.mk Q2x (Q1fn p0.podTerms)), (Fld.mk Q3m (Q1fo p0.spread)), (Fld.mk Q2q (Q1fq p0.tolerations))]))) := by
  kernel_rfl
def Q20n (p0 : PodSpec) : En := .call 214 [.agg (PodSpec.cells p0)] []
def Q1rl (p0 : PodSpec) : Rs := .ret (.agg (Val.cells (Q1fm p0))) []
def Q1lj (p0 : PodSpec) : Prop := PodSpec.sm p0
theorem Qb5 (p0 : PodSpec) (H : Q1lj p0) : (Q1lf p0.containers) ∧ (Q129 p0.nodeSelector) ∧ (Q1li p0.nodeTerms) ∧ (Q1lk p0.podTerms) ∧ (Q1ll p0.spread) ∧ (Q1lo p0.tolerations) ∧ True := by
  exact ⟨(by first | exact True.intro | exact H | exact H.1 | exact H.2.1 | exact H.2.2.1 | exact H.2.2.2.1 | exact H.2.2.2.2.1 | exact H.2.2.2.2.2.1 | exact ⟨H.1, trivial⟩ | exact ⟨H.2.1, trivial⟩), (by first | exact True.intro | exact H | exact H.1 | exact H.2.1 | exact H.2.2.1 | exact H.2.2.2.1 | exact H.2.2.2.2.1 | exact H.2.2.2.2.2.1 | exact ⟨H.1, trivial⟩ | exact ⟨H.2.1, trivial⟩), (by first | exact True.intro | exact H | exact H.1 | exact H.2.1 | exact H.2.2.1 | exact H.2.2.2.1 | exact H.2.2.2.2.1 | exact H.2.2.2.2.2.1 | exact ⟨H.1, trivial⟩ | exact ⟨H.2.1, trivial⟩), (by first | exact True.intro | exact H | exact H.1 | exact H.2.1 | exact H.2.2.1 | exact H.2.2.2.1 | exact H.2.2.2.2.1 | exact H.2.2.2.2.2.1 | exact ⟨H.1, trivial⟩ | exact ⟨H.2.1, trivial⟩), (by first | exact True.intro | exact H | exact H.1 | exact H.2.1 | exact H.2.2.1 | exact H.2.2.2.1 | exact H.2.2.2.2.1 | exact H.2.2.2.2.2.1 | exact ⟨H.1, trivial⟩ | exact ⟨H.2.1, trivial⟩), (by first | exact True.intro | exact H | exact H.1 | exact H.2.1 | exact H.2.2.1 | exact H.2.2.2.1 | exact H.2.2.2.2.1 | exact H.2.2.2.2.2.1 | exact ⟨H.1, trivial⟩ | exact ⟨H.2.1, trivial⟩), trivial⟩
theorem Q25k (p0 : PodSpec) (H : Q1lj p0) : Qd G (Q20n p0) (Q1rl p0) := by
 unfold Q1rl
 rw [Q22u]
 exact Qj (fn := Ir.K2k) rfl VOK.nil [] [aN (Qdo p0.node), aN (Q4h p0.priority), aN (Q4h p0.restart), aN (Q4h p0.grace), aN (Q25g p0.containers (Qb5 p0 H).1), aN (Q1fx p0.nodeSelector (Qb5 p0 H).2.1), aN (Q25j p0.nodeTerms (Qb5 p0 H).2.2.1), aN (Q25l p0.podTerms (Qb5 p0 H).2.2.2.1), aN (Q25m p0.spread (Qb5 p0 H).2.2.2.2.1), aN (Q25p p0.tolerations (Qb5 p0 H).2.2.2.2.2.1), aN (Q4k (e' := .call 163 [.sl [(Fld.cells (Fld.mk Q3b (Q1i p0.node))), (Fld.cells (Fld.mk Q1z (Qt p0.priority))), (Fld.cells (Fld.mk Q2b (Qt p0.restart))), (Fld.cells (Fld.mk Q38 (Qt p0.grace))), (Fld.cells (Fld.mk Q1x (Q1fj p0.containers))), (Fld.cells (Fld.mk Q1t (Q3q p0.nodeSelector))), (Fld.cells (Fld.mk Q2f (Q1fl p0.nodeTerms))), (Fld.cells (Fld.mk Q2x (Q1fn p0.podTerms))), (Fld.cells (Fld.mk Q3m (Q1fo p0.spread))), (Fld.cells (Fld.mk Q2q (Q1fq p0.tolerations)))]] []) (Q9s ([(Fld.mk Q3b (Q1i p0.node)), (Fld.mk Q1z (Qt p0.priority)), (Fld.mk Q2b (Qt p0.restart)), (Fld.mk Q38 (Qt p0.grace)), (Fld.mk Q1x (Q1fj p0.containers)), (Fld.mk Q1t (Q3q p0.nodeSelector)), (Fld.mk Q2f (Q1fl p0.nodeTerms)), (Fld.mk Q2x (Q1fn p0.podTerms)), (Fld.mk Q3m (Q1fo p0.spread)), (Fld.mk Q2q (Q1fq p0.tolerations))]) (Nat.le_of_ble_eq_true rfl)) (by simp only [Q9a, Fld.Q1b, Fld.Q1r]))] (by kernel_rfl)
def Q1fp (p0 : Template) : Val := Template.enc p0
theorem Q231 (p0 : Template) : Q1fp p0 = ((Q1u ([(Fld.mk Q2h (Q1fk p0.labels)), (Fld.mk Q3g (Q1fm p0.spec))]))) := by
  kernel_rfl
def Q20v (p0 : Template) : En := .call 166 [.agg (Template.cells p0)] []
def Q1rt (p0 : Template) : Rs := .ret (.agg (Val.cells (Q1fp p0))) []
def Q1ln (p0 : Template) : Prop := Template.sm p0
theorem Q15m (p0 : Template) (H : Q1ln p0) : (Q1lh p0.labels) ∧ (Q1lj p0.spec) ∧ True := by
  exact ⟨(by first | exact True.intro | exact H | exact H.1 | exact H.2.1 | exact ⟨H.1, trivial⟩ | exact ⟨H.2.1, trivial⟩), (by first | exact True.intro | exact H | exact H.1 | exact H.2.1 | exact ⟨H.1, trivial⟩ | exact ⟨H.2.1, trivial⟩), trivial⟩
theorem Q25o (p0 : Template) (H : Q1ln p0) : Qd G (Q20v p0) (Q1rt p0) := by
 unfold Q1rt
 rw [Q231]
 exact Qj (fn := Ir.K2y) rfl VOK.nil [] [aN (Q25i p0.labels (Q15m p0 H).1), aN (Q25k p0.spec (Q15m p0 H).2.1), aN (Q4k (e' := .call 163 [.sl [(Fld.cells (Fld.mk Q2h (Q1fk p0.labels))), (Fld.cells (Fld.mk Q3g (Q1fm p0.spec)))]] []) (Q9s ([(Fld.mk Q2h (Q1fk p0.labels)), (Fld.mk Q3g (Q1fm p0.spec))]) (Nat.le_of_ble_eq_true rfl)) (by simp only [Q9a, Fld.Q1b, Fld.Q1r]))] (by kernel_rfl)
def Qdl (p0 : Amount) : Val := Amount.enc p0
theorem Q22m (p0 : Amount) : Qdl p0 = ((Q1u ([(Fld.mk Q37 (Q2t p0.percent)), (Fld.mk kw_n (Qt p0.n))]))) := by
  kernel_rfl
def Q20e (p0 : Amount) : En := .call 168 [.agg (Amount.cells p0)] []
def Q1rb (p0 : Amount) : Rs := .ret (.agg (Val.cells (Qdl p0))) []
theorem Q1iu (p0 : Amount) : Qd G (Q20e p0) (Q1rb p0) := by
 unfold Q1rb
 rw [Q22m]
 exact Qj (fn := Ir.K20) rfl VOK.nil [] [aN (Qwu p0.percent), aN (Q4h p0.n), aN (Q4k (e' := .call 163 [.sl [(Fld.cells (Fld.mk Q37 (Q2t p0.percent))), (Fld.cells (Fld.mk kw_n (Qt p0.n)))]] []) (Q9s ([(Fld.mk Q37 (Q2t p0.percent)), (Fld.mk kw_n (Qt p0.n))]) (Nat.le_of_ble_eq_true rfl)) (by simp only [Q9a, Fld.Q1b, Fld.Q1r]))] (by kernel_rfl)
def Q1io (p0 : Deployment) : Val := Deployment.encS p0
theorem Q22r (p0 : Deployment) : Q1io p0 = ((Q1u ([(Fld.mk Q5 (Qt p0.replicas)), (Fld.mk Qc (Qt p0.minReady)), (Fld.mk Ql (Qt p0.history)), (Fld.mk Qf (Qt p0.deadline)), (Fld.mk Qh (Q3q p0.selector)), (Fld.mk Q1s (Q1fp p0.template)), (Fld.mk Qm (Q2t p0.recreate)), (Fld.mk Qq (Q2t p0.paused)), (Fld.mk Q11 (Qdl p0.surge)), (Fld.mk Qr (Qdl p0.unavailable)), (Fld.mk Q3h (Qt p0.undo))]))) := by
  kernel_rfl
def Q20j (p0 : Deployment) : En := .call 59 [.agg (Deployment.cells p0)] []
def Q1rg (p0 : Deployment) : Rs := .ret (.agg (Val.cells (Q1io p0))) []
def Q1lg (p0 : Deployment) : Prop := Deployment.sm p0
theorem Q15k (p0 : Deployment) (H : Q1lg p0) : (Q129 p0.selector) ∧ (Q1ln p0.template) ∧ True := by
  exact ⟨(by first | exact True.intro | exact H | exact H.1 | exact H.2.1 | exact H.2.2.1 | exact H.2.2.2.1 | exact H.2.2.2.2.1 | exact ⟨H.1, trivial⟩ | exact ⟨H.2.1, trivial⟩), (by first | exact True.intro | exact H | exact H.1 | exact H.2.1 | exact H.2.2.1 | exact H.2.2.2.1 | exact H.2.2.2.2.1 | exact ⟨H.1, trivial⟩ | exact ⟨H.2.1, trivial⟩), trivial⟩
theorem Q25h (p0 : Deployment) (H : Q1lg p0) : Qd G (Q20j p0) (Q1rg p0) := by
 unfold Q1rg
 rw [Q22r]
 exact Qj (fn := Ir.K2a) rfl VOK.nil [] [aN (Q4h p0.replicas), aN (Q4h p0.minReady), aN (Q4h p0.history), aN (Q4h p0.deadline), aN (Q1fx p0.selector (Q15k p0 H).1), aN (Q25o p0.template (Q15k p0 H).2.1), aN (Qwu p0.recreate), aN (Qwu p0.paused), aN (Q1iu p0.surge), aN (Q1iu p0.unavailable), aN (Q4h p0.undo), aN (Q4k (e' := .call 163 [.sl [(Fld.cells (Fld.mk Q5 (Qt p0.replicas))), (Fld.cells (Fld.mk Qc (Qt p0.minReady))), (Fld.cells (Fld.mk Ql (Qt p0.history))), (Fld.cells (Fld.mk Qf (Qt p0.deadline))), (Fld.cells (Fld.mk Qh (Q3q p0.selector))), (Fld.cells (Fld.mk Q1s (Q1fp p0.template))), (Fld.cells (Fld.mk Qm (Q2t p0.recreate))), (Fld.cells (Fld.mk Qq (Q2t p0.paused))), (Fld.cells (Fld.mk Q11 (Qdl p0.surge))), (Fld.cells (Fld.mk Qr (Qdl p0.unavailable))), (Fld.cells (Fld.mk Q3h (Qt p0.undo)))]] []) (Q9s ([(Fld.mk Q5 (Qt p0.replicas)), (Fld.mk Qc (Qt p0.minReady)), (Fld.mk Ql (Qt p0.history)), (Fld.mk Qf (Qt p0.deadline)), (Fld.mk Qh (Q3q p0.selector)), (Fld.mk Q1s (Q1fp p0.template)), (Fld.mk Qm (Q2t p0.recreate)), (Fld.mk Qq (Q2t p0.paused)), (Fld.mk Q11 (Qdl p0.surge)), (Fld.mk Qr (Qdl p0.unavailable)), (Fld.mk Q3h (Qt p0.undo))]) (Nat.le_of_ble_eq_true rfl)) (by simp only [Q9a, Fld.Q1b, Fld.Q1r]))] (by kernel_rfl)
def Q1ip (p0 : WorkStatus) : Val := WorkStatus.enc p0
theorem Q233 (p0 : WorkStatus) : Q1ip p0 = ((Q1u ([(Fld.mk Q24 (Qt p0.observed)), (Fld.mk Q5 (Qt p0.replicas)), (Fld.mk Q2p (Qt p0.updated)), (Fld.mk Q1w (Qt p0.ready)), (Fld.mk Q2e (Qt p0.available)), (Fld.mk Q2y (Qt p0.progress)), (Fld.mk Q3k (Q2t p0.failed))]))) := by
  kernel_rfl
def Q20x (p0 : WorkStatus) : En := .call 60 [.agg (WorkStatus.cells p0)] []
def Q1rv (p0 : WorkStatus) : Rs := .ret (.agg (Val.cells (Q1ip p0))) []
theorem Q25q (p0 : WorkStatus) : Qd G (Q20x p0) (Q1rv p0) := by
 unfold Q1rv
 rw [Q233]
 exact Qj (fn := Ir.K30) rfl VOK.nil [] [aN (Q4h p0.observed), aN (Q4h p0.replicas), aN (Q4h p0.updated), aN (Q4h p0.ready), aN (Q4h p0.available), aN (Q4h p0.progress), aN (Qwu p0.failed), aN (Q4k (e' := .call 163 [.sl [(Fld.cells (Fld.mk Q24 (Qt p0.observed))), (Fld.cells (Fld.mk Q5 (Qt p0.replicas))), (Fld.cells (Fld.mk Q2p (Qt p0.updated))), (Fld.cells (Fld.mk Q1w (Qt p0.ready))), (Fld.cells (Fld.mk Q2e (Qt p0.available))), (Fld.cells (Fld.mk Q2y (Qt p0.progress))), (Fld.cells (Fld.mk Q3k (Q2t p0.failed)))]] []) (Q9s ([(Fld.mk Q24 (Qt p0.observed)), (Fld.mk Q5 (Qt p0.replicas)), (Fld.mk Q2p (Qt p0.updated)), (Fld.mk Q1w (Qt p0.ready)), (Fld.mk Q2e (Qt p0.available)), (Fld.mk Q2y (Qt p0.progress)), (Fld.mk Q3k (Q2t p0.failed))]) (Nat.le_of_ble_eq_true rfl)) (by simp only [Q9a, Fld.Q1b, Fld.Q1r]))] (by kernel_rfl)
def Q1iq (p0 : BA) (p1 : Meta) (p2 : Val) (p3 : Val) : Object :=
 (Object.mk (Meta.mk p0 p1.namespace_ p1.name p1.uid p1.version p1.generation p1.created p1.deleting p1.deleteAt p1.labels p1.owners p1.finalizers p1.managers) p2 p3)
def Q210 (p0 : BA) (p1 : Meta) (p2 : Val) (p3 : Val) : En := .call 58 [.str p0, .agg (Meta.cells p1), .agg (Val.cells p2), .agg (Val.cells p3)] []
def Q1ry (p0 : BA) (p1 : Meta) (p2 : Val) (p3 : Val) : Rs := .ret (.agg (Object.cells (Q1iq p0 p1 p2 p3))) []
theorem Q1uk (p0 : BA) (p1 : Meta) (p2 : Val) (p3 : Val) : Qd G (Q210 p0 p1 p2 p3) (Q1ry p0 p1 p2 p3) := by
 unfold Q1ry Q1iq
 exact Qj (fn := Ir.K49) rfl VOK.nil [] [] (by kernel_rfl)
def Q4j (p0 : Deployment) : Object := Deployment.obj p0
theorem Q235 (p0 : Deployment) : Q4j p0 = ((Q1iq Q7 p0.meta_ (Q1io p0) (Q1ip p0.status))) := by
  first | rfl | kernel_rfl
def Q20z (p0 : Deployment) : En := .call 9 [.agg (Deployment.cells p0)] []
def Q1rx (p0 : Deployment) : Rs := .ret (.agg (Object.cells (Q4j p0))) []
def Q1cl (p0 : Deployment) : Prop := Deployment.sm p0
theorem Q1hg (p0 : Deployment) (H : Q1cl p0) : (Q1lg p0) ∧ True := by
  exact ⟨(by first | exact True.intro | exact H | exact H.1 | exact H.2.1 | exact H.2.2.1 | exact H.2.2.2.1 | exact H.2.2.2.2.1 | exact ⟨H.1, trivial⟩ | exact ⟨H.2.1, trivial⟩), trivial⟩
theorem Q1iw (p0 : Deployment) (H : Q1cl p0) : Qd G (Q20z p0) (Q1rx p0) := by
 unfold Q1rx
 rw [Q235]
 exact Qj (fn := Ir.K3o) rfl VOK.nil [] [aN (Q25h p0 (Q1hg p0 H).1), aN (Q25q p0.status), aN (Q1uk Q7 p0.meta_ (Q1io p0) (Q1ip p0.status))] (by kernel_rfl)
def Q4x (p0 : Autoscaler) : List Metric → Nat → (List Val) → List Val
 | [], _i0, v0_1 =>
  v0_1
 | x0 :: r0, i0, v0_1 =>
  Q4x p0 r0 (i0 + 1) (v0_1 ++ [(Q1u ([(Fld.mk Q17 (Q1i x0.name)), (Fld.mk Qi (Qt x0.target))]))])
theorem Q16p (p0 : Autoscaler) : ∀ (l : List Metric) (i : Nat) (a : List Val), Q4x p0 l i a = a ++ l.map (fun x0 => (Q1u ([(Fld.mk Q17 (Q1i x0.name)), (Fld.mk Qi (Qt x0.target))])))
  | [], _, _ => by simp [Q4x]
  | x :: r, i, a => by rw [Q4x, Q16p p0 r]; simp
def Qxj (_p0 : Autoscaler) (i0 : Nat) (v0_1 : List Val) : List PV :=
  [.un, .bx 0 0, .bx 1 0, .ms 2 5 0 (List.length v0_1), .int .i64 (i0 : Int)] ++ nuns 73
def Qiy (p0 : Autoscaler) (_i0 : Nat) (v0_1 : List Val) : List Ob :=
  [⟨28, 0, true, [.str p0.meta_.kind, .str p0.meta_.namespace_, .str p0.meta_.name, .int .i64 p0.meta_.uid, .int .i64 p0.meta_.version, .int .i64 p0.meta_.generation, .int .i64 p0.meta_.created, .bool p0.meta_.deleting, .int .i64 p0.meta_.deleteAt, .sl (Label.rows p0.meta_.labels), .sl (Owner.rows p0.meta_.owners), .sl (Q10 p0.meta_.finalizers), .sl (Manager.rows p0.meta_.managers), .str p0.targetKind, .str p0.target, .int .i64 p0.min_, .int .i64 p0.max_, .sl (Metric.rows p0.metrics), .int .i64 p0.tolerance, .int .i64 p0.upWindow, .int .i64 p0.downWindow, .bool p0.upStep.percent, .int .i64 p0.upStep.n, .bool p0.downStep.percent, .int .i64 p0.downStep.n, .int .i64 p0.period, .sl (Advice.rows p0.advice), .int .i64 p0.scaled]⟩, ⟨5, 0, true, [.int .i64 0, .int .i64 0, .str eB, .ms 3 5 0 0, .ms 4 6 0 0]⟩, ⟨5, 0, true, (Val.rows v0_1).flatten⟩, ⟨5, 0, true, []⟩, ⟨6, 0, true, []⟩]
def Qfr (p0 : Autoscaler) (i0 : Nat) (v0_1 : List Val) : En := .loop 0 Ir.Qkh Ir.Q1jo (Qxj p0 i0 v0_1) (Qiy p0 i0 v0_1)
def Qpm (p0 : Autoscaler) (q0 : List Val) (z : Nat → PV) (_zo : Nat → List PV) : St :=
  ⟨[z 0, .bx 0 0, .bx 1 0, .ms 2 5 0 (List.length q0)] ++ zr z 4 74, [(0, ⟨28, 0, true, [.str p0.meta_.kind, .str p0.meta_.namespace_, .str p0.meta_.name, .int .i64 p0.meta_.uid, .int .i64 p0.meta_.version, .int .i64 p0.meta_.generation, .int .i64 p0.meta_.created, .bool p0.meta_.deleting, .int .i64 p0.meta_.deleteAt, .sl (Label.rows p0.meta_.labels), .sl (Owner.rows p0.meta_.owners), .sl (Q10 p0.meta_.finalizers), .sl (Manager.rows p0.meta_.managers), .str p0.targetKind, .str p0.target, .int .i64 p0.min_, .int .i64 p0.max_, .sl (Metric.rows p0.metrics), .int .i64 p0.tolerance, .int .i64 p0.upWindow, .int .i64 p0.downWindow, .bool p0.upStep.percent, .int .i64 p0.upStep.n, .bool p0.downStep.percent, .int .i64 p0.downStep.n, .int .i64 p0.period, .sl (Advice.rows p0.advice), .int .i64 p0.scaled]⟩), (1, ⟨5, 0, true, [.int .i64 0, .int .i64 0, .str eB, .ms 3 5 0 0, .ms 4 6 0 0]⟩), (2, ⟨5, 0, true, (Val.rows q0).flatten⟩), (3, ⟨5, 0, true, []⟩), (4, ⟨6, 0, true, []⟩)], 325⟩
theorem Q14e (p0 : Autoscaler) (i0 : Nat) (v0_1 : List Val) : VOK (Go.Pv.look (number 0 (Qiy p0 i0 v0_1))) [(2, Val.rows v0_1)] := (VOK.cons (show Seen _ _ from Q3r (ob := ⟨5, 0, true, (Val.rows v0_1).flatten⟩) (Val.Qk v0_1 5 rfl)) VOK.nil)
def Qhk (p0 : Autoscaler) (e : En) (q : List Val) : Prop := ∃ z zo, Qd G e (.st (.exit 0) (Qpm p0 q z zo))
theorem Qug (p0 : Autoscaler) {e e' : En} (h : ∀ r, Qd G e r → Qd G e' r) : ∀ q, Qhk p0 e q → Qhk p0 e' q
  | _, ⟨z, zo, hz⟩ => ⟨z, zo, h _ hz⟩
def Qgs (p0 : Autoscaler) : Prop := (List.length p0.metrics ≤ 137438953472) ∧ True
def Qra (p0 : Autoscaler) (i0 : Nat) (_v0_1 : List Val) : List PV :=
  [.un, .un, .un, .un, .int .i64 (i0 : Int), .int .i64 (i0 : Int), .bx 0 17, .sl (Metric.rows p0.metrics), .int .i64 ((List.length p0.metrics) : Int), .bool false]
def Qm8 (_p0 : Autoscaler) (_i0 : Nat) (_v0_1 : List Val) : List (Nat × List PV) :=
  []
theorem Q1bk (p0 : Autoscaler) (_H : Qgs p0) (i0 : Nat) (v0_1 : List Val) (_ho0_0 : List.length v0_1 ≤ i0) (hc0 : (decide ((i0 : Int) < ((List.length p0.metrics) : Int))) = false) : Qhk p0 (Qfr p0 i0 v0_1) v0_1 := by
 exact ⟨(envF (Qra p0 i0 v0_1)), (zoF (Qm8 p0 i0 v0_1)), Qv (Q14e p0 i0 v0_1) (x := ((.exit 0), Qpm p0 v0_1 (envF (Qra p0 i0 v0_1)) (zoF (Qm8 p0 i0 v0_1)))) [hP 3 (Q1g (Metric.rows p0.metrics) (List.length p0.metrics) (Metric.Qa p0.metrics)), hB 0 hc0] [] (by kernel_rfl)⟩
theorem Q196 (p0 : Autoscaler) (H : Qgs p0) (x0 : Metric) (i0 : Nat) (v0_1 : List Val) (hx0 : p0.metrics[i0]? = some x0) (hi0 : i0 < List.length p0.metrics) (ho0_0 : List.length v0_1 ≤ i0) (hc0 : (decide ((i0 : Int) < ((List.length p0.metrics) : Int))) = true) {r : Rs} (hr : Qd G (Qfr p0 (i0 + 1) (v0_1 ++ [(Q1u ([(Fld.mk Q17 (Q1i x0.name)), (Fld.mk Qi (Qt x0.target))]))])) r) : Qd G (Qfr p0 i0 v0_1) r := by
 have hB0 := H.1
 exact Qu (Q14e p0 i0 v0_1) (y := (Qxj p0 (i0 + 1) (v0_1 ++ [(Q1u ([(Fld.mk Q17 (Q1i x0.name)), (Fld.mk Qi (Qt x0.target))]))]), Qiy p0 (i0 + 1) (v0_1 ++ [(Q1u ([(Fld.mk Q17 (Q1i x0.name)), (Fld.mk Qi (Qt x0.target))]))]))) [hP 3 (Q1g (Metric.rows p0.metrics) (List.length p0.metrics) (Metric.Qa p0.metrics)), hB 0 hc0, hP 4 (Q35 2 (Metric.rows p0.metrics) i0 _ (Metric.Qz hx0) rfl), hP 7 (Q35 2 (Metric.rows p0.metrics) i0 _ (Metric.Qz hx0) rfl), hV 7 [(1605, Val.rows (v0_1 ++ [(Q1u ([(Fld.mk Q17 (Q1i x0.name)), (Fld.mk Qi (Qt x0.target))]))]))] (Q4a 2 1541 1605 5 80 0 0 true (Val.rows v0_1) (Val.rows (v0_1 ++ [(Q1u ([(Fld.mk Q17 (Q1i x0.name)), (Fld.mk Qi (Qt x0.target))]))])) (Val.cells (Q1u ([(Fld.mk Q17 (Q1i x0.name)), (Fld.mk Qi (Qt x0.target))]))) (List.length v0_1) (List.length (v0_1 ++ [(Q1u ([(Fld.mk Q17 (Q1i x0.name)), (Fld.mk Qi (Qt x0.target))]))])) rfl (Val.Qa v0_1).symm (Val.Qa (v0_1 ++ [(Q1u ([(Fld.mk Q17 (Q1i x0.name)), (Fld.mk Qi (Qt x0.target))]))])).symm (Val.Q23 v0_1 (Q1u ([(Fld.mk Q17 (Q1i x0.name)), (Fld.mk Qi (Qt x0.target))]))) (Val.Q12 v0_1) rfl (by omega)), hS 0 true (Val.Qk (v0_1 ++ [(Q1u ([(Fld.mk Q17 (Q1i x0.name)), (Fld.mk Qi (Qt x0.target))]))]) 5 rfl), hP 2 (Q2s i0 (by omega))] [aN (Qdo x0.name), aN (Q4h x0.target), aN (Q4k (e' := .call 163 [.sl [(Fld.cells (Fld.mk Q17 (Q1i x0.name))), (Fld.cells (Fld.mk Qi (Qt x0.target)))]] []) (Q9s ([(Fld.mk Q17 (Q1i x0.name)), (Fld.mk Qi (Qt x0.target))]) (Nat.le_of_ble_eq_true rfl)) (by simp only [Q9a, Fld.Q1b, Fld.Q1r]))] (by kernel_rfl) hr
theorem Q10s (p0 : Autoscaler) (H : Qgs p0) : ∀ (r0 : List Metric) (i0 : Nat) (v0_1 : List Val), List.drop i0 p0.metrics = r0 → List.length v0_1 ≤ i0 → Qhk p0 (Qfr p0 i0 v0_1) (Q4x p0 r0 i0 v0_1)
 | [], i0, v0_1, hd, ho0_0 => by
  have hc0 : (decide ((i0 : Int) < ((List.length p0.metrics) : Int))) = false := by have := Q1y hd; simp; omega
  rw [Q4x]
  exact Q1bk p0 H i0 v0_1 ho0_0 hc0
 | x0 :: r0, i0, v0_1, hd, ho0_0 => by
  obtain ⟨hx0, hi0, hd'⟩ := Q1v hd
  have hc0 : (decide ((i0 : Int) < ((List.length p0.metrics) : Int))) = true := by simp; omega
  rw [Q4x]
  exact Qug p0 (fun r hr => Q196 p0 H x0 i0 v0_1 hx0 hi0 ho0_0 hc0 hr) _ (Q10s p0 H r0 (i0 + 1) (v0_1 ++ [(Q1u ([(Fld.mk Q17 (Q1i x0.name)), (Fld.mk Qi (Qt x0.target))]))]) hd' (by first | omega | (simp; omega)))
def Q1im (p0 : Autoscaler) : Val := Autoscaler.encS p0
theorem Q22n (p0 : Autoscaler) : Q1im p0 = ((Q1u ([(Fld.mk Q8 (Q1i p0.targetKind)), (Fld.mk Qi (Q1i p0.target)), (Fld.mk Q1j (Qt p0.min_)), (Fld.mk Q1n (Qt p0.max_)), (Fld.mk Qg (Val.mk 4 0 eB (Q4x p0 p0.metrics 0 []) [])), (Fld.mk Qe (Qt p0.tolerance)), (Fld.mk Qn (Qt p0.upWindow)), (Fld.mk Qb (Qt p0.downWindow)), (Fld.mk Qs (Qdl p0.upStep)), (Fld.mk Q18 (Qdl p0.downStep)), (Fld.mk Q1d (Qt p0.period))]))) := by
  simp only [Q16p]
  kernel_rfl
def Q20f (p0 : Autoscaler) : En := .call 61 [.agg (Autoscaler.cells p0)] []
def Q1rc (p0 : Autoscaler) : Rs := .ret (.agg (Val.cells (Q1im p0))) []
def Q1ld (p0 : Autoscaler) : Prop := Autoscaler.sm p0
theorem Q1h5 (p0 : Autoscaler) (H : Q1ld p0) : (Qgs p0) ∧ True := by
  exact ⟨⟨Nat.le_trans H.1.1 (Nat.le_of_ble_eq_true rfl), trivial⟩, trivial⟩
theorem Q25e (p0 : Autoscaler) (H : Q1ld p0) : Qd G (Q20f p0) (Q1rc p0) := by
 unfold Q1rc
 rw [Q22n]
 have hl0 := Q10s p0 ((Q1h5 p0 H).1) p0.metrics 0 [] (by simp) (by simp)
 obtain ⟨z0, zo0, hl0⟩ := hl0
 exact Qj (fn := Ir.K22) rfl VOK.nil [hS 0 true (Val.Qk (Q4x p0 p0.metrics 0 []) 5 rfl), hQ (Val.Qa (Q4x p0 p0.metrics 0 [])).symm] [aV [(2, Val.rows (Q4x p0 p0.metrics 0 []))] hl0, aN (Qdo p0.targetKind), aN (Qdo p0.target), aN (Q4h p0.min_), aN (Q4h p0.max_), aN (Q4h p0.tolerance), aN (Q4h p0.upWindow), aN (Q4h p0.downWindow), aN (Q1iu p0.upStep), aN (Q1iu p0.downStep), aN (Q4h p0.period), aN (Q4k (e' := .call 163 [.sl [(Fld.cells (Fld.mk Q8 (Q1i p0.targetKind))), (Fld.cells (Fld.mk Qi (Q1i p0.target))), (Fld.cells (Fld.mk Q1j (Qt p0.min_))), (Fld.cells (Fld.mk Q1n (Qt p0.max_))), (Fld.cells (Fld.mk Qg (Val.mk 4 0 eB (Q4x p0 p0.metrics 0 []) []))), (Fld.cells (Fld.mk Qe (Qt p0.tolerance))), (Fld.cells (Fld.mk Qn (Qt p0.upWindow))), (Fld.cells (Fld.mk Qb (Qt p0.downWindow))), (Fld.cells (Fld.mk Qs (Qdl p0.upStep))), (Fld.cells (Fld.mk Q18 (Qdl p0.downStep))), (Fld.cells (Fld.mk Q1d (Qt p0.period)))]] []) (Q9s ([(Fld.mk Q8 (Q1i p0.targetKind)), (Fld.mk Qi (Q1i p0.target)), (Fld.mk Q1j (Qt p0.min_)), (Fld.mk Q1n (Qt p0.max_)), (Fld.mk Qg (Val.mk 4 0 eB (Q4x p0 p0.metrics 0 []) [])), (Fld.mk Qe (Qt p0.tolerance)), (Fld.mk Qn (Qt p0.upWindow)), (Fld.mk Qb (Qt p0.downWindow)), (Fld.mk Qs (Qdl p0.upStep)), (Fld.mk Q18 (Qdl p0.downStep)), (Fld.mk Q1d (Qt p0.period))]) (Nat.le_of_ble_eq_true rfl)) (by simp only [Q9a, Fld.Q1b, Fld.Q1r]))] (by kernel_rfl)
def Q4y (p0 : Autoscaler) : List Advice → Nat → (List Val) → List Val
 | [], _i0, v0_1 =>
  v0_1
 | x0 :: r0, i0, v0_1 =>
  Q4y p0 r0 (i0 + 1) (v0_1 ++ [(Q1u ([(Fld.mk Q59 (Qt x0.at_)), (Fld.mk Q5 (Qt x0.replicas))]))])
theorem Q16q (p0 : Autoscaler) : ∀ (l : List Advice) (i : Nat) (a : List Val), Q4y p0 l i a = a ++ l.map (fun x0 => (Q1u ([(Fld.mk Q59 (Qt x0.at_)), (Fld.mk Q5 (Qt x0.replicas))])))
  | [], _, _ => by simp [Q4y]
  | x :: r, i, a => by rw [Q4y, Q16q p0 r]; simp
def Qxk (_p0 : Autoscaler) (i0 : Nat) (v0_1 : List Val) : List PV :=
  [.un, .bx 0 0, .bx 1 0, .ms 2 5 0 (List.length v0_1), .int .i64 (i0 : Int)] ++ nuns 37
def Qiz (p0 : Autoscaler) (_i0 : Nat) (v0_1 : List Val) : List Ob :=
  [⟨28, 0, true, [.str p0.meta_.kind, .str p0.meta_.namespace_, .str p0.meta_.name, .int .i64 p0.meta_.uid, .int .i64 p0.meta_.version, .int .i64 p0.meta_.generation, .int .i64 p0.meta_.created, .bool p0.meta_.deleting, .int .i64 p0.meta_.deleteAt, .sl (Label.rows p0.meta_.labels), .sl (Owner.rows p0.meta_.owners), .sl (Q10 p0.meta_.finalizers), .sl (Manager.rows p0.meta_.managers), .str p0.targetKind, .str p0.target, .int .i64 p0.min_, .int .i64 p0.max_, .sl (Metric.rows p0.metrics), .int .i64 p0.tolerance, .int .i64 p0.upWindow, .int .i64 p0.downWindow, .bool p0.upStep.percent, .int .i64 p0.upStep.n, .bool p0.downStep.percent, .int .i64 p0.downStep.n, .int .i64 p0.period, .sl (Advice.rows p0.advice), .int .i64 p0.scaled]⟩, ⟨5, 0, true, [.int .i64 0, .int .i64 0, .str eB, .ms 3 5 0 0, .ms 4 6 0 0]⟩, ⟨5, 0, true, (Val.rows v0_1).flatten⟩, ⟨5, 0, true, []⟩, ⟨6, 0, true, []⟩]
def Qfs (p0 : Autoscaler) (i0 : Nat) (v0_1 : List Val) : En := .loop 0 Ir.Qki Ir.Q1jp (Qxk p0 i0 v0_1) (Qiz p0 i0 v0_1)
def Qpn (p0 : Autoscaler) (q0 : List Val) (z : Nat → PV) (_zo : Nat → List PV) : St :=
  ⟨[z 0, .bx 0 0, .bx 1 0, .ms 2 5 0 (List.length q0)] ++ zr z 4 38, [(0, ⟨28, 0, true, [.str p0.meta_.kind, .str p0.meta_.namespace_, .str p0.meta_.name, .int .i64 p0.meta_.uid, .int .i64 p0.meta_.version, .int .i64 p0.meta_.generation, .int .i64 p0.meta_.created, .bool p0.meta_.deleting, .int .i64 p0.meta_.deleteAt, .sl (Label.rows p0.meta_.labels), .sl (Owner.rows p0.meta_.owners), .sl (Q10 p0.meta_.finalizers), .sl (Manager.rows p0.meta_.managers), .str p0.targetKind, .str p0.target, .int .i64 p0.min_, .int .i64 p0.max_, .sl (Metric.rows p0.metrics), .int .i64 p0.tolerance, .int .i64 p0.upWindow, .int .i64 p0.downWindow, .bool p0.upStep.percent, .int .i64 p0.upStep.n, .bool p0.downStep.percent, .int .i64 p0.downStep.n, .int .i64 p0.period, .sl (Advice.rows p0.advice), .int .i64 p0.scaled]⟩), (1, ⟨5, 0, true, [.int .i64 0, .int .i64 0, .str eB, .ms 3 5 0 0, .ms 4 6 0 0]⟩), (2, ⟨5, 0, true, (Val.rows q0).flatten⟩), (3, ⟨5, 0, true, []⟩), (4, ⟨6, 0, true, []⟩)], 325⟩
theorem Q14f (p0 : Autoscaler) (i0 : Nat) (v0_1 : List Val) : VOK (Go.Pv.look (number 0 (Qiz p0 i0 v0_1))) [(2, Val.rows v0_1)] := (VOK.cons (show Seen _ _ from Q3r (ob := ⟨5, 0, true, (Val.rows v0_1).flatten⟩) (Val.Qk v0_1 5 rfl)) VOK.nil)
def Qhl (p0 : Autoscaler) (e : En) (q : List Val) : Prop := ∃ z zo, Qd G e (.st (.exit 0) (Qpn p0 q z zo))
theorem Quh (p0 : Autoscaler) {e e' : En} (h : ∀ r, Qd G e r → Qd G e' r) : ∀ q, Qhl p0 e q → Qhl p0 e' q
  | _, ⟨z, zo, hz⟩ => ⟨z, zo, h _ hz⟩
def Qgt (p0 : Autoscaler) : Prop := (List.length p0.advice ≤ 137438953472) ∧ True
def Qrb (p0 : Autoscaler) (i0 : Nat) (_v0_1 : List Val) : List PV :=
  [.un, .un, .un, .un, .int .i64 (i0 : Int), .int .i64 (i0 : Int), .bx 0 26, .sl (Advice.rows p0.advice), .int .i64 ((List.length p0.advice) : Int), .bool false]
def Qm9 (_p0 : Autoscaler) (_i0 : Nat) (_v0_1 : List Val) : List (Nat × List PV) :=
  []
theorem Q1bl (p0 : Autoscaler) (_H : Qgt p0) (i0 : Nat) (v0_1 : List Val) (_ho0_0 : List.length v0_1 ≤ i0) (hc0 : (decide ((i0 : Int) < ((List.length p0.advice) : Int))) = false) : Qhl p0 (Qfs p0 i0 v0_1) v0_1 := by
 exact ⟨(envF (Qrb p0 i0 v0_1)), (zoF (Qm9 p0 i0 v0_1)), Qv (Q14f p0 i0 v0_1) (x := ((.exit 0), Qpn p0 v0_1 (envF (Qrb p0 i0 v0_1)) (zoF (Qm9 p0 i0 v0_1)))) [hP 3 (Q1g (Advice.rows p0.advice) (List.length p0.advice) (Advice.Qa p0.advice)), hB 0 hc0] [] (by kernel_rfl)⟩
theorem Q197 (p0 : Autoscaler) (H : Qgt p0) (x0 : Advice) (i0 : Nat) (v0_1 : List Val) (hx0 : p0.advice[i0]? = some x0) (hi0 : i0 < List.length p0.advice) (ho0_0 : List.length v0_1 ≤ i0) (hc0 : (decide ((i0 : Int) < ((List.length p0.advice) : Int))) = true) {r : Rs} (hr : Qd G (Qfs p0 (i0 + 1) (v0_1 ++ [(Q1u ([(Fld.mk Q59 (Qt x0.at_)), (Fld.mk Q5 (Qt x0.replicas))]))])) r) : Qd G (Qfs p0 i0 v0_1) r := by
 have hB0 := H.1
 exact Qu (Q14f p0 i0 v0_1) (y := (Qxk p0 (i0 + 1) (v0_1 ++ [(Q1u ([(Fld.mk Q59 (Qt x0.at_)), (Fld.mk Q5 (Qt x0.replicas))]))]), Qiz p0 (i0 + 1) (v0_1 ++ [(Q1u ([(Fld.mk Q59 (Qt x0.at_)), (Fld.mk Q5 (Qt x0.replicas))]))]))) [hP 3 (Q1g (Advice.rows p0.advice) (List.length p0.advice) (Advice.Qa p0.advice)), hB 0 hc0, hP 4 (Q35 2 (Advice.rows p0.advice) i0 _ (Advice.Qz hx0) rfl), hP 7 (Q35 2 (Advice.rows p0.advice) i0 _ (Advice.Qz hx0) rfl), hV 7 [(1605, Val.rows (v0_1 ++ [(Q1u ([(Fld.mk Q59 (Qt x0.at_)), (Fld.mk Q5 (Qt x0.replicas))]))]))] (Q4a 2 1541 1605 5 80 0 0 true (Val.rows v0_1) (Val.rows (v0_1 ++ [(Q1u ([(Fld.mk Q59 (Qt x0.at_)), (Fld.mk Q5 (Qt x0.replicas))]))])) (Val.cells (Q1u ([(Fld.mk Q59 (Qt x0.at_)), (Fld.mk Q5 (Qt x0.replicas))]))) (List.length v0_1) (List.length (v0_1 ++ [(Q1u ([(Fld.mk Q59 (Qt x0.at_)), (Fld.mk Q5 (Qt x0.replicas))]))])) rfl (Val.Qa v0_1).symm (Val.Qa (v0_1 ++ [(Q1u ([(Fld.mk Q59 (Qt x0.at_)), (Fld.mk Q5 (Qt x0.replicas))]))])).symm (Val.Q23 v0_1 (Q1u ([(Fld.mk Q59 (Qt x0.at_)), (Fld.mk Q5 (Qt x0.replicas))]))) (Val.Q12 v0_1) rfl (by omega)), hS 0 true (Val.Qk (v0_1 ++ [(Q1u ([(Fld.mk Q59 (Qt x0.at_)), (Fld.mk Q5 (Qt x0.replicas))]))]) 5 rfl), hP 2 (Q2s i0 (by omega))] [aN (Q4h x0.at_), aN (Q4h x0.replicas), aN (Q4k (e' := .call 163 [.sl [(Fld.cells (Fld.mk Q59 (Qt x0.at_))), (Fld.cells (Fld.mk Q5 (Qt x0.replicas)))]] []) (Q9s ([(Fld.mk Q59 (Qt x0.at_)), (Fld.mk Q5 (Qt x0.replicas))]) (Nat.le_of_ble_eq_true rfl)) (by simp only [Q9a, Fld.Q1b, Fld.Q1r]))] (by kernel_rfl) hr
theorem Q10t (p0 : Autoscaler) (H : Qgt p0) : ∀ (r0 : List Advice) (i0 : Nat) (v0_1 : List Val), List.drop i0 p0.advice = r0 → List.length v0_1 ≤ i0 → Qhl p0 (Qfs p0 i0 v0_1) (Q4y p0 r0 i0 v0_1)
 | [], i0, v0_1, hd, ho0_0 => by
  have hc0 : (decide ((i0 : Int) < ((List.length p0.advice) : Int))) = false := by have := Q1y hd; simp; omega
  rw [Q4y]
  exact Q1bl p0 H i0 v0_1 ho0_0 hc0
 | x0 :: r0, i0, v0_1, hd, ho0_0 => by
  obtain ⟨hx0, hi0, hd'⟩ := Q1v hd
  have hc0 : (decide ((i0 : Int) < ((List.length p0.advice) : Int))) = true := by simp; omega
  rw [Q4y]
  exact Quh p0 (fun r hr => Q197 p0 H x0 i0 v0_1 hx0 hi0 ho0_0 hc0 hr) _ (Q10t p0 H r0 (i0 + 1) (v0_1 ++ [(Q1u ([(Fld.mk Q59 (Qt x0.at_)), (Fld.mk Q5 (Qt x0.replicas))]))]) hd' (by first | omega | (simp; omega)))
def Q1in (p0 : Autoscaler) : Val := Autoscaler.encT p0
theorem Q22o (p0 : Autoscaler) : Q1in p0 = ((Q1u ([(Fld.mk Qp (Val.mk 4 0 eB (Q4y p0 p0.advice 0 []) [])), (Fld.mk Q31 (Qt p0.scaled))]))) := by
  simp only [Q16q]
  kernel_rfl
def Q20g (p0 : Autoscaler) : En := .call 62 [.agg (Autoscaler.cells p0)] []
def Q1rd (p0 : Autoscaler) : Rs := .ret (.agg (Val.cells (Q1in p0))) []
def Q1le (p0 : Autoscaler) : Prop := Autoscaler.sm p0
theorem Q1h6 (p0 : Autoscaler) (H : Q1le p0) : (Qgt p0) ∧ True := by
  exact ⟨⟨Nat.le_trans H.2.2.2.1.1 (Nat.le_of_ble_eq_true rfl), trivial⟩, trivial⟩
theorem Q25f (p0 : Autoscaler) (H : Q1le p0) : Qd G (Q20g p0) (Q1rd p0) := by
 unfold Q1rd
 rw [Q22o]
 have hl0 := Q10t p0 ((Q1h6 p0 H).1) p0.advice 0 [] (by simp) (by simp)
 obtain ⟨z0, zo0, hl0⟩ := hl0
 exact Qj (fn := Ir.K23) rfl VOK.nil [hS 0 true (Val.Qk (Q4y p0 p0.advice 0 []) 5 rfl), hQ (Val.Qa (Q4y p0 p0.advice 0 [])).symm] [aV [(2, Val.rows (Q4y p0 p0.advice 0 []))] hl0, aN (Q4h p0.scaled), aN (Q4k (e' := .call 163 [.sl [(Fld.cells (Fld.mk Qp (Val.mk 4 0 eB (Q4y p0 p0.advice 0 []) []))), (Fld.cells (Fld.mk Q31 (Qt p0.scaled)))]] []) (Q9s ([(Fld.mk Qp (Val.mk 4 0 eB (Q4y p0 p0.advice 0 []) [])), (Fld.mk Q31 (Qt p0.scaled))]) (Nat.le_of_ble_eq_true rfl)) (by simp only [Q9a, Fld.Q1b, Fld.Q1r]))] (by kernel_rfl)
def Q4m (p0 : Autoscaler) : Object := Autoscaler.obj p0
theorem Q234 (p0 : Autoscaler) : Q4m p0 = ((Q1iq Q6 p0.meta_ (Q1im p0) (Q1in p0))) := by
  first | rfl | kernel_rfl
def Q20y (p0 : Autoscaler) : En := .call 10 [.agg (Autoscaler.cells p0)] []
def Q1rw (p0 : Autoscaler) : Rs := .ret (.agg (Object.cells (Q4m p0))) []
def Q1ck (p0 : Autoscaler) : Prop := Autoscaler.sm p0
theorem Q15n (p0 : Autoscaler) (H : Q1ck p0) : (Q1ld p0) ∧ (Q1le p0) ∧ True := by
  exact ⟨(by first | exact True.intro | exact H | exact H.1 | exact H.2.1 | exact H.2.2.1 | exact H.2.2.2.1 | exact ⟨H.1, trivial⟩ | exact ⟨H.2.1, trivial⟩), (by first | exact True.intro | exact H | exact H.1 | exact H.2.1 | exact H.2.2.1 | exact H.2.2.2.1 | exact ⟨H.1, trivial⟩ | exact ⟨H.2.1, trivial⟩), trivial⟩
theorem Q1iv (p0 : Autoscaler) (H : Q1ck p0) : Qd G (Q20y p0) (Q1rw p0) := by
 unfold Q1rw
 rw [Q234]
 exact Qj (fn := Ir.K3k) rfl VOK.nil [] [aN (Q25e p0 (Q15n p0 H).1), aN (Q25f p0 (Q15n p0 H).2.1), aN (Q1uk Q6 p0.meta_ (Q1im p0) (Q1in p0))] (by kernel_rfl)
end Go.Proofs.YtimjjohlpnkacaaGreat
end

section
/- What the reference's encoders compute (printed by a program). -/
namespace Go.Proofs.YtimjjohlpnkacaaGreat
open Go.Pv
end Go.Proofs.YtimjjohlpnkacaaGreat
end

section
/- Equality of metadata and objects that are the same; what is small (printed by a program). -/
namespace Go.Proofs.YtimjjohlpnkacaaGreat
open Go.Pv
def Q1mu (p0 : BA) (p1 : BA) (p2 : BA) : ByteArray :=
 ((((p0 ++ (⟨#[47]⟩ : BA)) ++ p1) ++ (⟨#[47]⟩ : BA)) ++ p2)
def Q20a (p0 : BA) (p1 : BA) (p2 : BA) : En := .call 199 [.str p0, .str p1, .str p2] []
def Q1r7 (p0 : BA) (p1 : BA) (p2 : BA) : Rs := .ret (.str (Q1mu p0 p1 p2)) []
def Q1q3 (p0 : BA) (p1 : BA) (p2 : BA) : Prop := (ByteArray.size p0 + ByteArray.size (⟨#[47]⟩ : BA) ≤ 9223372036854775807) ∧ (ByteArray.size (p0 ++ (⟨#[47]⟩ : BA)) + ByteArray.size p1 ≤ 9223372036854775807) ∧ (ByteArray.size ((p0 ++ (⟨#[47]⟩ : BA)) ++ p1) + ByteArray.size (⟨#[47]⟩ : BA) ≤ 9223372036854775807) ∧ (ByteArray.size (((p0 ++ (⟨#[47]⟩ : BA)) ++ p1) ++ (⟨#[47]⟩ : BA)) + ByteArray.size p2 ≤ 9223372036854775807) ∧ True
theorem Q25c (p0 : BA) (p1 : BA) (p2 : BA) (H : Q1q3 p0 p1 p2) : Qd G (Q20a p0 p1 p2) (Q1r7 p0 p1 p2) := by
 unfold Q1r7 Q1mu
 exact Qj (fn := Ir.K1w) rfl VOK.nil [hP 2 (Q153 p0 (⟨#[47]⟩ : BA) H.1), hP 1 (Q153 (p0 ++ (⟨#[47]⟩ : BA)) p1 H.2.1), hP 0 (Q153 ((p0 ++ (⟨#[47]⟩ : BA)) ++ p1) (⟨#[47]⟩ : BA) H.2.2.1), hP 1 (Q153 (((p0 ++ (⟨#[47]⟩ : BA)) ++ p1) ++ (⟨#[47]⟩ : BA)) p2 H.2.2.2.1)] [] (by kernel_rfl)
def Q1il (p0 : Meta) : ByteArray :=
 (Q1mu p0.kind p0.namespace_ p0.name)
def Q20b (p0 : Meta) : En := .call 119 [.agg (Meta.cells p0)] []
def Q1r8 (p0 : Meta) : Rs := .ret (.str (Q1il p0)) []
def Q1q4 (p0 : Meta) : Prop := (Q1q3 p0.kind p0.namespace_ p0.name) ∧ True
theorem Q1uh (p0 : Meta) (H : Q1q4 p0) : Qd G (Q20b p0) (Q1r8 p0) := by
 unfold Q1r8 Q1il
 exact Qj (fn := Ir.K1x) rfl VOK.nil [] [aN (Q25c p0.kind p0.namespace_ p0.name H.1)] (by kernel_rfl)
def Q164 (p0 : Meta) : List Label → Nat → Unit
 | [], _i0 =>
  ()
 | _x0 :: r0, i0 =>
  Q164 p0 r0 (i0 + 1)
def Qxf (_p0 : Meta) (i0 : Nat) : List PV :=
  [.un, .un, .bx 0 0, .bx 1 0, .un, .int .i64 (i0 : Int)] ++ nuns 168
def Qye (p0 : Meta) (_i0 : Nat) : List Ob :=
  [⟨13, 0, true, [.str p0.kind, .str p0.namespace_, .str p0.name, .int .i64 p0.uid, .int .i64 p0.version, .int .i64 p0.generation, .int .i64 p0.created, .bool p0.deleting, .int .i64 p0.deleteAt, .sl (Label.rows p0.labels), .sl (Owner.rows p0.owners), .sl (Q10 p0.finalizers), .sl (Manager.rows p0.managers)]⟩, ⟨13, 0, true, [.str p0.kind, .str p0.namespace_, .str p0.name, .int .i64 p0.uid, .int .i64 p0.version, .int .i64 p0.generation, .int .i64 p0.created, .bool p0.deleting, .int .i64 p0.deleteAt, .sl (Label.rows p0.labels), .sl (Owner.rows p0.owners), .sl (Q10 p0.finalizers), .sl (Manager.rows p0.managers)]⟩]
def Qfn (p0 : Meta) (i0 : Nat) : En := .loop 0 Ir.Qkd Ir.Q1jk (Qxf p0 i0) (Qye p0 i0)
def Qpi (p0 : Meta) (z : Nat → PV) (_zo : Nat → List PV) : St :=
  ⟨[z 0, z 1, .bx 0 0, .bx 1 0] ++ zr z 4 170, [(0, ⟨13, 0, true, [.str p0.kind, .str p0.namespace_, .str p0.name, .int .i64 p0.uid, .int .i64 p0.version, .int .i64 p0.generation, .int .i64 p0.created, .bool p0.deleting, .int .i64 p0.deleteAt, .sl (Label.rows p0.labels), .sl (Owner.rows p0.owners), .sl (Q10 p0.finalizers), .sl (Manager.rows p0.managers)]⟩), (1, ⟨13, 0, true, [.str p0.kind, .str p0.namespace_, .str p0.name, .int .i64 p0.uid, .int .i64 p0.version, .int .i64 p0.generation, .int .i64 p0.created, .bool p0.deleting, .int .i64 p0.deleteAt, .sl (Label.rows p0.labels), .sl (Owner.rows p0.owners), .sl (Q10 p0.finalizers), .sl (Manager.rows p0.managers)]⟩)], 322⟩
def Qau (p0 : Meta) (e : En) (_q : Unit) : Prop := ∃ z zo, Qd G e (.st (.exit 0) (Qpi p0 z zo))
theorem Quc (p0 : Meta) {e e' : En} (h : ∀ r, Qd G e r → Qd G e' r) : ∀ q, Qau p0 e q → Qau p0 e' q
  | _, ⟨z, zo, hz⟩ => ⟨z, zo, h _ hz⟩
def Qgo (p0 : Meta) : Prop := (List.length p0.labels ≤ 4611686018427387904) ∧ True
def Qr6 (p0 : Meta) (i0 : Nat) : List PV :=
  nuns 5 ++ [.int .i64 (i0 : Int)] ++ nuns 96 ++ [.int .i64 (i0 : Int), .bx 0 9, .sl (Label.rows p0.labels), .int .i64 ((List.length p0.labels) : Int), .bool false]
def Qm4 (_p0 : Meta) (_i0 : Nat) : List (Nat × List PV) :=
  []
theorem Q1bg (p0 : Meta) (_H : Qgo p0) (i0 : Nat) (hc0 : (decide ((i0 : Int) < ((List.length p0.labels) : Int))) = false) : Qau p0 (Qfn p0 i0) () := by
 exact ⟨(envF (Qr6 p0 i0)), (zoF (Qm4 p0 i0)), Qv VOK.nil (x := ((.exit 0), Qpi p0 (envF (Qr6 p0 i0)) (zoF (Qm4 p0 i0)))) [hP 3 (Q1g (Label.rows p0.labels) (List.length p0.labels) (Label.Qa p0.labels)), hB 0 hc0] [] (by kernel_rfl)⟩
theorem Q192 (p0 : Meta) (H : Qgo p0) (x0 : Label) (i0 : Nat) (hx0 : p0.labels[i0]? = some x0) (hi0 : i0 < List.length p0.labels) (hc0 : (decide ((i0 : Int) < ((List.length p0.labels) : Int))) = true) {r : Rs} (hr : Qd G (Qfn p0 (i0 + 1)) r) : Qd G (Qfn p0 i0) r := by
 have hB0 := H.1
 exact Qu VOK.nil (y := (Qxf p0 (i0 + 1), Qye p0 (i0 + 1))) [hP 3 (Q1g (Label.rows p0.labels) (List.length p0.labels) (Label.Qa p0.labels)), hB 0 hc0, hP 3 (Q35 2 (Label.rows p0.labels) i0 _ (Label.Qz hx0) rfl), hP 4 (Q35 2 (Label.rows p0.labels) i0 _ (Label.Qz hx0) rfl), hP 1 (dec (!((sEq x0.key x0.key) && ((sEq x0.value x0.value) && true))) false (by rw [(and_tt (Q55.2 rfl) (and_tt (Q55.2 rfl) rfl))]; rfl)), hP 1 (Q2s i0 (by omega))] [] (by kernel_rfl) hr
theorem Q10o (p0 : Meta) (H : Qgo p0) : ∀ (r0 : List Label) (i0 : Nat), List.drop i0 p0.labels = r0 → Qau p0 (Qfn p0 i0) (Q164 p0 r0 i0)
 | [], i0, hd => by
  have hc0 : (decide ((i0 : Int) < ((List.length p0.labels) : Int))) = false := by have := Q1y hd; simp; omega
  show Qau p0 _ ()
  exact Q1bg p0 H i0 hc0
 | x0 :: r0, i0, hd => by
  obtain ⟨hx0, hi0, hd'⟩ := Q1v hd
  have hc0 : (decide ((i0 : Int) < ((List.length p0.labels) : Int))) = true := by simp; omega
  show Qau p0 _ ()
  exact Quc p0 (fun r hr => Q192 p0 H x0 i0 hx0 hi0 hc0 hr) _ (Q10o p0 H r0 (i0 + 1) hd')
def Q165 (p0 : Meta) : List Owner → Nat → Unit
 | [], _i1 =>
  ()
 | _x1 :: r1, i1 =>
  Q165 p0 r1 (i1 + 1)
def Qxg (_p0 : Meta) (i1 : Nat) : List PV :=
  [.un, .un, .bx 0 0, .bx 1 0, .un, .un, .int .i64 (i1 : Int)] ++ nuns 167
def Qyf (p0 : Meta) (_i1 : Nat) : List Ob :=
  [⟨13, 0, true, [.str p0.kind, .str p0.namespace_, .str p0.name, .int .i64 p0.uid, .int .i64 p0.version, .int .i64 p0.generation, .int .i64 p0.created, .bool p0.deleting, .int .i64 p0.deleteAt, .sl (Label.rows p0.labels), .sl (Owner.rows p0.owners), .sl (Q10 p0.finalizers), .sl (Manager.rows p0.managers)]⟩, ⟨13, 0, true, [.str p0.kind, .str p0.namespace_, .str p0.name, .int .i64 p0.uid, .int .i64 p0.version, .int .i64 p0.generation, .int .i64 p0.created, .bool p0.deleting, .int .i64 p0.deleteAt, .sl (Label.rows p0.labels), .sl (Owner.rows p0.owners), .sl (Q10 p0.finalizers), .sl (Manager.rows p0.managers)]⟩]
def Qfo (p0 : Meta) (i1 : Nat) : En := .loop 0 Ir.Qke Ir.Q1jl (Qxg p0 i1) (Qyf p0 i1)
def Qpj (p0 : Meta) (z : Nat → PV) (_zo : Nat → List PV) : St :=
  ⟨[z 0, z 1, .bx 0 0, .bx 1 0] ++ zr z 4 170, [(0, ⟨13, 0, true, [.str p0.kind, .str p0.namespace_, .str p0.name, .int .i64 p0.uid, .int .i64 p0.version, .int .i64 p0.generation, .int .i64 p0.created, .bool p0.deleting, .int .i64 p0.deleteAt, .sl (Label.rows p0.labels), .sl (Owner.rows p0.owners), .sl (Q10 p0.finalizers), .sl (Manager.rows p0.managers)]⟩), (1, ⟨13, 0, true, [.str p0.kind, .str p0.namespace_, .str p0.name, .int .i64 p0.uid, .int .i64 p0.version, .int .i64 p0.generation, .int .i64 p0.created, .bool p0.deleting, .int .i64 p0.deleteAt, .sl (Label.rows p0.labels), .sl (Owner.rows p0.owners), .sl (Q10 p0.finalizers), .sl (Manager.rows p0.managers)]⟩)], 322⟩
def Qav (p0 : Meta) (e : En) (_q : Unit) : Prop := ∃ z zo, Qd G e (.st (.exit 2) (Qpj p0 z zo))
theorem Qud (p0 : Meta) {e e' : En} (h : ∀ r, Qd G e r → Qd G e' r) : ∀ q, Qav p0 e q → Qav p0 e' q
  | _, ⟨z, zo, hz⟩ => ⟨z, zo, h _ hz⟩
def Qgp (p0 : Meta) : Prop := (List.length p0.owners ≤ 4611686018427387904) ∧ True
def Qr7 (p0 : Meta) (i1 : Nat) : List PV :=
  nuns 6 ++ [.int .i64 (i1 : Int)] ++ nuns 113 ++ [.int .i64 (i1 : Int), .bx 0 10, .sl (Owner.rows p0.owners), .int .i64 ((List.length p0.owners) : Int), .bool false]
def Qm5 (_p0 : Meta) (_i1 : Nat) : List (Nat × List PV) :=
  []
theorem Q1bh (p0 : Meta) (_H : Qgp p0) (i1 : Nat) (hc1 : (decide ((i1 : Int) < ((List.length p0.owners) : Int))) = false) : Qav p0 (Qfo p0 i1) () := by
 exact ⟨(envF (Qr7 p0 i1)), (zoF (Qm5 p0 i1)), Qv VOK.nil (x := ((.exit 2), Qpj p0 (envF (Qr7 p0 i1)) (zoF (Qm5 p0 i1)))) [hP 3 (Q1g (Owner.rows p0.owners) (List.length p0.owners) (Owner.Qa p0.owners)), hB 0 hc1] [] (by kernel_rfl)⟩
theorem Q193 (p0 : Meta) (H : Qgp p0) (x1 : Owner) (i1 : Nat) (hx1 : p0.owners[i1]? = some x1) (hi1 : i1 < List.length p0.owners) (hc1 : (decide ((i1 : Int) < ((List.length p0.owners) : Int))) = true) {r : Rs} (hr : Qd G (Qfo p0 (i1 + 1)) r) : Qd G (Qfo p0 i1) r := by
 have hB0 := H.1
 exact Qu VOK.nil (y := (Qxg p0 (i1 + 1), Qyf p0 (i1 + 1))) [hP 3 (Q1g (Owner.rows p0.owners) (List.length p0.owners) (Owner.Qa p0.owners)), hB 0 hc1, hP 3 (Q35 5 (Owner.rows p0.owners) i1 _ (Owner.Qz hx1) rfl), hP 4 (Q35 5 (Owner.rows p0.owners) i1 _ (Owner.Qz hx1) rfl), hP 1 (dec (!((sEq x1.kind x1.kind) && ((sEq x1.name x1.name) && ((x1.uid == x1.uid) && ((x1.controller == x1.controller) && ((x1.block == x1.block) && true)))))) false (by rw [(and_tt (Q55.2 rfl) (and_tt (Q55.2 rfl) (and_tt (beq_self_eq_true _) (and_tt (beq_self_eq_true _) (and_tt (beq_self_eq_true _) rfl)))))]; rfl)), hP 1 (Q2s i1 (by omega))] [] (by kernel_rfl) hr
theorem Q10p (p0 : Meta) (H : Qgp p0) : ∀ (r1 : List Owner) (i1 : Nat), List.drop i1 p0.owners = r1 → Qav p0 (Qfo p0 i1) (Q165 p0 r1 i1)
 | [], i1, hd => by
  have hc1 : (decide ((i1 : Int) < ((List.length p0.owners) : Int))) = false := by have := Q1y hd; simp; omega
  show Qav p0 _ ()
  exact Q1bh p0 H i1 hc1
 | x1 :: r1, i1, hd => by
  obtain ⟨hx1, hi1, hd'⟩ := Q1v hd
  have hc1 : (decide ((i1 : Int) < ((List.length p0.owners) : Int))) = true := by simp; omega
  show Qav p0 _ ()
  exact Qud p0 (fun r hr => Q193 p0 H x1 i1 hx1 hi1 hc1 hr) _ (Q10p p0 H r1 (i1 + 1) hd')
def Q166 (p0 : Meta) : List Manager → Nat → Unit
 | [], _i2 =>
  ()
 | _x2 :: r2, i2 =>
  Q166 p0 r2 (i2 + 1)
def Qxh (_p0 : Meta) (i2 : Nat) : List PV :=
  [.un, .un, .bx 0 0, .bx 1 0, .un, .un, .un, .int .i64 (i2 : Int)] ++ nuns 166
def Qyg (p0 : Meta) (_i2 : Nat) : List Ob :=
  [⟨13, 0, true, [.str p0.kind, .str p0.namespace_, .str p0.name, .int .i64 p0.uid, .int .i64 p0.version, .int .i64 p0.generation, .int .i64 p0.created, .bool p0.deleting, .int .i64 p0.deleteAt, .sl (Label.rows p0.labels), .sl (Owner.rows p0.owners), .sl (Q10 p0.finalizers), .sl (Manager.rows p0.managers)]⟩, ⟨13, 0, true, [.str p0.kind, .str p0.namespace_, .str p0.name, .int .i64 p0.uid, .int .i64 p0.version, .int .i64 p0.generation, .int .i64 p0.created, .bool p0.deleting, .int .i64 p0.deleteAt, .sl (Label.rows p0.labels), .sl (Owner.rows p0.owners), .sl (Q10 p0.finalizers), .sl (Manager.rows p0.managers)]⟩]
def Qfp (p0 : Meta) (i2 : Nat) : En := .loop 0 Ir.Qkf Ir.Q1jm (Qxh p0 i2) (Qyg p0 i2)
def Qpk (p0 : Meta) (z : Nat → PV) (_zo : Nat → List PV) : St :=
  ⟨zr z 0 174, [(0, ⟨13, 0, true, [.str p0.kind, .str p0.namespace_, .str p0.name, .int .i64 p0.uid, .int .i64 p0.version, .int .i64 p0.generation, .int .i64 p0.created, .bool p0.deleting, .int .i64 p0.deleteAt, .sl (Label.rows p0.labels), .sl (Owner.rows p0.owners), .sl (Q10 p0.finalizers), .sl (Manager.rows p0.managers)]⟩), (1, ⟨13, 0, true, [.str p0.kind, .str p0.namespace_, .str p0.name, .int .i64 p0.uid, .int .i64 p0.version, .int .i64 p0.generation, .int .i64 p0.created, .bool p0.deleting, .int .i64 p0.deleteAt, .sl (Label.rows p0.labels), .sl (Owner.rows p0.owners), .sl (Q10 p0.finalizers), .sl (Manager.rows p0.managers)]⟩)], 322⟩
def Qaw (p0 : Meta) (e : En) (_q : Unit) : Prop := ∃ z zo, Qd G e (.st (.exit 4) (Qpk p0 z zo))
theorem Que (p0 : Meta) {e e' : En} (h : ∀ r, Qd G e r → Qd G e' r) : ∀ q, Qaw p0 e q → Qaw p0 e' q
  | _, ⟨z, zo, hz⟩ => ⟨z, zo, h _ hz⟩
def Qgq (p0 : Meta) : Prop := (List.length p0.managers ≤ 4611686018427387904) ∧ (∀ x2 ∈ p0.managers, Q1lc x2.fields) ∧ True
def Qr8 (p0 : Meta) (i2 : Nat) : List PV :=
  [.un, .un, .bx 0 0, .bx 1 0, .un, .un, .un, .int .i64 (i2 : Int)] ++ nuns 130 ++ [.int .i64 (i2 : Int), .bx 0 12, .sl (Manager.rows p0.managers), .int .i64 ((List.length p0.managers) : Int), .bool false]
def Qm6 (_p0 : Meta) (_i2 : Nat) : List (Nat × List PV) :=
  []
theorem Q1bi (p0 : Meta) (_H : Qgq p0) (i2 : Nat) (hc2 : (decide ((i2 : Int) < ((List.length p0.managers) : Int))) = false) : Qaw p0 (Qfp p0 i2) () := by
 exact ⟨(envF (Qr8 p0 i2)), (zoF (Qm6 p0 i2)), Qv VOK.nil (x := ((.exit 4), Qpk p0 (envF (Qr8 p0 i2)) (zoF (Qm6 p0 i2)))) [hP 3 (Q1g (Manager.rows p0.managers) (List.length p0.managers) (Manager.Qa p0.managers)), hB 0 hc2] [] (by kernel_rfl)⟩
theorem Q194 (p0 : Meta) (H : Qgq p0) (x2 : Manager) (i2 : Nat) (hx2 : p0.managers[i2]? = some x2) (hi2 : i2 < List.length p0.managers) (hc2 : (decide ((i2 : Int) < ((List.length p0.managers) : Int))) = true) {r : Rs} (hr : Qd G (Qfp p0 (i2 + 1)) r) : Qd G (Qfp p0 i2) r := by
 have hB0 := H.1
 exact Qu VOK.nil (y := (Qxh p0 (i2 + 1), Qyg p0 (i2 + 1))) [hP 3 (Q1g (Manager.rows p0.managers) (List.length p0.managers) (Manager.Qa p0.managers)), hB 0 hc2, hP 3 (Q35 2 (Manager.rows p0.managers) i2 _ (Manager.Qz hx2) rfl), hP 5 (Q35 2 (Manager.rows p0.managers) i2 _ (Manager.Qz hx2) rfl), hP 2 (dec (!(sEq x2.name x2.name)) false (by rw [(Q55.2 rfl)]; rfl)), hP 4 (Q35 2 (Manager.rows p0.managers) i2 _ (Manager.Qz hx2) rfl), hP 5 (Q35 2 (Manager.rows p0.managers) i2 _ (Manager.Qz hx2) rfl), hP 6 (Q2s i2 (by omega))] [aN (Q8f (c := fun y => .call 120 [.sl (Q10 x2.fields), .sl (Q10 y)] []) rfl (Q1ui x2.fields (H.2.1 x2 (Q2z hx2))))] (by kernel_rfl) hr
theorem Q10q (p0 : Meta) (H : Qgq p0) : ∀ (r2 : List Manager) (i2 : Nat), List.drop i2 p0.managers = r2 → Qaw p0 (Qfp p0 i2) (Q166 p0 r2 i2)
 | [], i2, hd => by
  have hc2 : (decide ((i2 : Int) < ((List.length p0.managers) : Int))) = false := by have := Q1y hd; simp; omega
  show Qaw p0 _ ()
  exact Q1bi p0 H i2 hc2
 | x2 :: r2, i2, hd => by
  obtain ⟨hx2, hi2, hd'⟩ := Q1v hd
  have hc2 : (decide ((i2 : Int) < ((List.length p0.managers) : Int))) = true := by simp; omega
  show Qaw p0 _ ()
  exact Que p0 (fun r hr => Q194 p0 H x2 i2 hx2 hi2 hc2 hr) _ (Q10q p0 H r2 (i2 + 1) hd')
def Q1u9 (_p0 : Meta) : Bool :=
 true
def Q20c (p0 : Meta) : En := .call 27 [.agg (Meta.cells p0), .agg (Meta.cells p0)] []
def Q1r9 (p0 : Meta) : Rs := .ret (.bool (Q1u9 p0)) []
def Q1lb (p0 : Meta) : Prop := (Q1q4 p0) ∧ (Q1lc p0.finalizers) ∧ (Qgo p0) ∧ (Qgp p0) ∧ (Qgq p0) ∧ True
theorem Q25d (p0 : Meta) (H : Q1lb p0) : Qd G (Q20c p0) (Q1r9 p0) := by
 unfold Q1r9 Q1u9
 have hl0 := Q10o p0 (H.2.2.1) p0.labels 0 (by simp)
 obtain ⟨z0, zo0, hl0⟩ := hl0
 have hl1 := Q10p p0 (H.2.2.2.1) p0.owners 0 (by simp)
 obtain ⟨z1, zo1, hl1⟩ := hl1
 have hl2 := Q10q p0 (H.2.2.2.2.1) p0.managers 0 (by simp)
 obtain ⟨z2, zo2, hl2⟩ := hl2
 exact Qj (fn := Ir.K1y) rfl VOK.nil [hP 7 (dec (!(sEq (Q1il p0) (Q1il p0))) false (by rw [(Q55.2 rfl)]; rfl)), hP 5 (dec (!(sEq p0.kind p0.kind)) false (by rw [(Q55.2 rfl)]; rfl)), hP 6 (dec (!(sEq p0.namespace_ p0.namespace_)) false (by rw [(Q55.2 rfl)]; rfl)), hP 6 (dec (!(p0.uid == p0.uid)) false (by rw [(beq_self_eq_true _)]; rfl)), hP 6 (dec (!(p0.version == p0.version)) false (by rw [(beq_self_eq_true _)]; rfl)), hP 6 (dec (!(p0.generation == p0.generation)) false (by rw [(beq_self_eq_true _)]; rfl)), hP 6 (dec (!(p0.created == p0.created)) false (by rw [(beq_self_eq_true _)]; rfl)), hP 6 (dec (!(p0.deleting == p0.deleting)) false (by rw [(beq_self_eq_true _)]; rfl)), hP 6 (dec (!(p0.deleteAt == p0.deleteAt)) false (by rw [(beq_self_eq_true _)]; rfl)), hP 3 (Q1g (Label.rows p0.labels) (List.length p0.labels) (Label.Qa p0.labels)), hP 2 (Q1g (Label.rows p0.labels) (List.length p0.labels) (Label.Qa p0.labels)), hP 0 (dec (!(((List.length p0.labels) : Int) == ((List.length p0.labels) : Int))) false (by rw [(beq_self_eq_true _)]; rfl)), hP 3 (Q1g (Owner.rows p0.owners) (List.length p0.owners) (Owner.Qa p0.owners)), hP 2 (Q1g (Owner.rows p0.owners) (List.length p0.owners) (Owner.Qa p0.owners)), hP 0 (dec (!(((List.length p0.owners) : Int) == ((List.length p0.owners) : Int))) false (by rw [(beq_self_eq_true _)]; rfl)), hP 4 (Q1g (Manager.rows p0.managers) (List.length p0.managers) (Manager.Qa p0.managers)), hP 2 (Q1g (Manager.rows p0.managers) (List.length p0.managers) (Manager.Qa p0.managers)), hP 0 (dec (!(((List.length p0.managers) : Int) == ((List.length p0.managers) : Int))) false (by rw [(beq_self_eq_true _)]; rfl))] [aN (Q1uh p0 H.1), aN (Q1uh p0 H.1), aN (Q8f (c := fun y => .call 120 [.sl (Q10 p0.finalizers), .sl (Q10 y)] []) rfl (Q1ui p0.finalizers H.2.1)), aN hl0, aN hl1, aN hl2] (by kernel_rfl)
def Q1u8 (_p0 : Object) : Bool :=
 true
def Q209 (p0 : Object) : En := .call 17 [.agg (Object.cells p0), .agg (Object.cells p0)] []
def Q1r6 (p0 : Object) : Rs := .ret (.bool (Q1u8 p0)) []
def Qym (p0 : Object) : Prop := (Q1lb p0.meta_) ∧ (Q1l9 p0.spec) ∧ (Q1l9 p0.status) ∧ True
theorem Q1it (p0 : Object) (H : Qym p0) : Qd G (Q209 p0) (Q1r6 p0) := by
 unfold Q1r6 Q1u8
 exact Qj (fn := Ir.K1v) rfl VOK.nil [] [aN (Q8f (c := fun y => .call 27 [.agg (Meta.cells p0.meta_), .agg (Meta.cells y)] []) rfl (Q25d p0.meta_ H.1)), aN (Q8f (c := fun y => .call 98 [.agg (Val.cells p0.spec), .agg (Val.cells y)] []) rfl (Q1ug p0.spec H.2.1)), aN (Q8f (c := fun y => .call 98 [.agg (Val.cells p0.status), .agg (Val.cells y)] []) rfl (Q1ug p0.status H.2.2.1))] (by kernel_rfl)
inductive Q1co where
  | k0
  | k1
def Qbm (p0 : Object) : List Manager → Nat → Q1co
 | [], _i0 =>
  (.k0)
 | x0 :: r0, i0 =>
  bif (decide (60 < ((List.length x0.fields) : Int))) then
   (.k1)
  else
   Qbm p0 r0 (i0 + 1)
def Q13r (_p0 : Object) (i0 : Nat) : List PV :=
  [.un, .bx 0 0, .un, .bx 1 0, .int .i64 (i0 : Int)] ++ nuns 47
def Q140 (p0 : Object) (_i0 : Nat) : List Ob :=
  [⟨23, 0, true, [.str p0.meta_.kind, .str p0.meta_.namespace_, .str p0.meta_.name, .int .i64 p0.meta_.uid, .int .i64 p0.meta_.version, .int .i64 p0.meta_.generation, .int .i64 p0.meta_.created, .bool p0.meta_.deleting, .int .i64 p0.meta_.deleteAt, .sl (Label.rows p0.meta_.labels), .sl (Owner.rows p0.meta_.owners), .sl (Q10 p0.meta_.finalizers), .sl (Manager.rows p0.meta_.managers), .int .i64 p0.spec.kind, .int .i64 p0.spec.n, .str p0.spec.s, .sl (Val.rows p0.spec.list), .sl (Fld.rows p0.spec.fields), .int .i64 p0.status.kind, .int .i64 p0.status.n, .str p0.status.s, .sl (Val.rows p0.status.list), .sl (Fld.rows p0.status.fields)]⟩, ⟨13, 0, true, [.str p0.meta_.kind, .str p0.meta_.namespace_, .str p0.meta_.name, .int .i64 p0.meta_.uid, .int .i64 p0.meta_.version, .int .i64 p0.meta_.generation, .int .i64 p0.meta_.created, .bool p0.meta_.deleting, .int .i64 p0.meta_.deleteAt, .sl (Label.rows p0.meta_.labels), .sl (Owner.rows p0.meta_.owners), .sl (Q10 p0.meta_.finalizers), .sl (Manager.rows p0.meta_.managers)]⟩]
def Qbe (p0 : Object) (i0 : Nat) : En := .loop 0 Ir.Qoq Ir.Q1qe (Q13r p0 i0) (Q140 p0 i0)
def Qlg (p0 : Object) (z : Nat → PV) (_zo : Nat → List PV) : St :=
  ⟨[z 0, .bx 0 0] ++ zr z 2 50, [(0, ⟨23, 0, true, [.str p0.meta_.kind, .str p0.meta_.namespace_, .str p0.meta_.name, .int .i64 p0.meta_.uid, .int .i64 p0.meta_.version, .int .i64 p0.meta_.generation, .int .i64 p0.meta_.created, .bool p0.meta_.deleting, .int .i64 p0.meta_.deleteAt, .sl (Label.rows p0.meta_.labels), .sl (Owner.rows p0.meta_.owners), .sl (Q10 p0.meta_.finalizers), .sl (Manager.rows p0.meta_.managers), .int .i64 p0.spec.kind, .int .i64 p0.spec.n, .str p0.spec.s, .sl (Val.rows p0.spec.list), .sl (Fld.rows p0.spec.fields), .int .i64 p0.status.kind, .int .i64 p0.status.n, .str p0.status.s, .sl (Val.rows p0.status.list), .sl (Fld.rows p0.status.fields)]⟩), (1, ⟨13, 0, true, [.str p0.meta_.kind, .str p0.meta_.namespace_, .str p0.meta_.name, .int .i64 p0.meta_.uid, .int .i64 p0.meta_.version, .int .i64 p0.meta_.generation, .int .i64 p0.meta_.created, .bool p0.meta_.deleting, .int .i64 p0.meta_.deleteAt, .sl (Label.rows p0.meta_.labels), .sl (Owner.rows p0.meta_.owners), .sl (Q10 p0.meta_.finalizers), .sl (Manager.rows p0.meta_.managers)]⟩)], 322⟩
def Qlh (_p0 : Object) (z : Nat → PV) (zo : Nat → List PV) : St :=
  ⟨[z 0, z 1, .bool false] ++ zr z 3 49, [(0, ⟨23, 0, true, zo 0⟩), (1, ⟨13, 0, true, zo 1⟩)], 898⟩
def Qlf (p0 : Object) (e : En) : Q1co → Prop
  | .k0 => ∃ z zo, Qd G e (.st (.exit 0) (Qlg p0 z zo))
  | .k1 => ∃ z zo, Qd G e (.st .ret (Qlh p0 z zo))
theorem Qys (p0 : Object) {e e' : En} (h : ∀ r, Qd G e r → Qd G e' r) : ∀ q, Qlf p0 e q → Qlf p0 e' q
  | .k0, ⟨z, zo, hz⟩ => ⟨z, zo, h _ hz⟩
  | .k1, ⟨z, zo, hz⟩ => ⟨z, zo, h _ hz⟩
def Qjq (p0 : Object) : Prop := (List.length p0.meta_.managers ≤ 4611686018427387904) ∧ True
def Qzb (p0 : Object) (i0 : Nat) : List PV :=
  [.un, .un, .un, .bx 1 0, .int .i64 (i0 : Int)] ++ nuns 24 ++ [.int .i64 (i0 : Int), .bx 1 12, .sl (Manager.rows p0.meta_.managers), .int .i64 ((List.length p0.meta_.managers) : Int), .bool false]
def Qqf (_p0 : Object) (_i0 : Nat) : List (Nat × List PV) :=
  []
theorem Q1g3 (p0 : Object) (_H : Qjq p0) (i0 : Nat) (hc0 : (decide ((i0 : Int) < ((List.length p0.meta_.managers) : Int))) = false) : Qlf p0 (Qbe p0 i0) (.k0) := by
 exact ⟨(envF (Qzb p0 i0)), (zoF (Qqf p0 i0)), Qv VOK.nil (x := ((.exit 0), Qlg p0 (envF (Qzb p0 i0)) (zoF (Qqf p0 i0)))) [hP 3 (Q1g (Manager.rows p0.meta_.managers) (List.length p0.meta_.managers) (Manager.Qa p0.meta_.managers)), hB 0 hc0] [] (by kernel_rfl)⟩
def Qzc (p0 : Object) (i0 : Nat) (x0 : Manager) : List PV :=
  [.un, .bx 0 0, .un, .bx 1 0, .int .i64 (i0 : Int)] ++ nuns 24 ++ [.int .i64 (i0 : Int), .bx 1 12, .sl (Manager.rows p0.meta_.managers), .int .i64 ((List.length p0.meta_.managers) : Int), .bool true, .un, .un, .bx 1 12, .sl (Manager.rows p0.meta_.managers), .int .i64 (i0 : Int), .rf [.str x0.name, .sl (Q10 x0.fields)], .rf [.sl (Q10 x0.fields)], .sl (Q10 x0.fields), .int .i64 ((List.length x0.fields) : Int), .bool true]
def Qqg (p0 : Object) (_i0 : Nat) (_x0 : Manager) : List (Nat × List PV) :=
  [(0, [.str p0.meta_.kind, .str p0.meta_.namespace_, .str p0.meta_.name, .int .i64 p0.meta_.uid, .int .i64 p0.meta_.version, .int .i64 p0.meta_.generation, .int .i64 p0.meta_.created, .bool p0.meta_.deleting, .int .i64 p0.meta_.deleteAt, .sl (Label.rows p0.meta_.labels), .sl (Owner.rows p0.meta_.owners), .sl (Q10 p0.meta_.finalizers), .sl (Manager.rows p0.meta_.managers), .int .i64 p0.spec.kind, .int .i64 p0.spec.n, .str p0.spec.s, .sl (Val.rows p0.spec.list), .sl (Fld.rows p0.spec.fields), .int .i64 p0.status.kind, .int .i64 p0.status.n, .str p0.status.s, .sl (Val.rows p0.status.list), .sl (Fld.rows p0.status.fields)]), (1, [.str p0.meta_.kind, .str p0.meta_.namespace_, .str p0.meta_.name, .int .i64 p0.meta_.uid, .int .i64 p0.meta_.version, .int .i64 p0.meta_.generation, .int .i64 p0.meta_.created, .bool p0.meta_.deleting, .int .i64 p0.meta_.deleteAt, .sl (Label.rows p0.meta_.labels), .sl (Owner.rows p0.meta_.owners), .sl (Q10 p0.meta_.finalizers), .sl (Manager.rows p0.meta_.managers)])]
theorem Q1g4 (p0 : Object) (_H : Qjq p0) (x0 : Manager) (i0 : Nat) (hx0 : p0.meta_.managers[i0]? = some x0) (_hi0 : i0 < List.length p0.meta_.managers) (hc0 : (decide ((i0 : Int) < ((List.length p0.meta_.managers) : Int))) = true) (h0 : (decide (60 < ((List.length x0.fields) : Int))) = true) : Qlf p0 (Qbe p0 i0) (.k1) := by
 exact ⟨(envF (Qzc p0 i0 x0)), (zoF (Qqg p0 i0 x0)), Qv VOK.nil (x := (.ret, Qlh p0 (envF (Qzc p0 i0 x0)) (zoF (Qqg p0 i0 x0)))) [hP 3 (Q1g (Manager.rows p0.meta_.managers) (List.length p0.meta_.managers) (Manager.Qa p0.meta_.managers)), hB 0 hc0, hP 3 (Q35 2 (Manager.rows p0.meta_.managers) i0 _ (Manager.Qz hx0) rfl), hP 2 (Q1g (Q10 x0.fields) (List.length x0.fields) (Q30 x0.fields)), hB 0 h0] [] (by kernel_rfl)⟩
theorem Q1eb (p0 : Object) (H : Qjq p0) (x0 : Manager) (i0 : Nat) (hx0 : p0.meta_.managers[i0]? = some x0) (hi0 : i0 < List.length p0.meta_.managers) (hc0 : (decide ((i0 : Int) < ((List.length p0.meta_.managers) : Int))) = true) (h0 : (decide (60 < ((List.length x0.fields) : Int))) = false) {r : Rs} (hr : Qd G (Qbe p0 (i0 + 1)) r) : Qd G (Qbe p0 i0) r := by
 have hB0 := H.1; have e0 := of_decide_eq_false h0
 exact Qu VOK.nil (y := (Q13r p0 (i0 + 1), Q140 p0 (i0 + 1))) [hP 3 (Q1g (Manager.rows p0.meta_.managers) (List.length p0.meta_.managers) (Manager.Qa p0.meta_.managers)), hB 0 hc0, hP 3 (Q35 2 (Manager.rows p0.meta_.managers) i0 _ (Manager.Qz hx0) rfl), hP 2 (Q1g (Q10 x0.fields) (List.length x0.fields) (Q30 x0.fields)), hB 0 h0, hP 1 (Q2s i0 (by omega))] [] (by kernel_rfl) hr
theorem Q16f (p0 : Object) (H : Qjq p0) : ∀ (r0 : List Manager) (i0 : Nat), List.drop i0 p0.meta_.managers = r0 → Qlf p0 (Qbe p0 i0) (Qbm p0 r0 i0)
 | [], i0, hd => by
  have hc0 : (decide ((i0 : Int) < ((List.length p0.meta_.managers) : Int))) = false := by have := Q1y hd; simp; omega
  rw [Qbm]
  exact Q1g3 p0 H i0 hc0
 | x0 :: r0, i0, hd => by
  obtain ⟨hx0, hi0, hd'⟩ := Q1v hd
  have hc0 : (decide ((i0 : Int) < ((List.length p0.meta_.managers) : Int))) = true := by simp; omega
  rw [Qbm]
  cases h0 : (decide (60 < ((List.length x0.fields) : Int))) with
  | true =>
   exact Q1g4 p0 H x0 i0 hx0 hi0 hc0 h0
  | false =>
   exact Qys p0 (fun r hr => Q1eb p0 H x0 i0 hx0 hi0 hc0 h0 hr) _ (Q16f p0 H r0 (i0 + 1) hd')
def s_K8 (p0 : Object) : Bool :=
 bif (decide (40 < ((List.length p0.meta_.labels) : Int))) then
  false
 else
  bif (decide (40 < ((List.length p0.meta_.owners) : Int))) then
   false
  else
   bif (decide (40 < ((List.length p0.meta_.finalizers) : Int))) then
    false
   else
    bif (decide (40 < ((List.length p0.meta_.managers) : Int))) then
     false
    else
     (match (Qbm p0 p0.meta_.managers 0) with
     | .k0 => bif (Qwp p0.spec 900) then
       (Qwp p0.status 300)
      else
       false
     | .k1 => false)
def c_K8 (p0 : Object) : En := .call 11 [.agg (Object.cells p0)] []
def a_K8 (p0 : Object) : Rs := .ret (.bool (s_K8 p0)) []
def H_K8 (p0 : Object) : Prop := (Qjq p0) ∧ (Q1la p0.spec 900) ∧ (Q1la p0.status 300) ∧ True
theorem Q1uq (p0 : Object) (_H : H_K8 p0) (h0 : (decide (40 < ((List.length p0.meta_.labels) : Int))) = true) : Qd G (c_K8 p0) (.ret (.bool (false)) []) := by
 exact Qj (fn := Ir.K8) rfl VOK.nil [hP 8 (Q1g (Label.rows p0.meta_.labels) (List.length p0.meta_.labels) (Label.Qa p0.meta_.labels)), hB 0 h0] [] (by kernel_rfl)
theorem Q1ur (p0 : Object) (_H : H_K8 p0) (h0 : (decide (40 < ((List.length p0.meta_.labels) : Int))) = false) (h1 : (decide (40 < ((List.length p0.meta_.owners) : Int))) = true) : Qd G (c_K8 p0) (.ret (.bool (false)) []) := by
 exact Qj (fn := Ir.K8) rfl VOK.nil [hP 8 (Q1g (Label.rows p0.meta_.labels) (List.length p0.meta_.labels) (Label.Qa p0.meta_.labels)), hB 0 h0, hP 3 (Q1g (Owner.rows p0.meta_.owners) (List.length p0.meta_.owners) (Owner.Qa p0.meta_.owners)), hB 0 h1] [] (by kernel_rfl)
theorem Q1us (p0 : Object) (_H : H_K8 p0) (h0 : (decide (40 < ((List.length p0.meta_.labels) : Int))) = false) (h1 : (decide (40 < ((List.length p0.meta_.owners) : Int))) = false) (h2 : (decide (40 < ((List.length p0.meta_.finalizers) : Int))) = true) : Qd G (c_K8 p0) (.ret (.bool (false)) []) := by
 exact Qj (fn := Ir.K8) rfl VOK.nil [hP 8 (Q1g (Label.rows p0.meta_.labels) (List.length p0.meta_.labels) (Label.Qa p0.meta_.labels)), hB 0 h0, hP 3 (Q1g (Owner.rows p0.meta_.owners) (List.length p0.meta_.owners) (Owner.Qa p0.meta_.owners)), hB 0 h1, hP 4 (Q1g (Q10 p0.meta_.finalizers) (List.length p0.meta_.finalizers) (Q30 p0.meta_.finalizers)), hB 0 h2] [] (by kernel_rfl)
theorem Q1ut (p0 : Object) (_H : H_K8 p0) (h0 : (decide (40 < ((List.length p0.meta_.labels) : Int))) = false) (h1 : (decide (40 < ((List.length p0.meta_.owners) : Int))) = false) (h2 : (decide (40 < ((List.length p0.meta_.finalizers) : Int))) = false) (h3 : (decide (40 < ((List.length p0.meta_.managers) : Int))) = true) : Qd G (c_K8 p0) (.ret (.bool (false)) []) := by
 exact Qj (fn := Ir.K8) rfl VOK.nil [hP 8 (Q1g (Label.rows p0.meta_.labels) (List.length p0.meta_.labels) (Label.Qa p0.meta_.labels)), hB 0 h0, hP 3 (Q1g (Owner.rows p0.meta_.owners) (List.length p0.meta_.owners) (Owner.Qa p0.meta_.owners)), hB 0 h1, hP 4 (Q1g (Q10 p0.meta_.finalizers) (List.length p0.meta_.finalizers) (Q30 p0.meta_.finalizers)), hB 0 h2, hP 4 (Q1g (Manager.rows p0.meta_.managers) (List.length p0.meta_.managers) (Manager.Qa p0.meta_.managers)), hB 0 h3] [] (by kernel_rfl)
theorem Q1uu (p0 : Object) (H : H_K8 p0) (h0 : (decide (40 < ((List.length p0.meta_.labels) : Int))) = false) (h1 : (decide (40 < ((List.length p0.meta_.owners) : Int))) = false) (h2 : (decide (40 < ((List.length p0.meta_.finalizers) : Int))) = false) (h3 : (decide (40 < ((List.length p0.meta_.managers) : Int))) = false) (z4 : Nat → PV) (zo4 : Nat → List PV) (hl4 : Qd G (Qbe p0 0) (.st (.exit 0) (Qlg p0 z4 zo4))) : Qd G (c_K8 p0) (.ret (.bool (bif (Qwp p0.spec 900) then
   (Qwp p0.status 300)
 else
   false)) []) := by
 cases h4 : (Qwp p0.spec 900) with
 | true =>
  exact Qj (fn := Ir.K8) rfl VOK.nil [hP 8 (Q1g (Label.rows p0.meta_.labels) (List.length p0.meta_.labels) (Label.Qa p0.meta_.labels)), hB 0 h0, hP 3 (Q1g (Owner.rows p0.meta_.owners) (List.length p0.meta_.owners) (Owner.Qa p0.meta_.owners)), hB 0 h1, hP 4 (Q1g (Q10 p0.meta_.finalizers) (List.length p0.meta_.finalizers) (Q30 p0.meta_.finalizers)), hB 0 h2, hP 4 (Q1g (Manager.rows p0.meta_.managers) (List.length p0.meta_.managers) (Manager.Qa p0.meta_.managers)), hB 0 h3] [aN hl4, aB (Q1mx p0.spec 900 H.2.1) h4, aN (Q1mx p0.status 300 H.2.2.1)] (by kernel_rfl)
 | false =>
  exact Qj (fn := Ir.K8) rfl VOK.nil [hP 8 (Q1g (Label.rows p0.meta_.labels) (List.length p0.meta_.labels) (Label.Qa p0.meta_.labels)), hB 0 h0, hP 3 (Q1g (Owner.rows p0.meta_.owners) (List.length p0.meta_.owners) (Owner.Qa p0.meta_.owners)), hB 0 h1, hP 4 (Q1g (Q10 p0.meta_.finalizers) (List.length p0.meta_.finalizers) (Q30 p0.meta_.finalizers)), hB 0 h2, hP 4 (Q1g (Manager.rows p0.meta_.managers) (List.length p0.meta_.managers) (Manager.Qa p0.meta_.managers)), hB 0 h3] [aN hl4, aB (Q1mx p0.spec 900 H.2.1) h4] (by kernel_rfl)
theorem Q1uv (p0 : Object) (_H : H_K8 p0) (h0 : (decide (40 < ((List.length p0.meta_.labels) : Int))) = false) (h1 : (decide (40 < ((List.length p0.meta_.owners) : Int))) = false) (h2 : (decide (40 < ((List.length p0.meta_.finalizers) : Int))) = false) (h3 : (decide (40 < ((List.length p0.meta_.managers) : Int))) = false) (z4 : Nat → PV) (zo4 : Nat → List PV) (hl4 : Qd G (Qbe p0 0) (.st .ret (Qlh p0 z4 zo4))) : Qd G (c_K8 p0) (.ret (.bool (false)) []) := by
 exact Qj (fn := Ir.K8) rfl VOK.nil [hP 8 (Q1g (Label.rows p0.meta_.labels) (List.length p0.meta_.labels) (Label.Qa p0.meta_.labels)), hB 0 h0, hP 3 (Q1g (Owner.rows p0.meta_.owners) (List.length p0.meta_.owners) (Owner.Qa p0.meta_.owners)), hB 0 h1, hP 4 (Q1g (Q10 p0.meta_.finalizers) (List.length p0.meta_.finalizers) (Q30 p0.meta_.finalizers)), hB 0 h2, hP 4 (Q1g (Manager.rows p0.meta_.managers) (List.length p0.meta_.managers) (Manager.Qa p0.meta_.managers)), hB 0 h3] [aN hl4] (by kernel_rfl)
theorem t_K8 (p0 : Object) (H : H_K8 p0) : Qd G (c_K8 p0) (a_K8 p0) := by
 unfold a_K8 s_K8
 cases h0 : (decide (40 < ((List.length p0.meta_.labels) : Int))) with
 | true =>
  exact Q1uq p0 H h0
 | false =>
  cases h1 : (decide (40 < ((List.length p0.meta_.owners) : Int))) with
  | true =>
   exact Q1ur p0 H h0 h1
  | false =>
   cases h2 : (decide (40 < ((List.length p0.meta_.finalizers) : Int))) with
   | true =>
    exact Q1us p0 H h0 h1 h2
   | false =>
    cases h3 : (decide (40 < ((List.length p0.meta_.managers) : Int))) with
    | true =>
     exact Q1ut p0 H h0 h1 h2 h3
    | false =>
     have hl4 := Q16f p0 (H.1) p0.meta_.managers 0 (by simp)
     cases hr4 : (Qbm p0 p0.meta_.managers 0) with
     | k0 =>
      rw [hr4] at hl4
      obtain ⟨z4, zo4, hl4⟩ := hl4
      try dsimp only
      exact Q1uu p0 H h0 h1 h2 h3 z4 zo4 hl4
     | k1 =>
      rw [hr4] at hl4
      obtain ⟨z4, zo4, hl4⟩ := hl4
      exact Q1uv p0 H h0 h1 h2 h3 z4 zo4 hl4
end Go.Proofs.YtimjjohlpnkacaaGreat
end

section
/- The chapter's examples (printed by a program). -/
namespace Go.Proofs.YtimjjohlpnkacaaGreat
open Go.Pv
theorem t_K6 : Qd G (.call 12 [] []) (.ret (.bool true) []) := ⟨400, by kernel_rfl⟩
end Go.Proofs.YtimjjohlpnkacaaGreat
end

section
/- What the laws ask of their arguments (printed by a program). -/
namespace Go.Proofs.YtimjjohlpnkacaaGreat
open Go.Pv
def Qtr : Ty := .st [.str, .str]
def Qco (x : Label) : Prop := okS x.key ∧ okS x.value
theorem Qoz {c : List PV} (h : Of Γ Qtr c) : ∃ x : Label, c = x.cells ∧ Qco x := by
  have g0 := h.st1
  obtain ⟨a0, b0, rfl, h0, g1⟩ := g0.Q1l
  obtain ⟨x0, rfl, k0⟩ := h0.str1
  obtain ⟨a1, b1, rfl, h1, g2⟩ := g1.Q1l
  obtain ⟨x1, rfl, k1⟩ := h1.str1
  have e := g2.empty
  subst e
  exact ⟨⟨x0, x1⟩, rfl, ⟨k0, k1⟩⟩
def Q141 : Ty := .st [.str, .str, .int .i64, .bool, .bool]
def Qtw (x : Owner) : Prop := okS x.kind ∧ okS x.name ∧ Q3s x.uid ∧ (fun _ : Bool => True) x.controller ∧ (fun _ : Bool => True) x.block
theorem Q17k {c : List PV} (h : Of Γ Q141 c) : ∃ x : Owner, c = x.cells ∧ Qtw x := by
  have g0 := h.st1
  obtain ⟨a0, b0, rfl, h0, g1⟩ := g0.Q1l
  obtain ⟨x0, rfl, k0⟩ := h0.str1
  obtain ⟨a1, b1, rfl, h1, g2⟩ := g1.Q1l
  obtain ⟨x1, rfl, k1⟩ := h1.str1
  obtain ⟨a2, b2, rfl, h2, g3⟩ := g2.Q1l
  obtain ⟨x2, rfl, k2⟩ := h2.i64
  obtain ⟨a3, b3, rfl, h3, g4⟩ := g3.Q1l
  obtain ⟨x3, rfl, k3⟩ := h3.bool2
  obtain ⟨a4, b4, rfl, h4, g5⟩ := g4.Q1l
  obtain ⟨x4, rfl, k4⟩ := h4.bool2
  have e := g5.empty
  subst e
  exact ⟨⟨x0, x1, x2, x3, x4⟩, rfl, ⟨k0, k1, k2, k3, k4⟩⟩
def Qp0 : Ty := .st [.str, .sl 16 .str]
def Qe1 (x : Manager) : Prop := okS x.name ∧ (okL 16 okS) x.fields
theorem Qyn {c : List PV} (h : Of Γ Qp0 c) : ∃ x : Manager, c = x.cells ∧ Qe1 x := by
  have g0 := h.st1
  obtain ⟨a0, b0, rfl, h0, g1⟩ := g0.Q1l
  obtain ⟨x0, rfl, k0⟩ := h0.str1
  obtain ⟨a1, b1, rfl, h1, g2⟩ := g1.Q1l
  obtain ⟨x1, rfl, k1⟩ := (h1.sl1 (f := (fun s : ByteArray => [.str s])) (ok := okS) fun r hr => hr.str1)
  have e := g2.empty
  subst e
  exact ⟨⟨x0, x1⟩, rfl, ⟨k0, k1⟩⟩
def Q12h : Ty := .st [.str, .str, .str, .int .i64, .int .i64, .int .i64, .int .i64, .bool, .int .i64, .sl 32 Qtr, .sl 48 Q141, .sl 16 .str, .sl 40 Qp0]
def Q88 (x : Meta) : Prop := okS x.kind ∧ okS x.namespace_ ∧ okS x.name ∧ Q3s x.uid ∧ Q3s x.version ∧ Q3s x.generation ∧ Q3s x.created ∧ (fun _ : Bool => True) x.deleting ∧ Q3s x.deleteAt ∧ (okL 32 Qco) x.labels ∧ (okL 48 Qtw) x.owners ∧ (okL 16 okS) x.finalizers ∧ (okL 40 Qe1) x.managers
theorem Qyo {c : List PV} (h : Of Γ Q12h c) : ∃ x : Meta, c = x.cells ∧ Q88 x := by
  have g0 := h.st1
  obtain ⟨a0, b0, rfl, h0, g1⟩ := g0.Q1l
  obtain ⟨x0, rfl, k0⟩ := h0.str1
  obtain ⟨a1, b1, rfl, h1, g2⟩ := g1.Q1l
  obtain ⟨x1, rfl, k1⟩ := h1.str1
  obtain ⟨a2, b2, rfl, h2, g3⟩ := g2.Q1l
  obtain ⟨x2, rfl, k2⟩ := h2.str1
  obtain ⟨a3, b3, rfl, h3, g4⟩ := g3.Q1l
  obtain ⟨x3, rfl, k3⟩ := h3.i64
  obtain ⟨a4, b4, rfl, h4, g5⟩ := g4.Q1l
  obtain ⟨x4, rfl, k4⟩ := h4.i64
  obtain ⟨a5, b5, rfl, h5, g6⟩ := g5.Q1l
  obtain ⟨x5, rfl, k5⟩ := h5.i64
  obtain ⟨a6, b6, rfl, h6, g7⟩ := g6.Q1l
  obtain ⟨x6, rfl, k6⟩ := h6.i64
  obtain ⟨a7, b7, rfl, h7, g8⟩ := g7.Q1l
  obtain ⟨x7, rfl, k7⟩ := h7.bool2
  obtain ⟨a8, b8, rfl, h8, g9⟩ := g8.Q1l
  obtain ⟨x8, rfl, k8⟩ := h8.i64
  obtain ⟨a9, b9, rfl, h9, g10⟩ := g9.Q1l
  obtain ⟨x9, rfl, k9⟩ := (h9.sl1 (f := Label.cells) (ok := Qco) fun r hr => (Qoz hr))
  obtain ⟨a10, b10, rfl, h10, g11⟩ := g10.Q1l
  obtain ⟨x10, rfl, k10⟩ := (h10.sl1 (f := Owner.cells) (ok := Qtw) fun r hr => (Q17k hr))
  obtain ⟨a11, b11, rfl, h11, g12⟩ := g11.Q1l
  obtain ⟨x11, rfl, k11⟩ := (h11.sl1 (f := (fun s : ByteArray => [.str s])) (ok := okS) fun r hr => hr.str1)
  obtain ⟨a12, b12, rfl, h12, g13⟩ := g12.Q1l
  obtain ⟨x12, rfl, k12⟩ := (h12.sl1 (f := Manager.cells) (ok := Qe1) fun r hr => (Qyn hr))
  have e := g13.empty
  subst e
  exact ⟨⟨x0, x1, x2, x3, x4, x5, x6, x7, x8, x9, x10, x11, x12⟩, rfl, ⟨k0, k1, k2, k3, k4, k5, k6, k7, k8, k9, k10, k11, k12⟩⟩
def Q4i : Ty := .st [.str, .int .i64, .sl 16 .str]
def Q3c (x : Requirement) : Prop := okS x.key ∧ Q3s x.op ∧ (okL 16 okS) x.values
theorem Q4g {c : List PV} (h : Of Γ Q4i c) : ∃ x : Requirement, c = x.cells ∧ Q3c x := by
  have g0 := h.st1
  obtain ⟨a0, b0, rfl, h0, g1⟩ := g0.Q1l
  obtain ⟨x0, rfl, k0⟩ := h0.str1
  obtain ⟨a1, b1, rfl, h1, g2⟩ := g1.Q1l
  obtain ⟨x1, rfl, k1⟩ := h1.i64
  obtain ⟨a2, b2, rfl, h2, g3⟩ := g2.Q1l
  obtain ⟨x2, rfl, k2⟩ := (h2.sl1 (f := (fun s : ByteArray => [.str s])) (ok := okS) fun r hr => hr.str1)
  have e := g3.empty
  subst e
  exact ⟨⟨x0, x1, x2⟩, rfl, ⟨k0, k1, k2⟩⟩
def Qa2 : Ty := .st [.int .i64, .int .i64, .int .i64]
def Qa1 (x : Resources) : Prop := Q3s x.cPU ∧ Q3s x.memory ∧ Q3s x.disk
theorem Qbb {c : List PV} (h : Of Γ Qa2 c) : ∃ x : Resources, c = x.cells ∧ Qa1 x := by
  have g0 := h.st1
  obtain ⟨a0, b0, rfl, h0, g1⟩ := g0.Q1l
  obtain ⟨x0, rfl, k0⟩ := h0.i64
  obtain ⟨a1, b1, rfl, h1, g2⟩ := g1.Q1l
  obtain ⟨x1, rfl, k1⟩ := h1.i64
  obtain ⟨a2, b2, rfl, h2, g3⟩ := g2.Q1l
  obtain ⟨x2, rfl, k2⟩ := h2.i64
  have e := g3.empty
  subst e
  exact ⟨⟨x0, x1, x2⟩, rfl, ⟨k0, k1, k2⟩⟩
def Qi7 : Ty := .st [.int .i64, .int .i64, .int .i64, .int .i64]
def Q96 (x : Probe) : Prop := Q3s x.delay ∧ Q3s x.period ∧ Q3s x.success ∧ Q3s x.failure
theorem Qe4 {c : List PV} (h : Of Γ Qi7 c) : ∃ x : Probe, c = x.cells ∧ Q96 x := by
  have g0 := h.st1
  obtain ⟨a0, b0, rfl, h0, g1⟩ := g0.Q1l
  obtain ⟨x0, rfl, k0⟩ := h0.i64
  obtain ⟨a1, b1, rfl, h1, g2⟩ := g1.Q1l
  obtain ⟨x1, rfl, k1⟩ := h1.i64
  obtain ⟨a2, b2, rfl, h2, g3⟩ := g2.Q1l
  obtain ⟨x2, rfl, k2⟩ := h2.i64
  obtain ⟨a3, b3, rfl, h3, g4⟩ := g3.Q1l
  obtain ⟨x3, rfl, k3⟩ := h3.i64
  have e := g4.empty
  subst e
  exact ⟨⟨x0, x1, x2, x3⟩, rfl, ⟨k0, k1, k2, k3⟩⟩
def Qeo : Ty := .st [.str, .str, Qa2, Qa2, .sl 32 Qi7, .sl 32 Qi7, .sl 32 Qi7]
def Q9v (x : Container) : Prop := okS x.name ∧ okS x.image ∧ Qa1 x.request ∧ Qa1 x.limit ∧ (okL 32 Q96) x.live ∧ (okL 32 Q96) x.ready ∧ (okL 32 Q96) x.startup
theorem Qod {c : List PV} (h : Of Γ Qeo c) : ∃ x : Container, c = x.cells ∧ Q9v x := by
  have g0 := h.st1
  obtain ⟨a0, b0, rfl, h0, g1⟩ := g0.Q1l
  obtain ⟨x0, rfl, k0⟩ := h0.str1
  obtain ⟨a1, b1, rfl, h1, g2⟩ := g1.Q1l
  obtain ⟨x1, rfl, k1⟩ := h1.str1
  obtain ⟨a2, b2, rfl, h2, g3⟩ := g2.Q1l
  obtain ⟨x2, rfl, k2⟩ := (Qbb h2)
  obtain ⟨a3, b3, rfl, h3, g4⟩ := g3.Q1l
  obtain ⟨x3, rfl, k3⟩ := (Qbb h3)
  obtain ⟨a4, b4, rfl, h4, g5⟩ := g4.Q1l
  obtain ⟨x4, rfl, k4⟩ := (h4.sl1 (f := Probe.cells) (ok := Q96) fun r hr => (Qe4 hr))
  obtain ⟨a5, b5, rfl, h5, g6⟩ := g5.Q1l
  obtain ⟨x5, rfl, k5⟩ := (h5.sl1 (f := Probe.cells) (ok := Q96) fun r hr => (Qe4 hr))
  obtain ⟨a6, b6, rfl, h6, g7⟩ := g6.Q1l
  obtain ⟨x6, rfl, k6⟩ := (h6.sl1 (f := Probe.cells) (ok := Q96) fun r hr => (Qe4 hr))
  have e := g7.empty
  subst e
  exact ⟨⟨x0, x1, x2, x3, x4, x5, x6⟩, rfl, ⟨k0, k1, k2, k3, k4, k5, k6⟩⟩
def Qle : Ty := .st [.bool, .sl 48 Q4i, .int .i64]
def Qbf (x : NodeTerm) : Prop := (fun _ : Bool => True) x.required ∧ (okL 48 Q3c) x.selector ∧ Q3s x.weight
theorem Qtv {c : List PV} (h : Of Γ Qle c) : ∃ x : NodeTerm, c = x.cells ∧ Qbf x := by
  have g0 := h.st1
  obtain ⟨a0, b0, rfl, h0, g1⟩ := g0.Q1l
  obtain ⟨x0, rfl, k0⟩ := h0.bool2
  obtain ⟨a1, b1, rfl, h1, g2⟩ := g1.Q1l
  obtain ⟨x1, rfl, k1⟩ := (h1.sl1 (f := Requirement.cells) (ok := Q3c) fun r hr => (Q4g hr))
  obtain ⟨a2, b2, rfl, h2, g3⟩ := g2.Q1l
  obtain ⟨x2, rfl, k2⟩ := h2.i64
  have e := g3.empty
  subst e
  exact ⟨⟨x0, x1, x2⟩, rfl, ⟨k0, k1, k2⟩⟩
def Qp4 : Ty := .st [.bool, .bool, .sl 48 Q4i, .str, .int .i64]
def Qe3 (x : PodTerm) : Prop := (fun _ : Bool => True) x.required ∧ (fun _ : Bool => True) x.anti ∧ (okL 48 Q3c) x.selector ∧ okS x.topology ∧ Q3s x.weight
theorem Qz2 {c : List PV} (h : Of Γ Qp4 c) : ∃ x : PodTerm, c = x.cells ∧ Qe3 x := by
  have g0 := h.st1
  obtain ⟨a0, b0, rfl, h0, g1⟩ := g0.Q1l
  obtain ⟨x0, rfl, k0⟩ := h0.bool2
  obtain ⟨a1, b1, rfl, h1, g2⟩ := g1.Q1l
  obtain ⟨x1, rfl, k1⟩ := h1.bool2
  obtain ⟨a2, b2, rfl, h2, g3⟩ := g2.Q1l
  obtain ⟨x2, rfl, k2⟩ := (h2.sl1 (f := Requirement.cells) (ok := Q3c) fun r hr => (Q4g hr))
  obtain ⟨a3, b3, rfl, h3, g4⟩ := g3.Q1l
  obtain ⟨x3, rfl, k3⟩ := h3.str1
  obtain ⟨a4, b4, rfl, h4, g5⟩ := g4.Q1l
  obtain ⟨x4, rfl, k4⟩ := h4.i64
  have e := g5.empty
  subst e
  exact ⟨⟨x0, x1, x2, x3, x4⟩, rfl, ⟨k0, k1, k2, k3, k4⟩⟩
def Qcu : Ty := .st [.int .i64, .str, .sl 48 Q4i, .bool]
def Q97 (x : SpreadRule) : Prop := Q3s x.maxSkew ∧ okS x.topology ∧ (okL 48 Q3c) x.selector ∧ (fun _ : Bool => True) x.required
theorem Qli {c : List PV} (h : Of Γ Qcu c) : ∃ x : SpreadRule, c = x.cells ∧ Q97 x := by
  have g0 := h.st1
  obtain ⟨a0, b0, rfl, h0, g1⟩ := g0.Q1l
  obtain ⟨x0, rfl, k0⟩ := h0.i64
  obtain ⟨a1, b1, rfl, h1, g2⟩ := g1.Q1l
  obtain ⟨x1, rfl, k1⟩ := h1.str1
  obtain ⟨a2, b2, rfl, h2, g3⟩ := g2.Q1l
  obtain ⟨x2, rfl, k2⟩ := (h2.sl1 (f := Requirement.cells) (ok := Q3c) fun r hr => (Q4g hr))
  obtain ⟨a3, b3, rfl, h3, g4⟩ := g3.Q1l
  obtain ⟨x3, rfl, k3⟩ := h3.bool2
  have e := g4.empty
  subst e
  exact ⟨⟨x0, x1, x2, x3⟩, rfl, ⟨k0, k1, k2, k3⟩⟩
def Qcv : Ty := .st [.str, .str, .bool, .int .i64, .int .i64]
def Q98 (x : Toleration) : Prop := okS x.key ∧ okS x.value ∧ (fun _ : Bool => True) x.exists_ ∧ Q3s x.effect ∧ Q3s x.seconds
theorem Qll {c : List PV} (h : Of Γ Qcv c) : ∃ x : Toleration, c = x.cells ∧ Q98 x := by
  have g0 := h.st1
  obtain ⟨a0, b0, rfl, h0, g1⟩ := g0.Q1l
  obtain ⟨x0, rfl, k0⟩ := h0.str1
  obtain ⟨a1, b1, rfl, h1, g2⟩ := g1.Q1l
  obtain ⟨x1, rfl, k1⟩ := h1.str1
  obtain ⟨a2, b2, rfl, h2, g3⟩ := g2.Q1l
  obtain ⟨x2, rfl, k2⟩ := h2.bool2
  obtain ⟨a3, b3, rfl, h3, g4⟩ := g3.Q1l
  obtain ⟨x3, rfl, k3⟩ := h3.i64
  obtain ⟨a4, b4, rfl, h4, g5⟩ := g4.Q1l
  obtain ⟨x4, rfl, k4⟩ := h4.i64
  have e := g5.empty
  subst e
  exact ⟨⟨x0, x1, x2, x3, x4⟩, rfl, ⟨k0, k1, k2, k3, k4⟩⟩
def Qp3 : Ty := .st [.str, .int .i64, .int .i64, .int .i64, .sl 152 Qeo, .sl 48 Q4i, .sl 40 Qle, .sl 56 Qp4, .sl 56 Qcu, .sl 56 Qcv]
def Qp2 (x : PodSpec) : Prop := okS x.node ∧ Q3s x.priority ∧ Q3s x.restart ∧ Q3s x.grace ∧ (okL 152 Q9v) x.containers ∧ (okL 48 Q3c) x.nodeSelector ∧ (okL 40 Qbf) x.nodeTerms ∧ (okL 56 Qe3) x.podTerms ∧ (okL 56 Q97) x.spread ∧ (okL 56 Q98) x.tolerations
theorem Qz1 {c : List PV} (h : Of Γ Qp3 c) : ∃ x : PodSpec, c = x.cells ∧ Qp2 x := by
  have g0 := h.st1
  obtain ⟨a0, b0, rfl, h0, g1⟩ := g0.Q1l
  obtain ⟨x0, rfl, k0⟩ := h0.str1
  obtain ⟨a1, b1, rfl, h1, g2⟩ := g1.Q1l
  obtain ⟨x1, rfl, k1⟩ := h1.i64
  obtain ⟨a2, b2, rfl, h2, g3⟩ := g2.Q1l
  obtain ⟨x2, rfl, k2⟩ := h2.i64
  obtain ⟨a3, b3, rfl, h3, g4⟩ := g3.Q1l
  obtain ⟨x3, rfl, k3⟩ := h3.i64
  obtain ⟨a4, b4, rfl, h4, g5⟩ := g4.Q1l
  obtain ⟨x4, rfl, k4⟩ := (h4.sl1 (f := Container.cells) (ok := Q9v) fun r hr => (Qod hr))
  obtain ⟨a5, b5, rfl, h5, g6⟩ := g5.Q1l
  obtain ⟨x5, rfl, k5⟩ := (h5.sl1 (f := Requirement.cells) (ok := Q3c) fun r hr => (Q4g hr))
  obtain ⟨a6, b6, rfl, h6, g7⟩ := g6.Q1l
  obtain ⟨x6, rfl, k6⟩ := (h6.sl1 (f := NodeTerm.cells) (ok := Qbf) fun r hr => (Qtv hr))
  obtain ⟨a7, b7, rfl, h7, g8⟩ := g7.Q1l
  obtain ⟨x7, rfl, k7⟩ := (h7.sl1 (f := PodTerm.cells) (ok := Qe3) fun r hr => (Qz2 hr))
  obtain ⟨a8, b8, rfl, h8, g9⟩ := g8.Q1l
  obtain ⟨x8, rfl, k8⟩ := (h8.sl1 (f := SpreadRule.cells) (ok := Q97) fun r hr => (Qli hr))
  obtain ⟨a9, b9, rfl, h9, g10⟩ := g9.Q1l
  obtain ⟨x9, rfl, k9⟩ := (h9.sl1 (f := Toleration.cells) (ok := Q98) fun r hr => (Qll hr))
  have e := g10.empty
  subst e
  exact ⟨⟨x0, x1, x2, x3, x4, x5, x6, x7, x8, x9⟩, rfl, ⟨k0, k1, k2, k3, k4, k5, k6, k7, k8, k9⟩⟩
def Qlk : Ty := .st [.sl 32 Qtr, Qp3]
def Qlj (x : Template) : Prop := (okL 32 Qco) x.labels ∧ Qp2 x.spec
theorem Qvi {c : List PV} (h : Of Γ Qlk c) : ∃ x : Template, c = x.cells ∧ Qlj x := by
  have g0 := h.st1
  obtain ⟨a0, b0, rfl, h0, g1⟩ := g0.Q1l
  obtain ⟨x0, rfl, k0⟩ := (h0.sl1 (f := Label.cells) (ok := Qco) fun r hr => (Qoz hr))
  obtain ⟨a1, b1, rfl, h1, g2⟩ := g1.Q1l
  obtain ⟨x1, rfl, k1⟩ := (Qz1 h1)
  have e := g2.empty
  subst e
  exact ⟨⟨x0, x1⟩, rfl, ⟨k0, k1⟩⟩
def Q9u : Ty := .st [.bool, .int .i64]
def Q9t (x : Amount) : Prop := (fun _ : Bool => True) x.percent ∧ Q3s x.n
theorem Q8x {c : List PV} (h : Of Γ Q9u c) : ∃ x : Amount, c = x.cells ∧ Q9t x := by
  have g0 := h.st1
  obtain ⟨a0, b0, rfl, h0, g1⟩ := g0.Q1l
  obtain ⟨x0, rfl, k0⟩ := h0.bool2
  obtain ⟨a1, b1, rfl, h1, g2⟩ := g1.Q1l
  obtain ⟨x1, rfl, k1⟩ := h1.i64
  have e := g2.empty
  subst e
  exact ⟨⟨x0, x1⟩, rfl, ⟨k0, k1⟩⟩
def Qcy : Ty := .st [.int .i64, .int .i64, .int .i64, .int .i64, .int .i64, .int .i64, .bool]
def Qcx (x : WorkStatus) : Prop := Q3s x.observed ∧ Q3s x.replicas ∧ Q3s x.updated ∧ Q3s x.ready ∧ Q3s x.available ∧ Q3s x.progress ∧ (fun _ : Bool => True) x.failed
theorem Qlm {c : List PV} (h : Of Γ Qcy c) : ∃ x : WorkStatus, c = x.cells ∧ Qcx x := by
  have g0 := h.st1
  obtain ⟨a0, b0, rfl, h0, g1⟩ := g0.Q1l
  obtain ⟨x0, rfl, k0⟩ := h0.i64
  obtain ⟨a1, b1, rfl, h1, g2⟩ := g1.Q1l
  obtain ⟨x1, rfl, k1⟩ := h1.i64
  obtain ⟨a2, b2, rfl, h2, g3⟩ := g2.Q1l
  obtain ⟨x2, rfl, k2⟩ := h2.i64
  obtain ⟨a3, b3, rfl, h3, g4⟩ := g3.Q1l
  obtain ⟨x3, rfl, k3⟩ := h3.i64
  obtain ⟨a4, b4, rfl, h4, g5⟩ := g4.Q1l
  obtain ⟨x4, rfl, k4⟩ := h4.i64
  obtain ⟨a5, b5, rfl, h5, g6⟩ := g5.Q1l
  obtain ⟨x5, rfl, k5⟩ := h5.i64
  obtain ⟨a6, b6, rfl, h6, g7⟩ := g6.Q1l
  obtain ⟨x6, rfl, k6⟩ := h6.bool2
  have e := g7.empty
  subst e
  exact ⟨⟨x0, x1, x2, x3, x4, x5, x6⟩, rfl, ⟨k0, k1, k2, k3, k4, k5, k6⟩⟩
def Qc9 : Ty := .st [Q12h, .int .i64, .int .i64, .int .i64, .int .i64, .sl 48 Q4i, Qlk, .bool, .bool, Q9u, Q9u, .int .i64, Qcy]
def Q91 (x : Deployment) : Prop := Q88 x.meta_ ∧ Q3s x.replicas ∧ Q3s x.minReady ∧ Q3s x.history ∧ Q3s x.deadline ∧ (okL 48 Q3c) x.selector ∧ Qlj x.template ∧ (fun _ : Bool => True) x.recreate ∧ (fun _ : Bool => True) x.paused ∧ Q9t x.surge ∧ Q9t x.unavailable ∧ Q3s x.undo ∧ Qcx x.status
theorem Qim {c : List PV} (h : Of Γ Qc9 c) : ∃ x : Deployment, c = x.cells ∧ Q91 x := by
  have g0 := h.st1
  obtain ⟨a0, b0, rfl, h0, g1⟩ := g0.Q1l
  obtain ⟨x0, rfl, k0⟩ := (Qyo h0)
  obtain ⟨a1, b1, rfl, h1, g2⟩ := g1.Q1l
  obtain ⟨x1, rfl, k1⟩ := h1.i64
  obtain ⟨a2, b2, rfl, h2, g3⟩ := g2.Q1l
  obtain ⟨x2, rfl, k2⟩ := h2.i64
  obtain ⟨a3, b3, rfl, h3, g4⟩ := g3.Q1l
  obtain ⟨x3, rfl, k3⟩ := h3.i64
  obtain ⟨a4, b4, rfl, h4, g5⟩ := g4.Q1l
  obtain ⟨x4, rfl, k4⟩ := h4.i64
  obtain ⟨a5, b5, rfl, h5, g6⟩ := g5.Q1l
  obtain ⟨x5, rfl, k5⟩ := (h5.sl1 (f := Requirement.cells) (ok := Q3c) fun r hr => (Q4g hr))
  obtain ⟨a6, b6, rfl, h6, g7⟩ := g6.Q1l
  obtain ⟨x6, rfl, k6⟩ := (Qvi h6)
  obtain ⟨a7, b7, rfl, h7, g8⟩ := g7.Q1l
  obtain ⟨x7, rfl, k7⟩ := h7.bool2
  obtain ⟨a8, b8, rfl, h8, g9⟩ := g8.Q1l
  obtain ⟨x8, rfl, k8⟩ := h8.bool2
  obtain ⟨a9, b9, rfl, h9, g10⟩ := g9.Q1l
  obtain ⟨x9, rfl, k9⟩ := (Q8x h9)
  obtain ⟨a10, b10, rfl, h10, g11⟩ := g10.Q1l
  obtain ⟨x10, rfl, k10⟩ := (Q8x h10)
  obtain ⟨a11, b11, rfl, h11, g12⟩ := g11.Q1l
  obtain ⟨x11, rfl, k11⟩ := h11.i64
  obtain ⟨a12, b12, rfl, h12, g13⟩ := g12.Q1l
  obtain ⟨x12, rfl, k12⟩ := (Qlm h12)
  have e := g13.empty
  subst e
  exact ⟨⟨x0, x1, x2, x3, x4, x5, x6, x7, x8, x9, x10, x11, x12⟩, rfl, ⟨k0, k1, k2, k3, k4, k5, k6, k7, k8, k9, k10, k11, k12⟩⟩
def Qyq : Ty := .st [.str, .int .i64]
def Qld (x : Metric) : Prop := okS x.name ∧ Q3s x.target
theorem Q12i {c : List PV} (h : Of Γ Qyq c) : ∃ x : Metric, c = x.cells ∧ Qld x := by
  have g0 := h.st1
  obtain ⟨a0, b0, rfl, h0, g1⟩ := g0.Q1l
  obtain ⟨x0, rfl, k0⟩ := h0.str1
  obtain ⟨a1, b1, rfl, h1, g2⟩ := g1.Q1l
  obtain ⟨x1, rfl, k1⟩ := h1.i64
  have e := g2.empty
  subst e
  exact ⟨⟨x0, x1⟩, rfl, ⟨k0, k1⟩⟩
def Qx0 : Ty := .st [.int .i64, .int .i64]
def Qij (x : Advice) : Prop := Q3s x.at_ ∧ Q3s x.replicas
theorem Q126 {c : List PV} (h : Of Γ Qx0 c) : ∃ x : Advice, c = x.cells ∧ Qij x := by
  have g0 := h.st1
  obtain ⟨a0, b0, rfl, h0, g1⟩ := g0.Q1l
  obtain ⟨x0, rfl, k0⟩ := h0.i64
  obtain ⟨a1, b1, rfl, h1, g2⟩ := g1.Q1l
  obtain ⟨x1, rfl, k1⟩ := h1.i64
  have e := g2.empty
  subst e
  exact ⟨⟨x0, x1⟩, rfl, ⟨k0, k1⟩⟩
def Qc8 : Ty := .st [Q12h, .str, .str, .int .i64, .int .i64, .sl 24 Qyq, .int .i64, .int .i64, .int .i64, Q9u, Q9u, .int .i64, .sl 16 Qx0, .int .i64]
def Q8y (x : Autoscaler) : Prop := Q88 x.meta_ ∧ okS x.targetKind ∧ okS x.target ∧ Q3s x.min_ ∧ Q3s x.max_ ∧ (okL 24 Qld) x.metrics ∧ Q3s x.tolerance ∧ Q3s x.upWindow ∧ Q3s x.downWindow ∧ Q9t x.upStep ∧ Q9t x.downStep ∧ Q3s x.period ∧ (okL 16 Qij) x.advice ∧ Q3s x.scaled
theorem Qik {c : List PV} (h : Of Γ Qc8 c) : ∃ x : Autoscaler, c = x.cells ∧ Q8y x := by
  have g0 := h.st1
  obtain ⟨a0, b0, rfl, h0, g1⟩ := g0.Q1l
  obtain ⟨x0, rfl, k0⟩ := (Qyo h0)
  obtain ⟨a1, b1, rfl, h1, g2⟩ := g1.Q1l
  obtain ⟨x1, rfl, k1⟩ := h1.str1
  obtain ⟨a2, b2, rfl, h2, g3⟩ := g2.Q1l
  obtain ⟨x2, rfl, k2⟩ := h2.str1
  obtain ⟨a3, b3, rfl, h3, g4⟩ := g3.Q1l
  obtain ⟨x3, rfl, k3⟩ := h3.i64
  obtain ⟨a4, b4, rfl, h4, g5⟩ := g4.Q1l
  obtain ⟨x4, rfl, k4⟩ := h4.i64
  obtain ⟨a5, b5, rfl, h5, g6⟩ := g5.Q1l
  obtain ⟨x5, rfl, k5⟩ := (h5.sl1 (f := Metric.cells) (ok := Qld) fun r hr => (Q12i hr))
  obtain ⟨a6, b6, rfl, h6, g7⟩ := g6.Q1l
  obtain ⟨x6, rfl, k6⟩ := h6.i64
  obtain ⟨a7, b7, rfl, h7, g8⟩ := g7.Q1l
  obtain ⟨x7, rfl, k7⟩ := h7.i64
  obtain ⟨a8, b8, rfl, h8, g9⟩ := g8.Q1l
  obtain ⟨x8, rfl, k8⟩ := h8.i64
  obtain ⟨a9, b9, rfl, h9, g10⟩ := g9.Q1l
  obtain ⟨x9, rfl, k9⟩ := (Q8x h9)
  obtain ⟨a10, b10, rfl, h10, g11⟩ := g10.Q1l
  obtain ⟨x10, rfl, k10⟩ := (Q8x h10)
  obtain ⟨a11, b11, rfl, h11, g12⟩ := g11.Q1l
  obtain ⟨x11, rfl, k11⟩ := h11.i64
  obtain ⟨a12, b12, rfl, h12, g13⟩ := g12.Q1l
  obtain ⟨x12, rfl, k12⟩ := (h12.sl1 (f := Advice.cells) (ok := Qij) fun r hr => (Q126 hr))
  obtain ⟨a13, b13, rfl, h13, g14⟩ := g13.Q1l
  obtain ⟨x13, rfl, k13⟩ := h13.i64
  have e := g14.empty
  subst e
  exact ⟨⟨x0, x1, x2, x3, x4, x5, x6, x7, x8, x9, x10, x11, x12, x13⟩, rfl, ⟨k0, k1, k2, k3, k4, k5, k6, k7, k8, k9, k10, k11, k12, k13⟩⟩
def Q3w (N : Nat) (x : Requirement) : Prop := (fun s : ByteArray => s.size ≤ N) x.key ∧ (fun l : List ByteArray => l.length ≤ N ∧ ∀ x ∈ l, (fun s : ByteArray => s.size ≤ N) x) x.values
theorem Q48 {N : Nat} {x : Requirement} (h : CapL N x.cells) : Q3w N x := ⟨(let g : CapL N [.str x.key] := fun p hp => h p (by simp only [List.mem_cons, List.not_mem_nil, or_false] at hp; rcases hp with rfl <;> simp [Requirement.cells]); (g _ List.mem_cons_self).strI), (let g : CapL N [.sl (Q10 x.values)] := fun p hp => h p (by simp only [List.mem_cons, List.not_mem_nil, or_false] at hp; rcases hp with rfl <;> simp [Requirement.cells]); (let r := Cap.Q7s (f := (fun s : ByteArray => [.str s])) (g _ List.mem_cons_self); ⟨r.1, fun x hx => ((r.2 x hx) _ List.mem_cons_self).strI⟩))⟩
theorem Requirement.Q3d {N : Nat} (hN : N ≤ sB) {x : Requirement} (c : Q3w N x) : Requirement.sm x := ⟨⟨Nat.le_trans c.2.1 hN, fun _ _hx => trivial⟩, trivial⟩
def Qcn (N : Nat) (x : Label) : Prop := (fun s : ByteArray => s.size ≤ N) x.key ∧ (fun s : ByteArray => s.size ≤ N) x.value
theorem Qlb {N : Nat} {x : Label} (h : CapL N x.cells) : Qcn N x := ⟨(let g : CapL N [.str x.key] := fun p hp => h p (by simp only [List.mem_cons, List.not_mem_nil, or_false] at hp; rcases hp with rfl <;> simp [Label.cells]); (g _ List.mem_cons_self).strI), (let g : CapL N [.str x.value] := fun p hp => h p (by simp only [List.mem_cons, List.not_mem_nil, or_false] at hp; rcases hp with rfl <;> simp [Label.cells]); (g _ List.mem_cons_self).strI)⟩
theorem Label.Q3d {N : Nat} (_ : N ≤ sB) {x : Label} (_ : Qcn N x) : Label.sm x := trivial
def Q77 (_N : Nat) (_x : Resources) : Prop := True
theorem Qa0 {N : Nat} {x : Resources} (_h : CapL N x.cells) : Q77 N x := trivial
theorem Resources.Q3d {N : Nat} (_ : N ≤ sB) {x : Resources} (_ : Q77 N x) : Resources.sm x := trivial
def Q9z (_N : Nat) (_x : Probe) : Prop := True
theorem Qbi {N : Nat} {x : Probe} (_h : CapL N x.cells) : Q9z N x := trivial
theorem Probe.Q3d {N : Nat} (_ : N ≤ sB) {x : Probe} (_ : Q9z N x) : Probe.sm x := trivial
def Q90 (N : Nat) (x : Container) : Prop := (fun s : ByteArray => s.size ≤ N) x.name ∧ (fun s : ByteArray => s.size ≤ N) x.image ∧ (Q77 N) x.request ∧ (Q77 N) x.limit ∧ (fun l : List Probe => l.length ≤ N ∧ ∀ x ∈ l, (Q9z N) x) x.live ∧ (fun l : List Probe => l.length ≤ N ∧ ∀ x ∈ l, (Q9z N) x) x.ready ∧ (fun l : List Probe => l.length ≤ N ∧ ∀ x ∈ l, (Q9z N) x) x.startup
theorem Qil {N : Nat} {x : Container} (h : CapL N x.cells) : Q90 N x := ⟨(let g : CapL N [.str x.name] := fun p hp => h p (by simp only [List.mem_cons, List.not_mem_nil, or_false] at hp; rcases hp with rfl <;> simp [Container.cells]); (g _ List.mem_cons_self).strI), (let g : CapL N [.str x.image] := fun p hp => h p (by simp only [List.mem_cons, List.not_mem_nil, or_false] at hp; rcases hp with rfl <;> simp [Container.cells]); (g _ List.mem_cons_self).strI), (let g : CapL N [.int .i64 x.request.cPU, .int .i64 x.request.memory, .int .i64 x.request.disk] := fun p hp => h p (by simp only [List.mem_cons, List.not_mem_nil, or_false] at hp; rcases hp with rfl | rfl | rfl <;> simp [Container.cells]); (Qa0 g)), (let g : CapL N [.int .i64 x.limit.cPU, .int .i64 x.limit.memory, .int .i64 x.limit.disk] := fun p hp => h p (by simp only [List.mem_cons, List.not_mem_nil, or_false] at hp; rcases hp with rfl | rfl | rfl <;> simp [Container.cells]); (Qa0 g)), (let g : CapL N [.sl (Probe.rows x.live)] := fun p hp => h p (by simp only [List.mem_cons, List.not_mem_nil, or_false] at hp; rcases hp with rfl <;> simp [Container.cells]); (let r := Cap.Q7s (f := Probe.cells) (g _ List.mem_cons_self); ⟨r.1, fun x hx => (Qbi (r.2 x hx))⟩)), (let g : CapL N [.sl (Probe.rows x.ready)] := fun p hp => h p (by simp only [List.mem_cons, List.not_mem_nil, or_false] at hp; rcases hp with rfl <;> simp [Container.cells]); (let r := Cap.Q7s (f := Probe.cells) (g _ List.mem_cons_self); ⟨r.1, fun x hx => (Qbi (r.2 x hx))⟩)), (let g : CapL N [.sl (Probe.rows x.startup)] := fun p hp => h p (by simp only [List.mem_cons, List.not_mem_nil, or_false] at hp; rcases hp with rfl <;> simp [Container.cells]); (let r := Cap.Q7s (f := Probe.cells) (g _ List.mem_cons_self); ⟨r.1, fun x hx => (Qbi (r.2 x hx))⟩))⟩
theorem Container.Q3d {N : Nat} (hN : N ≤ sB) {x : Container} (c : Q90 N x) : Container.sm x := ⟨Resources.Q3d hN c.2.2.1, Resources.Q3d hN c.2.2.2.1, ⟨Nat.le_trans c.2.2.2.2.1.1 hN, fun _ hx => Probe.Q3d hN (c.2.2.2.2.1.2 _ hx)⟩, ⟨Nat.le_trans c.2.2.2.2.2.1.1 hN, fun _ hx => Probe.Q3d hN (c.2.2.2.2.2.1.2 _ hx)⟩, ⟨Nat.le_trans c.2.2.2.2.2.2.1 hN, fun _ hx => Probe.Q3d hN (c.2.2.2.2.2.2.2 _ hx)⟩, trivial⟩
def Q9y (N : Nat) (x : NodeTerm) : Prop := (fun l : List Requirement => l.length ≤ N ∧ ∀ x ∈ l, (Q3w N) x) x.selector
theorem Qoh {N : Nat} {x : NodeTerm} (h : CapL N x.cells) : Q9y N x := (let g : CapL N [.sl (Requirement.rows x.selector)] := fun p hp => h p (by simp only [List.mem_cons, List.not_mem_nil, or_false] at hp; rcases hp with rfl <;> simp [NodeTerm.cells]); (let r := Cap.Q7s (f := Requirement.cells) (g _ List.mem_cons_self); ⟨r.1, fun x hx => (Q48 (r.2 x hx))⟩))
theorem NodeTerm.Q3d {N : Nat} (hN : N ≤ sB) {x : NodeTerm} (c : Q9y N x) : NodeTerm.sm x := ⟨⟨Nat.le_trans c.1 hN, fun _ hx => Requirement.Q3d hN (c.2 _ hx)⟩, trivial⟩
def Qbh (N : Nat) (x : PodTerm) : Prop := (fun l : List Requirement => l.length ≤ N ∧ ∀ x ∈ l, (Q3w N) x) x.selector ∧ (fun s : ByteArray => s.size ≤ N) x.topology
theorem Qvg {N : Nat} {x : PodTerm} (h : CapL N x.cells) : Qbh N x := ⟨(let g : CapL N [.sl (Requirement.rows x.selector)] := fun p hp => h p (by simp only [List.mem_cons, List.not_mem_nil, or_false] at hp; rcases hp with rfl <;> simp [PodTerm.cells]); (let r := Cap.Q7s (f := Requirement.cells) (g _ List.mem_cons_self); ⟨r.1, fun x hx => (Q48 (r.2 x hx))⟩)), (let g : CapL N [.str x.topology] := fun p hp => h p (by simp only [List.mem_cons, List.not_mem_nil, or_false] at hp; rcases hp with rfl <;> simp [PodTerm.cells]); (g _ List.mem_cons_self).strI)⟩
theorem PodTerm.Q3d {N : Nat} (hN : N ≤ sB) {x : PodTerm} (c : Qbh N x) : PodTerm.sm x := ⟨⟨Nat.le_trans c.1.1 hN, fun _ hx => Requirement.Q3d hN (c.1.2 _ hx)⟩, trivial⟩
def Q8a (N : Nat) (x : SpreadRule) : Prop := (fun s : ByteArray => s.size ≤ N) x.topology ∧ (fun l : List Requirement => l.length ≤ N ∧ ∀ x ∈ l, (Q3w N) x) x.selector
theorem Qf3 {N : Nat} {x : SpreadRule} (h : CapL N x.cells) : Q8a N x := ⟨(let g : CapL N [.str x.topology] := fun p hp => h p (by simp only [List.mem_cons, List.not_mem_nil, or_false] at hp; rcases hp with rfl <;> simp [SpreadRule.cells]); (g _ List.mem_cons_self).strI), (let g : CapL N [.sl (Requirement.rows x.selector)] := fun p hp => h p (by simp only [List.mem_cons, List.not_mem_nil, or_false] at hp; rcases hp with rfl <;> simp [SpreadRule.cells]); (let r := Cap.Q7s (f := Requirement.cells) (g _ List.mem_cons_self); ⟨r.1, fun x hx => (Q48 (r.2 x hx))⟩))⟩
theorem SpreadRule.Q3d {N : Nat} (hN : N ≤ sB) {x : SpreadRule} (c : Q8a N x) : SpreadRule.sm x := ⟨⟨Nat.le_trans c.2.1 hN, fun _ hx => Requirement.Q3d hN (c.2.2 _ hx)⟩, trivial⟩
def Q8b (N : Nat) (x : Toleration) : Prop := (fun s : ByteArray => s.size ≤ N) x.key ∧ (fun s : ByteArray => s.size ≤ N) x.value
theorem Qf4 {N : Nat} {x : Toleration} (h : CapL N x.cells) : Q8b N x := ⟨(let g : CapL N [.str x.key] := fun p hp => h p (by simp only [List.mem_cons, List.not_mem_nil, or_false] at hp; rcases hp with rfl <;> simp [Toleration.cells]); (g _ List.mem_cons_self).strI), (let g : CapL N [.str x.value] := fun p hp => h p (by simp only [List.mem_cons, List.not_mem_nil, or_false] at hp; rcases hp with rfl <;> simp [Toleration.cells]); (g _ List.mem_cons_self).strI)⟩
theorem Toleration.Q3d {N : Nat} (_ : N ≤ sB) {x : Toleration} (_ : Q8b N x) : Toleration.sm x := trivial
def Qbg (N : Nat) (x : PodSpec) : Prop := (fun s : ByteArray => s.size ≤ N) x.node ∧ (fun l : List Container => l.length ≤ N ∧ ∀ x ∈ l, (Q90 N) x) x.containers ∧ (fun l : List Requirement => l.length ≤ N ∧ ∀ x ∈ l, (Q3w N) x) x.nodeSelector ∧ (fun l : List NodeTerm => l.length ≤ N ∧ ∀ x ∈ l, (Q9y N) x) x.nodeTerms ∧ (fun l : List PodTerm => l.length ≤ N ∧ ∀ x ∈ l, (Qbh N) x) x.podTerms ∧ (fun l : List SpreadRule => l.length ≤ N ∧ ∀ x ∈ l, (Q8a N) x) x.spread ∧ (fun l : List Toleration => l.length ≤ N ∧ ∀ x ∈ l, (Q8b N) x) x.tolerations
theorem Qvf {N : Nat} {x : PodSpec} (h : CapL N x.cells) : Qbg N x := ⟨(let g : CapL N [.str x.node] := fun p hp => h p (by simp only [List.mem_cons, List.not_mem_nil, or_false] at hp; rcases hp with rfl <;> simp [PodSpec.cells]); (g _ List.mem_cons_self).strI), (let g : CapL N [.sl (Container.rows x.containers)] := fun p hp => h p (by simp only [List.mem_cons, List.not_mem_nil, or_false] at hp; rcases hp with rfl <;> simp [PodSpec.cells]); (let r := Cap.Q7s (f := Container.cells) (g _ List.mem_cons_self); ⟨r.1, fun x hx => (Qil (r.2 x hx))⟩)), (let g : CapL N [.sl (Requirement.rows x.nodeSelector)] := fun p hp => h p (by simp only [List.mem_cons, List.not_mem_nil, or_false] at hp; rcases hp with rfl <;> simp [PodSpec.cells]); (let r := Cap.Q7s (f := Requirement.cells) (g _ List.mem_cons_self); ⟨r.1, fun x hx => (Q48 (r.2 x hx))⟩)), (let g : CapL N [.sl (NodeTerm.rows x.nodeTerms)] := fun p hp => h p (by simp only [List.mem_cons, List.not_mem_nil, or_false] at hp; rcases hp with rfl <;> simp [PodSpec.cells]); (let r := Cap.Q7s (f := NodeTerm.cells) (g _ List.mem_cons_self); ⟨r.1, fun x hx => (Qoh (r.2 x hx))⟩)), (let g : CapL N [.sl (PodTerm.rows x.podTerms)] := fun p hp => h p (by simp only [List.mem_cons, List.not_mem_nil, or_false] at hp; rcases hp with rfl <;> simp [PodSpec.cells]); (let r := Cap.Q7s (f := PodTerm.cells) (g _ List.mem_cons_self); ⟨r.1, fun x hx => (Qvg (r.2 x hx))⟩)), (let g : CapL N [.sl (SpreadRule.rows x.spread)] := fun p hp => h p (by simp only [List.mem_cons, List.not_mem_nil, or_false] at hp; rcases hp with rfl <;> simp [PodSpec.cells]); (let r := Cap.Q7s (f := SpreadRule.cells) (g _ List.mem_cons_self); ⟨r.1, fun x hx => (Qf3 (r.2 x hx))⟩)), (let g : CapL N [.sl (Toleration.rows x.tolerations)] := fun p hp => h p (by simp only [List.mem_cons, List.not_mem_nil, or_false] at hp; rcases hp with rfl <;> simp [PodSpec.cells]); (let r := Cap.Q7s (f := Toleration.cells) (g _ List.mem_cons_self); ⟨r.1, fun x hx => (Qf4 (r.2 x hx))⟩))⟩
theorem PodSpec.Q3d {N : Nat} (hN : N ≤ sB) {x : PodSpec} (c : Qbg N x) : PodSpec.sm x := ⟨⟨Nat.le_trans c.2.1.1 hN, fun _ hx => Container.Q3d hN (c.2.1.2 _ hx)⟩, ⟨Nat.le_trans c.2.2.1.1 hN, fun _ hx => Requirement.Q3d hN (c.2.2.1.2 _ hx)⟩, ⟨Nat.le_trans c.2.2.2.1.1 hN, fun _ hx => NodeTerm.Q3d hN (c.2.2.2.1.2 _ hx)⟩, ⟨Nat.le_trans c.2.2.2.2.1.1 hN, fun _ hx => PodTerm.Q3d hN (c.2.2.2.2.1.2 _ hx)⟩, ⟨Nat.le_trans c.2.2.2.2.2.1.1 hN, fun _ hx => SpreadRule.Q3d hN (c.2.2.2.2.2.1.2 _ hx)⟩, ⟨Nat.le_trans c.2.2.2.2.2.2.1 hN, fun _ hx => Toleration.Q3d hN (c.2.2.2.2.2.2.2 _ hx)⟩, trivial⟩
def Qa3 (N : Nat) (x : Template) : Prop := (fun l : List Label => l.length ≤ N ∧ ∀ x ∈ l, (Qcn N) x) x.labels ∧ (Qbg N) x.spec
theorem Qoi {N : Nat} {x : Template} (h : CapL N x.cells) : Qa3 N x := ⟨(let g : CapL N [.sl (Label.rows x.labels)] := fun p hp => h p (by simp only [List.mem_cons, List.not_mem_nil, or_false] at hp; rcases hp with rfl <;> simp [Template.cells]); (let r := Cap.Q7s (f := Label.cells) (g _ List.mem_cons_self); ⟨r.1, fun x hx => (Qlb (r.2 x hx))⟩)), (let g : CapL N [.str x.spec.node, .int .i64 x.spec.priority, .int .i64 x.spec.restart, .int .i64 x.spec.grace, .sl (Container.rows x.spec.containers), .sl (Requirement.rows x.spec.nodeSelector), .sl (NodeTerm.rows x.spec.nodeTerms), .sl (PodTerm.rows x.spec.podTerms), .sl (SpreadRule.rows x.spec.spread), .sl (Toleration.rows x.spec.tolerations)] := fun p hp => h p (by simp only [List.mem_cons, List.not_mem_nil, or_false] at hp; rcases hp with rfl | rfl | rfl | rfl | rfl | rfl | rfl | rfl | rfl | rfl <;> simp [Template.cells]); (Qvf g))⟩
theorem Template.Q3d {N : Nat} (hN : N ≤ sB) {x : Template} (c : Qa3 N x) : Template.sm x := ⟨⟨Nat.le_trans c.1.1 hN, fun _ hx => Label.Q3d hN (c.1.2 _ hx)⟩, PodSpec.Q3d hN c.2, trivial⟩
def Q7c (_N : Nat) (_x : Amount) : Prop := True
theorem Q7w {N : Nat} {x : Amount} (_h : CapL N x.cells) : Q7c N x := trivial
theorem Amount.Q3d {N : Nat} (_ : N ≤ sB) {x : Amount} (_ : Q7c N x) : Amount.sm x := trivial
def Q8c (_N : Nat) (_x : WorkStatus) : Prop := True
theorem Qf5 {N : Nat} {x : WorkStatus} (_h : CapL N x.cells) : Q8c N x := trivial
theorem WorkStatus.Q3d {N : Nat} (_ : N ≤ sB) {x : WorkStatus} (_ : Q8c N x) : WorkStatus.sm x := trivial
def Qe2 (N : Nat) (x : Metric) : Prop := (fun s : ByteArray => s.size ≤ N) x.name
theorem Qyp {N : Nat} {x : Metric} (h : CapL N x.cells) : Qe2 N x := (let g : CapL N [.str x.name] := fun p hp => h p (by simp only [List.mem_cons, List.not_mem_nil, or_false] at hp; rcases hp with rfl <;> simp [Metric.cells]); (g _ List.mem_cons_self).strI)
theorem Metric.Q3d {N : Nat} (_ : N ≤ sB) {x : Metric} (_ : Qe2 N x) : Metric.sm x := trivial
def Qdr (_N : Nat) (_x : Advice) : Prop := True
theorem Qwz {N : Nat} {x : Advice} (_h : CapL N x.cells) : Qdr N x := trivial
theorem Advice.Q3d {N : Nat} (_ : N ≤ sB) {x : Advice} (_ : Qdr N x) : Advice.sm x := trivial
def Qyr (N : Nat) (x : Owner) : Prop := (fun s : ByteArray => s.size ≤ N) x.kind ∧ (fun s : ByteArray => s.size ≤ N) x.name
theorem Q12j {N : Nat} {x : Owner} (h : CapL N x.cells) : Qyr N x := ⟨(let g : CapL N [.str x.kind] := fun p hp => h p (by simp only [List.mem_cons, List.not_mem_nil, or_false] at hp; rcases hp with rfl <;> simp [Owner.cells]); (g _ List.mem_cons_self).strI), (let g : CapL N [.str x.name] := fun p hp => h p (by simp only [List.mem_cons, List.not_mem_nil, or_false] at hp; rcases hp with rfl <;> simp [Owner.cells]); (g _ List.mem_cons_self).strI)⟩
def Qlc (N : Nat) (x : Manager) : Prop := (fun s : ByteArray => s.size ≤ N) x.name ∧ (fun l : List ByteArray => l.length ≤ N ∧ ∀ x ∈ l, (fun s : ByteArray => s.size ≤ N) x) x.fields
theorem Qtt {N : Nat} {x : Manager} (h : CapL N x.cells) : Qlc N x := ⟨(let g : CapL N [.str x.name] := fun p hp => h p (by simp only [List.mem_cons, List.not_mem_nil, or_false] at hp; rcases hp with rfl <;> simp [Manager.cells]); (g _ List.mem_cons_self).strI), (let g : CapL N [.sl (Q10 x.fields)] := fun p hp => h p (by simp only [List.mem_cons, List.not_mem_nil, or_false] at hp; rcases hp with rfl <;> simp [Manager.cells]); (let r := Cap.Q7s (f := (fun s : ByteArray => [.str s])) (g _ List.mem_cons_self); ⟨r.1, fun x hx => ((r.2 x hx) _ List.mem_cons_self).strI⟩))⟩
def Qtu (N : Nat) (x : Meta) : Prop := (fun s : ByteArray => s.size ≤ N) x.kind ∧ (fun s : ByteArray => s.size ≤ N) x.namespace_ ∧ (fun s : ByteArray => s.size ≤ N) x.name ∧ (fun l : List Label => l.length ≤ N ∧ ∀ x ∈ l, (Qcn N) x) x.labels ∧ (fun l : List Owner => l.length ≤ N ∧ ∀ x ∈ l, (Qyr N) x) x.owners ∧ (fun l : List ByteArray => l.length ≤ N ∧ ∀ x ∈ l, (fun s : ByteArray => s.size ≤ N) x) x.finalizers ∧ (fun l : List Manager => l.length ≤ N ∧ ∀ x ∈ l, (Qlc N) x) x.managers
theorem Qp1 {N : Nat} {x : Meta} (h : CapL N x.cells) : Qtu N x := ⟨(let g : CapL N [.str x.kind] := fun p hp => h p (by simp only [List.mem_cons, List.not_mem_nil, or_false] at hp; rcases hp with rfl <;> simp [Meta.cells]); (g _ List.mem_cons_self).strI), (let g : CapL N [.str x.namespace_] := fun p hp => h p (by simp only [List.mem_cons, List.not_mem_nil, or_false] at hp; rcases hp with rfl <;> simp [Meta.cells]); (g _ List.mem_cons_self).strI), (let g : CapL N [.str x.name] := fun p hp => h p (by simp only [List.mem_cons, List.not_mem_nil, or_false] at hp; rcases hp with rfl <;> simp [Meta.cells]); (g _ List.mem_cons_self).strI), (let g : CapL N [.sl (Label.rows x.labels)] := fun p hp => h p (by simp only [List.mem_cons, List.not_mem_nil, or_false] at hp; rcases hp with rfl <;> simp [Meta.cells]); (let r := Cap.Q7s (f := Label.cells) (g _ List.mem_cons_self); ⟨r.1, fun x hx => (Qlb (r.2 x hx))⟩)), (let g : CapL N [.sl (Owner.rows x.owners)] := fun p hp => h p (by simp only [List.mem_cons, List.not_mem_nil, or_false] at hp; rcases hp with rfl <;> simp [Meta.cells]); (let r := Cap.Q7s (f := Owner.cells) (g _ List.mem_cons_self); ⟨r.1, fun x hx => (Q12j (r.2 x hx))⟩)), (let g : CapL N [.sl (Q10 x.finalizers)] := fun p hp => h p (by simp only [List.mem_cons, List.not_mem_nil, or_false] at hp; rcases hp with rfl <;> simp [Meta.cells]); (let r := Cap.Q7s (f := (fun s : ByteArray => [.str s])) (g _ List.mem_cons_self); ⟨r.1, fun x hx => ((r.2 x hx) _ List.mem_cons_self).strI⟩)), (let g : CapL N [.sl (Manager.rows x.managers)] := fun p hp => h p (by simp only [List.mem_cons, List.not_mem_nil, or_false] at hp; rcases hp with rfl <;> simp [Meta.cells]); (let r := Cap.Q7s (f := Manager.cells) (g _ List.mem_cons_self); ⟨r.1, fun x hx => (Qtt (r.2 x hx))⟩))⟩
def Q6t (N : Nat) (x : Deployment) : Prop := (Qtu N) x.meta_ ∧ (fun l : List Requirement => l.length ≤ N ∧ ∀ x ∈ l, (Q3w N) x) x.selector ∧ (Qa3 N) x.template ∧ (Q7c N) x.surge ∧ (Q7c N) x.unavailable ∧ (Q8c N) x.status
theorem Qf1 {N : Nat} {x : Deployment} (h : CapL N x.cells) : Q6t N x := ⟨(let g : CapL N [.str x.meta_.kind, .str x.meta_.namespace_, .str x.meta_.name, .int .i64 x.meta_.uid, .int .i64 x.meta_.version, .int .i64 x.meta_.generation, .int .i64 x.meta_.created, .bool x.meta_.deleting, .int .i64 x.meta_.deleteAt, .sl (Label.rows x.meta_.labels), .sl (Owner.rows x.meta_.owners), .sl (Q10 x.meta_.finalizers), .sl (Manager.rows x.meta_.managers)] := fun p hp => h p (by simp only [List.mem_cons, List.not_mem_nil, or_false] at hp; rcases hp with rfl | rfl | rfl | rfl | rfl | rfl | rfl | rfl | rfl | rfl | rfl | rfl | rfl <;> simp [Deployment.cells]); (Qp1 g)), (let g : CapL N [.sl (Requirement.rows x.selector)] := fun p hp => h p (by simp only [List.mem_cons, List.not_mem_nil, or_false] at hp; rcases hp with rfl <;> simp [Deployment.cells]); (let r := Cap.Q7s (f := Requirement.cells) (g _ List.mem_cons_self); ⟨r.1, fun x hx => (Q48 (r.2 x hx))⟩)), (let g : CapL N [.sl (Label.rows x.template.labels), .str x.template.spec.node, .int .i64 x.template.spec.priority, .int .i64 x.template.spec.restart, .int .i64 x.template.spec.grace, .sl (Container.rows x.template.spec.containers), .sl (Requirement.rows x.template.spec.nodeSelector), .sl (NodeTerm.rows x.template.spec.nodeTerms), .sl (PodTerm.rows x.template.spec.podTerms), .sl (SpreadRule.rows x.template.spec.spread), .sl (Toleration.rows x.template.spec.tolerations)] := fun p hp => h p (by simp only [List.mem_cons, List.not_mem_nil, or_false] at hp; rcases hp with rfl | rfl | rfl | rfl | rfl | rfl | rfl | rfl | rfl | rfl | rfl <;> simp [Deployment.cells]); (Qoi g)), (let g : CapL N [.bool x.surge.percent, .int .i64 x.surge.n] := fun p hp => h p (by simp only [List.mem_cons, List.not_mem_nil, or_false] at hp; rcases hp with rfl | rfl <;> simp [Deployment.cells]); (Q7w g)), (let g : CapL N [.bool x.unavailable.percent, .int .i64 x.unavailable.n] := fun p hp => h p (by simp only [List.mem_cons, List.not_mem_nil, or_false] at hp; rcases hp with rfl | rfl <;> simp [Deployment.cells]); (Q7w g)), (let g : CapL N [.int .i64 x.status.observed, .int .i64 x.status.replicas, .int .i64 x.status.updated, .int .i64 x.status.ready, .int .i64 x.status.available, .int .i64 x.status.progress, .bool x.status.failed] := fun p hp => h p (by simp only [List.mem_cons, List.not_mem_nil, or_false] at hp; rcases hp with rfl | rfl | rfl | rfl | rfl | rfl | rfl <;> simp [Deployment.cells]); (Qf5 g))⟩
theorem Deployment.Q3d {N : Nat} (hN : N ≤ sB) {x : Deployment} (c : Q6t N x) : Deployment.sm x := ⟨⟨Nat.le_trans c.2.1.1 hN, fun _ hx => Requirement.Q3d hN (c.2.1.2 _ hx)⟩, Template.Q3d hN c.2.2.1, Amount.Q3d hN c.2.2.2.1, Amount.Q3d hN c.2.2.2.2.1, WorkStatus.Q3d hN c.2.2.2.2.2, trivial⟩
def Q6s (N : Nat) (x : Autoscaler) : Prop := (Qtu N) x.meta_ ∧ (fun s : ByteArray => s.size ≤ N) x.targetKind ∧ (fun s : ByteArray => s.size ≤ N) x.target ∧ (fun l : List Metric => l.length ≤ N ∧ ∀ x ∈ l, (Qe2 N) x) x.metrics ∧ (Q7c N) x.upStep ∧ (Q7c N) x.downStep ∧ (fun l : List Advice => l.length ≤ N ∧ ∀ x ∈ l, (Qdr N) x) x.advice
theorem Qf0 {N : Nat} {x : Autoscaler} (h : CapL N x.cells) : Q6s N x := ⟨(let g : CapL N [.str x.meta_.kind, .str x.meta_.namespace_, .str x.meta_.name, .int .i64 x.meta_.uid, .int .i64 x.meta_.version, .int .i64 x.meta_.generation, .int .i64 x.meta_.created, .bool x.meta_.deleting, .int .i64 x.meta_.deleteAt, .sl (Label.rows x.meta_.labels), .sl (Owner.rows x.meta_.owners), .sl (Q10 x.meta_.finalizers), .sl (Manager.rows x.meta_.managers)] := fun p hp => h p (by simp only [List.mem_cons, List.not_mem_nil, or_false] at hp; rcases hp with rfl | rfl | rfl | rfl | rfl | rfl | rfl | rfl | rfl | rfl | rfl | rfl | rfl <;> simp [Autoscaler.cells]); (Qp1 g)), (let g : CapL N [.str x.targetKind] := fun p hp => h p (by simp only [List.mem_cons, List.not_mem_nil, or_false] at hp; rcases hp with rfl <;> simp [Autoscaler.cells]); (g _ List.mem_cons_self).strI), (let g : CapL N [.str x.target] := fun p hp => h p (by simp only [List.mem_cons, List.not_mem_nil, or_false] at hp; rcases hp with rfl <;> simp [Autoscaler.cells]); (g _ List.mem_cons_self).strI), (let g : CapL N [.sl (Metric.rows x.metrics)] := fun p hp => h p (by simp only [List.mem_cons, List.not_mem_nil, or_false] at hp; rcases hp with rfl <;> simp [Autoscaler.cells]); (let r := Cap.Q7s (f := Metric.cells) (g _ List.mem_cons_self); ⟨r.1, fun x hx => (Qyp (r.2 x hx))⟩)), (let g : CapL N [.bool x.upStep.percent, .int .i64 x.upStep.n] := fun p hp => h p (by simp only [List.mem_cons, List.not_mem_nil, or_false] at hp; rcases hp with rfl | rfl <;> simp [Autoscaler.cells]); (Q7w g)), (let g : CapL N [.bool x.downStep.percent, .int .i64 x.downStep.n] := fun p hp => h p (by simp only [List.mem_cons, List.not_mem_nil, or_false] at hp; rcases hp with rfl | rfl <;> simp [Autoscaler.cells]); (Q7w g)), (let g : CapL N [.sl (Advice.rows x.advice)] := fun p hp => h p (by simp only [List.mem_cons, List.not_mem_nil, or_false] at hp; rcases hp with rfl <;> simp [Autoscaler.cells]); (let r := Cap.Q7s (f := Advice.cells) (g _ List.mem_cons_self); ⟨r.1, fun x hx => (Qwz (r.2 x hx))⟩))⟩
theorem Autoscaler.Q3d {N : Nat} (hN : N ≤ sB) {x : Autoscaler} (c : Q6s N x) : Autoscaler.sm x := ⟨⟨Nat.le_trans c.2.2.2.1.1 hN, fun _ hx => Metric.Q3d hN (c.2.2.2.1.2 _ hx)⟩, Amount.Q3d hN c.2.2.2.2.1, Amount.Q3d hN c.2.2.2.2.2.1, ⟨Nat.le_trans c.2.2.2.2.2.2.1 hN, fun _ hx => Advice.Q3d hN (c.2.2.2.2.2.2.2 _ hx)⟩, trivial⟩
end Go.Proofs.YtimjjohlpnkacaaGreat
end

section
/- What the law WorkcodecScaled computes (printed by a program). -/
namespace Go.Proofs.YtimjjohlpnkacaaGreat
open Go.Pv
def s_K4 (p0 : Deployment) (p1 : Autoscaler) : Bool :=
 bif (s_K8 (Q4j p0)) then
  bif (s_K8 (Q4m p1)) then
   true
  else
   true
 else
  true
def c_K4 (p0 : Deployment) (p1 : Autoscaler) : En := .call 3 [.agg (Deployment.cells p0), .agg (Autoscaler.cells p1)] []
def a_K4 (p0 : Deployment) (p1 : Autoscaler) : Rs := .ret (.bool (s_K4 p0 p1)) []
def H_K4 (p0 : Deployment) (p1 : Autoscaler) : Prop := (Q1cl p0) ∧ (Q1ck p1) ∧ (H_K8 (Q4j p0)) ∧ ((s_K8 (Q4j p0)) = true → H_K8 (Q4m p1)) ∧ ((s_K8 (Q4j p0)) = true → (s_K8 (Q4m p1)) = true → Q1gj p0) ∧ ((s_K8 (Q4j p0)) = true → (s_K8 (Q4m p1)) = true → Q1gl (Qwr p0)) ∧ ((s_K8 (Q4j p0)) = true → (s_K8 (Q4m p1)) = true → Q1fs (Qwr p0) = ((Deployment.at p0), 0)) ∧ ((s_K8 (Q4j p0)) = true → (s_K8 (Q4m p1)) = true → Q1gi p1) ∧ ((s_K8 (Q4j p0)) = true → (s_K8 (Q4m p1)) = true → Q1gk (Qwq p1)) ∧ ((s_K8 (Q4j p0)) = true → (s_K8 (Q4m p1)) = true → Q1fr (Qwq p1) = ((Autoscaler.at p1), 0)) ∧ ((s_K8 (Q4j p0)) = true → (s_K8 (Q4m p1)) = true → (Qwr p0) = (Q4j p0)) ∧ ((s_K8 (Q4j p0)) = true → (s_K8 (Q4m p1)) = true → Qym (Qwr p0)) ∧ ((s_K8 (Q4j p0)) = true → (s_K8 (Q4m p1)) = true → (Qwq p1) = (Q4m p1)) ∧ ((s_K8 (Q4j p0)) = true → (s_K8 (Q4m p1)) = true → Qym (Qwq p1)) ∧ ((s_K8 (Q4j p0)) = true → (s_K8 (Q4m p1)) = true → Q1cl (Deployment.at p0)) ∧ ((s_K8 (Q4j p0)) = true → (s_K8 (Q4m p1)) = true → (Q4j (Deployment.at p0)) = (Q4j p0)) ∧ ((s_K8 (Q4j p0)) = true → (s_K8 (Q4m p1)) = true → Qym (Q4j (Deployment.at p0))) ∧ ((s_K8 (Q4j p0)) = true → (s_K8 (Q4m p1)) = true → Q1ck (Autoscaler.at p1)) ∧ ((s_K8 (Q4j p0)) = true → (s_K8 (Q4m p1)) = true → (Q4m (Autoscaler.at p1)) = (Q4m p1)) ∧ ((s_K8 (Q4j p0)) = true → (s_K8 (Q4m p1)) = true → Qym (Q4m (Autoscaler.at p1))) ∧ True
theorem t_K4 (p0 : Deployment) (p1 : Autoscaler) (H : H_K4 p0 p1) : Qd G (c_K4 p0 p1) (a_K4 p0 p1) := by
 unfold a_K4 s_K4
 cases h0 : (s_K8 (Q4j p0)) with
 | true =>
  cases h1 : (s_K8 (Q4m p1)) with
  | true =>
   exact Qj (fn := Ir.K4) rfl VOK.nil [] [aN (Q1iw p0 (H.1)), aN (Q1iv p1 (H.2.1)), aB (t_K8 (Q4j p0) (H.2.2.1)) h0, aB (t_K8 (Q4m p1) (H.2.2.2.1 h0)) h1, aN (Q1un p0 (H.2.2.2.2.1 h0 h1)), aN (toldOf (Q25x (Qwr p0) (H.2.2.2.2.2.1 h0 h1)) (congrArg (fun z : Deployment × Int => Rs.ret (.tup [.agg (Deployment.cells z.1), .int .i64 z.2]) []) (H.2.2.2.2.2.2.1 h0 h1))), aN (Q1um p1 (H.2.2.2.2.2.2.2.1 h0 h1)), aN (toldOf (Q25u (Qwq p1) (H.2.2.2.2.2.2.2.2.1 h0 h1)) (congrArg (fun z : Autoscaler × Int => Rs.ret (.tup [.agg (Autoscaler.cells z.1), .int .i64 z.2]) []) (H.2.2.2.2.2.2.2.2.2.1 h0 h1))), aN (Q1un p0 (H.2.2.2.2.1 h0 h1)), aN (Q8f (c := fun y => .call 17 [.agg (Object.cells (Qwr p0)), .agg (Object.cells y)] []) (H.2.2.2.2.2.2.2.2.2.2.1 h0 h1) (Q1it (Qwr p0) (H.2.2.2.2.2.2.2.2.2.2.2.1 h0 h1))), aN (Q1um p1 (H.2.2.2.2.2.2.2.1 h0 h1)), aN (Q8f (c := fun y => .call 17 [.agg (Object.cells (Qwq p1)), .agg (Object.cells y)] []) (H.2.2.2.2.2.2.2.2.2.2.2.2.1 h0 h1) (Q1it (Qwq p1) (H.2.2.2.2.2.2.2.2.2.2.2.2.2.1 h0 h1))), aN (Q1iw (Deployment.at p0) (H.2.2.2.2.2.2.2.2.2.2.2.2.2.2.1 h0 h1)), aN (Q8f (c := fun y => .call 17 [.agg (Object.cells (Q4j (Deployment.at p0))), .agg (Object.cells y)] []) (H.2.2.2.2.2.2.2.2.2.2.2.2.2.2.2.1 h0 h1) (Q1it (Q4j (Deployment.at p0)) (H.2.2.2.2.2.2.2.2.2.2.2.2.2.2.2.2.1 h0 h1))), aN (Q1iv (Autoscaler.at p1) (H.2.2.2.2.2.2.2.2.2.2.2.2.2.2.2.2.2.1 h0 h1)), aN (Q8f (c := fun y => .call 17 [.agg (Object.cells (Q4m (Autoscaler.at p1))), .agg (Object.cells y)] []) (H.2.2.2.2.2.2.2.2.2.2.2.2.2.2.2.2.2.2.1 h0 h1) (Q1it (Q4m (Autoscaler.at p1)) (H.2.2.2.2.2.2.2.2.2.2.2.2.2.2.2.2.2.2.2.1 h0 h1))), aN t_K6] (by kernel_rfl)
  | false =>
   exact Qj (fn := Ir.K4) rfl VOK.nil [] [aN (Q1iw p0 (H.1)), aN (Q1iv p1 (H.2.1)), aB (t_K8 (Q4j p0) (H.2.2.1)) h0, aB (t_K8 (Q4m p1) (H.2.2.2.1 h0)) h1, aN t_K6] (by kernel_rfl)
 | false =>
  exact Qj (fn := Ir.K4) rfl VOK.nil [] [aN (Q1iw p0 (H.1)), aN (Q1iv p1 (H.2.1)), aB (t_K8 (Q4j p0) (H.2.2.1)) h0, aN t_K6] (by kernel_rfl)
def tysWorkcodecScaled : List Ty := [Qc9, Qc8]
theorem pureWorkcodecScaled {N : Nat} (hp : ∀ (p0 : Deployment) (p1 : Autoscaler), Q91 p0 → Q8y p1 → (Q6t N) p0 → (Q6s N) p1 → H_K4 p0 p1 ∧ s_K4 p0 p1 = true) : ∀ qs, Q1ch Γ N tysWorkcodecScaled qs → ∃ n, runs G n (.call 3 qs []) = some (.ret (.bool true) []) := by
  intro qs h
  cases qs with
  | nil => cases h
  | cons q0 qs =>
  obtain ⟨h0, h⟩ := h
  cases qs with
  | nil => cases h
  | cons q1 qs =>
  obtain ⟨h1, h⟩ := h
  cases qs with
  | cons _ _ => cases h
  | nil =>
  obtain ⟨c0, rfl, g0, b0⟩ := h0.agg rfl
  obtain ⟨p0, rfl, k0⟩ := (Qim g0)
  obtain ⟨c1, rfl, g1, b1⟩ := h1.agg rfl
  obtain ⟨p1, rfl, k1⟩ := (Qik g1)
  have e := hp p0 p1 k0 k1 (Qf1 b0) (Qf0 b1)
  have t := t_K4 p0 p1 e.1
  unfold a_K4 at t
  rw [e.2] at t
  exact t
end Go.Proofs.YtimjjohlpnkacaaGreat
end

section
/- What is small by the reference's count; what is demanded of metadata and objects (printed by a program). -/
namespace Go.Proofs.YtimjjohlpnkacaaGreat
open Go.Pv
def cv : Qvh → Int
  | .k0 y => y
  | .k1 => -1
theorem Q154 (p : Val) (d : Int) (l : List Val) (i : Nat) {a : Int} (h : ¬ 0 ≤ a) : Q41 p d l i a = a := by
  cases l with
  | nil => rw [Q41]
  | cons x l => rw [Q41, show decide (0 ≤ a) = false by simpa using h, cond_false]
theorem Qvs (p : Val) (d : Int) (l : List Fld) (i : Nat) {a : Int} (h : ¬ 0 ≤ a) : cv (Q4d p d l i a) = a := by
  cases l with
  | nil => rw [Q4d]; rfl
  | cons x l => rw [Q4d, show decide (0 ≤ a) = false by simpa using h, cond_false]; rfl
def Q1ky (v : Val) : Prop := ∀ n d, n ≤ 1000 → 0 ≤ Q9p v n d → Val.Sm 1000 v ∧ Q9p v n d + 1 ≤ n
theorem Q155 (p : Val) (d : Int) : ∀ (l : List Val) (i : Nat) (a : Int), a ≤ 1000 → (∀ x ∈ l, Q1ky x) → 0 ≤ Q41 p d l i a → (∀ x ∈ l, Val.Sm 1000 x) ∧ Q41 p d l i a + (l.length : Int) ≤ a
  | [], i, a, _, _, _ => by
    rw [Q41]
    exact ⟨fun _ h => (by cases h), by simp⟩
  | x :: l, i, a, ha, hx, h => by
    by_cases c : 0 ≤ a
    · rw [Q41, show decide (0 ≤ a) = true by simpa using c, cond_true] at h ⊢
      have k : 0 ≤ Q9p x a (w64 (d - 1)) := by
        apply Decidable.byContradiction
        intro hn
        rw [Q154 p d l _ hn] at h
        exact hn h
      have h1 := hx x List.mem_cons_self a _ ha k
      have h2 := Q155 p d l (i + 1) _ (by omega) (fun y hy => hx y (List.mem_cons_of_mem _ hy)) h
      refine ⟨List.forall_mem_cons.2 ⟨h1.1, h2.1⟩, ?_⟩
      have := h1.2
      have := h2.2
      rw [List.length_cons]
      omega
    · rw [Q154 p d _ i c] at h
      exact absurd h c
theorem Q156 (p : Val) (d : Int) : ∀ (l : List Fld) (i : Nat) (a : Int), a ≤ 1000 → (∀ x ∈ l, Q1ky x.v) → 0 ≤ cv (Q4d p d l i a) → (∀ x ∈ l, Val.Sm 1000 x.v) ∧ cv (Q4d p d l i a) + (l.length : Int) ≤ a
  | [], i, a, _, _, _ => by
    rw [Q4d]
    exact ⟨fun _ h => (by cases h), by simp [cv]⟩
  | x :: l, i, a, ha, hx, h => by
    by_cases c : 0 ≤ a
    · rw [Q4d, show decide (0 ≤ a) = true by simpa using c, cond_true] at h ⊢
      cases e : decide (1000 < (ByteArray.size x.name : Int)) with
      | true =>
        rw [e] at h
        exact absurd (show (0 : Int) ≤ -1 from h) (by decide)
      | false =>
        rw [e, cond_false] at h
        rw [cond_false]
        have k : 0 ≤ Q9p x.v a (w64 (d - 1)) := by
          apply Decidable.byContradiction
          intro hn
          rw [Qvs p d l _ hn] at h
          exact hn h
        have h1 := hx x List.mem_cons_self a _ ha k
        have h2 := Q156 p d l (i + 1) _ (by omega) (fun y hy => hx y (List.mem_cons_of_mem _ hy)) h
        refine ⟨List.forall_mem_cons.2 ⟨h1.1, h2.1⟩, ?_⟩
        have := h1.2
        have := h2.2
        rw [List.length_cons]
        omega
    · rw [Qvs p d _ i c] at h
      exact absurd h c
theorem Q1gw : ∀ v, Q1ky v := vind fun v h1 h2 n d hn h => by
  rw [Q9p] at h ⊢
  cases c1 : decide (n ≤ 0) with
  | true => rw [c1] at h; exact absurd (show (0 : Int) ≤ -1 from h) (by decide)
  | false =>
    cases c2 : decide (d ≤ 0) with
    | true => rw [c1, c2] at h; exact absurd (show (0 : Int) ≤ -1 from h) (by decide)
    | false =>
      cases c3 : decide (1000 < (ByteArray.size v.s : Int)) with
      | true => rw [c1, c2, c3] at h; exact absurd (show (0 : Int) ≤ -1 from h) (by decide)
      | false =>
        have e1 := of_decide_eq_false c1
        rw [c1, c2, c3, cond_false, cond_false, cond_false, Q125 (by omega)] at h
        rw [cond_false, cond_false, cond_false, Q125 (by omega)]
        change 0 ≤ cv (Q4d v d v.fields 0 (Q41 v d v.list 0 (n - 1))) at h
        change _ ∧ cv (Q4d v d v.fields 0 (Q41 v d v.list 0 (n - 1))) + 1 ≤ n
        have k : 0 ≤ Q41 v d v.list 0 (n - 1) := by
          apply Decidable.byContradiction
          intro hn
          rw [Qvs v d _ _ hn] at h
          exact hn h
        have g0 := Q155 v d v.list 0 (n - 1) (by omega) h1 k
        have g1 := Q156 v d v.fields 0 _ (by have := g0.2; omega) h2 h
        have := g0.2
        have := g1.2
        exact ⟨.mk _ (by omega) (by omega) g0.1 g1.1, by omega⟩
theorem Q17b {v : Val} {n : Int} (hn : n ≤ 1000) (h : Qwp v n = true) : Val.Sm 1000 v := (Q1gw v n n hn (of_decide_eq_true h)).1
theorem Q16c {o : Object} (h : s_K8 o = true) : Val.Sm 1000 o.spec ∧ Val.Sm 1000 o.status := by
  unfold s_K8 at h
  cases c1 : decide (40 < ((List.length o.meta_.labels) : Int)) with
  | true => rw [c1] at h; cases h
  | false =>
    cases c2 : decide (40 < ((List.length o.meta_.owners) : Int)) with
    | true => rw [c1, c2] at h; cases h
    | false =>
      cases c3 : decide (40 < ((List.length o.meta_.finalizers) : Int)) with
      | true => rw [c1, c2, c3] at h; cases h
      | false =>
        cases c4 : decide (40 < ((List.length o.meta_.managers) : Int)) with
        | true => rw [c1, c2, c3, c4] at h; cases h
        | false =>
          rw [c1, c2, c3, c4, cond_false, cond_false, cond_false, cond_false] at h
          cases c5 : Qbm o o.meta_.managers 0 with
          | k1 => rw [c5] at h; cases h
          | k0 =>
            rw [c5] at h
            cases c6 : Qwp o.spec 900 with
            | false =>
              simp only [c6, cond_false] at h
              cases h
            | true =>
              simp only [c6, cond_true] at h
              exact ⟨Q17b (by decide) c6, Q17b (by decide) h⟩
theorem Q18n {m : Meta} (k : Q88 m) : Qtq m ∧ Q1lb m ∧ m.managers.length ≤ 4611686018427387904 := by
  obtain ⟨k1, k2, k3, _, _, _, _, _, _, kl, ko, kf, km⟩ := k
  have hl := kl.1
  have ho := ko.1
  have hf := kf.1
  have hm := km.1
  unfold okS at k1 k2 k3
  have hx : ∀ x ∈ m.managers, x.fields.length * 16 ≤ 140737488351232 := fun x hx => (km.2 x hx).2.1
  have e0 : (⟨#[47]⟩ : BA).size = 1 := rfl
  refine ⟨⟨by omega, by omega, by omega, by omega, ⟨by omega, fun x h => by have := hx x h; omega, trivial⟩, trivial⟩, ⟨⟨⟨?_, ?_, ?_, ?_, trivial⟩, trivial⟩, ⟨⟨by omega, trivial⟩, trivial⟩, ⟨by omega, trivial⟩, ⟨by omega, trivial⟩, ⟨by omega, fun x h => ⟨⟨by have := hx x h; omega, trivial⟩, trivial⟩, trivial⟩, trivial⟩, by omega⟩ <;>
  · simp only [ByteArray.size_append, e0]
    omega
theorem Q1kq {m : Meta} (k : Q88 m) (s : BA) (h : s.size ≤ 140737488351232) : Q88 { m with kind := s } := ⟨h, k.2⟩
theorem Q1kn {o : Object} (k : Q88 o.meta_) (g : Object.sm o) : H_K8 o := ⟨⟨(Q18n k).2.2, trivial⟩, ⟨g.1.mono (Nat.le_of_ble_eq_true rfl), trivial⟩, ⟨g.2.mono (Nat.le_of_ble_eq_true rfl), trivial⟩, trivial⟩
theorem Q1kj {o : Object} (k : Q88 o.meta_) (g : Object.sm o) : Qym o := ⟨(Q18n k).2.1, ⟨g.1.mono (Nat.le_of_ble_eq_true rfl), trivial⟩, ⟨g.2.mono (Nat.le_of_ble_eq_true rfl), trivial⟩, trivial⟩
def Q128 (x : Deployment) : Prop := Q1cl x ∧ H_K8 (Q4j x) ∧ Q1gj x ∧ Qym (Q4j x) ∧ Q1gl (Q4j x) ∧ (s_K8 (Q4j x) = true → Q1fs (Q4j x) = (Deployment.at x, 0))
theorem Deployment.facts {x : Deployment} (k : Q88 x.meta_) (a : Deployment.sm x) : Q128 x := by
  have m := Q1kq k Q7 (Nat.le_of_ble_eq_true rfl)
  have g : Object.sm (Deployment.obj x) := Deployment.Q1el a
  exact ⟨a, Q1kn (o := Deployment.obj x) m g, ⟨(Q18n k).1, a⟩, Q1kj (o := Deployment.obj x) m g, ⟨(Q18n m).1, g⟩, fun h => (Deployment.rc (o := Deployment.obj x) (Q16c h)).trans (Deployment.R_at x)⟩
def Q127 (x : Autoscaler) : Prop := Q1ck x ∧ H_K8 (Q4m x) ∧ Q1gi x ∧ Qym (Q4m x) ∧ Q1gk (Q4m x) ∧ (s_K8 (Q4m x) = true → Q1fr (Q4m x) = (Autoscaler.at x, 0))
theorem Autoscaler.facts {x : Autoscaler} (k : Q88 x.meta_) (a : Autoscaler.sm x) : Q127 x := by
  have m := Q1kq k Q6 (Nat.le_of_ble_eq_true rfl)
  have g : Object.sm (Autoscaler.obj x) := Autoscaler.Q1el a
  exact ⟨a, Q1kn (o := Autoscaler.obj x) m g, ⟨(Q18n k).1, a⟩, Q1kj (o := Autoscaler.obj x) m g, ⟨(Q18n m).1, g⟩, fun h => (Autoscaler.rc (o := Autoscaler.obj x) (Q16c h)).trans (Autoscaler.R_at x)⟩
end Go.Proofs.YtimjjohlpnkacaaGreat
end

section
/- The law WorkcodecScaled in plain words: what was encoded is decoded to what it was. -/
namespace Go.Proofs.YtimjjohlpnkacaaGreat
open Go.Pv
theorem lawScaled (p0 : Deployment) (p1 : Autoscaler) (k0 : Q91 p0) (k1 : Q8y p1) (c0 : Q6t 1048576 p0) (c1 : Q6s 1048576 p1) : H_K4 p0 p1 ∧ s_K4 p0 p1 = true := by
  have f0 := Deployment.facts k0.1 (Deployment.Q3d (Nat.le_of_ble_eq_true rfl) c0)
  have f1 := Autoscaler.facts k1.1 (Autoscaler.Q3d (Nat.le_of_ble_eq_true rfl) c1)
  refine ⟨?_, ?_⟩
  · unfold H_K4
    repeat' with_reducible apply And.intro
    all_goals first | exact True.intro | (intros; first | rfl | exact f0.1 | exact f0.2.1 | exact f0.2.2.1 | exact f0.2.2.2.1 | exact f0.2.2.2.2.1 | exact f0.2.2.2.2.2 (by assumption) | exact f1.1 | exact f1.2.1 | exact f1.2.2.1 | exact f1.2.2.2.1 | exact f1.2.2.2.2.1 | exact f1.2.2.2.2.2 (by assumption))
  · unfold s_K4
    cases s_K8 (Q4j p0) <;> cases s_K8 (Q4m p1)
    all_goals rfl
end Go.Proofs.YtimjjohlpnkacaaGreat
end

section
/- The library's comparison of two strings, walked: it answers as the evaluator's cmpL. -/
namespace Go.Proofs.YtimjjohlpnkacaaGreat
open Go.Pv
theorem cmpL_eq : ∀ (a b : List UInt8), cmpL a b = Lib.compareBytes a b
  | [], [] => rfl
  | [], _ :: _ => rfl
  | _ :: _, [] => rfl
  | a :: x, b :: y => by
    rw [Lib.compareBytes, ← cmpL_eq x y]
    rfl
set_option maxHeartbeats 1000000 in
set_option maxRecDepth 100000 in
theorem comparing (a b : BA) (w : World) :
    Calls Tryz.prog 221 #[.string a, .string b] w fun e w' => e = .returned (.int .i64 (Lib.compareBytes a.data.toList b.data.toList)) ∧ w' = w := by
  go_enter Tryz.func221, Tryz.ntmps221
  go_wp2
  rw [run_callFunc_extern Tryz.func255 (by kernel_rfl) (by kernel_rfl) (by kernel_rfl) (e := Extern.BytealgCompare.compare) (by kernel_rfl), Lib.run_compareString]
  simp only [Result.andThen]
  rw [Oper.upon_value]
  go_wp2
  go_ret
  exact ⟨rfl, rfl⟩
theorem cmpOK : Q1gf Tryz.prog 221 := by
  refine ⟨⟨_, Tryz.func221, by kernel_rfl, by kernel_rfl⟩, fun x y w => ?_⟩
  have h := comparing x y w
  rw [← cmpL_eq, ← toList_data, ← toList_data] at h
  exact h
end Go.Proofs.YtimjjohlpnkacaaGreat
end

section
/- What is of bounded bulk holds nothing longer. -/
namespace Go.Proofs.YtimjjohlpnkacaaGreat.bulks
open Go.Pv
theorem one_le {H : Type} (d : DataW H) : 1 ≤ Rows.uptoBulk d := by
  cases d with
  | lit l => cases l <;> simp [Rows.uptoBulk]
  | nil => simp [Rows.uptoBulk]
  | ptr d => simp [Rows.uptoBulk]
  | slice elems spare => simp [Rows.uptoBulk]
  | agg parts => simp [Rows.uptoBulk]
  | iface t d => simp [Rows.uptoBulk]
  | map entries => simp [Rows.uptoBulk]
  | held h => simp [Rows.uptoBulk]
theorem Q13b {H : Type} {d : DataW H} {l : List (DataW H)} (h : d ∈ l) : Rows.uptoBulk d ≤ Rows.uptoBulkAll l := by
  induction l with
  | nil => cases h
  | cons x r ih =>
    simp only [Rows.uptoBulkAll]
    rcases List.mem_cons.1 h with e | e
    · subst e; omega
    · have := ih e; omega
theorem length_le {H : Type} (l : List (DataW H)) : l.length ≤ Rows.uptoBulkAll l := by
  induction l with
  | nil => simp [Rows.uptoBulkAll]
  | cons x r ih => have := one_le x; simp only [Rows.uptoBulkAll, List.length_cons]; omega
theorem Q1d6 {H : Type} {N : Nat} : ∀ (k : Nat) (d : DataW H), Rows.uptoBulk d ≤ k → k ≤ N → CapD N d
  | 0, d, h, _ => by have := one_le d; omega
  | k + 1, d, h, hk => by
    cases d with
    | lit l => exact .lit l (fun b e => by subst e; simp only [Rows.uptoBulk] at h; omega)
    | nil => exact .nil
    | ptr d => exact .ptr d
    | slice elems spare =>
      simp only [Rows.uptoBulk] at h
      exact .slice elems spare (by have := length_le elems; omega) (fun z hz => Q1d6 k z (by have := Q13b hz; omega) (by omega))
    | agg parts =>
      simp only [Rows.uptoBulk] at h
      exact .agg parts (fun z hz => Q1d6 k z (by have := Q13b hz; omega) (by omega))
    | iface t d => exact .iface t d
    | map entries => exact .map entries
    | held x => exact .held x
theorem caps {H : Type} {ds gs : List (DataW H)} (hk : Rows.uptoSmall H (ds ++ gs) = true) : ∀ d ∈ ds, CapD 1048576 d := fun d hd =>
  Q1d6 1048576 d (Nat.le_trans (Q13b (List.mem_append_left _ hd)) (of_decide_eq_true hk)) (Nat.le_refl _)
end Go.Proofs.YtimjjohlpnkacaaGreat.bulks
end

