/- Texts of the claim, merged by a program; what the statement does not reach is left out. -/
import Derived.Test.YtimjjohlpnkacaaGreatBWorkcodecJobs6
import Derived.Lib.Strings
import Derived.Lib.Slices
import Derived.Lib.Walk
import Derived.Lib.Bytealg

section
/- What the reference's encoders compute (printed by a program). -/
namespace Go.Proofs.YtimjjohlpnkacaaGreat
open Go.Pv
def Qg (p0 : List Fld) (i0 : Nat) (v0_1 : List Fld) : Nat → Int → Int
 | 0, v1_0 => v1_0
 | k1 + 1, v1_0 =>
  bif (decide (v1_0 < ((List.length v0_1) : Int))) then
   bif (sLt (List.getD v0_1 (Int.toNat v1_0) zF).name (List.getD p0 i0 zF).name) then
    Qg p0 i0 v0_1 k1 (v1_0 + 1)
   else
    v1_0
  else
   v1_0
def Qvt (p0 : List Fld) (i0 : Nat) (v0_1 : List Fld) (v1_0 : Int) : List PV :=
  [.sl (Fld.rows p0), .un, .bx 0 0, .ms 1 6 0 (List.length v0_1), .int .i64 (i0 : Int), .int .i64 v1_0] ++ nuns 46
def Qhv (_p0 : List Fld) (_i0 : Nat) (v0_1 : List Fld) (_v1_0 : Int) : List Ob :=
  [⟨5, 0, true, [.int .i64 0, .int .i64 0, .str eB, .ms 2 5 0 0, .ms 3 6 0 0]⟩, ⟨6, 0, true, (Fld.rows v0_1).flatten⟩, ⟨5, 0, true, []⟩, ⟨6, 0, true, []⟩]
def Q8a (p0 : List Fld) (i0 : Nat) (v0_1 : List Fld) (v1_0 : Int) : En := .loop 0 Ir.Qja Ir.Q1gq (Qvt p0 i0 v0_1 v1_0) (Qhv p0 i0 v0_1 v1_0)
def Q7u (p0 : List Fld) (i0 : Nat) (v0_1 : List Fld) (q0 : Int) (z : Nat → PV) (_zo : Nat → List PV) : St :=
  ⟨[.sl (Fld.rows p0), z 1, .bx 0 0, .ms 1 6 0 (List.length v0_1), .int .i64 (i0 : Int), .int .i64 q0] ++ zr z 6 46, [(0, ⟨5, 0, true, [.int .i64 0, .int .i64 0, .str eB, .ms 2 5 0 0, .ms 3 6 0 0]⟩), (1, ⟨6, 0, true, (Fld.rows v0_1).flatten⟩), (2, ⟨5, 0, true, []⟩), (3, ⟨6, 0, true, []⟩)], 1092⟩
theorem Qtr (p0 : List Fld) (i0 : Nat) (v0_1 : List Fld) (v1_0 : Int) : VOK (Go.Pv.look (number 0 (Qhv p0 i0 v0_1 v1_0))) [(1, Fld.rows v0_1)] := (VOK.cons (show Seen _ _ from Q3i (ob := ⟨6, 0, true, (Fld.rows v0_1).flatten⟩) (Fld.Q7 v0_1 6 rfl)) VOK.nil)
def Qbx (p0 : List Fld) (i0 : Nat) (v0_1 : List Fld) (e : En) (q : Int) : Prop := ∃ z zo, Q5 G e (.st (.exit 2) (Q7u p0 i0 v0_1 q z zo))
theorem Qsx (p0 : List Fld) (i0 : Nat) (v0_1 : List Fld) {e e' : En} (h : ∀ r, Q5 G e r → Q5 G e' r) : ∀ q, Qbx p0 i0 v0_1 e q → Qbx p0 i0 v0_1 e' q
  | _, ⟨z, zo, hz⟩ => ⟨z, zo, h _ hz⟩
theorem Q170 (p0 : List Fld) (i0 : Nat) (v0_1 : List Fld) (v1_0 : Int) (ho1_0 : 0 ≤ v1_0) (_ho1_1 : v1_0 ≤ (List.length v0_1 : Int)) (ho1_2 : i0 < List.length p0) (ho1_3 : List.length (v0_1 : List Fld) ≤ 137438953472) (h0 : (decide (v1_0 < ((List.length v0_1) : Int))) = true) (h1 : (sLt (List.getD v0_1 (Int.toNat v1_0) zF).name (List.getD p0 i0 zF).name) = true) {r : Rs} (hr : Q5 G (Q8a p0 i0 v0_1 (v1_0 + 1)) r) : Q5 G (Q8a p0 i0 v0_1 v1_0) r := by
 have e0 := of_decide_eq_true h0
 exact Qd (Qtr p0 i0 v0_1 v1_0) (y := (Qvt p0 i0 v0_1 (v1_0 + 1), Qhv p0 i0 v0_1 (v1_0 + 1))) [hB 3 h0, hP 3 (Q4s 1 6 (List.length v0_1) v1_0 (Int.toNat v1_0) rfl (by omega) (by omega)), hP 1 (Qaf 1 6 0 true ((Fld.rows v0_1).flatten) (Fld.rows v0_1) 1 false (Int.toNat v1_0) 0 ((Int.toNat v1_0) * 6) (Fld.cells (List.getD v0_1 (Int.toNat v1_0) zF)) (.str (List.getD v0_1 (Int.toNat v1_0) zF).name) rfl rfl (Fld.Qe (Q50 v0_1 (Int.toNat v1_0) zF (by omega))) (Fld.Ql v0_1) (by decide) rfl), hP 2 (Q1hd 6 (Fld.rows p0) (i0 : Int) _ (by omega) (Fld.Qe (Q50 p0 (Int.toNat (i0 : Int)) zF (by omega))) rfl), hB 2 h1, hP 2 (w_ok (v1_0 + 1) (by omega))] [] (by kernel_rfl) hr
def Qpw (p0 : List Fld) (i0 : Nat) (v0_1 : List Fld) (v1_0 : Int) : List PV :=
  nuns 13 ++ [.int .i64 v1_0, .ms 1 6 0 (List.length v0_1), .int .i64 ((List.length v0_1) : Int), .bool true, .bool true, .ms 1 6 0 (List.length v0_1), .int .i64 v1_0, .bx 1 ((Int.toNat v1_0) * 6), .bx 1 ((Int.toNat v1_0) * 6), .str (List.getD v0_1 (Int.toNat v1_0) zF).name, .sl (Fld.rows p0), .int .i64 (i0 : Int), .rf [.str (List.getD p0 i0 zF).name, .int .i64 (List.getD p0 i0 zF).v.kind, .int .i64 (List.getD p0 i0 zF).v.n, .str (List.getD p0 i0 zF).v.s, .sl (Val.rows (List.getD p0 i0 zF).v.list), .sl (Fld.rows (List.getD p0 i0 zF).v.fields)], .rf [.str (List.getD p0 i0 zF).name, .int .i64 (List.getD p0 i0 zF).v.kind, .int .i64 (List.getD p0 i0 zF).v.n, .str (List.getD p0 i0 zF).v.s, .sl (Val.rows (List.getD p0 i0 zF).v.list), .sl (Fld.rows (List.getD p0 i0 zF).v.fields)], .str (List.getD p0 i0 zF).name, .bool false, .bool false]
def Qkw (_p0 : List Fld) (_i0 : Nat) (_v0_1 : List Fld) (_v1_0 : Int) : List (Nat × List PV) :=
  []
theorem Q195 (p0 : List Fld) (i0 : Nat) (v0_1 : List Fld) (v1_0 : Int) (ho1_0 : 0 ≤ v1_0) (_ho1_1 : v1_0 ≤ (List.length v0_1 : Int)) (ho1_2 : i0 < List.length p0) (ho1_3 : List.length (v0_1 : List Fld) ≤ 137438953472) (h0 : (decide (v1_0 < ((List.length v0_1) : Int))) = true) (h1 : (sLt (List.getD v0_1 (Int.toNat v1_0) zF).name (List.getD p0 i0 zF).name) = false) : Qbx p0 i0 v0_1 (Q8a p0 i0 v0_1 v1_0) v1_0 := by
 have e0 := of_decide_eq_true h0
 exact ⟨(envF (Qpw p0 i0 v0_1 v1_0)), (zoF (Qkw p0 i0 v0_1 v1_0)), Qj (Qtr p0 i0 v0_1 v1_0) (x := ((.exit 2), Q7u p0 i0 v0_1 v1_0 (envF (Qpw p0 i0 v0_1 v1_0)) (zoF (Qkw p0 i0 v0_1 v1_0)))) [hB 3 h0, hP 3 (Q4s 1 6 (List.length v0_1) v1_0 (Int.toNat v1_0) rfl (by omega) (by omega)), hP 1 (Qaf 1 6 0 true ((Fld.rows v0_1).flatten) (Fld.rows v0_1) 1 false (Int.toNat v1_0) 0 ((Int.toNat v1_0) * 6) (Fld.cells (List.getD v0_1 (Int.toNat v1_0) zF)) (.str (List.getD v0_1 (Int.toNat v1_0) zF).name) rfl rfl (Fld.Qe (Q50 v0_1 (Int.toNat v1_0) zF (by omega))) (Fld.Ql v0_1) (by decide) rfl), hP 2 (Q1hd 6 (Fld.rows p0) (i0 : Int) _ (by omega) (Fld.Qe (Q50 p0 (Int.toNat (i0 : Int)) zF (by omega))) rfl), hB 2 h1] [] (by kernel_rfl)⟩
def Qpx (_p0 : List Fld) (_i0 : Nat) (v0_1 : List Fld) (v1_0 : Int) : List PV :=
  nuns 13 ++ [.int .i64 v1_0, .ms 1 6 0 (List.length v0_1), .int .i64 ((List.length v0_1) : Int), .bool false, .bool false, .tup [], .tup [], .tup [], .tup [], .tup [], .tup [], .tup [], .tup [], .tup [], .tup [], .tup [], .bool false]
def Qkx (_p0 : List Fld) (_i0 : Nat) (_v0_1 : List Fld) (_v1_0 : Int) : List (Nat × List PV) :=
  []
theorem Q196 (p0 : List Fld) (i0 : Nat) (v0_1 : List Fld) (v1_0 : Int) (_ho1_0 : 0 ≤ v1_0) (_ho1_1 : v1_0 ≤ (List.length v0_1 : Int)) (_ho1_2 : i0 < List.length p0) (_ho1_3 : List.length (v0_1 : List Fld) ≤ 137438953472) (h0 : (decide (v1_0 < ((List.length v0_1) : Int))) = false) : Qbx p0 i0 v0_1 (Q8a p0 i0 v0_1 v1_0) v1_0 := by
 exact ⟨(envF (Qpx p0 i0 v0_1 v1_0)), (zoF (Qkx p0 i0 v0_1 v1_0)), Qj (Qtr p0 i0 v0_1 v1_0) (x := ((.exit 2), Q7u p0 i0 v0_1 v1_0 (envF (Qpx p0 i0 v0_1 v1_0)) (zoF (Qkx p0 i0 v0_1 v1_0)))) [hB 3 h0] [] (by kernel_rfl)⟩
theorem Qyx (p0 : List Fld) (i0 : Nat) (v0_1 : List Fld) : ∀ (k1 : Nat) (v1_0 : Int), 0 ≤ v1_0 → v1_0 ≤ (List.length v0_1 : Int) → i0 < List.length p0 → List.length (v0_1 : List Fld) ≤ 137438953472 → Int.toNat ((List.length v0_1 : Int) - v1_0) < k1 → Qbx p0 i0 v0_1 (Q8a p0 i0 v0_1 v1_0) (Qg p0 i0 v0_1 k1 v1_0)
 | 0, v1_0, _, _, _, _, hm => absurd hm (Nat.not_lt_zero _)
 | k1 + 1, v1_0, ho1_0, ho1_1, ho1_2, ho1_3, hm => by
  rw [Qg]
  cases h0 : (decide (v1_0 < ((List.length v0_1) : Int))) with
  | true =>
   have e0 := of_decide_eq_true h0
   cases h1 : (sLt (List.getD v0_1 (Int.toNat v1_0) zF).name (List.getD p0 i0 zF).name) with
   | true =>
    exact Qsx p0 i0 v0_1 (fun r hr => Q170 p0 i0 v0_1 v1_0 ho1_0 ho1_1 ho1_2 ho1_3 h0 h1 hr) _ (Qyx p0 i0 v0_1 k1 (v1_0 + 1) (by omega) (by omega) (by omega) (by omega) (by omega))
   | false =>
    exact Q195 p0 i0 v0_1 v1_0 ho1_0 ho1_1 ho1_2 ho1_3 h0 h1
  | false =>
   exact Q196 p0 i0 v0_1 v1_0 ho1_0 ho1_1 ho1_2 ho1_3 h0
theorem Q3a (p0 : List Fld) (i0 : Nat) (v0_1 : List Fld) : ∀ (k1 : Nat) (v1_0 : Int), 0 ≤ v1_0 → v1_0 ≤ (List.length v0_1 : Int) → i0 < List.length p0 → List.length (v0_1 : List Fld) ≤ 137438953472 → Int.toNat ((List.length v0_1 : Int) - v1_0) < k1 → 0 ≤ (Qg p0 i0 v0_1 k1 v1_0) ∧ (Qg p0 i0 v0_1 k1 v1_0) ≤ (List.length v0_1 : Int)
 | 0, v1_0, _, _, _, _, hm => absurd hm (Nat.not_lt_zero _)
 | k1 + 1, v1_0, ho1_0, ho1_1, ho1_2, ho1_3, hm => by
  rw [Qg]
  cases h0 : (decide (v1_0 < ((List.length v0_1) : Int))) with
  | true =>
   have e0 := of_decide_eq_true h0
   cases h1 : (sLt (List.getD v0_1 (Int.toNat v1_0) zF).name (List.getD p0 i0 zF).name) with
   | true =>
    exact Q3a p0 i0 v0_1 k1 (v1_0 + 1) (by omega) (by omega) (by omega) (by omega) (by omega)
   | false =>
    exact (show 0 ≤ v1_0 ∧ v1_0 ≤ (List.length v0_1 : Int) from ⟨(by omega), (by omega)⟩)
  | false =>
   have e0 := of_decide_eq_false h0
   exact (show 0 ≤ v1_0 ∧ v1_0 ≤ (List.length v0_1 : Int) from ⟨(by omega), (by omega)⟩)
def Q6p (p0 : List Fld) : List Fld → Nat → (List Fld) → List Fld
 | [], _i0, v0_1 =>
  v0_1
 | x0 :: r0, i0, v0_1 =>
  bif ((Int.toNat (Qg p0 i0 v0_1 ((Int.toNat ((List.length v0_1 : Int) - 0)) + 1) 0)) == 0) then
   Q6p p0 r0 (i0 + 1) ([x0] ++ (List.take ((List.length v0_1) - (Int.toNat (Qg p0 i0 v0_1 ((Int.toNat ((List.length v0_1 : Int) - 0)) + 1) 0))) (List.drop (Int.toNat (Qg p0 i0 v0_1 ((Int.toNat ((List.length v0_1 : Int) - 0)) + 1) 0)) v0_1)))
  else
   Q6p p0 r0 (i0 + 1) (((List.take (Int.toNat (Qg p0 i0 v0_1 ((Int.toNat ((List.length v0_1 : Int) - 0)) + 1) 0)) v0_1) ++ [x0]) ++ (List.take ((List.length v0_1) - (Int.toNat (Qg p0 i0 v0_1 ((Int.toNat ((List.length v0_1 : Int) - 0)) + 1) 0))) (List.drop (Int.toNat (Qg p0 i0 v0_1 ((Int.toNat ((List.length v0_1 : Int) - 0)) + 1) 0)) v0_1)))
def Qhf (p0 : List Fld) (i0 : Nat) (v0_1 : List Fld) : List PV :=
  [.sl (Fld.rows p0), .un, .bx 0 0, .ms 1 6 0 (List.length v0_1), .int .i64 (i0 : Int)] ++ nuns 47
def Qbm (_p0 : List Fld) (_i0 : Nat) (v0_1 : List Fld) : List Ob :=
  [⟨5, 0, true, [.int .i64 0, .int .i64 0, .str eB, .ms 2 5 0 0, .ms 3 6 0 0]⟩, ⟨6, 0, true, (Fld.rows v0_1).flatten⟩, ⟨5, 0, true, []⟩, ⟨6, 0, true, []⟩]
def Q9q (p0 : List Fld) (i0 : Nat) (v0_1 : List Fld) : En := .loop 0 Ir.Qj9 Ir.Q1gp (Qhf p0 i0 v0_1) (Qbm p0 i0 v0_1)
def Qoa (_p0 : List Fld) (q0 : List Fld) (z : Nat → PV) (_zo : Nat → List PV) : St :=
  ⟨[z 0, z 1, .bx 0 0, .ms 1 6 0 (List.length q0)] ++ zr z 4 48, [(0, ⟨5, 0, true, [.int .i64 0, .int .i64 0, .str eB, .ms 2 5 0 0, .ms 3 6 0 0]⟩), (1, ⟨6, 0, true, (Fld.rows q0).flatten⟩), (2, ⟨5, 0, true, []⟩), (3, ⟨6, 0, true, []⟩)], 260⟩
theorem Qtq (p0 : List Fld) (i0 : Nat) (v0_1 : List Fld) : VOK (Go.Pv.look (number 0 (Qbm p0 i0 v0_1))) [(1, Fld.rows v0_1)] := (VOK.cons (show Seen _ _ from Q3i (ob := ⟨6, 0, true, (Fld.rows v0_1).flatten⟩) (Fld.Q7 v0_1 6 rfl)) VOK.nil)
def Qgo (p0 : List Fld) (e : En) (q : List Fld) : Prop := ∃ z zo, Q5 G e (.st (.exit 0) (Qoa p0 q z zo))
theorem Qbw (p0 : List Fld) {e e' : En} (h : ∀ r, Q5 G e r → Q5 G e' r) : ∀ q, Qgo p0 e q → Qgo p0 e' q
  | _, ⟨z, zo, hz⟩ => ⟨z, zo, h _ hz⟩
def Qbq (p0 : List Fld) : Prop := (List.length p0 ≤ 137438953472) ∧ (∀ (i0 : Nat) (v0_1 : List Fld) (x0 : Fld), p0[i0]? = some x0 → List.length v0_1 ≤ i0 → List.length (v0_1 : List Fld) ≤ i0 → ((Int.toNat (Qg p0 i0 v0_1 ((Int.toNat ((List.length v0_1 : Int) - 0)) + 1) 0)) == 0) = false → ((List.length (List.take (Int.toNat (Qg p0 i0 v0_1 ((Int.toNat ((List.length v0_1 : Int) - 0)) + 1) 0)) v0_1)) + 1) * 96 ≤ 140737488355328) ∧ (∀ (i0 : Nat) (v0_1 : List Fld) (x0 : Fld), p0[i0]? = some x0 → List.length v0_1 ≤ i0 → List.length (v0_1 : List Fld) ≤ i0 → ((Int.toNat (Qg p0 i0 v0_1 ((Int.toNat ((List.length v0_1 : Int) - 0)) + 1) 0)) == 0) = true → List.length (([x0] ++ (List.take ((List.length v0_1) - (Int.toNat (Qg p0 i0 v0_1 ((Int.toNat ((List.length v0_1 : Int) - 0)) + 1) 0))) (List.drop (Int.toNat (Qg p0 i0 v0_1 ((Int.toNat ((List.length v0_1 : Int) - 0)) + 1) 0)) v0_1))) : List Fld) ≤ (i0 + 1)) ∧ (∀ (i0 : Nat) (v0_1 : List Fld) (x0 : Fld), p0[i0]? = some x0 → List.length v0_1 ≤ i0 → List.length (v0_1 : List Fld) ≤ i0 → ((Int.toNat (Qg p0 i0 v0_1 ((Int.toNat ((List.length v0_1 : Int) - 0)) + 1) 0)) == 0) = false → List.length ((((List.take (Int.toNat (Qg p0 i0 v0_1 ((Int.toNat ((List.length v0_1 : Int) - 0)) + 1) 0)) v0_1) ++ [x0]) ++ (List.take ((List.length v0_1) - (Int.toNat (Qg p0 i0 v0_1 ((Int.toNat ((List.length v0_1 : Int) - 0)) + 1) 0))) (List.drop (Int.toNat (Qg p0 i0 v0_1 ((Int.toNat ((List.length v0_1 : Int) - 0)) + 1) 0)) v0_1))) : List Fld) ≤ (i0 + 1)) ∧ True
def Qpv (p0 : List Fld) (i0 : Nat) (_v0_1 : List Fld) : List PV :=
  [.sl (Fld.rows p0), .un, .un, .un, .int .i64 (i0 : Int), .un, .un, .int .i64 (i0 : Int), .sl (Fld.rows p0), .int .i64 ((List.length p0) : Int), .bool false]
def Qkv (_p0 : List Fld) (_i0 : Nat) (_v0_1 : List Fld) : List (Nat × List PV) :=
  []
theorem Q194 (p0 : List Fld) (_H : Qbq p0) (i0 : Nat) (v0_1 : List Fld) (_ho0_0 : List.length v0_1 ≤ i0) (_ho0_1 : List.length (v0_1 : List Fld) ≤ i0) (hc0 : (decide ((i0 : Int) < ((List.length p0) : Int))) = false) : Qgo p0 (Q9q p0 i0 v0_1) v0_1 := by
 exact ⟨(envF (Qpv p0 i0 v0_1)), (zoF (Qkv p0 i0 v0_1)), Qj (Qtq p0 i0 v0_1) (x := ((.exit 0), Qoa p0 v0_1 (envF (Qpv p0 i0 v0_1)) (zoF (Qkv p0 i0 v0_1)))) [hP 2 (Qw (Fld.rows p0) (List.length p0) (Fld.Q0 p0)), hB 0 hc0] [] (by kernel_rfl)⟩
theorem Q16y (p0 : List Fld) (H : Qbq p0) (x0 : Fld) (i0 : Nat) (v0_1 : List Fld) (hx0 : p0[i0]? = some x0) (hi0 : i0 < List.length p0) (ho0_0 : List.length v0_1 ≤ i0) (_ho0_1 : List.length (v0_1 : List Fld) ≤ i0) (hc0 : (decide ((i0 : Int) < ((List.length p0) : Int))) = true) (z0 : Nat → PV) (zo0 : Nat → List PV) (hl0 : Q5 G (Q8a p0 i0 v0_1 0) (.st (.exit 2) (Q7u p0 i0 v0_1 (Qg p0 i0 v0_1 ((Int.toNat ((List.length v0_1 : Int) - 0)) + 1) 0) z0 zo0))) (h0 : ((Int.toNat (Qg p0 i0 v0_1 ((Int.toNat ((List.length v0_1 : Int) - 0)) + 1) 0)) == 0) = true) {r : Rs} (hr : Q5 G (Q9q p0 (i0 + 1) ([x0] ++ (List.take ((List.length v0_1) - (Int.toNat (Qg p0 i0 v0_1 ((Int.toNat ((List.length v0_1 : Int) - 0)) + 1) 0))) (List.drop (Int.toNat (Qg p0 i0 v0_1 ((Int.toNat ((List.length v0_1 : Int) - 0)) + 1) 0)) v0_1)))) r) : Q5 G (Q9q p0 i0 v0_1) r := by
 have hB0 := H.1; have e0 := eq_of_beq h0
 exact Qd (Qtq p0 i0 v0_1) (y := (Qhf p0 (i0 + 1) ([x0] ++ (List.take ((List.length v0_1) - (Int.toNat (Qg p0 i0 v0_1 ((Int.toNat ((List.length v0_1 : Int) - 0)) + 1) 0))) (List.drop (Int.toNat (Qg p0 i0 v0_1 ((Int.toNat ((List.length v0_1 : Int) - 0)) + 1) 0)) v0_1))), Qbm p0 (i0 + 1) ([x0] ++ (List.take ((List.length v0_1) - (Int.toNat (Qg p0 i0 v0_1 ((Int.toNat ((List.length v0_1 : Int) - 0)) + 1) 0))) (List.drop (Int.toNat (Qg p0 i0 v0_1 ((Int.toNat ((List.length v0_1 : Int) - 0)) + 1) 0)) v0_1))))) [hP 2 (Qw (Fld.rows p0) (List.length p0) (Fld.Q0 p0)), hB 0 hc0, hS 0 true (Fld.Q7 v0_1 6 rfl), hP 5 (Q14u 1 6 (List.length v0_1) (Qg p0 i0 v0_1 ((Int.toNat ((List.length v0_1 : Int) - 0)) + 1) 0) (by have g0 := Q3a p0 i0 v0_1 ((Int.toNat ((List.length v0_1 : Int) - 0)) + 1) 0 (by omega) (by omega) (by omega) (by omega) (by omega); omega) (by have g0 := Q3a p0 i0 v0_1 ((Int.toNat ((List.length v0_1 : Int) - 0)) + 1) 0 (by omega) (by omega) (by omega) (by omega) (by omega); omega)), hP 0 (Q1du 1 1412 6 96 0 true (Fld.rows v0_1) 0 (Int.toNat (Qg p0 i0 v0_1 ((Int.toNat ((List.length v0_1 : Int) - 0)) + 1) 0)) (Fld.Ql v0_1) (by rw [Fld.Q0]; exact (by have g0 := Q3a p0 i0 v0_1 ((Int.toNat ((List.length v0_1 : Int) - 0)) + 1) 0 (by omega) (by omega) (by omega) (by omega) (by omega); omega)) (eq_of_beq h0)), hP 4 (Q2g 6 (Fld.rows p0) i0 _ (Fld.Qe hx0) rfl), hP 7 (Q130 1 6 (List.length v0_1) (Qg p0 i0 v0_1 ((Int.toNat ((List.length v0_1 : Int) - 0)) + 1) 0) (by have g0 := Q3a p0 i0 v0_1 ((Int.toNat ((List.length v0_1 : Int) - 0)) + 1) 0 (by omega) (by omega) (by omega) (by omega) (by omega); omega) (by have g0 := Q3a p0 i0 v0_1 ((Int.toNat ((List.length v0_1 : Int) - 0)) + 1) 0 (by omega) (by omega) (by omega) (by omega) (by omega); omega)), hV 0 [(2308, Fld.rows ([x0] ++ (List.take ((List.length v0_1) - (Int.toNat (Qg p0 i0 v0_1 ((Int.toNat ((List.length v0_1 : Int) - 0)) + 1) 0))) (List.drop (Int.toNat (Qg p0 i0 v0_1 ((Int.toNat ((List.length v0_1 : Int) - 0)) + 1) 0)) v0_1))))] (Q1ad 1924 1 2308 6 96 0 [.str x0.name, .int .i64 x0.v.kind, .int .i64 x0.v.n, .str x0.v.s, .sl (Val.rows x0.v.list), .sl (Fld.rows x0.v.fields)] (Fld.rows [x0]) 0 true (Fld.rows v0_1) (Fld.rows ([x0] ++ (List.take ((List.length v0_1) - (Int.toNat (Qg p0 i0 v0_1 ((Int.toNat ((List.length v0_1 : Int) - 0)) + 1) 0))) (List.drop (Int.toNat (Qg p0 i0 v0_1 ((Int.toNat ((List.length v0_1 : Int) - 0)) + 1) 0)) v0_1)))) 1 (Int.toNat (Qg p0 i0 v0_1 ((Int.toNat ((List.length v0_1 : Int) - 0)) + 1) 0)) ((List.length v0_1) - (Int.toNat (Qg p0 i0 v0_1 ((Int.toNat ((List.length v0_1 : Int) - 0)) + 1) 0))) (List.length ([x0] ++ (List.take ((List.length v0_1) - (Int.toNat (Qg p0 i0 v0_1 ((Int.toNat ((List.length v0_1 : Int) - 0)) + 1) 0))) (List.drop (Int.toNat (Qg p0 i0 v0_1 ((Int.toNat ((List.length v0_1 : Int) - 0)) + 1) 0)) v0_1)))) rfl (by simp only [Fld.Q12, Fld.Q1n]; rfl) (Fld.Q0 [x0]).symm (Fld.Q0 ([x0] ++ (List.take ((List.length v0_1) - (Int.toNat (Qg p0 i0 v0_1 ((Int.toNat ((List.length v0_1 : Int) - 0)) + 1) 0))) (List.drop (Int.toNat (Qg p0 i0 v0_1 ((Int.toNat ((List.length v0_1 : Int) - 0)) + 1) 0)) v0_1)))).symm (by rw [Fld.Q115, Fld.Qhb, Fld.Quq]) (Fld.Ql [x0]) (Fld.Ql v0_1) (by rw [Fld.Q0]; exact (by have g0 := Q3a p0 i0 v0_1 ((Int.toNat ((List.length v0_1 : Int) - 0)) + 1) 0 (by omega) (by omega) (by omega) (by omega) (by omega); omega)) (by have g0 := Q3a p0 i0 v0_1 ((Int.toNat ((List.length v0_1 : Int) - 0)) + 1) 0 (by omega) (by omega) (by omega) (by omega) (by omega); omega)), hS 0 true (Fld.Q7 ([x0] ++ (List.take ((List.length v0_1) - (Int.toNat (Qg p0 i0 v0_1 ((Int.toNat ((List.length v0_1 : Int) - 0)) + 1) 0))) (List.drop (Int.toNat (Qg p0 i0 v0_1 ((Int.toNat ((List.length v0_1 : Int) - 0)) + 1) 0)) v0_1))) 6 rfl), hP 4 (Q28 i0 (by omega))] [aV [(1, Fld.rows v0_1)] hl0] (by kernel_rfl) hr
theorem Q16z (p0 : List Fld) (H : Qbq p0) (x0 : Fld) (i0 : Nat) (v0_1 : List Fld) (hx0 : p0[i0]? = some x0) (hi0 : i0 < List.length p0) (ho0_0 : List.length v0_1 ≤ i0) (ho0_1 : List.length (v0_1 : List Fld) ≤ i0) (hc0 : (decide ((i0 : Int) < ((List.length p0) : Int))) = true) (z0 : Nat → PV) (zo0 : Nat → List PV) (hl0 : Q5 G (Q8a p0 i0 v0_1 0) (.st (.exit 2) (Q7u p0 i0 v0_1 (Qg p0 i0 v0_1 ((Int.toNat ((List.length v0_1 : Int) - 0)) + 1) 0) z0 zo0))) (h0 : ((Int.toNat (Qg p0 i0 v0_1 ((Int.toNat ((List.length v0_1 : Int) - 0)) + 1) 0)) == 0) = false) {r : Rs} (hr : Q5 G (Q9q p0 (i0 + 1) (((List.take (Int.toNat (Qg p0 i0 v0_1 ((Int.toNat ((List.length v0_1 : Int) - 0)) + 1) 0)) v0_1) ++ [x0]) ++ (List.take ((List.length v0_1) - (Int.toNat (Qg p0 i0 v0_1 ((Int.toNat ((List.length v0_1 : Int) - 0)) + 1) 0))) (List.drop (Int.toNat (Qg p0 i0 v0_1 ((Int.toNat ((List.length v0_1 : Int) - 0)) + 1) 0)) v0_1)))) r) : Q5 G (Q9q p0 i0 v0_1) r := by
 have hB0 := H.1; have e0 := beq_eq_false_iff_ne.1 h0
 exact Qd (Qtq p0 i0 v0_1) (y := (Qhf p0 (i0 + 1) (((List.take (Int.toNat (Qg p0 i0 v0_1 ((Int.toNat ((List.length v0_1 : Int) - 0)) + 1) 0)) v0_1) ++ [x0]) ++ (List.take ((List.length v0_1) - (Int.toNat (Qg p0 i0 v0_1 ((Int.toNat ((List.length v0_1 : Int) - 0)) + 1) 0))) (List.drop (Int.toNat (Qg p0 i0 v0_1 ((Int.toNat ((List.length v0_1 : Int) - 0)) + 1) 0)) v0_1))), Qbm p0 (i0 + 1) (((List.take (Int.toNat (Qg p0 i0 v0_1 ((Int.toNat ((List.length v0_1 : Int) - 0)) + 1) 0)) v0_1) ++ [x0]) ++ (List.take ((List.length v0_1) - (Int.toNat (Qg p0 i0 v0_1 ((Int.toNat ((List.length v0_1 : Int) - 0)) + 1) 0))) (List.drop (Int.toNat (Qg p0 i0 v0_1 ((Int.toNat ((List.length v0_1 : Int) - 0)) + 1) 0)) v0_1))))) [hP 2 (Qw (Fld.rows p0) (List.length p0) (Fld.Q0 p0)), hB 0 hc0, hS 0 true (Fld.Q7 v0_1 6 rfl), hP 5 (Q14u 1 6 (List.length v0_1) (Qg p0 i0 v0_1 ((Int.toNat ((List.length v0_1 : Int) - 0)) + 1) 0) (by have g0 := Q3a p0 i0 v0_1 ((Int.toNat ((List.length v0_1 : Int) - 0)) + 1) 0 (by omega) (by omega) (by omega) (by omega) (by omega); omega) (by have g0 := Q3a p0 i0 v0_1 ((Int.toNat ((List.length v0_1 : Int) - 0)) + 1) 0 (by omega) (by omega) (by omega) (by omega) (by omega); omega)), hV 0 [(1412, Fld.rows (List.take (Int.toNat (Qg p0 i0 v0_1 ((Int.toNat ((List.length v0_1 : Int) - 0)) + 1) 0)) v0_1))] (Q1q6 1 1412 6 96 0 true (Fld.rows v0_1) (Fld.rows (List.take (Int.toNat (Qg p0 i0 v0_1 ((Int.toNat ((List.length v0_1 : Int) - 0)) + 1) 0)) v0_1)) 0 (Int.toNat (Qg p0 i0 v0_1 ((Int.toNat ((List.length v0_1 : Int) - 0)) + 1) 0)) (List.length (List.take (Int.toNat (Qg p0 i0 v0_1 ((Int.toNat ((List.length v0_1 : Int) - 0)) + 1) 0)) v0_1)) (Fld.Ql v0_1) (by rw [Fld.Q0]; exact (by have g0 := Q3a p0 i0 v0_1 ((Int.toNat ((List.length v0_1 : Int) - 0)) + 1) 0 (by omega) (by omega) (by omega) (by omega) (by omega); omega)) (beq_eq_false_iff_ne.1 h0) (by rw [Fld.Qhb]; rfl) (by have g0 := Q3a p0 i0 v0_1 ((Int.toNat ((List.length v0_1 : Int) - 0)) + 1) 0 (by omega) (by omega) (by omega) (by omega) (by omega); try simp only [List.length_take]; omega) (by have g0 := Q3a p0 i0 v0_1 ((Int.toNat ((List.length v0_1 : Int) - 0)) + 1) 0 (by omega) (by omega) (by omega) (by omega) (by omega); omega)), hS 0 true (Fld.Q7 (List.take (Int.toNat (Qg p0 i0 v0_1 ((Int.toNat ((List.length v0_1 : Int) - 0)) + 1) 0)) v0_1) 6 rfl), hP 4 (Q2g 6 (Fld.rows p0) i0 _ (Fld.Qe hx0) rfl), hV 2 [(1924, Fld.rows ((List.take (Int.toNat (Qg p0 i0 v0_1 ((Int.toNat ((List.length v0_1 : Int) - 0)) + 1) 0)) v0_1) ++ [x0]))] (Q3x 1412 1860 1924 6 96 0 0 true (Fld.rows (List.take (Int.toNat (Qg p0 i0 v0_1 ((Int.toNat ((List.length v0_1 : Int) - 0)) + 1) 0)) v0_1)) (Fld.rows ((List.take (Int.toNat (Qg p0 i0 v0_1 ((Int.toNat ((List.length v0_1 : Int) - 0)) + 1) 0)) v0_1) ++ [x0])) (Fld.cells x0) (List.length (List.take (Int.toNat (Qg p0 i0 v0_1 ((Int.toNat ((List.length v0_1 : Int) - 0)) + 1) 0)) v0_1)) (List.length ((List.take (Int.toNat (Qg p0 i0 v0_1 ((Int.toNat ((List.length v0_1 : Int) - 0)) + 1) 0)) v0_1) ++ [x0])) rfl (Fld.Q0 (List.take (Int.toNat (Qg p0 i0 v0_1 ((Int.toNat ((List.length v0_1 : Int) - 0)) + 1) 0)) v0_1)).symm (Fld.Q0 ((List.take (Int.toNat (Qg p0 i0 v0_1 ((Int.toNat ((List.length v0_1 : Int) - 0)) + 1) 0)) v0_1) ++ [x0])).symm (Fld.Q1q (List.take (Int.toNat (Qg p0 i0 v0_1 ((Int.toNat ((List.length v0_1 : Int) - 0)) + 1) 0)) v0_1) x0) (Fld.Ql (List.take (Int.toNat (Qg p0 i0 v0_1 ((Int.toNat ((List.length v0_1 : Int) - 0)) + 1) 0)) v0_1)) rfl ((H.2.1 i0 v0_1 x0 hx0 ho0_0 ho0_1) h0)), hS 0 true (Fld.Q7 ((List.take (Int.toNat (Qg p0 i0 v0_1 ((Int.toNat ((List.length v0_1 : Int) - 0)) + 1) 0)) v0_1) ++ [x0]) 6 rfl), hP 4 (Q130 1 6 (List.length v0_1) (Qg p0 i0 v0_1 ((Int.toNat ((List.length v0_1 : Int) - 0)) + 1) 0) (by have g0 := Q3a p0 i0 v0_1 ((Int.toNat ((List.length v0_1 : Int) - 0)) + 1) 0 (by omega) (by omega) (by omega) (by omega) (by omega); omega) (by have g0 := Q3a p0 i0 v0_1 ((Int.toNat ((List.length v0_1 : Int) - 0)) + 1) 0 (by omega) (by omega) (by omega) (by omega) (by omega); omega)), hV 0 [(2308, Fld.rows (((List.take (Int.toNat (Qg p0 i0 v0_1 ((Int.toNat ((List.length v0_1 : Int) - 0)) + 1) 0)) v0_1) ++ [x0]) ++ (List.take ((List.length v0_1) - (Int.toNat (Qg p0 i0 v0_1 ((Int.toNat ((List.length v0_1 : Int) - 0)) + 1) 0))) (List.drop (Int.toNat (Qg p0 i0 v0_1 ((Int.toNat ((List.length v0_1 : Int) - 0)) + 1) 0)) v0_1))))] (Q1ad 1924 1 2308 6 96 0 ((Fld.rows ((List.take (Int.toNat (Qg p0 i0 v0_1 ((Int.toNat ((List.length v0_1 : Int) - 0)) + 1) 0)) v0_1) ++ [x0])).flatten) (Fld.rows ((List.take (Int.toNat (Qg p0 i0 v0_1 ((Int.toNat ((List.length v0_1 : Int) - 0)) + 1) 0)) v0_1) ++ [x0])) 0 true (Fld.rows v0_1) (Fld.rows (((List.take (Int.toNat (Qg p0 i0 v0_1 ((Int.toNat ((List.length v0_1 : Int) - 0)) + 1) 0)) v0_1) ++ [x0]) ++ (List.take ((List.length v0_1) - (Int.toNat (Qg p0 i0 v0_1 ((Int.toNat ((List.length v0_1 : Int) - 0)) + 1) 0))) (List.drop (Int.toNat (Qg p0 i0 v0_1 ((Int.toNat ((List.length v0_1 : Int) - 0)) + 1) 0)) v0_1)))) (List.length ((List.take (Int.toNat (Qg p0 i0 v0_1 ((Int.toNat ((List.length v0_1 : Int) - 0)) + 1) 0)) v0_1) ++ [x0])) (Int.toNat (Qg p0 i0 v0_1 ((Int.toNat ((List.length v0_1 : Int) - 0)) + 1) 0)) ((List.length v0_1) - (Int.toNat (Qg p0 i0 v0_1 ((Int.toNat ((List.length v0_1 : Int) - 0)) + 1) 0))) (List.length (((List.take (Int.toNat (Qg p0 i0 v0_1 ((Int.toNat ((List.length v0_1 : Int) - 0)) + 1) 0)) v0_1) ++ [x0]) ++ (List.take ((List.length v0_1) - (Int.toNat (Qg p0 i0 v0_1 ((Int.toNat ((List.length v0_1 : Int) - 0)) + 1) 0))) (List.drop (Int.toNat (Qg p0 i0 v0_1 ((Int.toNat ((List.length v0_1 : Int) - 0)) + 1) 0)) v0_1)))) rfl rfl (Fld.Q0 ((List.take (Int.toNat (Qg p0 i0 v0_1 ((Int.toNat ((List.length v0_1 : Int) - 0)) + 1) 0)) v0_1) ++ [x0])).symm (Fld.Q0 (((List.take (Int.toNat (Qg p0 i0 v0_1 ((Int.toNat ((List.length v0_1 : Int) - 0)) + 1) 0)) v0_1) ++ [x0]) ++ (List.take ((List.length v0_1) - (Int.toNat (Qg p0 i0 v0_1 ((Int.toNat ((List.length v0_1 : Int) - 0)) + 1) 0))) (List.drop (Int.toNat (Qg p0 i0 v0_1 ((Int.toNat ((List.length v0_1 : Int) - 0)) + 1) 0)) v0_1)))).symm (by rw [Fld.Q115, Fld.Qhb, Fld.Quq]) (Fld.Ql ((List.take (Int.toNat (Qg p0 i0 v0_1 ((Int.toNat ((List.length v0_1 : Int) - 0)) + 1) 0)) v0_1) ++ [x0])) (Fld.Ql v0_1) (by rw [Fld.Q0]; exact (by have g0 := Q3a p0 i0 v0_1 ((Int.toNat ((List.length v0_1 : Int) - 0)) + 1) 0 (by omega) (by omega) (by omega) (by omega) (by omega); omega)) (by have g0 := Q3a p0 i0 v0_1 ((Int.toNat ((List.length v0_1 : Int) - 0)) + 1) 0 (by omega) (by omega) (by omega) (by omega) (by omega); try simp only [List.length_append, List.length_cons, List.length_nil, List.length_take]; omega)), hS 0 true (Fld.Q7 (((List.take (Int.toNat (Qg p0 i0 v0_1 ((Int.toNat ((List.length v0_1 : Int) - 0)) + 1) 0)) v0_1) ++ [x0]) ++ (List.take ((List.length v0_1) - (Int.toNat (Qg p0 i0 v0_1 ((Int.toNat ((List.length v0_1 : Int) - 0)) + 1) 0))) (List.drop (Int.toNat (Qg p0 i0 v0_1 ((Int.toNat ((List.length v0_1 : Int) - 0)) + 1) 0)) v0_1))) 6 rfl), hP 4 (Q28 i0 (by omega))] [aV [(1, Fld.rows v0_1)] hl0] (by kernel_rfl) hr
theorem Qm5 (p0 : List Fld) (H : Qbq p0) : ∀ (r0 : List Fld) (i0 : Nat) (v0_1 : List Fld), List.drop i0 p0 = r0 → List.length v0_1 ≤ i0 → List.length (v0_1 : List Fld) ≤ i0 → Qgo p0 (Q9q p0 i0 v0_1) (Q6p p0 r0 i0 v0_1)
 | [], i0, v0_1, hd, ho0_0, ho0_1 => by
  have hc0 : (decide ((i0 : Int) < ((List.length p0) : Int))) = false := by have := Q1o hd; simp; omega
  rw [Q6p]
  exact Q194 p0 H i0 v0_1 ho0_0 ho0_1 hc0
 | x0 :: r0, i0, v0_1, hd, ho0_0, ho0_1 => by
  obtain ⟨hx0, hi0, hd'⟩ := Q1i hd
  have hB0 := H.1
  have hc0 : (decide ((i0 : Int) < ((List.length p0) : Int))) = true := by simp; omega
  rw [Q6p]
  have hl0 := Qyx p0 i0 v0_1 ((Int.toNat ((List.length v0_1 : Int) - 0)) + 1) 0 (by omega) (by omega) (by omega) (by omega) (by omega)
  obtain ⟨z0, zo0, hl0⟩ := hl0
  cases h0 : ((Int.toNat (Qg p0 i0 v0_1 ((Int.toNat ((List.length v0_1 : Int) - 0)) + 1) 0)) == 0) with
  | true =>
   have e0 := eq_of_beq h0
   exact Qbw p0 (fun r hr => Q16y p0 H x0 i0 v0_1 hx0 hi0 ho0_0 ho0_1 hc0 z0 zo0 hl0 h0 hr) _ (Qm5 p0 H r0 (i0 + 1) ([x0] ++ (List.take ((List.length v0_1) - (Int.toNat (Qg p0 i0 v0_1 ((Int.toNat ((List.length v0_1 : Int) - 0)) + 1) 0))) (List.drop (Int.toNat (Qg p0 i0 v0_1 ((Int.toNat ((List.length v0_1 : Int) - 0)) + 1) 0)) v0_1))) hd' (by first | omega | (simp; omega)) ((H.2.2.1 i0 v0_1 x0 hx0 ho0_0 ho0_1) h0))
  | false =>
   have e0 := beq_eq_false_iff_ne.1 h0
   exact Qbw p0 (fun r hr => Q16z p0 H x0 i0 v0_1 hx0 hi0 ho0_0 ho0_1 hc0 z0 zo0 hl0 h0 hr) _ (Qm5 p0 H r0 (i0 + 1) (((List.take (Int.toNat (Qg p0 i0 v0_1 ((Int.toNat ((List.length v0_1 : Int) - 0)) + 1) 0)) v0_1) ++ [x0]) ++ (List.take ((List.length v0_1) - (Int.toNat (Qg p0 i0 v0_1 ((Int.toNat ((List.length v0_1 : Int) - 0)) + 1) 0))) (List.drop (Int.toNat (Qg p0 i0 v0_1 ((Int.toNat ((List.length v0_1 : Int) - 0)) + 1) 0)) v0_1))) hd' (by first | omega | (simp; omega)) ((H.2.2.2.1 i0 v0_1 x0 hx0 ho0_0 ho0_1) h0))
def Q1s (p0 : List Fld) : Val :=
 (Val.mk 5 0 eB [] (Q6p p0 p0 0 []))
def Qau (p0 : List Fld) : En := .call 163 [.sl (Fld.rows p0)] []
def Q1os (p0 : List Fld) : Rs := .ret (.agg (Val.cells (Q1s p0))) []
def Q1nd (p0 : List Fld) : Prop := List.length p0 ≤ 20
theorem Q13e (p0 : List Fld) (H : Q1nd p0) : (Qbq p0) ∧ (List.length ([] : List Fld) ≤ 0) ∧ True := by
  have H' : p0.length ≤ 20 := H
  have hl : ∀ (i : Nat) (x : Fld), p0[i]? = some x → i < 20 := fun i x h => Nat.lt_of_lt_of_le (List.getElem?_eq_some_iff.1 h).1 H'
  refine ⟨⟨by omega, fun i v x hx a _ _ => ?_, fun i v x hx a _ _ => ?_, fun i v x hx a _ _ => ?_, trivial⟩, by simp, trivial⟩ <;>
  · have := hl i x hx
    simp only [List.length_append, List.length_take, List.length_drop, List.length_cons, List.length_nil]
    omega
theorem Qcs (p0 : List Fld) (H : Q1nd p0) : Q5 G (Qau p0) (Q1os p0) := by
 unfold Q1os Q1s
 have hl0 := Qm5 p0 ((Q13e p0 H).1) p0 0 [] (by simp) (by simp) ((Q13e p0 H).2.1)
 obtain ⟨z0, zo0, hl0⟩ := hl0
 exact Q6 (fn := Ir.K2h) rfl VOK.nil [hS 0 true (Fld.Q7 (Q6p p0 p0 0 []) 6 rfl), hQ (Fld.Q0 (Q6p p0 p0 0 [])).symm] [aV [(1, Fld.rows (Q6p p0 p0 0 []))] hl0] (by kernel_rfl)
def Qm (p0 : Int) : Val :=
 (Val.mk 2 p0 eB [] [])
def Q1wu (p0 : Int) : En := .call 164 [.int .i64 p0] []
def Q1on (p0 : Int) : Rs := .ret (.agg (Val.cells (Qm p0))) []
theorem Q58 (p0 : Int) : Q5 G (Q1wu p0) (Q1on p0) := by
 unfold Q1on Qm
 exact Q6 (fn := Ir.K2c) rfl VOK.nil [] [] (by kernel_rfl)
def Q14 (p0 : BA) : Val :=
 (Val.mk 3 0 p0 [] [])
def Q1x6 (p0 : BA) : En := .call 169 [.str p0] []
def Q1p0 (p0 : BA) : Rs := .ret (.agg (Val.cells (Q14 p0))) []
theorem Qeb (p0 : BA) : Q5 G (Q1x6 p0) (Q1p0 p0) := by
 unfold Q1p0 Q14
 exact Q6 (fn := Ir.K2w) rfl VOK.nil [] [] (by kernel_rfl)
def Q5j (p0 : List ByteArray) : List ByteArray → Nat → (List Val) → List Val
 | [], _i0, v0_1 =>
  v0_1
 | x0 :: r0, i0, v0_1 =>
  Q5j p0 r0 (i0 + 1) (v0_1 ++ [(Q14 x0)])
theorem Q14l (p0 : List ByteArray) : ∀ (l : List ByteArray) (i : Nat) (a : List Val), Q5j p0 l i a = a ++ l.map (fun x0 => (Q14 x0))
  | [], _, _ => by simp [Q5j]
  | x :: r, i, a => by rw [Q5j, Q14l p0 r]; simp
def Qvz (p0 : List ByteArray) (i0 : Nat) (v0_1 : List Val) : List PV :=
  [.sl (Qu p0), .un, .bx 0 0, .ms 1 5 0 (List.length v0_1), .int .i64 (i0 : Int)] ++ nuns 16
def Qi1 (_p0 : List ByteArray) (_i0 : Nat) (v0_1 : List Val) : List Ob :=
  [⟨5, 0, true, [.int .i64 0, .int .i64 0, .str eB, .ms 2 5 0 0, .ms 3 6 0 0]⟩, ⟨5, 0, true, (Val.rows v0_1).flatten⟩, ⟨5, 0, true, []⟩, ⟨6, 0, true, []⟩]
def Qf4 (p0 : List ByteArray) (i0 : Nat) (v0_1 : List Val) : En := .loop 0 Ir.Qjg Ir.Q1gw (Qvz p0 i0 v0_1) (Qi1 p0 i0 v0_1)
def Qog (_p0 : List ByteArray) (q0 : List Val) (z : Nat → PV) (_zo : Nat → List PV) : St :=
  ⟨[z 0, z 1, .bx 0 0, .ms 1 5 0 (List.length q0)] ++ zr z 4 17, [(0, ⟨5, 0, true, [.int .i64 0, .int .i64 0, .str eB, .ms 2 5 0 0, .ms 3 6 0 0]⟩), (1, ⟨5, 0, true, (Val.rows q0).flatten⟩), (2, ⟨5, 0, true, []⟩), (3, ⟨6, 0, true, []⟩)], 260⟩
theorem Q12l (p0 : List ByteArray) (i0 : Nat) (v0_1 : List Val) : VOK (Go.Pv.look (number 0 (Qi1 p0 i0 v0_1))) [(1, Val.rows v0_1)] := (VOK.cons (show Seen _ _ from Q3i (ob := ⟨5, 0, true, (Val.rows v0_1).flatten⟩) (Val.Q7 v0_1 5 rfl)) VOK.nil)
def Qgu (p0 : List ByteArray) (e : En) (q : List Val) : Prop := ∃ z zo, Q5 G e (.st (.exit 0) (Qog p0 q z zo))
theorem Qt3 (p0 : List ByteArray) {e e' : En} (h : ∀ r, Q5 G e r → Q5 G e' r) : ∀ q, Qgu p0 e q → Qgu p0 e' q
  | _, ⟨z, zo, hz⟩ => ⟨z, zo, h _ hz⟩
def Qg1 (p0 : List ByteArray) : Prop := (List.length p0 ≤ 137438953472) ∧ True
def Qq3 (p0 : List ByteArray) (i0 : Nat) (_v0_1 : List Val) : List PV :=
  [.sl (Qu p0), .un, .un, .un, .int .i64 (i0 : Int), .int .i64 (i0 : Int), .sl (Qu p0), .int .i64 ((List.length p0) : Int), .bool false]
def Ql3 (_p0 : List ByteArray) (_i0 : Nat) (_v0_1 : List Val) : List (Nat × List PV) :=
  []
theorem Q19c (p0 : List ByteArray) (_H : Qg1 p0) (i0 : Nat) (v0_1 : List Val) (_ho0_0 : List.length v0_1 ≤ i0) (hc0 : (decide ((i0 : Int) < ((List.length p0) : Int))) = false) : Qgu p0 (Qf4 p0 i0 v0_1) v0_1 := by
 exact ⟨(envF (Qq3 p0 i0 v0_1)), (zoF (Ql3 p0 i0 v0_1)), Qj (Q12l p0 i0 v0_1) (x := ((.exit 0), Qog p0 v0_1 (envF (Qq3 p0 i0 v0_1)) (zoF (Ql3 p0 i0 v0_1)))) [hP 2 (Qw (Qu p0) (List.length p0) (Q2u p0)), hB 0 hc0] [] (by kernel_rfl)⟩
theorem Q176 (p0 : List ByteArray) (H : Qg1 p0) (x0 : BA) (i0 : Nat) (v0_1 : List Val) (hx0 : p0[i0]? = some x0) (hi0 : i0 < List.length p0) (ho0_0 : List.length v0_1 ≤ i0) (hc0 : (decide ((i0 : Int) < ((List.length p0) : Int))) = true) {r : Rs} (hr : Q5 G (Qf4 p0 (i0 + 1) (v0_1 ++ [(Q14 x0)])) r) : Q5 G (Qf4 p0 i0 v0_1) r := by
 have hB0 := H.1
 exact Qd (Q12l p0 i0 v0_1) (y := (Qvz p0 (i0 + 1) (v0_1 ++ [(Q14 x0)]), Qi1 p0 (i0 + 1) (v0_1 ++ [(Q14 x0)]))) [hP 2 (Qw (Qu p0) (List.length p0) (Q2u p0)), hB 0 hc0, hP 3 (Q2g 1 (Qu p0) i0 _ (Qaa hx0) rfl), hV 3 [(708, Val.rows (v0_1 ++ [(Q14 x0)]))] (Q3x 1 644 708 5 80 0 0 true (Val.rows v0_1) (Val.rows (v0_1 ++ [(Q14 x0)])) (Val.cells (Q14 x0)) (List.length v0_1) (List.length (v0_1 ++ [(Q14 x0)])) rfl (Val.Q0 v0_1).symm (Val.Q0 (v0_1 ++ [(Q14 x0)])).symm (Val.Q1q v0_1 (Q14 x0)) (Val.Ql v0_1) rfl (by omega)), hS 0 true (Val.Q7 (v0_1 ++ [(Q14 x0)]) 5 rfl), hP 2 (Q28 i0 (by omega))] [aN (Qeb x0)] (by kernel_rfl) hr
theorem Qz3 (p0 : List ByteArray) (H : Qg1 p0) : ∀ (r0 : List ByteArray) (i0 : Nat) (v0_1 : List Val), List.drop i0 p0 = r0 → List.length v0_1 ≤ i0 → Qgu p0 (Qf4 p0 i0 v0_1) (Q5j p0 r0 i0 v0_1)
 | [], i0, v0_1, hd, ho0_0 => by
  have hc0 : (decide ((i0 : Int) < ((List.length p0) : Int))) = false := by have := Q1o hd; simp; omega
  rw [Q5j]
  exact Q19c p0 H i0 v0_1 ho0_0 hc0
 | x0 :: r0, i0, v0_1, hd, ho0_0 => by
  obtain ⟨hx0, hi0, hd'⟩ := Q1i hd
  have hc0 : (decide ((i0 : Int) < ((List.length p0) : Int))) = true := by simp; omega
  rw [Q5j]
  exact Qt3 p0 (fun r hr => Q176 p0 H x0 i0 v0_1 hx0 hi0 ho0_0 hc0 hr) _ (Qz3 p0 H r0 (i0 + 1) (v0_1 ++ [(Q14 x0)]) hd' (by first | omega | (simp; omega)))
def Q9l (p0 : List ByteArray) : Val := vL (p0.map vS)
theorem Q1z0 (p0 : List ByteArray) : Q9l p0 = ((Val.mk 4 0 eB (Q5j p0 p0 0 []) [])) := by
  rw [Q14l]
  kernel_rfl
def Q1x7 (p0 : List ByteArray) : En := .call 212 [.sl (Qu p0)] []
def Q1p1 (p0 : List ByteArray) : Rs := .ret (.agg (Val.cells (Q9l p0))) []
def Q1if (p0 : List ByteArray) : Prop := LSm (fun _ : ByteArray => True) p0
theorem Q1en (p0 : List ByteArray) (H : Q1if p0) : (Qg1 p0) ∧ True := by
  exact ⟨⟨Nat.le_trans H.1 (Nat.le_of_ble_eq_true rfl), trivial⟩, trivial⟩
theorem Q21s (p0 : List ByteArray) (H : Q1if p0) : Q5 G (Q1x7 p0) (Q1p1 p0) := by
 unfold Q1p1
 rw [Q1z0]
 have hl0 := Qz3 p0 ((Q1en p0 H).1) p0 0 [] (by simp) (by simp)
 obtain ⟨z0, zo0, hl0⟩ := hl0
 exact Q6 (fn := Ir.K2x) rfl VOK.nil [hS 0 true (Val.Q7 (Q5j p0 p0 0 []) 5 rfl), hQ (Val.Q0 (Q5j p0 p0 0 [])).symm] [aV [(1, Val.rows (Q5j p0 p0 0 []))] hl0] (by kernel_rfl)
def Q5h (p0 : List Requirement) : List Requirement → Nat → (List Val) → List Val
 | [], _i0, v0_1 =>
  v0_1
 | x0 :: r0, i0, v0_1 =>
  Q5h p0 r0 (i0 + 1) (v0_1 ++ [(Q1s ([(Fld.mk Q15 (Q14 x0.key)), (Fld.mk Q51 (Qm x0.op)), (Fld.mk Q2c (Q9l x0.values))]))])
theorem Q14j (p0 : List Requirement) : ∀ (l : List Requirement) (i : Nat) (a : List Val), Q5h p0 l i a = a ++ l.map (fun x0 => (Q1s ([(Fld.mk Q15 (Q14 x0.key)), (Fld.mk Q51 (Qm x0.op)), (Fld.mk Q2c (Q9l x0.values))])))
  | [], _, _ => by simp [Q5h]
  | x :: r, i, a => by rw [Q5h, Q14j p0 r]; simp
def Qvx (p0 : List Requirement) (i0 : Nat) (v0_1 : List Val) : List PV :=
  [.sl (Requirement.rows p0), .un, .bx 0 0, .ms 1 5 0 (List.length v0_1), .int .i64 (i0 : Int)] ++ nuns 34
def Qhz (_p0 : List Requirement) (_i0 : Nat) (v0_1 : List Val) : List Ob :=
  [⟨5, 0, true, [.int .i64 0, .int .i64 0, .str eB, .ms 2 5 0 0, .ms 3 6 0 0]⟩, ⟨5, 0, true, (Val.rows v0_1).flatten⟩, ⟨5, 0, true, []⟩, ⟨6, 0, true, []⟩]
def Qf2 (p0 : List Requirement) (i0 : Nat) (v0_1 : List Val) : En := .loop 0 Ir.Qje Ir.Q1gu (Qvx p0 i0 v0_1) (Qhz p0 i0 v0_1)
def Qoe (_p0 : List Requirement) (q0 : List Val) (z : Nat → PV) (_zo : Nat → List PV) : St :=
  ⟨[z 0, z 1, .bx 0 0, .ms 1 5 0 (List.length q0)] ++ zr z 4 35, [(0, ⟨5, 0, true, [.int .i64 0, .int .i64 0, .str eB, .ms 2 5 0 0, .ms 3 6 0 0]⟩), (1, ⟨5, 0, true, (Val.rows q0).flatten⟩), (2, ⟨5, 0, true, []⟩), (3, ⟨6, 0, true, []⟩)], 260⟩
theorem Q12j (p0 : List Requirement) (i0 : Nat) (v0_1 : List Val) : VOK (Go.Pv.look (number 0 (Qhz p0 i0 v0_1))) [(1, Val.rows v0_1)] := (VOK.cons (show Seen _ _ from Q3i (ob := ⟨5, 0, true, (Val.rows v0_1).flatten⟩) (Val.Q7 v0_1 5 rfl)) VOK.nil)
def Qgs (p0 : List Requirement) (e : En) (q : List Val) : Prop := ∃ z zo, Q5 G e (.st (.exit 0) (Qoe p0 q z zo))
theorem Qt1 (p0 : List Requirement) {e e' : En} (h : ∀ r, Q5 G e r → Q5 G e' r) : ∀ q, Qgs p0 e q → Qgs p0 e' q
  | _, ⟨z, zo, hz⟩ => ⟨z, zo, h _ hz⟩
def Qfz (p0 : List Requirement) : Prop := (List.length p0 ≤ 137438953472) ∧ (∀ x0 ∈ p0, Q1if x0.values) ∧ True
def Qq1 (p0 : List Requirement) (i0 : Nat) (_v0_1 : List Val) : List PV :=
  [.sl (Requirement.rows p0), .un, .un, .un, .int .i64 (i0 : Int), .int .i64 (i0 : Int), .sl (Requirement.rows p0), .int .i64 ((List.length p0) : Int), .bool false]
def Ql1 (_p0 : List Requirement) (_i0 : Nat) (_v0_1 : List Val) : List (Nat × List PV) :=
  []
theorem Q19a (p0 : List Requirement) (_H : Qfz p0) (i0 : Nat) (v0_1 : List Val) (_ho0_0 : List.length v0_1 ≤ i0) (hc0 : (decide ((i0 : Int) < ((List.length p0) : Int))) = false) : Qgs p0 (Qf2 p0 i0 v0_1) v0_1 := by
 exact ⟨(envF (Qq1 p0 i0 v0_1)), (zoF (Ql1 p0 i0 v0_1)), Qj (Q12j p0 i0 v0_1) (x := ((.exit 0), Qoe p0 v0_1 (envF (Qq1 p0 i0 v0_1)) (zoF (Ql1 p0 i0 v0_1)))) [hP 2 (Qw (Requirement.rows p0) (List.length p0) (Requirement.Q0 p0)), hB 0 hc0] [] (by kernel_rfl)⟩
theorem Q174 (p0 : List Requirement) (H : Qfz p0) (x0 : Requirement) (i0 : Nat) (v0_1 : List Val) (hx0 : p0[i0]? = some x0) (hi0 : i0 < List.length p0) (ho0_0 : List.length v0_1 ≤ i0) (hc0 : (decide ((i0 : Int) < ((List.length p0) : Int))) = true) {r : Rs} (hr : Q5 G (Qf2 p0 (i0 + 1) (v0_1 ++ [(Q1s ([(Fld.mk Q15 (Q14 x0.key)), (Fld.mk Q51 (Qm x0.op)), (Fld.mk Q2c (Q9l x0.values))]))])) r) : Q5 G (Qf2 p0 i0 v0_1) r := by
 have hB0 := H.1
 exact Qd (Q12j p0 i0 v0_1) (y := (Qvx p0 (i0 + 1) (v0_1 ++ [(Q1s ([(Fld.mk Q15 (Q14 x0.key)), (Fld.mk Q51 (Qm x0.op)), (Fld.mk Q2c (Q9l x0.values))]))]), Qhz p0 (i0 + 1) (v0_1 ++ [(Q1s ([(Fld.mk Q15 (Q14 x0.key)), (Fld.mk Q51 (Qm x0.op)), (Fld.mk Q2c (Q9l x0.values))]))]))) [hP 2 (Qw (Requirement.rows p0) (List.length p0) (Requirement.Q0 p0)), hB 0 hc0, hP 3 (Q2g 3 (Requirement.rows p0) i0 _ (Requirement.Qe hx0) rfl), hP 6 (Q2g 3 (Requirement.rows p0) i0 _ (Requirement.Qe hx0) rfl), hP 6 (Q2g 3 (Requirement.rows p0) i0 _ (Requirement.Qe hx0) rfl), hV 7 [(1860, Val.rows (v0_1 ++ [(Q1s ([(Fld.mk Q15 (Q14 x0.key)), (Fld.mk Q51 (Qm x0.op)), (Fld.mk Q2c (Q9l x0.values))]))]))] (Q3x 1 1796 1860 5 80 0 0 true (Val.rows v0_1) (Val.rows (v0_1 ++ [(Q1s ([(Fld.mk Q15 (Q14 x0.key)), (Fld.mk Q51 (Qm x0.op)), (Fld.mk Q2c (Q9l x0.values))]))])) (Val.cells (Q1s ([(Fld.mk Q15 (Q14 x0.key)), (Fld.mk Q51 (Qm x0.op)), (Fld.mk Q2c (Q9l x0.values))]))) (List.length v0_1) (List.length (v0_1 ++ [(Q1s ([(Fld.mk Q15 (Q14 x0.key)), (Fld.mk Q51 (Qm x0.op)), (Fld.mk Q2c (Q9l x0.values))]))])) rfl (Val.Q0 v0_1).symm (Val.Q0 (v0_1 ++ [(Q1s ([(Fld.mk Q15 (Q14 x0.key)), (Fld.mk Q51 (Qm x0.op)), (Fld.mk Q2c (Q9l x0.values))]))])).symm (Val.Q1q v0_1 (Q1s ([(Fld.mk Q15 (Q14 x0.key)), (Fld.mk Q51 (Qm x0.op)), (Fld.mk Q2c (Q9l x0.values))]))) (Val.Ql v0_1) rfl (by omega)), hS 0 true (Val.Q7 (v0_1 ++ [(Q1s ([(Fld.mk Q15 (Q14 x0.key)), (Fld.mk Q51 (Qm x0.op)), (Fld.mk Q2c (Q9l x0.values))]))]) 5 rfl), hP 2 (Q28 i0 (by omega))] [aN (Qeb x0.key), aN (Q58 x0.op), aN (Q21s x0.values (H.2.1 x0 (Q2o hx0))), aN (Q59 (e' := .call 163 [.sl [(Fld.cells (Fld.mk Q15 (Q14 x0.key))), (Fld.cells (Fld.mk Q51 (Qm x0.op))), (Fld.cells (Fld.mk Q2c (Q9l x0.values)))]] []) (Qcs ([(Fld.mk Q15 (Q14 x0.key)), (Fld.mk Q51 (Qm x0.op)), (Fld.mk Q2c (Q9l x0.values))]) (Nat.le_of_ble_eq_true rfl)) (by simp only [Qau, Fld.Q12, Fld.Q1n]))] (by kernel_rfl) hr
theorem Qz1 (p0 : List Requirement) (H : Qfz p0) : ∀ (r0 : List Requirement) (i0 : Nat) (v0_1 : List Val), List.drop i0 p0 = r0 → List.length v0_1 ≤ i0 → Qgs p0 (Qf2 p0 i0 v0_1) (Q5h p0 r0 i0 v0_1)
 | [], i0, v0_1, hd, ho0_0 => by
  have hc0 : (decide ((i0 : Int) < ((List.length p0) : Int))) = false := by have := Q1o hd; simp; omega
  rw [Q5h]
  exact Q19a p0 H i0 v0_1 ho0_0 hc0
 | x0 :: r0, i0, v0_1, hd, ho0_0 => by
  obtain ⟨hx0, hi0, hd'⟩ := Q1i hd
  have hc0 : (decide ((i0 : Int) < ((List.length p0) : Int))) = true := by simp; omega
  rw [Q5h]
  exact Qt1 p0 (fun r hr => Q174 p0 H x0 i0 v0_1 hx0 hi0 ho0_0 hc0 hr) _ (Qz1 p0 H r0 (i0 + 1) (v0_1 ++ [(Q1s ([(Fld.mk Q15 (Q14 x0.key)), (Fld.mk Q51 (Qm x0.op)), (Fld.mk Q2c (Q9l x0.values))]))]) hd' (by first | omega | (simp; omega)))
def Q3e (p0 : List Requirement) : Val := vL (p0.map Requirement.enc)
theorem Q1yy (p0 : List Requirement) : Q3e p0 = ((Val.mk 4 0 eB (Q5h p0 p0 0 []) [])) := by
  rw [Q14j]
  kernel_rfl
def Q1x4 (p0 : List Requirement) : En := .call 165 [.sl (Requirement.rows p0)] []
def Q1oy (p0 : List Requirement) : Rs := .ret (.agg (Val.cells (Q3e p0))) []
def Q14z (p0 : List Requirement) : Prop := LSm Requirement.sm p0
theorem Q1el (p0 : List Requirement) (H : Q14z p0) : (Qfz p0) ∧ True := by
  exact ⟨⟨Nat.le_trans H.1 (Nat.le_of_ble_eq_true rfl), (by first | exact H.2 | exact fun x hx => (H.2 x hx).1 | exact fun x hx => (H.2 x hx).2.1 | exact fun x hx => (H.2 x hx).2.2.1 | exact fun x hx => (H.2 x hx).2.2.2.1 | exact fun x hx => (H.2 x hx).2.2.2.2.1), trivial⟩, trivial⟩
theorem Q1ft (p0 : List Requirement) (H : Q14z p0) : Q5 G (Q1x4 p0) (Q1oy p0) := by
 unfold Q1oy
 rw [Q1yy]
 have hl0 := Qz1 p0 ((Q1el p0 H).1) p0 0 [] (by simp) (by simp)
 obtain ⟨z0, zo0, hl0⟩ := hl0
 exact Q6 (fn := Ir.K2s) rfl VOK.nil [hS 0 true (Val.Q7 (Q5h p0 p0 0 []) 5 rfl), hQ (Val.Q0 (Q5h p0 p0 0 [])).symm] [aV [(1, Val.rows (Q5h p0 p0 0 []))] hl0] (by kernel_rfl)
def Q5d (p0 : List Label) : List Label → Nat → (List Val) → List Val
 | [], _i0, v0_1 =>
  v0_1
 | x0 :: r0, i0, v0_1 =>
  Q5d p0 r0 (i0 + 1) (v0_1 ++ [(Q1s ([(Fld.mk Q15 (Q14 x0.key)), (Fld.mk Q13 (Q14 x0.value))]))])
theorem Q14f (p0 : List Label) : ∀ (l : List Label) (i : Nat) (a : List Val), Q5d p0 l i a = a ++ l.map (fun x0 => (Q1s ([(Fld.mk Q15 (Q14 x0.key)), (Fld.mk Q13 (Q14 x0.value))])))
  | [], _, _ => by simp [Q5d]
  | x :: r, i, a => by rw [Q5d, Q14f p0 r]; simp
def Qvs (p0 : List Label) (i0 : Nat) (v0_1 : List Val) : List PV :=
  [.sl (Label.rows p0), .un, .bx 0 0, .ms 1 5 0 (List.length v0_1), .int .i64 (i0 : Int)] ++ nuns 27
def Qhu (_p0 : List Label) (_i0 : Nat) (v0_1 : List Val) : List Ob :=
  [⟨5, 0, true, [.int .i64 0, .int .i64 0, .str eB, .ms 2 5 0 0, .ms 3 6 0 0]⟩, ⟨5, 0, true, (Val.rows v0_1).flatten⟩, ⟨5, 0, true, []⟩, ⟨6, 0, true, []⟩]
def Qey (p0 : List Label) (i0 : Nat) (v0_1 : List Val) : En := .loop 0 Ir.Qj8 Ir.Q1go (Qvs p0 i0 v0_1) (Qhu p0 i0 v0_1)
def Qo9 (_p0 : List Label) (q0 : List Val) (z : Nat → PV) (_zo : Nat → List PV) : St :=
  ⟨[z 0, z 1, .bx 0 0, .ms 1 5 0 (List.length q0)] ++ zr z 4 28, [(0, ⟨5, 0, true, [.int .i64 0, .int .i64 0, .str eB, .ms 2 5 0 0, .ms 3 6 0 0]⟩), (1, ⟨5, 0, true, (Val.rows q0).flatten⟩), (2, ⟨5, 0, true, []⟩), (3, ⟨6, 0, true, []⟩)], 260⟩
theorem Q12f (p0 : List Label) (i0 : Nat) (v0_1 : List Val) : VOK (Go.Pv.look (number 0 (Qhu p0 i0 v0_1))) [(1, Val.rows v0_1)] := (VOK.cons (show Seen _ _ from Q3i (ob := ⟨5, 0, true, (Val.rows v0_1).flatten⟩) (Val.Q7 v0_1 5 rfl)) VOK.nil)
def Qgn (p0 : List Label) (e : En) (q : List Val) : Prop := ∃ z zo, Q5 G e (.st (.exit 0) (Qo9 p0 q z zo))
theorem Qsw (p0 : List Label) {e e' : En} (h : ∀ r, Q5 G e r → Q5 G e' r) : ∀ q, Qgn p0 e q → Qgn p0 e' q
  | _, ⟨z, zo, hz⟩ => ⟨z, zo, h _ hz⟩
def Qfv (p0 : List Label) : Prop := (List.length p0 ≤ 137438953472) ∧ True
def Qpu (p0 : List Label) (i0 : Nat) (_v0_1 : List Val) : List PV :=
  [.sl (Label.rows p0), .un, .un, .un, .int .i64 (i0 : Int), .int .i64 (i0 : Int), .sl (Label.rows p0), .int .i64 ((List.length p0) : Int), .bool false]
def Qku (_p0 : List Label) (_i0 : Nat) (_v0_1 : List Val) : List (Nat × List PV) :=
  []
theorem Q193 (p0 : List Label) (_H : Qfv p0) (i0 : Nat) (v0_1 : List Val) (_ho0_0 : List.length v0_1 ≤ i0) (hc0 : (decide ((i0 : Int) < ((List.length p0) : Int))) = false) : Qgn p0 (Qey p0 i0 v0_1) v0_1 := by
 exact ⟨(envF (Qpu p0 i0 v0_1)), (zoF (Qku p0 i0 v0_1)), Qj (Q12f p0 i0 v0_1) (x := ((.exit 0), Qo9 p0 v0_1 (envF (Qpu p0 i0 v0_1)) (zoF (Qku p0 i0 v0_1)))) [hP 2 (Qw (Label.rows p0) (List.length p0) (Label.Q0 p0)), hB 0 hc0] [] (by kernel_rfl)⟩
theorem Q16x (p0 : List Label) (H : Qfv p0) (x0 : Label) (i0 : Nat) (v0_1 : List Val) (hx0 : p0[i0]? = some x0) (hi0 : i0 < List.length p0) (ho0_0 : List.length v0_1 ≤ i0) (hc0 : (decide ((i0 : Int) < ((List.length p0) : Int))) = true) {r : Rs} (hr : Q5 G (Qey p0 (i0 + 1) (v0_1 ++ [(Q1s ([(Fld.mk Q15 (Q14 x0.key)), (Fld.mk Q13 (Q14 x0.value))]))])) r) : Q5 G (Qey p0 i0 v0_1) r := by
 have hB0 := H.1
 exact Qd (Q12f p0 i0 v0_1) (y := (Qvs p0 (i0 + 1) (v0_1 ++ [(Q1s ([(Fld.mk Q15 (Q14 x0.key)), (Fld.mk Q13 (Q14 x0.value))]))]), Qhu p0 (i0 + 1) (v0_1 ++ [(Q1s ([(Fld.mk Q15 (Q14 x0.key)), (Fld.mk Q13 (Q14 x0.value))]))]))) [hP 2 (Qw (Label.rows p0) (List.length p0) (Label.Q0 p0)), hB 0 hc0, hP 3 (Q2g 2 (Label.rows p0) i0 _ (Label.Qe hx0) rfl), hP 6 (Q2g 2 (Label.rows p0) i0 _ (Label.Qe hx0) rfl), hV 7 [(1412, Val.rows (v0_1 ++ [(Q1s ([(Fld.mk Q15 (Q14 x0.key)), (Fld.mk Q13 (Q14 x0.value))]))]))] (Q3x 1 1348 1412 5 80 0 0 true (Val.rows v0_1) (Val.rows (v0_1 ++ [(Q1s ([(Fld.mk Q15 (Q14 x0.key)), (Fld.mk Q13 (Q14 x0.value))]))])) (Val.cells (Q1s ([(Fld.mk Q15 (Q14 x0.key)), (Fld.mk Q13 (Q14 x0.value))]))) (List.length v0_1) (List.length (v0_1 ++ [(Q1s ([(Fld.mk Q15 (Q14 x0.key)), (Fld.mk Q13 (Q14 x0.value))]))])) rfl (Val.Q0 v0_1).symm (Val.Q0 (v0_1 ++ [(Q1s ([(Fld.mk Q15 (Q14 x0.key)), (Fld.mk Q13 (Q14 x0.value))]))])).symm (Val.Q1q v0_1 (Q1s ([(Fld.mk Q15 (Q14 x0.key)), (Fld.mk Q13 (Q14 x0.value))]))) (Val.Ql v0_1) rfl (by omega)), hS 0 true (Val.Q7 (v0_1 ++ [(Q1s ([(Fld.mk Q15 (Q14 x0.key)), (Fld.mk Q13 (Q14 x0.value))]))]) 5 rfl), hP 2 (Q28 i0 (by omega))] [aN (Qeb x0.key), aN (Qeb x0.value), aN (Q59 (e' := .call 163 [.sl [(Fld.cells (Fld.mk Q15 (Q14 x0.key))), (Fld.cells (Fld.mk Q13 (Q14 x0.value)))]] []) (Qcs ([(Fld.mk Q15 (Q14 x0.key)), (Fld.mk Q13 (Q14 x0.value))]) (Nat.le_of_ble_eq_true rfl)) (by simp only [Qau, Fld.Q12, Fld.Q1n]))] (by kernel_rfl) hr
theorem Qyw (p0 : List Label) (H : Qfv p0) : ∀ (r0 : List Label) (i0 : Nat) (v0_1 : List Val), List.drop i0 p0 = r0 → List.length v0_1 ≤ i0 → Qgn p0 (Qey p0 i0 v0_1) (Q5d p0 r0 i0 v0_1)
 | [], i0, v0_1, hd, ho0_0 => by
  have hc0 : (decide ((i0 : Int) < ((List.length p0) : Int))) = false := by have := Q1o hd; simp; omega
  rw [Q5d]
  exact Q193 p0 H i0 v0_1 ho0_0 hc0
 | x0 :: r0, i0, v0_1, hd, ho0_0 => by
  obtain ⟨hx0, hi0, hd'⟩ := Q1i hd
  have hc0 : (decide ((i0 : Int) < ((List.length p0) : Int))) = true := by simp; omega
  rw [Q5d]
  exact Qsw p0 (fun r hr => Q16x p0 H x0 i0 v0_1 hx0 hi0 ho0_0 hc0 hr) _ (Qyw p0 H r0 (i0 + 1) (v0_1 ++ [(Q1s ([(Fld.mk Q15 (Q14 x0.key)), (Fld.mk Q13 (Q14 x0.value))]))]) hd' (by first | omega | (simp; omega)))
def Q1cp (p0 : List Label) : Val := vL (p0.map Label.enc)
theorem Q1ys (p0 : List Label) : Q1cp p0 = ((Val.mk 4 0 eB (Q5d p0 p0 0 []) [])) := by
  rw [Q14f]
  kernel_rfl
def Q1wy (p0 : List Label) : En := .call 213 [.sl (Label.rows p0)] []
def Q1or (p0 : List Label) : Rs := .ret (.agg (Val.cells (Q1cp p0))) []
def Q1ia (p0 : List Label) : Prop := LSm Label.sm p0
theorem Q1eh (p0 : List Label) (H : Q1ia p0) : (Qfv p0) ∧ True := by
  exact ⟨⟨Nat.le_trans H.1 (Nat.le_of_ble_eq_true rfl), trivial⟩, trivial⟩
theorem Q21n (p0 : List Label) (H : Q1ia p0) : Q5 G (Q1wy p0) (Q1or p0) := by
 unfold Q1or
 rw [Q1ys]
 have hl0 := Qyw p0 ((Q1eh p0 H).1) p0 0 [] (by simp) (by simp)
 obtain ⟨z0, zo0, hl0⟩ := hl0
 exact Q6 (fn := Ir.K2g) rfl VOK.nil [hS 0 true (Val.Q7 (Q5d p0 p0 0 []) 5 rfl), hQ (Val.Q0 (Q5d p0 p0 0 [])).symm] [aV [(1, Val.rows (Q5d p0 p0 0 []))] hl0] (by kernel_rfl)
def Q4v (p0 : Resources) : Val := Resources.enc p0
theorem Q1yx (p0 : Resources) : Q4v p0 = ((Q1s ([(Fld.mk Q4t (Qm p0.cPU)), (Fld.mk Q34 (Qm p0.memory)), (Fld.mk Q46 (Qm p0.disk))]))) := by
  kernel_rfl
def Q1x3 (p0 : Resources) : En := .call 211 [.agg (Resources.cells p0)] []
def Q1ox (p0 : Resources) : Rs := .ret (.agg (Val.cells (Q4v p0))) []
theorem Q1ri (p0 : Resources) : Q5 G (Q1x3 p0) (Q1ox p0) := by
 unfold Q1ox
 rw [Q1yx]
 exact Q6 (fn := Ir.K2r) rfl VOK.nil [] [aN (Q58 p0.cPU), aN (Q58 p0.memory), aN (Q58 p0.disk), aN (Q59 (e' := .call 163 [.sl [(Fld.cells (Fld.mk Q4t (Qm p0.cPU))), (Fld.cells (Fld.mk Q34 (Qm p0.memory))), (Fld.cells (Fld.mk Q46 (Qm p0.disk)))]] []) (Qcs ([(Fld.mk Q4t (Qm p0.cPU)), (Fld.mk Q34 (Qm p0.memory)), (Fld.mk Q46 (Qm p0.disk))]) (Nat.le_of_ble_eq_true rfl)) (by simp only [Qau, Fld.Q12, Fld.Q1n]))] (by kernel_rfl)
def Q5g (p0 : List Probe) : List Probe → Nat → (List Val) → List Val
 | [], _i0, v0_1 =>
  v0_1
 | x0 :: r0, i0, v0_1 =>
  Q5g p0 r0 (i0 + 1) (v0_1 ++ [(Q1s ([(Fld.mk Q2d (Qm x0.delay)), (Fld.mk Q26 (Qm x0.period)), (Fld.mk Q1w (Qm x0.success)), (Fld.mk Q22 (Qm x0.failure))]))])
theorem Q14i (p0 : List Probe) : ∀ (l : List Probe) (i : Nat) (a : List Val), Q5g p0 l i a = a ++ l.map (fun x0 => (Q1s ([(Fld.mk Q2d (Qm x0.delay)), (Fld.mk Q26 (Qm x0.period)), (Fld.mk Q1w (Qm x0.success)), (Fld.mk Q22 (Qm x0.failure))])))
  | [], _, _ => by simp [Q5g]
  | x :: r, i, a => by rw [Q5g, Q14i p0 r]; simp
def Qvw (p0 : List Probe) (i0 : Nat) (v0_1 : List Val) : List PV :=
  [.sl (Probe.rows p0), .un, .bx 0 0, .ms 1 5 0 (List.length v0_1), .int .i64 (i0 : Int)] ++ nuns 41
def Qhy (_p0 : List Probe) (_i0 : Nat) (v0_1 : List Val) : List Ob :=
  [⟨5, 0, true, [.int .i64 0, .int .i64 0, .str eB, .ms 2 5 0 0, .ms 3 6 0 0]⟩, ⟨5, 0, true, (Val.rows v0_1).flatten⟩, ⟨5, 0, true, []⟩, ⟨6, 0, true, []⟩]
def Qf1 (p0 : List Probe) (i0 : Nat) (v0_1 : List Val) : En := .loop 0 Ir.Qjd Ir.Q1gt (Qvw p0 i0 v0_1) (Qhy p0 i0 v0_1)
def Qod (_p0 : List Probe) (q0 : List Val) (z : Nat → PV) (_zo : Nat → List PV) : St :=
  ⟨[z 0, z 1, .bx 0 0, .ms 1 5 0 (List.length q0)] ++ zr z 4 42, [(0, ⟨5, 0, true, [.int .i64 0, .int .i64 0, .str eB, .ms 2 5 0 0, .ms 3 6 0 0]⟩), (1, ⟨5, 0, true, (Val.rows q0).flatten⟩), (2, ⟨5, 0, true, []⟩), (3, ⟨6, 0, true, []⟩)], 260⟩
theorem Q12i (p0 : List Probe) (i0 : Nat) (v0_1 : List Val) : VOK (Go.Pv.look (number 0 (Qhy p0 i0 v0_1))) [(1, Val.rows v0_1)] := (VOK.cons (show Seen _ _ from Q3i (ob := ⟨5, 0, true, (Val.rows v0_1).flatten⟩) (Val.Q7 v0_1 5 rfl)) VOK.nil)
def Qgr (p0 : List Probe) (e : En) (q : List Val) : Prop := ∃ z zo, Q5 G e (.st (.exit 0) (Qod p0 q z zo))
theorem Qt0 (p0 : List Probe) {e e' : En} (h : ∀ r, Q5 G e r → Q5 G e' r) : ∀ q, Qgr p0 e q → Qgr p0 e' q
  | _, ⟨z, zo, hz⟩ => ⟨z, zo, h _ hz⟩
def Qfy (p0 : List Probe) : Prop := (List.length p0 ≤ 137438953472) ∧ True
def Qq0 (p0 : List Probe) (i0 : Nat) (_v0_1 : List Val) : List PV :=
  [.sl (Probe.rows p0), .un, .un, .un, .int .i64 (i0 : Int), .int .i64 (i0 : Int), .sl (Probe.rows p0), .int .i64 ((List.length p0) : Int), .bool false]
def Ql0 (_p0 : List Probe) (_i0 : Nat) (_v0_1 : List Val) : List (Nat × List PV) :=
  []
theorem Q199 (p0 : List Probe) (_H : Qfy p0) (i0 : Nat) (v0_1 : List Val) (_ho0_0 : List.length v0_1 ≤ i0) (hc0 : (decide ((i0 : Int) < ((List.length p0) : Int))) = false) : Qgr p0 (Qf1 p0 i0 v0_1) v0_1 := by
 exact ⟨(envF (Qq0 p0 i0 v0_1)), (zoF (Ql0 p0 i0 v0_1)), Qj (Q12i p0 i0 v0_1) (x := ((.exit 0), Qod p0 v0_1 (envF (Qq0 p0 i0 v0_1)) (zoF (Ql0 p0 i0 v0_1)))) [hP 2 (Qw (Probe.rows p0) (List.length p0) (Probe.Q0 p0)), hB 0 hc0] [] (by kernel_rfl)⟩
theorem Q173 (p0 : List Probe) (H : Qfy p0) (x0 : Probe) (i0 : Nat) (v0_1 : List Val) (hx0 : p0[i0]? = some x0) (hi0 : i0 < List.length p0) (ho0_0 : List.length v0_1 ≤ i0) (hc0 : (decide ((i0 : Int) < ((List.length p0) : Int))) = true) {r : Rs} (hr : Q5 G (Qf1 p0 (i0 + 1) (v0_1 ++ [(Q1s ([(Fld.mk Q2d (Qm x0.delay)), (Fld.mk Q26 (Qm x0.period)), (Fld.mk Q1w (Qm x0.success)), (Fld.mk Q22 (Qm x0.failure))]))])) r) : Q5 G (Qf1 p0 i0 v0_1) r := by
 have hB0 := H.1
 exact Qd (Q12i p0 i0 v0_1) (y := (Qvw p0 (i0 + 1) (v0_1 ++ [(Q1s ([(Fld.mk Q2d (Qm x0.delay)), (Fld.mk Q26 (Qm x0.period)), (Fld.mk Q1w (Qm x0.success)), (Fld.mk Q22 (Qm x0.failure))]))]), Qhy p0 (i0 + 1) (v0_1 ++ [(Q1s ([(Fld.mk Q2d (Qm x0.delay)), (Fld.mk Q26 (Qm x0.period)), (Fld.mk Q1w (Qm x0.success)), (Fld.mk Q22 (Qm x0.failure))]))]))) [hP 2 (Qw (Probe.rows p0) (List.length p0) (Probe.Q0 p0)), hB 0 hc0, hP 3 (Q2g 4 (Probe.rows p0) i0 _ (Probe.Qe hx0) rfl), hP 6 (Q2g 4 (Probe.rows p0) i0 _ (Probe.Qe hx0) rfl), hP 6 (Q2g 4 (Probe.rows p0) i0 _ (Probe.Qe hx0) rfl), hP 6 (Q2g 4 (Probe.rows p0) i0 _ (Probe.Qe hx0) rfl), hV 7 [(2308, Val.rows (v0_1 ++ [(Q1s ([(Fld.mk Q2d (Qm x0.delay)), (Fld.mk Q26 (Qm x0.period)), (Fld.mk Q1w (Qm x0.success)), (Fld.mk Q22 (Qm x0.failure))]))]))] (Q3x 1 2244 2308 5 80 0 0 true (Val.rows v0_1) (Val.rows (v0_1 ++ [(Q1s ([(Fld.mk Q2d (Qm x0.delay)), (Fld.mk Q26 (Qm x0.period)), (Fld.mk Q1w (Qm x0.success)), (Fld.mk Q22 (Qm x0.failure))]))])) (Val.cells (Q1s ([(Fld.mk Q2d (Qm x0.delay)), (Fld.mk Q26 (Qm x0.period)), (Fld.mk Q1w (Qm x0.success)), (Fld.mk Q22 (Qm x0.failure))]))) (List.length v0_1) (List.length (v0_1 ++ [(Q1s ([(Fld.mk Q2d (Qm x0.delay)), (Fld.mk Q26 (Qm x0.period)), (Fld.mk Q1w (Qm x0.success)), (Fld.mk Q22 (Qm x0.failure))]))])) rfl (Val.Q0 v0_1).symm (Val.Q0 (v0_1 ++ [(Q1s ([(Fld.mk Q2d (Qm x0.delay)), (Fld.mk Q26 (Qm x0.period)), (Fld.mk Q1w (Qm x0.success)), (Fld.mk Q22 (Qm x0.failure))]))])).symm (Val.Q1q v0_1 (Q1s ([(Fld.mk Q2d (Qm x0.delay)), (Fld.mk Q26 (Qm x0.period)), (Fld.mk Q1w (Qm x0.success)), (Fld.mk Q22 (Qm x0.failure))]))) (Val.Ql v0_1) rfl (by omega)), hS 0 true (Val.Q7 (v0_1 ++ [(Q1s ([(Fld.mk Q2d (Qm x0.delay)), (Fld.mk Q26 (Qm x0.period)), (Fld.mk Q1w (Qm x0.success)), (Fld.mk Q22 (Qm x0.failure))]))]) 5 rfl), hP 2 (Q28 i0 (by omega))] [aN (Q58 x0.delay), aN (Q58 x0.period), aN (Q58 x0.success), aN (Q58 x0.failure), aN (Q59 (e' := .call 163 [.sl [(Fld.cells (Fld.mk Q2d (Qm x0.delay))), (Fld.cells (Fld.mk Q26 (Qm x0.period))), (Fld.cells (Fld.mk Q1w (Qm x0.success))), (Fld.cells (Fld.mk Q22 (Qm x0.failure)))]] []) (Qcs ([(Fld.mk Q2d (Qm x0.delay)), (Fld.mk Q26 (Qm x0.period)), (Fld.mk Q1w (Qm x0.success)), (Fld.mk Q22 (Qm x0.failure))]) (Nat.le_of_ble_eq_true rfl)) (by simp only [Qau, Fld.Q12, Fld.Q1n]))] (by kernel_rfl) hr
theorem Qz0 (p0 : List Probe) (H : Qfy p0) : ∀ (r0 : List Probe) (i0 : Nat) (v0_1 : List Val), List.drop i0 p0 = r0 → List.length v0_1 ≤ i0 → Qgr p0 (Qf1 p0 i0 v0_1) (Q5g p0 r0 i0 v0_1)
 | [], i0, v0_1, hd, ho0_0 => by
  have hc0 : (decide ((i0 : Int) < ((List.length p0) : Int))) = false := by have := Q1o hd; simp; omega
  rw [Q5g]
  exact Q199 p0 H i0 v0_1 ho0_0 hc0
 | x0 :: r0, i0, v0_1, hd, ho0_0 => by
  obtain ⟨hx0, hi0, hd'⟩ := Q1i hd
  have hc0 : (decide ((i0 : Int) < ((List.length p0) : Int))) = true := by simp; omega
  rw [Q5g]
  exact Qt0 p0 (fun r hr => Q173 p0 H x0 i0 v0_1 hx0 hi0 ho0_0 hc0 hr) _ (Qz0 p0 H r0 (i0 + 1) (v0_1 ++ [(Q1s ([(Fld.mk Q2d (Qm x0.delay)), (Fld.mk Q26 (Qm x0.period)), (Fld.mk Q1w (Qm x0.success)), (Fld.mk Q22 (Qm x0.failure))]))]) hd' (by first | omega | (simp; omega)))
def Q3l (p0 : List Probe) : Val := vL (p0.map Probe.enc)
theorem Q1yw (p0 : List Probe) : Q3l p0 = ((Val.mk 4 0 eB (Q5g p0 p0 0 []) [])) := by
  rw [Q14i]
  kernel_rfl
def Q1x2 (p0 : List Probe) : En := .call 274 [.sl (Probe.rows p0)] []
def Q1ow (p0 : List Probe) : Rs := .ret (.agg (Val.cells (Q3l p0))) []
def Q19u (p0 : List Probe) : Prop := LSm Probe.sm p0
theorem Q1ek (p0 : List Probe) (H : Q19u p0) : (Qfy p0) ∧ True := by
  exact ⟨⟨Nat.le_trans H.1 (Nat.le_of_ble_eq_true rfl), trivial⟩, trivial⟩
theorem Q1jw (p0 : List Probe) (H : Q19u p0) : Q5 G (Q1x2 p0) (Q1ow p0) := by
 unfold Q1ow
 rw [Q1yw]
 have hl0 := Qz0 p0 ((Q1ek p0 H).1) p0 0 [] (by simp) (by simp)
 obtain ⟨z0, zo0, hl0⟩ := hl0
 exact Q6 (fn := Ir.K2n) rfl VOK.nil [hS 0 true (Val.Q7 (Q5g p0 p0 0 []) 5 rfl), hQ (Val.Q0 (Q5g p0 p0 0 [])).symm] [aV [(1, Val.rows (Q5g p0 p0 0 []))] hl0] (by kernel_rfl)
def Q5b (p0 : List Container) : List Container → Nat → (List Val) → List Val
 | [], _i0, v0_1 =>
  v0_1
 | x0 :: r0, i0, v0_1 =>
  Q5b p0 r0 (i0 + 1) (v0_1 ++ [(Q1s ([(Fld.mk Q11 (Q14 x0.name)), (Fld.mk Qx (Q14 x0.image)), (Fld.mk Qh (Q4v x0.request)), (Fld.mk Q1r (Q4v x0.limit)), (Fld.mk Q2y (Q3l x0.live)), (Fld.mk Q2b (Q3l x0.ready)), (Fld.mk Q24 (Q3l x0.startup))]))])
theorem Q14d (p0 : List Container) : ∀ (l : List Container) (i : Nat) (a : List Val), Q5b p0 l i a = a ++ l.map (fun x0 => (Q1s ([(Fld.mk Q11 (Q14 x0.name)), (Fld.mk Qx (Q14 x0.image)), (Fld.mk Qh (Q4v x0.request)), (Fld.mk Q1r (Q4v x0.limit)), (Fld.mk Q2y (Q3l x0.live)), (Fld.mk Q2b (Q3l x0.ready)), (Fld.mk Q24 (Q3l x0.startup))])))
  | [], _, _ => by simp [Q5b]
  | x :: r, i, a => by rw [Q5b, Q14d p0 r]; simp
def Qvq (p0 : List Container) (i0 : Nat) (v0_1 : List Val) : List PV :=
  [.sl (Container.rows p0), .un, .bx 0 0, .ms 1 5 0 (List.length v0_1), .int .i64 (i0 : Int)] ++ nuns 46
def Qhs (_p0 : List Container) (_i0 : Nat) (v0_1 : List Val) : List Ob :=
  [⟨5, 0, true, [.int .i64 0, .int .i64 0, .str eB, .ms 2 5 0 0, .ms 3 6 0 0]⟩, ⟨5, 0, true, (Val.rows v0_1).flatten⟩, ⟨5, 0, true, []⟩, ⟨6, 0, true, []⟩]
def Qew (p0 : List Container) (i0 : Nat) (v0_1 : List Val) : En := .loop 0 Ir.Qj6 Ir.Q1gm (Qvq p0 i0 v0_1) (Qhs p0 i0 v0_1)
def Qo7 (_p0 : List Container) (q0 : List Val) (z : Nat → PV) (_zo : Nat → List PV) : St :=
  ⟨[z 0, z 1, .bx 0 0, .ms 1 5 0 (List.length q0)] ++ zr z 4 47, [(0, ⟨5, 0, true, [.int .i64 0, .int .i64 0, .str eB, .ms 2 5 0 0, .ms 3 6 0 0]⟩), (1, ⟨5, 0, true, (Val.rows q0).flatten⟩), (2, ⟨5, 0, true, []⟩), (3, ⟨6, 0, true, []⟩)], 260⟩
theorem Q12d (p0 : List Container) (i0 : Nat) (v0_1 : List Val) : VOK (Go.Pv.look (number 0 (Qhs p0 i0 v0_1))) [(1, Val.rows v0_1)] := (VOK.cons (show Seen _ _ from Q3i (ob := ⟨5, 0, true, (Val.rows v0_1).flatten⟩) (Val.Q7 v0_1 5 rfl)) VOK.nil)
def Qgl (p0 : List Container) (e : En) (q : List Val) : Prop := ∃ z zo, Q5 G e (.st (.exit 0) (Qo7 p0 q z zo))
theorem Qsu (p0 : List Container) {e e' : En} (h : ∀ r, Q5 G e r → Q5 G e' r) : ∀ q, Qgl p0 e q → Qgl p0 e' q
  | _, ⟨z, zo, hz⟩ => ⟨z, zo, h _ hz⟩
def Qft (p0 : List Container) : Prop := (List.length p0 ≤ 137438953472) ∧ (∀ x0 ∈ p0, Q19u x0.live) ∧ (∀ x0 ∈ p0, Q19u x0.ready) ∧ (∀ x0 ∈ p0, Q19u x0.startup) ∧ True
def Qps (p0 : List Container) (i0 : Nat) (_v0_1 : List Val) : List PV :=
  [.sl (Container.rows p0), .un, .un, .un, .int .i64 (i0 : Int), .un, .int .i64 (i0 : Int), .sl (Container.rows p0), .int .i64 ((List.length p0) : Int), .bool false]
def Qks (_p0 : List Container) (_i0 : Nat) (_v0_1 : List Val) : List (Nat × List PV) :=
  []
theorem Q191 (p0 : List Container) (_H : Qft p0) (i0 : Nat) (v0_1 : List Val) (_ho0_0 : List.length v0_1 ≤ i0) (hc0 : (decide ((i0 : Int) < ((List.length p0) : Int))) = false) : Qgl p0 (Qew p0 i0 v0_1) v0_1 := by
 exact ⟨(envF (Qps p0 i0 v0_1)), (zoF (Qks p0 i0 v0_1)), Qj (Q12d p0 i0 v0_1) (x := ((.exit 0), Qo7 p0 v0_1 (envF (Qps p0 i0 v0_1)) (zoF (Qks p0 i0 v0_1)))) [hP 2 (Qw (Container.rows p0) (List.length p0) (Container.Q0 p0)), hB 0 hc0] [] (by kernel_rfl)⟩
theorem Q16v (p0 : List Container) (H : Qft p0) (x0 : Container) (i0 : Nat) (v0_1 : List Val) (hx0 : p0[i0]? = some x0) (hi0 : i0 < List.length p0) (ho0_0 : List.length v0_1 ≤ i0) (hc0 : (decide ((i0 : Int) < ((List.length p0) : Int))) = true) {r : Rs} (hr : Q5 G (Qew p0 (i0 + 1) (v0_1 ++ [(Q1s ([(Fld.mk Q11 (Q14 x0.name)), (Fld.mk Qx (Q14 x0.image)), (Fld.mk Qh (Q4v x0.request)), (Fld.mk Q1r (Q4v x0.limit)), (Fld.mk Q2y (Q3l x0.live)), (Fld.mk Q2b (Q3l x0.ready)), (Fld.mk Q24 (Q3l x0.startup))]))])) r) : Q5 G (Qew p0 i0 v0_1) r := by
 have hB0 := H.1
 exact Qd (Q12d p0 i0 v0_1) (y := (Qvq p0 (i0 + 1) (v0_1 ++ [(Q1s ([(Fld.mk Q11 (Q14 x0.name)), (Fld.mk Qx (Q14 x0.image)), (Fld.mk Qh (Q4v x0.request)), (Fld.mk Q1r (Q4v x0.limit)), (Fld.mk Q2y (Q3l x0.live)), (Fld.mk Q2b (Q3l x0.ready)), (Fld.mk Q24 (Q3l x0.startup))]))]), Qhs p0 (i0 + 1) (v0_1 ++ [(Q1s ([(Fld.mk Q11 (Q14 x0.name)), (Fld.mk Qx (Q14 x0.image)), (Fld.mk Qh (Q4v x0.request)), (Fld.mk Q1r (Q4v x0.limit)), (Fld.mk Q2y (Q3l x0.live)), (Fld.mk Q2b (Q3l x0.ready)), (Fld.mk Q24 (Q3l x0.startup))]))]))) [hP 2 (Qw (Container.rows p0) (List.length p0) (Container.Q0 p0)), hB 0 hc0, hP 2 (Q2g 11 (Container.rows p0) i0 _ (Container.Qe hx0) rfl), hV 35 [(2692, Val.rows (v0_1 ++ [(Q1s ([(Fld.mk Q11 (Q14 x0.name)), (Fld.mk Qx (Q14 x0.image)), (Fld.mk Qh (Q4v x0.request)), (Fld.mk Q1r (Q4v x0.limit)), (Fld.mk Q2y (Q3l x0.live)), (Fld.mk Q2b (Q3l x0.ready)), (Fld.mk Q24 (Q3l x0.startup))]))]))] (Q3x 1 2628 2692 5 80 0 0 true (Val.rows v0_1) (Val.rows (v0_1 ++ [(Q1s ([(Fld.mk Q11 (Q14 x0.name)), (Fld.mk Qx (Q14 x0.image)), (Fld.mk Qh (Q4v x0.request)), (Fld.mk Q1r (Q4v x0.limit)), (Fld.mk Q2y (Q3l x0.live)), (Fld.mk Q2b (Q3l x0.ready)), (Fld.mk Q24 (Q3l x0.startup))]))])) (Val.cells (Q1s ([(Fld.mk Q11 (Q14 x0.name)), (Fld.mk Qx (Q14 x0.image)), (Fld.mk Qh (Q4v x0.request)), (Fld.mk Q1r (Q4v x0.limit)), (Fld.mk Q2y (Q3l x0.live)), (Fld.mk Q2b (Q3l x0.ready)), (Fld.mk Q24 (Q3l x0.startup))]))) (List.length v0_1) (List.length (v0_1 ++ [(Q1s ([(Fld.mk Q11 (Q14 x0.name)), (Fld.mk Qx (Q14 x0.image)), (Fld.mk Qh (Q4v x0.request)), (Fld.mk Q1r (Q4v x0.limit)), (Fld.mk Q2y (Q3l x0.live)), (Fld.mk Q2b (Q3l x0.ready)), (Fld.mk Q24 (Q3l x0.startup))]))])) rfl (Val.Q0 v0_1).symm (Val.Q0 (v0_1 ++ [(Q1s ([(Fld.mk Q11 (Q14 x0.name)), (Fld.mk Qx (Q14 x0.image)), (Fld.mk Qh (Q4v x0.request)), (Fld.mk Q1r (Q4v x0.limit)), (Fld.mk Q2y (Q3l x0.live)), (Fld.mk Q2b (Q3l x0.ready)), (Fld.mk Q24 (Q3l x0.startup))]))])).symm (Val.Q1q v0_1 (Q1s ([(Fld.mk Q11 (Q14 x0.name)), (Fld.mk Qx (Q14 x0.image)), (Fld.mk Qh (Q4v x0.request)), (Fld.mk Q1r (Q4v x0.limit)), (Fld.mk Q2y (Q3l x0.live)), (Fld.mk Q2b (Q3l x0.ready)), (Fld.mk Q24 (Q3l x0.startup))]))) (Val.Ql v0_1) rfl (by omega)), hS 0 true (Val.Q7 (v0_1 ++ [(Q1s ([(Fld.mk Q11 (Q14 x0.name)), (Fld.mk Qx (Q14 x0.image)), (Fld.mk Qh (Q4v x0.request)), (Fld.mk Q1r (Q4v x0.limit)), (Fld.mk Q2y (Q3l x0.live)), (Fld.mk Q2b (Q3l x0.ready)), (Fld.mk Q24 (Q3l x0.startup))]))]) 5 rfl), hP 2 (Q28 i0 (by omega))] [aN (Qeb x0.name), aN (Qeb x0.image), aN (Q1ri x0.request), aN (Q1ri x0.limit), aN (Q1jw x0.live (H.2.1 x0 (Q2o hx0))), aN (Q1jw x0.ready (H.2.2.1 x0 (Q2o hx0))), aN (Q1jw x0.startup (H.2.2.2.1 x0 (Q2o hx0))), aN (Q59 (e' := .call 163 [.sl [(Fld.cells (Fld.mk Q11 (Q14 x0.name))), (Fld.cells (Fld.mk Qx (Q14 x0.image))), (Fld.cells (Fld.mk Qh (Q4v x0.request))), (Fld.cells (Fld.mk Q1r (Q4v x0.limit))), (Fld.cells (Fld.mk Q2y (Q3l x0.live))), (Fld.cells (Fld.mk Q2b (Q3l x0.ready))), (Fld.cells (Fld.mk Q24 (Q3l x0.startup)))]] []) (Qcs ([(Fld.mk Q11 (Q14 x0.name)), (Fld.mk Qx (Q14 x0.image)), (Fld.mk Qh (Q4v x0.request)), (Fld.mk Q1r (Q4v x0.limit)), (Fld.mk Q2y (Q3l x0.live)), (Fld.mk Q2b (Q3l x0.ready)), (Fld.mk Q24 (Q3l x0.startup))]) (Nat.le_of_ble_eq_true rfl)) (by simp only [Qau, Fld.Q12, Fld.Q1n]))] (by kernel_rfl) hr
theorem Qyu (p0 : List Container) (H : Qft p0) : ∀ (r0 : List Container) (i0 : Nat) (v0_1 : List Val), List.drop i0 p0 = r0 → List.length v0_1 ≤ i0 → Qgl p0 (Qew p0 i0 v0_1) (Q5b p0 r0 i0 v0_1)
 | [], i0, v0_1, hd, ho0_0 => by
  have hc0 : (decide ((i0 : Int) < ((List.length p0) : Int))) = false := by have := Q1o hd; simp; omega
  rw [Q5b]
  exact Q191 p0 H i0 v0_1 ho0_0 hc0
 | x0 :: r0, i0, v0_1, hd, ho0_0 => by
  obtain ⟨hx0, hi0, hd'⟩ := Q1i hd
  have hc0 : (decide ((i0 : Int) < ((List.length p0) : Int))) = true := by simp; omega
  rw [Q5b]
  exact Qsu p0 (fun r hr => Q16v p0 H x0 i0 v0_1 hx0 hi0 ho0_0 hc0 hr) _ (Qyu p0 H r0 (i0 + 1) (v0_1 ++ [(Q1s ([(Fld.mk Q11 (Q14 x0.name)), (Fld.mk Qx (Q14 x0.image)), (Fld.mk Qh (Q4v x0.request)), (Fld.mk Q1r (Q4v x0.limit)), (Fld.mk Q2y (Q3l x0.live)), (Fld.mk Q2b (Q3l x0.ready)), (Fld.mk Q24 (Q3l x0.startup))]))]) hd' (by first | omega | (simp; omega)))
def Q1cn (p0 : List Container) : Val := vL (p0.map Container.enc)
theorem Q1yn (p0 : List Container) : Q1cn p0 = ((Val.mk 4 0 eB (Q5b p0 p0 0 []) [])) := by
  rw [Q14d]
  kernel_rfl
def Q1ws (p0 : List Container) : En := .call 233 [.sl (Container.rows p0)] []
def Q1ol (p0 : List Container) : Rs := .ret (.agg (Val.cells (Q1cn p0))) []
def Q1i6 (p0 : List Container) : Prop := LSm Container.sm p0
theorem Q1ec (p0 : List Container) (H : Q1i6 p0) : (Qft p0) ∧ True := by
  exact ⟨⟨Nat.le_trans H.1 (Nat.le_of_ble_eq_true rfl), (by first | exact H.2 | exact fun x hx => (H.2 x hx).1 | exact fun x hx => (H.2 x hx).2.1 | exact fun x hx => (H.2 x hx).2.2.1 | exact fun x hx => (H.2 x hx).2.2.2.1 | exact fun x hx => (H.2 x hx).2.2.2.2.1), (by first | exact H.2 | exact fun x hx => (H.2 x hx).1 | exact fun x hx => (H.2 x hx).2.1 | exact fun x hx => (H.2 x hx).2.2.1 | exact fun x hx => (H.2 x hx).2.2.2.1 | exact fun x hx => (H.2 x hx).2.2.2.2.1), (by first | exact H.2 | exact fun x hx => (H.2 x hx).1 | exact fun x hx => (H.2 x hx).2.1 | exact fun x hx => (H.2 x hx).2.2.1 | exact fun x hx => (H.2 x hx).2.2.2.1 | exact fun x hx => (H.2 x hx).2.2.2.2.1), trivial⟩, trivial⟩
theorem Q21j (p0 : List Container) (H : Q1i6 p0) : Q5 G (Q1ws p0) (Q1ol p0) := by
 unfold Q1ol
 rw [Q1yn]
 have hl0 := Qyu p0 ((Q1ec p0 H).1) p0 0 [] (by simp) (by simp)
 obtain ⟨z0, zo0, hl0⟩ := hl0
 exact Q6 (fn := Ir.K27) rfl VOK.nil [hS 0 true (Val.Q7 (Q5b p0 p0 0 []) 5 rfl), hQ (Val.Q0 (Q5b p0 p0 0 [])).symm] [aV [(1, Val.rows (Q5b p0 p0 0 []))] hl0] (by kernel_rfl)
def Q2f (p0 : Bool) : Val := vB p0
theorem Q1ym (p0 : Bool) : Q2f p0 = (bif p0 then
    (Val.mk 1 1 eB [] [])
  else
    (Val.mk 1 0 eB [] [])) := by
  cases p0 <;> rfl
def Q1wr (p0 : Bool) : En := .call 167 [.bool p0] []
def Q1ok (p0 : Bool) : Rs := .ret (.agg (Val.cells (Q2f p0))) []
theorem Q101 (p0 : Bool) : Q5 G (Q1wr p0) (Q1ok p0) := by
 unfold Q1ok
 rw [Q1ym]
 cases h0 : p0 with
 | true =>
  exact Q6 (fn := Ir.K24) rfl VOK.nil [] [] (by kernel_rfl)
 | false =>
  exact Q6 (fn := Ir.K24) rfl VOK.nil [] [] (by kernel_rfl)
def Q5e (p0 : List NodeTerm) : List NodeTerm → Nat → (List Val) → List Val
 | [], _i0, v0_1 =>
  v0_1
 | x0 :: r0, i0, v0_1 =>
  Q5e p0 r0 (i0 + 1) (v0_1 ++ [(Q1s ([(Fld.mk Q9 (Q2f x0.required)), (Fld.mk Q8 (Q3e x0.selector)), (Fld.mk Q10 (Qm x0.weight))]))])
theorem Q14g (p0 : List NodeTerm) : ∀ (l : List NodeTerm) (i : Nat) (a : List Val), Q5e p0 l i a = a ++ l.map (fun x0 => (Q1s ([(Fld.mk Q9 (Q2f x0.required)), (Fld.mk Q8 (Q3e x0.selector)), (Fld.mk Q10 (Qm x0.weight))])))
  | [], _, _ => by simp [Q5e]
  | x :: r, i, a => by rw [Q5e, Q14g p0 r]; simp
def Qvu (p0 : List NodeTerm) (i0 : Nat) (v0_1 : List Val) : List PV :=
  [.sl (NodeTerm.rows p0), .un, .bx 0 0, .ms 1 5 0 (List.length v0_1), .int .i64 (i0 : Int)] ++ nuns 34
def Qhw (_p0 : List NodeTerm) (_i0 : Nat) (v0_1 : List Val) : List Ob :=
  [⟨5, 0, true, [.int .i64 0, .int .i64 0, .str eB, .ms 2 5 0 0, .ms 3 6 0 0]⟩, ⟨5, 0, true, (Val.rows v0_1).flatten⟩, ⟨5, 0, true, []⟩, ⟨6, 0, true, []⟩]
def Qez (p0 : List NodeTerm) (i0 : Nat) (v0_1 : List Val) : En := .loop 0 Ir.Qjb Ir.Q1gr (Qvu p0 i0 v0_1) (Qhw p0 i0 v0_1)
def Qob (_p0 : List NodeTerm) (q0 : List Val) (z : Nat → PV) (_zo : Nat → List PV) : St :=
  ⟨[z 0, z 1, .bx 0 0, .ms 1 5 0 (List.length q0)] ++ zr z 4 35, [(0, ⟨5, 0, true, [.int .i64 0, .int .i64 0, .str eB, .ms 2 5 0 0, .ms 3 6 0 0]⟩), (1, ⟨5, 0, true, (Val.rows q0).flatten⟩), (2, ⟨5, 0, true, []⟩), (3, ⟨6, 0, true, []⟩)], 260⟩
theorem Q12g (p0 : List NodeTerm) (i0 : Nat) (v0_1 : List Val) : VOK (Go.Pv.look (number 0 (Qhw p0 i0 v0_1))) [(1, Val.rows v0_1)] := (VOK.cons (show Seen _ _ from Q3i (ob := ⟨5, 0, true, (Val.rows v0_1).flatten⟩) (Val.Q7 v0_1 5 rfl)) VOK.nil)
def Qgp (p0 : List NodeTerm) (e : En) (q : List Val) : Prop := ∃ z zo, Q5 G e (.st (.exit 0) (Qob p0 q z zo))
theorem Qsy (p0 : List NodeTerm) {e e' : En} (h : ∀ r, Q5 G e r → Q5 G e' r) : ∀ q, Qgp p0 e q → Qgp p0 e' q
  | _, ⟨z, zo, hz⟩ => ⟨z, zo, h _ hz⟩
def Qfw (p0 : List NodeTerm) : Prop := (List.length p0 ≤ 137438953472) ∧ (∀ x0 ∈ p0, Q14z x0.selector) ∧ True
def Qpy (p0 : List NodeTerm) (i0 : Nat) (_v0_1 : List Val) : List PV :=
  [.sl (NodeTerm.rows p0), .un, .un, .un, .int .i64 (i0 : Int), .int .i64 (i0 : Int), .sl (NodeTerm.rows p0), .int .i64 ((List.length p0) : Int), .bool false]
def Qky (_p0 : List NodeTerm) (_i0 : Nat) (_v0_1 : List Val) : List (Nat × List PV) :=
  []
theorem Q197 (p0 : List NodeTerm) (_H : Qfw p0) (i0 : Nat) (v0_1 : List Val) (_ho0_0 : List.length v0_1 ≤ i0) (hc0 : (decide ((i0 : Int) < ((List.length p0) : Int))) = false) : Qgp p0 (Qez p0 i0 v0_1) v0_1 := by
 exact ⟨(envF (Qpy p0 i0 v0_1)), (zoF (Qky p0 i0 v0_1)), Qj (Q12g p0 i0 v0_1) (x := ((.exit 0), Qob p0 v0_1 (envF (Qpy p0 i0 v0_1)) (zoF (Qky p0 i0 v0_1)))) [hP 2 (Qw (NodeTerm.rows p0) (List.length p0) (NodeTerm.Q0 p0)), hB 0 hc0] [] (by kernel_rfl)⟩
theorem Q171 (p0 : List NodeTerm) (H : Qfw p0) (x0 : NodeTerm) (i0 : Nat) (v0_1 : List Val) (hx0 : p0[i0]? = some x0) (hi0 : i0 < List.length p0) (ho0_0 : List.length v0_1 ≤ i0) (hc0 : (decide ((i0 : Int) < ((List.length p0) : Int))) = true) {r : Rs} (hr : Q5 G (Qez p0 (i0 + 1) (v0_1 ++ [(Q1s ([(Fld.mk Q9 (Q2f x0.required)), (Fld.mk Q8 (Q3e x0.selector)), (Fld.mk Q10 (Qm x0.weight))]))])) r) : Q5 G (Qez p0 i0 v0_1) r := by
 have hB0 := H.1
 exact Qd (Q12g p0 i0 v0_1) (y := (Qvu p0 (i0 + 1) (v0_1 ++ [(Q1s ([(Fld.mk Q9 (Q2f x0.required)), (Fld.mk Q8 (Q3e x0.selector)), (Fld.mk Q10 (Qm x0.weight))]))]), Qhw p0 (i0 + 1) (v0_1 ++ [(Q1s ([(Fld.mk Q9 (Q2f x0.required)), (Fld.mk Q8 (Q3e x0.selector)), (Fld.mk Q10 (Qm x0.weight))]))]))) [hP 2 (Qw (NodeTerm.rows p0) (List.length p0) (NodeTerm.Q0 p0)), hB 0 hc0, hP 3 (Q2g 3 (NodeTerm.rows p0) i0 _ (NodeTerm.Qe hx0) rfl), hP 6 (Q2g 3 (NodeTerm.rows p0) i0 _ (NodeTerm.Qe hx0) rfl), hP 6 (Q2g 3 (NodeTerm.rows p0) i0 _ (NodeTerm.Qe hx0) rfl), hV 7 [(1860, Val.rows (v0_1 ++ [(Q1s ([(Fld.mk Q9 (Q2f x0.required)), (Fld.mk Q8 (Q3e x0.selector)), (Fld.mk Q10 (Qm x0.weight))]))]))] (Q3x 1 1796 1860 5 80 0 0 true (Val.rows v0_1) (Val.rows (v0_1 ++ [(Q1s ([(Fld.mk Q9 (Q2f x0.required)), (Fld.mk Q8 (Q3e x0.selector)), (Fld.mk Q10 (Qm x0.weight))]))])) (Val.cells (Q1s ([(Fld.mk Q9 (Q2f x0.required)), (Fld.mk Q8 (Q3e x0.selector)), (Fld.mk Q10 (Qm x0.weight))]))) (List.length v0_1) (List.length (v0_1 ++ [(Q1s ([(Fld.mk Q9 (Q2f x0.required)), (Fld.mk Q8 (Q3e x0.selector)), (Fld.mk Q10 (Qm x0.weight))]))])) rfl (Val.Q0 v0_1).symm (Val.Q0 (v0_1 ++ [(Q1s ([(Fld.mk Q9 (Q2f x0.required)), (Fld.mk Q8 (Q3e x0.selector)), (Fld.mk Q10 (Qm x0.weight))]))])).symm (Val.Q1q v0_1 (Q1s ([(Fld.mk Q9 (Q2f x0.required)), (Fld.mk Q8 (Q3e x0.selector)), (Fld.mk Q10 (Qm x0.weight))]))) (Val.Ql v0_1) rfl (by omega)), hS 0 true (Val.Q7 (v0_1 ++ [(Q1s ([(Fld.mk Q9 (Q2f x0.required)), (Fld.mk Q8 (Q3e x0.selector)), (Fld.mk Q10 (Qm x0.weight))]))]) 5 rfl), hP 2 (Q28 i0 (by omega))] [aN (Q101 x0.required), aN (Q1ft x0.selector (H.2.1 x0 (Q2o hx0))), aN (Q58 x0.weight), aN (Q59 (e' := .call 163 [.sl [(Fld.cells (Fld.mk Q9 (Q2f x0.required))), (Fld.cells (Fld.mk Q8 (Q3e x0.selector))), (Fld.cells (Fld.mk Q10 (Qm x0.weight)))]] []) (Qcs ([(Fld.mk Q9 (Q2f x0.required)), (Fld.mk Q8 (Q3e x0.selector)), (Fld.mk Q10 (Qm x0.weight))]) (Nat.le_of_ble_eq_true rfl)) (by simp only [Qau, Fld.Q12, Fld.Q1n]))] (by kernel_rfl) hr
theorem Qyy (p0 : List NodeTerm) (H : Qfw p0) : ∀ (r0 : List NodeTerm) (i0 : Nat) (v0_1 : List Val), List.drop i0 p0 = r0 → List.length v0_1 ≤ i0 → Qgp p0 (Qez p0 i0 v0_1) (Q5e p0 r0 i0 v0_1)
 | [], i0, v0_1, hd, ho0_0 => by
  have hc0 : (decide ((i0 : Int) < ((List.length p0) : Int))) = false := by have := Q1o hd; simp; omega
  rw [Q5e]
  exact Q197 p0 H i0 v0_1 ho0_0 hc0
 | x0 :: r0, i0, v0_1, hd, ho0_0 => by
  obtain ⟨hx0, hi0, hd'⟩ := Q1i hd
  have hc0 : (decide ((i0 : Int) < ((List.length p0) : Int))) = true := by simp; omega
  rw [Q5e]
  exact Qsy p0 (fun r hr => Q171 p0 H x0 i0 v0_1 hx0 hi0 ho0_0 hc0 hr) _ (Qyy p0 H r0 (i0 + 1) (v0_1 ++ [(Q1s ([(Fld.mk Q9 (Q2f x0.required)), (Fld.mk Q8 (Q3e x0.selector)), (Fld.mk Q10 (Qm x0.weight))]))]) hd' (by first | omega | (simp; omega)))
def Q1cq (p0 : List NodeTerm) : Val := vL (p0.map NodeTerm.enc)
theorem Q1yt (p0 : List NodeTerm) : Q1cq p0 = ((Val.mk 4 0 eB (Q5e p0 p0 0 []) [])) := by
  rw [Q14g]
  kernel_rfl
def Q1wz (p0 : List NodeTerm) : En := .call 234 [.sl (NodeTerm.rows p0)] []
def Q1ot (p0 : List NodeTerm) : Rs := .ret (.agg (Val.cells (Q1cq p0))) []
def Q1ib (p0 : List NodeTerm) : Prop := LSm NodeTerm.sm p0
theorem Q1ei (p0 : List NodeTerm) (H : Q1ib p0) : (Qfw p0) ∧ True := by
  exact ⟨⟨Nat.le_trans H.1 (Nat.le_of_ble_eq_true rfl), (by first | exact H.2 | exact fun x hx => (H.2 x hx).1 | exact fun x hx => (H.2 x hx).2.1 | exact fun x hx => (H.2 x hx).2.2.1 | exact fun x hx => (H.2 x hx).2.2.2.1 | exact fun x hx => (H.2 x hx).2.2.2.2.1), trivial⟩, trivial⟩
theorem Q21o (p0 : List NodeTerm) (H : Q1ib p0) : Q5 G (Q1wz p0) (Q1ot p0) := by
 unfold Q1ot
 rw [Q1yt]
 have hl0 := Qyy p0 ((Q1ei p0 H).1) p0 0 [] (by simp) (by simp)
 obtain ⟨z0, zo0, hl0⟩ := hl0
 exact Q6 (fn := Ir.K2j) rfl VOK.nil [hS 0 true (Val.Q7 (Q5e p0 p0 0 []) 5 rfl), hQ (Val.Q0 (Q5e p0 p0 0 [])).symm] [aV [(1, Val.rows (Q5e p0 p0 0 []))] hl0] (by kernel_rfl)
def Q5f (p0 : List PodTerm) : List PodTerm → Nat → (List Val) → List Val
 | [], _i0, v0_1 =>
  v0_1
 | x0 :: r0, i0, v0_1 =>
  Q5f p0 r0 (i0 + 1) (v0_1 ++ [(Q1s ([(Fld.mk Q9 (Q2f x0.required)), (Fld.mk Q2t (Q2f x0.anti)), (Fld.mk Q8 (Q3e x0.selector)), (Fld.mk Qi (Q14 x0.topology)), (Fld.mk Q10 (Qm x0.weight))]))])
theorem Q14h (p0 : List PodTerm) : ∀ (l : List PodTerm) (i : Nat) (a : List Val), Q5f p0 l i a = a ++ l.map (fun x0 => (Q1s ([(Fld.mk Q9 (Q2f x0.required)), (Fld.mk Q2t (Q2f x0.anti)), (Fld.mk Q8 (Q3e x0.selector)), (Fld.mk Qi (Q14 x0.topology)), (Fld.mk Q10 (Qm x0.weight))])))
  | [], _, _ => by simp [Q5f]
  | x :: r, i, a => by rw [Q5f, Q14h p0 r]; simp
def Qvv (p0 : List PodTerm) (i0 : Nat) (v0_1 : List Val) : List PV :=
  [.sl (PodTerm.rows p0), .un, .bx 0 0, .ms 1 5 0 (List.length v0_1), .int .i64 (i0 : Int)] ++ nuns 38
def Qhx (_p0 : List PodTerm) (_i0 : Nat) (v0_1 : List Val) : List Ob :=
  [⟨5, 0, true, [.int .i64 0, .int .i64 0, .str eB, .ms 2 5 0 0, .ms 3 6 0 0]⟩, ⟨5, 0, true, (Val.rows v0_1).flatten⟩, ⟨5, 0, true, []⟩, ⟨6, 0, true, []⟩]
def Qf0 (p0 : List PodTerm) (i0 : Nat) (v0_1 : List Val) : En := .loop 0 Ir.Qjc Ir.Q1gs (Qvv p0 i0 v0_1) (Qhx p0 i0 v0_1)
def Qoc (_p0 : List PodTerm) (q0 : List Val) (z : Nat → PV) (_zo : Nat → List PV) : St :=
  ⟨[z 0, z 1, .bx 0 0, .ms 1 5 0 (List.length q0)] ++ zr z 4 39, [(0, ⟨5, 0, true, [.int .i64 0, .int .i64 0, .str eB, .ms 2 5 0 0, .ms 3 6 0 0]⟩), (1, ⟨5, 0, true, (Val.rows q0).flatten⟩), (2, ⟨5, 0, true, []⟩), (3, ⟨6, 0, true, []⟩)], 260⟩
theorem Q12h (p0 : List PodTerm) (i0 : Nat) (v0_1 : List Val) : VOK (Go.Pv.look (number 0 (Qhx p0 i0 v0_1))) [(1, Val.rows v0_1)] := (VOK.cons (show Seen _ _ from Q3i (ob := ⟨5, 0, true, (Val.rows v0_1).flatten⟩) (Val.Q7 v0_1 5 rfl)) VOK.nil)
def Qgq (p0 : List PodTerm) (e : En) (q : List Val) : Prop := ∃ z zo, Q5 G e (.st (.exit 0) (Qoc p0 q z zo))
theorem Qsz (p0 : List PodTerm) {e e' : En} (h : ∀ r, Q5 G e r → Q5 G e' r) : ∀ q, Qgq p0 e q → Qgq p0 e' q
  | _, ⟨z, zo, hz⟩ => ⟨z, zo, h _ hz⟩
def Qfx (p0 : List PodTerm) : Prop := (List.length p0 ≤ 137438953472) ∧ (∀ x0 ∈ p0, Q14z x0.selector) ∧ True
def Qpz (p0 : List PodTerm) (i0 : Nat) (_v0_1 : List Val) : List PV :=
  [.sl (PodTerm.rows p0), .un, .un, .un, .int .i64 (i0 : Int), .un, .int .i64 (i0 : Int), .sl (PodTerm.rows p0), .int .i64 ((List.length p0) : Int), .bool false]
def Qkz (_p0 : List PodTerm) (_i0 : Nat) (_v0_1 : List Val) : List (Nat × List PV) :=
  []
theorem Q198 (p0 : List PodTerm) (_H : Qfx p0) (i0 : Nat) (v0_1 : List Val) (_ho0_0 : List.length v0_1 ≤ i0) (hc0 : (decide ((i0 : Int) < ((List.length p0) : Int))) = false) : Qgq p0 (Qf0 p0 i0 v0_1) v0_1 := by
 exact ⟨(envF (Qpz p0 i0 v0_1)), (zoF (Qkz p0 i0 v0_1)), Qj (Q12h p0 i0 v0_1) (x := ((.exit 0), Qoc p0 v0_1 (envF (Qpz p0 i0 v0_1)) (zoF (Qkz p0 i0 v0_1)))) [hP 2 (Qw (PodTerm.rows p0) (List.length p0) (PodTerm.Q0 p0)), hB 0 hc0] [] (by kernel_rfl)⟩
theorem Q172 (p0 : List PodTerm) (H : Qfx p0) (x0 : PodTerm) (i0 : Nat) (v0_1 : List Val) (hx0 : p0[i0]? = some x0) (hi0 : i0 < List.length p0) (ho0_0 : List.length v0_1 ≤ i0) (hc0 : (decide ((i0 : Int) < ((List.length p0) : Int))) = true) {r : Rs} (hr : Q5 G (Qf0 p0 (i0 + 1) (v0_1 ++ [(Q1s ([(Fld.mk Q9 (Q2f x0.required)), (Fld.mk Q2t (Q2f x0.anti)), (Fld.mk Q8 (Q3e x0.selector)), (Fld.mk Qi (Q14 x0.topology)), (Fld.mk Q10 (Qm x0.weight))]))])) r) : Q5 G (Qf0 p0 i0 v0_1) r := by
 have hB0 := H.1
 exact Qd (Q12h p0 i0 v0_1) (y := (Qvv p0 (i0 + 1) (v0_1 ++ [(Q1s ([(Fld.mk Q9 (Q2f x0.required)), (Fld.mk Q2t (Q2f x0.anti)), (Fld.mk Q8 (Q3e x0.selector)), (Fld.mk Qi (Q14 x0.topology)), (Fld.mk Q10 (Qm x0.weight))]))]), Qhx p0 (i0 + 1) (v0_1 ++ [(Q1s ([(Fld.mk Q9 (Q2f x0.required)), (Fld.mk Q2t (Q2f x0.anti)), (Fld.mk Q8 (Q3e x0.selector)), (Fld.mk Qi (Q14 x0.topology)), (Fld.mk Q10 (Qm x0.weight))]))]))) [hP 2 (Qw (PodTerm.rows p0) (List.length p0) (PodTerm.Q0 p0)), hB 0 hc0, hP 2 (Q2g 5 (PodTerm.rows p0) i0 _ (PodTerm.Qe hx0) rfl), hV 27 [(2180, Val.rows (v0_1 ++ [(Q1s ([(Fld.mk Q9 (Q2f x0.required)), (Fld.mk Q2t (Q2f x0.anti)), (Fld.mk Q8 (Q3e x0.selector)), (Fld.mk Qi (Q14 x0.topology)), (Fld.mk Q10 (Qm x0.weight))]))]))] (Q3x 1 2116 2180 5 80 0 0 true (Val.rows v0_1) (Val.rows (v0_1 ++ [(Q1s ([(Fld.mk Q9 (Q2f x0.required)), (Fld.mk Q2t (Q2f x0.anti)), (Fld.mk Q8 (Q3e x0.selector)), (Fld.mk Qi (Q14 x0.topology)), (Fld.mk Q10 (Qm x0.weight))]))])) (Val.cells (Q1s ([(Fld.mk Q9 (Q2f x0.required)), (Fld.mk Q2t (Q2f x0.anti)), (Fld.mk Q8 (Q3e x0.selector)), (Fld.mk Qi (Q14 x0.topology)), (Fld.mk Q10 (Qm x0.weight))]))) (List.length v0_1) (List.length (v0_1 ++ [(Q1s ([(Fld.mk Q9 (Q2f x0.required)), (Fld.mk Q2t (Q2f x0.anti)), (Fld.mk Q8 (Q3e x0.selector)), (Fld.mk Qi (Q14 x0.topology)), (Fld.mk Q10 (Qm x0.weight))]))])) rfl (Val.Q0 v0_1).symm (Val.Q0 (v0_1 ++ [(Q1s ([(Fld.mk Q9 (Q2f x0.required)), (Fld.mk Q2t (Q2f x0.anti)), (Fld.mk Q8 (Q3e x0.selector)), (Fld.mk Qi (Q14 x0.topology)), (Fld.mk Q10 (Qm x0.weight))]))])).symm (Val.Q1q v0_1 (Q1s ([(Fld.mk Q9 (Q2f x0.required)), (Fld.mk Q2t (Q2f x0.anti)), (Fld.mk Q8 (Q3e x0.selector)), (Fld.mk Qi (Q14 x0.topology)), (Fld.mk Q10 (Qm x0.weight))]))) (Val.Ql v0_1) rfl (by omega)), hS 0 true (Val.Q7 (v0_1 ++ [(Q1s ([(Fld.mk Q9 (Q2f x0.required)), (Fld.mk Q2t (Q2f x0.anti)), (Fld.mk Q8 (Q3e x0.selector)), (Fld.mk Qi (Q14 x0.topology)), (Fld.mk Q10 (Qm x0.weight))]))]) 5 rfl), hP 2 (Q28 i0 (by omega))] [aN (Q101 x0.required), aN (Q101 x0.anti), aN (Q1ft x0.selector (H.2.1 x0 (Q2o hx0))), aN (Qeb x0.topology), aN (Q58 x0.weight), aN (Q59 (e' := .call 163 [.sl [(Fld.cells (Fld.mk Q9 (Q2f x0.required))), (Fld.cells (Fld.mk Q2t (Q2f x0.anti))), (Fld.cells (Fld.mk Q8 (Q3e x0.selector))), (Fld.cells (Fld.mk Qi (Q14 x0.topology))), (Fld.cells (Fld.mk Q10 (Qm x0.weight)))]] []) (Qcs ([(Fld.mk Q9 (Q2f x0.required)), (Fld.mk Q2t (Q2f x0.anti)), (Fld.mk Q8 (Q3e x0.selector)), (Fld.mk Qi (Q14 x0.topology)), (Fld.mk Q10 (Qm x0.weight))]) (Nat.le_of_ble_eq_true rfl)) (by simp only [Qau, Fld.Q12, Fld.Q1n]))] (by kernel_rfl) hr
theorem Qyz (p0 : List PodTerm) (H : Qfx p0) : ∀ (r0 : List PodTerm) (i0 : Nat) (v0_1 : List Val), List.drop i0 p0 = r0 → List.length v0_1 ≤ i0 → Qgq p0 (Qf0 p0 i0 v0_1) (Q5f p0 r0 i0 v0_1)
 | [], i0, v0_1, hd, ho0_0 => by
  have hc0 : (decide ((i0 : Int) < ((List.length p0) : Int))) = false := by have := Q1o hd; simp; omega
  rw [Q5f]
  exact Q198 p0 H i0 v0_1 ho0_0 hc0
 | x0 :: r0, i0, v0_1, hd, ho0_0 => by
  obtain ⟨hx0, hi0, hd'⟩ := Q1i hd
  have hc0 : (decide ((i0 : Int) < ((List.length p0) : Int))) = true := by simp; omega
  rw [Q5f]
  exact Qsz p0 (fun r hr => Q172 p0 H x0 i0 v0_1 hx0 hi0 ho0_0 hc0 hr) _ (Qyz p0 H r0 (i0 + 1) (v0_1 ++ [(Q1s ([(Fld.mk Q9 (Q2f x0.required)), (Fld.mk Q2t (Q2f x0.anti)), (Fld.mk Q8 (Q3e x0.selector)), (Fld.mk Qi (Q14 x0.topology)), (Fld.mk Q10 (Qm x0.weight))]))]) hd' (by first | omega | (simp; omega)))
def Q1cs (p0 : List PodTerm) : Val := vL (p0.map PodTerm.enc)
theorem Q1yv (p0 : List PodTerm) : Q1cs p0 = ((Val.mk 4 0 eB (Q5f p0 p0 0 []) [])) := by
  rw [Q14h]
  kernel_rfl
def Q1x1 (p0 : List PodTerm) : En := .call 235 [.sl (PodTerm.rows p0)] []
def Q1ov (p0 : List PodTerm) : Rs := .ret (.agg (Val.cells (Q1cs p0))) []
def Q1id (p0 : List PodTerm) : Prop := LSm PodTerm.sm p0
theorem Q1ej (p0 : List PodTerm) (H : Q1id p0) : (Qfx p0) ∧ True := by
  exact ⟨⟨Nat.le_trans H.1 (Nat.le_of_ble_eq_true rfl), (by first | exact H.2 | exact fun x hx => (H.2 x hx).1 | exact fun x hx => (H.2 x hx).2.1 | exact fun x hx => (H.2 x hx).2.2.1 | exact fun x hx => (H.2 x hx).2.2.2.1 | exact fun x hx => (H.2 x hx).2.2.2.2.1), trivial⟩, trivial⟩
theorem Q21q (p0 : List PodTerm) (H : Q1id p0) : Q5 G (Q1x1 p0) (Q1ov p0) := by
 unfold Q1ov
 rw [Q1yv]
 have hl0 := Qyz p0 ((Q1ej p0 H).1) p0 0 [] (by simp) (by simp)
 obtain ⟨z0, zo0, hl0⟩ := hl0
 exact Q6 (fn := Ir.K2l) rfl VOK.nil [hS 0 true (Val.Q7 (Q5f p0 p0 0 []) 5 rfl), hQ (Val.Q0 (Q5f p0 p0 0 [])).symm] [aV [(1, Val.rows (Q5f p0 p0 0 []))] hl0] (by kernel_rfl)
def Q5i (p0 : List SpreadRule) : List SpreadRule → Nat → (List Val) → List Val
 | [], _i0, v0_1 =>
  v0_1
 | x0 :: r0, i0, v0_1 =>
  Q5i p0 r0 (i0 + 1) (v0_1 ++ [(Q1s ([(Fld.mk Q1p (Qm x0.maxSkew)), (Fld.mk Qi (Q14 x0.topology)), (Fld.mk Q8 (Q3e x0.selector)), (Fld.mk Q9 (Q2f x0.required))]))])
theorem Q14k (p0 : List SpreadRule) : ∀ (l : List SpreadRule) (i : Nat) (a : List Val), Q5i p0 l i a = a ++ l.map (fun x0 => (Q1s ([(Fld.mk Q1p (Qm x0.maxSkew)), (Fld.mk Qi (Q14 x0.topology)), (Fld.mk Q8 (Q3e x0.selector)), (Fld.mk Q9 (Q2f x0.required))])))
  | [], _, _ => by simp [Q5i]
  | x :: r, i, a => by rw [Q5i, Q14k p0 r]; simp
def Qvy (p0 : List SpreadRule) (i0 : Nat) (v0_1 : List Val) : List PV :=
  [.sl (SpreadRule.rows p0), .un, .bx 0 0, .ms 1 5 0 (List.length v0_1), .int .i64 (i0 : Int)] ++ nuns 34
def Qi0 (_p0 : List SpreadRule) (_i0 : Nat) (v0_1 : List Val) : List Ob :=
  [⟨5, 0, true, [.int .i64 0, .int .i64 0, .str eB, .ms 2 5 0 0, .ms 3 6 0 0]⟩, ⟨5, 0, true, (Val.rows v0_1).flatten⟩, ⟨5, 0, true, []⟩, ⟨6, 0, true, []⟩]
def Qf3 (p0 : List SpreadRule) (i0 : Nat) (v0_1 : List Val) : En := .loop 0 Ir.Qjf Ir.Q1gv (Qvy p0 i0 v0_1) (Qi0 p0 i0 v0_1)
def Qof (_p0 : List SpreadRule) (q0 : List Val) (z : Nat → PV) (_zo : Nat → List PV) : St :=
  ⟨[z 0, z 1, .bx 0 0, .ms 1 5 0 (List.length q0)] ++ zr z 4 35, [(0, ⟨5, 0, true, [.int .i64 0, .int .i64 0, .str eB, .ms 2 5 0 0, .ms 3 6 0 0]⟩), (1, ⟨5, 0, true, (Val.rows q0).flatten⟩), (2, ⟨5, 0, true, []⟩), (3, ⟨6, 0, true, []⟩)], 260⟩
theorem Q12k (p0 : List SpreadRule) (i0 : Nat) (v0_1 : List Val) : VOK (Go.Pv.look (number 0 (Qi0 p0 i0 v0_1))) [(1, Val.rows v0_1)] := (VOK.cons (show Seen _ _ from Q3i (ob := ⟨5, 0, true, (Val.rows v0_1).flatten⟩) (Val.Q7 v0_1 5 rfl)) VOK.nil)
def Qgt (p0 : List SpreadRule) (e : En) (q : List Val) : Prop := ∃ z zo, Q5 G e (.st (.exit 0) (Qof p0 q z zo))
theorem Qt2 (p0 : List SpreadRule) {e e' : En} (h : ∀ r, Q5 G e r → Q5 G e' r) : ∀ q, Qgt p0 e q → Qgt p0 e' q
  | _, ⟨z, zo, hz⟩ => ⟨z, zo, h _ hz⟩
def Qg0 (p0 : List SpreadRule) : Prop := (List.length p0 ≤ 137438953472) ∧ (∀ x0 ∈ p0, Q14z x0.selector) ∧ True
def Qq2 (p0 : List SpreadRule) (i0 : Nat) (_v0_1 : List Val) : List PV :=
  [.sl (SpreadRule.rows p0), .un, .un, .un, .int .i64 (i0 : Int), .un, .int .i64 (i0 : Int), .sl (SpreadRule.rows p0), .int .i64 ((List.length p0) : Int), .bool false]
def Ql2 (_p0 : List SpreadRule) (_i0 : Nat) (_v0_1 : List Val) : List (Nat × List PV) :=
  []
theorem Q19b (p0 : List SpreadRule) (_H : Qg0 p0) (i0 : Nat) (v0_1 : List Val) (_ho0_0 : List.length v0_1 ≤ i0) (hc0 : (decide ((i0 : Int) < ((List.length p0) : Int))) = false) : Qgt p0 (Qf3 p0 i0 v0_1) v0_1 := by
 exact ⟨(envF (Qq2 p0 i0 v0_1)), (zoF (Ql2 p0 i0 v0_1)), Qj (Q12k p0 i0 v0_1) (x := ((.exit 0), Qof p0 v0_1 (envF (Qq2 p0 i0 v0_1)) (zoF (Ql2 p0 i0 v0_1)))) [hP 2 (Qw (SpreadRule.rows p0) (List.length p0) (SpreadRule.Q0 p0)), hB 0 hc0] [] (by kernel_rfl)⟩
theorem Q175 (p0 : List SpreadRule) (H : Qg0 p0) (x0 : SpreadRule) (i0 : Nat) (v0_1 : List Val) (hx0 : p0[i0]? = some x0) (hi0 : i0 < List.length p0) (ho0_0 : List.length v0_1 ≤ i0) (hc0 : (decide ((i0 : Int) < ((List.length p0) : Int))) = true) {r : Rs} (hr : Q5 G (Qf3 p0 (i0 + 1) (v0_1 ++ [(Q1s ([(Fld.mk Q1p (Qm x0.maxSkew)), (Fld.mk Qi (Q14 x0.topology)), (Fld.mk Q8 (Q3e x0.selector)), (Fld.mk Q9 (Q2f x0.required))]))])) r) : Q5 G (Qf3 p0 i0 v0_1) r := by
 have hB0 := H.1
 exact Qd (Q12k p0 i0 v0_1) (y := (Qvy p0 (i0 + 1) (v0_1 ++ [(Q1s ([(Fld.mk Q1p (Qm x0.maxSkew)), (Fld.mk Qi (Q14 x0.topology)), (Fld.mk Q8 (Q3e x0.selector)), (Fld.mk Q9 (Q2f x0.required))]))]), Qi0 p0 (i0 + 1) (v0_1 ++ [(Q1s ([(Fld.mk Q1p (Qm x0.maxSkew)), (Fld.mk Qi (Q14 x0.topology)), (Fld.mk Q8 (Q3e x0.selector)), (Fld.mk Q9 (Q2f x0.required))]))]))) [hP 2 (Qw (SpreadRule.rows p0) (List.length p0) (SpreadRule.Q0 p0)), hB 0 hc0, hP 2 (Q2g 4 (SpreadRule.rows p0) i0 _ (SpreadRule.Qe hx0) rfl), hV 23 [(1924, Val.rows (v0_1 ++ [(Q1s ([(Fld.mk Q1p (Qm x0.maxSkew)), (Fld.mk Qi (Q14 x0.topology)), (Fld.mk Q8 (Q3e x0.selector)), (Fld.mk Q9 (Q2f x0.required))]))]))] (Q3x 1 1860 1924 5 80 0 0 true (Val.rows v0_1) (Val.rows (v0_1 ++ [(Q1s ([(Fld.mk Q1p (Qm x0.maxSkew)), (Fld.mk Qi (Q14 x0.topology)), (Fld.mk Q8 (Q3e x0.selector)), (Fld.mk Q9 (Q2f x0.required))]))])) (Val.cells (Q1s ([(Fld.mk Q1p (Qm x0.maxSkew)), (Fld.mk Qi (Q14 x0.topology)), (Fld.mk Q8 (Q3e x0.selector)), (Fld.mk Q9 (Q2f x0.required))]))) (List.length v0_1) (List.length (v0_1 ++ [(Q1s ([(Fld.mk Q1p (Qm x0.maxSkew)), (Fld.mk Qi (Q14 x0.topology)), (Fld.mk Q8 (Q3e x0.selector)), (Fld.mk Q9 (Q2f x0.required))]))])) rfl (Val.Q0 v0_1).symm (Val.Q0 (v0_1 ++ [(Q1s ([(Fld.mk Q1p (Qm x0.maxSkew)), (Fld.mk Qi (Q14 x0.topology)), (Fld.mk Q8 (Q3e x0.selector)), (Fld.mk Q9 (Q2f x0.required))]))])).symm (Val.Q1q v0_1 (Q1s ([(Fld.mk Q1p (Qm x0.maxSkew)), (Fld.mk Qi (Q14 x0.topology)), (Fld.mk Q8 (Q3e x0.selector)), (Fld.mk Q9 (Q2f x0.required))]))) (Val.Ql v0_1) rfl (by omega)), hS 0 true (Val.Q7 (v0_1 ++ [(Q1s ([(Fld.mk Q1p (Qm x0.maxSkew)), (Fld.mk Qi (Q14 x0.topology)), (Fld.mk Q8 (Q3e x0.selector)), (Fld.mk Q9 (Q2f x0.required))]))]) 5 rfl), hP 2 (Q28 i0 (by omega))] [aN (Q58 x0.maxSkew), aN (Qeb x0.topology), aN (Q1ft x0.selector (H.2.1 x0 (Q2o hx0))), aN (Q101 x0.required), aN (Q59 (e' := .call 163 [.sl [(Fld.cells (Fld.mk Q1p (Qm x0.maxSkew))), (Fld.cells (Fld.mk Qi (Q14 x0.topology))), (Fld.cells (Fld.mk Q8 (Q3e x0.selector))), (Fld.cells (Fld.mk Q9 (Q2f x0.required)))]] []) (Qcs ([(Fld.mk Q1p (Qm x0.maxSkew)), (Fld.mk Qi (Q14 x0.topology)), (Fld.mk Q8 (Q3e x0.selector)), (Fld.mk Q9 (Q2f x0.required))]) (Nat.le_of_ble_eq_true rfl)) (by simp only [Qau, Fld.Q12, Fld.Q1n]))] (by kernel_rfl) hr
theorem Qz2 (p0 : List SpreadRule) (H : Qg0 p0) : ∀ (r0 : List SpreadRule) (i0 : Nat) (v0_1 : List Val), List.drop i0 p0 = r0 → List.length v0_1 ≤ i0 → Qgt p0 (Qf3 p0 i0 v0_1) (Q5i p0 r0 i0 v0_1)
 | [], i0, v0_1, hd, ho0_0 => by
  have hc0 : (decide ((i0 : Int) < ((List.length p0) : Int))) = false := by have := Q1o hd; simp; omega
  rw [Q5i]
  exact Q19b p0 H i0 v0_1 ho0_0 hc0
 | x0 :: r0, i0, v0_1, hd, ho0_0 => by
  obtain ⟨hx0, hi0, hd'⟩ := Q1i hd
  have hc0 : (decide ((i0 : Int) < ((List.length p0) : Int))) = true := by simp; omega
  rw [Q5i]
  exact Qt2 p0 (fun r hr => Q175 p0 H x0 i0 v0_1 hx0 hi0 ho0_0 hc0 hr) _ (Qz2 p0 H r0 (i0 + 1) (v0_1 ++ [(Q1s ([(Fld.mk Q1p (Qm x0.maxSkew)), (Fld.mk Qi (Q14 x0.topology)), (Fld.mk Q8 (Q3e x0.selector)), (Fld.mk Q9 (Q2f x0.required))]))]) hd' (by first | omega | (simp; omega)))
def Q1ct (p0 : List SpreadRule) : Val := vL (p0.map SpreadRule.enc)
theorem Q1yz (p0 : List SpreadRule) : Q1ct p0 = ((Val.mk 4 0 eB (Q5i p0 p0 0 []) [])) := by
  rw [Q14k]
  kernel_rfl
def Q1x5 (p0 : List SpreadRule) : En := .call 236 [.sl (SpreadRule.rows p0)] []
def Q1oz (p0 : List SpreadRule) : Rs := .ret (.agg (Val.cells (Q1ct p0))) []
def Q1ie (p0 : List SpreadRule) : Prop := LSm SpreadRule.sm p0
theorem Q1em (p0 : List SpreadRule) (H : Q1ie p0) : (Qg0 p0) ∧ True := by
  exact ⟨⟨Nat.le_trans H.1 (Nat.le_of_ble_eq_true rfl), (by first | exact H.2 | exact fun x hx => (H.2 x hx).1 | exact fun x hx => (H.2 x hx).2.1 | exact fun x hx => (H.2 x hx).2.2.1 | exact fun x hx => (H.2 x hx).2.2.2.1 | exact fun x hx => (H.2 x hx).2.2.2.2.1), trivial⟩, trivial⟩
theorem Q21r (p0 : List SpreadRule) (H : Q1ie p0) : Q5 G (Q1x5 p0) (Q1oz p0) := by
 unfold Q1oz
 rw [Q1yz]
 have hl0 := Qz2 p0 ((Q1em p0 H).1) p0 0 [] (by simp) (by simp)
 obtain ⟨z0, zo0, hl0⟩ := hl0
 exact Q6 (fn := Ir.K2u) rfl VOK.nil [hS 0 true (Val.Q7 (Q5i p0 p0 0 []) 5 rfl), hQ (Val.Q0 (Q5i p0 p0 0 [])).symm] [aV [(1, Val.rows (Q5i p0 p0 0 []))] hl0] (by kernel_rfl)
def Q5k (p0 : List Toleration) : List Toleration → Nat → (List Val) → List Val
 | [], _i0, v0_1 =>
  v0_1
 | x0 :: r0, i0, v0_1 =>
  Q5k p0 r0 (i0 + 1) (v0_1 ++ [(Q1s ([(Fld.mk Q15 (Q14 x0.key)), (Fld.mk Q13 (Q14 x0.value)), (Fld.mk Q25 (Q2f x0.exists_)), (Fld.mk Q2a (Qm x0.effect)), (Fld.mk Q23 (Qm x0.seconds))]))])
theorem Q14m (p0 : List Toleration) : ∀ (l : List Toleration) (i : Nat) (a : List Val), Q5k p0 l i a = a ++ l.map (fun x0 => (Q1s ([(Fld.mk Q15 (Q14 x0.key)), (Fld.mk Q13 (Q14 x0.value)), (Fld.mk Q25 (Q2f x0.exists_)), (Fld.mk Q2a (Qm x0.effect)), (Fld.mk Q23 (Qm x0.seconds))])))
  | [], _, _ => by simp [Q5k]
  | x :: r, i, a => by rw [Q5k, Q14m p0 r]; simp
def Qw0 (p0 : List Toleration) (i0 : Nat) (v0_1 : List Val) : List PV :=
  [.sl (Toleration.rows p0), .un, .bx 0 0, .ms 1 5 0 (List.length v0_1), .int .i64 (i0 : Int)] ++ nuns 38
def Qi2 (_p0 : List Toleration) (_i0 : Nat) (v0_1 : List Val) : List Ob :=
  [⟨5, 0, true, [.int .i64 0, .int .i64 0, .str eB, .ms 2 5 0 0, .ms 3 6 0 0]⟩, ⟨5, 0, true, (Val.rows v0_1).flatten⟩, ⟨5, 0, true, []⟩, ⟨6, 0, true, []⟩]
def Qf5 (p0 : List Toleration) (i0 : Nat) (v0_1 : List Val) : En := .loop 0 Ir.Qjh Ir.Q1gx (Qw0 p0 i0 v0_1) (Qi2 p0 i0 v0_1)
def Qoh (_p0 : List Toleration) (q0 : List Val) (z : Nat → PV) (_zo : Nat → List PV) : St :=
  ⟨[z 0, z 1, .bx 0 0, .ms 1 5 0 (List.length q0)] ++ zr z 4 39, [(0, ⟨5, 0, true, [.int .i64 0, .int .i64 0, .str eB, .ms 2 5 0 0, .ms 3 6 0 0]⟩), (1, ⟨5, 0, true, (Val.rows q0).flatten⟩), (2, ⟨5, 0, true, []⟩), (3, ⟨6, 0, true, []⟩)], 260⟩
theorem Q12m (p0 : List Toleration) (i0 : Nat) (v0_1 : List Val) : VOK (Go.Pv.look (number 0 (Qi2 p0 i0 v0_1))) [(1, Val.rows v0_1)] := (VOK.cons (show Seen _ _ from Q3i (ob := ⟨5, 0, true, (Val.rows v0_1).flatten⟩) (Val.Q7 v0_1 5 rfl)) VOK.nil)
def Qgv (p0 : List Toleration) (e : En) (q : List Val) : Prop := ∃ z zo, Q5 G e (.st (.exit 0) (Qoh p0 q z zo))
theorem Qt4 (p0 : List Toleration) {e e' : En} (h : ∀ r, Q5 G e r → Q5 G e' r) : ∀ q, Qgv p0 e q → Qgv p0 e' q
  | _, ⟨z, zo, hz⟩ => ⟨z, zo, h _ hz⟩
def Qg2 (p0 : List Toleration) : Prop := (List.length p0 ≤ 137438953472) ∧ True
def Qq4 (p0 : List Toleration) (i0 : Nat) (_v0_1 : List Val) : List PV :=
  [.sl (Toleration.rows p0), .un, .un, .un, .int .i64 (i0 : Int), .un, .int .i64 (i0 : Int), .sl (Toleration.rows p0), .int .i64 ((List.length p0) : Int), .bool false]
def Ql4 (_p0 : List Toleration) (_i0 : Nat) (_v0_1 : List Val) : List (Nat × List PV) :=
  []
theorem Q19d (p0 : List Toleration) (_H : Qg2 p0) (i0 : Nat) (v0_1 : List Val) (_ho0_0 : List.length v0_1 ≤ i0) (hc0 : (decide ((i0 : Int) < ((List.length p0) : Int))) = false) : Qgv p0 (Qf5 p0 i0 v0_1) v0_1 := by
 exact ⟨(envF (Qq4 p0 i0 v0_1)), (zoF (Ql4 p0 i0 v0_1)), Qj (Q12m p0 i0 v0_1) (x := ((.exit 0), Qoh p0 v0_1 (envF (Qq4 p0 i0 v0_1)) (zoF (Ql4 p0 i0 v0_1)))) [hP 2 (Qw (Toleration.rows p0) (List.length p0) (Toleration.Q0 p0)), hB 0 hc0] [] (by kernel_rfl)⟩
theorem Q177 (p0 : List Toleration) (H : Qg2 p0) (x0 : Toleration) (i0 : Nat) (v0_1 : List Val) (hx0 : p0[i0]? = some x0) (hi0 : i0 < List.length p0) (ho0_0 : List.length v0_1 ≤ i0) (hc0 : (decide ((i0 : Int) < ((List.length p0) : Int))) = true) {r : Rs} (hr : Q5 G (Qf5 p0 (i0 + 1) (v0_1 ++ [(Q1s ([(Fld.mk Q15 (Q14 x0.key)), (Fld.mk Q13 (Q14 x0.value)), (Fld.mk Q25 (Q2f x0.exists_)), (Fld.mk Q2a (Qm x0.effect)), (Fld.mk Q23 (Qm x0.seconds))]))])) r) : Q5 G (Qf5 p0 i0 v0_1) r := by
 have hB0 := H.1
 exact Qd (Q12m p0 i0 v0_1) (y := (Qw0 p0 (i0 + 1) (v0_1 ++ [(Q1s ([(Fld.mk Q15 (Q14 x0.key)), (Fld.mk Q13 (Q14 x0.value)), (Fld.mk Q25 (Q2f x0.exists_)), (Fld.mk Q2a (Qm x0.effect)), (Fld.mk Q23 (Qm x0.seconds))]))]), Qi2 p0 (i0 + 1) (v0_1 ++ [(Q1s ([(Fld.mk Q15 (Q14 x0.key)), (Fld.mk Q13 (Q14 x0.value)), (Fld.mk Q25 (Q2f x0.exists_)), (Fld.mk Q2a (Qm x0.effect)), (Fld.mk Q23 (Qm x0.seconds))]))]))) [hP 2 (Qw (Toleration.rows p0) (List.length p0) (Toleration.Q0 p0)), hB 0 hc0, hP 2 (Q2g 5 (Toleration.rows p0) i0 _ (Toleration.Qe hx0) rfl), hV 27 [(2180, Val.rows (v0_1 ++ [(Q1s ([(Fld.mk Q15 (Q14 x0.key)), (Fld.mk Q13 (Q14 x0.value)), (Fld.mk Q25 (Q2f x0.exists_)), (Fld.mk Q2a (Qm x0.effect)), (Fld.mk Q23 (Qm x0.seconds))]))]))] (Q3x 1 2116 2180 5 80 0 0 true (Val.rows v0_1) (Val.rows (v0_1 ++ [(Q1s ([(Fld.mk Q15 (Q14 x0.key)), (Fld.mk Q13 (Q14 x0.value)), (Fld.mk Q25 (Q2f x0.exists_)), (Fld.mk Q2a (Qm x0.effect)), (Fld.mk Q23 (Qm x0.seconds))]))])) (Val.cells (Q1s ([(Fld.mk Q15 (Q14 x0.key)), (Fld.mk Q13 (Q14 x0.value)), (Fld.mk Q25 (Q2f x0.exists_)), (Fld.mk Q2a (Qm x0.effect)), (Fld.mk Q23 (Qm x0.seconds))]))) (List.length v0_1) (List.length (v0_1 ++ [(Q1s ([(Fld.mk Q15 (Q14 x0.key)), (Fld.mk Q13 (Q14 x0.value)), (Fld.mk Q25 (Q2f x0.exists_)), (Fld.mk Q2a (Qm x0.effect)), (Fld.mk Q23 (Qm x0.seconds))]))])) rfl (Val.Q0 v0_1).symm (Val.Q0 (v0_1 ++ [(Q1s ([(Fld.mk Q15 (Q14 x0.key)), (Fld.mk Q13 (Q14 x0.value)), (Fld.mk Q25 (Q2f x0.exists_)), (Fld.mk Q2a (Qm x0.effect)), (Fld.mk Q23 (Qm x0.seconds))]))])).symm (Val.Q1q v0_1 (Q1s ([(Fld.mk Q15 (Q14 x0.key)), (Fld.mk Q13 (Q14 x0.value)), (Fld.mk Q25 (Q2f x0.exists_)), (Fld.mk Q2a (Qm x0.effect)), (Fld.mk Q23 (Qm x0.seconds))]))) (Val.Ql v0_1) rfl (by omega)), hS 0 true (Val.Q7 (v0_1 ++ [(Q1s ([(Fld.mk Q15 (Q14 x0.key)), (Fld.mk Q13 (Q14 x0.value)), (Fld.mk Q25 (Q2f x0.exists_)), (Fld.mk Q2a (Qm x0.effect)), (Fld.mk Q23 (Qm x0.seconds))]))]) 5 rfl), hP 2 (Q28 i0 (by omega))] [aN (Qeb x0.key), aN (Qeb x0.value), aN (Q101 x0.exists_), aN (Q58 x0.effect), aN (Q58 x0.seconds), aN (Q59 (e' := .call 163 [.sl [(Fld.cells (Fld.mk Q15 (Q14 x0.key))), (Fld.cells (Fld.mk Q13 (Q14 x0.value))), (Fld.cells (Fld.mk Q25 (Q2f x0.exists_))), (Fld.cells (Fld.mk Q2a (Qm x0.effect))), (Fld.cells (Fld.mk Q23 (Qm x0.seconds)))]] []) (Qcs ([(Fld.mk Q15 (Q14 x0.key)), (Fld.mk Q13 (Q14 x0.value)), (Fld.mk Q25 (Q2f x0.exists_)), (Fld.mk Q2a (Qm x0.effect)), (Fld.mk Q23 (Qm x0.seconds))]) (Nat.le_of_ble_eq_true rfl)) (by simp only [Qau, Fld.Q12, Fld.Q1n]))] (by kernel_rfl) hr
theorem Qz4 (p0 : List Toleration) (H : Qg2 p0) : ∀ (r0 : List Toleration) (i0 : Nat) (v0_1 : List Val), List.drop i0 p0 = r0 → List.length v0_1 ≤ i0 → Qgv p0 (Qf5 p0 i0 v0_1) (Q5k p0 r0 i0 v0_1)
 | [], i0, v0_1, hd, ho0_0 => by
  have hc0 : (decide ((i0 : Int) < ((List.length p0) : Int))) = false := by have := Q1o hd; simp; omega
  rw [Q5k]
  exact Q19d p0 H i0 v0_1 ho0_0 hc0
 | x0 :: r0, i0, v0_1, hd, ho0_0 => by
  obtain ⟨hx0, hi0, hd'⟩ := Q1i hd
  have hc0 : (decide ((i0 : Int) < ((List.length p0) : Int))) = true := by simp; omega
  rw [Q5k]
  exact Qt4 p0 (fun r hr => Q177 p0 H x0 i0 v0_1 hx0 hi0 ho0_0 hc0 hr) _ (Qz4 p0 H r0 (i0 + 1) (v0_1 ++ [(Q1s ([(Fld.mk Q15 (Q14 x0.key)), (Fld.mk Q13 (Q14 x0.value)), (Fld.mk Q25 (Q2f x0.exists_)), (Fld.mk Q2a (Qm x0.effect)), (Fld.mk Q23 (Qm x0.seconds))]))]) hd' (by first | omega | (simp; omega)))
def Q1cv (p0 : List Toleration) : Val := vL (p0.map Toleration.enc)
theorem Q1z2 (p0 : List Toleration) : Q1cv p0 = ((Val.mk 4 0 eB (Q5k p0 p0 0 []) [])) := by
  rw [Q14m]
  kernel_rfl
def Q1x9 (p0 : List Toleration) : En := .call 237 [.sl (Toleration.rows p0)] []
def Q1p3 (p0 : List Toleration) : Rs := .ret (.agg (Val.cells (Q1cv p0))) []
def Q1ih (p0 : List Toleration) : Prop := LSm Toleration.sm p0
theorem Q1eo (p0 : List Toleration) (H : Q1ih p0) : (Qg2 p0) ∧ True := by
  exact ⟨⟨Nat.le_trans H.1 (Nat.le_of_ble_eq_true rfl), trivial⟩, trivial⟩
theorem Q21u (p0 : List Toleration) (H : Q1ih p0) : Q5 G (Q1x9 p0) (Q1p3 p0) := by
 unfold Q1p3
 rw [Q1z2]
 have hl0 := Qz4 p0 ((Q1eo p0 H).1) p0 0 [] (by simp) (by simp)
 obtain ⟨z0, zo0, hl0⟩ := hl0
 exact Q6 (fn := Ir.K2z) rfl VOK.nil [hS 0 true (Val.Q7 (Q5k p0 p0 0 []) 5 rfl), hQ (Val.Q0 (Q5k p0 p0 0 [])).symm] [aV [(1, Val.rows (Q5k p0 p0 0 []))] hl0] (by kernel_rfl)
def Q1cr (p0 : PodSpec) : Val := PodSpec.enc p0
theorem Q1yu (p0 : PodSpec) : Q1cr p0 = ((Q1s ([(Fld.mk Q2p (Q14 p0.node)), (Fld.mk Q1h (Qm p0.priority)), (Fld.mk Q1v (Qm p0.restart)), (Fld.mk Q2r (Qm p0.grace)), (Fld.mk Q1g (Q1cn p0.containers)), (Fld.mk Q18 (Q3e p0.nodeSelector)), (Fld.mk Q1y (Q1cq p0.nodeTerms)), (Fld.mk Q2h (Q1cs p0.podTerms)), (Fld.mk Q36 (Q1ct p0.spread)), (Fld.mk Q29 (Q1cv p0.tolerations))]))) := by
  kernel_rfl
def Q1x0 (p0 : PodSpec) : En := .call 214 [.agg (PodSpec.cells p0)] []
def Q1ou (p0 : PodSpec) : Rs := .ret (.agg (Val.cells (Q1cr p0))) []
def Q1ic (p0 : PodSpec) : Prop := PodSpec.sm p0
theorem Qa8 (p0 : PodSpec) (H : Q1ic p0) : (Q1i6 p0.containers) ∧ (Q14z p0.nodeSelector) ∧ (Q1ib p0.nodeTerms) ∧ (Q1id p0.podTerms) ∧ (Q1ie p0.spread) ∧ (Q1ih p0.tolerations) ∧ True := by
  exact ⟨(by first | exact True.intro | exact H | exact H.1 | exact H.2.1 | exact H.2.2.1 | exact H.2.2.2.1 | exact H.2.2.2.2.1 | exact H.2.2.2.2.2.1 | exact ⟨H.1, trivial⟩ | exact ⟨H.2.1, trivial⟩), (by first | exact True.intro | exact H | exact H.1 | exact H.2.1 | exact H.2.2.1 | exact H.2.2.2.1 | exact H.2.2.2.2.1 | exact H.2.2.2.2.2.1 | exact ⟨H.1, trivial⟩ | exact ⟨H.2.1, trivial⟩), (by first | exact True.intro | exact H | exact H.1 | exact H.2.1 | exact H.2.2.1 | exact H.2.2.2.1 | exact H.2.2.2.2.1 | exact H.2.2.2.2.2.1 | exact ⟨H.1, trivial⟩ | exact ⟨H.2.1, trivial⟩), (by first | exact True.intro | exact H | exact H.1 | exact H.2.1 | exact H.2.2.1 | exact H.2.2.2.1 | exact H.2.2.2.2.1 | exact H.2.2.2.2.2.1 | exact ⟨H.1, trivial⟩ | exact ⟨H.2.1, trivial⟩), (by first | exact True.intro | exact H | exact H.1 | exact H.2.1 | exact H.2.2.1 | exact H.2.2.2.1 | exact H.2.2.2.2.1 | exact H.2.2.2.2.2.1 | exact ⟨H.1, trivial⟩ | exact ⟨H.2.1, trivial⟩), (by first | exact True.intro | exact H | exact H.1 | exact H.2.1 | exact H.2.2.1 | exact H.2.2.2.1 | exact H.2.2.2.2.1 | exact H.2.2.2.2.2.1 | exact ⟨H.1, trivial⟩ | exact ⟨H.2.1, trivial⟩), trivial⟩
theorem Q21p (p0 : PodSpec) (H : Q1ic p0) : Q5 G (Q1x0 p0) (Q1ou p0) := by
 unfold Q1ou
 rw [Q1yu]
 exact Q6 (fn := Ir.K2k) rfl VOK.nil [] [aN (Qeb p0.node), aN (Q58 p0.priority), aN (Q58 p0.restart), aN (Q58 p0.grace), aN (Q21j p0.containers (Qa8 p0 H).1), aN (Q1ft p0.nodeSelector (Qa8 p0 H).2.1), aN (Q21o p0.nodeTerms (Qa8 p0 H).2.2.1), aN (Q21q p0.podTerms (Qa8 p0 H).2.2.2.1), aN (Q21r p0.spread (Qa8 p0 H).2.2.2.2.1), aN (Q21u p0.tolerations (Qa8 p0 H).2.2.2.2.2.1), aN (Q59 (e' := .call 163 [.sl [(Fld.cells (Fld.mk Q2p (Q14 p0.node))), (Fld.cells (Fld.mk Q1h (Qm p0.priority))), (Fld.cells (Fld.mk Q1v (Qm p0.restart))), (Fld.cells (Fld.mk Q2r (Qm p0.grace))), (Fld.cells (Fld.mk Q1g (Q1cn p0.containers))), (Fld.cells (Fld.mk Q18 (Q3e p0.nodeSelector))), (Fld.cells (Fld.mk Q1y (Q1cq p0.nodeTerms))), (Fld.cells (Fld.mk Q2h (Q1cs p0.podTerms))), (Fld.cells (Fld.mk Q36 (Q1ct p0.spread))), (Fld.cells (Fld.mk Q29 (Q1cv p0.tolerations)))]] []) (Qcs ([(Fld.mk Q2p (Q14 p0.node)), (Fld.mk Q1h (Qm p0.priority)), (Fld.mk Q1v (Qm p0.restart)), (Fld.mk Q2r (Qm p0.grace)), (Fld.mk Q1g (Q1cn p0.containers)), (Fld.mk Q18 (Q3e p0.nodeSelector)), (Fld.mk Q1y (Q1cq p0.nodeTerms)), (Fld.mk Q2h (Q1cs p0.podTerms)), (Fld.mk Q36 (Q1ct p0.spread)), (Fld.mk Q29 (Q1cv p0.tolerations))]) (Nat.le_of_ble_eq_true rfl)) (by simp only [Qau, Fld.Q12, Fld.Q1n]))] (by kernel_rfl)
def Q1cu (p0 : Template) : Val := Template.enc p0
theorem Q1z1 (p0 : Template) : Q1cu p0 = ((Q1s ([(Fld.mk Q21 (Q1cp p0.labels)), (Fld.mk Q32 (Q1cr p0.spec))]))) := by
  kernel_rfl
def Q1x8 (p0 : Template) : En := .call 166 [.agg (Template.cells p0)] []
def Q1p2 (p0 : Template) : Rs := .ret (.agg (Val.cells (Q1cu p0))) []
def Q1ig (p0 : Template) : Prop := Template.sm p0
theorem Q13f (p0 : Template) (H : Q1ig p0) : (Q1ia p0.labels) ∧ (Q1ic p0.spec) ∧ True := by
  exact ⟨(by first | exact True.intro | exact H | exact H.1 | exact H.2.1 | exact ⟨H.1, trivial⟩ | exact ⟨H.2.1, trivial⟩), (by first | exact True.intro | exact H | exact H.1 | exact H.2.1 | exact ⟨H.1, trivial⟩ | exact ⟨H.2.1, trivial⟩), trivial⟩
theorem Q21t (p0 : Template) (H : Q1ig p0) : Q5 G (Q1x8 p0) (Q1p2 p0) := by
 unfold Q1p2
 rw [Q1z1]
 exact Q6 (fn := Ir.K2y) rfl VOK.nil [] [aN (Q21n p0.labels (Q13f p0 H).1), aN (Q21p p0.spec (Q13f p0 H).2.1), aN (Q59 (e' := .call 163 [.sl [(Fld.cells (Fld.mk Q21 (Q1cp p0.labels))), (Fld.cells (Fld.mk Q32 (Q1cr p0.spec)))]] []) (Qcs ([(Fld.mk Q21 (Q1cp p0.labels)), (Fld.mk Q32 (Q1cr p0.spec))]) (Nat.le_of_ble_eq_true rfl)) (by simp only [Qau, Fld.Q12, Fld.Q1n]))] (by kernel_rfl)
def Q1fq (p0 : BA) (p1 : Meta) (p2 : Val) (p3 : Val) : Object :=
 (Object.mk (Meta.mk p0 p1.namespace_ p1.name p1.uid p1.version p1.generation p1.created p1.deleting p1.deleteAt p1.labels p1.owners p1.finalizers p1.managers) p2 p3)
def Q1xc (p0 : BA) (p1 : Meta) (p2 : Val) (p3 : Val) : En := .call 58 [.str p0, .agg (Meta.cells p1), .agg (Val.cells p2), .agg (Val.cells p3)] []
def Q1p6 (p0 : BA) (p1 : Meta) (p2 : Val) (p3 : Val) : Rs := .ret (.agg (Object.cells (Q1fq p0 p1 p2 p3))) []
theorem Q1rj (p0 : BA) (p1 : Meta) (p2 : Val) (p3 : Val) : Q5 G (Q1xc p0 p1 p2 p3) (Q1p6 p0 p1 p2 p3) := by
 unfold Q1p6 Q1fq
 exact Q6 (fn := Ir.K49) rfl VOK.nil [] [] (by kernel_rfl)
def Q11a (p0 : Job) : Val := JobS.enc p0
theorem Q1yq (p0 : Job) : Q11a p0 = ((Q1s ([(Fld.mk Qn (Qm p0.completions)), (Fld.mk Qr (Qm p0.parallelism)), (Fld.mk Q1m (Qm p0.retries)), (Fld.mk Q1f (Qm p0.deadline)), (Fld.mk Q1t (Q2f p0.indexed)), (Fld.mk Qa (Q2f p0.suspended)), (Fld.mk Qz (Q1cu p0.template))]))) := by
  kernel_rfl
def Q1ww (p0 : Job) : En := .call 100 [.agg (Job.cells p0)] []
def Q1op (p0 : Job) : Rs := .ret (.agg (Val.cells (Q11a p0))) []
def Q1dj (p0 : Job) : Prop := JobS.sm p0
theorem Q1ef (p0 : Job) (H : Q1dj p0) : (Q1ig p0.template) ∧ True := by
  exact ⟨(by first | exact True.intro | exact H | exact H.1 | exact ⟨H.1, trivial⟩ | exact ⟨H.2.1, trivial⟩), trivial⟩
theorem Q1rh (p0 : Job) (H : Q1dj p0) : Q5 G (Q1ww p0) (Q1op p0) := by
 unfold Q1op
 rw [Q1yq]
 exact Q6 (fn := Ir.K2e) rfl VOK.nil [] [aN (Q58 p0.completions), aN (Q58 p0.parallelism), aN (Q58 p0.retries), aN (Q58 p0.deadline), aN (Q101 p0.indexed), aN (Q101 p0.suspended), aN (Q21t p0.template (Q1ef p0 H).1), aN (Q59 (e' := .call 163 [.sl [(Fld.cells (Fld.mk Qn (Qm p0.completions))), (Fld.cells (Fld.mk Qr (Qm p0.parallelism))), (Fld.cells (Fld.mk Q1m (Qm p0.retries))), (Fld.cells (Fld.mk Q1f (Qm p0.deadline))), (Fld.cells (Fld.mk Q1t (Q2f p0.indexed))), (Fld.cells (Fld.mk Qa (Q2f p0.suspended))), (Fld.cells (Fld.mk Qz (Q1cu p0.template)))]] []) (Qcs ([(Fld.mk Qn (Qm p0.completions)), (Fld.mk Qr (Qm p0.parallelism)), (Fld.mk Q1m (Qm p0.retries)), (Fld.mk Q1f (Qm p0.deadline)), (Fld.mk Q1t (Q2f p0.indexed)), (Fld.mk Qa (Q2f p0.suspended)), (Fld.mk Qz (Q1cu p0.template))]) (Nat.le_of_ble_eq_true rfl)) (by simp only [Qau, Fld.Q12, Fld.Q1n]))] (by kernel_rfl)
def Q5c (p0 : List Int) : List Int → Nat → (List Val) → List Val
 | [], _i0, v0_1 =>
  v0_1
 | x0 :: r0, i0, v0_1 =>
  Q5c p0 r0 (i0 + 1) (v0_1 ++ [(Qm x0)])
theorem Q14e (p0 : List Int) : ∀ (l : List Int) (i : Nat) (a : List Val), Q5c p0 l i a = a ++ l.map (fun x0 => (Qm x0))
  | [], _, _ => by simp [Q5c]
  | x :: r, i, a => by rw [Q5c, Q14e p0 r]; simp
def Qvr (p0 : List Int) (i0 : Nat) (v0_1 : List Val) : List PV :=
  [.sl (Q2n p0), .un, .bx 0 0, .ms 1 5 0 (List.length v0_1), .int .i64 (i0 : Int)] ++ nuns 16
def Qht (_p0 : List Int) (_i0 : Nat) (v0_1 : List Val) : List Ob :=
  [⟨5, 0, true, [.int .i64 0, .int .i64 0, .str eB, .ms 2 5 0 0, .ms 3 6 0 0]⟩, ⟨5, 0, true, (Val.rows v0_1).flatten⟩, ⟨5, 0, true, []⟩, ⟨6, 0, true, []⟩]
def Qex (p0 : List Int) (i0 : Nat) (v0_1 : List Val) : En := .loop 0 Ir.Qj7 Ir.Q1gn (Qvr p0 i0 v0_1) (Qht p0 i0 v0_1)
def Qo8 (_p0 : List Int) (q0 : List Val) (z : Nat → PV) (_zo : Nat → List PV) : St :=
  ⟨[z 0, z 1, .bx 0 0, .ms 1 5 0 (List.length q0)] ++ zr z 4 17, [(0, ⟨5, 0, true, [.int .i64 0, .int .i64 0, .str eB, .ms 2 5 0 0, .ms 3 6 0 0]⟩), (1, ⟨5, 0, true, (Val.rows q0).flatten⟩), (2, ⟨5, 0, true, []⟩), (3, ⟨6, 0, true, []⟩)], 260⟩
theorem Q12e (p0 : List Int) (i0 : Nat) (v0_1 : List Val) : VOK (Go.Pv.look (number 0 (Qht p0 i0 v0_1))) [(1, Val.rows v0_1)] := (VOK.cons (show Seen _ _ from Q3i (ob := ⟨5, 0, true, (Val.rows v0_1).flatten⟩) (Val.Q7 v0_1 5 rfl)) VOK.nil)
def Qgm (p0 : List Int) (e : En) (q : List Val) : Prop := ∃ z zo, Q5 G e (.st (.exit 0) (Qo8 p0 q z zo))
theorem Qsv (p0 : List Int) {e e' : En} (h : ∀ r, Q5 G e r → Q5 G e' r) : ∀ q, Qgm p0 e q → Qgm p0 e' q
  | _, ⟨z, zo, hz⟩ => ⟨z, zo, h _ hz⟩
def Qfu (p0 : List Int) : Prop := (List.length p0 ≤ 137438953472) ∧ True
def Qpt (p0 : List Int) (i0 : Nat) (_v0_1 : List Val) : List PV :=
  [.sl (Q2n p0), .un, .un, .un, .int .i64 (i0 : Int), .int .i64 (i0 : Int), .sl (Q2n p0), .int .i64 ((List.length p0) : Int), .bool false]
def Qkt (_p0 : List Int) (_i0 : Nat) (_v0_1 : List Val) : List (Nat × List PV) :=
  []
theorem Q192 (p0 : List Int) (_H : Qfu p0) (i0 : Nat) (v0_1 : List Val) (_ho0_0 : List.length v0_1 ≤ i0) (hc0 : (decide ((i0 : Int) < ((List.length p0) : Int))) = false) : Qgm p0 (Qex p0 i0 v0_1) v0_1 := by
 exact ⟨(envF (Qpt p0 i0 v0_1)), (zoF (Qkt p0 i0 v0_1)), Qj (Q12e p0 i0 v0_1) (x := ((.exit 0), Qo8 p0 v0_1 (envF (Qpt p0 i0 v0_1)) (zoF (Qkt p0 i0 v0_1)))) [hP 2 (Qw (Q2n p0) (List.length p0) (Q55 p0)), hB 0 hc0] [] (by kernel_rfl)⟩
theorem Q16w (p0 : List Int) (H : Qfu p0) (x0 : Int) (i0 : Nat) (v0_1 : List Val) (hx0 : p0[i0]? = some x0) (hi0 : i0 < List.length p0) (ho0_0 : List.length v0_1 ≤ i0) (hc0 : (decide ((i0 : Int) < ((List.length p0) : Int))) = true) {r : Rs} (hr : Q5 G (Qex p0 (i0 + 1) (v0_1 ++ [(Qm x0)])) r) : Q5 G (Qex p0 i0 v0_1) r := by
 have hB0 := H.1
 exact Qd (Q12e p0 i0 v0_1) (y := (Qvr p0 (i0 + 1) (v0_1 ++ [(Qm x0)]), Qht p0 (i0 + 1) (v0_1 ++ [(Qm x0)]))) [hP 2 (Qw (Q2n p0) (List.length p0) (Q55 p0)), hB 0 hc0, hP 3 (Q2g 1 (Q2n p0) i0 _ (Qr3 hx0) rfl), hV 3 [(708, Val.rows (v0_1 ++ [(Qm x0)]))] (Q3x 1 644 708 5 80 0 0 true (Val.rows v0_1) (Val.rows (v0_1 ++ [(Qm x0)])) (Val.cells (Qm x0)) (List.length v0_1) (List.length (v0_1 ++ [(Qm x0)])) rfl (Val.Q0 v0_1).symm (Val.Q0 (v0_1 ++ [(Qm x0)])).symm (Val.Q1q v0_1 (Qm x0)) (Val.Ql v0_1) rfl (by omega)), hS 0 true (Val.Q7 (v0_1 ++ [(Qm x0)]) 5 rfl), hP 2 (Q28 i0 (by omega))] [aN (Q58 x0)] (by kernel_rfl) hr
theorem Qyv (p0 : List Int) (H : Qfu p0) : ∀ (r0 : List Int) (i0 : Nat) (v0_1 : List Val), List.drop i0 p0 = r0 → List.length v0_1 ≤ i0 → Qgm p0 (Qex p0 i0 v0_1) (Q5c p0 r0 i0 v0_1)
 | [], i0, v0_1, hd, ho0_0 => by
  have hc0 : (decide ((i0 : Int) < ((List.length p0) : Int))) = false := by have := Q1o hd; simp; omega
  rw [Q5c]
  exact Q192 p0 H i0 v0_1 ho0_0 hc0
 | x0 :: r0, i0, v0_1, hd, ho0_0 => by
  obtain ⟨hx0, hi0, hd'⟩ := Q1i hd
  have hc0 : (decide ((i0 : Int) < ((List.length p0) : Int))) = true := by simp; omega
  rw [Q5c]
  exact Qsv p0 (fun r hr => Q16w p0 H x0 i0 v0_1 hx0 hi0 ho0_0 hc0 hr) _ (Qyv p0 H r0 (i0 + 1) (v0_1 ++ [(Qm x0)]) hd' (by first | omega | (simp; omega)))
def Q1co (p0 : List Int) : Val := vL (p0.map vN)
theorem Q1yp (p0 : List Int) : Q1co p0 = ((Val.mk 4 0 eB (Q5c p0 p0 0 []) [])) := by
  rw [Q14e]
  kernel_rfl
def Q1wv (p0 : List Int) : En := .call 195 [.sl (Q2n p0)] []
def Q1oo (p0 : List Int) : Rs := .ret (.agg (Val.cells (Q1co p0))) []
def Q1i8 (p0 : List Int) : Prop := LSm (fun _ : Int => True) p0
theorem Q1ee (p0 : List Int) (H : Q1i8 p0) : (Qfu p0) ∧ True := by
  exact ⟨⟨Nat.le_trans H.1 (Nat.le_of_ble_eq_true rfl), trivial⟩, trivial⟩
theorem Q21l (p0 : List Int) (H : Q1i8 p0) : Q5 G (Q1wv p0) (Q1oo p0) := by
 unfold Q1oo
 rw [Q1yp]
 have hl0 := Qyv p0 ((Q1ee p0 H).1) p0 0 [] (by simp) (by simp)
 obtain ⟨z0, zo0, hl0⟩ := hl0
 exact Q6 (fn := Ir.K2d) rfl VOK.nil [hS 0 true (Val.Q7 (Q5c p0 p0 0 []) 5 rfl), hQ (Val.Q0 (Q5c p0 p0 0 [])).symm] [aV [(1, Val.rows (Q5c p0 p0 0 []))] hl0] (by kernel_rfl)
def Q1fp (p0 : Job) : Val := Job.encT p0
theorem Q1yr (p0 : Job) : Q1fp p0 = ((Q1s ([(Fld.mk Q16 (Qm p0.active)), (Fld.mk Qp (Qm p0.succeeded)), (Fld.mk Q1c (Qm p0.failed)), (Fld.mk Q1d (Qm p0.started)), (Fld.mk Q1b (Qm p0.finished)), (Fld.mk Q31 (Q1co p0.done)), (Fld.mk Q2i (Qm p0.result))]))) := by
  kernel_rfl
def Q1wx (p0 : Job) : En := .call 101 [.agg (Job.cells p0)] []
def Q1oq (p0 : Job) : Rs := .ret (.agg (Val.cells (Q1fp p0))) []
def Q1i9 (p0 : Job) : Prop := Job.sm p0
theorem Q1eg (p0 : Job) (H : Q1i9 p0) : (Q1i8 p0.done) ∧ True := by
  exact ⟨(by first | exact True.intro | exact H | exact H.1 | exact H.2.1 | exact ⟨H.1, trivial⟩ | exact ⟨H.2.1, trivial⟩), trivial⟩
theorem Q21m (p0 : Job) (H : Q1i9 p0) : Q5 G (Q1wx p0) (Q1oq p0) := by
 unfold Q1oq
 rw [Q1yr]
 exact Q6 (fn := Ir.K2f) rfl VOK.nil [] [aN (Q58 p0.active), aN (Q58 p0.succeeded), aN (Q58 p0.failed), aN (Q58 p0.started), aN (Q58 p0.finished), aN (Q21l p0.done (Q1eg p0 H).1), aN (Q58 p0.result), aN (Q59 (e' := .call 163 [.sl [(Fld.cells (Fld.mk Q16 (Qm p0.active))), (Fld.cells (Fld.mk Qp (Qm p0.succeeded))), (Fld.cells (Fld.mk Q1c (Qm p0.failed))), (Fld.cells (Fld.mk Q1d (Qm p0.started))), (Fld.cells (Fld.mk Q1b (Qm p0.finished))), (Fld.cells (Fld.mk Q31 (Q1co p0.done))), (Fld.cells (Fld.mk Q2i (Qm p0.result)))]] []) (Qcs ([(Fld.mk Q16 (Qm p0.active)), (Fld.mk Qp (Qm p0.succeeded)), (Fld.mk Q1c (Qm p0.failed)), (Fld.mk Q1d (Qm p0.started)), (Fld.mk Q1b (Qm p0.finished)), (Fld.mk Q31 (Q1co p0.done)), (Fld.mk Q2i (Qm p0.result))]) (Nat.le_of_ble_eq_true rfl)) (by simp only [Qau, Fld.Q12, Fld.Q1n]))] (by kernel_rfl)
def Q41 (p0 : Job) : Object := Job.obj p0
theorem Q1z4 (p0 : Job) : Q41 p0 = ((Q1fq Q1x p0.meta_ (Q11a p0) (Q1fp p0))) := by
  first | rfl | kernel_rfl
def Q1xb (p0 : Job) : En := .call 19 [.agg (Job.cells p0)] []
def Q1p5 (p0 : Job) : Rs := .ret (.agg (Object.cells (Q41 p0))) []
def Q19w (p0 : Job) : Prop := Job.sm p0
theorem Q13h (p0 : Job) (H : Q19w p0) : (Q1dj p0) ∧ (Q1i9 p0) ∧ True := by
  exact ⟨(by first | exact True.intro | exact H | exact H.1 | exact H.2.1 | exact ⟨H.1, trivial⟩ | exact ⟨H.2.1, trivial⟩), (by first | exact True.intro | exact H | exact H.1 | exact H.2.1 | exact ⟨H.1, trivial⟩ | exact ⟨H.2.1, trivial⟩), trivial⟩
theorem Q1fv (p0 : Job) (H : Q19w p0) : Q5 G (Q1xb p0) (Q1p5 p0) := by
 unfold Q1p5
 rw [Q1z4]
 exact Q6 (fn := Ir.K3q) rfl VOK.nil [] [aN (Q1rh p0 (Q13h p0 H).1), aN (Q21m p0 (Q13h p0 H).2.1), aN (Q1rj Q1x p0.meta_ (Q11a p0) (Q1fp p0))] (by kernel_rfl)
def Q119 (p0 : Int) : Val :=
 (Val.mk 2 p0 eB [] [])
def Q1wi (p0 : Int) : En := .call 67 [.int .i64 p0] []
def Q1oa (p0 : Int) : Rs := .ret (.agg (Val.cells (Q119 p0))) []
theorem Q21e (p0 : Int) : Q5 G (Q1wi p0) (Q1oa p0) := by
 unfold Q1oa Q119
 exact Q6 (fn := Ir.K1p) rfl VOK.nil [] [] (by kernel_rfl)
def Q1jd (p0 : Val) : Val := p0
def Q3c (p0 : Val) : List Val → Nat → (List Val) → List Val
 | [], _i0, v0_1 =>
  v0_1
 | x0 :: r0, i0, v0_1 =>
  Q3c p0 r0 (i0 + 1) (v0_1 ++ [x0])
def Qvh (_p0 : Val) (i0 : Nat) (_v0_1 : List Val) : List PV :=
  [.un, .bx 0 0, .bx 1 0, .bx 2 0, .int .i64 (i0 : Int)] ++ nuns 53
def Qhq (p0 : Val) (_i0 : Nat) (v0_1 : List Val) : List Ob :=
  [⟨5, 0, true, [.int .i64 p0.kind, .int .i64 p0.n, .str p0.s, .sl (Val.rows p0.list), .sl (Fld.rows p0.fields)]⟩, ⟨5, 0, true, [.int .i64 0, .int .i64 0, .str eB, .ms 3 5 0 0, .ms 4 6 0 0]⟩, ⟨5, 0, true, [.int .i64 p0.kind, .int .i64 p0.n, .str p0.s, .ms 5 5 0 (List.length v0_1), .ms 6 6 0 0]⟩, ⟨5, 0, true, []⟩, ⟨6, 0, true, []⟩, ⟨5, 0, true, (Val.rows v0_1).flatten⟩, ⟨6, 0, true, []⟩]
def Qep (p0 : Val) (i0 : Nat) (v0_1 : List Val) : En := .loop 0 Ir.Qiw Ir.Q1gc (Qvh p0 i0 v0_1) (Qhq p0 i0 v0_1)
def Qny (p0 : Val) (q0 : List Val) (z : Nat → PV) (_zo : Nat → List PV) : St :=
  ⟨[z 0, .bx 0 0, .bx 1 0, .bx 2 0] ++ zr z 4 54, [(0, ⟨5, 0, true, [.int .i64 p0.kind, .int .i64 p0.n, .str p0.s, .sl (Val.rows p0.list), .sl (Fld.rows p0.fields)]⟩), (1, ⟨5, 0, true, [.int .i64 0, .int .i64 0, .str eB, .ms 3 5 0 0, .ms 4 6 0 0]⟩), (2, ⟨5, 0, true, [.int .i64 p0.kind, .int .i64 p0.n, .str p0.s, .ms 5 5 0 (List.length q0), .ms 6 6 0 0]⟩), (3, ⟨5, 0, true, []⟩), (4, ⟨6, 0, true, []⟩), (5, ⟨5, 0, true, (Val.rows q0).flatten⟩), (6, ⟨6, 0, true, []⟩)], 327⟩
theorem Q12b (p0 : Val) (i0 : Nat) (v0_1 : List Val) : VOK (Go.Pv.look (number 0 (Qhq p0 i0 v0_1))) [(5, Val.rows v0_1)] := (VOK.cons (show Seen _ _ from Q3i (ob := ⟨5, 0, true, (Val.rows v0_1).flatten⟩) (Val.Q7 v0_1 5 rfl)) VOK.nil)
def Qgh (p0 : Val) (e : En) (q : List Val) : Prop := ∃ z zo, Q5 G e (.st (.exit 0) (Qny p0 q z zo))
theorem Qsl (p0 : Val) {e e' : En} (h : ∀ r, Q5 G e r → Q5 G e' r) : ∀ q, Qgh p0 e q → Qgh p0 e' q
  | _, ⟨z, zo, hz⟩ => ⟨z, zo, h _ hz⟩
def Q5a (p0 : Val) : List Fld → Nat → (List Fld) → List Fld
 | [], _i1, v1_1 =>
  v1_1
 | x1 :: r1, i1, v1_1 =>
  Q5a p0 r1 (i1 + 1) (v1_1 ++ [x1])
def Qvi (_p0 : Val) (i1 : Nat) (_v1_1 : List Fld) : List PV :=
  [.un, .bx 0 0, .bx 1 0, .bx 2 0, .un, .int .i64 (i1 : Int)] ++ nuns 52
def Qhr (p0 : Val) (_i1 : Nat) (v1_1 : List Fld) : List Ob :=
  [⟨5, 0, true, [.int .i64 p0.kind, .int .i64 p0.n, .str p0.s, .sl (Val.rows p0.list), .sl (Fld.rows p0.fields)]⟩, ⟨5, 0, true, [.int .i64 0, .int .i64 0, .str eB, .ms 3 5 0 0, .ms 4 6 0 0]⟩, ⟨5, 0, true, [.int .i64 p0.kind, .int .i64 p0.n, .str p0.s, .ms 5 5 0 (List.length (Q3c p0 p0.list 0 [])), .ms 6 6 0 (List.length v1_1)]⟩, ⟨5, 0, true, []⟩, ⟨6, 0, true, []⟩, ⟨5, 0, true, (Val.rows (Q3c p0 p0.list 0 [])).flatten⟩, ⟨6, 0, true, (Fld.rows v1_1).flatten⟩]
def Qeq (p0 : Val) (i1 : Nat) (v1_1 : List Fld) : En := .loop 0 Ir.Qix Ir.Q1gd (Qvi p0 i1 v1_1) (Qhr p0 i1 v1_1)
def Qnz (p0 : Val) (q0 : List Fld) (z : Nat → PV) (_zo : Nat → List PV) : St :=
  ⟨[z 0, z 1, .bx 1 0, .bx 2 0] ++ zr z 4 54, [(0, ⟨5, 0, true, [.int .i64 p0.kind, .int .i64 p0.n, .str p0.s, .sl (Val.rows p0.list), .sl (Fld.rows p0.fields)]⟩), (1, ⟨5, 0, true, [.int .i64 0, .int .i64 0, .str eB, .ms 3 5 0 0, .ms 4 6 0 0]⟩), (2, ⟨5, 0, true, [.int .i64 p0.kind, .int .i64 p0.n, .str p0.s, .ms 5 5 0 (List.length (Q3c p0 p0.list 0 [])), .ms 6 6 0 (List.length q0)]⟩), (3, ⟨5, 0, true, []⟩), (4, ⟨6, 0, true, []⟩), (5, ⟨5, 0, true, (Val.rows (Q3c p0 p0.list 0 [])).flatten⟩), (6, ⟨6, 0, true, (Fld.rows q0).flatten⟩)], 327⟩
theorem Q12c (p0 : Val) (i1 : Nat) (v1_1 : List Fld) : VOK (Go.Pv.look (number 0 (Qhr p0 i1 v1_1))) [(5, Val.rows (Q3c p0 p0.list 0 [])), (6, Fld.rows v1_1)] := (VOK.cons (show Seen _ _ from Q3i (ob := ⟨5, 0, true, (Val.rows (Q3c p0 p0.list 0 [])).flatten⟩) (Val.Q7 (Q3c p0 p0.list 0 []) 5 rfl)) (VOK.cons (show Seen _ _ from Q3i (ob := ⟨6, 0, true, (Fld.rows v1_1).flatten⟩) (Fld.Q7 v1_1 6 rfl)) VOK.nil))
def Qgi (p0 : Val) (e : En) (q : List Fld) : Prop := ∃ z zo, Q5 G e (.st (.exit 2) (Qnz p0 q z zo))
theorem Qsm (p0 : Val) {e e' : En} (h : ∀ r, Q5 G e r → Q5 G e' r) : ∀ q, Qgi p0 e q → Qgi p0 e' q
  | _, ⟨z, zo, hz⟩ => ⟨z, zo, h _ hz⟩
theorem Q1hj (p0 : Val) : ∀ (l : List Val) (i : Nat) (a : List Val), Q3c p0 l i a = a ++ l
  | [], i, a => by rw [Q3c]; simp
  | x :: l, i, a => by rw [Q3c, Q1hj p0 l]; simp
theorem Q1hk (p0 : Val) : ∀ (l : List Fld) (i : Nat) (a : List Fld), Q5a p0 l i a = a ++ l
  | [], i, a => by rw [Q5a]; simp
  | x :: l, i, a => by
    rw [Q5a, Q1hk p0 l]
    simp
theorem Q1yl (p0 : Val) : Q1jd p0 = ((Val.mk p0.kind p0.n p0.s (Q3c p0 p0.list 0 []) (Q5a p0 p0.fields 0 []))) := by
  rw [Q1hj, Q1hk]
  cases p0
  rfl
def Q1dy (p0 : Val) : En := .call 172 [.agg (Val.cells p0)] []
def Q1aa (p0 : Val) : Rs := .ret (.agg (Val.cells (Q1jd p0))) []
abbrev Qwm (p0 : Val) : Prop := Val.Sm 1000000000 p0
def Qas (p0 : Val) : Prop := ∀ (q : Val), SizeOf.sizeOf q < SizeOf.sizeOf p0 → Qwm q → Q5 G (Q1dy q) (Q1aa q)
def Qfm (p0 : Val) : Prop := (List.length p0.list ≤ 137438953472) ∧ (∀ x0 ∈ p0.list, Qwm x0) ∧ True
def Qfn (p0 : Val) : Prop := (List.length p0.fields ≤ 137438953472) ∧ (∀ x1 ∈ p0.fields, Qwm x1.v) ∧ True
theorem Q13b (p0 : Val) (H : Qwm p0) : (Qfm p0) ∧ (Qfn p0) ∧ True := by
  obtain ⟨h1, h2, h3, h4⟩ := H.all
  exact ⟨⟨by omega, h3, trivial⟩, ⟨by omega, h4, trivial⟩, trivial⟩
def Qpf (p0 : Val) (i0 : Nat) (_v0_1 : List Val) : List PV :=
  [.un, .un, .un, .un, .int .i64 (i0 : Int)] ++ nuns 8 ++ [.int .i64 (i0 : Int), .bx 0 3, .sl (Val.rows p0.list), .int .i64 ((List.length p0.list) : Int), .bool false]
def Qkf (_p0 : Val) (_i0 : Nat) (_v0_1 : List Val) : List (Nat × List PV) :=
  []
theorem Q18o (p0 : Val) (_H : Qfm p0) (_rec : Qas p0) (i0 : Nat) (v0_1 : List Val) (_ho0_0 : List.length v0_1 ≤ i0) (hc0 : (decide ((i0 : Int) < ((List.length p0.list) : Int))) = false) : Qgh p0 (Qep p0 i0 v0_1) v0_1 := by
 exact ⟨(envF (Qpf p0 i0 v0_1)), (zoF (Qkf p0 i0 v0_1)), Qj (Q12b p0 i0 v0_1) (x := ((.exit 0), Qny p0 v0_1 (envF (Qpf p0 i0 v0_1)) (zoF (Qkf p0 i0 v0_1)))) [hP 3 (Qw (Val.rows p0.list) (List.length p0.list) (Val.Q0 p0.list)), hB 0 hc0] [] (by kernel_rfl)⟩
theorem Q16g (p0 : Val) (H : Qfm p0) (rec : Qas p0) (x0 : Val) (i0 : Nat) (v0_1 : List Val) (hx0 : p0.list[i0]? = some x0) (hi0 : i0 < List.length p0.list) (ho0_0 : List.length v0_1 ≤ i0) (hc0 : (decide ((i0 : Int) < ((List.length p0.list) : Int))) = true) {r : Rs} (hr : Q5 G (Qep p0 (i0 + 1) (v0_1 ++ [x0])) r) : Q5 G (Qep p0 i0 v0_1) r := by
 have hB0 := H.1
 exact Qd (Q12b p0 i0 v0_1) (y := (Qvh p0 (i0 + 1) (v0_1 ++ [x0]), Qhq p0 (i0 + 1) (v0_1 ++ [x0]))) [hP 3 (Qw (Val.rows p0.list) (List.length p0.list) (Val.Q0 p0.list)), hB 0 hc0, hP 5 (Q2g 5 (Val.rows p0.list) i0 _ (Val.Qe hx0) rfl), hV 3 [(903, Val.rows (v0_1 ++ [x0]))] (Q3x 5 839 903 5 80 0 0 true (Val.rows v0_1) (Val.rows (v0_1 ++ [x0])) (Val.cells x0) (List.length v0_1) (List.length (v0_1 ++ [x0])) rfl (Val.Q0 v0_1).symm (Val.Q0 (v0_1 ++ [x0])).symm (Val.Q1q v0_1 x0) (Val.Ql v0_1) rfl (by omega)), hS 0 true (Val.Q7 (v0_1 ++ [x0]) 5 rfl), hP 3 (Q28 i0 (by omega))] [aN (rec x0 (szL hx0) (H.2.1 x0 (Q2o hx0)))] (by kernel_rfl) hr
theorem Qyl (p0 : Val) (H : Qfm p0) (rec : Qas p0) : ∀ (r0 : List Val) (i0 : Nat) (v0_1 : List Val), List.drop i0 p0.list = r0 → List.length v0_1 ≤ i0 → Qgh p0 (Qep p0 i0 v0_1) (Q3c p0 r0 i0 v0_1)
 | [], i0, v0_1, hd, ho0_0 => by
  have hc0 : (decide ((i0 : Int) < ((List.length p0.list) : Int))) = false := by have := Q1o hd; simp; omega
  rw [Q3c]
  exact Q18o p0 H rec i0 v0_1 ho0_0 hc0
 | x0 :: r0, i0, v0_1, hd, ho0_0 => by
  obtain ⟨hx0, hi0, hd'⟩ := Q1i hd
  have hc0 : (decide ((i0 : Int) < ((List.length p0.list) : Int))) = true := by simp; omega
  rw [Q3c]
  exact Qsl p0 (fun r hr => Q16g p0 H rec x0 i0 v0_1 hx0 hi0 ho0_0 hc0 hr) _ (Qyl p0 H rec r0 (i0 + 1) (v0_1 ++ [x0]) hd' (by first | omega | (simp; omega)))
def Qpg (p0 : Val) (i1 : Nat) (_v1_1 : List Fld) : List PV :=
  [.un, .bx 0 0, .un, .un, .un, .int .i64 (i1 : Int)] ++ nuns 25 ++ [.int .i64 (i1 : Int), .bx 0 4, .sl (Fld.rows p0.fields), .int .i64 ((List.length p0.fields) : Int), .bool false]
def Qkg (_p0 : Val) (_i1 : Nat) (_v1_1 : List Fld) : List (Nat × List PV) :=
  []
theorem Q18p (p0 : Val) (_H : Qfn p0) (_rec : Qas p0) (i1 : Nat) (v1_1 : List Fld) (_ho1_0 : List.length v1_1 ≤ i1) (hc1 : (decide ((i1 : Int) < ((List.length p0.fields) : Int))) = false) : Qgi p0 (Qeq p0 i1 v1_1) v1_1 := by
 exact ⟨(envF (Qpg p0 i1 v1_1)), (zoF (Qkg p0 i1 v1_1)), Qj (Q12c p0 i1 v1_1) (x := ((.exit 2), Qnz p0 v1_1 (envF (Qpg p0 i1 v1_1)) (zoF (Qkg p0 i1 v1_1)))) [hP 3 (Qw (Fld.rows p0.fields) (List.length p0.fields) (Fld.Q0 p0.fields)), hB 0 hc1] [] (by kernel_rfl)⟩
theorem Q16h (p0 : Val) (H : Qfn p0) (rec : Qas p0) (x1 : Fld) (i1 : Nat) (v1_1 : List Fld) (hx1 : p0.fields[i1]? = some x1) (hi1 : i1 < List.length p0.fields) (ho1_0 : List.length v1_1 ≤ i1) (hc1 : (decide ((i1 : Int) < ((List.length p0.fields) : Int))) = true) {r : Rs} (hr : Q5 G (Qeq p0 (i1 + 1) (v1_1 ++ [x1])) r) : Q5 G (Qeq p0 i1 v1_1) r := by
 have hB0 := H.1
 exact Qd (Q12c p0 i1 v1_1) (y := (Qvi p0 (i1 + 1) (v1_1 ++ [x1]), Qhr p0 (i1 + 1) (v1_1 ++ [x1]))) [hP 3 (Qw (Fld.rows p0.fields) (List.length p0.fields) (Fld.Q0 p0.fields)), hB 0 hc1, hP 5 (Q2g 6 (Fld.rows p0.fields) i1 _ (Fld.Qe hx1) rfl), hP 5 (Q2g 6 (Fld.rows p0.fields) i1 _ (Fld.Qe hx1) rfl), hV 5 [(1415, Fld.rows (v1_1 ++ [x1]))] (Q3x 6 1351 1415 6 96 0 0 true (Fld.rows v1_1) (Fld.rows (v1_1 ++ [x1])) (Fld.cells x1) (List.length v1_1) (List.length (v1_1 ++ [x1])) rfl (Fld.Q0 v1_1).symm (Fld.Q0 (v1_1 ++ [x1])).symm (Fld.Q1q v1_1 x1) (Fld.Ql v1_1) rfl (by omega)), hS 0 true (Fld.Q7 (v1_1 ++ [x1]) 6 rfl), hP 3 (Q28 i1 (by omega))] [aN (rec x1.v (szF hx1) (H.2.1 x1 (Q2o hx1)))] (by kernel_rfl) hr
theorem Qym (p0 : Val) (H : Qfn p0) (rec : Qas p0) : ∀ (r1 : List Fld) (i1 : Nat) (v1_1 : List Fld), List.drop i1 p0.fields = r1 → List.length v1_1 ≤ i1 → Qgi p0 (Qeq p0 i1 v1_1) (Q5a p0 r1 i1 v1_1)
 | [], i1, v1_1, hd, ho1_0 => by
  have hc1 : (decide ((i1 : Int) < ((List.length p0.fields) : Int))) = false := by have := Q1o hd; simp; omega
  rw [Q5a]
  exact Q18p p0 H rec i1 v1_1 ho1_0 hc1
 | x1 :: r1, i1, v1_1, hd, ho1_0 => by
  obtain ⟨hx1, hi1, hd'⟩ := Q1i hd
  have hc1 : (decide ((i1 : Int) < ((List.length p0.fields) : Int))) = true := by simp; omega
  rw [Q5a]
  exact Qsm p0 (fun r hr => Q16h p0 H rec x1 i1 v1_1 hx1 hi1 ho1_0 hc1 hr) _ (Qym p0 H rec r1 (i1 + 1) (v1_1 ++ [x1]) hd' (by first | omega | (simp; omega)))
theorem Q200 (p0 : Val) (H : Qwm p0) (rec : Qas p0) : Q5 G (Q1dy p0) (Q1aa p0) := by
  unfold Q1aa
  rw [Q1yl]
  have hl0 := Qyl p0 ((Q13b p0 H).1) rec p0.list 0 [] (by simp) (by simp)
  obtain ⟨z0, zo0, hl0⟩ := hl0
  have hl1 := Qym p0 ((Q13b p0 H).2.1) rec p0.fields 0 [] (by simp) (by simp)
  obtain ⟨z1, zo1, hl1⟩ := hl1
  exact Q6 (fn := Ir.K1m) rfl VOK.nil [hS 0 true (Val.Q7 (Q3c p0 p0.list 0 []) 5 rfl), hS 0 true (Val.Q7 (Q3c p0 p0.list 0 []) 5 rfl), hS 0 true (Fld.Q7 (Q5a p0 p0.fields 0 []) 6 rfl), hQ (Val.Q0 (Q3c p0 p0.list 0 [])).symm, hQ (Fld.Q0 (Q5a p0 p0.fields 0 [])).symm] [aV [(5, Val.rows (Q3c p0 p0.list 0 []))] hl0, aV [(5, Val.rows (Q3c p0 p0.list 0 [])), (6, Fld.rows (Q5a p0 p0.fields 0 []))] hl1] (by kernel_rfl)
theorem Q1qe : ∀ (k : Nat) (p0 : Val), SizeOf.sizeOf p0 < k → Qwm p0 → Q5 G (Q1dy p0) (Q1aa p0)
  | 0, _, h, _ => absurd h (Nat.not_lt_zero _)
  | k + 1, p0, h, H => Q200 p0 H (fun q hq hH => Q1qe k q (by omega) hH)
theorem Q21d (p0 : Val) (H : Qwm p0) : Q5 G (Q1dy p0) (Q1aa p0) := Q1qe _ p0 (Nat.lt_succ_self _) H
end Go.Proofs.YtimjjohlpnkacaaGreat
end

section
/- What the reference's encoders compute (printed by a program). -/
namespace Go.Proofs.YtimjjohlpnkacaaGreat
open Go.Pv
def Q2k (p0 : List Fld) (p1 : Fld) : List Fld → Nat → (List Fld) → Bool → (List Fld) × Bool
 | [], _i0, v0_1, v0_2 =>
  (v0_1, v0_2)
 | x0 :: r0, i0, v0_1, v0_2 =>
  bif (v0_2 == true) then
   bif (sEq x0.name p1.name) then
    Q2k p0 p1 r0 (i0 + 1) v0_1 v0_2
   else
    Q2k p0 p1 r0 (i0 + 1) (v0_1 ++ [x0]) v0_2
  else
   bif ((sLt p1.name x0.name) || (sEq p1.name x0.name)) then
    bif (sEq x0.name p1.name) then
     Q2k p0 p1 r0 (i0 + 1) (v0_1 ++ [p1]) true
    else
     Q2k p0 p1 r0 (i0 + 1) ((v0_1 ++ [p1]) ++ [x0]) true
   else
    bif (sEq x0.name p1.name) then
     Q2k p0 p1 r0 (i0 + 1) v0_1 v0_2
    else
     Q2k p0 p1 r0 (i0 + 1) (v0_1 ++ [x0]) v0_2
def Q6x (p0 : List Fld) (_p1 : Fld) (i0 : Nat) (v0_1 : List Fld) (v0_2 : Bool) : List PV :=
  [.sl (Fld.rows p0), .un, .un, .bx 0 0, .un, .ms 1 6 0 (List.length v0_1), .bool v0_2, .int .i64 (i0 : Int)] ++ nuns 44
def Q67 (_p0 : List Fld) (p1 : Fld) (_i0 : Nat) (v0_1 : List Fld) (_v0_2 : Bool) : List Ob :=
  [⟨6, 0, true, [.str p1.name, .int .i64 p1.v.kind, .int .i64 p1.v.n, .str p1.v.s, .sl (Val.rows p1.v.list), .sl (Fld.rows p1.v.fields)]⟩, ⟨6, 0, true, (Fld.rows v0_1).flatten⟩]
def Q43 (p0 : List Fld) (p1 : Fld) (i0 : Nat) (v0_1 : List Fld) (v0_2 : Bool) : En := .loop 0 Ir.Qj1 Ir.Q1gh (Q6x p0 p1 i0 v0_1 v0_2) (Q67 p0 p1 i0 v0_1 v0_2)
def Qo2 (_p0 : List Fld) (p1 : Fld) (q0 : List Fld) (q1 : Bool) (z : Nat → PV) (_zo : Nat → List PV) : St :=
  ⟨[z 0, z 1, z 2, .bx 0 0, z 4, .ms 1 6 0 (List.length q0), .bool q1] ++ zr z 7 45, [(0, ⟨6, 0, true, [.str p1.name, .int .i64 p1.v.kind, .int .i64 p1.v.n, .str p1.v.s, .sl (Val.rows p1.v.list), .sl (Fld.rows p1.v.fields)]⟩), (1, ⟨6, 0, true, (Fld.rows q0).flatten⟩)], 258⟩
theorem Q8g (p0 : List Fld) (p1 : Fld) (i0 : Nat) (v0_1 : List Fld) (v0_2 : Bool) : VOK (Go.Pv.look (number 0 (Q67 p0 p1 i0 v0_1 v0_2))) [(1, Fld.rows v0_1)] := (VOK.cons (show Seen _ _ from Q3i (ob := ⟨6, 0, true, (Fld.rows v0_1).flatten⟩) (Fld.Q7 v0_1 6 rfl)) VOK.nil)
def Qgk (p0 : List Fld) (p1 : Fld) (e : En) (q : (List Fld) × Bool) : Prop := ∃ z zo, Q5 G e (.st (.exit 0) (Qo2 p0 p1 q.1 q.2 z zo))
theorem Q48 (p0 : List Fld) (p1 : Fld) {e e' : En} (h : ∀ r, Q5 G e r → Q5 G e' r) : ∀ q, Qgk p0 p1 e q → Qgk p0 p1 e' q
  | _, ⟨z, zo, hz⟩ => ⟨z, zo, h _ hz⟩
def Q6j (p0 : List Fld) (_p1 : Fld) : Prop := (List.length p0 ≤ 137438953472) ∧ True
def Qpn (p0 : List Fld) (_p1 : Fld) (i0 : Nat) (_v0_1 : List Fld) (_v0_2 : Bool) : List PV :=
  [.sl (Fld.rows p0)] ++ nuns 6 ++ [.int .i64 (i0 : Int), .int .i64 (i0 : Int), .sl (Fld.rows p0), .int .i64 ((List.length p0) : Int), .bool false]
def Qkn (_p0 : List Fld) (_p1 : Fld) (_i0 : Nat) (_v0_1 : List Fld) (_v0_2 : Bool) : List (Nat × List PV) :=
  []
theorem Q18w (p0 : List Fld) (p1 : Fld) (_H : Q6j p0 p1) (i0 : Nat) (v0_1 : List Fld) (v0_2 : Bool) (_ho0_0 : List.length v0_1 ≤ 2 * i0) (hc0 : (decide ((i0 : Int) < ((List.length p0) : Int))) = false) : Qgk p0 p1 (Q43 p0 p1 i0 v0_1 v0_2) (v0_1, v0_2) := by
 exact ⟨(envF (Qpn p0 p1 i0 v0_1 v0_2)), (zoF (Qkn p0 p1 i0 v0_1 v0_2)), Qj (Q8g p0 p1 i0 v0_1 v0_2) (x := ((.exit 0), Qo2 p0 p1 v0_1 v0_2 (envF (Qpn p0 p1 i0 v0_1 v0_2)) (zoF (Qkn p0 p1 i0 v0_1 v0_2)))) [hP 2 (Qw (Fld.rows p0) (List.length p0) (Fld.Q0 p0)), hB 0 hc0] [] (by kernel_rfl)⟩
theorem Q16l (p0 : List Fld) (p1 : Fld) (H : Q6j p0 p1) (x0 : Fld) (i0 : Nat) (v0_1 : List Fld) (v0_2 : Bool) (hx0 : p0[i0]? = some x0) (hi0 : i0 < List.length p0) (_ho0_0 : List.length v0_1 ≤ 2 * i0) (hc0 : (decide ((i0 : Int) < ((List.length p0) : Int))) = true) (h0 : (v0_2 == true) = true) (h1 : (sEq x0.name p1.name) = true) {r : Rs} (hr : Q5 G (Q43 p0 p1 (i0 + 1) v0_1 v0_2) r) : Q5 G (Q43 p0 p1 i0 v0_1 v0_2) r := by
 have hB0 := H.1
 exact Qd (Q8g p0 p1 i0 v0_1 v0_2) (y := (Q6x p0 p1 (i0 + 1) v0_1 v0_2, Q67 p0 p1 (i0 + 1) v0_1 v0_2)) [hP 2 (Qw (Fld.rows p0) (List.length p0) (Fld.Q0 p0)), hB 0 hc0, hB 0 (beqT h0), hP 13 (Q2g 6 (Fld.rows p0) i0 _ (Fld.Qe hx0) rfl), hP 4 (dec (!(sEq x0.name p1.name)) false (by rw [h1]; rfl)), hP 1 (Q28 i0 (by omega))] [] (by kernel_rfl) hr
theorem Q16m (p0 : List Fld) (p1 : Fld) (H : Q6j p0 p1) (x0 : Fld) (i0 : Nat) (v0_1 : List Fld) (v0_2 : Bool) (hx0 : p0[i0]? = some x0) (hi0 : i0 < List.length p0) (ho0_0 : List.length v0_1 ≤ 2 * i0) (hc0 : (decide ((i0 : Int) < ((List.length p0) : Int))) = true) (h0 : (v0_2 == true) = true) (h1 : (sEq x0.name p1.name) = false) {r : Rs} (hr : Q5 G (Q43 p0 p1 (i0 + 1) (v0_1 ++ [x0]) v0_2) r) : Q5 G (Q43 p0 p1 i0 v0_1 v0_2) r := by
 have hB0 := H.1
 exact Qd (Q8g p0 p1 i0 v0_1 v0_2) (y := (Q6x p0 p1 (i0 + 1) (v0_1 ++ [x0]) v0_2, Q67 p0 p1 (i0 + 1) (v0_1 ++ [x0]) v0_2)) [hP 2 (Qw (Fld.rows p0) (List.length p0) (Fld.Q0 p0)), hB 0 hc0, hB 0 (beqT h0), hP 13 (Q2g 6 (Fld.rows p0) i0 _ (Fld.Qe hx0) rfl), hP 4 (dec (!(sEq x0.name p1.name)) true (by rw [h1]; rfl)), hP 3 (Q2g 6 (Fld.rows p0) i0 _ (Fld.Qe hx0) rfl), hV 2 [(1922, Fld.rows (v0_1 ++ [x0]))] (Q3x 1 1858 1922 6 96 0 0 true (Fld.rows v0_1) (Fld.rows (v0_1 ++ [x0])) (Fld.cells x0) (List.length v0_1) (List.length (v0_1 ++ [x0])) rfl (Fld.Q0 v0_1).symm (Fld.Q0 (v0_1 ++ [x0])).symm (Fld.Q1q v0_1 x0) (Fld.Ql v0_1) rfl (by omega)), hS 0 true (Fld.Q7 (v0_1 ++ [x0]) 6 rfl), hP 2 (Q28 i0 (by omega))] [] (by kernel_rfl) hr
theorem Q16n (p0 : List Fld) (p1 : Fld) (H : Q6j p0 p1) (x0 : Fld) (i0 : Nat) (v0_1 : List Fld) (v0_2 : Bool) (hx0 : p0[i0]? = some x0) (hi0 : i0 < List.length p0) (ho0_0 : List.length v0_1 ≤ 2 * i0) (hc0 : (decide ((i0 : Int) < ((List.length p0) : Int))) = true) (h0 : (v0_2 == true) = false) (h1 : ((sLt p1.name x0.name) || (sEq p1.name x0.name)) = true) (h2 : (sEq x0.name p1.name) = true) {r : Rs} (hr : Q5 G (Q43 p0 p1 (i0 + 1) (v0_1 ++ [p1]) true) r) : Q5 G (Q43 p0 p1 i0 v0_1 v0_2) r := by
 have hB0 := H.1
 exact Qd (Q8g p0 p1 i0 v0_1 v0_2) (y := (Q6x p0 p1 (i0 + 1) (v0_1 ++ [p1]) true, Q67 p0 p1 (i0 + 1) (v0_1 ++ [p1]) true)) [hP 2 (Qw (Fld.rows p0) (List.length p0) (Fld.Q0 p0)), hB 0 hc0, hB 0 (beqT h0), hP 6 (Q2g 6 (Fld.rows p0) i0 _ (Fld.Qe hx0) rfl), hB 2 h1, hV 4 [(1218, Fld.rows (v0_1 ++ [p1]))] (Q3x 1 1154 1218 6 96 0 0 true (Fld.rows v0_1) (Fld.rows (v0_1 ++ [p1])) (Fld.cells p1) (List.length v0_1) (List.length (v0_1 ++ [p1])) rfl (Fld.Q0 v0_1).symm (Fld.Q0 (v0_1 ++ [p1])).symm (Fld.Q1q v0_1 p1) (Fld.Ql v0_1) rfl (by omega)), hS 0 true (Fld.Q7 (v0_1 ++ [p1]) 6 rfl), hP 4 (Q2g 6 (Fld.rows p0) i0 _ (Fld.Qe hx0) rfl), hP 4 (dec (!(sEq x0.name p1.name)) false (by rw [h2]; rfl)), hP 1 (Q28 i0 (by omega))] [] (by kernel_rfl) hr
theorem Q16o (p0 : List Fld) (p1 : Fld) (H : Q6j p0 p1) (x0 : Fld) (i0 : Nat) (v0_1 : List Fld) (v0_2 : Bool) (hx0 : p0[i0]? = some x0) (hi0 : i0 < List.length p0) (ho0_0 : List.length v0_1 ≤ 2 * i0) (hc0 : (decide ((i0 : Int) < ((List.length p0) : Int))) = true) (h0 : (v0_2 == true) = false) (h1 : ((sLt p1.name x0.name) || (sEq p1.name x0.name)) = true) (h2 : (sEq x0.name p1.name) = false) {r : Rs} (hr : Q5 G (Q43 p0 p1 (i0 + 1) ((v0_1 ++ [p1]) ++ [x0]) true) r) : Q5 G (Q43 p0 p1 i0 v0_1 v0_2) r := by
 have hB0 := H.1
 exact Qd (Q8g p0 p1 i0 v0_1 v0_2) (y := (Q6x p0 p1 (i0 + 1) ((v0_1 ++ [p1]) ++ [x0]) true, Q67 p0 p1 (i0 + 1) ((v0_1 ++ [p1]) ++ [x0]) true)) [hP 2 (Qw (Fld.rows p0) (List.length p0) (Fld.Q0 p0)), hB 0 hc0, hB 0 (beqT h0), hP 6 (Q2g 6 (Fld.rows p0) i0 _ (Fld.Qe hx0) rfl), hB 2 h1, hV 4 [(1218, Fld.rows (v0_1 ++ [p1]))] (Q3x 1 1154 1218 6 96 0 0 true (Fld.rows v0_1) (Fld.rows (v0_1 ++ [p1])) (Fld.cells p1) (List.length v0_1) (List.length (v0_1 ++ [p1])) rfl (Fld.Q0 v0_1).symm (Fld.Q0 (v0_1 ++ [p1])).symm (Fld.Q1q v0_1 p1) (Fld.Ql v0_1) rfl (by omega)), hS 0 true (Fld.Q7 (v0_1 ++ [p1]) 6 rfl), hP 4 (Q2g 6 (Fld.rows p0) i0 _ (Fld.Qe hx0) rfl), hP 4 (dec (!(sEq x0.name p1.name)) true (by rw [h2]; rfl)), hP 3 (Q2g 6 (Fld.rows p0) i0 _ (Fld.Qe hx0) rfl), hV 2 [(2306, Fld.rows ((v0_1 ++ [p1]) ++ [x0]))] (Q3x 1218 2242 2306 6 96 0 0 true (Fld.rows (v0_1 ++ [p1])) (Fld.rows ((v0_1 ++ [p1]) ++ [x0])) (Fld.cells x0) (List.length (v0_1 ++ [p1])) (List.length ((v0_1 ++ [p1]) ++ [x0])) rfl (Fld.Q0 (v0_1 ++ [p1])).symm (Fld.Q0 ((v0_1 ++ [p1]) ++ [x0])).symm (Fld.Q1q (v0_1 ++ [p1]) x0) (Fld.Ql (v0_1 ++ [p1])) rfl (by try simp only [List.length_append, List.length_cons, List.length_nil]; omega)), hS 0 true (Fld.Q7 ((v0_1 ++ [p1]) ++ [x0]) 6 rfl), hP 2 (Q28 i0 (by omega))] [] (by kernel_rfl) hr
theorem Q16p (p0 : List Fld) (p1 : Fld) (H : Q6j p0 p1) (x0 : Fld) (i0 : Nat) (v0_1 : List Fld) (v0_2 : Bool) (hx0 : p0[i0]? = some x0) (hi0 : i0 < List.length p0) (_ho0_0 : List.length v0_1 ≤ 2 * i0) (hc0 : (decide ((i0 : Int) < ((List.length p0) : Int))) = true) (h0 : (v0_2 == true) = false) (h1 : ((sLt p1.name x0.name) || (sEq p1.name x0.name)) = false) (h2 : (sEq x0.name p1.name) = true) {r : Rs} (hr : Q5 G (Q43 p0 p1 (i0 + 1) v0_1 v0_2) r) : Q5 G (Q43 p0 p1 i0 v0_1 v0_2) r := by
 have hB0 := H.1
 exact Qd (Q8g p0 p1 i0 v0_1 v0_2) (y := (Q6x p0 p1 (i0 + 1) v0_1 v0_2, Q67 p0 p1 (i0 + 1) v0_1 v0_2)) [hP 2 (Qw (Fld.rows p0) (List.length p0) (Fld.Q0 p0)), hB 0 hc0, hB 0 (beqT h0), hP 6 (Q2g 6 (Fld.rows p0) i0 _ (Fld.Qe hx0) rfl), hB 2 h1, hP 3 (Q2g 6 (Fld.rows p0) i0 _ (Fld.Qe hx0) rfl), hP 4 (dec (!(sEq x0.name p1.name)) false (by rw [h2]; rfl)), hP 1 (Q28 i0 (by omega))] [] (by kernel_rfl) hr
theorem Q16q (p0 : List Fld) (p1 : Fld) (H : Q6j p0 p1) (x0 : Fld) (i0 : Nat) (v0_1 : List Fld) (v0_2 : Bool) (hx0 : p0[i0]? = some x0) (hi0 : i0 < List.length p0) (ho0_0 : List.length v0_1 ≤ 2 * i0) (hc0 : (decide ((i0 : Int) < ((List.length p0) : Int))) = true) (h0 : (v0_2 == true) = false) (h1 : ((sLt p1.name x0.name) || (sEq p1.name x0.name)) = false) (h2 : (sEq x0.name p1.name) = false) {r : Rs} (hr : Q5 G (Q43 p0 p1 (i0 + 1) (v0_1 ++ [x0]) v0_2) r) : Q5 G (Q43 p0 p1 i0 v0_1 v0_2) r := by
 have hB0 := H.1
 exact Qd (Q8g p0 p1 i0 v0_1 v0_2) (y := (Q6x p0 p1 (i0 + 1) (v0_1 ++ [x0]) v0_2, Q67 p0 p1 (i0 + 1) (v0_1 ++ [x0]) v0_2)) [hP 2 (Qw (Fld.rows p0) (List.length p0) (Fld.Q0 p0)), hB 0 hc0, hB 0 (beqT h0), hP 6 (Q2g 6 (Fld.rows p0) i0 _ (Fld.Qe hx0) rfl), hB 2 h1, hP 3 (Q2g 6 (Fld.rows p0) i0 _ (Fld.Qe hx0) rfl), hP 4 (dec (!(sEq x0.name p1.name)) true (by rw [h2]; rfl)), hP 3 (Q2g 6 (Fld.rows p0) i0 _ (Fld.Qe hx0) rfl), hV 2 [(1922, Fld.rows (v0_1 ++ [x0]))] (Q3x 1 1858 1922 6 96 0 0 true (Fld.rows v0_1) (Fld.rows (v0_1 ++ [x0])) (Fld.cells x0) (List.length v0_1) (List.length (v0_1 ++ [x0])) rfl (Fld.Q0 v0_1).symm (Fld.Q0 (v0_1 ++ [x0])).symm (Fld.Q1q v0_1 x0) (Fld.Ql v0_1) rfl (by omega)), hS 0 true (Fld.Q7 (v0_1 ++ [x0]) 6 rfl), hP 2 (Q28 i0 (by omega))] [] (by kernel_rfl) hr
theorem Q6z (p0 : List Fld) (p1 : Fld) (H : Q6j p0 p1) : ∀ (r0 : List Fld) (i0 : Nat) (v0_1 : List Fld) (v0_2 : Bool), List.drop i0 p0 = r0 → List.length v0_1 ≤ 2 * i0 → Qgk p0 p1 (Q43 p0 p1 i0 v0_1 v0_2) (Q2k p0 p1 r0 i0 v0_1 v0_2)
 | [], i0, v0_1, v0_2, hd, ho0_0 => by
  have hc0 : (decide ((i0 : Int) < ((List.length p0) : Int))) = false := by have := Q1o hd; simp; omega
  rw [Q2k]
  exact Q18w p0 p1 H i0 v0_1 v0_2 ho0_0 hc0
 | x0 :: r0, i0, v0_1, v0_2, hd, ho0_0 => by
  obtain ⟨hx0, hi0, hd'⟩ := Q1i hd
  have hc0 : (decide ((i0 : Int) < ((List.length p0) : Int))) = true := by simp; omega
  rw [Q2k]
  cases h0 : (v0_2 == true) with
  | true =>
   cases h1 : (sEq x0.name p1.name) with
   | true =>
    exact Q48 p0 p1 (fun r hr => Q16l p0 p1 H x0 i0 v0_1 v0_2 hx0 hi0 ho0_0 hc0 h0 h1 hr) _ (Q6z p0 p1 H r0 (i0 + 1) v0_1 v0_2 hd' (by first | omega | (simp; omega)))
   | false =>
    exact Q48 p0 p1 (fun r hr => Q16m p0 p1 H x0 i0 v0_1 v0_2 hx0 hi0 ho0_0 hc0 h0 h1 hr) _ (Q6z p0 p1 H r0 (i0 + 1) (v0_1 ++ [x0]) v0_2 hd' (by first | omega | (simp; omega)))
  | false =>
   cases h1 : ((sLt p1.name x0.name) || (sEq p1.name x0.name)) with
   | true =>
    cases h2 : (sEq x0.name p1.name) with
    | true =>
     exact Q48 p0 p1 (fun r hr => Q16n p0 p1 H x0 i0 v0_1 v0_2 hx0 hi0 ho0_0 hc0 h0 h1 h2 hr) _ (Q6z p0 p1 H r0 (i0 + 1) (v0_1 ++ [p1]) true hd' (by first | omega | (simp; omega)))
    | false =>
     exact Q48 p0 p1 (fun r hr => Q16o p0 p1 H x0 i0 v0_1 v0_2 hx0 hi0 ho0_0 hc0 h0 h1 h2 hr) _ (Q6z p0 p1 H r0 (i0 + 1) ((v0_1 ++ [p1]) ++ [x0]) true hd' (by first | omega | (simp; omega)))
   | false =>
    cases h2 : (sEq x0.name p1.name) with
    | true =>
     exact Q48 p0 p1 (fun r hr => Q16p p0 p1 H x0 i0 v0_1 v0_2 hx0 hi0 ho0_0 hc0 h0 h1 h2 hr) _ (Q6z p0 p1 H r0 (i0 + 1) v0_1 v0_2 hd' (by first | omega | (simp; omega)))
    | false =>
     exact Q48 p0 p1 (fun r hr => Q16q p0 p1 H x0 i0 v0_1 v0_2 hx0 hi0 ho0_0 hc0 h0 h1 h2 hr) _ (Q6z p0 p1 H r0 (i0 + 1) (v0_1 ++ [x0]) v0_2 hd' (by first | omega | (simp; omega)))
def Qzs (p0 : List Fld) (p1 : Fld) : List Fld :=
 bif (Q2k p0 p1 p0 0 [] false).2 then
  (Q2k p0 p1 p0 0 [] false).1
 else
  ((Q2k p0 p1 p0 0 [] false).1 ++ [p1])
def Q1wl (p0 : List Fld) (p1 : Fld) : En := .call 173 [.sl (Fld.rows p0), .agg (Fld.cells p1)] []
def Q1oe (p0 : List Fld) (p1 : Fld) : Rs := .ret (.sl (Fld.rows (Qzs p0 p1))) []
def Q1na (p0 : List Fld) (p1 : Fld) : Prop := (Q6j p0 p1) ∧ ((Q2k p0 p1 p0 0 [] false).2 = false → ((List.length (Q2k p0 p1 p0 0 [] false).1) + 1) * 96 ≤ 140737488355328) ∧ True
theorem Q21h (p0 : List Fld) (p1 : Fld) (H : Q1na p0 p1) : Q5 G (Q1wl p0 p1) (Q1oe p0 p1) := by
 unfold Q1oe Qzs
 have hl0 := Q6z p0 p1 (H.1) p0 0 [] false (by simp) (by simp)
 obtain ⟨z0, zo0, hl0⟩ := hl0
 cases h0 : (Q2k p0 p1 p0 0 [] false).2 with
 | true =>
  exact Q6 (fn := Ir.K1u) rfl VOK.nil [hS 0 true (Fld.Q7 (Q2k p0 p1 p0 0 [] false).1 6 rfl), hB 5 h0, hQ (Fld.Q0 (Q2k p0 p1 p0 0 [] false).1).symm] [aV [(1, Fld.rows (Q2k p0 p1 p0 0 [] false).1)] hl0] (by kernel_rfl)
 | false =>
  exact Q6 (fn := Ir.K1u) rfl VOK.nil [hS 0 true (Fld.Q7 (Q2k p0 p1 p0 0 [] false).1 6 rfl), hB 5 h0, hV 4 [(578, Fld.rows ((Q2k p0 p1 p0 0 [] false).1 ++ [p1]))] (Q3x 1 514 578 6 96 0 0 true (Fld.rows (Q2k p0 p1 p0 0 [] false).1) (Fld.rows ((Q2k p0 p1 p0 0 [] false).1 ++ [p1])) (Fld.cells p1) (List.length (Q2k p0 p1 p0 0 [] false).1) (List.length ((Q2k p0 p1 p0 0 [] false).1 ++ [p1])) rfl (Fld.Q0 (Q2k p0 p1 p0 0 [] false).1).symm (Fld.Q0 ((Q2k p0 p1 p0 0 [] false).1 ++ [p1])).symm (Fld.Q1q (Q2k p0 p1 p0 0 [] false).1 p1) (Fld.Ql (Q2k p0 p1 p0 0 [] false).1) rfl (H.2.1 h0)), hS 0 true (Fld.Q7 ((Q2k p0 p1 p0 0 [] false).1 ++ [p1]) 6 rfl), hQ (Fld.Q0 ((Q2k p0 p1 p0 0 [] false).1 ++ [p1])).symm] [aV [(1, Fld.rows (Q2k p0 p1 p0 0 [] false).1)] hl0] (by kernel_rfl)
def Qcj (p0 : List Fld) : List Fld → Nat → Val → Val
 | [], _i0, v0_1 =>
  v0_1
 | x0 :: r0, i0, v0_1 =>
  Qcj p0 r0 (i0 + 1) (Val.mk v0_1.kind v0_1.n v0_1.s v0_1.list (Qzs v0_1.fields x0))
def Qvj (p0 : List Fld) (i0 : Nat) (_v0_1 : Val) : List PV :=
  [.sl (Fld.rows p0), .un, .bx 0 0, .bx 1 0, .int .i64 (i0 : Int)] ++ nuns 24
def Qwc (_p0 : List Fld) (_i0 : Nat) (v0_1 : Val) : List Ob :=
  [⟨5, 0, true, [.int .i64 0, .int .i64 0, .str eB, .sl [], .sl []]⟩, ⟨5, 0, true, [.int .i64 v0_1.kind, .int .i64 v0_1.n, .str v0_1.s, .sl (Val.rows v0_1.list), .sl (Fld.rows v0_1.fields)]⟩]
def Qer (p0 : List Fld) (i0 : Nat) (v0_1 : Val) : En := .loop 0 Ir.Qiy Ir.Q1ge (Qvj p0 i0 v0_1) (Qwc p0 i0 v0_1)
def Qo0 (_p0 : List Fld) (q0 : Val) (z : Nat → PV) (_zo : Nat → List PV) : St :=
  ⟨[z 0, z 1, .bx 0 0, .bx 1 0] ++ zr z 4 25, [(0, ⟨5, 0, true, [.int .i64 0, .int .i64 0, .str eB, .sl [], .sl []]⟩), (1, ⟨5, 0, true, [.int .i64 q0.kind, .int .i64 q0.n, .str q0.s, .sl (Val.rows q0.list), .sl (Fld.rows q0.fields)]⟩)], 258⟩
def Qgj (p0 : List Fld) (e : En) (q : Val) : Prop := ∃ z zo, Q5 G e (.st (.exit 0) (Qo0 p0 q z zo))
theorem Qsn (p0 : List Fld) {e e' : En} (h : ∀ r, Q5 G e r → Q5 G e' r) : ∀ q, Qgj p0 e q → Qgj p0 e' q
  | _, ⟨z, zo, hz⟩ => ⟨z, zo, h _ hz⟩
def Qfo (p0 : List Fld) : Prop := (List.length p0 ≤ 137438953472) ∧ (∀ x0 ∈ p0, Qwm x0.v) ∧ (∀ (i0 : Nat) (v0_1 : Val) (x0 : Fld), p0[i0]? = some x0 → List.length v0_1.fields ≤ i0 → Q1na v0_1.fields x0) ∧ (∀ (i0 : Nat) (v0_1 : Val) (x0 : Fld), p0[i0]? = some x0 → List.length v0_1.fields ≤ i0 → List.length (Val.mk v0_1.kind v0_1.n v0_1.s v0_1.list (Qzs v0_1.fields x0)).fields ≤ (i0 + 1)) ∧ True
def Qph (p0 : List Fld) (i0 : Nat) (_v0_1 : Val) : List PV :=
  [.sl (Fld.rows p0), .un, .un, .un, .int .i64 (i0 : Int), .un, .int .i64 (i0 : Int), .sl (Fld.rows p0), .int .i64 ((List.length p0) : Int), .bool false]
def Qkh (_p0 : List Fld) (_i0 : Nat) (_v0_1 : Val) : List (Nat × List PV) :=
  []
theorem Q18q (p0 : List Fld) (_H : Qfo p0) (i0 : Nat) (v0_1 : Val) (_ho0_0 : List.length v0_1.fields ≤ i0) (hc0 : (decide ((i0 : Int) < ((List.length p0) : Int))) = false) : Qgj p0 (Qer p0 i0 v0_1) v0_1 := by
 exact ⟨(envF (Qph p0 i0 v0_1)), (zoF (Qkh p0 i0 v0_1)), Qj VOK.nil (x := ((.exit 0), Qo0 p0 v0_1 (envF (Qph p0 i0 v0_1)) (zoF (Qkh p0 i0 v0_1)))) [hP 2 (Qw (Fld.rows p0) (List.length p0) (Fld.Q0 p0)), hB 0 hc0] [] (by kernel_rfl)⟩
theorem Q16i (p0 : List Fld) (H : Qfo p0) (x0 : Fld) (i0 : Nat) (v0_1 : Val) (hx0 : p0[i0]? = some x0) (hi0 : i0 < List.length p0) (ho0_0 : List.length v0_1.fields ≤ i0) (hc0 : (decide ((i0 : Int) < ((List.length p0) : Int))) = true) {r : Rs} (hr : Q5 G (Qer p0 (i0 + 1) (Val.mk v0_1.kind v0_1.n v0_1.s v0_1.list (Qzs v0_1.fields x0))) r) : Q5 G (Qer p0 i0 v0_1) r := by
 have hB0 := H.1
 exact Qd VOK.nil (y := (Qvj p0 (i0 + 1) (Val.mk v0_1.kind v0_1.n v0_1.s v0_1.list (Qzs v0_1.fields x0)), Qwc p0 (i0 + 1) (Val.mk v0_1.kind v0_1.n v0_1.s v0_1.list (Qzs v0_1.fields x0)))) [hP 2 (Qw (Fld.rows p0) (List.length p0) (Fld.Q0 p0)), hB 0 hc0, hP 4 (Q2g 6 (Fld.rows p0) i0 _ (Fld.Qe hx0) rfl), hP 4 (Q2g 6 (Fld.rows p0) i0 _ (Fld.Qe hx0) rfl), hP 8 (Q28 i0 (by omega))] [aN (Q21d x0.v (H.2.1 x0 (Q2o hx0))), aN (Q21h v0_1.fields x0 (H.2.2.1 i0 v0_1 x0 hx0 ho0_0))] (by kernel_rfl) hr
theorem Qyn (p0 : List Fld) (H : Qfo p0) : ∀ (r0 : List Fld) (i0 : Nat) (v0_1 : Val), List.drop i0 p0 = r0 → List.length v0_1.fields ≤ i0 → Qgj p0 (Qer p0 i0 v0_1) (Qcj p0 r0 i0 v0_1)
 | [], i0, v0_1, hd, ho0_0 => by
  have hc0 : (decide ((i0 : Int) < ((List.length p0) : Int))) = false := by have := Q1o hd; simp; omega
  rw [Qcj]
  exact Q18q p0 H i0 v0_1 ho0_0 hc0
 | x0 :: r0, i0, v0_1, hd, ho0_0 => by
  obtain ⟨hx0, hi0, hd'⟩ := Q1i hd
  have hc0 : (decide ((i0 : Int) < ((List.length p0) : Int))) = true := by simp; omega
  rw [Qcj]
  exact Qsn p0 (fun r hr => Q16i p0 H x0 i0 v0_1 hx0 hi0 ho0_0 hc0 hr) _ (Qyn p0 H r0 (i0 + 1) (Val.mk v0_1.kind v0_1.n v0_1.s v0_1.list (Qzs v0_1.fields x0)) hd' ((H.2.2.2.1 i0 v0_1 x0 hx0 ho0_0)))
def Q1fm (p0 : List Fld) : Val :=
 (Qcj p0 p0 0 (Val.mk 5 0 eB [] []))
def Q1q9 (p0 : List Fld) : En := .call 66 [.sl (Fld.rows p0)] []
def Q1ob (p0 : List Fld) : Rs := .ret (.agg (Val.cells (Q1fm p0))) []
def Q1i3 (p0 : List Fld) : Prop := List.length p0 ≤ 1 ∧ ∀ f ∈ p0, Val.Sm 1000000000 f.v
theorem Q13c (p0 : List Fld) (H : Q1i3 p0) : (Qfo p0) ∧ (List.length (Val.mk 5 0 eB [] []).fields ≤ 0) ∧ True := by
  have H' : p0.length ≤ 1 ∧ ∀ f ∈ p0, Val.Sm 1000000000 f.v := H
  have hz : ∀ (i : Nat) (v : Val) (x : Fld), p0[i]? = some x → v.fields.length ≤ i → v.fields = [] ∧ i = 0 := fun i v x h g => by
    have := (List.getElem?_eq_some_iff.1 h).1
    exact ⟨List.eq_nil_of_length_eq_zero (by omega), by omega⟩
  refine ⟨⟨by omega, H'.2, fun i v x h g => ?_, fun i v x h g => ?_, trivial⟩, Nat.le_refl 0, trivial⟩
  · rw [(hz i v x h g).1]
    exact ⟨⟨Nat.zero_le _, trivial⟩, fun _ => Nat.le_of_ble_eq_true rfl, trivial⟩
  · obtain ⟨e1, e2⟩ := hz i v x h g
    rw [e1, e2]
    exact Nat.le_of_ble_eq_true rfl
theorem Q21f (p0 : List Fld) (H : Q1i3 p0) : Q5 G (Q1q9 p0) (Q1ob p0) := by
 unfold Q1ob Q1fm
 have hl0 := Qyn p0 ((Q13c p0 H).1) p0 0 (Val.mk 5 0 eB [] []) (by simp) ((Q13c p0 H).2.1)
 obtain ⟨z0, zo0, hl0⟩ := hl0
 exact Q6 (fn := Ir.K1q) rfl VOK.nil [] [aN hl0] (by kernel_rfl)
def Q1fo (p0 : CronJob) : Val := CronJob.encS p0
theorem Q1yo (p0 : CronJob) : Q1fo p0 = ((Q1s ([(Fld.mk Qf (Q14 p0.schedule)), (Fld.mk Qy (Qm p0.policy)), (Fld.mk Qb (Qm p0.startWithin)), (Fld.mk Qs (Qm p0.keepDone)), (Fld.mk Qa (Q2f p0.suspended)), (Fld.mk Q2x (Q11a p0.job))]))) := by
  kernel_rfl
def Q1wt (p0 : CronJob) : En := .call 161 [.agg (CronJob.cells p0)] []
def Q1om (p0 : CronJob) : Rs := .ret (.agg (Val.cells (Q1fo p0))) []
def Q1i7 (p0 : CronJob) : Prop := CronJob.sm p0
theorem Q1ed (p0 : CronJob) (H : Q1i7 p0) : (Q1dj p0.job) ∧ True := by
  exact ⟨(by first | exact True.intro | exact H | exact H.1 | exact ⟨H.1, trivial⟩ | exact ⟨H.2.1, trivial⟩), trivial⟩
theorem Q21k (p0 : CronJob) (H : Q1i7 p0) : Q5 G (Q1wt p0) (Q1om p0) := by
 unfold Q1om
 rw [Q1yo]
 exact Q6 (fn := Ir.K28) rfl VOK.nil [] [aN (Qeb p0.schedule), aN (Q58 p0.policy), aN (Q58 p0.startWithin), aN (Q58 p0.keepDone), aN (Q101 p0.suspended), aN (Q1rh p0.job (Q1ed p0 H).1), aN (Q59 (e' := .call 163 [.sl [(Fld.cells (Fld.mk Qf (Q14 p0.schedule))), (Fld.cells (Fld.mk Qy (Qm p0.policy))), (Fld.cells (Fld.mk Qb (Qm p0.startWithin))), (Fld.cells (Fld.mk Qs (Qm p0.keepDone))), (Fld.cells (Fld.mk Qa (Q2f p0.suspended))), (Fld.cells (Fld.mk Q2x (Q11a p0.job)))]] []) (Qcs ([(Fld.mk Qf (Q14 p0.schedule)), (Fld.mk Qy (Qm p0.policy)), (Fld.mk Qb (Qm p0.startWithin)), (Fld.mk Qs (Qm p0.keepDone)), (Fld.mk Qa (Q2f p0.suspended)), (Fld.mk Q2x (Q11a p0.job))]) (Nat.le_of_ble_eq_true rfl)) (by simp only [Qau, Fld.Q12, Fld.Q1n]))] (by kernel_rfl)
def Q42 (p0 : CronJob) : Object := CronJob.obj p0
theorem Q1z3 (p0 : CronJob) : Q42 p0 = ((Q1fq Qq p0.meta_ (Q1fo p0) (Q1fm ([(Fld.mk Q35 (Q119 p0.last))])))) := by
  first | rfl | kernel_rfl
def Q1xa (p0 : CronJob) : En := .call 51 [.agg (CronJob.cells p0)] []
def Q1p4 (p0 : CronJob) : Rs := .ret (.agg (Object.cells (Q42 p0))) []
def Q19v (p0 : CronJob) : Prop := CronJob.sm p0
theorem Q13g (p0 : CronJob) (H : Q19v p0) : (Q1i7 p0) ∧ (Q1i3 ([(Fld.mk Q35 (Q119 p0.last))])) ∧ True := by
  exact ⟨(by first | exact True.intro | exact H | exact H.1 | exact ⟨H.1, trivial⟩ | exact ⟨H.2.1, trivial⟩), ⟨Nat.le_of_ble_eq_true rfl, List.forall_mem_cons.2 ⟨Val.Sm.leaf _ _ _, List.forall_mem_nil _⟩⟩, trivial⟩
theorem Q1fu (p0 : CronJob) (H : Q19v p0) : Q5 G (Q1xa p0) (Q1p4 p0) := by
 unfold Q1p4
 rw [Q1z3]
 exact Q6 (fn := Ir.K3m) rfl VOK.nil [] [aN (Q21k p0 (Q13g p0 H).1), aN (Q21e p0.last), aN (Q59 (e' := .call 66 [.sl [(Fld.cells (Fld.mk Q35 (Q119 p0.last)))]] []) (Q21f ([(Fld.mk Q35 (Q119 p0.last))]) (Q13g p0 H).2.1) (by simp only [Q1q9, Fld.Q12, Fld.Q1n])), aN (Q1rj Qq p0.meta_ (Q1fo p0) (Q1fm ([(Fld.mk Q35 (Q119 p0.last))])))] (by kernel_rfl)
end Go.Proofs.YtimjjohlpnkacaaGreat
end

section
/- Equality of metadata and objects that are the same; what is small (printed by a program). -/
namespace Go.Proofs.YtimjjohlpnkacaaGreat
open Go.Pv
def Q1je (p0 : BA) (p1 : BA) (p2 : BA) : ByteArray :=
 ((((p0 ++ (⟨#[47]⟩ : BA)) ++ p1) ++ (⟨#[47]⟩ : BA)) ++ p2)
def Q1wn (p0 : BA) (p1 : BA) (p2 : BA) : En := .call 199 [.str p0, .str p1, .str p2] []
def Q1og (p0 : BA) (p1 : BA) (p2 : BA) : Rs := .ret (.str (Q1je p0 p1 p2)) []
def Q1nb (p0 : BA) (p1 : BA) (p2 : BA) : Prop := (ByteArray.size p0 + ByteArray.size (⟨#[47]⟩ : BA) ≤ 9223372036854775807) ∧ (ByteArray.size (p0 ++ (⟨#[47]⟩ : BA)) + ByteArray.size p1 ≤ 9223372036854775807) ∧ (ByteArray.size ((p0 ++ (⟨#[47]⟩ : BA)) ++ p1) + ByteArray.size (⟨#[47]⟩ : BA) ≤ 9223372036854775807) ∧ (ByteArray.size (((p0 ++ (⟨#[47]⟩ : BA)) ++ p1) ++ (⟨#[47]⟩ : BA)) + ByteArray.size p2 ≤ 9223372036854775807) ∧ True
theorem Q21i (p0 : BA) (p1 : BA) (p2 : BA) (H : Q1nb p0 p1 p2) : Q5 G (Q1wn p0 p1 p2) (Q1og p0 p1 p2) := by
 unfold Q1og Q1je
 exact Q6 (fn := Ir.K1w) rfl VOK.nil [hP 2 (Q12v p0 (⟨#[47]⟩ : BA) H.1), hP 1 (Q12v (p0 ++ (⟨#[47]⟩ : BA)) p1 H.2.1), hP 0 (Q12v ((p0 ++ (⟨#[47]⟩ : BA)) ++ p1) (⟨#[47]⟩ : BA) H.2.2.1), hP 1 (Q12v (((p0 ++ (⟨#[47]⟩ : BA)) ++ p1) ++ (⟨#[47]⟩ : BA)) p2 H.2.2.2.1)] [] (by kernel_rfl)
def Q1fn (p0 : Meta) : ByteArray :=
 (Q1je p0.kind p0.namespace_ p0.name)
def Q1wo (p0 : Meta) : En := .call 119 [.agg (Meta.cells p0)] []
def Q1oh (p0 : Meta) : Rs := .ret (.str (Q1fn p0)) []
def Q1nc (p0 : Meta) : Prop := (Q1nb p0.kind p0.namespace_ p0.name) ∧ True
theorem Q1rf (p0 : Meta) (H : Q1nc p0) : Q5 G (Q1wo p0) (Q1oh p0) := by
 unfold Q1oh Q1fn
 exact Q6 (fn := Ir.K1x) rfl VOK.nil [] [aN (Q21i p0.kind p0.namespace_ p0.name H.1)] (by kernel_rfl)
def Q13s (p0 : Meta) : List Label → Nat → Unit
 | [], _i0 =>
  ()
 | _x0 :: r0, i0 =>
  Q13s p0 r0 (i0 + 1)
def Qvm (_p0 : Meta) (i0 : Nat) : List PV :=
  [.un, .un, .bx 0 0, .bx 1 0, .un, .int .i64 (i0 : Int)] ++ nuns 168
def Qwf (p0 : Meta) (_i0 : Nat) : List Ob :=
  [⟨13, 0, true, [.str p0.kind, .str p0.namespace_, .str p0.name, .int .i64 p0.uid, .int .i64 p0.version, .int .i64 p0.generation, .int .i64 p0.created, .bool p0.deleting, .int .i64 p0.deleteAt, .sl (Label.rows p0.labels), .sl (Owner.rows p0.owners), .sl (Qu p0.finalizers), .sl (Manager.rows p0.managers)]⟩, ⟨13, 0, true, [.str p0.kind, .str p0.namespace_, .str p0.name, .int .i64 p0.uid, .int .i64 p0.version, .int .i64 p0.generation, .int .i64 p0.created, .bool p0.deleting, .int .i64 p0.deleteAt, .sl (Label.rows p0.labels), .sl (Owner.rows p0.owners), .sl (Qu p0.finalizers), .sl (Manager.rows p0.managers)]⟩]
def Qes (p0 : Meta) (i0 : Nat) : En := .loop 0 Ir.Qj2 Ir.Q1gi (Qvm p0 i0) (Qwf p0 i0)
def Qo3 (p0 : Meta) (z : Nat → PV) (_zo : Nat → List PV) : St :=
  ⟨[z 0, z 1, .bx 0 0, .bx 1 0] ++ zr z 4 170, [(0, ⟨13, 0, true, [.str p0.kind, .str p0.namespace_, .str p0.name, .int .i64 p0.uid, .int .i64 p0.version, .int .i64 p0.generation, .int .i64 p0.created, .bool p0.deleting, .int .i64 p0.deleteAt, .sl (Label.rows p0.labels), .sl (Owner.rows p0.owners), .sl (Qu p0.finalizers), .sl (Manager.rows p0.managers)]⟩), (1, ⟨13, 0, true, [.str p0.kind, .str p0.namespace_, .str p0.name, .int .i64 p0.uid, .int .i64 p0.version, .int .i64 p0.generation, .int .i64 p0.created, .bool p0.deleting, .int .i64 p0.deleteAt, .sl (Label.rows p0.labels), .sl (Owner.rows p0.owners), .sl (Qu p0.finalizers), .sl (Manager.rows p0.managers)]⟩)], 322⟩
def Q9x (p0 : Meta) (e : En) (_q : Unit) : Prop := ∃ z zo, Q5 G e (.st (.exit 0) (Qo3 p0 z zo))
theorem Qsq (p0 : Meta) {e e' : En} (h : ∀ r, Q5 G e r → Q5 G e' r) : ∀ q, Q9x p0 e q → Q9x p0 e' q
  | _, ⟨z, zo, hz⟩ => ⟨z, zo, h _ hz⟩
def Qfp (p0 : Meta) : Prop := (List.length p0.labels ≤ 4611686018427387904) ∧ True
def Qpo (p0 : Meta) (i0 : Nat) : List PV :=
  nuns 5 ++ [.int .i64 (i0 : Int)] ++ nuns 96 ++ [.int .i64 (i0 : Int), .bx 0 9, .sl (Label.rows p0.labels), .int .i64 ((List.length p0.labels) : Int), .bool false]
def Qko (_p0 : Meta) (_i0 : Nat) : List (Nat × List PV) :=
  []
theorem Q18x (p0 : Meta) (_H : Qfp p0) (i0 : Nat) (hc0 : (decide ((i0 : Int) < ((List.length p0.labels) : Int))) = false) : Q9x p0 (Qes p0 i0) () := by
 exact ⟨(envF (Qpo p0 i0)), (zoF (Qko p0 i0)), Qj VOK.nil (x := ((.exit 0), Qo3 p0 (envF (Qpo p0 i0)) (zoF (Qko p0 i0)))) [hP 3 (Qw (Label.rows p0.labels) (List.length p0.labels) (Label.Q0 p0.labels)), hB 0 hc0] [] (by kernel_rfl)⟩
theorem Q16r (p0 : Meta) (H : Qfp p0) (x0 : Label) (i0 : Nat) (hx0 : p0.labels[i0]? = some x0) (hi0 : i0 < List.length p0.labels) (hc0 : (decide ((i0 : Int) < ((List.length p0.labels) : Int))) = true) {r : Rs} (hr : Q5 G (Qes p0 (i0 + 1)) r) : Q5 G (Qes p0 i0) r := by
 have hB0 := H.1
 exact Qd VOK.nil (y := (Qvm p0 (i0 + 1), Qwf p0 (i0 + 1))) [hP 3 (Qw (Label.rows p0.labels) (List.length p0.labels) (Label.Q0 p0.labels)), hB 0 hc0, hP 3 (Q2g 2 (Label.rows p0.labels) i0 _ (Label.Qe hx0) rfl), hP 4 (Q2g 2 (Label.rows p0.labels) i0 _ (Label.Qe hx0) rfl), hP 1 (dec (!((sEq x0.key x0.key) && ((sEq x0.value x0.value) && true))) false (by rw [(and_tt (Q4o.2 rfl) (and_tt (Q4o.2 rfl) rfl))]; rfl)), hP 1 (Q28 i0 (by omega))] [] (by kernel_rfl) hr
theorem Qyq (p0 : Meta) (H : Qfp p0) : ∀ (r0 : List Label) (i0 : Nat), List.drop i0 p0.labels = r0 → Q9x p0 (Qes p0 i0) (Q13s p0 r0 i0)
 | [], i0, hd => by
  have hc0 : (decide ((i0 : Int) < ((List.length p0.labels) : Int))) = false := by have := Q1o hd; simp; omega
  show Q9x p0 _ ()
  exact Q18x p0 H i0 hc0
 | x0 :: r0, i0, hd => by
  obtain ⟨hx0, hi0, hd'⟩ := Q1i hd
  have hc0 : (decide ((i0 : Int) < ((List.length p0.labels) : Int))) = true := by simp; omega
  show Q9x p0 _ ()
  exact Qsq p0 (fun r hr => Q16r p0 H x0 i0 hx0 hi0 hc0 hr) _ (Qyq p0 H r0 (i0 + 1) hd')
def Q13t (p0 : Meta) : List Owner → Nat → Unit
 | [], _i1 =>
  ()
 | _x1 :: r1, i1 =>
  Q13t p0 r1 (i1 + 1)
def Qvn (_p0 : Meta) (i1 : Nat) : List PV :=
  [.un, .un, .bx 0 0, .bx 1 0, .un, .un, .int .i64 (i1 : Int)] ++ nuns 167
def Qwg (p0 : Meta) (_i1 : Nat) : List Ob :=
  [⟨13, 0, true, [.str p0.kind, .str p0.namespace_, .str p0.name, .int .i64 p0.uid, .int .i64 p0.version, .int .i64 p0.generation, .int .i64 p0.created, .bool p0.deleting, .int .i64 p0.deleteAt, .sl (Label.rows p0.labels), .sl (Owner.rows p0.owners), .sl (Qu p0.finalizers), .sl (Manager.rows p0.managers)]⟩, ⟨13, 0, true, [.str p0.kind, .str p0.namespace_, .str p0.name, .int .i64 p0.uid, .int .i64 p0.version, .int .i64 p0.generation, .int .i64 p0.created, .bool p0.deleting, .int .i64 p0.deleteAt, .sl (Label.rows p0.labels), .sl (Owner.rows p0.owners), .sl (Qu p0.finalizers), .sl (Manager.rows p0.managers)]⟩]
def Qet (p0 : Meta) (i1 : Nat) : En := .loop 0 Ir.Qj3 Ir.Q1gj (Qvn p0 i1) (Qwg p0 i1)
def Qo4 (p0 : Meta) (z : Nat → PV) (_zo : Nat → List PV) : St :=
  ⟨[z 0, z 1, .bx 0 0, .bx 1 0] ++ zr z 4 170, [(0, ⟨13, 0, true, [.str p0.kind, .str p0.namespace_, .str p0.name, .int .i64 p0.uid, .int .i64 p0.version, .int .i64 p0.generation, .int .i64 p0.created, .bool p0.deleting, .int .i64 p0.deleteAt, .sl (Label.rows p0.labels), .sl (Owner.rows p0.owners), .sl (Qu p0.finalizers), .sl (Manager.rows p0.managers)]⟩), (1, ⟨13, 0, true, [.str p0.kind, .str p0.namespace_, .str p0.name, .int .i64 p0.uid, .int .i64 p0.version, .int .i64 p0.generation, .int .i64 p0.created, .bool p0.deleting, .int .i64 p0.deleteAt, .sl (Label.rows p0.labels), .sl (Owner.rows p0.owners), .sl (Qu p0.finalizers), .sl (Manager.rows p0.managers)]⟩)], 322⟩
def Q9y (p0 : Meta) (e : En) (_q : Unit) : Prop := ∃ z zo, Q5 G e (.st (.exit 2) (Qo4 p0 z zo))
theorem Qsr (p0 : Meta) {e e' : En} (h : ∀ r, Q5 G e r → Q5 G e' r) : ∀ q, Q9y p0 e q → Q9y p0 e' q
  | _, ⟨z, zo, hz⟩ => ⟨z, zo, h _ hz⟩
def Qfq (p0 : Meta) : Prop := (List.length p0.owners ≤ 4611686018427387904) ∧ True
def Qpp (p0 : Meta) (i1 : Nat) : List PV :=
  nuns 6 ++ [.int .i64 (i1 : Int)] ++ nuns 113 ++ [.int .i64 (i1 : Int), .bx 0 10, .sl (Owner.rows p0.owners), .int .i64 ((List.length p0.owners) : Int), .bool false]
def Qkp (_p0 : Meta) (_i1 : Nat) : List (Nat × List PV) :=
  []
theorem Q18y (p0 : Meta) (_H : Qfq p0) (i1 : Nat) (hc1 : (decide ((i1 : Int) < ((List.length p0.owners) : Int))) = false) : Q9y p0 (Qet p0 i1) () := by
 exact ⟨(envF (Qpp p0 i1)), (zoF (Qkp p0 i1)), Qj VOK.nil (x := ((.exit 2), Qo4 p0 (envF (Qpp p0 i1)) (zoF (Qkp p0 i1)))) [hP 3 (Qw (Owner.rows p0.owners) (List.length p0.owners) (Owner.Q0 p0.owners)), hB 0 hc1] [] (by kernel_rfl)⟩
theorem Q16s (p0 : Meta) (H : Qfq p0) (x1 : Owner) (i1 : Nat) (hx1 : p0.owners[i1]? = some x1) (hi1 : i1 < List.length p0.owners) (hc1 : (decide ((i1 : Int) < ((List.length p0.owners) : Int))) = true) {r : Rs} (hr : Q5 G (Qet p0 (i1 + 1)) r) : Q5 G (Qet p0 i1) r := by
 have hB0 := H.1
 exact Qd VOK.nil (y := (Qvn p0 (i1 + 1), Qwg p0 (i1 + 1))) [hP 3 (Qw (Owner.rows p0.owners) (List.length p0.owners) (Owner.Q0 p0.owners)), hB 0 hc1, hP 3 (Q2g 5 (Owner.rows p0.owners) i1 _ (Owner.Qe hx1) rfl), hP 4 (Q2g 5 (Owner.rows p0.owners) i1 _ (Owner.Qe hx1) rfl), hP 1 (dec (!((sEq x1.kind x1.kind) && ((sEq x1.name x1.name) && ((x1.uid == x1.uid) && ((x1.controller == x1.controller) && ((x1.block == x1.block) && true)))))) false (by rw [(and_tt (Q4o.2 rfl) (and_tt (Q4o.2 rfl) (and_tt (beq_self_eq_true _) (and_tt (beq_self_eq_true _) (and_tt (beq_self_eq_true _) rfl)))))]; rfl)), hP 1 (Q28 i1 (by omega))] [] (by kernel_rfl) hr
theorem Qyr (p0 : Meta) (H : Qfq p0) : ∀ (r1 : List Owner) (i1 : Nat), List.drop i1 p0.owners = r1 → Q9y p0 (Qet p0 i1) (Q13t p0 r1 i1)
 | [], i1, hd => by
  have hc1 : (decide ((i1 : Int) < ((List.length p0.owners) : Int))) = false := by have := Q1o hd; simp; omega
  show Q9y p0 _ ()
  exact Q18y p0 H i1 hc1
 | x1 :: r1, i1, hd => by
  obtain ⟨hx1, hi1, hd'⟩ := Q1i hd
  have hc1 : (decide ((i1 : Int) < ((List.length p0.owners) : Int))) = true := by simp; omega
  show Q9y p0 _ ()
  exact Qsr p0 (fun r hr => Q16s p0 H x1 i1 hx1 hi1 hc1 hr) _ (Qyr p0 H r1 (i1 + 1) hd')
def Q13u (p0 : Meta) : List Manager → Nat → Unit
 | [], _i2 =>
  ()
 | _x2 :: r2, i2 =>
  Q13u p0 r2 (i2 + 1)
def Qvo (_p0 : Meta) (i2 : Nat) : List PV :=
  [.un, .un, .bx 0 0, .bx 1 0, .un, .un, .un, .int .i64 (i2 : Int)] ++ nuns 166
def Qwh (p0 : Meta) (_i2 : Nat) : List Ob :=
  [⟨13, 0, true, [.str p0.kind, .str p0.namespace_, .str p0.name, .int .i64 p0.uid, .int .i64 p0.version, .int .i64 p0.generation, .int .i64 p0.created, .bool p0.deleting, .int .i64 p0.deleteAt, .sl (Label.rows p0.labels), .sl (Owner.rows p0.owners), .sl (Qu p0.finalizers), .sl (Manager.rows p0.managers)]⟩, ⟨13, 0, true, [.str p0.kind, .str p0.namespace_, .str p0.name, .int .i64 p0.uid, .int .i64 p0.version, .int .i64 p0.generation, .int .i64 p0.created, .bool p0.deleting, .int .i64 p0.deleteAt, .sl (Label.rows p0.labels), .sl (Owner.rows p0.owners), .sl (Qu p0.finalizers), .sl (Manager.rows p0.managers)]⟩]
def Qeu (p0 : Meta) (i2 : Nat) : En := .loop 0 Ir.Qj4 Ir.Q1gk (Qvo p0 i2) (Qwh p0 i2)
def Qo5 (p0 : Meta) (z : Nat → PV) (_zo : Nat → List PV) : St :=
  ⟨zr z 0 174, [(0, ⟨13, 0, true, [.str p0.kind, .str p0.namespace_, .str p0.name, .int .i64 p0.uid, .int .i64 p0.version, .int .i64 p0.generation, .int .i64 p0.created, .bool p0.deleting, .int .i64 p0.deleteAt, .sl (Label.rows p0.labels), .sl (Owner.rows p0.owners), .sl (Qu p0.finalizers), .sl (Manager.rows p0.managers)]⟩), (1, ⟨13, 0, true, [.str p0.kind, .str p0.namespace_, .str p0.name, .int .i64 p0.uid, .int .i64 p0.version, .int .i64 p0.generation, .int .i64 p0.created, .bool p0.deleting, .int .i64 p0.deleteAt, .sl (Label.rows p0.labels), .sl (Owner.rows p0.owners), .sl (Qu p0.finalizers), .sl (Manager.rows p0.managers)]⟩)], 322⟩
def Q9z (p0 : Meta) (e : En) (_q : Unit) : Prop := ∃ z zo, Q5 G e (.st (.exit 4) (Qo5 p0 z zo))
theorem Qss (p0 : Meta) {e e' : En} (h : ∀ r, Q5 G e r → Q5 G e' r) : ∀ q, Q9z p0 e q → Q9z p0 e' q
  | _, ⟨z, zo, hz⟩ => ⟨z, zo, h _ hz⟩
def Qfr (p0 : Meta) : Prop := (List.length p0.managers ≤ 4611686018427387904) ∧ (∀ x2 ∈ p0.managers, Q1i5 x2.fields) ∧ True
def Qpq (p0 : Meta) (i2 : Nat) : List PV :=
  [.un, .un, .bx 0 0, .bx 1 0, .un, .un, .un, .int .i64 (i2 : Int)] ++ nuns 130 ++ [.int .i64 (i2 : Int), .bx 0 12, .sl (Manager.rows p0.managers), .int .i64 ((List.length p0.managers) : Int), .bool false]
def Qkq (_p0 : Meta) (_i2 : Nat) : List (Nat × List PV) :=
  []
theorem Q18z (p0 : Meta) (_H : Qfr p0) (i2 : Nat) (hc2 : (decide ((i2 : Int) < ((List.length p0.managers) : Int))) = false) : Q9z p0 (Qeu p0 i2) () := by
 exact ⟨(envF (Qpq p0 i2)), (zoF (Qkq p0 i2)), Qj VOK.nil (x := ((.exit 4), Qo5 p0 (envF (Qpq p0 i2)) (zoF (Qkq p0 i2)))) [hP 3 (Qw (Manager.rows p0.managers) (List.length p0.managers) (Manager.Q0 p0.managers)), hB 0 hc2] [] (by kernel_rfl)⟩
theorem Q16t (p0 : Meta) (H : Qfr p0) (x2 : Manager) (i2 : Nat) (hx2 : p0.managers[i2]? = some x2) (hi2 : i2 < List.length p0.managers) (hc2 : (decide ((i2 : Int) < ((List.length p0.managers) : Int))) = true) {r : Rs} (hr : Q5 G (Qeu p0 (i2 + 1)) r) : Q5 G (Qeu p0 i2) r := by
 have hB0 := H.1
 exact Qd VOK.nil (y := (Qvo p0 (i2 + 1), Qwh p0 (i2 + 1))) [hP 3 (Qw (Manager.rows p0.managers) (List.length p0.managers) (Manager.Q0 p0.managers)), hB 0 hc2, hP 3 (Q2g 2 (Manager.rows p0.managers) i2 _ (Manager.Qe hx2) rfl), hP 5 (Q2g 2 (Manager.rows p0.managers) i2 _ (Manager.Qe hx2) rfl), hP 2 (dec (!(sEq x2.name x2.name)) false (by rw [(Q4o.2 rfl)]; rfl)), hP 4 (Q2g 2 (Manager.rows p0.managers) i2 _ (Manager.Qe hx2) rfl), hP 5 (Q2g 2 (Manager.rows p0.managers) i2 _ (Manager.Qe hx2) rfl), hP 6 (Q28 i2 (by omega))] [aN (Q45 (c := fun y => .call 120 [.sl (Qu x2.fields), .sl (Qu y)] []) rfl (Q1rg x2.fields (H.2.1 x2 (Q2o hx2))))] (by kernel_rfl) hr
theorem Qys (p0 : Meta) (H : Qfr p0) : ∀ (r2 : List Manager) (i2 : Nat), List.drop i2 p0.managers = r2 → Q9z p0 (Qeu p0 i2) (Q13u p0 r2 i2)
 | [], i2, hd => by
  have hc2 : (decide ((i2 : Int) < ((List.length p0.managers) : Int))) = false := by have := Q1o hd; simp; omega
  show Q9z p0 _ ()
  exact Q18z p0 H i2 hc2
 | x2 :: r2, i2, hd => by
  obtain ⟨hx2, hi2, hd'⟩ := Q1i hd
  have hc2 : (decide ((i2 : Int) < ((List.length p0.managers) : Int))) = true := by simp; omega
  show Q9z p0 _ ()
  exact Qss p0 (fun r hr => Q16t p0 H x2 i2 hx2 hi2 hc2 hr) _ (Qys p0 H r2 (i2 + 1) hd')
def Q1r6 (_p0 : Meta) : Bool :=
 true
def Q1wp (p0 : Meta) : En := .call 27 [.agg (Meta.cells p0), .agg (Meta.cells p0)] []
def Q1oi (p0 : Meta) : Rs := .ret (.bool (Q1r6 p0)) []
def Q19t (p0 : Meta) : Prop := (Q1nc p0) ∧ (Q1i5 p0.finalizers) ∧ (Qfp p0) ∧ (Qfq p0) ∧ (Qfr p0) ∧ True
theorem Q100 (p0 : Meta) (H : Q19t p0) : Q5 G (Q1wp p0) (Q1oi p0) := by
 unfold Q1oi Q1r6
 have hl0 := Qyq p0 (H.2.2.1) p0.labels 0 (by simp)
 obtain ⟨z0, zo0, hl0⟩ := hl0
 have hl1 := Qyr p0 (H.2.2.2.1) p0.owners 0 (by simp)
 obtain ⟨z1, zo1, hl1⟩ := hl1
 have hl2 := Qys p0 (H.2.2.2.2.1) p0.managers 0 (by simp)
 obtain ⟨z2, zo2, hl2⟩ := hl2
 exact Q6 (fn := Ir.K1y) rfl VOK.nil [hP 7 (dec (!(sEq (Q1fn p0) (Q1fn p0))) false (by rw [(Q4o.2 rfl)]; rfl)), hP 5 (dec (!(sEq p0.kind p0.kind)) false (by rw [(Q4o.2 rfl)]; rfl)), hP 6 (dec (!(sEq p0.namespace_ p0.namespace_)) false (by rw [(Q4o.2 rfl)]; rfl)), hP 6 (dec (!(p0.uid == p0.uid)) false (by rw [(beq_self_eq_true _)]; rfl)), hP 6 (dec (!(p0.version == p0.version)) false (by rw [(beq_self_eq_true _)]; rfl)), hP 6 (dec (!(p0.generation == p0.generation)) false (by rw [(beq_self_eq_true _)]; rfl)), hP 6 (dec (!(p0.created == p0.created)) false (by rw [(beq_self_eq_true _)]; rfl)), hP 6 (dec (!(p0.deleting == p0.deleting)) false (by rw [(beq_self_eq_true _)]; rfl)), hP 6 (dec (!(p0.deleteAt == p0.deleteAt)) false (by rw [(beq_self_eq_true _)]; rfl)), hP 3 (Qw (Label.rows p0.labels) (List.length p0.labels) (Label.Q0 p0.labels)), hP 2 (Qw (Label.rows p0.labels) (List.length p0.labels) (Label.Q0 p0.labels)), hP 0 (dec (!(((List.length p0.labels) : Int) == ((List.length p0.labels) : Int))) false (by rw [(beq_self_eq_true _)]; rfl)), hP 3 (Qw (Owner.rows p0.owners) (List.length p0.owners) (Owner.Q0 p0.owners)), hP 2 (Qw (Owner.rows p0.owners) (List.length p0.owners) (Owner.Q0 p0.owners)), hP 0 (dec (!(((List.length p0.owners) : Int) == ((List.length p0.owners) : Int))) false (by rw [(beq_self_eq_true _)]; rfl)), hP 4 (Qw (Manager.rows p0.managers) (List.length p0.managers) (Manager.Q0 p0.managers)), hP 2 (Qw (Manager.rows p0.managers) (List.length p0.managers) (Manager.Q0 p0.managers)), hP 0 (dec (!(((List.length p0.managers) : Int) == ((List.length p0.managers) : Int))) false (by rw [(beq_self_eq_true _)]; rfl))] [aN (Q1rf p0 H.1), aN (Q1rf p0 H.1), aN (Q45 (c := fun y => .call 120 [.sl (Qu p0.finalizers), .sl (Qu y)] []) rfl (Q1rg p0.finalizers H.2.1)), aN hl0, aN hl1, aN hl2] (by kernel_rfl)
def Q1r5 (_p0 : Object) : Bool :=
 true
def Q1wm (p0 : Object) : En := .call 17 [.agg (Object.cells p0), .agg (Object.cells p0)] []
def Q1of (p0 : Object) : Rs := .ret (.bool (Q1r5 p0)) []
def Qwo (p0 : Object) : Prop := (Q19t p0.meta_) ∧ (Q1i2 p0.spec) ∧ (Q1i2 p0.status) ∧ True
theorem Q1fs (p0 : Object) (H : Qwo p0) : Q5 G (Q1wm p0) (Q1of p0) := by
 unfold Q1of Q1r5
 exact Q6 (fn := Ir.K1v) rfl VOK.nil [] [aN (Q45 (c := fun y => .call 27 [.agg (Meta.cells p0.meta_), .agg (Meta.cells y)] []) rfl (Q100 p0.meta_ H.1)), aN (Q45 (c := fun y => .call 98 [.agg (Val.cells p0.spec), .agg (Val.cells y)] []) rfl (Q1re p0.spec H.2.1)), aN (Q45 (c := fun y => .call 98 [.agg (Val.cells p0.status), .agg (Val.cells y)] []) rfl (Q1re p0.status H.2.2.1))] (by kernel_rfl)
inductive Q19y where
  | k0
  | k1
def Qaz (p0 : Object) : List Manager → Nat → Q19y
 | [], _i0 =>
  (.k0)
 | x0 :: r0, i0 =>
  bif (decide (60 < ((List.length x0.fields) : Int))) then
   (.k1)
  else
   Qaz p0 r0 (i0 + 1)
def Q11m (_p0 : Object) (i0 : Nat) : List PV :=
  [.un, .bx 0 0, .un, .bx 1 0, .int .i64 (i0 : Int)] ++ nuns 47
def Q11v (p0 : Object) (_i0 : Nat) : List Ob :=
  [⟨23, 0, true, [.str p0.meta_.kind, .str p0.meta_.namespace_, .str p0.meta_.name, .int .i64 p0.meta_.uid, .int .i64 p0.meta_.version, .int .i64 p0.meta_.generation, .int .i64 p0.meta_.created, .bool p0.meta_.deleting, .int .i64 p0.meta_.deleteAt, .sl (Label.rows p0.meta_.labels), .sl (Owner.rows p0.meta_.owners), .sl (Qu p0.meta_.finalizers), .sl (Manager.rows p0.meta_.managers), .int .i64 p0.spec.kind, .int .i64 p0.spec.n, .str p0.spec.s, .sl (Val.rows p0.spec.list), .sl (Fld.rows p0.spec.fields), .int .i64 p0.status.kind, .int .i64 p0.status.n, .str p0.status.s, .sl (Val.rows p0.status.list), .sl (Fld.rows p0.status.fields)]⟩, ⟨13, 0, true, [.str p0.meta_.kind, .str p0.meta_.namespace_, .str p0.meta_.name, .int .i64 p0.meta_.uid, .int .i64 p0.meta_.version, .int .i64 p0.meta_.generation, .int .i64 p0.meta_.created, .bool p0.meta_.deleting, .int .i64 p0.meta_.deleteAt, .sl (Label.rows p0.meta_.labels), .sl (Owner.rows p0.meta_.owners), .sl (Qu p0.meta_.finalizers), .sl (Manager.rows p0.meta_.managers)]⟩]
def Qal (p0 : Object) (i0 : Nat) : En := .loop 0 Ir.Qn7 Ir.Q1nk (Q11m p0 i0) (Q11v p0 i0)
def Qjx (p0 : Object) (z : Nat → PV) (_zo : Nat → List PV) : St :=
  ⟨[z 0, .bx 0 0] ++ zr z 2 50, [(0, ⟨23, 0, true, [.str p0.meta_.kind, .str p0.meta_.namespace_, .str p0.meta_.name, .int .i64 p0.meta_.uid, .int .i64 p0.meta_.version, .int .i64 p0.meta_.generation, .int .i64 p0.meta_.created, .bool p0.meta_.deleting, .int .i64 p0.meta_.deleteAt, .sl (Label.rows p0.meta_.labels), .sl (Owner.rows p0.meta_.owners), .sl (Qu p0.meta_.finalizers), .sl (Manager.rows p0.meta_.managers), .int .i64 p0.spec.kind, .int .i64 p0.spec.n, .str p0.spec.s, .sl (Val.rows p0.spec.list), .sl (Fld.rows p0.spec.fields), .int .i64 p0.status.kind, .int .i64 p0.status.n, .str p0.status.s, .sl (Val.rows p0.status.list), .sl (Fld.rows p0.status.fields)]⟩), (1, ⟨13, 0, true, [.str p0.meta_.kind, .str p0.meta_.namespace_, .str p0.meta_.name, .int .i64 p0.meta_.uid, .int .i64 p0.meta_.version, .int .i64 p0.meta_.generation, .int .i64 p0.meta_.created, .bool p0.meta_.deleting, .int .i64 p0.meta_.deleteAt, .sl (Label.rows p0.meta_.labels), .sl (Owner.rows p0.meta_.owners), .sl (Qu p0.meta_.finalizers), .sl (Manager.rows p0.meta_.managers)]⟩)], 322⟩
def Qjy (_p0 : Object) (z : Nat → PV) (zo : Nat → List PV) : St :=
  ⟨[z 0, z 1, .bool false] ++ zr z 3 49, [(0, ⟨23, 0, true, zo 0⟩), (1, ⟨13, 0, true, zo 1⟩)], 898⟩
def Qjw (p0 : Object) (e : En) : Q19y → Prop
  | .k0 => ∃ z zo, Q5 G e (.st (.exit 0) (Qjx p0 z zo))
  | .k1 => ∃ z zo, Q5 G e (.st .ret (Qjy p0 z zo))
theorem Qwu (p0 : Object) {e e' : En} (h : ∀ r, Q5 G e r → Q5 G e' r) : ∀ q, Qjw p0 e q → Qjw p0 e' q
  | .k0, ⟨z, zo, hz⟩ => ⟨z, zo, h _ hz⟩
  | .k1, ⟨z, zo, hz⟩ => ⟨z, zo, h _ hz⟩
def Qib (p0 : Object) : Prop := (List.length p0.meta_.managers ≤ 4611686018427387904) ∧ True
def Qxd (p0 : Object) (i0 : Nat) : List PV :=
  [.un, .un, .un, .bx 1 0, .int .i64 (i0 : Int)] ++ nuns 24 ++ [.int .i64 (i0 : Int), .bx 1 12, .sl (Manager.rows p0.meta_.managers), .int .i64 ((List.length p0.meta_.managers) : Int), .bool false]
def Qot (_p0 : Object) (_i0 : Nat) : List (Nat × List PV) :=
  []
theorem Q1d4 (p0 : Object) (_H : Qib p0) (i0 : Nat) (hc0 : (decide ((i0 : Int) < ((List.length p0.meta_.managers) : Int))) = false) : Qjw p0 (Qal p0 i0) (.k0) := by
 exact ⟨(envF (Qxd p0 i0)), (zoF (Qot p0 i0)), Qj VOK.nil (x := ((.exit 0), Qjx p0 (envF (Qxd p0 i0)) (zoF (Qot p0 i0)))) [hP 3 (Qw (Manager.rows p0.meta_.managers) (List.length p0.meta_.managers) (Manager.Q0 p0.meta_.managers)), hB 0 hc0] [] (by kernel_rfl)⟩
def Qxe (p0 : Object) (i0 : Nat) (x0 : Manager) : List PV :=
  [.un, .bx 0 0, .un, .bx 1 0, .int .i64 (i0 : Int)] ++ nuns 24 ++ [.int .i64 (i0 : Int), .bx 1 12, .sl (Manager.rows p0.meta_.managers), .int .i64 ((List.length p0.meta_.managers) : Int), .bool true, .un, .un, .bx 1 12, .sl (Manager.rows p0.meta_.managers), .int .i64 (i0 : Int), .rf [.str x0.name, .sl (Qu x0.fields)], .rf [.sl (Qu x0.fields)], .sl (Qu x0.fields), .int .i64 ((List.length x0.fields) : Int), .bool true]
def Qou (p0 : Object) (_i0 : Nat) (_x0 : Manager) : List (Nat × List PV) :=
  [(0, [.str p0.meta_.kind, .str p0.meta_.namespace_, .str p0.meta_.name, .int .i64 p0.meta_.uid, .int .i64 p0.meta_.version, .int .i64 p0.meta_.generation, .int .i64 p0.meta_.created, .bool p0.meta_.deleting, .int .i64 p0.meta_.deleteAt, .sl (Label.rows p0.meta_.labels), .sl (Owner.rows p0.meta_.owners), .sl (Qu p0.meta_.finalizers), .sl (Manager.rows p0.meta_.managers), .int .i64 p0.spec.kind, .int .i64 p0.spec.n, .str p0.spec.s, .sl (Val.rows p0.spec.list), .sl (Fld.rows p0.spec.fields), .int .i64 p0.status.kind, .int .i64 p0.status.n, .str p0.status.s, .sl (Val.rows p0.status.list), .sl (Fld.rows p0.status.fields)]), (1, [.str p0.meta_.kind, .str p0.meta_.namespace_, .str p0.meta_.name, .int .i64 p0.meta_.uid, .int .i64 p0.meta_.version, .int .i64 p0.meta_.generation, .int .i64 p0.meta_.created, .bool p0.meta_.deleting, .int .i64 p0.meta_.deleteAt, .sl (Label.rows p0.meta_.labels), .sl (Owner.rows p0.meta_.owners), .sl (Qu p0.meta_.finalizers), .sl (Manager.rows p0.meta_.managers)])]
theorem Q1d5 (p0 : Object) (_H : Qib p0) (x0 : Manager) (i0 : Nat) (hx0 : p0.meta_.managers[i0]? = some x0) (_hi0 : i0 < List.length p0.meta_.managers) (hc0 : (decide ((i0 : Int) < ((List.length p0.meta_.managers) : Int))) = true) (h0 : (decide (60 < ((List.length x0.fields) : Int))) = true) : Qjw p0 (Qal p0 i0) (.k1) := by
 exact ⟨(envF (Qxe p0 i0 x0)), (zoF (Qou p0 i0 x0)), Qj VOK.nil (x := (.ret, Qjy p0 (envF (Qxe p0 i0 x0)) (zoF (Qou p0 i0 x0)))) [hP 3 (Qw (Manager.rows p0.meta_.managers) (List.length p0.meta_.managers) (Manager.Q0 p0.meta_.managers)), hB 0 hc0, hP 3 (Q2g 2 (Manager.rows p0.meta_.managers) i0 _ (Manager.Qe hx0) rfl), hP 2 (Qw (Qu x0.fields) (List.length x0.fields) (Q2u x0.fields)), hB 0 h0] [] (by kernel_rfl)⟩
theorem Q1bj (p0 : Object) (H : Qib p0) (x0 : Manager) (i0 : Nat) (hx0 : p0.meta_.managers[i0]? = some x0) (hi0 : i0 < List.length p0.meta_.managers) (hc0 : (decide ((i0 : Int) < ((List.length p0.meta_.managers) : Int))) = true) (h0 : (decide (60 < ((List.length x0.fields) : Int))) = false) {r : Rs} (hr : Q5 G (Qal p0 (i0 + 1)) r) : Q5 G (Qal p0 i0) r := by
 have hB0 := H.1; have e0 := of_decide_eq_false h0
 exact Qd VOK.nil (y := (Q11m p0 (i0 + 1), Q11v p0 (i0 + 1))) [hP 3 (Qw (Manager.rows p0.meta_.managers) (List.length p0.meta_.managers) (Manager.Q0 p0.meta_.managers)), hB 0 hc0, hP 3 (Q2g 2 (Manager.rows p0.meta_.managers) i0 _ (Manager.Qe hx0) rfl), hP 2 (Qw (Qu x0.fields) (List.length x0.fields) (Q2u x0.fields)), hB 0 h0, hP 1 (Q28 i0 (by omega))] [] (by kernel_rfl) hr
theorem Q143 (p0 : Object) (H : Qib p0) : ∀ (r0 : List Manager) (i0 : Nat), List.drop i0 p0.meta_.managers = r0 → Qjw p0 (Qal p0 i0) (Qaz p0 r0 i0)
 | [], i0, hd => by
  have hc0 : (decide ((i0 : Int) < ((List.length p0.meta_.managers) : Int))) = false := by have := Q1o hd; simp; omega
  rw [Qaz]
  exact Q1d4 p0 H i0 hc0
 | x0 :: r0, i0, hd => by
  obtain ⟨hx0, hi0, hd'⟩ := Q1i hd
  have hc0 : (decide ((i0 : Int) < ((List.length p0.meta_.managers) : Int))) = true := by simp; omega
  rw [Qaz]
  cases h0 : (decide (60 < ((List.length x0.fields) : Int))) with
  | true =>
   exact Q1d5 p0 H x0 i0 hx0 hi0 hc0 h0
  | false =>
   exact Qwu p0 (fun r hr => Q1bj p0 H x0 i0 hx0 hi0 hc0 h0 hr) _ (Q143 p0 H r0 (i0 + 1) hd')
def s_K8 (p0 : Object) : Bool :=
 bif (decide (40 < ((List.length p0.meta_.labels) : Int))) then
  false
 else
  bif (decide (40 < ((List.length p0.meta_.owners) : Int))) then
   false
  else
   bif (decide (40 < ((List.length p0.meta_.finalizers) : Int))) then
    false
   else
    bif (decide (40 < ((List.length p0.meta_.managers) : Int))) then
     false
    else
     (match (Qaz p0 p0.meta_.managers 0) with
     | .k0 => bif (Qut p0.spec 900) then
       (Qut p0.status 300)
      else
       false
     | .k1 => false)
def c_K8 (p0 : Object) : En := .call 11 [.agg (Object.cells p0)] []
def a_K8 (p0 : Object) : Rs := .ret (.bool (s_K8 p0)) []
def H_K8 (p0 : Object) : Prop := (Qib p0) ∧ (Q1i4 p0.spec 900) ∧ (Q1i4 p0.status 300) ∧ True
theorem Q1rt (p0 : Object) (_H : H_K8 p0) (h0 : (decide (40 < ((List.length p0.meta_.labels) : Int))) = true) : Q5 G (c_K8 p0) (.ret (.bool (false)) []) := by
 exact Q6 (fn := Ir.K8) rfl VOK.nil [hP 8 (Qw (Label.rows p0.meta_.labels) (List.length p0.meta_.labels) (Label.Q0 p0.meta_.labels)), hB 0 h0] [] (by kernel_rfl)
theorem Q1ru (p0 : Object) (_H : H_K8 p0) (h0 : (decide (40 < ((List.length p0.meta_.labels) : Int))) = false) (h1 : (decide (40 < ((List.length p0.meta_.owners) : Int))) = true) : Q5 G (c_K8 p0) (.ret (.bool (false)) []) := by
 exact Q6 (fn := Ir.K8) rfl VOK.nil [hP 8 (Qw (Label.rows p0.meta_.labels) (List.length p0.meta_.labels) (Label.Q0 p0.meta_.labels)), hB 0 h0, hP 3 (Qw (Owner.rows p0.meta_.owners) (List.length p0.meta_.owners) (Owner.Q0 p0.meta_.owners)), hB 0 h1] [] (by kernel_rfl)
theorem Q1rv (p0 : Object) (_H : H_K8 p0) (h0 : (decide (40 < ((List.length p0.meta_.labels) : Int))) = false) (h1 : (decide (40 < ((List.length p0.meta_.owners) : Int))) = false) (h2 : (decide (40 < ((List.length p0.meta_.finalizers) : Int))) = true) : Q5 G (c_K8 p0) (.ret (.bool (false)) []) := by
 exact Q6 (fn := Ir.K8) rfl VOK.nil [hP 8 (Qw (Label.rows p0.meta_.labels) (List.length p0.meta_.labels) (Label.Q0 p0.meta_.labels)), hB 0 h0, hP 3 (Qw (Owner.rows p0.meta_.owners) (List.length p0.meta_.owners) (Owner.Q0 p0.meta_.owners)), hB 0 h1, hP 4 (Qw (Qu p0.meta_.finalizers) (List.length p0.meta_.finalizers) (Q2u p0.meta_.finalizers)), hB 0 h2] [] (by kernel_rfl)
theorem Q1rw (p0 : Object) (_H : H_K8 p0) (h0 : (decide (40 < ((List.length p0.meta_.labels) : Int))) = false) (h1 : (decide (40 < ((List.length p0.meta_.owners) : Int))) = false) (h2 : (decide (40 < ((List.length p0.meta_.finalizers) : Int))) = false) (h3 : (decide (40 < ((List.length p0.meta_.managers) : Int))) = true) : Q5 G (c_K8 p0) (.ret (.bool (false)) []) := by
 exact Q6 (fn := Ir.K8) rfl VOK.nil [hP 8 (Qw (Label.rows p0.meta_.labels) (List.length p0.meta_.labels) (Label.Q0 p0.meta_.labels)), hB 0 h0, hP 3 (Qw (Owner.rows p0.meta_.owners) (List.length p0.meta_.owners) (Owner.Q0 p0.meta_.owners)), hB 0 h1, hP 4 (Qw (Qu p0.meta_.finalizers) (List.length p0.meta_.finalizers) (Q2u p0.meta_.finalizers)), hB 0 h2, hP 4 (Qw (Manager.rows p0.meta_.managers) (List.length p0.meta_.managers) (Manager.Q0 p0.meta_.managers)), hB 0 h3] [] (by kernel_rfl)
theorem Q1rx (p0 : Object) (H : H_K8 p0) (h0 : (decide (40 < ((List.length p0.meta_.labels) : Int))) = false) (h1 : (decide (40 < ((List.length p0.meta_.owners) : Int))) = false) (h2 : (decide (40 < ((List.length p0.meta_.finalizers) : Int))) = false) (h3 : (decide (40 < ((List.length p0.meta_.managers) : Int))) = false) (z4 : Nat → PV) (zo4 : Nat → List PV) (hl4 : Q5 G (Qal p0 0) (.st (.exit 0) (Qjx p0 z4 zo4))) : Q5 G (c_K8 p0) (.ret (.bool (bif (Qut p0.spec 900) then
   (Qut p0.status 300)
 else
   false)) []) := by
 cases h4 : (Qut p0.spec 900) with
 | true =>
  exact Q6 (fn := Ir.K8) rfl VOK.nil [hP 8 (Qw (Label.rows p0.meta_.labels) (List.length p0.meta_.labels) (Label.Q0 p0.meta_.labels)), hB 0 h0, hP 3 (Qw (Owner.rows p0.meta_.owners) (List.length p0.meta_.owners) (Owner.Q0 p0.meta_.owners)), hB 0 h1, hP 4 (Qw (Qu p0.meta_.finalizers) (List.length p0.meta_.finalizers) (Q2u p0.meta_.finalizers)), hB 0 h2, hP 4 (Qw (Manager.rows p0.meta_.managers) (List.length p0.meta_.managers) (Manager.Q0 p0.meta_.managers)), hB 0 h3] [aN hl4, aB (Q1jv p0.spec 900 H.2.1) h4, aN (Q1jv p0.status 300 H.2.2.1)] (by kernel_rfl)
 | false =>
  exact Q6 (fn := Ir.K8) rfl VOK.nil [hP 8 (Qw (Label.rows p0.meta_.labels) (List.length p0.meta_.labels) (Label.Q0 p0.meta_.labels)), hB 0 h0, hP 3 (Qw (Owner.rows p0.meta_.owners) (List.length p0.meta_.owners) (Owner.Q0 p0.meta_.owners)), hB 0 h1, hP 4 (Qw (Qu p0.meta_.finalizers) (List.length p0.meta_.finalizers) (Q2u p0.meta_.finalizers)), hB 0 h2, hP 4 (Qw (Manager.rows p0.meta_.managers) (List.length p0.meta_.managers) (Manager.Q0 p0.meta_.managers)), hB 0 h3] [aN hl4, aB (Q1jv p0.spec 900 H.2.1) h4] (by kernel_rfl)
theorem Q1ry (p0 : Object) (_H : H_K8 p0) (h0 : (decide (40 < ((List.length p0.meta_.labels) : Int))) = false) (h1 : (decide (40 < ((List.length p0.meta_.owners) : Int))) = false) (h2 : (decide (40 < ((List.length p0.meta_.finalizers) : Int))) = false) (h3 : (decide (40 < ((List.length p0.meta_.managers) : Int))) = false) (z4 : Nat → PV) (zo4 : Nat → List PV) (hl4 : Q5 G (Qal p0 0) (.st .ret (Qjy p0 z4 zo4))) : Q5 G (c_K8 p0) (.ret (.bool (false)) []) := by
 exact Q6 (fn := Ir.K8) rfl VOK.nil [hP 8 (Qw (Label.rows p0.meta_.labels) (List.length p0.meta_.labels) (Label.Q0 p0.meta_.labels)), hB 0 h0, hP 3 (Qw (Owner.rows p0.meta_.owners) (List.length p0.meta_.owners) (Owner.Q0 p0.meta_.owners)), hB 0 h1, hP 4 (Qw (Qu p0.meta_.finalizers) (List.length p0.meta_.finalizers) (Q2u p0.meta_.finalizers)), hB 0 h2, hP 4 (Qw (Manager.rows p0.meta_.managers) (List.length p0.meta_.managers) (Manager.Q0 p0.meta_.managers)), hB 0 h3] [aN hl4] (by kernel_rfl)
theorem t_K8 (p0 : Object) (H : H_K8 p0) : Q5 G (c_K8 p0) (a_K8 p0) := by
 unfold a_K8 s_K8
 cases h0 : (decide (40 < ((List.length p0.meta_.labels) : Int))) with
 | true =>
  exact Q1rt p0 H h0
 | false =>
  cases h1 : (decide (40 < ((List.length p0.meta_.owners) : Int))) with
  | true =>
   exact Q1ru p0 H h0 h1
  | false =>
   cases h2 : (decide (40 < ((List.length p0.meta_.finalizers) : Int))) with
   | true =>
    exact Q1rv p0 H h0 h1 h2
   | false =>
    cases h3 : (decide (40 < ((List.length p0.meta_.managers) : Int))) with
    | true =>
     exact Q1rw p0 H h0 h1 h2 h3
    | false =>
     have hl4 := Q143 p0 (H.1) p0.meta_.managers 0 (by simp)
     cases hr4 : (Qaz p0 p0.meta_.managers 0) with
     | k0 =>
      rw [hr4] at hl4
      obtain ⟨z4, zo4, hl4⟩ := hl4
      try dsimp only
      exact Q1rx p0 H h0 h1 h2 h3 z4 zo4 hl4
     | k1 =>
      rw [hr4] at hl4
      obtain ⟨z4, zo4, hl4⟩ := hl4
      exact Q1ry p0 H h0 h1 h2 h3 z4 zo4 hl4
end Go.Proofs.YtimjjohlpnkacaaGreat
end

section
/- The chapter's examples (printed by a program). -/
namespace Go.Proofs.YtimjjohlpnkacaaGreat
open Go.Pv
theorem t_K6 : Q5 G (.call 12 [] []) (.ret (.bool true) []) := ⟨400, by kernel_rfl⟩
end Go.Proofs.YtimjjohlpnkacaaGreat
end

section
/- What the laws ask of their arguments (printed by a program). -/
namespace Go.Proofs.YtimjjohlpnkacaaGreat
open Go.Pv
def s_K7 (p0 : Job) : Bool :=
 bif (p0.active == 0) then
  bif (p0.succeeded == 0) then
   bif (p0.failed == 0) then
    bif (p0.started == 0) then
     bif (p0.finished == 0) then
      bif (((List.length p0.done) : Int) == 0) then
       (p0.result == 0)
      else
       false
     else
      false
    else
     false
   else
    false
  else
   false
 else
  false
def c_K7 (p0 : Job) : En := .call 55 [.agg (Job.cells p0)] []
def a_K7 (p0 : Job) : Rs := .ret (.bool (s_K7 p0)) []
def H_K7 (p0 : Job) : Prop := (p0.meta_ = (Meta.mk eB eB eB 0 0 0 0 false 0 [] [] [] [])) ∧ (Q19t p0.meta_) ∧ True
theorem Q1rr (p0 : Job) (H : H_K7 p0) (h0 : (p0.active == 0) = true) : Q5 G (c_K7 p0) (.ret (.bool (bif (p0.succeeded == 0) then
   bif (p0.failed == 0) then
     bif (p0.started == 0) then
       bif (p0.finished == 0) then
        bif (((List.length p0.done) : Int) == 0) then
         (p0.result == 0)
        else
         false
       else
        false
     else
       false
   else
     false
 else
   false)) []) := by
 cases h1 : (p0.succeeded == 0) with
 | true =>
  cases h2 : (p0.failed == 0) with
  | true =>
   cases h3 : (p0.started == 0) with
   | true =>
    cases h4 : (p0.finished == 0) with
    | true =>
     cases h5 : (((List.length p0.done) : Int) == 0) with
     | true =>
      exact Q6 (fn := Ir.K7) rfl VOK.nil [hB 9 h0, hB 4 h1, hB 4 h2, hB 4 h3, hB 4 h4, hP 4 (Qw (Q2n p0.done) (List.length p0.done) (Q55 p0.done)), hB 0 h5] [aN (Q45 (c := fun y => .call 27 [.agg (Meta.cells p0.meta_), .agg (Meta.cells y)] []) H.1 (Q100 p0.meta_ H.2.1))] (by kernel_rfl)
     | false =>
      exact Q6 (fn := Ir.K7) rfl VOK.nil [hB 9 h0, hB 4 h1, hB 4 h2, hB 4 h3, hB 4 h4, hP 4 (Qw (Q2n p0.done) (List.length p0.done) (Q55 p0.done)), hB 0 h5] [aN (Q45 (c := fun y => .call 27 [.agg (Meta.cells p0.meta_), .agg (Meta.cells y)] []) H.1 (Q100 p0.meta_ H.2.1))] (by kernel_rfl)
    | false =>
     exact Q6 (fn := Ir.K7) rfl VOK.nil [hB 9 h0, hB 4 h1, hB 4 h2, hB 4 h3, hB 4 h4] [aN (Q45 (c := fun y => .call 27 [.agg (Meta.cells p0.meta_), .agg (Meta.cells y)] []) H.1 (Q100 p0.meta_ H.2.1))] (by kernel_rfl)
   | false =>
    exact Q6 (fn := Ir.K7) rfl VOK.nil [hB 9 h0, hB 4 h1, hB 4 h2, hB 4 h3] [aN (Q45 (c := fun y => .call 27 [.agg (Meta.cells p0.meta_), .agg (Meta.cells y)] []) H.1 (Q100 p0.meta_ H.2.1))] (by kernel_rfl)
  | false =>
   exact Q6 (fn := Ir.K7) rfl VOK.nil [hB 9 h0, hB 4 h1, hB 4 h2] [aN (Q45 (c := fun y => .call 27 [.agg (Meta.cells p0.meta_), .agg (Meta.cells y)] []) H.1 (Q100 p0.meta_ H.2.1))] (by kernel_rfl)
 | false =>
  exact Q6 (fn := Ir.K7) rfl VOK.nil [hB 9 h0, hB 4 h1] [aN (Q45 (c := fun y => .call 27 [.agg (Meta.cells p0.meta_), .agg (Meta.cells y)] []) H.1 (Q100 p0.meta_ H.2.1))] (by kernel_rfl)
theorem Q1rs (p0 : Job) (H : H_K7 p0) (h0 : (p0.active == 0) = false) : Q5 G (c_K7 p0) (.ret (.bool (false)) []) := by
 exact Q6 (fn := Ir.K7) rfl VOK.nil [hB 9 h0] [aN (Q45 (c := fun y => .call 27 [.agg (Meta.cells p0.meta_), .agg (Meta.cells y)] []) H.1 (Q100 p0.meta_ H.2.1))] (by kernel_rfl)
theorem t_K7 (p0 : Job) (H : H_K7 p0) : Q5 G (c_K7 p0) (a_K7 p0) := by
 unfold a_K7 s_K7
 cases h0 : (p0.active == 0) with
 | true =>
  exact Q1rr p0 H h0
 | false =>
  exact Q1rs p0 H h0
def Qs3 : Ty := .st [.str, .str]
def Qbu (x : Label) : Prop := okS x.key ∧ okS x.value
theorem Qng {c : List PV} (h : Of Γ Qs3 c) : ∃ x : Label, c = x.cells ∧ Qbu x := by
  have g0 := h.st1
  obtain ⟨a0, b0, rfl, h0, g1⟩ := g0.Q19
  obtain ⟨x0, rfl, k0⟩ := h0.str1
  obtain ⟨a1, b1, rfl, h1, g2⟩ := g1.Q19
  obtain ⟨x1, rfl, k1⟩ := h1.str1
  have e := g2.empty
  subst e
  exact ⟨⟨x0, x1⟩, rfl, ⟨k0, k1⟩⟩
def Q11y : Ty := .st [.str, .str, .int .i64, .bool, .bool]
def Qs8 (x : Owner) : Prop := okS x.kind ∧ okS x.name ∧ Q3p x.uid ∧ (fun _ : Bool => True) x.controller ∧ (fun _ : Bool => True) x.block
theorem Q151 {c : List PV} (h : Of Γ Q11y c) : ∃ x : Owner, c = x.cells ∧ Qs8 x := by
  have g0 := h.st1
  obtain ⟨a0, b0, rfl, h0, g1⟩ := g0.Q19
  obtain ⟨x0, rfl, k0⟩ := h0.str1
  obtain ⟨a1, b1, rfl, h1, g2⟩ := g1.Q19
  obtain ⟨x1, rfl, k1⟩ := h1.str1
  obtain ⟨a2, b2, rfl, h2, g3⟩ := g2.Q19
  obtain ⟨x2, rfl, k2⟩ := h2.i64
  obtain ⟨a3, b3, rfl, h3, g4⟩ := g3.Q19
  obtain ⟨x3, rfl, k3⟩ := h3.bool2
  obtain ⟨a4, b4, rfl, h4, g5⟩ := g4.Q19
  obtain ⟨x4, rfl, k4⟩ := h4.bool2
  have e := g5.empty
  subst e
  exact ⟨⟨x0, x1, x2, x3, x4⟩, rfl, ⟨k0, k1, k2, k3, k4⟩⟩
def Qnh : Ty := .st [.str, .sl 16 .str]
def Qd5 (x : Manager) : Prop := okS x.name ∧ (okL 16 okS) x.fields
theorem Qwr {c : List PV} (h : Of Γ Qnh c) : ∃ x : Manager, c = x.cells ∧ Qd5 x := by
  have g0 := h.st1
  obtain ⟨a0, b0, rfl, h0, g1⟩ := g0.Q19
  obtain ⟨x0, rfl, k0⟩ := h0.str1
  obtain ⟨a1, b1, rfl, h1, g2⟩ := g1.Q19
  obtain ⟨x1, rfl, k1⟩ := (h1.sl1 (f := (fun s : ByteArray => [.str s])) (ok := okS) fun r hr => hr.str1)
  have e := g2.empty
  subst e
  exact ⟨⟨x0, x1⟩, rfl, ⟨k0, k1⟩⟩
def Q109 : Ty := .st [.str, .str, .str, .int .i64, .int .i64, .int .i64, .int .i64, .bool, .int .i64, .sl 32 Qs3, .sl 48 Q11y, .sl 16 .str, .sl 40 Qnh]
def Q7j (x : Meta) : Prop := okS x.kind ∧ okS x.namespace_ ∧ okS x.name ∧ Q3p x.uid ∧ Q3p x.version ∧ Q3p x.generation ∧ Q3p x.created ∧ (fun _ : Bool => True) x.deleting ∧ Q3p x.deleteAt ∧ (okL 32 Qbu) x.labels ∧ (okL 48 Qs8) x.owners ∧ (okL 16 okS) x.finalizers ∧ (okL 40 Qd5) x.managers
theorem Qws {c : List PV} (h : Of Γ Q109 c) : ∃ x : Meta, c = x.cells ∧ Q7j x := by
  have g0 := h.st1
  obtain ⟨a0, b0, rfl, h0, g1⟩ := g0.Q19
  obtain ⟨x0, rfl, k0⟩ := h0.str1
  obtain ⟨a1, b1, rfl, h1, g2⟩ := g1.Q19
  obtain ⟨x1, rfl, k1⟩ := h1.str1
  obtain ⟨a2, b2, rfl, h2, g3⟩ := g2.Q19
  obtain ⟨x2, rfl, k2⟩ := h2.str1
  obtain ⟨a3, b3, rfl, h3, g4⟩ := g3.Q19
  obtain ⟨x3, rfl, k3⟩ := h3.i64
  obtain ⟨a4, b4, rfl, h4, g5⟩ := g4.Q19
  obtain ⟨x4, rfl, k4⟩ := h4.i64
  obtain ⟨a5, b5, rfl, h5, g6⟩ := g5.Q19
  obtain ⟨x5, rfl, k5⟩ := h5.i64
  obtain ⟨a6, b6, rfl, h6, g7⟩ := g6.Q19
  obtain ⟨x6, rfl, k6⟩ := h6.i64
  obtain ⟨a7, b7, rfl, h7, g8⟩ := g7.Q19
  obtain ⟨x7, rfl, k7⟩ := h7.bool2
  obtain ⟨a8, b8, rfl, h8, g9⟩ := g8.Q19
  obtain ⟨x8, rfl, k8⟩ := h8.i64
  obtain ⟨a9, b9, rfl, h9, g10⟩ := g9.Q19
  obtain ⟨x9, rfl, k9⟩ := (h9.sl1 (f := Label.cells) (ok := Qbu) fun r hr => (Qng hr))
  obtain ⟨a10, b10, rfl, h10, g11⟩ := g10.Q19
  obtain ⟨x10, rfl, k10⟩ := (h10.sl1 (f := Owner.cells) (ok := Qs8) fun r hr => (Q151 hr))
  obtain ⟨a11, b11, rfl, h11, g12⟩ := g11.Q19
  obtain ⟨x11, rfl, k11⟩ := (h11.sl1 (f := (fun s : ByteArray => [.str s])) (ok := okS) fun r hr => hr.str1)
  obtain ⟨a12, b12, rfl, h12, g13⟩ := g12.Q19
  obtain ⟨x12, rfl, k12⟩ := (h12.sl1 (f := Manager.cells) (ok := Qd5) fun r hr => (Qwr hr))
  have e := g13.empty
  subst e
  exact ⟨⟨x0, x1, x2, x3, x4, x5, x6, x7, x8, x9, x10, x11, x12⟩, rfl, ⟨k0, k1, k2, k3, k4, k5, k6, k7, k8, k9, k10, k11, k12⟩⟩
def Q4q : Ty := .st [.str, .int .i64, .sl 16 .str]
def Q37 (x : Requirement) : Prop := okS x.key ∧ Q3p x.op ∧ (okL 16 okS) x.values
theorem Q4x {c : List PV} (h : Of Γ Q4q c) : ∃ x : Requirement, c = x.cells ∧ Q37 x := by
  have g0 := h.st1
  obtain ⟨a0, b0, rfl, h0, g1⟩ := g0.Q19
  obtain ⟨x0, rfl, k0⟩ := h0.str1
  obtain ⟨a1, b1, rfl, h1, g2⟩ := g1.Q19
  obtain ⟨x1, rfl, k1⟩ := h1.i64
  obtain ⟨a2, b2, rfl, h2, g3⟩ := g2.Q19
  obtain ⟨x2, rfl, k2⟩ := (h2.sl1 (f := (fun s : ByteArray => [.str s])) (ok := okS) fun r hr => hr.str1)
  have e := g3.empty
  subst e
  exact ⟨⟨x0, x1, x2⟩, rfl, ⟨k0, k1, k2⟩⟩
def Q96 : Ty := .st [.int .i64, .int .i64, .int .i64]
def Q95 (x : Resources) : Prop := Q3p x.cPU ∧ Q3p x.memory ∧ Q3p x.disk
theorem Qai {c : List PV} (h : Of Γ Q96 c) : ∃ x : Resources, c = x.cells ∧ Q95 x := by
  have g0 := h.st1
  obtain ⟨a0, b0, rfl, h0, g1⟩ := g0.Q19
  obtain ⟨x0, rfl, k0⟩ := h0.i64
  obtain ⟨a1, b1, rfl, h1, g2⟩ := g1.Q19
  obtain ⟨x1, rfl, k1⟩ := h1.i64
  obtain ⟨a2, b2, rfl, h2, g3⟩ := g2.Q19
  obtain ⟨x2, rfl, k2⟩ := h2.i64
  have e := g3.empty
  subst e
  exact ⟨⟨x0, x1, x2⟩, rfl, ⟨k0, k1, k2⟩⟩
def Qh1 : Ty := .st [.int .i64, .int .i64, .int .i64, .int .i64]
def Q8d (x : Probe) : Prop := Q3p x.delay ∧ Q3p x.period ∧ Q3p x.success ∧ Q3p x.failure
theorem Qd7 {c : List PV} (h : Of Γ Qh1 c) : ∃ x : Probe, c = x.cells ∧ Q8d x := by
  have g0 := h.st1
  obtain ⟨a0, b0, rfl, h0, g1⟩ := g0.Q19
  obtain ⟨x0, rfl, k0⟩ := h0.i64
  obtain ⟨a1, b1, rfl, h1, g2⟩ := g1.Q19
  obtain ⟨x1, rfl, k1⟩ := h1.i64
  obtain ⟨a2, b2, rfl, h2, g3⟩ := g2.Q19
  obtain ⟨x2, rfl, k2⟩ := h2.i64
  obtain ⟨a3, b3, rfl, h3, g4⟩ := g3.Q19
  obtain ⟨x3, rfl, k3⟩ := h3.i64
  have e := g4.empty
  subst e
  exact ⟨⟨x0, x1, x2, x3⟩, rfl, ⟨k0, k1, k2, k3⟩⟩
def Qdt : Ty := .st [.str, .str, Q96, Q96, .sl 32 Qh1, .sl 32 Qh1, .sl 32 Qh1]
def Q8y (x : Container) : Prop := okS x.name ∧ okS x.image ∧ Q95 x.request ∧ Q95 x.limit ∧ (okL 32 Q8d) x.live ∧ (okL 32 Q8d) x.ready ∧ (okL 32 Q8d) x.startup
theorem Qmu {c : List PV} (h : Of Γ Qdt c) : ∃ x : Container, c = x.cells ∧ Q8y x := by
  have g0 := h.st1
  obtain ⟨a0, b0, rfl, h0, g1⟩ := g0.Q19
  obtain ⟨x0, rfl, k0⟩ := h0.str1
  obtain ⟨a1, b1, rfl, h1, g2⟩ := g1.Q19
  obtain ⟨x1, rfl, k1⟩ := h1.str1
  obtain ⟨a2, b2, rfl, h2, g3⟩ := g2.Q19
  obtain ⟨x2, rfl, k2⟩ := (Qai h2)
  obtain ⟨a3, b3, rfl, h3, g4⟩ := g3.Q19
  obtain ⟨x3, rfl, k3⟩ := (Qai h3)
  obtain ⟨a4, b4, rfl, h4, g5⟩ := g4.Q19
  obtain ⟨x4, rfl, k4⟩ := (h4.sl1 (f := Probe.cells) (ok := Q8d) fun r hr => (Qd7 hr))
  obtain ⟨a5, b5, rfl, h5, g6⟩ := g5.Q19
  obtain ⟨x5, rfl, k5⟩ := (h5.sl1 (f := Probe.cells) (ok := Q8d) fun r hr => (Qd7 hr))
  obtain ⟨a6, b6, rfl, h6, g7⟩ := g6.Q19
  obtain ⟨x6, rfl, k6⟩ := (h6.sl1 (f := Probe.cells) (ok := Q8d) fun r hr => (Qd7 hr))
  have e := g7.empty
  subst e
  exact ⟨⟨x0, x1, x2, x3, x4, x5, x6⟩, rfl, ⟨k0, k1, k2, k3, k4, k5, k6⟩⟩
def Qjv : Ty := .st [.bool, .sl 48 Q4q, .int .i64]
def Qan (x : NodeTerm) : Prop := (fun _ : Bool => True) x.required ∧ (okL 48 Q37) x.selector ∧ Q3p x.weight
theorem Qs7 {c : List PV} (h : Of Γ Qjv c) : ∃ x : NodeTerm, c = x.cells ∧ Qan x := by
  have g0 := h.st1
  obtain ⟨a0, b0, rfl, h0, g1⟩ := g0.Q19
  obtain ⟨x0, rfl, k0⟩ := h0.bool2
  obtain ⟨a1, b1, rfl, h1, g2⟩ := g1.Q19
  obtain ⟨x1, rfl, k1⟩ := (h1.sl1 (f := Requirement.cells) (ok := Q37) fun r hr => (Q4x hr))
  obtain ⟨a2, b2, rfl, h2, g3⟩ := g2.Q19
  obtain ⟨x2, rfl, k2⟩ := h2.i64
  have e := g3.empty
  subst e
  exact ⟨⟨x0, x1, x2⟩, rfl, ⟨k0, k1, k2⟩⟩
def Qnl : Ty := .st [.bool, .bool, .sl 48 Q4q, .str, .int .i64]
def Qd6 (x : PodTerm) : Prop := (fun _ : Bool => True) x.required ∧ (fun _ : Bool => True) x.anti ∧ (okL 48 Q37) x.selector ∧ okS x.topology ∧ Q3p x.weight
theorem Qx4 {c : List PV} (h : Of Γ Qnl c) : ∃ x : PodTerm, c = x.cells ∧ Qd6 x := by
  have g0 := h.st1
  obtain ⟨a0, b0, rfl, h0, g1⟩ := g0.Q19
  obtain ⟨x0, rfl, k0⟩ := h0.bool2
  obtain ⟨a1, b1, rfl, h1, g2⟩ := g1.Q19
  obtain ⟨x1, rfl, k1⟩ := h1.bool2
  obtain ⟨a2, b2, rfl, h2, g3⟩ := g2.Q19
  obtain ⟨x2, rfl, k2⟩ := (h2.sl1 (f := Requirement.cells) (ok := Q37) fun r hr => (Q4x hr))
  obtain ⟨a3, b3, rfl, h3, g4⟩ := g3.Q19
  obtain ⟨x3, rfl, k3⟩ := h3.str1
  obtain ⟨a4, b4, rfl, h4, g5⟩ := g4.Q19
  obtain ⟨x4, rfl, k4⟩ := h4.i64
  have e := g5.empty
  subst e
  exact ⟨⟨x0, x1, x2, x3, x4⟩, rfl, ⟨k0, k1, k2, k3, k4⟩⟩
def Qc0 : Ty := .st [.int .i64, .str, .sl 48 Q4q, .bool]
def Q8e (x : SpreadRule) : Prop := Q3p x.maxSkew ∧ okS x.topology ∧ (okL 48 Q37) x.selector ∧ (fun _ : Bool => True) x.required
theorem Qjz {c : List PV} (h : Of Γ Qc0 c) : ∃ x : SpreadRule, c = x.cells ∧ Q8e x := by
  have g0 := h.st1
  obtain ⟨a0, b0, rfl, h0, g1⟩ := g0.Q19
  obtain ⟨x0, rfl, k0⟩ := h0.i64
  obtain ⟨a1, b1, rfl, h1, g2⟩ := g1.Q19
  obtain ⟨x1, rfl, k1⟩ := h1.str1
  obtain ⟨a2, b2, rfl, h2, g3⟩ := g2.Q19
  obtain ⟨x2, rfl, k2⟩ := (h2.sl1 (f := Requirement.cells) (ok := Q37) fun r hr => (Q4x hr))
  obtain ⟨a3, b3, rfl, h3, g4⟩ := g3.Q19
  obtain ⟨x3, rfl, k3⟩ := h3.bool2
  have e := g4.empty
  subst e
  exact ⟨⟨x0, x1, x2, x3⟩, rfl, ⟨k0, k1, k2, k3⟩⟩
def Qc1 : Ty := .st [.str, .str, .bool, .int .i64, .int .i64]
def Q8f (x : Toleration) : Prop := okS x.key ∧ okS x.value ∧ (fun _ : Bool => True) x.exists_ ∧ Q3p x.effect ∧ Q3p x.seconds
theorem Qk2 {c : List PV} (h : Of Γ Qc1 c) : ∃ x : Toleration, c = x.cells ∧ Q8f x := by
  have g0 := h.st1
  obtain ⟨a0, b0, rfl, h0, g1⟩ := g0.Q19
  obtain ⟨x0, rfl, k0⟩ := h0.str1
  obtain ⟨a1, b1, rfl, h1, g2⟩ := g1.Q19
  obtain ⟨x1, rfl, k1⟩ := h1.str1
  obtain ⟨a2, b2, rfl, h2, g3⟩ := g2.Q19
  obtain ⟨x2, rfl, k2⟩ := h2.bool2
  obtain ⟨a3, b3, rfl, h3, g4⟩ := g3.Q19
  obtain ⟨x3, rfl, k3⟩ := h3.i64
  obtain ⟨a4, b4, rfl, h4, g5⟩ := g4.Q19
  obtain ⟨x4, rfl, k4⟩ := h4.i64
  have e := g5.empty
  subst e
  exact ⟨⟨x0, x1, x2, x3, x4⟩, rfl, ⟨k0, k1, k2, k3, k4⟩⟩
def Qnk : Ty := .st [.str, .int .i64, .int .i64, .int .i64, .sl 152 Qdt, .sl 48 Q4q, .sl 40 Qjv, .sl 56 Qnl, .sl 56 Qc0, .sl 56 Qc1]
def Qnj (x : PodSpec) : Prop := okS x.node ∧ Q3p x.priority ∧ Q3p x.restart ∧ Q3p x.grace ∧ (okL 152 Q8y) x.containers ∧ (okL 48 Q37) x.nodeSelector ∧ (okL 40 Qan) x.nodeTerms ∧ (okL 56 Qd6) x.podTerms ∧ (okL 56 Q8e) x.spread ∧ (okL 56 Q8f) x.tolerations
theorem Qx3 {c : List PV} (h : Of Γ Qnk c) : ∃ x : PodSpec, c = x.cells ∧ Qnj x := by
  have g0 := h.st1
  obtain ⟨a0, b0, rfl, h0, g1⟩ := g0.Q19
  obtain ⟨x0, rfl, k0⟩ := h0.str1
  obtain ⟨a1, b1, rfl, h1, g2⟩ := g1.Q19
  obtain ⟨x1, rfl, k1⟩ := h1.i64
  obtain ⟨a2, b2, rfl, h2, g3⟩ := g2.Q19
  obtain ⟨x2, rfl, k2⟩ := h2.i64
  obtain ⟨a3, b3, rfl, h3, g4⟩ := g3.Q19
  obtain ⟨x3, rfl, k3⟩ := h3.i64
  obtain ⟨a4, b4, rfl, h4, g5⟩ := g4.Q19
  obtain ⟨x4, rfl, k4⟩ := (h4.sl1 (f := Container.cells) (ok := Q8y) fun r hr => (Qmu hr))
  obtain ⟨a5, b5, rfl, h5, g6⟩ := g5.Q19
  obtain ⟨x5, rfl, k5⟩ := (h5.sl1 (f := Requirement.cells) (ok := Q37) fun r hr => (Q4x hr))
  obtain ⟨a6, b6, rfl, h6, g7⟩ := g6.Q19
  obtain ⟨x6, rfl, k6⟩ := (h6.sl1 (f := NodeTerm.cells) (ok := Qan) fun r hr => (Qs7 hr))
  obtain ⟨a7, b7, rfl, h7, g8⟩ := g7.Q19
  obtain ⟨x7, rfl, k7⟩ := (h7.sl1 (f := PodTerm.cells) (ok := Qd6) fun r hr => (Qx4 hr))
  obtain ⟨a8, b8, rfl, h8, g9⟩ := g8.Q19
  obtain ⟨x8, rfl, k8⟩ := (h8.sl1 (f := SpreadRule.cells) (ok := Q8e) fun r hr => (Qjz hr))
  obtain ⟨a9, b9, rfl, h9, g10⟩ := g9.Q19
  obtain ⟨x9, rfl, k9⟩ := (h9.sl1 (f := Toleration.cells) (ok := Q8f) fun r hr => (Qk2 hr))
  have e := g10.empty
  subst e
  exact ⟨⟨x0, x1, x2, x3, x4, x5, x6, x7, x8, x9⟩, rfl, ⟨k0, k1, k2, k3, k4, k5, k6, k7, k8, k9⟩⟩
def Qk1 : Ty := .st [.sl 32 Qs3, Qnk]
def Qk0 (x : Template) : Prop := (okL 32 Qbu) x.labels ∧ Qnj x.spec
theorem Qtp {c : List PV} (h : Of Γ Qk1 c) : ∃ x : Template, c = x.cells ∧ Qk0 x := by
  have g0 := h.st1
  obtain ⟨a0, b0, rfl, h0, g1⟩ := g0.Q19
  obtain ⟨x0, rfl, k0⟩ := (h0.sl1 (f := Label.cells) (ok := Qbu) fun r hr => (Qng hr))
  obtain ⟨a1, b1, rfl, h1, g2⟩ := g1.Q19
  obtain ⟨x1, rfl, k1⟩ := (Qx3 h1)
  have e := g2.empty
  subst e
  exact ⟨⟨x0, x1⟩, rfl, ⟨k0, k1⟩⟩
def Q19x : Ty := .st [Q109, .int .i64, .int .i64, .int .i64, .int .i64, .bool, .bool, Qk1, .int .i64, .int .i64, .int .i64, .int .i64, .int .i64, .sl 8 (.int .i64), .int .i64]
def Q11w (x : Job) : Prop := Q7j x.meta_ ∧ Q3p x.completions ∧ Q3p x.parallelism ∧ Q3p x.retries ∧ Q3p x.deadline ∧ (fun _ : Bool => True) x.indexed ∧ (fun _ : Bool => True) x.suspended ∧ Qk0 x.template ∧ Q3p x.active ∧ Q3p x.succeeded ∧ Q3p x.failed ∧ Q3p x.started ∧ Q3p x.finished ∧ (okL 8 Q3p) x.done ∧ Q3p x.result
theorem Q11x {c : List PV} (h : Of Γ Q19x c) : ∃ x : Job, c = x.cells ∧ Q11w x := by
  have g0 := h.st1
  obtain ⟨a0, b0, rfl, h0, g1⟩ := g0.Q19
  obtain ⟨x0, rfl, k0⟩ := (Qws h0)
  obtain ⟨a1, b1, rfl, h1, g2⟩ := g1.Q19
  obtain ⟨x1, rfl, k1⟩ := h1.i64
  obtain ⟨a2, b2, rfl, h2, g3⟩ := g2.Q19
  obtain ⟨x2, rfl, k2⟩ := h2.i64
  obtain ⟨a3, b3, rfl, h3, g4⟩ := g3.Q19
  obtain ⟨x3, rfl, k3⟩ := h3.i64
  obtain ⟨a4, b4, rfl, h4, g5⟩ := g4.Q19
  obtain ⟨x4, rfl, k4⟩ := h4.i64
  obtain ⟨a5, b5, rfl, h5, g6⟩ := g5.Q19
  obtain ⟨x5, rfl, k5⟩ := h5.bool2
  obtain ⟨a6, b6, rfl, h6, g7⟩ := g6.Q19
  obtain ⟨x6, rfl, k6⟩ := h6.bool2
  obtain ⟨a7, b7, rfl, h7, g8⟩ := g7.Q19
  obtain ⟨x7, rfl, k7⟩ := (Qtp h7)
  obtain ⟨a8, b8, rfl, h8, g9⟩ := g8.Q19
  obtain ⟨x8, rfl, k8⟩ := h8.i64
  obtain ⟨a9, b9, rfl, h9, g10⟩ := g9.Q19
  obtain ⟨x9, rfl, k9⟩ := h9.i64
  obtain ⟨a10, b10, rfl, h10, g11⟩ := g10.Q19
  obtain ⟨x10, rfl, k10⟩ := h10.i64
  obtain ⟨a11, b11, rfl, h11, g12⟩ := g11.Q19
  obtain ⟨x11, rfl, k11⟩ := h11.i64
  obtain ⟨a12, b12, rfl, h12, g13⟩ := g12.Q19
  obtain ⟨x12, rfl, k12⟩ := h12.i64
  obtain ⟨a13, b13, rfl, h13, g14⟩ := g13.Q19
  obtain ⟨x13, rfl, k13⟩ := (h13.sl1 (f := (fun n : Int => [.int .i64 n])) (ok := Q3p) fun r hr => hr.i64)
  obtain ⟨a14, b14, rfl, h14, g15⟩ := g14.Q19
  obtain ⟨x14, rfl, k14⟩ := h14.i64
  have e := g15.empty
  subst e
  exact ⟨⟨x0, x1, x2, x3, x4, x5, x6, x7, x8, x9, x10, x11, x12, x13, x14⟩, rfl, ⟨k0, k1, k2, k3, k4, k5, k6, k7, k8, k9, k10, k11, k12, k13, k14⟩⟩
def Qn6 : Ty := .st [Q109, .str, .int .i64, .int .i64, .int .i64, .bool, Q19x, .int .i64]
def Qcv (x : CronJob) : Prop := Q7j x.meta_ ∧ okS x.schedule ∧ Q3p x.policy ∧ Q3p x.startWithin ∧ Q3p x.keepDone ∧ (fun _ : Bool => True) x.suspended ∧ Q11w x.job ∧ Q3p x.last
theorem Qv4 {c : List PV} (h : Of Γ Qn6 c) : ∃ x : CronJob, c = x.cells ∧ Qcv x := by
  have g0 := h.st1
  obtain ⟨a0, b0, rfl, h0, g1⟩ := g0.Q19
  obtain ⟨x0, rfl, k0⟩ := (Qws h0)
  obtain ⟨a1, b1, rfl, h1, g2⟩ := g1.Q19
  obtain ⟨x1, rfl, k1⟩ := h1.str1
  obtain ⟨a2, b2, rfl, h2, g3⟩ := g2.Q19
  obtain ⟨x2, rfl, k2⟩ := h2.i64
  obtain ⟨a3, b3, rfl, h3, g4⟩ := g3.Q19
  obtain ⟨x3, rfl, k3⟩ := h3.i64
  obtain ⟨a4, b4, rfl, h4, g5⟩ := g4.Q19
  obtain ⟨x4, rfl, k4⟩ := h4.i64
  obtain ⟨a5, b5, rfl, h5, g6⟩ := g5.Q19
  obtain ⟨x5, rfl, k5⟩ := h5.bool2
  obtain ⟨a6, b6, rfl, h6, g7⟩ := g6.Q19
  obtain ⟨x6, rfl, k6⟩ := (Q11x h6)
  obtain ⟨a7, b7, rfl, h7, g8⟩ := g7.Q19
  obtain ⟨x7, rfl, k7⟩ := h7.i64
  have e := g8.empty
  subst e
  exact ⟨⟨x0, x1, x2, x3, x4, x5, x6, x7⟩, rfl, ⟨k0, k1, k2, k3, k4, k5, k6, k7⟩⟩
def Q3w (N : Nat) (x : Requirement) : Prop := (fun s : ByteArray => s.size ≤ N) x.key ∧ (fun l : List ByteArray => l.length ≤ N ∧ ∀ x ∈ l, (fun s : ByteArray => s.size ≤ N) x) x.values
theorem Q49 {N : Nat} {x : Requirement} (h : CapL N x.cells) : Q3w N x := ⟨(let g : CapL N [.str x.key] := fun p hp => h p (by simp only [List.mem_cons, List.not_mem_nil, or_false] at hp; rcases hp with rfl <;> simp [Requirement.cells]); (g _ List.mem_cons_self).strI), (let g : CapL N [.sl (Qu x.values)] := fun p hp => h p (by simp only [List.mem_cons, List.not_mem_nil, or_false] at hp; rcases hp with rfl <;> simp [Requirement.cells]); (let r := Cap.Q84 (f := (fun s : ByteArray => [.str s])) (g _ List.mem_cons_self); ⟨r.1, fun x hx => ((r.2 x hx) _ List.mem_cons_self).strI⟩))⟩
theorem Requirement.Q3b {N : Nat} (hN : N ≤ sB) {x : Requirement} (c : Q3w N x) : Requirement.sm x := ⟨⟨Nat.le_trans c.2.1 hN, fun _ _hx => trivial⟩, trivial⟩
def Qbt (N : Nat) (x : Label) : Prop := (fun s : ByteArray => s.size ≤ N) x.key ∧ (fun s : ByteArray => s.size ≤ N) x.value
theorem Qjt {N : Nat} {x : Label} (h : CapL N x.cells) : Qbt N x := ⟨(let g : CapL N [.str x.key] := fun p hp => h p (by simp only [List.mem_cons, List.not_mem_nil, or_false] at hp; rcases hp with rfl <;> simp [Label.cells]); (g _ List.mem_cons_self).strI), (let g : CapL N [.str x.value] := fun p hp => h p (by simp only [List.mem_cons, List.not_mem_nil, or_false] at hp; rcases hp with rfl <;> simp [Label.cells]); (g _ List.mem_cons_self).strI)⟩
theorem Label.Q3b {N : Nat} (_ : N ≤ sB) {x : Label} (_ : Qbt N x) : Label.sm x := trivial
def Q6k (_N : Nat) (_x : Resources) : Prop := True
theorem Q94 {N : Nat} {x : Resources} (_h : CapL N x.cells) : Q6k N x := trivial
theorem Resources.Q3b {N : Nat} (_ : N ≤ sB) {x : Resources} (_ : Q6k N x) : Resources.sm x := trivial
def Q93 (_N : Nat) (_x : Probe) : Prop := True
theorem Qaq {N : Nat} {x : Probe} (_h : CapL N x.cells) : Q93 N x := trivial
theorem Probe.Q3b {N : Nat} (_ : N ≤ sB) {x : Probe} (_ : Q93 N x) : Probe.sm x := trivial
def Q88 (N : Nat) (x : Container) : Prop := (fun s : ByteArray => s.size ≤ N) x.name ∧ (fun s : ByteArray => s.size ≤ N) x.image ∧ (Q6k N) x.request ∧ (Q6k N) x.limit ∧ (fun l : List Probe => l.length ≤ N ∧ ∀ x ∈ l, (Q93 N) x) x.live ∧ (fun l : List Probe => l.length ≤ N ∧ ∀ x ∈ l, (Q93 N) x) x.ready ∧ (fun l : List Probe => l.length ≤ N ∧ ∀ x ∈ l, (Q93 N) x) x.startup
theorem Qhe {N : Nat} {x : Container} (h : CapL N x.cells) : Q88 N x := ⟨(let g : CapL N [.str x.name] := fun p hp => h p (by simp only [List.mem_cons, List.not_mem_nil, or_false] at hp; rcases hp with rfl <;> simp [Container.cells]); (g _ List.mem_cons_self).strI), (let g : CapL N [.str x.image] := fun p hp => h p (by simp only [List.mem_cons, List.not_mem_nil, or_false] at hp; rcases hp with rfl <;> simp [Container.cells]); (g _ List.mem_cons_self).strI), (let g : CapL N [.int .i64 x.request.cPU, .int .i64 x.request.memory, .int .i64 x.request.disk] := fun p hp => h p (by simp only [List.mem_cons, List.not_mem_nil, or_false] at hp; rcases hp with rfl | rfl | rfl <;> simp [Container.cells]); (Q94 g)), (let g : CapL N [.int .i64 x.limit.cPU, .int .i64 x.limit.memory, .int .i64 x.limit.disk] := fun p hp => h p (by simp only [List.mem_cons, List.not_mem_nil, or_false] at hp; rcases hp with rfl | rfl | rfl <;> simp [Container.cells]); (Q94 g)), (let g : CapL N [.sl (Probe.rows x.live)] := fun p hp => h p (by simp only [List.mem_cons, List.not_mem_nil, or_false] at hp; rcases hp with rfl <;> simp [Container.cells]); (let r := Cap.Q84 (f := Probe.cells) (g _ List.mem_cons_self); ⟨r.1, fun x hx => (Qaq (r.2 x hx))⟩)), (let g : CapL N [.sl (Probe.rows x.ready)] := fun p hp => h p (by simp only [List.mem_cons, List.not_mem_nil, or_false] at hp; rcases hp with rfl <;> simp [Container.cells]); (let r := Cap.Q84 (f := Probe.cells) (g _ List.mem_cons_self); ⟨r.1, fun x hx => (Qaq (r.2 x hx))⟩)), (let g : CapL N [.sl (Probe.rows x.startup)] := fun p hp => h p (by simp only [List.mem_cons, List.not_mem_nil, or_false] at hp; rcases hp with rfl <;> simp [Container.cells]); (let r := Cap.Q84 (f := Probe.cells) (g _ List.mem_cons_self); ⟨r.1, fun x hx => (Qaq (r.2 x hx))⟩))⟩
theorem Container.Q3b {N : Nat} (hN : N ≤ sB) {x : Container} (c : Q88 N x) : Container.sm x := ⟨Resources.Q3b hN c.2.2.1, Resources.Q3b hN c.2.2.2.1, ⟨Nat.le_trans c.2.2.2.2.1.1 hN, fun _ hx => Probe.Q3b hN (c.2.2.2.2.1.2 _ hx)⟩, ⟨Nat.le_trans c.2.2.2.2.2.1.1 hN, fun _ hx => Probe.Q3b hN (c.2.2.2.2.2.1.2 _ hx)⟩, ⟨Nat.le_trans c.2.2.2.2.2.2.1 hN, fun _ hx => Probe.Q3b hN (c.2.2.2.2.2.2.2 _ hx)⟩, trivial⟩
def Q92 (N : Nat) (x : NodeTerm) : Prop := (fun l : List Requirement => l.length ≤ N ∧ ∀ x ∈ l, (Q3w N) x) x.selector
theorem Qmx {N : Nat} {x : NodeTerm} (h : CapL N x.cells) : Q92 N x := (let g : CapL N [.sl (Requirement.rows x.selector)] := fun p hp => h p (by simp only [List.mem_cons, List.not_mem_nil, or_false] at hp; rcases hp with rfl <;> simp [NodeTerm.cells]); (let r := Cap.Q84 (f := Requirement.cells) (g _ List.mem_cons_self); ⟨r.1, fun x hx => (Q49 (r.2 x hx))⟩))
theorem NodeTerm.Q3b {N : Nat} (hN : N ≤ sB) {x : NodeTerm} (c : Q92 N x) : NodeTerm.sm x := ⟨⟨Nat.le_trans c.1 hN, fun _ hx => Requirement.Q3b hN (c.2 _ hx)⟩, trivial⟩
def Qap (N : Nat) (x : PodTerm) : Prop := (fun l : List Requirement => l.length ≤ N ∧ ∀ x ∈ l, (Q3w N) x) x.selector ∧ (fun s : ByteArray => s.size ≤ N) x.topology
theorem Qtn {N : Nat} {x : PodTerm} (h : CapL N x.cells) : Qap N x := ⟨(let g : CapL N [.sl (Requirement.rows x.selector)] := fun p hp => h p (by simp only [List.mem_cons, List.not_mem_nil, or_false] at hp; rcases hp with rfl <;> simp [PodTerm.cells]); (let r := Cap.Q84 (f := Requirement.cells) (g _ List.mem_cons_self); ⟨r.1, fun x hx => (Q49 (r.2 x hx))⟩)), (let g : CapL N [.str x.topology] := fun p hp => h p (by simp only [List.mem_cons, List.not_mem_nil, or_false] at hp; rcases hp with rfl <;> simp [PodTerm.cells]); (g _ List.mem_cons_self).strI)⟩
theorem PodTerm.Q3b {N : Nat} (hN : N ≤ sB) {x : PodTerm} (c : Qap N x) : PodTerm.sm x := ⟨⟨Nat.le_trans c.1.1 hN, fun _ hx => Requirement.Q3b hN (c.1.2 _ hx)⟩, trivial⟩
def Q7l (N : Nat) (x : SpreadRule) : Prop := (fun s : ByteArray => s.size ≤ N) x.topology ∧ (fun l : List Requirement => l.length ≤ N ∧ ∀ x ∈ l, (Q3w N) x) x.selector
theorem Qe5 {N : Nat} {x : SpreadRule} (h : CapL N x.cells) : Q7l N x := ⟨(let g : CapL N [.str x.topology] := fun p hp => h p (by simp only [List.mem_cons, List.not_mem_nil, or_false] at hp; rcases hp with rfl <;> simp [SpreadRule.cells]); (g _ List.mem_cons_self).strI), (let g : CapL N [.sl (Requirement.rows x.selector)] := fun p hp => h p (by simp only [List.mem_cons, List.not_mem_nil, or_false] at hp; rcases hp with rfl <;> simp [SpreadRule.cells]); (let r := Cap.Q84 (f := Requirement.cells) (g _ List.mem_cons_self); ⟨r.1, fun x hx => (Q49 (r.2 x hx))⟩))⟩
theorem SpreadRule.Q3b {N : Nat} (hN : N ≤ sB) {x : SpreadRule} (c : Q7l N x) : SpreadRule.sm x := ⟨⟨Nat.le_trans c.2.1 hN, fun _ hx => Requirement.Q3b hN (c.2.2 _ hx)⟩, trivial⟩
def Q7m (N : Nat) (x : Toleration) : Prop := (fun s : ByteArray => s.size ≤ N) x.key ∧ (fun s : ByteArray => s.size ≤ N) x.value
theorem Qe6 {N : Nat} {x : Toleration} (h : CapL N x.cells) : Q7m N x := ⟨(let g : CapL N [.str x.key] := fun p hp => h p (by simp only [List.mem_cons, List.not_mem_nil, or_false] at hp; rcases hp with rfl <;> simp [Toleration.cells]); (g _ List.mem_cons_self).strI), (let g : CapL N [.str x.value] := fun p hp => h p (by simp only [List.mem_cons, List.not_mem_nil, or_false] at hp; rcases hp with rfl <;> simp [Toleration.cells]); (g _ List.mem_cons_self).strI)⟩
theorem Toleration.Q3b {N : Nat} (_ : N ≤ sB) {x : Toleration} (_ : Q7m N x) : Toleration.sm x := trivial
def Qao (N : Nat) (x : PodSpec) : Prop := (fun s : ByteArray => s.size ≤ N) x.node ∧ (fun l : List Container => l.length ≤ N ∧ ∀ x ∈ l, (Q88 N) x) x.containers ∧ (fun l : List Requirement => l.length ≤ N ∧ ∀ x ∈ l, (Q3w N) x) x.nodeSelector ∧ (fun l : List NodeTerm => l.length ≤ N ∧ ∀ x ∈ l, (Q92 N) x) x.nodeTerms ∧ (fun l : List PodTerm => l.length ≤ N ∧ ∀ x ∈ l, (Qap N) x) x.podTerms ∧ (fun l : List SpreadRule => l.length ≤ N ∧ ∀ x ∈ l, (Q7l N) x) x.spread ∧ (fun l : List Toleration => l.length ≤ N ∧ ∀ x ∈ l, (Q7m N) x) x.tolerations
theorem Qtm {N : Nat} {x : PodSpec} (h : CapL N x.cells) : Qao N x := ⟨(let g : CapL N [.str x.node] := fun p hp => h p (by simp only [List.mem_cons, List.not_mem_nil, or_false] at hp; rcases hp with rfl <;> simp [PodSpec.cells]); (g _ List.mem_cons_self).strI), (let g : CapL N [.sl (Container.rows x.containers)] := fun p hp => h p (by simp only [List.mem_cons, List.not_mem_nil, or_false] at hp; rcases hp with rfl <;> simp [PodSpec.cells]); (let r := Cap.Q84 (f := Container.cells) (g _ List.mem_cons_self); ⟨r.1, fun x hx => (Qhe (r.2 x hx))⟩)), (let g : CapL N [.sl (Requirement.rows x.nodeSelector)] := fun p hp => h p (by simp only [List.mem_cons, List.not_mem_nil, or_false] at hp; rcases hp with rfl <;> simp [PodSpec.cells]); (let r := Cap.Q84 (f := Requirement.cells) (g _ List.mem_cons_self); ⟨r.1, fun x hx => (Q49 (r.2 x hx))⟩)), (let g : CapL N [.sl (NodeTerm.rows x.nodeTerms)] := fun p hp => h p (by simp only [List.mem_cons, List.not_mem_nil, or_false] at hp; rcases hp with rfl <;> simp [PodSpec.cells]); (let r := Cap.Q84 (f := NodeTerm.cells) (g _ List.mem_cons_self); ⟨r.1, fun x hx => (Qmx (r.2 x hx))⟩)), (let g : CapL N [.sl (PodTerm.rows x.podTerms)] := fun p hp => h p (by simp only [List.mem_cons, List.not_mem_nil, or_false] at hp; rcases hp with rfl <;> simp [PodSpec.cells]); (let r := Cap.Q84 (f := PodTerm.cells) (g _ List.mem_cons_self); ⟨r.1, fun x hx => (Qtn (r.2 x hx))⟩)), (let g : CapL N [.sl (SpreadRule.rows x.spread)] := fun p hp => h p (by simp only [List.mem_cons, List.not_mem_nil, or_false] at hp; rcases hp with rfl <;> simp [PodSpec.cells]); (let r := Cap.Q84 (f := SpreadRule.cells) (g _ List.mem_cons_self); ⟨r.1, fun x hx => (Qe5 (r.2 x hx))⟩)), (let g : CapL N [.sl (Toleration.rows x.tolerations)] := fun p hp => h p (by simp only [List.mem_cons, List.not_mem_nil, or_false] at hp; rcases hp with rfl <;> simp [PodSpec.cells]); (let r := Cap.Q84 (f := Toleration.cells) (g _ List.mem_cons_self); ⟨r.1, fun x hx => (Qe6 (r.2 x hx))⟩))⟩
theorem PodSpec.Q3b {N : Nat} (hN : N ≤ sB) {x : PodSpec} (c : Qao N x) : PodSpec.sm x := ⟨⟨Nat.le_trans c.2.1.1 hN, fun _ hx => Container.Q3b hN (c.2.1.2 _ hx)⟩, ⟨Nat.le_trans c.2.2.1.1 hN, fun _ hx => Requirement.Q3b hN (c.2.2.1.2 _ hx)⟩, ⟨Nat.le_trans c.2.2.2.1.1 hN, fun _ hx => NodeTerm.Q3b hN (c.2.2.2.1.2 _ hx)⟩, ⟨Nat.le_trans c.2.2.2.2.1.1 hN, fun _ hx => PodTerm.Q3b hN (c.2.2.2.2.1.2 _ hx)⟩, ⟨Nat.le_trans c.2.2.2.2.2.1.1 hN, fun _ hx => SpreadRule.Q3b hN (c.2.2.2.2.2.1.2 _ hx)⟩, ⟨Nat.le_trans c.2.2.2.2.2.2.1 hN, fun _ hx => Toleration.Q3b hN (c.2.2.2.2.2.2.2 _ hx)⟩, trivial⟩
def Q97 (N : Nat) (x : Template) : Prop := (fun l : List Label => l.length ≤ N ∧ ∀ x ∈ l, (Qbt N) x) x.labels ∧ (Qao N) x.spec
theorem Qmy {N : Nat} {x : Template} (h : CapL N x.cells) : Q97 N x := ⟨(let g : CapL N [.sl (Label.rows x.labels)] := fun p hp => h p (by simp only [List.mem_cons, List.not_mem_nil, or_false] at hp; rcases hp with rfl <;> simp [Template.cells]); (let r := Cap.Q84 (f := Label.cells) (g _ List.mem_cons_self); ⟨r.1, fun x hx => (Qjt (r.2 x hx))⟩)), (let g : CapL N [.str x.spec.node, .int .i64 x.spec.priority, .int .i64 x.spec.restart, .int .i64 x.spec.grace, .sl (Container.rows x.spec.containers), .sl (Requirement.rows x.spec.nodeSelector), .sl (NodeTerm.rows x.spec.nodeTerms), .sl (PodTerm.rows x.spec.podTerms), .sl (SpreadRule.rows x.spec.spread), .sl (Toleration.rows x.spec.tolerations)] := fun p hp => h p (by simp only [List.mem_cons, List.not_mem_nil, or_false] at hp; rcases hp with rfl | rfl | rfl | rfl | rfl | rfl | rfl | rfl | rfl | rfl <;> simp [Template.cells]); (Qtm g))⟩
theorem Template.Q3b {N : Nat} (hN : N ≤ sB) {x : Template} (c : Q97 N x) : Template.sm x := ⟨⟨Nat.le_trans c.1.1 hN, fun _ hx => Label.Q3b hN (c.1.2 _ hx)⟩, PodSpec.Q3b hN c.2, trivial⟩
def Qwt (N : Nat) (x : Owner) : Prop := (fun s : ByteArray => s.size ≤ N) x.kind ∧ (fun s : ByteArray => s.size ≤ N) x.name
theorem Q10a {N : Nat} {x : Owner} (h : CapL N x.cells) : Qwt N x := ⟨(let g : CapL N [.str x.kind] := fun p hp => h p (by simp only [List.mem_cons, List.not_mem_nil, or_false] at hp; rcases hp with rfl <;> simp [Owner.cells]); (g _ List.mem_cons_self).strI), (let g : CapL N [.str x.name] := fun p hp => h p (by simp only [List.mem_cons, List.not_mem_nil, or_false] at hp; rcases hp with rfl <;> simp [Owner.cells]); (g _ List.mem_cons_self).strI)⟩
def Qju (N : Nat) (x : Manager) : Prop := (fun s : ByteArray => s.size ≤ N) x.name ∧ (fun l : List ByteArray => l.length ≤ N ∧ ∀ x ∈ l, (fun s : ByteArray => s.size ≤ N) x) x.fields
theorem Qs5 {N : Nat} {x : Manager} (h : CapL N x.cells) : Qju N x := ⟨(let g : CapL N [.str x.name] := fun p hp => h p (by simp only [List.mem_cons, List.not_mem_nil, or_false] at hp; rcases hp with rfl <;> simp [Manager.cells]); (g _ List.mem_cons_self).strI), (let g : CapL N [.sl (Qu x.fields)] := fun p hp => h p (by simp only [List.mem_cons, List.not_mem_nil, or_false] at hp; rcases hp with rfl <;> simp [Manager.cells]); (let r := Cap.Q84 (f := (fun s : ByteArray => [.str s])) (g _ List.mem_cons_self); ⟨r.1, fun x hx => ((r.2 x hx) _ List.mem_cons_self).strI⟩))⟩
def Qs6 (N : Nat) (x : Meta) : Prop := (fun s : ByteArray => s.size ≤ N) x.kind ∧ (fun s : ByteArray => s.size ≤ N) x.namespace_ ∧ (fun s : ByteArray => s.size ≤ N) x.name ∧ (fun l : List Label => l.length ≤ N ∧ ∀ x ∈ l, (Qbt N) x) x.labels ∧ (fun l : List Owner => l.length ≤ N ∧ ∀ x ∈ l, (Qwt N) x) x.owners ∧ (fun l : List ByteArray => l.length ≤ N ∧ ∀ x ∈ l, (fun s : ByteArray => s.size ≤ N) x) x.finalizers ∧ (fun l : List Manager => l.length ≤ N ∧ ∀ x ∈ l, (Qju N) x) x.managers
theorem Qni {N : Nat} {x : Meta} (h : CapL N x.cells) : Qs6 N x := ⟨(let g : CapL N [.str x.kind] := fun p hp => h p (by simp only [List.mem_cons, List.not_mem_nil, or_false] at hp; rcases hp with rfl <;> simp [Meta.cells]); (g _ List.mem_cons_self).strI), (let g : CapL N [.str x.namespace_] := fun p hp => h p (by simp only [List.mem_cons, List.not_mem_nil, or_false] at hp; rcases hp with rfl <;> simp [Meta.cells]); (g _ List.mem_cons_self).strI), (let g : CapL N [.str x.name] := fun p hp => h p (by simp only [List.mem_cons, List.not_mem_nil, or_false] at hp; rcases hp with rfl <;> simp [Meta.cells]); (g _ List.mem_cons_self).strI), (let g : CapL N [.sl (Label.rows x.labels)] := fun p hp => h p (by simp only [List.mem_cons, List.not_mem_nil, or_false] at hp; rcases hp with rfl <;> simp [Meta.cells]); (let r := Cap.Q84 (f := Label.cells) (g _ List.mem_cons_self); ⟨r.1, fun x hx => (Qjt (r.2 x hx))⟩)), (let g : CapL N [.sl (Owner.rows x.owners)] := fun p hp => h p (by simp only [List.mem_cons, List.not_mem_nil, or_false] at hp; rcases hp with rfl <;> simp [Meta.cells]); (let r := Cap.Q84 (f := Owner.cells) (g _ List.mem_cons_self); ⟨r.1, fun x hx => (Q10a (r.2 x hx))⟩)), (let g : CapL N [.sl (Qu x.finalizers)] := fun p hp => h p (by simp only [List.mem_cons, List.not_mem_nil, or_false] at hp; rcases hp with rfl <;> simp [Meta.cells]); (let r := Cap.Q84 (f := (fun s : ByteArray => [.str s])) (g _ List.mem_cons_self); ⟨r.1, fun x hx => ((r.2 x hx) _ List.mem_cons_self).strI⟩)), (let g : CapL N [.sl (Manager.rows x.managers)] := fun p hp => h p (by simp only [List.mem_cons, List.not_mem_nil, or_false] at hp; rcases hp with rfl <;> simp [Meta.cells]); (let r := Cap.Q84 (f := Manager.cells) (g _ List.mem_cons_self); ⟨r.1, fun x hx => (Qs5 (r.2 x hx))⟩))⟩
def Qd4 (N : Nat) (x : Job) : Prop := (Qs6 N) x.meta_ ∧ (Q97 N) x.template ∧ (fun l : List Int => l.length ≤ N) x.done
theorem Qwq {N : Nat} {x : Job} (h : CapL N x.cells) : Qd4 N x := ⟨(let g : CapL N [.str x.meta_.kind, .str x.meta_.namespace_, .str x.meta_.name, .int .i64 x.meta_.uid, .int .i64 x.meta_.version, .int .i64 x.meta_.generation, .int .i64 x.meta_.created, .bool x.meta_.deleting, .int .i64 x.meta_.deleteAt, .sl (Label.rows x.meta_.labels), .sl (Owner.rows x.meta_.owners), .sl (Qu x.meta_.finalizers), .sl (Manager.rows x.meta_.managers)] := fun p hp => h p (by simp only [List.mem_cons, List.not_mem_nil, or_false] at hp; rcases hp with rfl | rfl | rfl | rfl | rfl | rfl | rfl | rfl | rfl | rfl | rfl | rfl | rfl <;> simp [Job.cells]); (Qni g)), (let g : CapL N [.sl (Label.rows x.template.labels), .str x.template.spec.node, .int .i64 x.template.spec.priority, .int .i64 x.template.spec.restart, .int .i64 x.template.spec.grace, .sl (Container.rows x.template.spec.containers), .sl (Requirement.rows x.template.spec.nodeSelector), .sl (NodeTerm.rows x.template.spec.nodeTerms), .sl (PodTerm.rows x.template.spec.podTerms), .sl (SpreadRule.rows x.template.spec.spread), .sl (Toleration.rows x.template.spec.tolerations)] := fun p hp => h p (by simp only [List.mem_cons, List.not_mem_nil, or_false] at hp; rcases hp with rfl | rfl | rfl | rfl | rfl | rfl | rfl | rfl | rfl | rfl | rfl <;> simp [Job.cells]); (Qmy g)), (let g : CapL N [.sl (Q2n x.done)] := fun p hp => h p (by simp only [List.mem_cons, List.not_mem_nil, or_false] at hp; rcases hp with rfl <;> simp [Job.cells]); (Cap.Q84 (f := (fun n : Int => [.int .i64 n])) (g _ List.mem_cons_self)).1)⟩
theorem JobS.Q3b {N : Nat} (hN : N ≤ sB) {x : Job} (c : Qd4 N x) : JobS.sm x := ⟨Template.Q3b hN c.2.1, trivial⟩
theorem Job.Q3b {N : Nat} (hN : N ≤ sB) {x : Job} (c : Qd4 N x) : Job.sm x := ⟨Template.Q3b hN c.2.1, ⟨Nat.le_trans c.2.2 hN, fun _ _hx => trivial⟩, trivial⟩
def Q89 (N : Nat) (x : CronJob) : Prop := (Qs6 N) x.meta_ ∧ (fun s : ByteArray => s.size ≤ N) x.schedule ∧ (Qd4 N) x.job
theorem Qrl {N : Nat} {x : CronJob} (h : CapL N x.cells) : Q89 N x := ⟨(let g : CapL N [.str x.meta_.kind, .str x.meta_.namespace_, .str x.meta_.name, .int .i64 x.meta_.uid, .int .i64 x.meta_.version, .int .i64 x.meta_.generation, .int .i64 x.meta_.created, .bool x.meta_.deleting, .int .i64 x.meta_.deleteAt, .sl (Label.rows x.meta_.labels), .sl (Owner.rows x.meta_.owners), .sl (Qu x.meta_.finalizers), .sl (Manager.rows x.meta_.managers)] := fun p hp => h p (by simp only [List.mem_cons, List.not_mem_nil, or_false] at hp; rcases hp with rfl | rfl | rfl | rfl | rfl | rfl | rfl | rfl | rfl | rfl | rfl | rfl | rfl <;> simp [CronJob.cells]); (Qni g)), (let g : CapL N [.str x.schedule] := fun p hp => h p (by simp only [List.mem_cons, List.not_mem_nil, or_false] at hp; rcases hp with rfl <;> simp [CronJob.cells]); (g _ List.mem_cons_self).strI), (let g : CapL N [.str x.job.meta_.kind, .str x.job.meta_.namespace_, .str x.job.meta_.name, .int .i64 x.job.meta_.uid, .int .i64 x.job.meta_.version, .int .i64 x.job.meta_.generation, .int .i64 x.job.meta_.created, .bool x.job.meta_.deleting, .int .i64 x.job.meta_.deleteAt, .sl (Label.rows x.job.meta_.labels), .sl (Owner.rows x.job.meta_.owners), .sl (Qu x.job.meta_.finalizers), .sl (Manager.rows x.job.meta_.managers), .int .i64 x.job.completions, .int .i64 x.job.parallelism, .int .i64 x.job.retries, .int .i64 x.job.deadline, .bool x.job.indexed, .bool x.job.suspended, .sl (Label.rows x.job.template.labels), .str x.job.template.spec.node, .int .i64 x.job.template.spec.priority, .int .i64 x.job.template.spec.restart, .int .i64 x.job.template.spec.grace, .sl (Container.rows x.job.template.spec.containers), .sl (Requirement.rows x.job.template.spec.nodeSelector), .sl (NodeTerm.rows x.job.template.spec.nodeTerms), .sl (PodTerm.rows x.job.template.spec.podTerms), .sl (SpreadRule.rows x.job.template.spec.spread), .sl (Toleration.rows x.job.template.spec.tolerations), .int .i64 x.job.active, .int .i64 x.job.succeeded, .int .i64 x.job.failed, .int .i64 x.job.started, .int .i64 x.job.finished, .sl (Q2n x.job.done), .int .i64 x.job.result] := fun p hp => h p (by simp only [List.mem_cons, List.not_mem_nil, or_false] at hp; rcases hp with rfl | rfl | rfl | rfl | rfl | rfl | rfl | rfl | rfl | rfl | rfl | rfl | rfl | rfl | rfl | rfl | rfl | rfl | rfl | rfl | rfl | rfl | rfl | rfl | rfl | rfl | rfl | rfl | rfl | rfl | rfl | rfl | rfl | rfl | rfl | rfl | rfl <;> simp [CronJob.cells]); (Qwq g))⟩
theorem CronJob.Q3b {N : Nat} (hN : N ≤ sB) {x : CronJob} (c : Q89 N x) : CronJob.sm x := ⟨JobS.Q3b hN c.2.2, trivial⟩
end Go.Proofs.YtimjjohlpnkacaaGreat
end

section
/- What the law WorkcodecJobs computes (printed by a program). -/
namespace Go.Proofs.YtimjjohlpnkacaaGreat
open Go.Pv
def s_K2 (p0 : Job) (p1 : CronJob) : Bool :=
 bif (s_K8 (Q41 p0)) then
  bif (s_K8 (Q42 p1)) then
   true
  else
   true
 else
  true
def c_K2 (p0 : Job) (p1 : CronJob) : En := .call 7 [.agg (Job.cells p0), .agg (CronJob.cells p1)] []
def a_K2 (p0 : Job) (p1 : CronJob) : Rs := .ret (.bool (s_K2 p0 p1)) []
def H_K2 (p0 : Job) (p1 : CronJob) : Prop := (Q19w p0) ∧ (Q19v p1) ∧ (H_K8 (Q41 p0)) ∧ ((s_K8 (Q41 p0)) = true → H_K8 (Q42 p1)) ∧ ((s_K8 (Q41 p0)) = true → (s_K8 (Q42 p1)) = true → Q1dm p0) ∧ ((s_K8 (Q41 p0)) = true → (s_K8 (Q42 p1)) = true → Q1do (Quv p0)) ∧ ((s_K8 (Q41 p0)) = true → (s_K8 (Q42 p1)) = true → Q1cx (Quv p0) = ((Job.at p0), 0)) ∧ ((s_K8 (Q41 p0)) = true → (s_K8 (Q42 p1)) = true → Q1dl p1) ∧ ((s_K8 (Q41 p0)) = true → (s_K8 (Q42 p1)) = true → Q1dn (Quu p1)) ∧ ((s_K8 (Q41 p0)) = true → (s_K8 (Q42 p1)) = true → Q1cw (Quu p1) = ((CronJob.at p1), 0)) ∧ ((s_K8 (Q41 p0)) = true → (s_K8 (Q42 p1)) = true → (Quv p0) = (Q41 p0)) ∧ ((s_K8 (Q41 p0)) = true → (s_K8 (Q42 p1)) = true → Qwo (Quv p0)) ∧ ((s_K8 (Q41 p0)) = true → (s_K8 (Q42 p1)) = true → (Quu p1) = (Q42 p1)) ∧ ((s_K8 (Q41 p0)) = true → (s_K8 (Q42 p1)) = true → Qwo (Quu p1)) ∧ ((s_K8 (Q41 p0)) = true → (s_K8 (Q42 p1)) = true → Q19w (Job.at p0)) ∧ ((s_K8 (Q41 p0)) = true → (s_K8 (Q42 p1)) = true → (Q41 (Job.at p0)) = (Q41 p0)) ∧ ((s_K8 (Q41 p0)) = true → (s_K8 (Q42 p1)) = true → Qwo (Q41 (Job.at p0))) ∧ ((s_K8 (Q41 p0)) = true → (s_K8 (Q42 p1)) = true → Q19v (CronJob.at p1)) ∧ ((s_K8 (Q41 p0)) = true → (s_K8 (Q42 p1)) = true → (Q42 (CronJob.at p1)) = (Q42 p1)) ∧ ((s_K8 (Q41 p0)) = true → (s_K8 (Q42 p1)) = true → Qwo (Q42 (CronJob.at p1))) ∧ ((s_K8 (Q41 p0)) = true → (s_K8 (Q42 p1)) = true → H_K7 (CronJob.at p1).job) ∧ ((s_K8 (Q41 p0)) = true → (s_K8 (Q42 p1)) = true → s_K7 (CronJob.at p1).job = true) ∧ True
theorem t_K2 (p0 : Job) (p1 : CronJob) (H : H_K2 p0 p1) : Q5 G (c_K2 p0 p1) (a_K2 p0 p1) := by
 unfold a_K2 s_K2
 cases h0 : (s_K8 (Q41 p0)) with
 | true =>
  cases h1 : (s_K8 (Q42 p1)) with
  | true =>
   exact Q6 (fn := Ir.K2) rfl VOK.nil [] [aN (Q1fv p0 (H.1)), aN (Q1fu p1 (H.2.1)), aB (t_K8 (Q41 p0) (H.2.2.1)) h0, aB (t_K8 (Q42 p1) (H.2.2.2.1 h0)) h1, aN (Q1rm p0 (H.2.2.2.2.1 h0 h1)), aN (toldOf (Q21x (Quv p0) (H.2.2.2.2.2.1 h0 h1)) (congrArg (fun z : Job × Int => Rs.ret (.tup [.agg (Job.cells z.1), .int .i64 z.2]) []) (H.2.2.2.2.2.2.1 h0 h1))), aN (Q1rl p1 (H.2.2.2.2.2.2.2.1 h0 h1)), aN (toldOf (Q21w (Quu p1) (H.2.2.2.2.2.2.2.2.1 h0 h1)) (congrArg (fun z : CronJob × Int => Rs.ret (.tup [.agg (CronJob.cells z.1), .int .i64 z.2]) []) (H.2.2.2.2.2.2.2.2.2.1 h0 h1))), aN (Q1rm p0 (H.2.2.2.2.1 h0 h1)), aN (Q45 (c := fun y => .call 17 [.agg (Object.cells (Quv p0)), .agg (Object.cells y)] []) (H.2.2.2.2.2.2.2.2.2.2.1 h0 h1) (Q1fs (Quv p0) (H.2.2.2.2.2.2.2.2.2.2.2.1 h0 h1))), aN (Q1rl p1 (H.2.2.2.2.2.2.2.1 h0 h1)), aN (Q45 (c := fun y => .call 17 [.agg (Object.cells (Quu p1)), .agg (Object.cells y)] []) (H.2.2.2.2.2.2.2.2.2.2.2.2.1 h0 h1) (Q1fs (Quu p1) (H.2.2.2.2.2.2.2.2.2.2.2.2.2.1 h0 h1))), aN (Q1fv (Job.at p0) (H.2.2.2.2.2.2.2.2.2.2.2.2.2.2.1 h0 h1)), aN (Q45 (c := fun y => .call 17 [.agg (Object.cells (Q41 (Job.at p0))), .agg (Object.cells y)] []) (H.2.2.2.2.2.2.2.2.2.2.2.2.2.2.2.1 h0 h1) (Q1fs (Q41 (Job.at p0)) (H.2.2.2.2.2.2.2.2.2.2.2.2.2.2.2.2.1 h0 h1))), aN (Q1fu (CronJob.at p1) (H.2.2.2.2.2.2.2.2.2.2.2.2.2.2.2.2.2.1 h0 h1)), aN (Q45 (c := fun y => .call 17 [.agg (Object.cells (Q42 (CronJob.at p1))), .agg (Object.cells y)] []) (H.2.2.2.2.2.2.2.2.2.2.2.2.2.2.2.2.2.2.1 h0 h1) (Q1fs (Q42 (CronJob.at p1)) (H.2.2.2.2.2.2.2.2.2.2.2.2.2.2.2.2.2.2.2.1 h0 h1))), aN (toldOf (t_K7 (CronJob.at p1).job (H.2.2.2.2.2.2.2.2.2.2.2.2.2.2.2.2.2.2.2.2.1 h0 h1)) (congrArg (fun b => Rs.ret (.bool b) []) (H.2.2.2.2.2.2.2.2.2.2.2.2.2.2.2.2.2.2.2.2.2.1 h0 h1))), aN t_K6] (by kernel_rfl)
  | false =>
   exact Q6 (fn := Ir.K2) rfl VOK.nil [] [aN (Q1fv p0 (H.1)), aN (Q1fu p1 (H.2.1)), aB (t_K8 (Q41 p0) (H.2.2.1)) h0, aB (t_K8 (Q42 p1) (H.2.2.2.1 h0)) h1, aN t_K6] (by kernel_rfl)
 | false =>
  exact Q6 (fn := Ir.K2) rfl VOK.nil [] [aN (Q1fv p0 (H.1)), aN (Q1fu p1 (H.2.1)), aB (t_K8 (Q41 p0) (H.2.2.1)) h0, aN t_K6] (by kernel_rfl)
def tysWorkcodecJobs : List Ty := [Q19x, Qn6]
theorem pureWorkcodecJobs {N : Nat} (hp : ∀ (p0 : Job) (p1 : CronJob), Q11w p0 → Qcv p1 → (Qd4 N) p0 → (Q89 N) p1 → H_K2 p0 p1 ∧ s_K2 p0 p1 = true) : ∀ qs, Q19r Γ N tysWorkcodecJobs qs → ∃ n, runs G n (.call 7 qs []) = some (.ret (.bool true) []) := by
  intro qs h
  cases qs with
  | nil => cases h
  | cons q0 qs =>
  obtain ⟨h0, h⟩ := h
  cases qs with
  | nil => cases h
  | cons q1 qs =>
  obtain ⟨h1, h⟩ := h
  cases qs with
  | cons _ _ => cases h
  | nil =>
  obtain ⟨c0, rfl, g0, b0⟩ := h0.agg rfl
  obtain ⟨p0, rfl, k0⟩ := (Q11x g0)
  obtain ⟨c1, rfl, g1, b1⟩ := h1.agg rfl
  obtain ⟨p1, rfl, k1⟩ := (Qv4 g1)
  have e := hp p0 p1 k0 k1 (Qwq b0) (Qrl b1)
  have t := t_K2 p0 p1 e.1
  unfold a_K2 at t
  rw [e.2] at t
  exact t
end Go.Proofs.YtimjjohlpnkacaaGreat
end

section
/- What is small by the reference's count; what is demanded of metadata and objects (printed by a program). -/
namespace Go.Proofs.YtimjjohlpnkacaaGreat
open Go.Pv
def cv : Qto → Int
  | .k0 y => y
  | .k1 => -1
theorem Q12w (p : Val) (d : Int) (l : List Val) (i : Nat) {a : Int} (h : ¬ 0 ≤ a) : Q3n p d l i a = a := by
  cases l with
  | nil => rw [Q3n]
  | cons x l => rw [Q3n, show decide (0 ≤ a) = false by simpa using h, cond_false]
theorem Qty (p : Val) (d : Int) (l : List Fld) (i : Nat) {a : Int} (h : ¬ 0 ≤ a) : cv (Q3z p d l i a) = a := by
  cases l with
  | nil => rw [Q3z]; rfl
  | cons x l => rw [Q3z, show decide (0 ≤ a) = false by simpa using h, cond_false]; rfl
def Q1hr (v : Val) : Prop := ∀ n d, n ≤ 1000 → 0 ≤ Q8v v n d → Val.Sm 1000 v ∧ Q8v v n d + 1 ≤ n
theorem Q12x (p : Val) (d : Int) : ∀ (l : List Val) (i : Nat) (a : Int), a ≤ 1000 → (∀ x ∈ l, Q1hr x) → 0 ≤ Q3n p d l i a → (∀ x ∈ l, Val.Sm 1000 x) ∧ Q3n p d l i a + (l.length : Int) ≤ a
  | [], i, a, _, _, _ => by
    rw [Q3n]
    exact ⟨fun _ h => (by cases h), by simp⟩
  | x :: l, i, a, ha, hx, h => by
    by_cases c : 0 ≤ a
    · rw [Q3n, show decide (0 ≤ a) = true by simpa using c, cond_true] at h ⊢
      have k : 0 ≤ Q8v x a (w64 (d - 1)) := by
        apply Decidable.byContradiction
        intro hn
        rw [Q12w p d l _ hn] at h
        exact hn h
      have h1 := hx x List.mem_cons_self a _ ha k
      have h2 := Q12x p d l (i + 1) _ (by omega) (fun y hy => hx y (List.mem_cons_of_mem _ hy)) h
      refine ⟨List.forall_mem_cons.2 ⟨h1.1, h2.1⟩, ?_⟩
      have := h1.2
      have := h2.2
      rw [List.length_cons]
      omega
    · rw [Q12w p d _ i c] at h
      exact absurd h c
theorem Q12y (p : Val) (d : Int) : ∀ (l : List Fld) (i : Nat) (a : Int), a ≤ 1000 → (∀ x ∈ l, Q1hr x.v) → 0 ≤ cv (Q3z p d l i a) → (∀ x ∈ l, Val.Sm 1000 x.v) ∧ cv (Q3z p d l i a) + (l.length : Int) ≤ a
  | [], i, a, _, _, _ => by
    rw [Q3z]
    exact ⟨fun _ h => (by cases h), by simp [cv]⟩
  | x :: l, i, a, ha, hx, h => by
    by_cases c : 0 ≤ a
    · rw [Q3z, show decide (0 ≤ a) = true by simpa using c, cond_true] at h ⊢
      cases e : decide (1000 < (ByteArray.size x.name : Int)) with
      | true =>
        rw [e] at h
        exact absurd (show (0 : Int) ≤ -1 from h) (by decide)
      | false =>
        rw [e, cond_false] at h
        rw [cond_false]
        have k : 0 ≤ Q8v x.v a (w64 (d - 1)) := by
          apply Decidable.byContradiction
          intro hn
          rw [Qty p d l _ hn] at h
          exact hn h
        have h1 := hx x List.mem_cons_self a _ ha k
        have h2 := Q12y p d l (i + 1) _ (by omega) (fun y hy => hx y (List.mem_cons_of_mem _ hy)) h
        refine ⟨List.forall_mem_cons.2 ⟨h1.1, h2.1⟩, ?_⟩
        have := h1.2
        have := h2.2
        rw [List.length_cons]
        omega
    · rw [Qty p d _ i c] at h
      exact absurd h c
theorem Q1e3 : ∀ v, Q1hr v := vind fun v h1 h2 n d hn h => by
  rw [Q8v] at h ⊢
  cases c1 : decide (n ≤ 0) with
  | true => rw [c1] at h; exact absurd (show (0 : Int) ≤ -1 from h) (by decide)
  | false =>
    cases c2 : decide (d ≤ 0) with
    | true => rw [c1, c2] at h; exact absurd (show (0 : Int) ≤ -1 from h) (by decide)
    | false =>
      cases c3 : decide (1000 < (ByteArray.size v.s : Int)) with
      | true => rw [c1, c2, c3] at h; exact absurd (show (0 : Int) ≤ -1 from h) (by decide)
      | false =>
        have e1 := of_decide_eq_false c1
        rw [c1, c2, c3, cond_false, cond_false, cond_false, Q103 (by omega)] at h
        rw [cond_false, cond_false, cond_false, Q103 (by omega)]
        change 0 ≤ cv (Q3z v d v.fields 0 (Q3n v d v.list 0 (n - 1))) at h
        change _ ∧ cv (Q3z v d v.fields 0 (Q3n v d v.list 0 (n - 1))) + 1 ≤ n
        have k : 0 ≤ Q3n v d v.list 0 (n - 1) := by
          apply Decidable.byContradiction
          intro hn
          rw [Qty v d _ _ hn] at h
          exact hn h
        have g0 := Q12x v d v.list 0 (n - 1) (by omega) h1 k
        have g1 := Q12y v d v.fields 0 _ (by have := g0.2; omega) h2 h
        have := g0.2
        have := g1.2
        exact ⟨.mk _ (by omega) (by omega) g0.1 g1.1, by omega⟩
theorem Q14s {v : Val} {n : Int} (hn : n ≤ 1000) (h : Qut v n = true) : Val.Sm 1000 v := (Q1e3 v n n hn (of_decide_eq_true h)).1
theorem Q140 {o : Object} (h : s_K8 o = true) : Val.Sm 1000 o.spec ∧ Val.Sm 1000 o.status := by
  unfold s_K8 at h
  cases c1 : decide (40 < ((List.length o.meta_.labels) : Int)) with
  | true => rw [c1] at h; cases h
  | false =>
    cases c2 : decide (40 < ((List.length o.meta_.owners) : Int)) with
    | true => rw [c1, c2] at h; cases h
    | false =>
      cases c3 : decide (40 < ((List.length o.meta_.finalizers) : Int)) with
      | true => rw [c1, c2, c3] at h; cases h
      | false =>
        cases c4 : decide (40 < ((List.length o.meta_.managers) : Int)) with
        | true => rw [c1, c2, c3, c4] at h; cases h
        | false =>
          rw [c1, c2, c3, c4, cond_false, cond_false, cond_false, cond_false] at h
          cases c5 : Qaz o o.meta_.managers 0 with
          | k1 => rw [c5] at h; cases h
          | k0 =>
            rw [c5] at h
            cases c6 : Qut o.spec 900 with
            | false =>
              simp only [c6, cond_false] at h
              cases h
            | true =>
              simp only [c6, cond_true] at h
              exact ⟨Q14s (by decide) c6, Q14s (by decide) h⟩
theorem Q163 {m : Meta} (k : Q7j m) : Qs2 m ∧ Q19t m ∧ m.managers.length ≤ 4611686018427387904 := by
  obtain ⟨k1, k2, k3, _, _, _, _, _, _, kl, ko, kf, km⟩ := k
  have hl := kl.1
  have ho := ko.1
  have hf := kf.1
  have hm := km.1
  unfold okS at k1 k2 k3
  have hx : ∀ x ∈ m.managers, x.fields.length * 16 ≤ 140737488351232 := fun x hx => (km.2 x hx).2.1
  have e0 : (⟨#[47]⟩ : BA).size = 1 := rfl
  refine ⟨⟨by omega, by omega, by omega, by omega, ⟨by omega, fun x h => by have := hx x h; omega, trivial⟩, trivial⟩, ⟨⟨⟨?_, ?_, ?_, ?_, trivial⟩, trivial⟩, ⟨⟨by omega, trivial⟩, trivial⟩, ⟨by omega, trivial⟩, ⟨by omega, trivial⟩, ⟨by omega, fun x h => ⟨⟨by have := hx x h; omega, trivial⟩, trivial⟩, trivial⟩, trivial⟩, by omega⟩ <;>
  · simp only [ByteArray.size_append, e0]
    omega
theorem Q1hh {m : Meta} (k : Q7j m) (s : BA) (h : s.size ≤ 140737488351232) : Q7j { m with kind := s } := ⟨h, k.2⟩
theorem Q1he {o : Object} (k : Q7j o.meta_) (g : Object.sm o) : H_K8 o := ⟨⟨(Q163 k).2.2, trivial⟩, ⟨g.1.mono (Nat.le_of_ble_eq_true rfl), trivial⟩, ⟨g.2.mono (Nat.le_of_ble_eq_true rfl), trivial⟩, trivial⟩
theorem Q1ha {o : Object} (k : Q7j o.meta_) (g : Object.sm o) : Qwo o := ⟨(Q163 k).2.1, ⟨g.1.mono (Nat.le_of_ble_eq_true rfl), trivial⟩, ⟨g.2.mono (Nat.le_of_ble_eq_true rfl), trivial⟩, trivial⟩
theorem Q1sz : Q19t ((Meta.mk eB eB eB 0 0 0 0 false 0 [] [] [] [])) := by
  have e0 : (⟨#[47]⟩ : BA).size = 1 := rfl
  have e1 : eB.size = 0 := rfl
  refine ⟨⟨⟨?_, ?_, ?_, ?_, trivial⟩, trivial⟩, ⟨⟨Nat.zero_le _, trivial⟩, trivial⟩, ⟨Nat.zero_le _, trivial⟩, ⟨Nat.zero_le _, trivial⟩, ⟨Nat.zero_le _, (fun _ h => by cases h), trivial⟩, trivial⟩ <;>
  · simp only [ByteArray.size_append, e0, e1]
    omega
def JobF (x : Job) : Prop := Q19w x ∧ H_K8 (Q41 x) ∧ Q1dm x ∧ Qwo (Q41 x) ∧ Q1do (Q41 x) ∧ (s_K8 (Q41 x) = true → Q1cx (Q41 x) = (Job.at x, 0))
theorem Job.facts {x : Job} (k : Q7j x.meta_) (a : Job.sm x) : JobF x := by
  have m := Q1hh k Q1x (Nat.le_of_ble_eq_true rfl)
  have g : Object.sm (Job.obj x) := Job.Q1bt a
  exact ⟨a, Q1he (o := Job.obj x) m g, ⟨(Q163 k).1, a⟩, Q1ha (o := Job.obj x) m g, ⟨(Q163 m).1, g⟩, fun h => (Job.rc (o := Job.obj x) (Q140 h)).trans (Job.R_at x)⟩
def Q1dh (x : CronJob) : Prop := Q19v x ∧ H_K8 (Q42 x) ∧ Q1dl x ∧ Qwo (Q42 x) ∧ Q1dn (Q42 x) ∧ (s_K8 (Q42 x) = true → Q1cw (Q42 x) = (CronJob.at x, 0))
theorem CronJob.facts {x : CronJob} (k : Q7j x.meta_) (a : CronJob.sm x) : Q1dh x := by
  have m := Q1hh k Qq (Nat.le_of_ble_eq_true rfl)
  have g : Object.sm (CronJob.obj x) := CronJob.Q1bt a
  exact ⟨a, Q1he (o := CronJob.obj x) m g, ⟨(Q163 k).1, a⟩, Q1ha (o := CronJob.obj x) m g, ⟨(Q163 m).1, g⟩, fun h => (CronJob.rc (o := CronJob.obj x) (Q140 h)).trans (CronJob.R_at x)⟩
end Go.Proofs.YtimjjohlpnkacaaGreat
end

section
/- The law WorkcodecJobs in plain words: what was encoded is decoded to what it was. -/
namespace Go.Proofs.YtimjjohlpnkacaaGreat
open Go.Pv
theorem lawJobs (p0 : Job) (p1 : CronJob) (k0 : Q11w p0) (k1 : Qcv p1) (c0 : Qd4 1048576 p0) (c1 : Q89 1048576 p1) : H_K2 p0 p1 ∧ s_K2 p0 p1 = true := by
  have f0 := Job.facts k0.1 (Job.Q3b (Nat.le_of_ble_eq_true rfl) c0)
  have f1 := CronJob.facts k1.1 (CronJob.Q3b (Nat.le_of_ble_eq_true rfl) c1)
  refine ⟨?_, ?_⟩
  · unfold H_K2
    repeat' with_reducible apply And.intro
    all_goals first | exact True.intro | (intros; first | rfl | exact f0.1 | exact f0.2.1 | exact f0.2.2.1 | exact f0.2.2.2.1 | exact f0.2.2.2.2.1 | exact f0.2.2.2.2.2 (by assumption) | exact f1.1 | exact f1.2.1 | exact f1.2.2.1 | exact f1.2.2.2.1 | exact f1.2.2.2.2.1 | exact f1.2.2.2.2.2 (by assumption) | exact (show H_K7 (CronJob.at p1).job from ⟨rfl, Q1sz, trivial⟩))
  · unfold s_K2
    cases s_K8 (Q41 p0) <;> cases s_K8 (Q42 p1)
    all_goals rfl
end Go.Proofs.YtimjjohlpnkacaaGreat
end

section
/- The library's comparison of two strings, walked: it answers as the evaluator's cmpL. -/
namespace Go.Proofs.YtimjjohlpnkacaaGreat
open Go.Pv
theorem cmpL_eq : ∀ (a b : List UInt8), cmpL a b = Lib.compareBytes a b
  | [], [] => rfl
  | [], _ :: _ => rfl
  | _ :: _, [] => rfl
  | a :: x, b :: y => by
    rw [Lib.compareBytes, ← cmpL_eq x y]
    rfl
set_option maxHeartbeats 1000000 in
set_option maxRecDepth 100000 in
theorem comparing (a b : BA) (w : World) :
    Calls Tryz.prog 221 #[.string a, .string b] w fun e w' => e = .returned (.int .i64 (Lib.compareBytes a.data.toList b.data.toList)) ∧ w' = w := by
  go_enter Tryz.func221, Tryz.ntmps221
  go_wp2
  rw [run_callFunc_extern Tryz.func255 (by kernel_rfl) (by kernel_rfl) (by kernel_rfl) (e := Extern.BytealgCompare.compare) (by kernel_rfl), Lib.run_compareString]
  simp only [Result.andThen]
  rw [Oper.upon_value]
  go_wp2
  go_ret
  exact ⟨rfl, rfl⟩
theorem cmpOK : Q1dg Tryz.prog 221 := by
  refine ⟨⟨_, Tryz.func221, by kernel_rfl, by kernel_rfl⟩, fun x y w => ?_⟩
  have h := comparing x y w
  rw [← cmpL_eq, ← toList_data, ← toList_data] at h
  exact h
end Go.Proofs.YtimjjohlpnkacaaGreat
end

