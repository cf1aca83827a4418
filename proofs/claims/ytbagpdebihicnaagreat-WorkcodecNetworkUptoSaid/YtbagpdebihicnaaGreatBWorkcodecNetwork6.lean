/- Texts of the claim, merged by a program; what the statement does not reach is left out. -/
import Derived.Test.YtbagpdebihicnaaGreatBWorkcodecNetwork5
import Derived.Lib.Strings
import Derived.Lib.Slices
import Derived.Lib.Walk
import Derived.Lib.Bytealg
import Derived.Test.YtbagpdebihicnaaGreatRows

section
/- What the reference's encoders compute (printed by a program). -/
namespace Go.Proofs.YtbagpdebihicnaaGreat
open Go.Pv
def Qi (p0 : List Fld) (i0 : Nat) (v0_1 : List Fld) : Nat → Int → Int
 | 0, v1_0 => v1_0
 | k1 + 1, v1_0 =>
  bif (decide (v1_0 < ((List.length v0_1) : Int))) then
   bif (sLt (List.getD v0_1 (Int.toNat v1_0) zF).name (List.getD p0 i0 zF).name) then
    Qi p0 i0 v0_1 k1 (v1_0 + 1)
   else
    v1_0
  else
   v1_0
def Qt9 (p0 : List Fld) (i0 : Nat) (v0_1 : List Fld) (v1_0 : Int) : List PV :=
  [.sl (Fld.rows p0), .un, .bx 0 0, .ms 1 6 0 (List.length v0_1), .int .i64 (i0 : Int), .int .i64 v1_0] ++ nuns 46
def Qki (_p0 : List Fld) (_i0 : Nat) (v0_1 : List Fld) (_v1_0 : Int) : List Ob :=
  [⟨5, 0, true, [.int .i64 0, .int .i64 0, .str eB, .ms 2 5 0 0, .ms 3 6 0 0]⟩, ⟨6, 0, true, (Fld.rows v0_1).flatten⟩, ⟨5, 0, true, []⟩, ⟨6, 0, true, []⟩]
def Q7z (p0 : List Fld) (i0 : Nat) (v0_1 : List Fld) (v1_0 : Int) : En := .loop 0 Ir.Qgr Ir.Q18j (Qt9 p0 i0 v0_1 v1_0) (Qki p0 i0 v0_1 v1_0)
def Q71 (p0 : List Fld) (i0 : Nat) (v0_1 : List Fld) (q0 : Int) (z : Nat → PV) (_zo : Nat → List PV) : St :=
  ⟨[.sl (Fld.rows p0), z 1, .bx 0 0, .ms 1 6 0 (List.length v0_1), .int .i64 (i0 : Int), .int .i64 q0] ++ zr z 6 46, [(0, ⟨5, 0, true, [.int .i64 0, .int .i64 0, .str eB, .ms 2 5 0 0, .ms 3 6 0 0]⟩), (1, ⟨6, 0, true, (Fld.rows v0_1).flatten⟩), (2, ⟨5, 0, true, []⟩), (3, ⟨6, 0, true, []⟩)], 1092⟩
theorem Qrw (p0 : List Fld) (i0 : Nat) (v0_1 : List Fld) (v1_0 : Int) : VOK (Go.Pv.look (number 0 (Qki p0 i0 v0_1 v1_0))) [(1, Fld.rows v0_1)] := (VOK.cons (show Seen _ _ from Q2f (ob := ⟨6, 0, true, (Fld.rows v0_1).flatten⟩) (Fld.Q7 v0_1 6 rfl)) VOK.nil)
def Qdz (p0 : List Fld) (i0 : Nat) (v0_1 : List Fld) (e : En) (q : Int) : Prop := ∃ z zo, Q6 G e (.st (.exit 2) (Q71 p0 i0 v0_1 q z zo))
theorem Qo2 (p0 : List Fld) (i0 : Nat) (v0_1 : List Fld) {e e' : En} (h : ∀ r, Q6 G e r → Q6 G e' r) : ∀ q, Qdz p0 i0 v0_1 e q → Qdz p0 i0 v0_1 e' q
  | _, ⟨z, zo, hz⟩ => ⟨z, zo, h _ hz⟩
theorem Q11y (p0 : List Fld) (i0 : Nat) (v0_1 : List Fld) (v1_0 : Int) (ho1_0 : 0 ≤ v1_0) (_ho1_1 : v1_0 ≤ (List.length v0_1 : Int)) (ho1_2 : i0 < List.length p0) (ho1_3 : List.length (v0_1 : List Fld) ≤ 137438953472) (h0 : (decide (v1_0 < ((List.length v0_1) : Int))) = true) (h1 : (sLt (List.getD v0_1 (Int.toNat v1_0) zF).name (List.getD p0 i0 zF).name) = true) {r : Rs} (hr : Q6 G (Q7z p0 i0 v0_1 (v1_0 + 1)) r) : Q6 G (Q7z p0 i0 v0_1 v1_0) r := by
 have e0 := of_decide_eq_true h0
 exact Qb (Qrw p0 i0 v0_1 v1_0) (y := (Qt9 p0 i0 v0_1 (v1_0 + 1), Qki p0 i0 v0_1 (v1_0 + 1))) [hB 3 h0, hP 3 (Q2x 1 6 (List.length v0_1) v1_0 (Int.toNat v1_0) rfl (by omega) (by omega)), hP 1 (Q7r 1 6 0 true ((Fld.rows v0_1).flatten) (Fld.rows v0_1) 1 false (Int.toNat v1_0) 0 ((Int.toNat v1_0) * 6) (Fld.cells (List.getD v0_1 (Int.toNat v1_0) zF)) (.str (List.getD v0_1 (Int.toNat v1_0) zF).name) rfl rfl (Fld.Q9 (Q39 v0_1 (Int.toNat v1_0) zF (by omega))) (Fld.Qd v0_1) (by decide) rfl), hP 2 (Q16e 6 (Fld.rows p0) (i0 : Int) _ (by omega) (Fld.Q9 (Q39 p0 (Int.toNat (i0 : Int)) zF (by omega))) rfl), hB 2 h1, hP 2 (w_ok (v1_0 + 1) (by omega))] [] (by kernel_rfl) hr
def Qph (p0 : List Fld) (i0 : Nat) (v0_1 : List Fld) (v1_0 : Int) : List PV :=
  nuns 13 ++ [.int .i64 v1_0, .ms 1 6 0 (List.length v0_1), .int .i64 ((List.length v0_1) : Int), .bool true, .bool true, .ms 1 6 0 (List.length v0_1), .int .i64 v1_0, .bx 1 ((Int.toNat v1_0) * 6), .bx 1 ((Int.toNat v1_0) * 6), .str (List.getD v0_1 (Int.toNat v1_0) zF).name, .sl (Fld.rows p0), .int .i64 (i0 : Int), .rf [.str (List.getD p0 i0 zF).name, .int .i64 (List.getD p0 i0 zF).v.kind, .int .i64 (List.getD p0 i0 zF).v.n, .str (List.getD p0 i0 zF).v.s, .sl (Val.rows (List.getD p0 i0 zF).v.list), .sl (Fld.rows (List.getD p0 i0 zF).v.fields)], .rf [.str (List.getD p0 i0 zF).name, .int .i64 (List.getD p0 i0 zF).v.kind, .int .i64 (List.getD p0 i0 zF).v.n, .str (List.getD p0 i0 zF).v.s, .sl (Val.rows (List.getD p0 i0 zF).v.list), .sl (Fld.rows (List.getD p0 i0 zF).v.fields)], .str (List.getD p0 i0 zF).name, .bool false, .bool false]
def Qi7 (_p0 : List Fld) (_i0 : Nat) (_v0_1 : List Fld) (_v1_0 : Int) : List (Nat × List PV) :=
  []
theorem Q13n (p0 : List Fld) (i0 : Nat) (v0_1 : List Fld) (v1_0 : Int) (ho1_0 : 0 ≤ v1_0) (_ho1_1 : v1_0 ≤ (List.length v0_1 : Int)) (ho1_2 : i0 < List.length p0) (ho1_3 : List.length (v0_1 : List Fld) ≤ 137438953472) (h0 : (decide (v1_0 < ((List.length v0_1) : Int))) = true) (h1 : (sLt (List.getD v0_1 (Int.toNat v1_0) zF).name (List.getD p0 i0 zF).name) = false) : Qdz p0 i0 v0_1 (Q7z p0 i0 v0_1 v1_0) v1_0 := by
 have e0 := of_decide_eq_true h0
 exact ⟨(envF (Qph p0 i0 v0_1 v1_0)), (zoF (Qi7 p0 i0 v0_1 v1_0)), Qh (Qrw p0 i0 v0_1 v1_0) (x := ((.exit 2), Q71 p0 i0 v0_1 v1_0 (envF (Qph p0 i0 v0_1 v1_0)) (zoF (Qi7 p0 i0 v0_1 v1_0)))) [hB 3 h0, hP 3 (Q2x 1 6 (List.length v0_1) v1_0 (Int.toNat v1_0) rfl (by omega) (by omega)), hP 1 (Q7r 1 6 0 true ((Fld.rows v0_1).flatten) (Fld.rows v0_1) 1 false (Int.toNat v1_0) 0 ((Int.toNat v1_0) * 6) (Fld.cells (List.getD v0_1 (Int.toNat v1_0) zF)) (.str (List.getD v0_1 (Int.toNat v1_0) zF).name) rfl rfl (Fld.Q9 (Q39 v0_1 (Int.toNat v1_0) zF (by omega))) (Fld.Qd v0_1) (by decide) rfl), hP 2 (Q16e 6 (Fld.rows p0) (i0 : Int) _ (by omega) (Fld.Q9 (Q39 p0 (Int.toNat (i0 : Int)) zF (by omega))) rfl), hB 2 h1] [] (by kernel_rfl)⟩
def Qpi (_p0 : List Fld) (_i0 : Nat) (v0_1 : List Fld) (v1_0 : Int) : List PV :=
  nuns 13 ++ [.int .i64 v1_0, .ms 1 6 0 (List.length v0_1), .int .i64 ((List.length v0_1) : Int), .bool false, .bool false, .tup [], .tup [], .tup [], .tup [], .tup [], .tup [], .tup [], .tup [], .tup [], .tup [], .tup [], .bool false]
def Qi8 (_p0 : List Fld) (_i0 : Nat) (_v0_1 : List Fld) (_v1_0 : Int) : List (Nat × List PV) :=
  []
theorem Q13o (p0 : List Fld) (i0 : Nat) (v0_1 : List Fld) (v1_0 : Int) (_ho1_0 : 0 ≤ v1_0) (_ho1_1 : v1_0 ≤ (List.length v0_1 : Int)) (_ho1_2 : i0 < List.length p0) (_ho1_3 : List.length (v0_1 : List Fld) ≤ 137438953472) (h0 : (decide (v1_0 < ((List.length v0_1) : Int))) = false) : Qdz p0 i0 v0_1 (Q7z p0 i0 v0_1 v1_0) v1_0 := by
 exact ⟨(envF (Qpi p0 i0 v0_1 v1_0)), (zoF (Qi8 p0 i0 v0_1 v1_0)), Qh (Qrw p0 i0 v0_1 v1_0) (x := ((.exit 2), Q71 p0 i0 v0_1 v1_0 (envF (Qpi p0 i0 v0_1 v1_0)) (zoF (Qi8 p0 i0 v0_1 v1_0)))) [hB 3 h0] [] (by kernel_rfl)⟩
theorem Qvq (p0 : List Fld) (i0 : Nat) (v0_1 : List Fld) : ∀ (k1 : Nat) (v1_0 : Int), 0 ≤ v1_0 → v1_0 ≤ (List.length v0_1 : Int) → i0 < List.length p0 → List.length (v0_1 : List Fld) ≤ 137438953472 → Int.toNat ((List.length v0_1 : Int) - v1_0) < k1 → Qdz p0 i0 v0_1 (Q7z p0 i0 v0_1 v1_0) (Qi p0 i0 v0_1 k1 v1_0)
 | 0, v1_0, _, _, _, _, hm => absurd hm (Nat.not_lt_zero _)
 | k1 + 1, v1_0, ho1_0, ho1_1, ho1_2, ho1_3, hm => by
  rw [Qi]
  cases h0 : (decide (v1_0 < ((List.length v0_1) : Int))) with
  | true =>
   have e0 := of_decide_eq_true h0
   cases h1 : (sLt (List.getD v0_1 (Int.toNat v1_0) zF).name (List.getD p0 i0 zF).name) with
   | true =>
    exact Qo2 p0 i0 v0_1 (fun r hr => Q11y p0 i0 v0_1 v1_0 ho1_0 ho1_1 ho1_2 ho1_3 h0 h1 hr) _ (Qvq p0 i0 v0_1 k1 (v1_0 + 1) (by omega) (by omega) (by omega) (by omega) (by omega))
   | false =>
    exact Q13n p0 i0 v0_1 v1_0 ho1_0 ho1_1 ho1_2 ho1_3 h0 h1
  | false =>
   exact Q13o p0 i0 v0_1 v1_0 ho1_0 ho1_1 ho1_2 ho1_3 h0
theorem Q24 (p0 : List Fld) (i0 : Nat) (v0_1 : List Fld) : ∀ (k1 : Nat) (v1_0 : Int), 0 ≤ v1_0 → v1_0 ≤ (List.length v0_1 : Int) → i0 < List.length p0 → List.length (v0_1 : List Fld) ≤ 137438953472 → Int.toNat ((List.length v0_1 : Int) - v1_0) < k1 → 0 ≤ (Qi p0 i0 v0_1 k1 v1_0) ∧ (Qi p0 i0 v0_1 k1 v1_0) ≤ (List.length v0_1 : Int)
 | 0, v1_0, _, _, _, _, hm => absurd hm (Nat.not_lt_zero _)
 | k1 + 1, v1_0, ho1_0, ho1_1, ho1_2, ho1_3, hm => by
  rw [Qi]
  cases h0 : (decide (v1_0 < ((List.length v0_1) : Int))) with
  | true =>
   have e0 := of_decide_eq_true h0
   cases h1 : (sLt (List.getD v0_1 (Int.toNat v1_0) zF).name (List.getD p0 i0 zF).name) with
   | true =>
    exact Q24 p0 i0 v0_1 k1 (v1_0 + 1) (by omega) (by omega) (by omega) (by omega) (by omega)
   | false =>
    exact (show 0 ≤ v1_0 ∧ v1_0 ≤ (List.length v0_1 : Int) from ⟨(by omega), (by omega)⟩)
  | false =>
   have e0 := of_decide_eq_false h0
   exact (show 0 ≤ v1_0 ∧ v1_0 ≤ (List.length v0_1 : Int) from ⟨(by omega), (by omega)⟩)
def Q6i (p0 : List Fld) : List Fld → Nat → (List Fld) → List Fld
 | [], _i0, v0_1 =>
  v0_1
 | x0 :: r0, i0, v0_1 =>
  bif ((Int.toNat (Qi p0 i0 v0_1 ((Int.toNat ((List.length v0_1 : Int) - 0)) + 1) 0)) == 0) then
   Q6i p0 r0 (i0 + 1) ([x0] ++ (List.take ((List.length v0_1) - (Int.toNat (Qi p0 i0 v0_1 ((Int.toNat ((List.length v0_1 : Int) - 0)) + 1) 0))) (List.drop (Int.toNat (Qi p0 i0 v0_1 ((Int.toNat ((List.length v0_1 : Int) - 0)) + 1) 0)) v0_1)))
  else
   Q6i p0 r0 (i0 + 1) (((List.take (Int.toNat (Qi p0 i0 v0_1 ((Int.toNat ((List.length v0_1 : Int) - 0)) + 1) 0)) v0_1) ++ [x0]) ++ (List.take ((List.length v0_1) - (Int.toNat (Qi p0 i0 v0_1 ((Int.toNat ((List.length v0_1 : Int) - 0)) + 1) 0))) (List.drop (Int.toNat (Qi p0 i0 v0_1 ((Int.toNat ((List.length v0_1 : Int) - 0)) + 1) 0)) v0_1)))
def Qkd (p0 : List Fld) (i0 : Nat) (v0_1 : List Fld) : List PV :=
  [.sl (Fld.rows p0), .un, .bx 0 0, .ms 1 6 0 (List.length v0_1), .int .i64 (i0 : Int)] ++ nuns 47
def Qbi (_p0 : List Fld) (_i0 : Nat) (v0_1 : List Fld) : List Ob :=
  [⟨5, 0, true, [.int .i64 0, .int .i64 0, .str eB, .ms 2 5 0 0, .ms 3 6 0 0]⟩, ⟨6, 0, true, (Fld.rows v0_1).flatten⟩, ⟨5, 0, true, []⟩, ⟨6, 0, true, []⟩]
def Q9m (p0 : List Fld) (i0 : Nat) (v0_1 : List Fld) : En := .loop 0 Ir.Qgq Ir.Q18i (Qkd p0 i0 v0_1) (Qbi p0 i0 v0_1)
def Qoo (_p0 : List Fld) (q0 : List Fld) (z : Nat → PV) (_zo : Nat → List PV) : St :=
  ⟨[z 0, z 1, .bx 0 0, .ms 1 6 0 (List.length q0)] ++ zr z 4 48, [(0, ⟨5, 0, true, [.int .i64 0, .int .i64 0, .str eB, .ms 2 5 0 0, .ms 3 6 0 0]⟩), (1, ⟨6, 0, true, (Fld.rows q0).flatten⟩), (2, ⟨5, 0, true, []⟩), (3, ⟨6, 0, true, []⟩)], 260⟩
theorem Qrv (p0 : List Fld) (i0 : Nat) (v0_1 : List Fld) : VOK (Go.Pv.look (number 0 (Qbi p0 i0 v0_1))) [(1, Fld.rows v0_1)] := (VOK.cons (show Seen _ _ from Q2f (ob := ⟨6, 0, true, (Fld.rows v0_1).flatten⟩) (Fld.Q7 v0_1 6 rfl)) VOK.nil)
def Qlz (p0 : List Fld) (e : En) (q : List Fld) : Prop := ∃ z zo, Q6 G e (.st (.exit 0) (Qoo p0 q z zo))
theorem Qag (p0 : List Fld) {e e' : En} (h : ∀ r, Q6 G e r → Q6 G e' r) : ∀ q, Qlz p0 e q → Qlz p0 e' q
  | _, ⟨z, zo, hz⟩ => ⟨z, zo, h _ hz⟩
def Qda (p0 : List Fld) : Prop := (List.length p0 ≤ 137438953472) ∧ (∀ (i0 : Nat) (v0_1 : List Fld) (x0 : Fld), p0[i0]? = some x0 → List.length v0_1 ≤ i0 → List.length (v0_1 : List Fld) ≤ i0 → ((Int.toNat (Qi p0 i0 v0_1 ((Int.toNat ((List.length v0_1 : Int) - 0)) + 1) 0)) == 0) = false → ((List.length (List.take (Int.toNat (Qi p0 i0 v0_1 ((Int.toNat ((List.length v0_1 : Int) - 0)) + 1) 0)) v0_1)) + 1) * 96 ≤ 140737488355328) ∧ (∀ (i0 : Nat) (v0_1 : List Fld) (x0 : Fld), p0[i0]? = some x0 → List.length v0_1 ≤ i0 → List.length (v0_1 : List Fld) ≤ i0 → ((Int.toNat (Qi p0 i0 v0_1 ((Int.toNat ((List.length v0_1 : Int) - 0)) + 1) 0)) == 0) = true → List.length (([x0] ++ (List.take ((List.length v0_1) - (Int.toNat (Qi p0 i0 v0_1 ((Int.toNat ((List.length v0_1 : Int) - 0)) + 1) 0))) (List.drop (Int.toNat (Qi p0 i0 v0_1 ((Int.toNat ((List.length v0_1 : Int) - 0)) + 1) 0)) v0_1))) : List Fld) ≤ (i0 + 1)) ∧ (∀ (i0 : Nat) (v0_1 : List Fld) (x0 : Fld), p0[i0]? = some x0 → List.length v0_1 ≤ i0 → List.length (v0_1 : List Fld) ≤ i0 → ((Int.toNat (Qi p0 i0 v0_1 ((Int.toNat ((List.length v0_1 : Int) - 0)) + 1) 0)) == 0) = false → List.length ((((List.take (Int.toNat (Qi p0 i0 v0_1 ((Int.toNat ((List.length v0_1 : Int) - 0)) + 1) 0)) v0_1) ++ [x0]) ++ (List.take ((List.length v0_1) - (Int.toNat (Qi p0 i0 v0_1 ((Int.toNat ((List.length v0_1 : Int) - 0)) + 1) 0))) (List.drop (Int.toNat (Qi p0 i0 v0_1 ((Int.toNat ((List.length v0_1 : Int) - 0)) + 1) 0)) v0_1))) : List Fld) ≤ (i0 + 1)) ∧ True
def Qpg (p0 : List Fld) (i0 : Nat) (_v0_1 : List Fld) : List PV :=
  [.sl (Fld.rows p0), .un, .un, .un, .int .i64 (i0 : Int), .un, .un, .int .i64 (i0 : Int), .sl (Fld.rows p0), .int .i64 ((List.length p0) : Int), .bool false]
def Qi6 (_p0 : List Fld) (_i0 : Nat) (_v0_1 : List Fld) : List (Nat × List PV) :=
  []
theorem Q13m (p0 : List Fld) (_H : Qda p0) (i0 : Nat) (v0_1 : List Fld) (_ho0_0 : List.length v0_1 ≤ i0) (_ho0_1 : List.length (v0_1 : List Fld) ≤ i0) (hc0 : (decide ((i0 : Int) < ((List.length p0) : Int))) = false) : Qlz p0 (Q9m p0 i0 v0_1) v0_1 := by
 exact ⟨(envF (Qpg p0 i0 v0_1)), (zoF (Qi6 p0 i0 v0_1)), Qh (Qrv p0 i0 v0_1) (x := ((.exit 0), Qoo p0 v0_1 (envF (Qpg p0 i0 v0_1)) (zoF (Qi6 p0 i0 v0_1)))) [hP 2 (Qn (Fld.rows p0) (List.length p0) (Fld.Q5 p0)), hB 0 hc0] [] (by kernel_rfl)⟩
theorem Q11w (p0 : List Fld) (H : Qda p0) (x0 : Fld) (i0 : Nat) (v0_1 : List Fld) (hx0 : p0[i0]? = some x0) (hi0 : i0 < List.length p0) (ho0_0 : List.length v0_1 ≤ i0) (_ho0_1 : List.length (v0_1 : List Fld) ≤ i0) (hc0 : (decide ((i0 : Int) < ((List.length p0) : Int))) = true) (z0 : Nat → PV) (zo0 : Nat → List PV) (hl0 : Q6 G (Q7z p0 i0 v0_1 0) (.st (.exit 2) (Q71 p0 i0 v0_1 (Qi p0 i0 v0_1 ((Int.toNat ((List.length v0_1 : Int) - 0)) + 1) 0) z0 zo0))) (h0 : ((Int.toNat (Qi p0 i0 v0_1 ((Int.toNat ((List.length v0_1 : Int) - 0)) + 1) 0)) == 0) = true) {r : Rs} (hr : Q6 G (Q9m p0 (i0 + 1) ([x0] ++ (List.take ((List.length v0_1) - (Int.toNat (Qi p0 i0 v0_1 ((Int.toNat ((List.length v0_1 : Int) - 0)) + 1) 0))) (List.drop (Int.toNat (Qi p0 i0 v0_1 ((Int.toNat ((List.length v0_1 : Int) - 0)) + 1) 0)) v0_1)))) r) : Q6 G (Q9m p0 i0 v0_1) r := by
 have hB0 := H.1; have e0 := eq_of_beq h0
 exact Qb (Qrv p0 i0 v0_1) (y := (Qkd p0 (i0 + 1) ([x0] ++ (List.take ((List.length v0_1) - (Int.toNat (Qi p0 i0 v0_1 ((Int.toNat ((List.length v0_1 : Int) - 0)) + 1) 0))) (List.drop (Int.toNat (Qi p0 i0 v0_1 ((Int.toNat ((List.length v0_1 : Int) - 0)) + 1) 0)) v0_1))), Qbi p0 (i0 + 1) ([x0] ++ (List.take ((List.length v0_1) - (Int.toNat (Qi p0 i0 v0_1 ((Int.toNat ((List.length v0_1 : Int) - 0)) + 1) 0))) (List.drop (Int.toNat (Qi p0 i0 v0_1 ((Int.toNat ((List.length v0_1 : Int) - 0)) + 1) 0)) v0_1))))) [hP 2 (Qn (Fld.rows p0) (List.length p0) (Fld.Q5 p0)), hB 0 hc0, hS 0 true (Fld.Q7 v0_1 6 rfl), hP 5 (Qwl 1 6 (List.length v0_1) (Qi p0 i0 v0_1 ((Int.toNat ((List.length v0_1 : Int) - 0)) + 1) 0) (by have g0 := Q24 p0 i0 v0_1 ((Int.toNat ((List.length v0_1 : Int) - 0)) + 1) 0 (by omega) (by omega) (by omega) (by omega) (by omega); omega) (by have g0 := Q24 p0 i0 v0_1 ((Int.toNat ((List.length v0_1 : Int) - 0)) + 1) 0 (by omega) (by omega) (by omega) (by omega) (by omega); omega)), hP 0 (Q14c 1 1412 6 96 0 true (Fld.rows v0_1) 0 (Int.toNat (Qi p0 i0 v0_1 ((Int.toNat ((List.length v0_1 : Int) - 0)) + 1) 0)) (Fld.Qd v0_1) (by rw [Fld.Q5]; exact (by have g0 := Q24 p0 i0 v0_1 ((Int.toNat ((List.length v0_1 : Int) - 0)) + 1) 0 (by omega) (by omega) (by omega) (by omega) (by omega); omega)) (eq_of_beq h0)), hP 4 (Q1f 6 (Fld.rows p0) i0 _ (Fld.Q9 hx0) rfl), hP 7 (Qum 1 6 (List.length v0_1) (Qi p0 i0 v0_1 ((Int.toNat ((List.length v0_1 : Int) - 0)) + 1) 0) (by have g0 := Q24 p0 i0 v0_1 ((Int.toNat ((List.length v0_1 : Int) - 0)) + 1) 0 (by omega) (by omega) (by omega) (by omega) (by omega); omega) (by have g0 := Q24 p0 i0 v0_1 ((Int.toNat ((List.length v0_1 : Int) - 0)) + 1) 0 (by omega) (by omega) (by omega) (by omega) (by omega); omega)), hV 0 [(2308, Fld.rows ([x0] ++ (List.take ((List.length v0_1) - (Int.toNat (Qi p0 i0 v0_1 ((Int.toNat ((List.length v0_1 : Int) - 0)) + 1) 0))) (List.drop (Int.toNat (Qi p0 i0 v0_1 ((Int.toNat ((List.length v0_1 : Int) - 0)) + 1) 0)) v0_1))))] (Qzj 1924 1 2308 6 96 0 [.str x0.name, .int .i64 x0.v.kind, .int .i64 x0.v.n, .str x0.v.s, .sl (Val.rows x0.v.list), .sl (Fld.rows x0.v.fields)] (Fld.rows [x0]) 0 true (Fld.rows v0_1) (Fld.rows ([x0] ++ (List.take ((List.length v0_1) - (Int.toNat (Qi p0 i0 v0_1 ((Int.toNat ((List.length v0_1 : Int) - 0)) + 1) 0))) (List.drop (Int.toNat (Qi p0 i0 v0_1 ((Int.toNat ((List.length v0_1 : Int) - 0)) + 1) 0)) v0_1)))) 1 (Int.toNat (Qi p0 i0 v0_1 ((Int.toNat ((List.length v0_1 : Int) - 0)) + 1) 0)) ((List.length v0_1) - (Int.toNat (Qi p0 i0 v0_1 ((Int.toNat ((List.length v0_1 : Int) - 0)) + 1) 0))) (List.length ([x0] ++ (List.take ((List.length v0_1) - (Int.toNat (Qi p0 i0 v0_1 ((Int.toNat ((List.length v0_1 : Int) - 0)) + 1) 0))) (List.drop (Int.toNat (Qi p0 i0 v0_1 ((Int.toNat ((List.length v0_1 : Int) - 0)) + 1) 0)) v0_1)))) rfl (by simp only [Fld.Q12, Fld.Q1c]; rfl) (Fld.Q5 [x0]).symm (Fld.Q5 ([x0] ++ (List.take ((List.length v0_1) - (Int.toNat (Qi p0 i0 v0_1 ((Int.toNat ((List.length v0_1 : Int) - 0)) + 1) 0))) (List.drop (Int.toNat (Qi p0 i0 v0_1 ((Int.toNat ((List.length v0_1 : Int) - 0)) + 1) 0)) v0_1)))).symm (by rw [Fld.Q2n, Fld.Q21, Fld.Q25]) (Fld.Qd [x0]) (Fld.Qd v0_1) (by rw [Fld.Q5]; exact (by have g0 := Q24 p0 i0 v0_1 ((Int.toNat ((List.length v0_1 : Int) - 0)) + 1) 0 (by omega) (by omega) (by omega) (by omega) (by omega); omega)) (by have g0 := Q24 p0 i0 v0_1 ((Int.toNat ((List.length v0_1 : Int) - 0)) + 1) 0 (by omega) (by omega) (by omega) (by omega) (by omega); omega)), hS 0 true (Fld.Q7 ([x0] ++ (List.take ((List.length v0_1) - (Int.toNat (Qi p0 i0 v0_1 ((Int.toNat ((List.length v0_1 : Int) - 0)) + 1) 0))) (List.drop (Int.toNat (Qi p0 i0 v0_1 ((Int.toNat ((List.length v0_1 : Int) - 0)) + 1) 0)) v0_1))) 6 rfl), hP 4 (Q1b i0 (by omega))] [aV [(1, Fld.rows v0_1)] hl0] (by kernel_rfl) hr
theorem Q11x (p0 : List Fld) (H : Qda p0) (x0 : Fld) (i0 : Nat) (v0_1 : List Fld) (hx0 : p0[i0]? = some x0) (hi0 : i0 < List.length p0) (ho0_0 : List.length v0_1 ≤ i0) (ho0_1 : List.length (v0_1 : List Fld) ≤ i0) (hc0 : (decide ((i0 : Int) < ((List.length p0) : Int))) = true) (z0 : Nat → PV) (zo0 : Nat → List PV) (hl0 : Q6 G (Q7z p0 i0 v0_1 0) (.st (.exit 2) (Q71 p0 i0 v0_1 (Qi p0 i0 v0_1 ((Int.toNat ((List.length v0_1 : Int) - 0)) + 1) 0) z0 zo0))) (h0 : ((Int.toNat (Qi p0 i0 v0_1 ((Int.toNat ((List.length v0_1 : Int) - 0)) + 1) 0)) == 0) = false) {r : Rs} (hr : Q6 G (Q9m p0 (i0 + 1) (((List.take (Int.toNat (Qi p0 i0 v0_1 ((Int.toNat ((List.length v0_1 : Int) - 0)) + 1) 0)) v0_1) ++ [x0]) ++ (List.take ((List.length v0_1) - (Int.toNat (Qi p0 i0 v0_1 ((Int.toNat ((List.length v0_1 : Int) - 0)) + 1) 0))) (List.drop (Int.toNat (Qi p0 i0 v0_1 ((Int.toNat ((List.length v0_1 : Int) - 0)) + 1) 0)) v0_1)))) r) : Q6 G (Q9m p0 i0 v0_1) r := by
 have hB0 := H.1; have e0 := beq_eq_false_iff_ne.1 h0
 exact Qb (Qrv p0 i0 v0_1) (y := (Qkd p0 (i0 + 1) (((List.take (Int.toNat (Qi p0 i0 v0_1 ((Int.toNat ((List.length v0_1 : Int) - 0)) + 1) 0)) v0_1) ++ [x0]) ++ (List.take ((List.length v0_1) - (Int.toNat (Qi p0 i0 v0_1 ((Int.toNat ((List.length v0_1 : Int) - 0)) + 1) 0))) (List.drop (Int.toNat (Qi p0 i0 v0_1 ((Int.toNat ((List.length v0_1 : Int) - 0)) + 1) 0)) v0_1))), Qbi p0 (i0 + 1) (((List.take (Int.toNat (Qi p0 i0 v0_1 ((Int.toNat ((List.length v0_1 : Int) - 0)) + 1) 0)) v0_1) ++ [x0]) ++ (List.take ((List.length v0_1) - (Int.toNat (Qi p0 i0 v0_1 ((Int.toNat ((List.length v0_1 : Int) - 0)) + 1) 0))) (List.drop (Int.toNat (Qi p0 i0 v0_1 ((Int.toNat ((List.length v0_1 : Int) - 0)) + 1) 0)) v0_1))))) [hP 2 (Qn (Fld.rows p0) (List.length p0) (Fld.Q5 p0)), hB 0 hc0, hS 0 true (Fld.Q7 v0_1 6 rfl), hP 5 (Qwl 1 6 (List.length v0_1) (Qi p0 i0 v0_1 ((Int.toNat ((List.length v0_1 : Int) - 0)) + 1) 0) (by have g0 := Q24 p0 i0 v0_1 ((Int.toNat ((List.length v0_1 : Int) - 0)) + 1) 0 (by omega) (by omega) (by omega) (by omega) (by omega); omega) (by have g0 := Q24 p0 i0 v0_1 ((Int.toNat ((List.length v0_1 : Int) - 0)) + 1) 0 (by omega) (by omega) (by omega) (by omega) (by omega); omega)), hV 0 [(1412, Fld.rows (List.take (Int.toNat (Qi p0 i0 v0_1 ((Int.toNat ((List.length v0_1 : Int) - 0)) + 1) 0)) v0_1))] (Q1ag 1 1412 6 96 0 true (Fld.rows v0_1) (Fld.rows (List.take (Int.toNat (Qi p0 i0 v0_1 ((Int.toNat ((List.length v0_1 : Int) - 0)) + 1) 0)) v0_1)) 0 (Int.toNat (Qi p0 i0 v0_1 ((Int.toNat ((List.length v0_1 : Int) - 0)) + 1) 0)) (List.length (List.take (Int.toNat (Qi p0 i0 v0_1 ((Int.toNat ((List.length v0_1 : Int) - 0)) + 1) 0)) v0_1)) (Fld.Qd v0_1) (by rw [Fld.Q5]; exact (by have g0 := Q24 p0 i0 v0_1 ((Int.toNat ((List.length v0_1 : Int) - 0)) + 1) 0 (by omega) (by omega) (by omega) (by omega) (by omega); omega)) (beq_eq_false_iff_ne.1 h0) (by rw [Fld.Q21]; rfl) (by have g0 := Q24 p0 i0 v0_1 ((Int.toNat ((List.length v0_1 : Int) - 0)) + 1) 0 (by omega) (by omega) (by omega) (by omega) (by omega); try simp only [List.length_take]; omega) (by have g0 := Q24 p0 i0 v0_1 ((Int.toNat ((List.length v0_1 : Int) - 0)) + 1) 0 (by omega) (by omega) (by omega) (by omega) (by omega); omega)), hS 0 true (Fld.Q7 (List.take (Int.toNat (Qi p0 i0 v0_1 ((Int.toNat ((List.length v0_1 : Int) - 0)) + 1) 0)) v0_1) 6 rfl), hP 4 (Q1f 6 (Fld.rows p0) i0 _ (Fld.Q9 hx0) rfl), hV 2 [(1924, Fld.rows ((List.take (Int.toNat (Qi p0 i0 v0_1 ((Int.toNat ((List.length v0_1 : Int) - 0)) + 1) 0)) v0_1) ++ [x0]))] (Q2w 1412 1860 1924 6 96 0 0 true (Fld.rows (List.take (Int.toNat (Qi p0 i0 v0_1 ((Int.toNat ((List.length v0_1 : Int) - 0)) + 1) 0)) v0_1)) (Fld.rows ((List.take (Int.toNat (Qi p0 i0 v0_1 ((Int.toNat ((List.length v0_1 : Int) - 0)) + 1) 0)) v0_1) ++ [x0])) (Fld.cells x0) (List.length (List.take (Int.toNat (Qi p0 i0 v0_1 ((Int.toNat ((List.length v0_1 : Int) - 0)) + 1) 0)) v0_1)) (List.length ((List.take (Int.toNat (Qi p0 i0 v0_1 ((Int.toNat ((List.length v0_1 : Int) - 0)) + 1) 0)) v0_1) ++ [x0])) rfl (Fld.Q5 (List.take (Int.toNat (Qi p0 i0 v0_1 ((Int.toNat ((List.length v0_1 : Int) - 0)) + 1) 0)) v0_1)).symm (Fld.Q5 ((List.take (Int.toNat (Qi p0 i0 v0_1 ((Int.toNat ((List.length v0_1 : Int) - 0)) + 1) 0)) v0_1) ++ [x0])).symm (Fld.Qv (List.take (Int.toNat (Qi p0 i0 v0_1 ((Int.toNat ((List.length v0_1 : Int) - 0)) + 1) 0)) v0_1) x0) (Fld.Qd (List.take (Int.toNat (Qi p0 i0 v0_1 ((Int.toNat ((List.length v0_1 : Int) - 0)) + 1) 0)) v0_1)) rfl ((H.2.1 i0 v0_1 x0 hx0 ho0_0 ho0_1) h0)), hS 0 true (Fld.Q7 ((List.take (Int.toNat (Qi p0 i0 v0_1 ((Int.toNat ((List.length v0_1 : Int) - 0)) + 1) 0)) v0_1) ++ [x0]) 6 rfl), hP 4 (Qum 1 6 (List.length v0_1) (Qi p0 i0 v0_1 ((Int.toNat ((List.length v0_1 : Int) - 0)) + 1) 0) (by have g0 := Q24 p0 i0 v0_1 ((Int.toNat ((List.length v0_1 : Int) - 0)) + 1) 0 (by omega) (by omega) (by omega) (by omega) (by omega); omega) (by have g0 := Q24 p0 i0 v0_1 ((Int.toNat ((List.length v0_1 : Int) - 0)) + 1) 0 (by omega) (by omega) (by omega) (by omega) (by omega); omega)), hV 0 [(2308, Fld.rows (((List.take (Int.toNat (Qi p0 i0 v0_1 ((Int.toNat ((List.length v0_1 : Int) - 0)) + 1) 0)) v0_1) ++ [x0]) ++ (List.take ((List.length v0_1) - (Int.toNat (Qi p0 i0 v0_1 ((Int.toNat ((List.length v0_1 : Int) - 0)) + 1) 0))) (List.drop (Int.toNat (Qi p0 i0 v0_1 ((Int.toNat ((List.length v0_1 : Int) - 0)) + 1) 0)) v0_1))))] (Qzj 1924 1 2308 6 96 0 ((Fld.rows ((List.take (Int.toNat (Qi p0 i0 v0_1 ((Int.toNat ((List.length v0_1 : Int) - 0)) + 1) 0)) v0_1) ++ [x0])).flatten) (Fld.rows ((List.take (Int.toNat (Qi p0 i0 v0_1 ((Int.toNat ((List.length v0_1 : Int) - 0)) + 1) 0)) v0_1) ++ [x0])) 0 true (Fld.rows v0_1) (Fld.rows (((List.take (Int.toNat (Qi p0 i0 v0_1 ((Int.toNat ((List.length v0_1 : Int) - 0)) + 1) 0)) v0_1) ++ [x0]) ++ (List.take ((List.length v0_1) - (Int.toNat (Qi p0 i0 v0_1 ((Int.toNat ((List.length v0_1 : Int) - 0)) + 1) 0))) (List.drop (Int.toNat (Qi p0 i0 v0_1 ((Int.toNat ((List.length v0_1 : Int) - 0)) + 1) 0)) v0_1)))) (List.length ((List.take (Int.toNat (Qi p0 i0 v0_1 ((Int.toNat ((List.length v0_1 : Int) - 0)) + 1) 0)) v0_1) ++ [x0])) (Int.toNat (Qi p0 i0 v0_1 ((Int.toNat ((List.length v0_1 : Int) - 0)) + 1) 0)) ((List.length v0_1) - (Int.toNat (Qi p0 i0 v0_1 ((Int.toNat ((List.length v0_1 : Int) - 0)) + 1) 0))) (List.length (((List.take (Int.toNat (Qi p0 i0 v0_1 ((Int.toNat ((List.length v0_1 : Int) - 0)) + 1) 0)) v0_1) ++ [x0]) ++ (List.take ((List.length v0_1) - (Int.toNat (Qi p0 i0 v0_1 ((Int.toNat ((List.length v0_1 : Int) - 0)) + 1) 0))) (List.drop (Int.toNat (Qi p0 i0 v0_1 ((Int.toNat ((List.length v0_1 : Int) - 0)) + 1) 0)) v0_1)))) rfl rfl (Fld.Q5 ((List.take (Int.toNat (Qi p0 i0 v0_1 ((Int.toNat ((List.length v0_1 : Int) - 0)) + 1) 0)) v0_1) ++ [x0])).symm (Fld.Q5 (((List.take (Int.toNat (Qi p0 i0 v0_1 ((Int.toNat ((List.length v0_1 : Int) - 0)) + 1) 0)) v0_1) ++ [x0]) ++ (List.take ((List.length v0_1) - (Int.toNat (Qi p0 i0 v0_1 ((Int.toNat ((List.length v0_1 : Int) - 0)) + 1) 0))) (List.drop (Int.toNat (Qi p0 i0 v0_1 ((Int.toNat ((List.length v0_1 : Int) - 0)) + 1) 0)) v0_1)))).symm (by rw [Fld.Q2n, Fld.Q21, Fld.Q25]) (Fld.Qd ((List.take (Int.toNat (Qi p0 i0 v0_1 ((Int.toNat ((List.length v0_1 : Int) - 0)) + 1) 0)) v0_1) ++ [x0])) (Fld.Qd v0_1) (by rw [Fld.Q5]; exact (by have g0 := Q24 p0 i0 v0_1 ((Int.toNat ((List.length v0_1 : Int) - 0)) + 1) 0 (by omega) (by omega) (by omega) (by omega) (by omega); omega)) (by have g0 := Q24 p0 i0 v0_1 ((Int.toNat ((List.length v0_1 : Int) - 0)) + 1) 0 (by omega) (by omega) (by omega) (by omega) (by omega); try simp only [List.length_append, List.length_cons, List.length_nil, List.length_take]; omega)), hS 0 true (Fld.Q7 (((List.take (Int.toNat (Qi p0 i0 v0_1 ((Int.toNat ((List.length v0_1 : Int) - 0)) + 1) 0)) v0_1) ++ [x0]) ++ (List.take ((List.length v0_1) - (Int.toNat (Qi p0 i0 v0_1 ((Int.toNat ((List.length v0_1 : Int) - 0)) + 1) 0))) (List.drop (Int.toNat (Qi p0 i0 v0_1 ((Int.toNat ((List.length v0_1 : Int) - 0)) + 1) 0)) v0_1))) 6 rfl), hP 4 (Q1b i0 (by omega))] [aV [(1, Fld.rows v0_1)] hl0] (by kernel_rfl) hr
theorem Qmp (p0 : List Fld) (H : Qda p0) : ∀ (r0 : List Fld) (i0 : Nat) (v0_1 : List Fld), List.drop i0 p0 = r0 → List.length v0_1 ≤ i0 → List.length (v0_1 : List Fld) ≤ i0 → Qlz p0 (Q9m p0 i0 v0_1) (Q6i p0 r0 i0 v0_1)
 | [], i0, v0_1, hd, ho0_0, ho0_1 => by
  have hc0 : (decide ((i0 : Int) < ((List.length p0) : Int))) = false := by have := Q10 hd; simp; omega
  rw [Q6i]
  exact Q13m p0 H i0 v0_1 ho0_0 ho0_1 hc0
 | x0 :: r0, i0, v0_1, hd, ho0_0, ho0_1 => by
  obtain ⟨hx0, hi0, hd'⟩ := Qz hd
  have hB0 := H.1
  have hc0 : (decide ((i0 : Int) < ((List.length p0) : Int))) = true := by simp; omega
  rw [Q6i]
  have hl0 := Qvq p0 i0 v0_1 ((Int.toNat ((List.length v0_1 : Int) - 0)) + 1) 0 (by omega) (by omega) (by omega) (by omega) (by omega)
  obtain ⟨z0, zo0, hl0⟩ := hl0
  cases h0 : ((Int.toNat (Qi p0 i0 v0_1 ((Int.toNat ((List.length v0_1 : Int) - 0)) + 1) 0)) == 0) with
  | true =>
   have e0 := eq_of_beq h0
   exact Qag p0 (fun r hr => Q11w p0 H x0 i0 v0_1 hx0 hi0 ho0_0 ho0_1 hc0 z0 zo0 hl0 h0 hr) _ (Qmp p0 H r0 (i0 + 1) ([x0] ++ (List.take ((List.length v0_1) - (Int.toNat (Qi p0 i0 v0_1 ((Int.toNat ((List.length v0_1 : Int) - 0)) + 1) 0))) (List.drop (Int.toNat (Qi p0 i0 v0_1 ((Int.toNat ((List.length v0_1 : Int) - 0)) + 1) 0)) v0_1))) hd' (by first | omega | (simp; omega)) ((H.2.2.1 i0 v0_1 x0 hx0 ho0_0 ho0_1) h0))
  | false =>
   have e0 := beq_eq_false_iff_ne.1 h0
   exact Qag p0 (fun r hr => Q11x p0 H x0 i0 v0_1 hx0 hi0 ho0_0 ho0_1 hc0 z0 zo0 hl0 h0 hr) _ (Qmp p0 H r0 (i0 + 1) (((List.take (Int.toNat (Qi p0 i0 v0_1 ((Int.toNat ((List.length v0_1 : Int) - 0)) + 1) 0)) v0_1) ++ [x0]) ++ (List.take ((List.length v0_1) - (Int.toNat (Qi p0 i0 v0_1 ((Int.toNat ((List.length v0_1 : Int) - 0)) + 1) 0))) (List.drop (Int.toNat (Qi p0 i0 v0_1 ((Int.toNat ((List.length v0_1 : Int) - 0)) + 1) 0)) v0_1))) hd' (by first | omega | (simp; omega)) ((H.2.2.2.1 i0 v0_1 x0 hx0 ho0_0 ho0_1) h0))
def s_Km (p0 : List Fld) : Val :=
 (Val.mk 5 0 eB [] (Q6i p0 p0 0 []))
def c_Km (p0 : List Fld) : En := .call 61 [.sl (Fld.rows p0)] []
def a_Km (p0 : List Fld) : Rs := .ret (.agg (Val.cells (s_Km p0))) []
def H_Km (p0 : List Fld) : Prop := List.length p0 ≤ 20
theorem Q10e (p0 : List Fld) (H : H_Km p0) : (Qda p0) ∧ (List.length ([] : List Fld) ≤ 0) ∧ True := by
  have H' : p0.length ≤ 20 := H
  have hl : ∀ (i : Nat) (x : Fld), p0[i]? = some x → i < 20 := fun i x h => Nat.lt_of_lt_of_le (List.getElem?_eq_some_iff.1 h).1 H'
  refine ⟨⟨by omega, fun i v x hx a _ _ => ?_, fun i v x hx a _ _ => ?_, fun i v x hx a _ _ => ?_, trivial⟩, by simp, trivial⟩ <;>
  · have := hl i x hx
    simp only [List.length_append, List.length_take, List.length_drop, List.length_cons, List.length_nil]
    omega
theorem t_Km (p0 : List Fld) (H : H_Km p0) : Q6 G (c_Km p0) (a_Km p0) := by
 unfold a_Km s_Km
 have hl0 := Qmp p0 ((Q10e p0 H).1) p0 0 [] (by simp) (by simp) ((Q10e p0 H).2.1)
 obtain ⟨z0, zo0, hl0⟩ := hl0
 exact Q8 (fn := Ir.Km) rfl VOK.nil [hS 0 true (Fld.Q7 (Q6i p0 p0 0 []) 6 rfl), hQ (Fld.Q5 (Q6i p0 p0 0 [])).symm] [aV [(1, Fld.rows (Q6i p0 p0 0 []))] hl0] (by kernel_rfl)
def s_Kr (p0 : BA) : Val :=
 (Val.mk 3 0 p0 [] [])
def c_Kr (p0 : BA) : En := .call 67 [.str p0] []
def a_Kr (p0 : BA) : Rs := .ret (.agg (Val.cells (s_Kr p0))) []
theorem t_Kr (p0 : BA) : Q6 G (c_Kr p0) (a_Kr p0) := by
 unfold a_Kr s_Kr
 exact Q8 (fn := Ir.Kr) rfl VOK.nil [] [] (by kernel_rfl)
def s_Kk (p0 : Int) : Val :=
 (Val.mk 2 p0 eB [] [])
def c_Kk (p0 : Int) : En := .call 68 [.int .i64 p0] []
def a_Kk (p0 : Int) : Rs := .ret (.agg (Val.cells (s_Kk p0))) []
theorem t_Kk (p0 : Int) : Q6 G (c_Kk p0) (a_Kk p0) := by
 unfold a_Kk s_Kk
 exact Q8 (fn := Ir.Kk) rfl VOK.nil [] [] (by kernel_rfl)
def Q4z (p0 : List ByteArray) : List ByteArray → Nat → (List Val) → List Val
 | [], _i0, v0_1 =>
  v0_1
 | x0 :: r0, i0, v0_1 =>
  Q4z p0 r0 (i0 + 1) (v0_1 ++ [(s_Kr x0)])
theorem Q117 (p0 : List ByteArray) : ∀ (l : List ByteArray) (i : Nat) (a : List Val), Q4z p0 l i a = a ++ l.map (fun x0 => (s_Kr x0))
  | [], _, _ => by simp [Q4z]
  | x :: r, i, a => by rw [Q4z, Q117 p0 r]; simp
def Qte (p0 : List ByteArray) (i0 : Nat) (v0_1 : List Val) : List PV :=
  [.sl (Qj p0), .un, .bx 0 0, .ms 1 5 0 (List.length v0_1), .int .i64 (i0 : Int)] ++ nuns 16
def Qkn (_p0 : List ByteArray) (_i0 : Nat) (v0_1 : List Val) : List Ob :=
  [⟨5, 0, true, [.int .i64 0, .int .i64 0, .str eB, .ms 2 5 0 0, .ms 3 6 0 0]⟩, ⟨5, 0, true, (Val.rows v0_1).flatten⟩, ⟨5, 0, true, []⟩, ⟨6, 0, true, []⟩]
def Qk9 (p0 : List ByteArray) (i0 : Nat) (v0_1 : List Val) : En := .loop 0 Ir.Qgw Ir.Q18o (Qte p0 i0 v0_1) (Qkn p0 i0 v0_1)
def Qos (_p0 : List ByteArray) (q0 : List Val) (z : Nat → PV) (_zo : Nat → List PV) : St :=
  ⟨[z 0, z 1, .bx 0 0, .ms 1 5 0 (List.length q0)] ++ zr z 4 17, [(0, ⟨5, 0, true, [.int .i64 0, .int .i64 0, .str eB, .ms 2 5 0 0, .ms 3 6 0 0]⟩), (1, ⟨5, 0, true, (Val.rows q0).flatten⟩), (2, ⟨5, 0, true, []⟩), (3, ⟨6, 0, true, []⟩)], 260⟩
theorem Qzd (p0 : List ByteArray) (i0 : Nat) (v0_1 : List Val) : VOK (Go.Pv.look (number 0 (Qkn p0 i0 v0_1))) [(1, Val.rows v0_1)] := (VOK.cons (show Seen _ _ from Q2f (ob := ⟨5, 0, true, (Val.rows v0_1).flatten⟩) (Val.Q7 v0_1 5 rfl)) VOK.nil)
def Qm4 (p0 : List ByteArray) (e : En) (q : List Val) : Prop := ∃ z zo, Q6 G e (.st (.exit 0) (Qos p0 q z zo))
theorem Qo7 (p0 : List ByteArray) {e e' : En} (h : ∀ r, Q6 G e r → Q6 G e' r) : ∀ q, Qm4 p0 e q → Qm4 p0 e' q
  | _, ⟨z, zo, hz⟩ => ⟨z, zo, h _ hz⟩
def Ql5 (p0 : List ByteArray) : Prop := (List.length p0 ≤ 137438953472) ∧ True
def Qpn (p0 : List ByteArray) (i0 : Nat) (_v0_1 : List Val) : List PV :=
  [.sl (Qj p0), .un, .un, .un, .int .i64 (i0 : Int), .int .i64 (i0 : Int), .sl (Qj p0), .int .i64 ((List.length p0) : Int), .bool false]
def Qid (_p0 : List ByteArray) (_i0 : Nat) (_v0_1 : List Val) : List (Nat × List PV) :=
  []
theorem Q13t (p0 : List ByteArray) (_H : Ql5 p0) (i0 : Nat) (v0_1 : List Val) (_ho0_0 : List.length v0_1 ≤ i0) (hc0 : (decide ((i0 : Int) < ((List.length p0) : Int))) = false) : Qm4 p0 (Qk9 p0 i0 v0_1) v0_1 := by
 exact ⟨(envF (Qpn p0 i0 v0_1)), (zoF (Qid p0 i0 v0_1)), Qh (Qzd p0 i0 v0_1) (x := ((.exit 0), Qos p0 v0_1 (envF (Qpn p0 i0 v0_1)) (zoF (Qid p0 i0 v0_1)))) [hP 2 (Qn (Qj p0) (List.length p0) (Q1k p0)), hB 0 hc0] [] (by kernel_rfl)⟩
theorem Q123 (p0 : List ByteArray) (H : Ql5 p0) (x0 : BA) (i0 : Nat) (v0_1 : List Val) (hx0 : p0[i0]? = some x0) (hi0 : i0 < List.length p0) (ho0_0 : List.length v0_1 ≤ i0) (hc0 : (decide ((i0 : Int) < ((List.length p0) : Int))) = true) {r : Rs} (hr : Q6 G (Qk9 p0 (i0 + 1) (v0_1 ++ [(s_Kr x0)])) r) : Q6 G (Qk9 p0 i0 v0_1) r := by
 have hB0 := H.1
 exact Qb (Qzd p0 i0 v0_1) (y := (Qte p0 (i0 + 1) (v0_1 ++ [(s_Kr x0)]), Qkn p0 (i0 + 1) (v0_1 ++ [(s_Kr x0)]))) [hP 2 (Qn (Qj p0) (List.length p0) (Q1k p0)), hB 0 hc0, hP 3 (Q1f 1 (Qj p0) i0 _ (Q7p hx0) rfl), hV 3 [(708, Val.rows (v0_1 ++ [(s_Kr x0)]))] (Q2w 1 644 708 5 80 0 0 true (Val.rows v0_1) (Val.rows (v0_1 ++ [(s_Kr x0)])) (Val.cells (s_Kr x0)) (List.length v0_1) (List.length (v0_1 ++ [(s_Kr x0)])) rfl (Val.Q5 v0_1).symm (Val.Q5 (v0_1 ++ [(s_Kr x0)])).symm (Val.Qv v0_1 (s_Kr x0)) (Val.Qd v0_1) rfl (by omega)), hS 0 true (Val.Q7 (v0_1 ++ [(s_Kr x0)]) 5 rfl), hP 2 (Q1b i0 (by omega))] [aN (t_Kr x0)] (by kernel_rfl) hr
theorem Qvv (p0 : List ByteArray) (H : Ql5 p0) : ∀ (r0 : List ByteArray) (i0 : Nat) (v0_1 : List Val), List.drop i0 p0 = r0 → List.length v0_1 ≤ i0 → Qm4 p0 (Qk9 p0 i0 v0_1) (Q4z p0 r0 i0 v0_1)
 | [], i0, v0_1, hd, ho0_0 => by
  have hc0 : (decide ((i0 : Int) < ((List.length p0) : Int))) = false := by have := Q10 hd; simp; omega
  rw [Q4z]
  exact Q13t p0 H i0 v0_1 ho0_0 hc0
 | x0 :: r0, i0, v0_1, hd, ho0_0 => by
  obtain ⟨hx0, hi0, hd'⟩ := Qz hd
  have hc0 : (decide ((i0 : Int) < ((List.length p0) : Int))) = true := by simp; omega
  rw [Q4z]
  exact Qo7 p0 (fun r hr => Q123 p0 H x0 i0 v0_1 hx0 hi0 ho0_0 hc0 hr) _ (Qvv p0 H r0 (i0 + 1) (v0_1 ++ [(s_Kr x0)]) hd' (by first | omega | (simp; omega)))
def s_Ks (p0 : List ByteArray) : Val := vL (p0.map vS)
theorem e_Ks (p0 : List ByteArray) : s_Ks p0 = ((Val.mk 4 0 eB (Q4z p0 p0 0 []) [])) := by
  rw [Q117]
  kernel_rfl
def c_Ks (p0 : List ByteArray) : En := .call 101 [.sl (Qj p0)] []
def a_Ks (p0 : List ByteArray) : Rs := .ret (.agg (Val.cells (s_Ks p0))) []
def H_Ks (p0 : List ByteArray) : Prop := LSm (fun _ : ByteArray => True) p0
theorem Q17g (p0 : List ByteArray) (H : H_Ks p0) : (Ql5 p0) ∧ True := by
  exact ⟨(by first | exact ⟨Nat.le_trans H.1 (Nat.le_of_ble_eq_true rfl), trivial⟩ | exact ⟨Nat.le_trans H.1 (Nat.le_of_ble_eq_true rfl), H.2, trivial⟩ | exact ⟨Nat.le_trans H.1 (Nat.le_of_ble_eq_true rfl), fun x hx => (H.2 x hx).1, trivial⟩), trivial⟩
theorem t_Ks (p0 : List ByteArray) (H : H_Ks p0) : Q6 G (c_Ks p0) (a_Ks p0) := by
 unfold a_Ks
 rw [e_Ks]
 have hl0 := Qvv p0 ((Q17g p0 H).1) p0 0 [] (by simp) (by simp)
 obtain ⟨z0, zo0, hl0⟩ := hl0
 exact Q8 (fn := Ir.Ks) rfl VOK.nil [hS 0 true (Val.Q7 (Q4z p0 p0 0 []) 5 rfl), hQ (Val.Q5 (Q4z p0 p0 0 [])).symm] [aV [(1, Val.rows (Q4z p0 p0 0 []))] hl0] (by kernel_rfl)
def Q4y (p0 : List Requirement) : List Requirement → Nat → (List Val) → List Val
 | [], _i0, v0_1 =>
  v0_1
 | x0 :: r0, i0, v0_1 =>
  Q4y p0 r0 (i0 + 1) (v0_1 ++ [(s_Km ([(Fld.mk Q1w (s_Kr x0.key)), (Fld.mk Q3g (s_Kk x0.op)), (Fld.mk Qy (s_Ks x0.values))]))])
theorem Q116 (p0 : List Requirement) : ∀ (l : List Requirement) (i : Nat) (a : List Val), Q4y p0 l i a = a ++ l.map (fun x0 => (s_Km ([(Fld.mk Q1w (s_Kr x0.key)), (Fld.mk Q3g (s_Kk x0.op)), (Fld.mk Qy (s_Ks x0.values))])))
  | [], _, _ => by simp [Q4y]
  | x :: r, i, a => by rw [Q4y, Q116 p0 r]; simp
def Qtd (p0 : List Requirement) (i0 : Nat) (v0_1 : List Val) : List PV :=
  [.sl (Requirement.rows p0), .un, .bx 0 0, .ms 1 5 0 (List.length v0_1), .int .i64 (i0 : Int)] ++ nuns 34
def Qkm (_p0 : List Requirement) (_i0 : Nat) (v0_1 : List Val) : List Ob :=
  [⟨5, 0, true, [.int .i64 0, .int .i64 0, .str eB, .ms 2 5 0 0, .ms 3 6 0 0]⟩, ⟨5, 0, true, (Val.rows v0_1).flatten⟩, ⟨5, 0, true, []⟩, ⟨6, 0, true, []⟩]
def Qk8 (p0 : List Requirement) (i0 : Nat) (v0_1 : List Val) : En := .loop 0 Ir.Qgv Ir.Q18n (Qtd p0 i0 v0_1) (Qkm p0 i0 v0_1)
def Qor (_p0 : List Requirement) (q0 : List Val) (z : Nat → PV) (_zo : Nat → List PV) : St :=
  ⟨[z 0, z 1, .bx 0 0, .ms 1 5 0 (List.length q0)] ++ zr z 4 35, [(0, ⟨5, 0, true, [.int .i64 0, .int .i64 0, .str eB, .ms 2 5 0 0, .ms 3 6 0 0]⟩), (1, ⟨5, 0, true, (Val.rows q0).flatten⟩), (2, ⟨5, 0, true, []⟩), (3, ⟨6, 0, true, []⟩)], 260⟩
theorem Qzc (p0 : List Requirement) (i0 : Nat) (v0_1 : List Val) : VOK (Go.Pv.look (number 0 (Qkm p0 i0 v0_1))) [(1, Val.rows v0_1)] := (VOK.cons (show Seen _ _ from Q2f (ob := ⟨5, 0, true, (Val.rows v0_1).flatten⟩) (Val.Q7 v0_1 5 rfl)) VOK.nil)
def Qm3 (p0 : List Requirement) (e : En) (q : List Val) : Prop := ∃ z zo, Q6 G e (.st (.exit 0) (Qor p0 q z zo))
theorem Qo6 (p0 : List Requirement) {e e' : En} (h : ∀ r, Q6 G e r → Q6 G e' r) : ∀ q, Qm3 p0 e q → Qm3 p0 e' q
  | _, ⟨z, zo, hz⟩ => ⟨z, zo, h _ hz⟩
def Ql4 (p0 : List Requirement) : Prop := (List.length p0 ≤ 137438953472) ∧ (∀ x0 ∈ p0, H_Ks x0.values) ∧ True
def Qpm (p0 : List Requirement) (i0 : Nat) (_v0_1 : List Val) : List PV :=
  [.sl (Requirement.rows p0), .un, .un, .un, .int .i64 (i0 : Int), .int .i64 (i0 : Int), .sl (Requirement.rows p0), .int .i64 ((List.length p0) : Int), .bool false]
def Qic (_p0 : List Requirement) (_i0 : Nat) (_v0_1 : List Val) : List (Nat × List PV) :=
  []
theorem Q13s (p0 : List Requirement) (_H : Ql4 p0) (i0 : Nat) (v0_1 : List Val) (_ho0_0 : List.length v0_1 ≤ i0) (hc0 : (decide ((i0 : Int) < ((List.length p0) : Int))) = false) : Qm3 p0 (Qk8 p0 i0 v0_1) v0_1 := by
 exact ⟨(envF (Qpm p0 i0 v0_1)), (zoF (Qic p0 i0 v0_1)), Qh (Qzc p0 i0 v0_1) (x := ((.exit 0), Qor p0 v0_1 (envF (Qpm p0 i0 v0_1)) (zoF (Qic p0 i0 v0_1)))) [hP 2 (Qn (Requirement.rows p0) (List.length p0) (Requirement.Q5 p0)), hB 0 hc0] [] (by kernel_rfl)⟩
theorem Q122 (p0 : List Requirement) (H : Ql4 p0) (x0 : Requirement) (i0 : Nat) (v0_1 : List Val) (hx0 : p0[i0]? = some x0) (hi0 : i0 < List.length p0) (ho0_0 : List.length v0_1 ≤ i0) (hc0 : (decide ((i0 : Int) < ((List.length p0) : Int))) = true) {r : Rs} (hr : Q6 G (Qk8 p0 (i0 + 1) (v0_1 ++ [(s_Km ([(Fld.mk Q1w (s_Kr x0.key)), (Fld.mk Q3g (s_Kk x0.op)), (Fld.mk Qy (s_Ks x0.values))]))])) r) : Q6 G (Qk8 p0 i0 v0_1) r := by
 have hB0 := H.1
 exact Qb (Qzc p0 i0 v0_1) (y := (Qtd p0 (i0 + 1) (v0_1 ++ [(s_Km ([(Fld.mk Q1w (s_Kr x0.key)), (Fld.mk Q3g (s_Kk x0.op)), (Fld.mk Qy (s_Ks x0.values))]))]), Qkm p0 (i0 + 1) (v0_1 ++ [(s_Km ([(Fld.mk Q1w (s_Kr x0.key)), (Fld.mk Q3g (s_Kk x0.op)), (Fld.mk Qy (s_Ks x0.values))]))]))) [hP 2 (Qn (Requirement.rows p0) (List.length p0) (Requirement.Q5 p0)), hB 0 hc0, hP 3 (Q1f 3 (Requirement.rows p0) i0 _ (Requirement.Q9 hx0) rfl), hP 6 (Q1f 3 (Requirement.rows p0) i0 _ (Requirement.Q9 hx0) rfl), hP 6 (Q1f 3 (Requirement.rows p0) i0 _ (Requirement.Q9 hx0) rfl), hV 7 [(1860, Val.rows (v0_1 ++ [(s_Km ([(Fld.mk Q1w (s_Kr x0.key)), (Fld.mk Q3g (s_Kk x0.op)), (Fld.mk Qy (s_Ks x0.values))]))]))] (Q2w 1 1796 1860 5 80 0 0 true (Val.rows v0_1) (Val.rows (v0_1 ++ [(s_Km ([(Fld.mk Q1w (s_Kr x0.key)), (Fld.mk Q3g (s_Kk x0.op)), (Fld.mk Qy (s_Ks x0.values))]))])) (Val.cells (s_Km ([(Fld.mk Q1w (s_Kr x0.key)), (Fld.mk Q3g (s_Kk x0.op)), (Fld.mk Qy (s_Ks x0.values))]))) (List.length v0_1) (List.length (v0_1 ++ [(s_Km ([(Fld.mk Q1w (s_Kr x0.key)), (Fld.mk Q3g (s_Kk x0.op)), (Fld.mk Qy (s_Ks x0.values))]))])) rfl (Val.Q5 v0_1).symm (Val.Q5 (v0_1 ++ [(s_Km ([(Fld.mk Q1w (s_Kr x0.key)), (Fld.mk Q3g (s_Kk x0.op)), (Fld.mk Qy (s_Ks x0.values))]))])).symm (Val.Qv v0_1 (s_Km ([(Fld.mk Q1w (s_Kr x0.key)), (Fld.mk Q3g (s_Kk x0.op)), (Fld.mk Qy (s_Ks x0.values))]))) (Val.Qd v0_1) rfl (by omega)), hS 0 true (Val.Q7 (v0_1 ++ [(s_Km ([(Fld.mk Q1w (s_Kr x0.key)), (Fld.mk Q3g (s_Kk x0.op)), (Fld.mk Qy (s_Ks x0.values))]))]) 5 rfl), hP 2 (Q1b i0 (by omega))] [aN (t_Kr x0.key), aN (t_Kk x0.op), aN (t_Ks x0.values (H.2.1 x0 (Q1q hx0))), aN (Q6x (e' := .call 61 [.sl [(Fld.cells (Fld.mk Q1w (s_Kr x0.key))), (Fld.cells (Fld.mk Q3g (s_Kk x0.op))), (Fld.cells (Fld.mk Qy (s_Ks x0.values)))]] []) (t_Km ([(Fld.mk Q1w (s_Kr x0.key)), (Fld.mk Q3g (s_Kk x0.op)), (Fld.mk Qy (s_Ks x0.values))]) (Nat.le_of_ble_eq_true rfl)) (by simp only [c_Km, Fld.Q12, Fld.Q1c]))] (by kernel_rfl) hr
theorem Qvu (p0 : List Requirement) (H : Ql4 p0) : ∀ (r0 : List Requirement) (i0 : Nat) (v0_1 : List Val), List.drop i0 p0 = r0 → List.length v0_1 ≤ i0 → Qm3 p0 (Qk8 p0 i0 v0_1) (Q4y p0 r0 i0 v0_1)
 | [], i0, v0_1, hd, ho0_0 => by
  have hc0 : (decide ((i0 : Int) < ((List.length p0) : Int))) = false := by have := Q10 hd; simp; omega
  rw [Q4y]
  exact Q13s p0 H i0 v0_1 ho0_0 hc0
 | x0 :: r0, i0, v0_1, hd, ho0_0 => by
  obtain ⟨hx0, hi0, hd'⟩ := Qz hd
  have hc0 : (decide ((i0 : Int) < ((List.length p0) : Int))) = true := by simp; omega
  rw [Q4y]
  exact Qo6 p0 (fun r hr => Q122 p0 H x0 i0 v0_1 hx0 hi0 ho0_0 hc0 hr) _ (Qvu p0 H r0 (i0 + 1) (v0_1 ++ [(s_Km ([(Fld.mk Q1w (s_Kr x0.key)), (Fld.mk Q3g (s_Kk x0.op)), (Fld.mk Qy (s_Ks x0.values))]))]) hd' (by first | omega | (simp; omega)))
def s_Kp (p0 : List Requirement) : Val := vL (p0.map Requirement.enc)
theorem e_Kp (p0 : List Requirement) : s_Kp p0 = ((Val.mk 4 0 eB (Q4y p0 p0 0 []) [])) := by
  rw [Q116]
  kernel_rfl
def c_Kp (p0 : List Requirement) : En := .call 62 [.sl (Requirement.rows p0)] []
def a_Kp (p0 : List Requirement) : Rs := .ret (.agg (Val.cells (s_Kp p0))) []
def H_Kp (p0 : List Requirement) : Prop := LSm Requirement.sm p0
theorem Q17f (p0 : List Requirement) (H : H_Kp p0) : (Ql4 p0) ∧ True := by
  exact ⟨(by first | exact ⟨Nat.le_trans H.1 (Nat.le_of_ble_eq_true rfl), trivial⟩ | exact ⟨Nat.le_trans H.1 (Nat.le_of_ble_eq_true rfl), H.2, trivial⟩ | exact ⟨Nat.le_trans H.1 (Nat.le_of_ble_eq_true rfl), fun x hx => (H.2 x hx).1, trivial⟩), trivial⟩
theorem t_Kp (p0 : List Requirement) (H : H_Kp p0) : Q6 G (c_Kp p0) (a_Kp p0) := by
 unfold a_Kp
 rw [e_Kp]
 have hl0 := Qvu p0 ((Q17f p0 H).1) p0 0 [] (by simp) (by simp)
 obtain ⟨z0, zo0, hl0⟩ := hl0
 exact Q8 (fn := Ir.Kp) rfl VOK.nil [hS 0 true (Val.Q7 (Q4y p0 p0 0 []) 5 rfl), hQ (Val.Q5 (Q4y p0 p0 0 [])).symm] [aV [(1, Val.rows (Q4y p0 p0 0 []))] hl0] (by kernel_rfl)
def Q4x (p0 : List ServicePort) : List ServicePort → Nat → (List Val) → List Val
 | [], _i0, v0_1 =>
  v0_1
 | x0 :: r0, i0, v0_1 =>
  Q4x p0 r0 (i0 + 1) (v0_1 ++ [(s_Km ([(Fld.mk Q1j (s_Kr x0.name)), (Fld.mk Q1l (s_Kk x0.port)), (Fld.mk Q15 (s_Kk x0.target))]))])
theorem Q115 (p0 : List ServicePort) : ∀ (l : List ServicePort) (i : Nat) (a : List Val), Q4x p0 l i a = a ++ l.map (fun x0 => (s_Km ([(Fld.mk Q1j (s_Kr x0.name)), (Fld.mk Q1l (s_Kk x0.port)), (Fld.mk Q15 (s_Kk x0.target))])))
  | [], _, _ => by simp [Q4x]
  | x :: r, i, a => by rw [Q4x, Q115 p0 r]; simp
def Qtc (p0 : List ServicePort) (i0 : Nat) (v0_1 : List Val) : List PV :=
  [.sl (ServicePort.rows p0), .un, .bx 0 0, .ms 1 5 0 (List.length v0_1), .int .i64 (i0 : Int)] ++ nuns 34
def Qkl (_p0 : List ServicePort) (_i0 : Nat) (v0_1 : List Val) : List Ob :=
  [⟨5, 0, true, [.int .i64 0, .int .i64 0, .str eB, .ms 2 5 0 0, .ms 3 6 0 0]⟩, ⟨5, 0, true, (Val.rows v0_1).flatten⟩, ⟨5, 0, true, []⟩, ⟨6, 0, true, []⟩]
def Qk7 (p0 : List ServicePort) (i0 : Nat) (v0_1 : List Val) : En := .loop 0 Ir.Qgu Ir.Q18m (Qtc p0 i0 v0_1) (Qkl p0 i0 v0_1)
def Qoq (_p0 : List ServicePort) (q0 : List Val) (z : Nat → PV) (_zo : Nat → List PV) : St :=
  ⟨[z 0, z 1, .bx 0 0, .ms 1 5 0 (List.length q0)] ++ zr z 4 35, [(0, ⟨5, 0, true, [.int .i64 0, .int .i64 0, .str eB, .ms 2 5 0 0, .ms 3 6 0 0]⟩), (1, ⟨5, 0, true, (Val.rows q0).flatten⟩), (2, ⟨5, 0, true, []⟩), (3, ⟨6, 0, true, []⟩)], 260⟩
theorem Qzb (p0 : List ServicePort) (i0 : Nat) (v0_1 : List Val) : VOK (Go.Pv.look (number 0 (Qkl p0 i0 v0_1))) [(1, Val.rows v0_1)] := (VOK.cons (show Seen _ _ from Q2f (ob := ⟨5, 0, true, (Val.rows v0_1).flatten⟩) (Val.Q7 v0_1 5 rfl)) VOK.nil)
def Qm2 (p0 : List ServicePort) (e : En) (q : List Val) : Prop := ∃ z zo, Q6 G e (.st (.exit 0) (Qoq p0 q z zo))
theorem Qo5 (p0 : List ServicePort) {e e' : En} (h : ∀ r, Q6 G e r → Q6 G e' r) : ∀ q, Qm2 p0 e q → Qm2 p0 e' q
  | _, ⟨z, zo, hz⟩ => ⟨z, zo, h _ hz⟩
def Ql3 (p0 : List ServicePort) : Prop := (List.length p0 ≤ 137438953472) ∧ True
def Qpl (p0 : List ServicePort) (i0 : Nat) (_v0_1 : List Val) : List PV :=
  [.sl (ServicePort.rows p0), .un, .un, .un, .int .i64 (i0 : Int), .int .i64 (i0 : Int), .sl (ServicePort.rows p0), .int .i64 ((List.length p0) : Int), .bool false]
def Qib (_p0 : List ServicePort) (_i0 : Nat) (_v0_1 : List Val) : List (Nat × List PV) :=
  []
theorem Q13r (p0 : List ServicePort) (_H : Ql3 p0) (i0 : Nat) (v0_1 : List Val) (_ho0_0 : List.length v0_1 ≤ i0) (hc0 : (decide ((i0 : Int) < ((List.length p0) : Int))) = false) : Qm2 p0 (Qk7 p0 i0 v0_1) v0_1 := by
 exact ⟨(envF (Qpl p0 i0 v0_1)), (zoF (Qib p0 i0 v0_1)), Qh (Qzb p0 i0 v0_1) (x := ((.exit 0), Qoq p0 v0_1 (envF (Qpl p0 i0 v0_1)) (zoF (Qib p0 i0 v0_1)))) [hP 2 (Qn (ServicePort.rows p0) (List.length p0) (ServicePort.Q5 p0)), hB 0 hc0] [] (by kernel_rfl)⟩
theorem Q121 (p0 : List ServicePort) (H : Ql3 p0) (x0 : ServicePort) (i0 : Nat) (v0_1 : List Val) (hx0 : p0[i0]? = some x0) (hi0 : i0 < List.length p0) (ho0_0 : List.length v0_1 ≤ i0) (hc0 : (decide ((i0 : Int) < ((List.length p0) : Int))) = true) {r : Rs} (hr : Q6 G (Qk7 p0 (i0 + 1) (v0_1 ++ [(s_Km ([(Fld.mk Q1j (s_Kr x0.name)), (Fld.mk Q1l (s_Kk x0.port)), (Fld.mk Q15 (s_Kk x0.target))]))])) r) : Q6 G (Qk7 p0 i0 v0_1) r := by
 have hB0 := H.1
 exact Qb (Qzb p0 i0 v0_1) (y := (Qtc p0 (i0 + 1) (v0_1 ++ [(s_Km ([(Fld.mk Q1j (s_Kr x0.name)), (Fld.mk Q1l (s_Kk x0.port)), (Fld.mk Q15 (s_Kk x0.target))]))]), Qkl p0 (i0 + 1) (v0_1 ++ [(s_Km ([(Fld.mk Q1j (s_Kr x0.name)), (Fld.mk Q1l (s_Kk x0.port)), (Fld.mk Q15 (s_Kk x0.target))]))]))) [hP 2 (Qn (ServicePort.rows p0) (List.length p0) (ServicePort.Q5 p0)), hB 0 hc0, hP 3 (Q1f 3 (ServicePort.rows p0) i0 _ (ServicePort.Q9 hx0) rfl), hP 6 (Q1f 3 (ServicePort.rows p0) i0 _ (ServicePort.Q9 hx0) rfl), hP 6 (Q1f 3 (ServicePort.rows p0) i0 _ (ServicePort.Q9 hx0) rfl), hV 7 [(1860, Val.rows (v0_1 ++ [(s_Km ([(Fld.mk Q1j (s_Kr x0.name)), (Fld.mk Q1l (s_Kk x0.port)), (Fld.mk Q15 (s_Kk x0.target))]))]))] (Q2w 1 1796 1860 5 80 0 0 true (Val.rows v0_1) (Val.rows (v0_1 ++ [(s_Km ([(Fld.mk Q1j (s_Kr x0.name)), (Fld.mk Q1l (s_Kk x0.port)), (Fld.mk Q15 (s_Kk x0.target))]))])) (Val.cells (s_Km ([(Fld.mk Q1j (s_Kr x0.name)), (Fld.mk Q1l (s_Kk x0.port)), (Fld.mk Q15 (s_Kk x0.target))]))) (List.length v0_1) (List.length (v0_1 ++ [(s_Km ([(Fld.mk Q1j (s_Kr x0.name)), (Fld.mk Q1l (s_Kk x0.port)), (Fld.mk Q15 (s_Kk x0.target))]))])) rfl (Val.Q5 v0_1).symm (Val.Q5 (v0_1 ++ [(s_Km ([(Fld.mk Q1j (s_Kr x0.name)), (Fld.mk Q1l (s_Kk x0.port)), (Fld.mk Q15 (s_Kk x0.target))]))])).symm (Val.Qv v0_1 (s_Km ([(Fld.mk Q1j (s_Kr x0.name)), (Fld.mk Q1l (s_Kk x0.port)), (Fld.mk Q15 (s_Kk x0.target))]))) (Val.Qd v0_1) rfl (by omega)), hS 0 true (Val.Q7 (v0_1 ++ [(s_Km ([(Fld.mk Q1j (s_Kr x0.name)), (Fld.mk Q1l (s_Kk x0.port)), (Fld.mk Q15 (s_Kk x0.target))]))]) 5 rfl), hP 2 (Q1b i0 (by omega))] [aN (t_Kr x0.name), aN (t_Kk x0.port), aN (t_Kk x0.target), aN (Q6x (e' := .call 61 [.sl [(Fld.cells (Fld.mk Q1j (s_Kr x0.name))), (Fld.cells (Fld.mk Q1l (s_Kk x0.port))), (Fld.cells (Fld.mk Q15 (s_Kk x0.target)))]] []) (t_Km ([(Fld.mk Q1j (s_Kr x0.name)), (Fld.mk Q1l (s_Kk x0.port)), (Fld.mk Q15 (s_Kk x0.target))]) (Nat.le_of_ble_eq_true rfl)) (by simp only [c_Km, Fld.Q12, Fld.Q1c]))] (by kernel_rfl) hr
theorem Qvt (p0 : List ServicePort) (H : Ql3 p0) : ∀ (r0 : List ServicePort) (i0 : Nat) (v0_1 : List Val), List.drop i0 p0 = r0 → List.length v0_1 ≤ i0 → Qm2 p0 (Qk7 p0 i0 v0_1) (Q4x p0 r0 i0 v0_1)
 | [], i0, v0_1, hd, ho0_0 => by
  have hc0 : (decide ((i0 : Int) < ((List.length p0) : Int))) = false := by have := Q10 hd; simp; omega
  rw [Q4x]
  exact Q13r p0 H i0 v0_1 ho0_0 hc0
 | x0 :: r0, i0, v0_1, hd, ho0_0 => by
  obtain ⟨hx0, hi0, hd'⟩ := Qz hd
  have hc0 : (decide ((i0 : Int) < ((List.length p0) : Int))) = true := by simp; omega
  rw [Q4x]
  exact Qo5 p0 (fun r hr => Q121 p0 H x0 i0 v0_1 hx0 hi0 ho0_0 hc0 hr) _ (Qvt p0 H r0 (i0 + 1) (v0_1 ++ [(s_Km ([(Fld.mk Q1j (s_Kr x0.name)), (Fld.mk Q1l (s_Kk x0.port)), (Fld.mk Q15 (s_Kk x0.target))]))]) hd' (by first | omega | (simp; omega)))
def s_Ko (p0 : List ServicePort) : Val := vL (p0.map ServicePort.enc)
theorem e_Ko (p0 : List ServicePort) : s_Ko p0 = ((Val.mk 4 0 eB (Q4x p0 p0 0 []) [])) := by
  rw [Q115]
  kernel_rfl
def c_Ko (p0 : List ServicePort) : En := .call 63 [.sl (ServicePort.rows p0)] []
def a_Ko (p0 : List ServicePort) : Rs := .ret (.agg (Val.cells (s_Ko p0))) []
def H_Ko (p0 : List ServicePort) : Prop := LSm ServicePort.sm p0
theorem Q17e (p0 : List ServicePort) (H : H_Ko p0) : (Ql3 p0) ∧ True := by
  exact ⟨(by first | exact ⟨Nat.le_trans H.1 (Nat.le_of_ble_eq_true rfl), trivial⟩ | exact ⟨Nat.le_trans H.1 (Nat.le_of_ble_eq_true rfl), H.2, trivial⟩ | exact ⟨Nat.le_trans H.1 (Nat.le_of_ble_eq_true rfl), fun x hx => (H.2 x hx).1, trivial⟩), trivial⟩
theorem t_Ko (p0 : List ServicePort) (H : H_Ko p0) : Q6 G (c_Ko p0) (a_Ko p0) := by
 unfold a_Ko
 rw [e_Ko]
 have hl0 := Qvt p0 ((Q17e p0 H).1) p0 0 [] (by simp) (by simp)
 obtain ⟨z0, zo0, hl0⟩ := hl0
 exact Q8 (fn := Ir.Ko) rfl VOK.nil [hS 0 true (Val.Q7 (Q4x p0 p0 0 []) 5 rfl), hQ (Val.Q5 (Q4x p0 p0 0 [])).symm] [aV [(1, Val.rows (Q4x p0 p0 0 []))] hl0] (by kernel_rfl)
def s_Ki (p0 : Bool) : Val := vB p0
theorem e_Ki (p0 : Bool) : s_Ki p0 = (bif p0 then
    (Val.mk 1 1 eB [] [])
  else
    (Val.mk 1 0 eB [] [])) := by
  cases p0 <;> rfl
def c_Ki (p0 : Bool) : En := .call 64 [.bool p0] []
def a_Ki (p0 : Bool) : Rs := .ret (.agg (Val.cells (s_Ki p0))) []
theorem t_Ki (p0 : Bool) : Q6 G (c_Ki p0) (a_Ki p0) := by
 unfold a_Ki
 rw [e_Ki]
 cases h0 : p0 with
 | true =>
  exact Q8 (fn := Ir.Ki) rfl VOK.nil [] [] (by kernel_rfl)
 | false =>
  exact Q8 (fn := Ir.Ki) rfl VOK.nil [] [] (by kernel_rfl)
def s_Kq (p0 : Service) : Val := Service.encS p0
theorem e_Kq (p0 : Service) : s_Kq p0 = ((s_Km ([(Fld.mk Qg (s_Kp p0.selector)), (Fld.mk Qk (s_Ko p0.ports)), (Fld.mk Q14 (s_Ki p0.sticky))]))) := by
  kernel_rfl
def c_Kq (p0 : Service) : En := .call 17 [.agg (Service.cells p0)] []
def a_Kq (p0 : Service) : Rs := .ret (.agg (Val.cells (s_Kq p0))) []
def H_Kq (p0 : Service) : Prop := Service.sm p0
theorem Q10f (p0 : Service) (H : H_Kq p0) : (H_Kp p0.selector) ∧ (H_Ko p0.ports) ∧ True := by
  exact ⟨(by first | exact True.intro | exact H | exact H.1 | exact H.2.1), (by first | exact True.intro | exact H | exact H.1 | exact H.2.1), trivial⟩
theorem t_Kq (p0 : Service) (H : H_Kq p0) : Q6 G (c_Kq p0) (a_Kq p0) := by
 unfold a_Kq
 rw [e_Kq]
 exact Q8 (fn := Ir.Kq) rfl VOK.nil [] [aN (t_Kp p0.selector (Q10f p0 H).1), aN (t_Ko p0.ports (Q10f p0 H).2.1), aN (t_Ki p0.sticky), aN (Q6x (e' := .call 61 [.sl [(Fld.cells (Fld.mk Qg (s_Kp p0.selector))), (Fld.cells (Fld.mk Qk (s_Ko p0.ports))), (Fld.cells (Fld.mk Q14 (s_Ki p0.sticky)))]] []) (t_Km ([(Fld.mk Qg (s_Kp p0.selector)), (Fld.mk Qk (s_Ko p0.ports)), (Fld.mk Q14 (s_Ki p0.sticky))]) (Nat.le_of_ble_eq_true rfl)) (by simp only [c_Km, Fld.Q12, Fld.Q1c]))] (by kernel_rfl)
def s_K7 (p0 : Int) : Val :=
 (Val.mk 2 p0 eB [] [])
def c_K7 (p0 : Int) : En := .call 19 [.int .i64 p0] []
def a_K7 (p0 : Int) : Rs := .ret (.agg (Val.cells (s_K7 p0))) []
theorem t_K7 (p0 : Int) : Q6 G (c_K7 p0) (a_K7 p0) := by
 unfold a_K7 s_K7
 exact Q8 (fn := Ir.K7) rfl VOK.nil [] [] (by kernel_rfl)
def s_K4 (p0 : Val) : Val := p0
def Q2d (p0 : Val) : List Val → Nat → (List Val) → List Val
 | [], _i0, v0_1 =>
  v0_1
 | x0 :: r0, i0, v0_1 =>
  Q2d p0 r0 (i0 + 1) (v0_1 ++ [x0])
def Qsy (_p0 : Val) (i0 : Nat) (_v0_1 : List Val) : List PV :=
  [.un, .bx 0 0, .bx 1 0, .bx 2 0, .int .i64 (i0 : Int)] ++ nuns 53
def Qke (p0 : Val) (_i0 : Nat) (v0_1 : List Val) : List Ob :=
  [⟨5, 0, true, [.int .i64 p0.kind, .int .i64 p0.n, .str p0.s, .sl (Val.rows p0.list), .sl (Fld.rows p0.fields)]⟩, ⟨5, 0, true, [.int .i64 0, .int .i64 0, .str eB, .ms 3 5 0 0, .ms 4 6 0 0]⟩, ⟨5, 0, true, [.int .i64 p0.kind, .int .i64 p0.n, .str p0.s, .ms 5 5 0 (List.length v0_1), .ms 6 6 0 0]⟩, ⟨5, 0, true, []⟩, ⟨6, 0, true, []⟩, ⟨5, 0, true, (Val.rows v0_1).flatten⟩, ⟨6, 0, true, []⟩]
def Qjx (p0 : Val) (i0 : Nat) (v0_1 : List Val) : En := .loop 0 Ir.Qge Ir.Q186 (Qsy p0 i0 v0_1) (Qke p0 i0 v0_1)
def Qod (p0 : Val) (q0 : List Val) (z : Nat → PV) (_zo : Nat → List PV) : St :=
  ⟨[z 0, .bx 0 0, .bx 1 0, .bx 2 0] ++ zr z 4 54, [(0, ⟨5, 0, true, [.int .i64 p0.kind, .int .i64 p0.n, .str p0.s, .sl (Val.rows p0.list), .sl (Fld.rows p0.fields)]⟩), (1, ⟨5, 0, true, [.int .i64 0, .int .i64 0, .str eB, .ms 3 5 0 0, .ms 4 6 0 0]⟩), (2, ⟨5, 0, true, [.int .i64 p0.kind, .int .i64 p0.n, .str p0.s, .ms 5 5 0 (List.length q0), .ms 6 6 0 0]⟩), (3, ⟨5, 0, true, []⟩), (4, ⟨6, 0, true, []⟩), (5, ⟨5, 0, true, (Val.rows q0).flatten⟩), (6, ⟨6, 0, true, []⟩)], 327⟩
theorem Qz5 (p0 : Val) (i0 : Nat) (v0_1 : List Val) : VOK (Go.Pv.look (number 0 (Qke p0 i0 v0_1))) [(5, Val.rows v0_1)] := (VOK.cons (show Seen _ _ from Q2f (ob := ⟨5, 0, true, (Val.rows v0_1).flatten⟩) (Val.Q7 v0_1 5 rfl)) VOK.nil)
def Qlt (p0 : Val) (e : En) (q : List Val) : Prop := ∃ z zo, Q6 G e (.st (.exit 0) (Qod p0 q z zo))
theorem Qnr (p0 : Val) {e e' : En} (h : ∀ r, Q6 G e r → Q6 G e' r) : ∀ q, Qlt p0 e q → Qlt p0 e' q
  | _, ⟨z, zo, hz⟩ => ⟨z, zo, h _ hz⟩
def Q4v (p0 : Val) : List Fld → Nat → (List Fld) → List Fld
 | [], _i1, v1_1 =>
  v1_1
 | x1 :: r1, i1, v1_1 =>
  Q4v p0 r1 (i1 + 1) (v1_1 ++ [x1])
def Qsz (_p0 : Val) (i1 : Nat) (_v1_1 : List Fld) : List PV :=
  [.un, .bx 0 0, .bx 1 0, .bx 2 0, .un, .int .i64 (i1 : Int)] ++ nuns 52
def Qkf (p0 : Val) (_i1 : Nat) (v1_1 : List Fld) : List Ob :=
  [⟨5, 0, true, [.int .i64 p0.kind, .int .i64 p0.n, .str p0.s, .sl (Val.rows p0.list), .sl (Fld.rows p0.fields)]⟩, ⟨5, 0, true, [.int .i64 0, .int .i64 0, .str eB, .ms 3 5 0 0, .ms 4 6 0 0]⟩, ⟨5, 0, true, [.int .i64 p0.kind, .int .i64 p0.n, .str p0.s, .ms 5 5 0 (List.length (Q2d p0 p0.list 0 [])), .ms 6 6 0 (List.length v1_1)]⟩, ⟨5, 0, true, []⟩, ⟨6, 0, true, []⟩, ⟨5, 0, true, (Val.rows (Q2d p0 p0.list 0 [])).flatten⟩, ⟨6, 0, true, (Fld.rows v1_1).flatten⟩]
def Qjy (p0 : Val) (i1 : Nat) (v1_1 : List Fld) : En := .loop 0 Ir.Qgf Ir.Q187 (Qsz p0 i1 v1_1) (Qkf p0 i1 v1_1)
def Qoe (p0 : Val) (q0 : List Fld) (z : Nat → PV) (_zo : Nat → List PV) : St :=
  ⟨[z 0, z 1, .bx 1 0, .bx 2 0] ++ zr z 4 54, [(0, ⟨5, 0, true, [.int .i64 p0.kind, .int .i64 p0.n, .str p0.s, .sl (Val.rows p0.list), .sl (Fld.rows p0.fields)]⟩), (1, ⟨5, 0, true, [.int .i64 0, .int .i64 0, .str eB, .ms 3 5 0 0, .ms 4 6 0 0]⟩), (2, ⟨5, 0, true, [.int .i64 p0.kind, .int .i64 p0.n, .str p0.s, .ms 5 5 0 (List.length (Q2d p0 p0.list 0 [])), .ms 6 6 0 (List.length q0)]⟩), (3, ⟨5, 0, true, []⟩), (4, ⟨6, 0, true, []⟩), (5, ⟨5, 0, true, (Val.rows (Q2d p0 p0.list 0 [])).flatten⟩), (6, ⟨6, 0, true, (Fld.rows q0).flatten⟩)], 327⟩
theorem Qz6 (p0 : Val) (i1 : Nat) (v1_1 : List Fld) : VOK (Go.Pv.look (number 0 (Qkf p0 i1 v1_1))) [(5, Val.rows (Q2d p0 p0.list 0 [])), (6, Fld.rows v1_1)] := (VOK.cons (show Seen _ _ from Q2f (ob := ⟨5, 0, true, (Val.rows (Q2d p0 p0.list 0 [])).flatten⟩) (Val.Q7 (Q2d p0 p0.list 0 []) 5 rfl)) (VOK.cons (show Seen _ _ from Q2f (ob := ⟨6, 0, true, (Fld.rows v1_1).flatten⟩) (Fld.Q7 v1_1 6 rfl)) VOK.nil))
def Qlu (p0 : Val) (e : En) (q : List Fld) : Prop := ∃ z zo, Q6 G e (.st (.exit 2) (Qoe p0 q z zo))
theorem Qns (p0 : Val) {e e' : En} (h : ∀ r, Q6 G e r → Q6 G e' r) : ∀ q, Qlu p0 e q → Qlu p0 e' q
  | _, ⟨z, zo, hz⟩ => ⟨z, zo, h _ hz⟩
theorem Q1ay (p0 : Val) : ∀ (l : List Val) (i : Nat) (a : List Val), Q2d p0 l i a = a ++ l
  | [], i, a => by rw [Q2d]; simp
  | x :: l, i, a => by rw [Q2d, Q1ay p0 l]; simp
theorem Q1az (p0 : Val) : ∀ (l : List Fld) (i : Nat) (a : List Fld), Q4v p0 l i a = a ++ l
  | [], i, a => by rw [Q4v]; simp
  | x :: l, i, a => by
    rw [Q4v, Q1az p0 l]
    simp
theorem e_K4 (p0 : Val) : s_K4 p0 = ((Val.mk p0.kind p0.n p0.s (Q2d p0 p0.list 0 []) (Q4v p0 p0.fields 0 []))) := by
  rw [Q1ay, Q1az]
  cases p0
  rfl
def c_K4 (p0 : Val) : En := .call 66 [.agg (Val.cells p0)] []
def a_K4 (p0 : Val) : Rs := .ret (.agg (Val.cells (s_K4 p0))) []
abbrev H_K4 (p0 : Val) : Prop := Val.Sm 1000000000 p0
def Qe3 (p0 : Val) : Prop := ∀ (q : Val), SizeOf.sizeOf q < SizeOf.sizeOf p0 → H_K4 q → Q6 G (c_K4 q) (a_K4 q)
def Qks (p0 : Val) : Prop := (List.length p0.list ≤ 137438953472) ∧ (∀ x0 ∈ p0.list, H_K4 x0) ∧ True
def Qkt (p0 : Val) : Prop := (List.length p0.fields ≤ 137438953472) ∧ (∀ x1 ∈ p0.fields, H_K4 x1.v) ∧ True
theorem Q10a (p0 : Val) (H : H_K4 p0) : (Qks p0) ∧ (Qkt p0) ∧ True := by
  obtain ⟨h1, h2, h3, h4⟩ := H.all
  exact ⟨⟨by omega, h3, trivial⟩, ⟨by omega, h4, trivial⟩, trivial⟩
def Qp1 (p0 : Val) (i0 : Nat) (_v0_1 : List Val) : List PV :=
  [.un, .un, .un, .un, .int .i64 (i0 : Int)] ++ nuns 8 ++ [.int .i64 (i0 : Int), .bx 0 3, .sl (Val.rows p0.list), .int .i64 ((List.length p0.list) : Int), .bool false]
def Qhr (_p0 : Val) (_i0 : Nat) (_v0_1 : List Val) : List (Nat × List PV) :=
  []
theorem Q137 (p0 : Val) (_H : Qks p0) (_rec : Qe3 p0) (i0 : Nat) (v0_1 : List Val) (_ho0_0 : List.length v0_1 ≤ i0) (hc0 : (decide ((i0 : Int) < ((List.length p0.list) : Int))) = false) : Qlt p0 (Qjx p0 i0 v0_1) v0_1 := by
 exact ⟨(envF (Qp1 p0 i0 v0_1)), (zoF (Qhr p0 i0 v0_1)), Qh (Qz5 p0 i0 v0_1) (x := ((.exit 0), Qod p0 v0_1 (envF (Qp1 p0 i0 v0_1)) (zoF (Qhr p0 i0 v0_1)))) [hP 3 (Qn (Val.rows p0.list) (List.length p0.list) (Val.Q5 p0.list)), hB 0 hc0] [] (by kernel_rfl)⟩
theorem Q11f (p0 : Val) (H : Qks p0) (rec : Qe3 p0) (x0 : Val) (i0 : Nat) (v0_1 : List Val) (hx0 : p0.list[i0]? = some x0) (hi0 : i0 < List.length p0.list) (ho0_0 : List.length v0_1 ≤ i0) (hc0 : (decide ((i0 : Int) < ((List.length p0.list) : Int))) = true) {r : Rs} (hr : Q6 G (Qjx p0 (i0 + 1) (v0_1 ++ [x0])) r) : Q6 G (Qjx p0 i0 v0_1) r := by
 have hB0 := H.1
 exact Qb (Qz5 p0 i0 v0_1) (y := (Qsy p0 (i0 + 1) (v0_1 ++ [x0]), Qke p0 (i0 + 1) (v0_1 ++ [x0]))) [hP 3 (Qn (Val.rows p0.list) (List.length p0.list) (Val.Q5 p0.list)), hB 0 hc0, hP 5 (Q1f 5 (Val.rows p0.list) i0 _ (Val.Q9 hx0) rfl), hV 3 [(903, Val.rows (v0_1 ++ [x0]))] (Q2w 5 839 903 5 80 0 0 true (Val.rows v0_1) (Val.rows (v0_1 ++ [x0])) (Val.cells x0) (List.length v0_1) (List.length (v0_1 ++ [x0])) rfl (Val.Q5 v0_1).symm (Val.Q5 (v0_1 ++ [x0])).symm (Val.Qv v0_1 x0) (Val.Qd v0_1) rfl (by omega)), hS 0 true (Val.Q7 (v0_1 ++ [x0]) 5 rfl), hP 3 (Q1b i0 (by omega))] [aN (rec x0 (szL hx0) (H.2.1 x0 (Q1q hx0)))] (by kernel_rfl) hr
theorem Qvf (p0 : Val) (H : Qks p0) (rec : Qe3 p0) : ∀ (r0 : List Val) (i0 : Nat) (v0_1 : List Val), List.drop i0 p0.list = r0 → List.length v0_1 ≤ i0 → Qlt p0 (Qjx p0 i0 v0_1) (Q2d p0 r0 i0 v0_1)
 | [], i0, v0_1, hd, ho0_0 => by
  have hc0 : (decide ((i0 : Int) < ((List.length p0.list) : Int))) = false := by have := Q10 hd; simp; omega
  rw [Q2d]
  exact Q137 p0 H rec i0 v0_1 ho0_0 hc0
 | x0 :: r0, i0, v0_1, hd, ho0_0 => by
  obtain ⟨hx0, hi0, hd'⟩ := Qz hd
  have hc0 : (decide ((i0 : Int) < ((List.length p0.list) : Int))) = true := by simp; omega
  rw [Q2d]
  exact Qnr p0 (fun r hr => Q11f p0 H rec x0 i0 v0_1 hx0 hi0 ho0_0 hc0 hr) _ (Qvf p0 H rec r0 (i0 + 1) (v0_1 ++ [x0]) hd' (by first | omega | (simp; omega)))
def Qp2 (p0 : Val) (i1 : Nat) (_v1_1 : List Fld) : List PV :=
  [.un, .bx 0 0, .un, .un, .un, .int .i64 (i1 : Int)] ++ nuns 25 ++ [.int .i64 (i1 : Int), .bx 0 4, .sl (Fld.rows p0.fields), .int .i64 ((List.length p0.fields) : Int), .bool false]
def Qhs (_p0 : Val) (_i1 : Nat) (_v1_1 : List Fld) : List (Nat × List PV) :=
  []
theorem Q138 (p0 : Val) (_H : Qkt p0) (_rec : Qe3 p0) (i1 : Nat) (v1_1 : List Fld) (_ho1_0 : List.length v1_1 ≤ i1) (hc1 : (decide ((i1 : Int) < ((List.length p0.fields) : Int))) = false) : Qlu p0 (Qjy p0 i1 v1_1) v1_1 := by
 exact ⟨(envF (Qp2 p0 i1 v1_1)), (zoF (Qhs p0 i1 v1_1)), Qh (Qz6 p0 i1 v1_1) (x := ((.exit 2), Qoe p0 v1_1 (envF (Qp2 p0 i1 v1_1)) (zoF (Qhs p0 i1 v1_1)))) [hP 3 (Qn (Fld.rows p0.fields) (List.length p0.fields) (Fld.Q5 p0.fields)), hB 0 hc1] [] (by kernel_rfl)⟩
theorem Q11g (p0 : Val) (H : Qkt p0) (rec : Qe3 p0) (x1 : Fld) (i1 : Nat) (v1_1 : List Fld) (hx1 : p0.fields[i1]? = some x1) (hi1 : i1 < List.length p0.fields) (ho1_0 : List.length v1_1 ≤ i1) (hc1 : (decide ((i1 : Int) < ((List.length p0.fields) : Int))) = true) {r : Rs} (hr : Q6 G (Qjy p0 (i1 + 1) (v1_1 ++ [x1])) r) : Q6 G (Qjy p0 i1 v1_1) r := by
 have hB0 := H.1
 exact Qb (Qz6 p0 i1 v1_1) (y := (Qsz p0 (i1 + 1) (v1_1 ++ [x1]), Qkf p0 (i1 + 1) (v1_1 ++ [x1]))) [hP 3 (Qn (Fld.rows p0.fields) (List.length p0.fields) (Fld.Q5 p0.fields)), hB 0 hc1, hP 5 (Q1f 6 (Fld.rows p0.fields) i1 _ (Fld.Q9 hx1) rfl), hP 5 (Q1f 6 (Fld.rows p0.fields) i1 _ (Fld.Q9 hx1) rfl), hV 5 [(1415, Fld.rows (v1_1 ++ [x1]))] (Q2w 6 1351 1415 6 96 0 0 true (Fld.rows v1_1) (Fld.rows (v1_1 ++ [x1])) (Fld.cells x1) (List.length v1_1) (List.length (v1_1 ++ [x1])) rfl (Fld.Q5 v1_1).symm (Fld.Q5 (v1_1 ++ [x1])).symm (Fld.Qv v1_1 x1) (Fld.Qd v1_1) rfl (by omega)), hS 0 true (Fld.Q7 (v1_1 ++ [x1]) 6 rfl), hP 3 (Q1b i1 (by omega))] [aN (rec x1.v (szF hx1) (H.2.1 x1 (Q1q hx1)))] (by kernel_rfl) hr
theorem Qvg (p0 : Val) (H : Qkt p0) (rec : Qe3 p0) : ∀ (r1 : List Fld) (i1 : Nat) (v1_1 : List Fld), List.drop i1 p0.fields = r1 → List.length v1_1 ≤ i1 → Qlu p0 (Qjy p0 i1 v1_1) (Q4v p0 r1 i1 v1_1)
 | [], i1, v1_1, hd, ho1_0 => by
  have hc1 : (decide ((i1 : Int) < ((List.length p0.fields) : Int))) = false := by have := Q10 hd; simp; omega
  rw [Q4v]
  exact Q138 p0 H rec i1 v1_1 ho1_0 hc1
 | x1 :: r1, i1, v1_1, hd, ho1_0 => by
  obtain ⟨hx1, hi1, hd'⟩ := Qz hd
  have hc1 : (decide ((i1 : Int) < ((List.length p0.fields) : Int))) = true := by simp; omega
  rw [Q4v]
  exact Qns p0 (fun r hr => Q11g p0 H rec x1 i1 v1_1 hx1 hi1 ho1_0 hc1 hr) _ (Qvg p0 H rec r1 (i1 + 1) (v1_1 ++ [x1]) hd' (by first | omega | (simp; omega)))
theorem r_K4 (p0 : Val) (H : H_K4 p0) (rec : Qe3 p0) : Q6 G (c_K4 p0) (a_K4 p0) := by
  unfold a_K4
  rw [e_K4]
  have hl0 := Qvf p0 ((Q10a p0 H).1) rec p0.list 0 [] (by simp) (by simp)
  obtain ⟨z0, zo0, hl0⟩ := hl0
  have hl1 := Qvg p0 ((Q10a p0 H).2.1) rec p0.fields 0 [] (by simp) (by simp)
  obtain ⟨z1, zo1, hl1⟩ := hl1
  exact Q8 (fn := Ir.K4) rfl VOK.nil [hS 0 true (Val.Q7 (Q2d p0 p0.list 0 []) 5 rfl), hS 0 true (Val.Q7 (Q2d p0 p0.list 0 []) 5 rfl), hS 0 true (Fld.Q7 (Q4v p0 p0.fields 0 []) 6 rfl), hQ (Val.Q5 (Q2d p0 p0.list 0 [])).symm, hQ (Fld.Q5 (Q4v p0 p0.fields 0 [])).symm] [aV [(5, Val.rows (Q2d p0 p0.list 0 []))] hl0, aV [(5, Val.rows (Q2d p0 p0.list 0 [])), (6, Fld.rows (Q4v p0 p0.fields 0 []))] hl1] (by kernel_rfl)
theorem i_K4 : ∀ (k : Nat) (p0 : Val), SizeOf.sizeOf p0 < k → H_K4 p0 → Q6 G (c_K4 p0) (a_K4 p0)
  | 0, _, h, _ => absurd h (Nat.not_lt_zero _)
  | k + 1, p0, h, H => r_K4 p0 H (fun q hq hH => i_K4 k q (by omega) hH)
theorem t_K4 (p0 : Val) (H : H_K4 p0) : Q6 G (c_K4 p0) (a_K4 p0) := i_K4 _ p0 (Nat.lt_succ_self _) H
def Q1m (p0 : List Fld) (p1 : Fld) : List Fld → Nat → (List Fld) → Bool → (List Fld) × Bool
 | [], _i0, v0_1, v0_2 =>
  (v0_1, v0_2)
 | x0 :: r0, i0, v0_1, v0_2 =>
  bif (v0_2 == true) then
   bif (sEq x0.name p1.name) then
    Q1m p0 p1 r0 (i0 + 1) v0_1 v0_2
   else
    Q1m p0 p1 r0 (i0 + 1) (v0_1 ++ [x0]) v0_2
  else
   bif ((sLt p1.name x0.name) || (sEq p1.name x0.name)) then
    bif (sEq x0.name p1.name) then
     Q1m p0 p1 r0 (i0 + 1) (v0_1 ++ [p1]) true
    else
     Q1m p0 p1 r0 (i0 + 1) ((v0_1 ++ [p1]) ++ [x0]) true
   else
    bif (sEq x0.name p1.name) then
     Q1m p0 p1 r0 (i0 + 1) v0_1 v0_2
    else
     Q1m p0 p1 r0 (i0 + 1) (v0_1 ++ [x0]) v0_2
def Q6b (p0 : List Fld) (_p1 : Fld) (i0 : Nat) (v0_1 : List Fld) (v0_2 : Bool) : List PV :=
  [.sl (Fld.rows p0), .un, .un, .bx 0 0, .un, .ms 1 6 0 (List.length v0_1), .bool v0_2, .int .i64 (i0 : Int)] ++ nuns 44
def Q5h (_p0 : List Fld) (p1 : Fld) (_i0 : Nat) (v0_1 : List Fld) (_v0_2 : Bool) : List Ob :=
  [⟨6, 0, true, [.str p1.name, .int .i64 p1.v.kind, .int .i64 p1.v.n, .str p1.v.s, .sl (Val.rows p1.v.list), .sl (Fld.rows p1.v.fields)]⟩, ⟨6, 0, true, (Fld.rows v0_1).flatten⟩]
def Q3i (p0 : List Fld) (p1 : Fld) (i0 : Nat) (v0_1 : List Fld) (v0_2 : Bool) : En := .loop 0 Ir.Qgj Ir.Q18b (Q6b p0 p1 i0 v0_1 v0_2) (Q5h p0 p1 i0 v0_1 v0_2)
def Qoh (_p0 : List Fld) (p1 : Fld) (q0 : List Fld) (q1 : Bool) (z : Nat → PV) (_zo : Nat → List PV) : St :=
  ⟨[z 0, z 1, z 2, .bx 0 0, z 4, .ms 1 6 0 (List.length q0), .bool q1] ++ zr z 7 45, [(0, ⟨6, 0, true, [.str p1.name, .int .i64 p1.v.kind, .int .i64 p1.v.n, .str p1.v.s, .sl (Val.rows p1.v.list), .sl (Fld.rows p1.v.fields)]⟩), (1, ⟨6, 0, true, (Fld.rows q0).flatten⟩)], 258⟩
theorem Q84 (p0 : List Fld) (p1 : Fld) (i0 : Nat) (v0_1 : List Fld) (v0_2 : Bool) : VOK (Go.Pv.look (number 0 (Q5h p0 p1 i0 v0_1 v0_2))) [(1, Fld.rows v0_1)] := (VOK.cons (show Seen _ _ from Q2f (ob := ⟨6, 0, true, (Fld.rows v0_1).flatten⟩) (Fld.Q7 v0_1 6 rfl)) VOK.nil)
def Qlw (p0 : List Fld) (p1 : Fld) (e : En) (q : (List Fld) × Bool) : Prop := ∃ z zo, Q6 G e (.st (.exit 0) (Qoh p0 p1 q.1 q.2 z zo))
theorem Q3e (p0 : List Fld) (p1 : Fld) {e e' : En} (h : ∀ r, Q6 G e r → Q6 G e' r) : ∀ q, Qlw p0 p1 e q → Qlw p0 p1 e' q
  | _, ⟨z, zo, hz⟩ => ⟨z, zo, h _ hz⟩
def Q6c (p0 : List Fld) (_p1 : Fld) : Prop := (List.length p0 ≤ 137438953472) ∧ True
def Qp9 (p0 : List Fld) (_p1 : Fld) (i0 : Nat) (_v0_1 : List Fld) (_v0_2 : Bool) : List PV :=
  [.sl (Fld.rows p0)] ++ nuns 6 ++ [.int .i64 (i0 : Int), .int .i64 (i0 : Int), .sl (Fld.rows p0), .int .i64 ((List.length p0) : Int), .bool false]
def Qhz (_p0 : List Fld) (_p1 : Fld) (_i0 : Nat) (_v0_1 : List Fld) (_v0_2 : Bool) : List (Nat × List PV) :=
  []
theorem Q13f (p0 : List Fld) (p1 : Fld) (_H : Q6c p0 p1) (i0 : Nat) (v0_1 : List Fld) (v0_2 : Bool) (_ho0_0 : List.length v0_1 ≤ 2 * i0) (hc0 : (decide ((i0 : Int) < ((List.length p0) : Int))) = false) : Qlw p0 p1 (Q3i p0 p1 i0 v0_1 v0_2) (v0_1, v0_2) := by
 exact ⟨(envF (Qp9 p0 p1 i0 v0_1 v0_2)), (zoF (Qhz p0 p1 i0 v0_1 v0_2)), Qh (Q84 p0 p1 i0 v0_1 v0_2) (x := ((.exit 0), Qoh p0 p1 v0_1 v0_2 (envF (Qp9 p0 p1 i0 v0_1 v0_2)) (zoF (Qhz p0 p1 i0 v0_1 v0_2)))) [hP 2 (Qn (Fld.rows p0) (List.length p0) (Fld.Q5 p0)), hB 0 hc0] [] (by kernel_rfl)⟩
theorem Q11k (p0 : List Fld) (p1 : Fld) (H : Q6c p0 p1) (x0 : Fld) (i0 : Nat) (v0_1 : List Fld) (v0_2 : Bool) (hx0 : p0[i0]? = some x0) (hi0 : i0 < List.length p0) (_ho0_0 : List.length v0_1 ≤ 2 * i0) (hc0 : (decide ((i0 : Int) < ((List.length p0) : Int))) = true) (h0 : (v0_2 == true) = true) (h1 : (sEq x0.name p1.name) = true) {r : Rs} (hr : Q6 G (Q3i p0 p1 (i0 + 1) v0_1 v0_2) r) : Q6 G (Q3i p0 p1 i0 v0_1 v0_2) r := by
 have hB0 := H.1
 exact Qb (Q84 p0 p1 i0 v0_1 v0_2) (y := (Q6b p0 p1 (i0 + 1) v0_1 v0_2, Q5h p0 p1 (i0 + 1) v0_1 v0_2)) [hP 2 (Qn (Fld.rows p0) (List.length p0) (Fld.Q5 p0)), hB 0 hc0, hB 0 (beqT h0), hP 13 (Q1f 6 (Fld.rows p0) i0 _ (Fld.Q9 hx0) rfl), hP 4 (dec (!(sEq x0.name p1.name)) false (by rw [h1]; rfl)), hP 1 (Q1b i0 (by omega))] [] (by kernel_rfl) hr
theorem Q11l (p0 : List Fld) (p1 : Fld) (H : Q6c p0 p1) (x0 : Fld) (i0 : Nat) (v0_1 : List Fld) (v0_2 : Bool) (hx0 : p0[i0]? = some x0) (hi0 : i0 < List.length p0) (ho0_0 : List.length v0_1 ≤ 2 * i0) (hc0 : (decide ((i0 : Int) < ((List.length p0) : Int))) = true) (h0 : (v0_2 == true) = true) (h1 : (sEq x0.name p1.name) = false) {r : Rs} (hr : Q6 G (Q3i p0 p1 (i0 + 1) (v0_1 ++ [x0]) v0_2) r) : Q6 G (Q3i p0 p1 i0 v0_1 v0_2) r := by
 have hB0 := H.1
 exact Qb (Q84 p0 p1 i0 v0_1 v0_2) (y := (Q6b p0 p1 (i0 + 1) (v0_1 ++ [x0]) v0_2, Q5h p0 p1 (i0 + 1) (v0_1 ++ [x0]) v0_2)) [hP 2 (Qn (Fld.rows p0) (List.length p0) (Fld.Q5 p0)), hB 0 hc0, hB 0 (beqT h0), hP 13 (Q1f 6 (Fld.rows p0) i0 _ (Fld.Q9 hx0) rfl), hP 4 (dec (!(sEq x0.name p1.name)) true (by rw [h1]; rfl)), hP 3 (Q1f 6 (Fld.rows p0) i0 _ (Fld.Q9 hx0) rfl), hV 2 [(1922, Fld.rows (v0_1 ++ [x0]))] (Q2w 1 1858 1922 6 96 0 0 true (Fld.rows v0_1) (Fld.rows (v0_1 ++ [x0])) (Fld.cells x0) (List.length v0_1) (List.length (v0_1 ++ [x0])) rfl (Fld.Q5 v0_1).symm (Fld.Q5 (v0_1 ++ [x0])).symm (Fld.Qv v0_1 x0) (Fld.Qd v0_1) rfl (by omega)), hS 0 true (Fld.Q7 (v0_1 ++ [x0]) 6 rfl), hP 2 (Q1b i0 (by omega))] [] (by kernel_rfl) hr
theorem Q11m (p0 : List Fld) (p1 : Fld) (H : Q6c p0 p1) (x0 : Fld) (i0 : Nat) (v0_1 : List Fld) (v0_2 : Bool) (hx0 : p0[i0]? = some x0) (hi0 : i0 < List.length p0) (ho0_0 : List.length v0_1 ≤ 2 * i0) (hc0 : (decide ((i0 : Int) < ((List.length p0) : Int))) = true) (h0 : (v0_2 == true) = false) (h1 : ((sLt p1.name x0.name) || (sEq p1.name x0.name)) = true) (h2 : (sEq x0.name p1.name) = true) {r : Rs} (hr : Q6 G (Q3i p0 p1 (i0 + 1) (v0_1 ++ [p1]) true) r) : Q6 G (Q3i p0 p1 i0 v0_1 v0_2) r := by
 have hB0 := H.1
 exact Qb (Q84 p0 p1 i0 v0_1 v0_2) (y := (Q6b p0 p1 (i0 + 1) (v0_1 ++ [p1]) true, Q5h p0 p1 (i0 + 1) (v0_1 ++ [p1]) true)) [hP 2 (Qn (Fld.rows p0) (List.length p0) (Fld.Q5 p0)), hB 0 hc0, hB 0 (beqT h0), hP 6 (Q1f 6 (Fld.rows p0) i0 _ (Fld.Q9 hx0) rfl), hB 2 h1, hV 4 [(1218, Fld.rows (v0_1 ++ [p1]))] (Q2w 1 1154 1218 6 96 0 0 true (Fld.rows v0_1) (Fld.rows (v0_1 ++ [p1])) (Fld.cells p1) (List.length v0_1) (List.length (v0_1 ++ [p1])) rfl (Fld.Q5 v0_1).symm (Fld.Q5 (v0_1 ++ [p1])).symm (Fld.Qv v0_1 p1) (Fld.Qd v0_1) rfl (by omega)), hS 0 true (Fld.Q7 (v0_1 ++ [p1]) 6 rfl), hP 4 (Q1f 6 (Fld.rows p0) i0 _ (Fld.Q9 hx0) rfl), hP 4 (dec (!(sEq x0.name p1.name)) false (by rw [h2]; rfl)), hP 1 (Q1b i0 (by omega))] [] (by kernel_rfl) hr
theorem Q11n (p0 : List Fld) (p1 : Fld) (H : Q6c p0 p1) (x0 : Fld) (i0 : Nat) (v0_1 : List Fld) (v0_2 : Bool) (hx0 : p0[i0]? = some x0) (hi0 : i0 < List.length p0) (ho0_0 : List.length v0_1 ≤ 2 * i0) (hc0 : (decide ((i0 : Int) < ((List.length p0) : Int))) = true) (h0 : (v0_2 == true) = false) (h1 : ((sLt p1.name x0.name) || (sEq p1.name x0.name)) = true) (h2 : (sEq x0.name p1.name) = false) {r : Rs} (hr : Q6 G (Q3i p0 p1 (i0 + 1) ((v0_1 ++ [p1]) ++ [x0]) true) r) : Q6 G (Q3i p0 p1 i0 v0_1 v0_2) r := by
 have hB0 := H.1
 exact Qb (Q84 p0 p1 i0 v0_1 v0_2) (y := (Q6b p0 p1 (i0 + 1) ((v0_1 ++ [p1]) ++ [x0]) true, Q5h p0 p1 (i0 + 1) ((v0_1 ++ [p1]) ++ [x0]) true)) [hP 2 (Qn (Fld.rows p0) (List.length p0) (Fld.Q5 p0)), hB 0 hc0, hB 0 (beqT h0), hP 6 (Q1f 6 (Fld.rows p0) i0 _ (Fld.Q9 hx0) rfl), hB 2 h1, hV 4 [(1218, Fld.rows (v0_1 ++ [p1]))] (Q2w 1 1154 1218 6 96 0 0 true (Fld.rows v0_1) (Fld.rows (v0_1 ++ [p1])) (Fld.cells p1) (List.length v0_1) (List.length (v0_1 ++ [p1])) rfl (Fld.Q5 v0_1).symm (Fld.Q5 (v0_1 ++ [p1])).symm (Fld.Qv v0_1 p1) (Fld.Qd v0_1) rfl (by omega)), hS 0 true (Fld.Q7 (v0_1 ++ [p1]) 6 rfl), hP 4 (Q1f 6 (Fld.rows p0) i0 _ (Fld.Q9 hx0) rfl), hP 4 (dec (!(sEq x0.name p1.name)) true (by rw [h2]; rfl)), hP 3 (Q1f 6 (Fld.rows p0) i0 _ (Fld.Q9 hx0) rfl), hV 2 [(2306, Fld.rows ((v0_1 ++ [p1]) ++ [x0]))] (Q2w 1218 2242 2306 6 96 0 0 true (Fld.rows (v0_1 ++ [p1])) (Fld.rows ((v0_1 ++ [p1]) ++ [x0])) (Fld.cells x0) (List.length (v0_1 ++ [p1])) (List.length ((v0_1 ++ [p1]) ++ [x0])) rfl (Fld.Q5 (v0_1 ++ [p1])).symm (Fld.Q5 ((v0_1 ++ [p1]) ++ [x0])).symm (Fld.Qv (v0_1 ++ [p1]) x0) (Fld.Qd (v0_1 ++ [p1])) rfl (by try simp only [List.length_append, List.length_cons, List.length_nil]; omega)), hS 0 true (Fld.Q7 ((v0_1 ++ [p1]) ++ [x0]) 6 rfl), hP 2 (Q1b i0 (by omega))] [] (by kernel_rfl) hr
theorem Q11o (p0 : List Fld) (p1 : Fld) (H : Q6c p0 p1) (x0 : Fld) (i0 : Nat) (v0_1 : List Fld) (v0_2 : Bool) (hx0 : p0[i0]? = some x0) (hi0 : i0 < List.length p0) (_ho0_0 : List.length v0_1 ≤ 2 * i0) (hc0 : (decide ((i0 : Int) < ((List.length p0) : Int))) = true) (h0 : (v0_2 == true) = false) (h1 : ((sLt p1.name x0.name) || (sEq p1.name x0.name)) = false) (h2 : (sEq x0.name p1.name) = true) {r : Rs} (hr : Q6 G (Q3i p0 p1 (i0 + 1) v0_1 v0_2) r) : Q6 G (Q3i p0 p1 i0 v0_1 v0_2) r := by
 have hB0 := H.1
 exact Qb (Q84 p0 p1 i0 v0_1 v0_2) (y := (Q6b p0 p1 (i0 + 1) v0_1 v0_2, Q5h p0 p1 (i0 + 1) v0_1 v0_2)) [hP 2 (Qn (Fld.rows p0) (List.length p0) (Fld.Q5 p0)), hB 0 hc0, hB 0 (beqT h0), hP 6 (Q1f 6 (Fld.rows p0) i0 _ (Fld.Q9 hx0) rfl), hB 2 h1, hP 3 (Q1f 6 (Fld.rows p0) i0 _ (Fld.Q9 hx0) rfl), hP 4 (dec (!(sEq x0.name p1.name)) false (by rw [h2]; rfl)), hP 1 (Q1b i0 (by omega))] [] (by kernel_rfl) hr
theorem Q11p (p0 : List Fld) (p1 : Fld) (H : Q6c p0 p1) (x0 : Fld) (i0 : Nat) (v0_1 : List Fld) (v0_2 : Bool) (hx0 : p0[i0]? = some x0) (hi0 : i0 < List.length p0) (ho0_0 : List.length v0_1 ≤ 2 * i0) (hc0 : (decide ((i0 : Int) < ((List.length p0) : Int))) = true) (h0 : (v0_2 == true) = false) (h1 : ((sLt p1.name x0.name) || (sEq p1.name x0.name)) = false) (h2 : (sEq x0.name p1.name) = false) {r : Rs} (hr : Q6 G (Q3i p0 p1 (i0 + 1) (v0_1 ++ [x0]) v0_2) r) : Q6 G (Q3i p0 p1 i0 v0_1 v0_2) r := by
 have hB0 := H.1
 exact Qb (Q84 p0 p1 i0 v0_1 v0_2) (y := (Q6b p0 p1 (i0 + 1) (v0_1 ++ [x0]) v0_2, Q5h p0 p1 (i0 + 1) (v0_1 ++ [x0]) v0_2)) [hP 2 (Qn (Fld.rows p0) (List.length p0) (Fld.Q5 p0)), hB 0 hc0, hB 0 (beqT h0), hP 6 (Q1f 6 (Fld.rows p0) i0 _ (Fld.Q9 hx0) rfl), hB 2 h1, hP 3 (Q1f 6 (Fld.rows p0) i0 _ (Fld.Q9 hx0) rfl), hP 4 (dec (!(sEq x0.name p1.name)) true (by rw [h2]; rfl)), hP 3 (Q1f 6 (Fld.rows p0) i0 _ (Fld.Q9 hx0) rfl), hV 2 [(1922, Fld.rows (v0_1 ++ [x0]))] (Q2w 1 1858 1922 6 96 0 0 true (Fld.rows v0_1) (Fld.rows (v0_1 ++ [x0])) (Fld.cells x0) (List.length v0_1) (List.length (v0_1 ++ [x0])) rfl (Fld.Q5 v0_1).symm (Fld.Q5 (v0_1 ++ [x0])).symm (Fld.Qv v0_1 x0) (Fld.Qd v0_1) rfl (by omega)), hS 0 true (Fld.Q7 (v0_1 ++ [x0]) 6 rfl), hP 2 (Q1b i0 (by omega))] [] (by kernel_rfl) hr
theorem Q6j (p0 : List Fld) (p1 : Fld) (H : Q6c p0 p1) : ∀ (r0 : List Fld) (i0 : Nat) (v0_1 : List Fld) (v0_2 : Bool), List.drop i0 p0 = r0 → List.length v0_1 ≤ 2 * i0 → Qlw p0 p1 (Q3i p0 p1 i0 v0_1 v0_2) (Q1m p0 p1 r0 i0 v0_1 v0_2)
 | [], i0, v0_1, v0_2, hd, ho0_0 => by
  have hc0 : (decide ((i0 : Int) < ((List.length p0) : Int))) = false := by have := Q10 hd; simp; omega
  rw [Q1m]
  exact Q13f p0 p1 H i0 v0_1 v0_2 ho0_0 hc0
 | x0 :: r0, i0, v0_1, v0_2, hd, ho0_0 => by
  obtain ⟨hx0, hi0, hd'⟩ := Qz hd
  have hc0 : (decide ((i0 : Int) < ((List.length p0) : Int))) = true := by simp; omega
  rw [Q1m]
  cases h0 : (v0_2 == true) with
  | true =>
   cases h1 : (sEq x0.name p1.name) with
   | true =>
    exact Q3e p0 p1 (fun r hr => Q11k p0 p1 H x0 i0 v0_1 v0_2 hx0 hi0 ho0_0 hc0 h0 h1 hr) _ (Q6j p0 p1 H r0 (i0 + 1) v0_1 v0_2 hd' (by first | omega | (simp; omega)))
   | false =>
    exact Q3e p0 p1 (fun r hr => Q11l p0 p1 H x0 i0 v0_1 v0_2 hx0 hi0 ho0_0 hc0 h0 h1 hr) _ (Q6j p0 p1 H r0 (i0 + 1) (v0_1 ++ [x0]) v0_2 hd' (by first | omega | (simp; omega)))
  | false =>
   cases h1 : ((sLt p1.name x0.name) || (sEq p1.name x0.name)) with
   | true =>
    cases h2 : (sEq x0.name p1.name) with
    | true =>
     exact Q3e p0 p1 (fun r hr => Q11m p0 p1 H x0 i0 v0_1 v0_2 hx0 hi0 ho0_0 hc0 h0 h1 h2 hr) _ (Q6j p0 p1 H r0 (i0 + 1) (v0_1 ++ [p1]) true hd' (by first | omega | (simp; omega)))
    | false =>
     exact Q3e p0 p1 (fun r hr => Q11n p0 p1 H x0 i0 v0_1 v0_2 hx0 hi0 ho0_0 hc0 h0 h1 h2 hr) _ (Q6j p0 p1 H r0 (i0 + 1) ((v0_1 ++ [p1]) ++ [x0]) true hd' (by first | omega | (simp; omega)))
   | false =>
    cases h2 : (sEq x0.name p1.name) with
    | true =>
     exact Q3e p0 p1 (fun r hr => Q11o p0 p1 H x0 i0 v0_1 v0_2 hx0 hi0 ho0_0 hc0 h0 h1 h2 hr) _ (Q6j p0 p1 H r0 (i0 + 1) v0_1 v0_2 hd' (by first | omega | (simp; omega)))
    | false =>
     exact Q3e p0 p1 (fun r hr => Q11p p0 p1 H x0 i0 v0_1 v0_2 hx0 hi0 ho0_0 hc0 h0 h1 h2 hr) _ (Q6j p0 p1 H r0 (i0 + 1) (v0_1 ++ [x0]) v0_2 hd' (by first | omega | (simp; omega)))
def s_Kc (p0 : List Fld) (p1 : Fld) : List Fld :=
 bif (Q1m p0 p1 p0 0 [] false).2 then
  (Q1m p0 p1 p0 0 [] false).1
 else
  ((Q1m p0 p1 p0 0 [] false).1 ++ [p1])
def c_Kc (p0 : List Fld) (p1 : Fld) : En := .call 65 [.sl (Fld.rows p0), .agg (Fld.cells p1)] []
def a_Kc (p0 : List Fld) (p1 : Fld) : Rs := .ret (.sl (Fld.rows (s_Kc p0 p1))) []
def H_Kc (p0 : List Fld) (p1 : Fld) : Prop := (Q6c p0 p1) ∧ ((Q1m p0 p1 p0 0 [] false).2 = false → ((List.length (Q1m p0 p1 p0 0 [] false).1) + 1) * 96 ≤ 140737488355328) ∧ True
theorem t_Kc (p0 : List Fld) (p1 : Fld) (H : H_Kc p0 p1) : Q6 G (c_Kc p0 p1) (a_Kc p0 p1) := by
 unfold a_Kc s_Kc
 have hl0 := Q6j p0 p1 (H.1) p0 0 [] false (by simp) (by simp)
 obtain ⟨z0, zo0, hl0⟩ := hl0
 cases h0 : (Q1m p0 p1 p0 0 [] false).2 with
 | true =>
  exact Q8 (fn := Ir.Kc) rfl VOK.nil [hS 0 true (Fld.Q7 (Q1m p0 p1 p0 0 [] false).1 6 rfl), hB 5 h0, hQ (Fld.Q5 (Q1m p0 p1 p0 0 [] false).1).symm] [aV [(1, Fld.rows (Q1m p0 p1 p0 0 [] false).1)] hl0] (by kernel_rfl)
 | false =>
  exact Q8 (fn := Ir.Kc) rfl VOK.nil [hS 0 true (Fld.Q7 (Q1m p0 p1 p0 0 [] false).1 6 rfl), hB 5 h0, hV 4 [(578, Fld.rows ((Q1m p0 p1 p0 0 [] false).1 ++ [p1]))] (Q2w 1 514 578 6 96 0 0 true (Fld.rows (Q1m p0 p1 p0 0 [] false).1) (Fld.rows ((Q1m p0 p1 p0 0 [] false).1 ++ [p1])) (Fld.cells p1) (List.length (Q1m p0 p1 p0 0 [] false).1) (List.length ((Q1m p0 p1 p0 0 [] false).1 ++ [p1])) rfl (Fld.Q5 (Q1m p0 p1 p0 0 [] false).1).symm (Fld.Q5 ((Q1m p0 p1 p0 0 [] false).1 ++ [p1])).symm (Fld.Qv (Q1m p0 p1 p0 0 [] false).1 p1) (Fld.Qd (Q1m p0 p1 p0 0 [] false).1) rfl (H.2.1 h0)), hS 0 true (Fld.Q7 ((Q1m p0 p1 p0 0 [] false).1 ++ [p1]) 6 rfl), hQ (Fld.Q5 ((Q1m p0 p1 p0 0 [] false).1 ++ [p1])).symm] [aV [(1, Fld.rows (Q1m p0 p1 p0 0 [] false).1)] hl0] (by kernel_rfl)
def Qf9 (p0 : List Fld) : List Fld → Nat → Val → Val
 | [], _i0, v0_1 =>
  v0_1
 | x0 :: r0, i0, v0_1 =>
  Qf9 p0 r0 (i0 + 1) (Val.mk v0_1.kind v0_1.n v0_1.s v0_1.list (s_Kc v0_1.fields x0))
def Qt0 (p0 : List Fld) (i0 : Nat) (_v0_1 : Val) : List PV :=
  [.sl (Fld.rows p0), .un, .bx 0 0, .bx 1 0, .int .i64 (i0 : Int)] ++ nuns 24
def Qtl (_p0 : List Fld) (_i0 : Nat) (v0_1 : Val) : List Ob :=
  [⟨5, 0, true, [.int .i64 0, .int .i64 0, .str eB, .sl [], .sl []]⟩, ⟨5, 0, true, [.int .i64 v0_1.kind, .int .i64 v0_1.n, .str v0_1.s, .sl (Val.rows v0_1.list), .sl (Fld.rows v0_1.fields)]⟩]
def Qjz (p0 : List Fld) (i0 : Nat) (v0_1 : Val) : En := .loop 0 Ir.Qgg Ir.Q188 (Qt0 p0 i0 v0_1) (Qtl p0 i0 v0_1)
def Qof (_p0 : List Fld) (q0 : Val) (z : Nat → PV) (_zo : Nat → List PV) : St :=
  ⟨[z 0, z 1, .bx 0 0, .bx 1 0] ++ zr z 4 25, [(0, ⟨5, 0, true, [.int .i64 0, .int .i64 0, .str eB, .sl [], .sl []]⟩), (1, ⟨5, 0, true, [.int .i64 q0.kind, .int .i64 q0.n, .str q0.s, .sl (Val.rows q0.list), .sl (Fld.rows q0.fields)]⟩)], 258⟩
def Qlv (p0 : List Fld) (e : En) (q : Val) : Prop := ∃ z zo, Q6 G e (.st (.exit 0) (Qof p0 q z zo))
theorem Qnt (p0 : List Fld) {e e' : En} (h : ∀ r, Q6 G e r → Q6 G e' r) : ∀ q, Qlv p0 e q → Qlv p0 e' q
  | _, ⟨z, zo, hz⟩ => ⟨z, zo, h _ hz⟩
def Qku (p0 : List Fld) : Prop := (List.length p0 ≤ 137438953472) ∧ (∀ x0 ∈ p0, H_K4 x0.v) ∧ (∀ (i0 : Nat) (v0_1 : Val) (x0 : Fld), p0[i0]? = some x0 → List.length v0_1.fields ≤ i0 → H_Kc v0_1.fields x0) ∧ (∀ (i0 : Nat) (v0_1 : Val) (x0 : Fld), p0[i0]? = some x0 → List.length v0_1.fields ≤ i0 → List.length (Val.mk v0_1.kind v0_1.n v0_1.s v0_1.list (s_Kc v0_1.fields x0)).fields ≤ (i0 + 1)) ∧ True
def Qp3 (p0 : List Fld) (i0 : Nat) (_v0_1 : Val) : List PV :=
  [.sl (Fld.rows p0), .un, .un, .un, .int .i64 (i0 : Int), .un, .int .i64 (i0 : Int), .sl (Fld.rows p0), .int .i64 ((List.length p0) : Int), .bool false]
def Qht (_p0 : List Fld) (_i0 : Nat) (_v0_1 : Val) : List (Nat × List PV) :=
  []
theorem Q139 (p0 : List Fld) (_H : Qku p0) (i0 : Nat) (v0_1 : Val) (_ho0_0 : List.length v0_1.fields ≤ i0) (hc0 : (decide ((i0 : Int) < ((List.length p0) : Int))) = false) : Qlv p0 (Qjz p0 i0 v0_1) v0_1 := by
 exact ⟨(envF (Qp3 p0 i0 v0_1)), (zoF (Qht p0 i0 v0_1)), Qh VOK.nil (x := ((.exit 0), Qof p0 v0_1 (envF (Qp3 p0 i0 v0_1)) (zoF (Qht p0 i0 v0_1)))) [hP 2 (Qn (Fld.rows p0) (List.length p0) (Fld.Q5 p0)), hB 0 hc0] [] (by kernel_rfl)⟩
theorem Q11h (p0 : List Fld) (H : Qku p0) (x0 : Fld) (i0 : Nat) (v0_1 : Val) (hx0 : p0[i0]? = some x0) (hi0 : i0 < List.length p0) (ho0_0 : List.length v0_1.fields ≤ i0) (hc0 : (decide ((i0 : Int) < ((List.length p0) : Int))) = true) {r : Rs} (hr : Q6 G (Qjz p0 (i0 + 1) (Val.mk v0_1.kind v0_1.n v0_1.s v0_1.list (s_Kc v0_1.fields x0))) r) : Q6 G (Qjz p0 i0 v0_1) r := by
 have hB0 := H.1
 exact Qb VOK.nil (y := (Qt0 p0 (i0 + 1) (Val.mk v0_1.kind v0_1.n v0_1.s v0_1.list (s_Kc v0_1.fields x0)), Qtl p0 (i0 + 1) (Val.mk v0_1.kind v0_1.n v0_1.s v0_1.list (s_Kc v0_1.fields x0)))) [hP 2 (Qn (Fld.rows p0) (List.length p0) (Fld.Q5 p0)), hB 0 hc0, hP 4 (Q1f 6 (Fld.rows p0) i0 _ (Fld.Q9 hx0) rfl), hP 4 (Q1f 6 (Fld.rows p0) i0 _ (Fld.Q9 hx0) rfl), hP 8 (Q1b i0 (by omega))] [aN (t_K4 x0.v (H.2.1 x0 (Q1q hx0))), aN (t_Kc v0_1.fields x0 (H.2.2.1 i0 v0_1 x0 hx0 ho0_0))] (by kernel_rfl) hr
theorem Qvh (p0 : List Fld) (H : Qku p0) : ∀ (r0 : List Fld) (i0 : Nat) (v0_1 : Val), List.drop i0 p0 = r0 → List.length v0_1.fields ≤ i0 → Qlv p0 (Qjz p0 i0 v0_1) (Qf9 p0 r0 i0 v0_1)
 | [], i0, v0_1, hd, ho0_0 => by
  have hc0 : (decide ((i0 : Int) < ((List.length p0) : Int))) = false := by have := Q10 hd; simp; omega
  rw [Qf9]
  exact Q139 p0 H i0 v0_1 ho0_0 hc0
 | x0 :: r0, i0, v0_1, hd, ho0_0 => by
  obtain ⟨hx0, hi0, hd'⟩ := Qz hd
  have hc0 : (decide ((i0 : Int) < ((List.length p0) : Int))) = true := by simp; omega
  rw [Qf9]
  exact Qnt p0 (fun r hr => Q11h p0 H x0 i0 v0_1 hx0 hi0 ho0_0 hc0 hr) _ (Qvh p0 H r0 (i0 + 1) (Val.mk v0_1.kind v0_1.n v0_1.s v0_1.list (s_Kc v0_1.fields x0)) hd' ((H.2.2.2.1 i0 v0_1 x0 hx0 ho0_0)))
def s_K8 (p0 : List Fld) : Val :=
 (Qf9 p0 p0 0 (Val.mk 5 0 eB [] []))
def c_K8 (p0 : List Fld) : En := .call 18 [.sl (Fld.rows p0)] []
def a_K8 (p0 : List Fld) : Rs := .ret (.agg (Val.cells (s_K8 p0))) []
def H_K8 (p0 : List Fld) : Prop := List.length p0 ≤ 1 ∧ ∀ f ∈ p0, Val.Sm 1000000000 f.v
theorem Q10b (p0 : List Fld) (H : H_K8 p0) : (Qku p0) ∧ (List.length (Val.mk 5 0 eB [] []).fields ≤ 0) ∧ True := by
  have H' : p0.length ≤ 1 ∧ ∀ f ∈ p0, Val.Sm 1000000000 f.v := H
  have hz : ∀ (i : Nat) (v : Val) (x : Fld), p0[i]? = some x → v.fields.length ≤ i → v.fields = [] ∧ i = 0 := fun i v x h g => by
    have := (List.getElem?_eq_some_iff.1 h).1
    exact ⟨List.eq_nil_of_length_eq_zero (by omega), by omega⟩
  refine ⟨⟨by omega, H'.2, fun i v x h g => ?_, fun i v x h g => ?_, trivial⟩, Nat.le_refl 0, trivial⟩
  · rw [(hz i v x h g).1]
    exact ⟨⟨Nat.zero_le _, trivial⟩, fun _ => Nat.le_of_ble_eq_true rfl, trivial⟩
  · obtain ⟨e1, e2⟩ := hz i v x h g
    rw [e1, e2]
    exact Nat.le_of_ble_eq_true rfl
theorem t_K8 (p0 : List Fld) (H : H_K8 p0) : Q6 G (c_K8 p0) (a_K8 p0) := by
 unfold a_K8 s_K8
 have hl0 := Qvh p0 ((Q10b p0 H).1) p0 0 (Val.mk 5 0 eB [] []) (by simp) ((Q10b p0 H).2.1)
 obtain ⟨z0, zo0, hl0⟩ := hl0
 exact Q8 (fn := Ir.K8) rfl VOK.nil [] [aN hl0] (by kernel_rfl)
def s_Kw (p0 : BA) (p1 : Meta) (p2 : Val) (p3 : Val) : Object :=
 (Object.mk (Meta.mk p0 p1.namespace_ p1.name p1.uid p1.version p1.generation p1.created p1.deleting p1.deleteAt p1.labels p1.owners p1.finalizers p1.managers) p2 p3)
def c_Kw (p0 : BA) (p1 : Meta) (p2 : Val) (p3 : Val) : En := .call 16 [.str p0, .agg (Meta.cells p1), .agg (Val.cells p2), .agg (Val.cells p3)] []
def a_Kw (p0 : BA) (p1 : Meta) (p2 : Val) (p3 : Val) : Rs := .ret (.agg (Object.cells (s_Kw p0 p1 p2 p3))) []
theorem t_Kw (p0 : BA) (p1 : Meta) (p2 : Val) (p3 : Val) : Q6 G (c_Kw p0 p1 p2 p3) (a_Kw p0 p1 p2 p3) := by
 unfold a_Kw s_Kw
 exact Q8 (fn := Ir.Kw) rfl VOK.nil [] [] (by kernel_rfl)
def s_Kv (p0 : Service) : Object := Service.obj p0
theorem e_Kv (p0 : Service) : s_Kv p0 = ((s_Kw Qu p0.meta_ (s_Kq p0) (s_K8 ([(Fld.mk Qe (s_K7 p0.address))])))) := by
  first | rfl | kernel_rfl
def c_Kv (p0 : Service) : En := .call 4 [.agg (Service.cells p0)] []
def a_Kv (p0 : Service) : Rs := .ret (.agg (Object.cells (s_Kv p0))) []
def H_Kv (p0 : Service) : Prop := Service.sm p0
theorem Q10i (p0 : Service) (H : H_Kv p0) : (H_Kq p0) ∧ (H_K8 ([(Fld.mk Qe (s_K7 p0.address))])) ∧ True := by
  exact ⟨(by first | exact True.intro | exact H | exact H.1 | exact H.2.1), ⟨Nat.le_of_ble_eq_true rfl, List.forall_mem_cons.2 ⟨Val.Sm.leaf _ _ _, List.forall_mem_nil _⟩⟩, trivial⟩
theorem t_Kv (p0 : Service) (H : H_Kv p0) : Q6 G (c_Kv p0) (a_Kv p0) := by
 unfold a_Kv
 rw [e_Kv]
 exact Q8 (fn := Ir.Kv) rfl VOK.nil [] [aN (t_Kq p0 (Q10i p0 H).1), aN (t_K7 p0.address), aN (Q6x (e' := .call 18 [.sl [(Fld.cells (Fld.mk Qe (s_K7 p0.address)))]] []) (t_K8 ([(Fld.mk Qe (s_K7 p0.address))]) (Q10i p0 H).2.1) (by simp only [c_K8, Fld.Q12, Fld.Q1c])), aN (t_Kw Qu p0.meta_ (s_Kq p0) (s_K8 ([(Fld.mk Qe (s_K7 p0.address))])))] (by kernel_rfl)
def Q46 (p0 : EndpointSet) : List Endpoint → Nat → (List Val) → List Val
 | [], _i0, v0_1 =>
  v0_1
 | x0 :: r0, i0, v0_1 =>
  Q46 p0 r0 (i0 + 1) (v0_1 ++ [(s_Km ([(Fld.mk Q1p (s_Kr x0.pod)), (Fld.mk Q1g (s_Kr x0.node)), (Fld.mk Qe (s_Kk x0.address)), (Fld.mk Q18 (s_Ki x0.ready)), (Fld.mk Qm (s_Ki x0.terminating))]))])
theorem Q112 (p0 : EndpointSet) : ∀ (l : List Endpoint) (i : Nat) (a : List Val), Q46 p0 l i a = a ++ l.map (fun x0 => (s_Km ([(Fld.mk Q1p (s_Kr x0.pod)), (Fld.mk Q1g (s_Kr x0.node)), (Fld.mk Qe (s_Kk x0.address)), (Fld.mk Q18 (s_Ki x0.ready)), (Fld.mk Qm (s_Ki x0.terminating))])))
  | [], _, _ => by simp [Q46]
  | x :: r, i, a => by rw [Q46, Q112 p0 r]; simp
def Qt7 (_p0 : EndpointSet) (i0 : Nat) (v0_1 : List Val) : List PV :=
  [.un, .bx 0 0, .bx 1 0, .ms 2 5 0 (List.length v0_1), .int .i64 (i0 : Int)] ++ nuns 47
def Qkg (p0 : EndpointSet) (_i0 : Nat) (v0_1 : List Val) : List Ob :=
  [⟨15, 0, true, [.str p0.meta_.kind, .str p0.meta_.namespace_, .str p0.meta_.name, .int .i64 p0.meta_.uid, .int .i64 p0.meta_.version, .int .i64 p0.meta_.generation, .int .i64 p0.meta_.created, .bool p0.meta_.deleting, .int .i64 p0.meta_.deleteAt, .sl (Label.rows p0.meta_.labels), .sl (Owner.rows p0.meta_.owners), .sl (Qj p0.meta_.finalizers), .sl (Manager.rows p0.meta_.managers), .sl (ServicePort.rows p0.ports), .sl (Endpoint.rows p0.items)]⟩, ⟨5, 0, true, [.int .i64 0, .int .i64 0, .str eB, .ms 3 5 0 0, .ms 4 6 0 0]⟩, ⟨5, 0, true, (Val.rows v0_1).flatten⟩, ⟨5, 0, true, []⟩, ⟨6, 0, true, []⟩]
def Qk4 (p0 : EndpointSet) (i0 : Nat) (v0_1 : List Val) : En := .loop 0 Ir.Qgo Ir.Q18g (Qt7 p0 i0 v0_1) (Qkg p0 i0 v0_1)
def Qom (p0 : EndpointSet) (q0 : List Val) (z : Nat → PV) (_zo : Nat → List PV) : St :=
  ⟨[z 0, .bx 0 0, .bx 1 0, .ms 2 5 0 (List.length q0)] ++ zr z 4 48, [(0, ⟨15, 0, true, [.str p0.meta_.kind, .str p0.meta_.namespace_, .str p0.meta_.name, .int .i64 p0.meta_.uid, .int .i64 p0.meta_.version, .int .i64 p0.meta_.generation, .int .i64 p0.meta_.created, .bool p0.meta_.deleting, .int .i64 p0.meta_.deleteAt, .sl (Label.rows p0.meta_.labels), .sl (Owner.rows p0.meta_.owners), .sl (Qj p0.meta_.finalizers), .sl (Manager.rows p0.meta_.managers), .sl (ServicePort.rows p0.ports), .sl (Endpoint.rows p0.items)]⟩), (1, ⟨5, 0, true, [.int .i64 0, .int .i64 0, .str eB, .ms 3 5 0 0, .ms 4 6 0 0]⟩), (2, ⟨5, 0, true, (Val.rows q0).flatten⟩), (3, ⟨5, 0, true, []⟩), (4, ⟨6, 0, true, []⟩)], 325⟩
theorem Qz7 (p0 : EndpointSet) (i0 : Nat) (v0_1 : List Val) : VOK (Go.Pv.look (number 0 (Qkg p0 i0 v0_1))) [(2, Val.rows v0_1)] := (VOK.cons (show Seen _ _ from Q2f (ob := ⟨5, 0, true, (Val.rows v0_1).flatten⟩) (Val.Q7 v0_1 5 rfl)) VOK.nil)
def Qlx (p0 : EndpointSet) (e : En) (q : List Val) : Prop := ∃ z zo, Q6 G e (.st (.exit 0) (Qom p0 q z zo))
theorem Qo0 (p0 : EndpointSet) {e e' : En} (h : ∀ r, Q6 G e r → Q6 G e' r) : ∀ q, Qlx p0 e q → Qlx p0 e' q
  | _, ⟨z, zo, hz⟩ => ⟨z, zo, h _ hz⟩
def Qkz (p0 : EndpointSet) : Prop := (List.length p0.items ≤ 137438953472) ∧ True
def Qpe (p0 : EndpointSet) (i0 : Nat) (_v0_1 : List Val) : List PV :=
  [.un, .un, .un, .un, .int .i64 (i0 : Int), .un, .int .i64 (i0 : Int), .bx 0 14, .sl (Endpoint.rows p0.items), .int .i64 ((List.length p0.items) : Int), .bool false]
def Qi4 (_p0 : EndpointSet) (_i0 : Nat) (_v0_1 : List Val) : List (Nat × List PV) :=
  []
theorem Q13k (p0 : EndpointSet) (_H : Qkz p0) (i0 : Nat) (v0_1 : List Val) (_ho0_0 : List.length v0_1 ≤ i0) (hc0 : (decide ((i0 : Int) < ((List.length p0.items) : Int))) = false) : Qlx p0 (Qk4 p0 i0 v0_1) v0_1 := by
 exact ⟨(envF (Qpe p0 i0 v0_1)), (zoF (Qi4 p0 i0 v0_1)), Qh (Qz7 p0 i0 v0_1) (x := ((.exit 0), Qom p0 v0_1 (envF (Qpe p0 i0 v0_1)) (zoF (Qi4 p0 i0 v0_1)))) [hP 3 (Qn (Endpoint.rows p0.items) (List.length p0.items) (Endpoint.Q5 p0.items)), hB 0 hc0] [] (by kernel_rfl)⟩
theorem Q11u (p0 : EndpointSet) (H : Qkz p0) (x0 : Endpoint) (i0 : Nat) (v0_1 : List Val) (hx0 : p0.items[i0]? = some x0) (hi0 : i0 < List.length p0.items) (ho0_0 : List.length v0_1 ≤ i0) (hc0 : (decide ((i0 : Int) < ((List.length p0.items) : Int))) = true) {r : Rs} (hr : Q6 G (Qk4 p0 (i0 + 1) (v0_1 ++ [(s_Km ([(Fld.mk Q1p (s_Kr x0.pod)), (Fld.mk Q1g (s_Kr x0.node)), (Fld.mk Qe (s_Kk x0.address)), (Fld.mk Q18 (s_Ki x0.ready)), (Fld.mk Qm (s_Ki x0.terminating))]))])) r) : Q6 G (Qk4 p0 i0 v0_1) r := by
 have hB0 := H.1
 exact Qb (Qz7 p0 i0 v0_1) (y := (Qt7 p0 (i0 + 1) (v0_1 ++ [(s_Km ([(Fld.mk Q1p (s_Kr x0.pod)), (Fld.mk Q1g (s_Kr x0.node)), (Fld.mk Qe (s_Kk x0.address)), (Fld.mk Q18 (s_Ki x0.ready)), (Fld.mk Qm (s_Ki x0.terminating))]))]), Qkg p0 (i0 + 1) (v0_1 ++ [(s_Km ([(Fld.mk Q1p (s_Kr x0.pod)), (Fld.mk Q1g (s_Kr x0.node)), (Fld.mk Qe (s_Kk x0.address)), (Fld.mk Q18 (s_Ki x0.ready)), (Fld.mk Qm (s_Ki x0.terminating))]))]))) [hP 3 (Qn (Endpoint.rows p0.items) (List.length p0.items) (Endpoint.Q5 p0.items)), hB 0 hc0, hP 3 (Q1f 5 (Endpoint.rows p0.items) i0 _ (Endpoint.Q9 hx0) rfl), hV 27 [(2309, Val.rows (v0_1 ++ [(s_Km ([(Fld.mk Q1p (s_Kr x0.pod)), (Fld.mk Q1g (s_Kr x0.node)), (Fld.mk Qe (s_Kk x0.address)), (Fld.mk Q18 (s_Ki x0.ready)), (Fld.mk Qm (s_Ki x0.terminating))]))]))] (Q2w 2 2245 2309 5 80 0 0 true (Val.rows v0_1) (Val.rows (v0_1 ++ [(s_Km ([(Fld.mk Q1p (s_Kr x0.pod)), (Fld.mk Q1g (s_Kr x0.node)), (Fld.mk Qe (s_Kk x0.address)), (Fld.mk Q18 (s_Ki x0.ready)), (Fld.mk Qm (s_Ki x0.terminating))]))])) (Val.cells (s_Km ([(Fld.mk Q1p (s_Kr x0.pod)), (Fld.mk Q1g (s_Kr x0.node)), (Fld.mk Qe (s_Kk x0.address)), (Fld.mk Q18 (s_Ki x0.ready)), (Fld.mk Qm (s_Ki x0.terminating))]))) (List.length v0_1) (List.length (v0_1 ++ [(s_Km ([(Fld.mk Q1p (s_Kr x0.pod)), (Fld.mk Q1g (s_Kr x0.node)), (Fld.mk Qe (s_Kk x0.address)), (Fld.mk Q18 (s_Ki x0.ready)), (Fld.mk Qm (s_Ki x0.terminating))]))])) rfl (Val.Q5 v0_1).symm (Val.Q5 (v0_1 ++ [(s_Km ([(Fld.mk Q1p (s_Kr x0.pod)), (Fld.mk Q1g (s_Kr x0.node)), (Fld.mk Qe (s_Kk x0.address)), (Fld.mk Q18 (s_Ki x0.ready)), (Fld.mk Qm (s_Ki x0.terminating))]))])).symm (Val.Qv v0_1 (s_Km ([(Fld.mk Q1p (s_Kr x0.pod)), (Fld.mk Q1g (s_Kr x0.node)), (Fld.mk Qe (s_Kk x0.address)), (Fld.mk Q18 (s_Ki x0.ready)), (Fld.mk Qm (s_Ki x0.terminating))]))) (Val.Qd v0_1) rfl (by omega)), hS 0 true (Val.Q7 (v0_1 ++ [(s_Km ([(Fld.mk Q1p (s_Kr x0.pod)), (Fld.mk Q1g (s_Kr x0.node)), (Fld.mk Qe (s_Kk x0.address)), (Fld.mk Q18 (s_Ki x0.ready)), (Fld.mk Qm (s_Ki x0.terminating))]))]) 5 rfl), hP 2 (Q1b i0 (by omega))] [aN (t_Kr x0.pod), aN (t_Kr x0.node), aN (t_Kk x0.address), aN (t_Ki x0.ready), aN (t_Ki x0.terminating), aN (Q6x (e' := .call 61 [.sl [(Fld.cells (Fld.mk Q1p (s_Kr x0.pod))), (Fld.cells (Fld.mk Q1g (s_Kr x0.node))), (Fld.cells (Fld.mk Qe (s_Kk x0.address))), (Fld.cells (Fld.mk Q18 (s_Ki x0.ready))), (Fld.cells (Fld.mk Qm (s_Ki x0.terminating)))]] []) (t_Km ([(Fld.mk Q1p (s_Kr x0.pod)), (Fld.mk Q1g (s_Kr x0.node)), (Fld.mk Qe (s_Kk x0.address)), (Fld.mk Q18 (s_Ki x0.ready)), (Fld.mk Qm (s_Ki x0.terminating))]) (Nat.le_of_ble_eq_true rfl)) (by simp only [c_Km, Fld.Q12, Fld.Q1c]))] (by kernel_rfl) hr
theorem Qvo (p0 : EndpointSet) (H : Qkz p0) : ∀ (r0 : List Endpoint) (i0 : Nat) (v0_1 : List Val), List.drop i0 p0.items = r0 → List.length v0_1 ≤ i0 → Qlx p0 (Qk4 p0 i0 v0_1) (Q46 p0 r0 i0 v0_1)
 | [], i0, v0_1, hd, ho0_0 => by
  have hc0 : (decide ((i0 : Int) < ((List.length p0.items) : Int))) = false := by have := Q10 hd; simp; omega
  rw [Q46]
  exact Q13k p0 H i0 v0_1 ho0_0 hc0
 | x0 :: r0, i0, v0_1, hd, ho0_0 => by
  obtain ⟨hx0, hi0, hd'⟩ := Qz hd
  have hc0 : (decide ((i0 : Int) < ((List.length p0.items) : Int))) = true := by simp; omega
  rw [Q46]
  exact Qo0 p0 (fun r hr => Q11u p0 H x0 i0 v0_1 hx0 hi0 ho0_0 hc0 hr) _ (Qvo p0 H r0 (i0 + 1) (v0_1 ++ [(s_Km ([(Fld.mk Q1p (s_Kr x0.pod)), (Fld.mk Q1g (s_Kr x0.node)), (Fld.mk Qe (s_Kk x0.address)), (Fld.mk Q18 (s_Ki x0.ready)), (Fld.mk Qm (s_Ki x0.terminating))]))]) hd' (by first | omega | (simp; omega)))
def s_Kj (p0 : EndpointSet) : Val := EndpointSet.encS p0
theorem e_Kj (p0 : EndpointSet) : s_Kj p0 = ((s_Km ([(Fld.mk Qk (s_Ko p0.ports)), (Fld.mk Q1d (Val.mk 4 0 eB (Q46 p0 p0.items 0 []) []))]))) := by
  simp only [Q112]
  kernel_rfl
def c_Kj (p0 : EndpointSet) : En := .call 20 [.agg (EndpointSet.cells p0)] []
def a_Kj (p0 : EndpointSet) : Rs := .ret (.agg (Val.cells (s_Kj p0))) []
def H_Kj (p0 : EndpointSet) : Prop := EndpointSet.sm p0
theorem Q10d (p0 : EndpointSet) (H : H_Kj p0) : (Qkz p0) ∧ (H_Ko p0.ports) ∧ True := by
  exact ⟨(by first | exact ⟨Nat.le_trans H.1 (Nat.le_of_ble_eq_true rfl), trivial⟩ | exact ⟨Nat.le_trans H.1 (Nat.le_of_ble_eq_true rfl), H.2, trivial⟩ | exact ⟨Nat.le_trans H.1 (Nat.le_of_ble_eq_true rfl), fun x hx => (H.2 x hx).1, trivial⟩ | exact ⟨Nat.le_trans H.1.1 (Nat.le_of_ble_eq_true rfl), trivial⟩ | exact ⟨Nat.le_trans H.1.1 (Nat.le_of_ble_eq_true rfl), H.1.2, trivial⟩ | exact ⟨Nat.le_trans H.1.1 (Nat.le_of_ble_eq_true rfl), fun x hx => (H.1.2 x hx).1, trivial⟩ | exact ⟨Nat.le_trans H.2.1.1 (Nat.le_of_ble_eq_true rfl), trivial⟩ | exact ⟨Nat.le_trans H.2.1.1 (Nat.le_of_ble_eq_true rfl), H.2.1.2, trivial⟩ | exact ⟨Nat.le_trans H.2.1.1 (Nat.le_of_ble_eq_true rfl), fun x hx => (H.2.1.2 x hx).1, trivial⟩), (by first | exact True.intro | exact H | exact H.1 | exact H.2.1), trivial⟩
theorem t_Kj (p0 : EndpointSet) (H : H_Kj p0) : Q6 G (c_Kj p0) (a_Kj p0) := by
 unfold a_Kj
 rw [e_Kj]
 have hl0 := Qvo p0 ((Q10d p0 H).1) p0.items 0 [] (by simp) (by simp)
 obtain ⟨z0, zo0, hl0⟩ := hl0
 exact Q8 (fn := Ir.Kj) rfl VOK.nil [hS 0 true (Val.Q7 (Q46 p0 p0.items 0 []) 5 rfl), hQ (Val.Q5 (Q46 p0 p0.items 0 [])).symm] [aV [(2, Val.rows (Q46 p0 p0.items 0 []))] hl0, aN (t_Ko p0.ports (Q10d p0 H).2.1), aN (Q6x (e' := .call 61 [.sl [(Fld.cells (Fld.mk Qk (s_Ko p0.ports))), (Fld.cells (Fld.mk Q1d (Val.mk 4 0 eB (Q46 p0 p0.items 0 []) [])))]] []) (t_Km ([(Fld.mk Qk (s_Ko p0.ports)), (Fld.mk Q1d (Val.mk 4 0 eB (Q46 p0 p0.items 0 []) []))]) (Nat.le_of_ble_eq_true rfl)) (by simp only [c_Km, Fld.Q12, Fld.Q1c]))] (by kernel_rfl)
def s_Kt (p0 : EndpointSet) : Object := EndpointSet.obj p0
theorem e_Kt (p0 : EndpointSet) : s_Kt p0 = ((s_Kw Qp p0.meta_ (s_Kj p0) (s_K8 []))) := by
  first | rfl | kernel_rfl
def c_Kt (p0 : EndpointSet) : En := .call 5 [.agg (EndpointSet.cells p0)] []
def a_Kt (p0 : EndpointSet) : Rs := .ret (.agg (Object.cells (s_Kt p0))) []
def H_Kt (p0 : EndpointSet) : Prop := EndpointSet.sm p0
theorem Q10g (p0 : EndpointSet) (H : H_Kt p0) : (H_Kj p0) ∧ (H_K8 []) ∧ True := by
  exact ⟨(by first | exact True.intro | exact H | exact H.1 | exact H.2.1), ⟨Nat.le_of_ble_eq_true rfl, List.forall_mem_nil _⟩, trivial⟩
theorem t_Kt (p0 : EndpointSet) (H : H_Kt p0) : Q6 G (c_Kt p0) (a_Kt p0) := by
 unfold a_Kt
 rw [e_Kt]
 exact Q8 (fn := Ir.Kt) rfl VOK.nil [] [aN (t_Kj p0 (Q10g p0 H).1), aN (t_K8 [] (Q10g p0 H).2.1), aN (t_Kw Qp p0.meta_ (s_Kj p0) (s_K8 []))] (by kernel_rfl)
def Q4w (p0 : List Int) : List Int → Nat → (List Val) → List Val
 | [], _i0, v0_1 =>
  v0_1
 | x0 :: r0, i0, v0_1 =>
  Q4w p0 r0 (i0 + 1) (v0_1 ++ [(s_Kk x0)])
theorem Q113 (p0 : List Int) : ∀ (l : List Int) (i : Nat) (a : List Val), Q4w p0 l i a = a ++ l.map (fun x0 => (s_Kk x0))
  | [], _, _ => by simp [Q4w]
  | x :: r, i, a => by rw [Q4w, Q113 p0 r]; simp
def Qt8 (p0 : List Int) (i0 : Nat) (v0_1 : List Val) : List PV :=
  [.sl (Q1i p0), .un, .bx 0 0, .ms 1 5 0 (List.length v0_1), .int .i64 (i0 : Int)] ++ nuns 16
def Qkh (_p0 : List Int) (_i0 : Nat) (v0_1 : List Val) : List Ob :=
  [⟨5, 0, true, [.int .i64 0, .int .i64 0, .str eB, .ms 2 5 0 0, .ms 3 6 0 0]⟩, ⟨5, 0, true, (Val.rows v0_1).flatten⟩, ⟨5, 0, true, []⟩, ⟨6, 0, true, []⟩]
def Qk5 (p0 : List Int) (i0 : Nat) (v0_1 : List Val) : En := .loop 0 Ir.Qgp Ir.Q18h (Qt8 p0 i0 v0_1) (Qkh p0 i0 v0_1)
def Qon (_p0 : List Int) (q0 : List Val) (z : Nat → PV) (_zo : Nat → List PV) : St :=
  ⟨[z 0, z 1, .bx 0 0, .ms 1 5 0 (List.length q0)] ++ zr z 4 17, [(0, ⟨5, 0, true, [.int .i64 0, .int .i64 0, .str eB, .ms 2 5 0 0, .ms 3 6 0 0]⟩), (1, ⟨5, 0, true, (Val.rows q0).flatten⟩), (2, ⟨5, 0, true, []⟩), (3, ⟨6, 0, true, []⟩)], 260⟩
theorem Qz8 (p0 : List Int) (i0 : Nat) (v0_1 : List Val) : VOK (Go.Pv.look (number 0 (Qkh p0 i0 v0_1))) [(1, Val.rows v0_1)] := (VOK.cons (show Seen _ _ from Q2f (ob := ⟨5, 0, true, (Val.rows v0_1).flatten⟩) (Val.Q7 v0_1 5 rfl)) VOK.nil)
def Qly (p0 : List Int) (e : En) (q : List Val) : Prop := ∃ z zo, Q6 G e (.st (.exit 0) (Qon p0 q z zo))
theorem Qo1 (p0 : List Int) {e e' : En} (h : ∀ r, Q6 G e r → Q6 G e' r) : ∀ q, Qly p0 e q → Qly p0 e' q
  | _, ⟨z, zo, hz⟩ => ⟨z, zo, h _ hz⟩
def Ql0 (p0 : List Int) : Prop := (List.length p0 ≤ 137438953472) ∧ True
def Qpf (p0 : List Int) (i0 : Nat) (_v0_1 : List Val) : List PV :=
  [.sl (Q1i p0), .un, .un, .un, .int .i64 (i0 : Int), .int .i64 (i0 : Int), .sl (Q1i p0), .int .i64 ((List.length p0) : Int), .bool false]
def Qi5 (_p0 : List Int) (_i0 : Nat) (_v0_1 : List Val) : List (Nat × List PV) :=
  []
theorem Q13l (p0 : List Int) (_H : Ql0 p0) (i0 : Nat) (v0_1 : List Val) (_ho0_0 : List.length v0_1 ≤ i0) (hc0 : (decide ((i0 : Int) < ((List.length p0) : Int))) = false) : Qly p0 (Qk5 p0 i0 v0_1) v0_1 := by
 exact ⟨(envF (Qpf p0 i0 v0_1)), (zoF (Qi5 p0 i0 v0_1)), Qh (Qz8 p0 i0 v0_1) (x := ((.exit 0), Qon p0 v0_1 (envF (Qpf p0 i0 v0_1)) (zoF (Qi5 p0 i0 v0_1)))) [hP 2 (Qn (Q1i p0) (List.length p0) (Q4r p0)), hB 0 hc0] [] (by kernel_rfl)⟩
theorem Q11v (p0 : List Int) (H : Ql0 p0) (x0 : Int) (i0 : Nat) (v0_1 : List Val) (hx0 : p0[i0]? = some x0) (hi0 : i0 < List.length p0) (ho0_0 : List.length v0_1 ≤ i0) (hc0 : (decide ((i0 : Int) < ((List.length p0) : Int))) = true) {r : Rs} (hr : Q6 G (Qk5 p0 (i0 + 1) (v0_1 ++ [(s_Kk x0)])) r) : Q6 G (Qk5 p0 i0 v0_1) r := by
 have hB0 := H.1
 exact Qb (Qz8 p0 i0 v0_1) (y := (Qt8 p0 (i0 + 1) (v0_1 ++ [(s_Kk x0)]), Qkh p0 (i0 + 1) (v0_1 ++ [(s_Kk x0)]))) [hP 2 (Qn (Q1i p0) (List.length p0) (Q4r p0)), hB 0 hc0, hP 3 (Q1f 1 (Q1i p0) i0 _ (Qjc hx0) rfl), hV 3 [(708, Val.rows (v0_1 ++ [(s_Kk x0)]))] (Q2w 1 644 708 5 80 0 0 true (Val.rows v0_1) (Val.rows (v0_1 ++ [(s_Kk x0)])) (Val.cells (s_Kk x0)) (List.length v0_1) (List.length (v0_1 ++ [(s_Kk x0)])) rfl (Val.Q5 v0_1).symm (Val.Q5 (v0_1 ++ [(s_Kk x0)])).symm (Val.Qv v0_1 (s_Kk x0)) (Val.Qd v0_1) rfl (by omega)), hS 0 true (Val.Q7 (v0_1 ++ [(s_Kk x0)]) 5 rfl), hP 2 (Q1b i0 (by omega))] [aN (t_Kk x0)] (by kernel_rfl) hr
theorem Qvp (p0 : List Int) (H : Ql0 p0) : ∀ (r0 : List Int) (i0 : Nat) (v0_1 : List Val), List.drop i0 p0 = r0 → List.length v0_1 ≤ i0 → Qly p0 (Qk5 p0 i0 v0_1) (Q4w p0 r0 i0 v0_1)
 | [], i0, v0_1, hd, ho0_0 => by
  have hc0 : (decide ((i0 : Int) < ((List.length p0) : Int))) = false := by have := Q10 hd; simp; omega
  rw [Q4w]
  exact Q13l p0 H i0 v0_1 ho0_0 hc0
 | x0 :: r0, i0, v0_1, hd, ho0_0 => by
  obtain ⟨hx0, hi0, hd'⟩ := Qz hd
  have hc0 : (decide ((i0 : Int) < ((List.length p0) : Int))) = true := by simp; omega
  rw [Q4w]
  exact Qo1 p0 (fun r hr => Q11v p0 H x0 i0 v0_1 hx0 hi0 ho0_0 hc0 hr) _ (Qvp p0 H r0 (i0 + 1) (v0_1 ++ [(s_Kk x0)]) hd' (by first | omega | (simp; omega)))
def s_Kl (p0 : List Int) : Val := vL (p0.map vN)
theorem e_Kl (p0 : List Int) : s_Kl p0 = ((Val.mk 4 0 eB (Q4w p0 p0 0 []) [])) := by
  rw [Q113]
  kernel_rfl
def c_Kl (p0 : List Int) : En := .call 69 [.sl (Q1i p0)] []
def a_Kl (p0 : List Int) : Rs := .ret (.agg (Val.cells (s_Kl p0))) []
def H_Kl (p0 : List Int) : Prop := LSm (fun _ : Int => True) p0
theorem Q17d (p0 : List Int) (H : H_Kl p0) : (Ql0 p0) ∧ True := by
  exact ⟨(by first | exact ⟨Nat.le_trans H.1 (Nat.le_of_ble_eq_true rfl), trivial⟩ | exact ⟨Nat.le_trans H.1 (Nat.le_of_ble_eq_true rfl), H.2, trivial⟩ | exact ⟨Nat.le_trans H.1 (Nat.le_of_ble_eq_true rfl), fun x hx => (H.2 x hx).1, trivial⟩), trivial⟩
theorem t_Kl (p0 : List Int) (H : H_Kl p0) : Q6 G (c_Kl p0) (a_Kl p0) := by
 unfold a_Kl
 rw [e_Kl]
 have hl0 := Qvp p0 ((Q17d p0 H).1) p0 0 [] (by simp) (by simp)
 obtain ⟨z0, zo0, hl0⟩ := hl0
 exact Q8 (fn := Ir.Kl) rfl VOK.nil [hS 0 true (Val.Q7 (Q4w p0 p0 0 []) 5 rfl), hQ (Val.Q5 (Q4w p0 p0 0 [])).symm] [aV [(1, Val.rows (Q4w p0 p0 0 []))] hl0] (by kernel_rfl)
def Q1t (p0 : NetworkPolicy) (i0 : Nat) (v0_1 : List Val) (x0 : PolicyRule) : List Peer → Nat → (List Val) → List Val
 | [], _i1, v1_1 =>
  v1_1
 | x1 :: r1, i1, v1_1 =>
  Q1t p0 i0 v0_1 x0 r1 (i1 + 1) (v1_1 ++ [(s_Km ([(Fld.mk Qq (s_Kr x1.namespace_)), (Fld.mk Qg (s_Kp x1.selector))]))])
theorem Q114 (p0 : NetworkPolicy) (i0 : Nat) (v0_1 : List Val) (x0 : PolicyRule) : ∀ (l : List Peer) (i : Nat) (a : List Val), Q1t p0 i0 v0_1 x0 l i a = a ++ l.map (fun x1 => (s_Km ([(Fld.mk Qq (s_Kr x1.namespace_)), (Fld.mk Qg (s_Kp x1.selector))])))
  | [], _, _ => by simp [Q1t]
  | x :: r, i, a => by rw [Q1t, Q114 p0 i0 v0_1 x0 r]; simp
def Qtb (_p0 : NetworkPolicy) (i0 : Nat) (v0_1 : List Val) (_x0 : PolicyRule) (i1 : Nat) (v1_1 : List Val) : List PV :=
  [.un, .bx 0 0, .bx 1 0, .ms 2 5 0 (List.length v0_1), .int .i64 (i0 : Int), .ms 3 5 0 (List.length v1_1), .int .i64 (i1 : Int)] ++ nuns 82
def Qkk (p0 : NetworkPolicy) (_i0 : Nat) (v0_1 : List Val) (_x0 : PolicyRule) (_i1 : Nat) (v1_1 : List Val) : List Ob :=
  [⟨17, 0, true, [.str p0.meta_.kind, .str p0.meta_.namespace_, .str p0.meta_.name, .int .i64 p0.meta_.uid, .int .i64 p0.meta_.version, .int .i64 p0.meta_.generation, .int .i64 p0.meta_.created, .bool p0.meta_.deleting, .int .i64 p0.meta_.deleteAt, .sl (Label.rows p0.meta_.labels), .sl (Owner.rows p0.meta_.owners), .sl (Qj p0.meta_.finalizers), .sl (Manager.rows p0.meta_.managers), .sl (Requirement.rows p0.selector), .bool p0.ingress, .bool p0.egress, .sl (PolicyRule.rows p0.rules)]⟩, ⟨5, 0, true, [.int .i64 0, .int .i64 0, .str eB, .ms 4 5 0 0, .ms 5 6 0 0]⟩, ⟨5, 0, true, (Val.rows v0_1).flatten⟩, ⟨5, 0, true, (Val.rows v1_1).flatten⟩, ⟨5, 0, true, []⟩, ⟨6, 0, true, []⟩]
def Qci (p0 : NetworkPolicy) (i0 : Nat) (v0_1 : List Val) (x0 : PolicyRule) (i1 : Nat) (v1_1 : List Val) : En := .loop 0 Ir.Qgt Ir.Q18l (Qtb p0 i0 v0_1 x0 i1 v1_1) (Qkk p0 i0 v0_1 x0 i1 v1_1)
def Qe8 (p0 : NetworkPolicy) (i0 : Nat) (v0_1 : List Val) (_x0 : PolicyRule) (q0 : List Val) (z : Nat → PV) (_zo : Nat → List PV) : St :=
  ⟨[z 0, .bx 0 0, .bx 1 0, .ms 2 5 0 (List.length v0_1), .int .i64 (i0 : Int), .ms 3 5 0 (List.length q0)] ++ zr z 6 83, [(0, ⟨17, 0, true, [.str p0.meta_.kind, .str p0.meta_.namespace_, .str p0.meta_.name, .int .i64 p0.meta_.uid, .int .i64 p0.meta_.version, .int .i64 p0.meta_.generation, .int .i64 p0.meta_.created, .bool p0.meta_.deleting, .int .i64 p0.meta_.deleteAt, .sl (Label.rows p0.meta_.labels), .sl (Owner.rows p0.meta_.owners), .sl (Qj p0.meta_.finalizers), .sl (Manager.rows p0.meta_.managers), .sl (Requirement.rows p0.selector), .bool p0.ingress, .bool p0.egress, .sl (PolicyRule.rows p0.rules)]⟩), (1, ⟨5, 0, true, [.int .i64 0, .int .i64 0, .str eB, .ms 4 5 0 0, .ms 5 6 0 0]⟩), (2, ⟨5, 0, true, (Val.rows v0_1).flatten⟩), (3, ⟨5, 0, true, (Val.rows q0).flatten⟩), (4, ⟨5, 0, true, []⟩), (5, ⟨6, 0, true, []⟩)], 582⟩
theorem Qza (p0 : NetworkPolicy) (i0 : Nat) (v0_1 : List Val) (x0 : PolicyRule) (i1 : Nat) (v1_1 : List Val) : VOK (Go.Pv.look (number 0 (Qkk p0 i0 v0_1 x0 i1 v1_1))) [(2, Val.rows v0_1), (3, Val.rows v1_1)] := (VOK.cons (show Seen _ _ from Q2f (ob := ⟨5, 0, true, (Val.rows v0_1).flatten⟩) (Val.Q7 v0_1 5 rfl)) (VOK.cons (show Seen _ _ from Q2f (ob := ⟨5, 0, true, (Val.rows v1_1).flatten⟩) (Val.Q7 v1_1 5 rfl)) VOK.nil))
def Qm1 (p0 : NetworkPolicy) (i0 : Nat) (v0_1 : List Val) (x0 : PolicyRule) (e : En) (q : List Val) : Prop := ∃ z zo, Q6 G e (.st (.exit 2) (Qe8 p0 i0 v0_1 x0 q z zo))
theorem Qo4 (p0 : NetworkPolicy) (i0 : Nat) (v0_1 : List Val) (x0 : PolicyRule) {e e' : En} (h : ∀ r, Q6 G e r → Q6 G e' r) : ∀ q, Qm1 p0 i0 v0_1 x0 e q → Qm1 p0 i0 v0_1 x0 e' q
  | _, ⟨z, zo, hz⟩ => ⟨z, zo, h _ hz⟩
def Ql2 (p0 : NetworkPolicy) (i0 : Nat) (_v0_1 : List Val) (x0 : PolicyRule) : Prop := (List.length x0.peers ≤ 137438953472) ∧ (∀ x1 ∈ x0.peers, H_Kp x1.selector) ∧ (p0.rules[i0]? = some x0) ∧ True
def Qpk (p0 : NetworkPolicy) (i0 : Nat) (_v0_1 : List Val) (x0 : PolicyRule) (i1 : Nat) (_v1_1 : List Val) : List PV :=
  nuns 6 ++ [.int .i64 (i1 : Int)] ++ nuns 8 ++ [.int .i64 (i1 : Int), .bx 0 16, .sl (PolicyRule.rows p0.rules), .int .i64 (i0 : Int), .rf [.bool x0.egress, .sl (Peer.rows x0.peers), .sl (Q1i x0.ports)], .rf [.sl (Peer.rows x0.peers), .sl (Q1i x0.ports)], .sl (Peer.rows x0.peers), .int .i64 ((List.length x0.peers) : Int), .bool false]
def Qia (_p0 : NetworkPolicy) (_i0 : Nat) (_v0_1 : List Val) (_x0 : PolicyRule) (_i1 : Nat) (_v1_1 : List Val) : List (Nat × List PV) :=
  []
theorem Q13q (p0 : NetworkPolicy) (i0 : Nat) (v0_1 : List Val) (x0 : PolicyRule) (H : Ql2 p0 i0 v0_1 x0) (i1 : Nat) (v1_1 : List Val) (_ho1_0 : List.length v1_1 ≤ i1) (hc1 : (decide ((i1 : Int) < ((List.length x0.peers) : Int))) = false) : Qm1 p0 i0 v0_1 x0 (Qci p0 i0 v0_1 x0 i1 v1_1) v1_1 := by
 exact ⟨(envF (Qpk p0 i0 v0_1 x0 i1 v1_1)), (zoF (Qia p0 i0 v0_1 x0 i1 v1_1)), Qh (Qza p0 i0 v0_1 x0 i1 v1_1) (x := ((.exit 2), Qe8 p0 i0 v0_1 x0 v1_1 (envF (Qpk p0 i0 v0_1 x0 i1 v1_1)) (zoF (Qia p0 i0 v0_1 x0 i1 v1_1)))) [hP 4 (Q1f 3 (PolicyRule.rows p0.rules) i0 _ (PolicyRule.Q9 (H.2.2.1)) rfl), hP 2 (Qn (Peer.rows x0.peers) (List.length x0.peers) (Peer.Q5 x0.peers)), hB 0 hc1] [] (by kernel_rfl)⟩
theorem Q120 (p0 : NetworkPolicy) (i0 : Nat) (v0_1 : List Val) (x0 : PolicyRule) (H : Ql2 p0 i0 v0_1 x0) (x1 : Peer) (i1 : Nat) (v1_1 : List Val) (hx1 : x0.peers[i1]? = some x1) (hi1 : i1 < List.length x0.peers) (ho1_0 : List.length v1_1 ≤ i1) (hc1 : (decide ((i1 : Int) < ((List.length x0.peers) : Int))) = true) {r : Rs} (hr : Q6 G (Qci p0 i0 v0_1 x0 (i1 + 1) (v1_1 ++ [(s_Km ([(Fld.mk Qq (s_Kr x1.namespace_)), (Fld.mk Qg (s_Kp x1.selector))]))])) r) : Q6 G (Qci p0 i0 v0_1 x0 i1 v1_1) r := by
 have hB0 := H.1
 exact Qb (Qza p0 i0 v0_1 x0 i1 v1_1) (y := (Qtb p0 i0 v0_1 x0 (i1 + 1) (v1_1 ++ [(s_Km ([(Fld.mk Qq (s_Kr x1.namespace_)), (Fld.mk Qg (s_Kp x1.selector))]))]), Qkk p0 i0 v0_1 x0 (i1 + 1) (v1_1 ++ [(s_Km ([(Fld.mk Qq (s_Kr x1.namespace_)), (Fld.mk Qg (s_Kp x1.selector))]))]))) [hP 4 (Q1f 3 (PolicyRule.rows p0.rules) i0 _ (PolicyRule.Q9 (H.2.2.1)) rfl), hP 2 (Qn (Peer.rows x0.peers) (List.length x0.peers) (Peer.Q5 x0.peers)), hB 0 hc1, hP 3 (Q1f 3 (PolicyRule.rows p0.rules) i0 _ (PolicyRule.Q9 (H.2.2.1)) rfl), hP 3 (Q1f 2 (Peer.rows x0.peers) i1 _ (Peer.Q9 hx1) rfl), hV 15 [(2054, Val.rows (v1_1 ++ [(s_Km ([(Fld.mk Qq (s_Kr x1.namespace_)), (Fld.mk Qg (s_Kp x1.selector))]))]))] (Q2w 3 1990 2054 5 80 0 0 true (Val.rows v1_1) (Val.rows (v1_1 ++ [(s_Km ([(Fld.mk Qq (s_Kr x1.namespace_)), (Fld.mk Qg (s_Kp x1.selector))]))])) (Val.cells (s_Km ([(Fld.mk Qq (s_Kr x1.namespace_)), (Fld.mk Qg (s_Kp x1.selector))]))) (List.length v1_1) (List.length (v1_1 ++ [(s_Km ([(Fld.mk Qq (s_Kr x1.namespace_)), (Fld.mk Qg (s_Kp x1.selector))]))])) rfl (Val.Q5 v1_1).symm (Val.Q5 (v1_1 ++ [(s_Km ([(Fld.mk Qq (s_Kr x1.namespace_)), (Fld.mk Qg (s_Kp x1.selector))]))])).symm (Val.Qv v1_1 (s_Km ([(Fld.mk Qq (s_Kr x1.namespace_)), (Fld.mk Qg (s_Kp x1.selector))]))) (Val.Qd v1_1) rfl (by omega)), hS 0 true (Val.Q7 (v1_1 ++ [(s_Km ([(Fld.mk Qq (s_Kr x1.namespace_)), (Fld.mk Qg (s_Kp x1.selector))]))]) 5 rfl), hP 2 (Q1b i1 (by omega))] [aN (t_Kr x1.namespace_), aN (t_Kp x1.selector (H.2.1 x1 (Q1q hx1))), aN (Q6x (e' := .call 61 [.sl [(Fld.cells (Fld.mk Qq (s_Kr x1.namespace_))), (Fld.cells (Fld.mk Qg (s_Kp x1.selector)))]] []) (t_Km ([(Fld.mk Qq (s_Kr x1.namespace_)), (Fld.mk Qg (s_Kp x1.selector))]) (Nat.le_of_ble_eq_true rfl)) (by simp only [c_Km, Fld.Q12, Fld.Q1c]))] (by kernel_rfl) hr
theorem Qvs (p0 : NetworkPolicy) (i0 : Nat) (v0_1 : List Val) (x0 : PolicyRule) (H : Ql2 p0 i0 v0_1 x0) : ∀ (r1 : List Peer) (i1 : Nat) (v1_1 : List Val), List.drop i1 x0.peers = r1 → List.length v1_1 ≤ i1 → Qm1 p0 i0 v0_1 x0 (Qci p0 i0 v0_1 x0 i1 v1_1) (Q1t p0 i0 v0_1 x0 r1 i1 v1_1)
 | [], i1, v1_1, hd, ho1_0 => by
  have hc1 : (decide ((i1 : Int) < ((List.length x0.peers) : Int))) = false := by have := Q10 hd; simp; omega
  rw [Q1t]
  exact Q13q p0 i0 v0_1 x0 H i1 v1_1 ho1_0 hc1
 | x1 :: r1, i1, v1_1, hd, ho1_0 => by
  obtain ⟨hx1, hi1, hd'⟩ := Qz hd
  have hc1 : (decide ((i1 : Int) < ((List.length x0.peers) : Int))) = true := by simp; omega
  rw [Q1t]
  exact Qo4 p0 i0 v0_1 x0 (fun r hr => Q120 p0 i0 v0_1 x0 H x1 i1 v1_1 hx1 hi1 ho1_0 hc1 hr) _ (Qvs p0 i0 v0_1 x0 H r1 (i1 + 1) (v1_1 ++ [(s_Km ([(Fld.mk Qq (s_Kr x1.namespace_)), (Fld.mk Qg (s_Kp x1.selector))]))]) hd' (by first | omega | (simp; omega)))
def Q47 (p0 : NetworkPolicy) : List PolicyRule → Nat → (List Val) → List Val
 | [], _i0, v0_1 =>
  v0_1
 | x0 :: r0, i0, v0_1 =>
  Q47 p0 r0 (i0 + 1) (v0_1 ++ [(s_Km ([(Fld.mk Ql (s_Ki x0.egress)), (Fld.mk Q17 (Val.mk 4 0 eB (Q1t p0 i0 v0_1 x0 x0.peers 0 []) [])), (Fld.mk Qk (s_Kl x0.ports))]))])
def Qta (_p0 : NetworkPolicy) (i0 : Nat) (v0_1 : List Val) : List PV :=
  [.un, .bx 0 0, .bx 1 0, .ms 2 5 0 (List.length v0_1), .int .i64 (i0 : Int)] ++ nuns 84
def Qkj (p0 : NetworkPolicy) (_i0 : Nat) (v0_1 : List Val) : List Ob :=
  [⟨17, 0, true, [.str p0.meta_.kind, .str p0.meta_.namespace_, .str p0.meta_.name, .int .i64 p0.meta_.uid, .int .i64 p0.meta_.version, .int .i64 p0.meta_.generation, .int .i64 p0.meta_.created, .bool p0.meta_.deleting, .int .i64 p0.meta_.deleteAt, .sl (Label.rows p0.meta_.labels), .sl (Owner.rows p0.meta_.owners), .sl (Qj p0.meta_.finalizers), .sl (Manager.rows p0.meta_.managers), .sl (Requirement.rows p0.selector), .bool p0.ingress, .bool p0.egress, .sl (PolicyRule.rows p0.rules)]⟩, ⟨5, 0, true, [.int .i64 0, .int .i64 0, .str eB, .ms 3 5 0 0, .ms 4 6 0 0]⟩, ⟨5, 0, true, (Val.rows v0_1).flatten⟩, ⟨5, 0, true, []⟩, ⟨6, 0, true, []⟩]
def Qk6 (p0 : NetworkPolicy) (i0 : Nat) (v0_1 : List Val) : En := .loop 0 Ir.Qgs Ir.Q18k (Qta p0 i0 v0_1) (Qkj p0 i0 v0_1)
def Qop (p0 : NetworkPolicy) (q0 : List Val) (z : Nat → PV) (_zo : Nat → List PV) : St :=
  ⟨[z 0, .bx 0 0, .bx 1 0, .ms 2 5 0 (List.length q0)] ++ zr z 4 85, [(0, ⟨17, 0, true, [.str p0.meta_.kind, .str p0.meta_.namespace_, .str p0.meta_.name, .int .i64 p0.meta_.uid, .int .i64 p0.meta_.version, .int .i64 p0.meta_.generation, .int .i64 p0.meta_.created, .bool p0.meta_.deleting, .int .i64 p0.meta_.deleteAt, .sl (Label.rows p0.meta_.labels), .sl (Owner.rows p0.meta_.owners), .sl (Qj p0.meta_.finalizers), .sl (Manager.rows p0.meta_.managers), .sl (Requirement.rows p0.selector), .bool p0.ingress, .bool p0.egress, .sl (PolicyRule.rows p0.rules)]⟩), (1, ⟨5, 0, true, [.int .i64 0, .int .i64 0, .str eB, .ms 3 5 0 0, .ms 4 6 0 0]⟩), (2, ⟨5, 0, true, (Val.rows q0).flatten⟩), (3, ⟨5, 0, true, []⟩), (4, ⟨6, 0, true, []⟩)], 325⟩
theorem Qz9 (p0 : NetworkPolicy) (i0 : Nat) (v0_1 : List Val) : VOK (Go.Pv.look (number 0 (Qkj p0 i0 v0_1))) [(2, Val.rows v0_1)] := (VOK.cons (show Seen _ _ from Q2f (ob := ⟨5, 0, true, (Val.rows v0_1).flatten⟩) (Val.Q7 v0_1 5 rfl)) VOK.nil)
def Qm0 (p0 : NetworkPolicy) (e : En) (q : List Val) : Prop := ∃ z zo, Q6 G e (.st (.exit 0) (Qop p0 q z zo))
theorem Qo3 (p0 : NetworkPolicy) {e e' : En} (h : ∀ r, Q6 G e r → Q6 G e' r) : ∀ q, Qm0 p0 e q → Qm0 p0 e' q
  | _, ⟨z, zo, hz⟩ => ⟨z, zo, h _ hz⟩
def Ql1 (p0 : NetworkPolicy) : Prop := (List.length p0.rules ≤ 137438953472) ∧ (∀ (i0 : Nat) (v0_1 : List Val) (x0 : PolicyRule), p0.rules[i0]? = some x0 → List.length v0_1 ≤ i0 → List.length (v0_1 : List Val) ≤ i0 → Ql2 p0 i0 v0_1 x0) ∧ (∀ x0 ∈ p0.rules, H_Kl x0.ports) ∧ (∀ (i0 : Nat) (v0_1 : List Val) (x0 : PolicyRule), p0.rules[i0]? = some x0 → List.length v0_1 ≤ i0 → List.length (v0_1 : List Val) ≤ i0 → List.length ((v0_1 ++ [(s_Km ([(Fld.mk Ql (s_Ki x0.egress)), (Fld.mk Q17 (Val.mk 4 0 eB (Q1t p0 i0 v0_1 x0 x0.peers 0 []) [])), (Fld.mk Qk (s_Kl x0.ports))]))]) : List Val) ≤ (i0 + 1)) ∧ True
def Qpj (p0 : NetworkPolicy) (i0 : Nat) (_v0_1 : List Val) : List PV :=
  [.un, .un, .un, .un, .int .i64 (i0 : Int), .un, .un, .un, .int .i64 (i0 : Int), .bx 0 16, .sl (PolicyRule.rows p0.rules), .int .i64 ((List.length p0.rules) : Int), .bool false]
def Qi9 (_p0 : NetworkPolicy) (_i0 : Nat) (_v0_1 : List Val) : List (Nat × List PV) :=
  []
theorem Q13p (p0 : NetworkPolicy) (_H : Ql1 p0) (i0 : Nat) (v0_1 : List Val) (_ho0_0 : List.length v0_1 ≤ i0) (_ho0_1 : List.length (v0_1 : List Val) ≤ i0) (hc0 : (decide ((i0 : Int) < ((List.length p0.rules) : Int))) = false) : Qm0 p0 (Qk6 p0 i0 v0_1) v0_1 := by
 exact ⟨(envF (Qpj p0 i0 v0_1)), (zoF (Qi9 p0 i0 v0_1)), Qh (Qz9 p0 i0 v0_1) (x := ((.exit 0), Qop p0 v0_1 (envF (Qpj p0 i0 v0_1)) (zoF (Qi9 p0 i0 v0_1)))) [hP 3 (Qn (PolicyRule.rows p0.rules) (List.length p0.rules) (PolicyRule.Q5 p0.rules)), hB 0 hc0] [] (by kernel_rfl)⟩
theorem Q11z (p0 : NetworkPolicy) (H : Ql1 p0) (x0 : PolicyRule) (i0 : Nat) (v0_1 : List Val) (hx0 : p0.rules[i0]? = some x0) (hi0 : i0 < List.length p0.rules) (ho0_0 : List.length v0_1 ≤ i0) (_ho0_1 : List.length (v0_1 : List Val) ≤ i0) (hc0 : (decide ((i0 : Int) < ((List.length p0.rules) : Int))) = true) (z0 : Nat → PV) (zo0 : Nat → List PV) (hl0 : Q6 G (Qci p0 i0 v0_1 x0 0 []) (.st (.exit 2) (Qe8 p0 i0 v0_1 x0 (Q1t p0 i0 v0_1 x0 x0.peers 0 []) z0 zo0))) {r : Rs} (hr : Q6 G (Qk6 p0 (i0 + 1) (v0_1 ++ [(s_Km ([(Fld.mk Ql (s_Ki x0.egress)), (Fld.mk Q17 (Val.mk 4 0 eB (Q1t p0 i0 v0_1 x0 x0.peers 0 []) [])), (Fld.mk Qk (s_Kl x0.ports))]))])) r) : Q6 G (Qk6 p0 i0 v0_1) r := by
 have hB0 := H.1
 exact Qb (Qz9 p0 i0 v0_1) (y := (Qta p0 (i0 + 1) (v0_1 ++ [(s_Km ([(Fld.mk Ql (s_Ki x0.egress)), (Fld.mk Q17 (Val.mk 4 0 eB (Q1t p0 i0 v0_1 x0 x0.peers 0 []) [])), (Fld.mk Qk (s_Kl x0.ports))]))]), Qkj p0 (i0 + 1) (v0_1 ++ [(s_Km ([(Fld.mk Ql (s_Ki x0.egress)), (Fld.mk Q17 (Val.mk 4 0 eB (Q1t p0 i0 v0_1 x0 x0.peers 0 []) [])), (Fld.mk Qk (s_Kl x0.ports))]))]))) [hP 3 (Qn (PolicyRule.rows p0.rules) (List.length p0.rules) (PolicyRule.Q5 p0.rules)), hB 0 hc0, hS 0 true (Val.Q7 v0_1 5 rfl), hS 0 true (Val.Q7 (Q1t p0 i0 v0_1 x0 x0.peers 0 []) 5 rfl), hP 6 (Q1f 3 (PolicyRule.rows p0.rules) i0 _ (PolicyRule.Q9 hx0) rfl), hP 10 (Q1f 3 (PolicyRule.rows p0.rules) i0 _ (PolicyRule.Q9 hx0) rfl), hQ (Val.Q5 (Q1t p0 i0 v0_1 x0 x0.peers 0 [])).symm, hV 7 [(2054, Val.rows (v0_1 ++ [(s_Km ([(Fld.mk Ql (s_Ki x0.egress)), (Fld.mk Q17 (Val.mk 4 0 eB (Q1t p0 i0 v0_1 x0 x0.peers 0 []) [])), (Fld.mk Qk (s_Kl x0.ports))]))]))] (Q2w 2 1990 2054 5 80 0 0 true (Val.rows v0_1) (Val.rows (v0_1 ++ [(s_Km ([(Fld.mk Ql (s_Ki x0.egress)), (Fld.mk Q17 (Val.mk 4 0 eB (Q1t p0 i0 v0_1 x0 x0.peers 0 []) [])), (Fld.mk Qk (s_Kl x0.ports))]))])) (Val.cells (s_Km ([(Fld.mk Ql (s_Ki x0.egress)), (Fld.mk Q17 (Val.mk 4 0 eB (Q1t p0 i0 v0_1 x0 x0.peers 0 []) [])), (Fld.mk Qk (s_Kl x0.ports))]))) (List.length v0_1) (List.length (v0_1 ++ [(s_Km ([(Fld.mk Ql (s_Ki x0.egress)), (Fld.mk Q17 (Val.mk 4 0 eB (Q1t p0 i0 v0_1 x0 x0.peers 0 []) [])), (Fld.mk Qk (s_Kl x0.ports))]))])) rfl (Val.Q5 v0_1).symm (Val.Q5 (v0_1 ++ [(s_Km ([(Fld.mk Ql (s_Ki x0.egress)), (Fld.mk Q17 (Val.mk 4 0 eB (Q1t p0 i0 v0_1 x0 x0.peers 0 []) [])), (Fld.mk Qk (s_Kl x0.ports))]))])).symm (Val.Qv v0_1 (s_Km ([(Fld.mk Ql (s_Ki x0.egress)), (Fld.mk Q17 (Val.mk 4 0 eB (Q1t p0 i0 v0_1 x0 x0.peers 0 []) [])), (Fld.mk Qk (s_Kl x0.ports))]))) (Val.Qd v0_1) rfl (by omega)), hS 0 true (Val.Q7 (v0_1 ++ [(s_Km ([(Fld.mk Ql (s_Ki x0.egress)), (Fld.mk Q17 (Val.mk 4 0 eB (Q1t p0 i0 v0_1 x0 x0.peers 0 []) [])), (Fld.mk Qk (s_Kl x0.ports))]))]) 5 rfl), hP 2 (Q1b i0 (by omega))] [aV [(2, Val.rows v0_1), (3, Val.rows (Q1t p0 i0 v0_1 x0 x0.peers 0 []))] hl0, aN (t_Ki x0.egress), aN (t_Kl x0.ports (H.2.2.1 x0 (Q1q hx0))), aN (Q6x (e' := .call 61 [.sl [(Fld.cells (Fld.mk Ql (s_Ki x0.egress))), (Fld.cells (Fld.mk Q17 (Val.mk 4 0 eB (Q1t p0 i0 v0_1 x0 x0.peers 0 []) []))), (Fld.cells (Fld.mk Qk (s_Kl x0.ports)))]] []) (t_Km ([(Fld.mk Ql (s_Ki x0.egress)), (Fld.mk Q17 (Val.mk 4 0 eB (Q1t p0 i0 v0_1 x0 x0.peers 0 []) [])), (Fld.mk Qk (s_Kl x0.ports))]) (Nat.le_of_ble_eq_true rfl)) (by simp only [c_Km, Fld.Q12, Fld.Q1c]))] (by kernel_rfl) hr
theorem Qvr (p0 : NetworkPolicy) (H : Ql1 p0) : ∀ (r0 : List PolicyRule) (i0 : Nat) (v0_1 : List Val), List.drop i0 p0.rules = r0 → List.length v0_1 ≤ i0 → List.length (v0_1 : List Val) ≤ i0 → Qm0 p0 (Qk6 p0 i0 v0_1) (Q47 p0 r0 i0 v0_1)
 | [], i0, v0_1, hd, ho0_0, ho0_1 => by
  have hc0 : (decide ((i0 : Int) < ((List.length p0.rules) : Int))) = false := by have := Q10 hd; simp; omega
  rw [Q47]
  exact Q13p p0 H i0 v0_1 ho0_0 ho0_1 hc0
 | x0 :: r0, i0, v0_1, hd, ho0_0, ho0_1 => by
  obtain ⟨hx0, hi0, hd'⟩ := Qz hd
  have hc0 : (decide ((i0 : Int) < ((List.length p0.rules) : Int))) = true := by simp; omega
  rw [Q47]
  have hl0 := Qvs p0 i0 v0_1 x0 ((H.2.1 i0 v0_1 x0 hx0 ho0_0 ho0_1)) x0.peers 0 [] (by simp) (by simp)
  obtain ⟨z0, zo0, hl0⟩ := hl0
  exact Qo3 p0 (fun r hr => Q11z p0 H x0 i0 v0_1 hx0 hi0 ho0_0 ho0_1 hc0 z0 zo0 hl0 hr) _ (Qvr p0 H r0 (i0 + 1) (v0_1 ++ [(s_Km ([(Fld.mk Ql (s_Ki x0.egress)), (Fld.mk Q17 (Val.mk 4 0 eB (Q1t p0 i0 v0_1 x0 x0.peers 0 []) [])), (Fld.mk Qk (s_Kl x0.ports))]))]) hd' (by first | omega | (simp; omega)) ((H.2.2.2.1 i0 v0_1 x0 hx0 ho0_0 ho0_1)))
def s_Kn (p0 : NetworkPolicy) : Val := NetworkPolicy.encS p0
theorem Q12f (p0 : NetworkPolicy) : ∀ (l : List PolicyRule) (i : Nat) (a : List Val), Q47 p0 l i a = a ++ l.map PolicyRule.enc
  | [], _, _ => by rw [Q47]; simp
  | x :: l, i, a => by
    rw [Q47]
    simp only [Q114, List.nil_append]
    refine (Q12f p0 l (i + 1) _).trans ?_
    rw [List.append_assoc]
    refine congrArg (fun z => a ++ z) (congrArg (fun z => z :: l.map PolicyRule.enc) ?_)
    kernel_rfl
theorem e_Kn (p0 : NetworkPolicy) : s_Kn p0 = ((s_Km ([(Fld.mk Qg (s_Kp p0.selector)), (Fld.mk Qx (s_Ki p0.ingress)), (Fld.mk Ql (s_Ki p0.egress)), (Fld.mk Q13 (Val.mk 4 0 eB (Q47 p0 p0.rules 0 []) []))]))) := by
  rw [Q12f]
  kernel_rfl
def c_Kn (p0 : NetworkPolicy) : En := .call 21 [.agg (NetworkPolicy.cells p0)] []
def a_Kn (p0 : NetworkPolicy) : Rs := .ret (.agg (Val.cells (s_Kn p0))) []
def H_Kn (p0 : NetworkPolicy) : Prop := NetworkPolicy.sm p0
theorem Qs4 (p0 : NetworkPolicy) (H : H_Kn p0) : (Ql1 p0) ∧ (List.length ([] : List Val) ≤ 0) ∧ (H_Kp p0.selector) ∧ True := by
  have H' : NetworkPolicy.sm p0 := H
  have hm : ∀ (i : Nat) (x : PolicyRule), p0.rules[i]? = some x → PolicyRule.sm x := fun i x h => H'.2.1.2 x (List.mem_of_getElem? h)
  exact ⟨⟨Nat.le_trans H'.2.1.1 (Nat.le_of_ble_eq_true rfl), fun i v x h _ _ => ⟨Nat.le_trans (hm i x h).1.1 (Nat.le_of_ble_eq_true rfl), fun y hy => ((hm i x h).1.2 y hy).1, h, trivial⟩, fun x hx => (H'.2.1.2 x hx).2.1, fun i v x h g _ => by rw [List.length_append]; exact Nat.add_le_add_right g 1, trivial⟩, Nat.le_refl 0, H'.1, trivial⟩
theorem t_Kn (p0 : NetworkPolicy) (H : H_Kn p0) : Q6 G (c_Kn p0) (a_Kn p0) := by
 unfold a_Kn
 rw [e_Kn]
 have hl0 := Qvr p0 ((Qs4 p0 H).1) p0.rules 0 [] (by simp) (by simp) ((Qs4 p0 H).2.1)
 obtain ⟨z0, zo0, hl0⟩ := hl0
 exact Q8 (fn := Ir.Kn) rfl VOK.nil [hS 0 true (Val.Q7 (Q47 p0 p0.rules 0 []) 5 rfl), hQ (Val.Q5 (Q47 p0 p0.rules 0 [])).symm] [aV [(2, Val.rows (Q47 p0 p0.rules 0 []))] hl0, aN (t_Kp p0.selector (Qs4 p0 H).2.2.1), aN (t_Ki p0.ingress), aN (t_Ki p0.egress), aN (Q6x (e' := .call 61 [.sl [(Fld.cells (Fld.mk Qg (s_Kp p0.selector))), (Fld.cells (Fld.mk Qx (s_Ki p0.ingress))), (Fld.cells (Fld.mk Ql (s_Ki p0.egress))), (Fld.cells (Fld.mk Q13 (Val.mk 4 0 eB (Q47 p0 p0.rules 0 []) [])))]] []) (t_Km ([(Fld.mk Qg (s_Kp p0.selector)), (Fld.mk Qx (s_Ki p0.ingress)), (Fld.mk Ql (s_Ki p0.egress)), (Fld.mk Q13 (Val.mk 4 0 eB (Q47 p0 p0.rules 0 []) []))]) (Nat.le_of_ble_eq_true rfl)) (by simp only [c_Km, Fld.Q12, Fld.Q1c]))] (by kernel_rfl)
def s_Ku (p0 : NetworkPolicy) : Object := NetworkPolicy.obj p0
theorem e_Ku (p0 : NetworkPolicy) : s_Ku p0 = ((s_Kw Qc p0.meta_ (s_Kn p0) (s_K8 []))) := by
  first | rfl | kernel_rfl
def c_Ku (p0 : NetworkPolicy) : En := .call 6 [.agg (NetworkPolicy.cells p0)] []
def a_Ku (p0 : NetworkPolicy) : Rs := .ret (.agg (Object.cells (s_Ku p0))) []
def H_Ku (p0 : NetworkPolicy) : Prop := NetworkPolicy.sm p0
theorem Q10h (p0 : NetworkPolicy) (H : H_Ku p0) : (H_Kn p0) ∧ (H_K8 []) ∧ True := by
  exact ⟨(by first | exact True.intro | exact H | exact H.1 | exact H.2.1), ⟨Nat.le_of_ble_eq_true rfl, List.forall_mem_nil _⟩, trivial⟩
theorem t_Ku (p0 : NetworkPolicy) (H : H_Ku p0) : Q6 G (c_Ku p0) (a_Ku p0) := by
 unfold a_Ku
 rw [e_Ku]
 exact Q8 (fn := Ir.Ku) rfl VOK.nil [] [aN (t_Kn p0 (Q10h p0 H).1), aN (t_K8 [] (Q10h p0 H).2.1), aN (t_Kw Qc p0.meta_ (s_Kn p0) (s_K8 []))] (by kernel_rfl)
end Go.Proofs.YtbagpdebihicnaaGreat
end

section
/- Equality of metadata and objects that are the same; what is small (printed by a program). -/
namespace Go.Proofs.YtbagpdebihicnaaGreat
open Go.Pv
def s_Ke (p0 : BA) (p1 : BA) (p2 : BA) : ByteArray :=
 ((((p0 ++ (⟨#[47]⟩ : BA)) ++ p1) ++ (⟨#[47]⟩ : BA)) ++ p2)
def c_Ke (p0 : BA) (p1 : BA) (p2 : BA) : En := .call 103 [.str p0, .str p1, .str p2] []
def a_Ke (p0 : BA) (p1 : BA) (p2 : BA) : Rs := .ret (.str (s_Ke p0 p1 p2)) []
def H_Ke (p0 : BA) (p1 : BA) (p2 : BA) : Prop := (ByteArray.size p0 + ByteArray.size (⟨#[47]⟩ : BA) ≤ 9223372036854775807) ∧ (ByteArray.size (p0 ++ (⟨#[47]⟩ : BA)) + ByteArray.size p1 ≤ 9223372036854775807) ∧ (ByteArray.size ((p0 ++ (⟨#[47]⟩ : BA)) ++ p1) + ByteArray.size (⟨#[47]⟩ : BA) ≤ 9223372036854775807) ∧ (ByteArray.size (((p0 ++ (⟨#[47]⟩ : BA)) ++ p1) ++ (⟨#[47]⟩ : BA)) + ByteArray.size p2 ≤ 9223372036854775807) ∧ True
theorem t_Ke (p0 : BA) (p1 : BA) (p2 : BA) (H : H_Ke p0 p1 p2) : Q6 G (c_Ke p0 p1 p2) (a_Ke p0 p1 p2) := by
 unfold a_Ke s_Ke
 exact Q8 (fn := Ir.Ke) rfl VOK.nil [hP 2 (Qui p0 (⟨#[47]⟩ : BA) H.1), hP 1 (Qui (p0 ++ (⟨#[47]⟩ : BA)) p1 H.2.1), hP 0 (Qui ((p0 ++ (⟨#[47]⟩ : BA)) ++ p1) (⟨#[47]⟩ : BA) H.2.2.1), hP 1 (Qui (((p0 ++ (⟨#[47]⟩ : BA)) ++ p1) ++ (⟨#[47]⟩ : BA)) p2 H.2.2.2.1)] [] (by kernel_rfl)
def s_Kf (p0 : Meta) : ByteArray :=
 (s_Ke p0.kind p0.namespace_ p0.name)
def c_Kf (p0 : Meta) : En := .call 75 [.agg (Meta.cells p0)] []
def a_Kf (p0 : Meta) : Rs := .ret (.str (s_Kf p0)) []
def H_Kf (p0 : Meta) : Prop := (H_Ke p0.kind p0.namespace_ p0.name) ∧ True
theorem t_Kf (p0 : Meta) (H : H_Kf p0) : Q6 G (c_Kf p0) (a_Kf p0) := by
 unfold a_Kf s_Kf
 exact Q8 (fn := Ir.Kf) rfl VOK.nil [] [aN (t_Ke p0.kind p0.namespace_ p0.name H.1)] (by kernel_rfl)
def Q10r (p0 : Meta) : List Label → Nat → Unit
 | [], _i0 =>
  ()
 | _x0 :: r0, i0 =>
  Q10r p0 r0 (i0 + 1)
def Qt3 (_p0 : Meta) (i0 : Nat) : List PV :=
  [.un, .un, .bx 0 0, .bx 1 0, .un, .int .i64 (i0 : Int)] ++ nuns 168
def Qto (p0 : Meta) (_i0 : Nat) : List Ob :=
  [⟨13, 0, true, [.str p0.kind, .str p0.namespace_, .str p0.name, .int .i64 p0.uid, .int .i64 p0.version, .int .i64 p0.generation, .int .i64 p0.created, .bool p0.deleting, .int .i64 p0.deleteAt, .sl (Label.rows p0.labels), .sl (Owner.rows p0.owners), .sl (Qj p0.finalizers), .sl (Manager.rows p0.managers)]⟩, ⟨13, 0, true, [.str p0.kind, .str p0.namespace_, .str p0.name, .int .i64 p0.uid, .int .i64 p0.version, .int .i64 p0.generation, .int .i64 p0.created, .bool p0.deleting, .int .i64 p0.deleteAt, .sl (Label.rows p0.labels), .sl (Owner.rows p0.owners), .sl (Qj p0.finalizers), .sl (Manager.rows p0.managers)]⟩]
def Qk0 (p0 : Meta) (i0 : Nat) : En := .loop 0 Ir.Qgk Ir.Q18c (Qt3 p0 i0) (Qto p0 i0)
def Qoi (p0 : Meta) (z : Nat → PV) (_zo : Nat → List PV) : St :=
  ⟨[z 0, z 1, .bx 0 0, .bx 1 0] ++ zr z 4 170, [(0, ⟨13, 0, true, [.str p0.kind, .str p0.namespace_, .str p0.name, .int .i64 p0.uid, .int .i64 p0.version, .int .i64 p0.generation, .int .i64 p0.created, .bool p0.deleting, .int .i64 p0.deleteAt, .sl (Label.rows p0.labels), .sl (Owner.rows p0.owners), .sl (Qj p0.finalizers), .sl (Manager.rows p0.managers)]⟩), (1, ⟨13, 0, true, [.str p0.kind, .str p0.namespace_, .str p0.name, .int .i64 p0.uid, .int .i64 p0.version, .int .i64 p0.generation, .int .i64 p0.created, .bool p0.deleting, .int .i64 p0.deleteAt, .sl (Label.rows p0.labels), .sl (Owner.rows p0.owners), .sl (Qj p0.finalizers), .sl (Manager.rows p0.managers)]⟩)], 322⟩
def Q9x (p0 : Meta) (e : En) (_q : Unit) : Prop := ∃ z zo, Q6 G e (.st (.exit 0) (Qoi p0 z zo))
theorem Qnw (p0 : Meta) {e e' : En} (h : ∀ r, Q6 G e r → Q6 G e' r) : ∀ q, Q9x p0 e q → Q9x p0 e' q
  | _, ⟨z, zo, hz⟩ => ⟨z, zo, h _ hz⟩
def Qkv (p0 : Meta) : Prop := (List.length p0.labels ≤ 4611686018427387904) ∧ True
def Qpa (p0 : Meta) (i0 : Nat) : List PV :=
  nuns 5 ++ [.int .i64 (i0 : Int)] ++ nuns 96 ++ [.int .i64 (i0 : Int), .bx 0 9, .sl (Label.rows p0.labels), .int .i64 ((List.length p0.labels) : Int), .bool false]
def Qi0 (_p0 : Meta) (_i0 : Nat) : List (Nat × List PV) :=
  []
theorem Q13g (p0 : Meta) (_H : Qkv p0) (i0 : Nat) (hc0 : (decide ((i0 : Int) < ((List.length p0.labels) : Int))) = false) : Q9x p0 (Qk0 p0 i0) () := by
 exact ⟨(envF (Qpa p0 i0)), (zoF (Qi0 p0 i0)), Qh VOK.nil (x := ((.exit 0), Qoi p0 (envF (Qpa p0 i0)) (zoF (Qi0 p0 i0)))) [hP 3 (Qn (Label.rows p0.labels) (List.length p0.labels) (Label.Q5 p0.labels)), hB 0 hc0] [] (by kernel_rfl)⟩
theorem Q11q (p0 : Meta) (H : Qkv p0) (x0 : Label) (i0 : Nat) (hx0 : p0.labels[i0]? = some x0) (hi0 : i0 < List.length p0.labels) (hc0 : (decide ((i0 : Int) < ((List.length p0.labels) : Int))) = true) {r : Rs} (hr : Q6 G (Qk0 p0 (i0 + 1)) r) : Q6 G (Qk0 p0 i0) r := by
 have hB0 := H.1
 exact Qb VOK.nil (y := (Qt3 p0 (i0 + 1), Qto p0 (i0 + 1))) [hP 3 (Qn (Label.rows p0.labels) (List.length p0.labels) (Label.Q5 p0.labels)), hB 0 hc0, hP 3 (Q1f 2 (Label.rows p0.labels) i0 _ (Label.Q9 hx0) rfl), hP 4 (Q1f 2 (Label.rows p0.labels) i0 _ (Label.Q9 hx0) rfl), hP 1 (dec (!((sEq x0.key x0.key) && ((sEq x0.value x0.value) && true))) false (by rw [(Qet (Q2o.2 rfl) (Qet (Q2o.2 rfl) rfl))]; rfl)), hP 1 (Q1b i0 (by omega))] [] (by kernel_rfl) hr
theorem Qvk (p0 : Meta) (H : Qkv p0) : ∀ (r0 : List Label) (i0 : Nat), List.drop i0 p0.labels = r0 → Q9x p0 (Qk0 p0 i0) (Q10r p0 r0 i0)
 | [], i0, hd => by
  have hc0 : (decide ((i0 : Int) < ((List.length p0.labels) : Int))) = false := by have := Q10 hd; simp; omega
  show Q9x p0 _ ()
  exact Q13g p0 H i0 hc0
 | x0 :: r0, i0, hd => by
  obtain ⟨hx0, hi0, hd'⟩ := Qz hd
  have hc0 : (decide ((i0 : Int) < ((List.length p0.labels) : Int))) = true := by simp; omega
  show Q9x p0 _ ()
  exact Qnw p0 (fun r hr => Q11q p0 H x0 i0 hx0 hi0 hc0 hr) _ (Qvk p0 H r0 (i0 + 1) hd')
def Q10s (p0 : Meta) : List Owner → Nat → Unit
 | [], _i1 =>
  ()
 | _x1 :: r1, i1 =>
  Q10s p0 r1 (i1 + 1)
def Qt4 (_p0 : Meta) (i1 : Nat) : List PV :=
  [.un, .un, .bx 0 0, .bx 1 0, .un, .un, .int .i64 (i1 : Int)] ++ nuns 167
def Qtp (p0 : Meta) (_i1 : Nat) : List Ob :=
  [⟨13, 0, true, [.str p0.kind, .str p0.namespace_, .str p0.name, .int .i64 p0.uid, .int .i64 p0.version, .int .i64 p0.generation, .int .i64 p0.created, .bool p0.deleting, .int .i64 p0.deleteAt, .sl (Label.rows p0.labels), .sl (Owner.rows p0.owners), .sl (Qj p0.finalizers), .sl (Manager.rows p0.managers)]⟩, ⟨13, 0, true, [.str p0.kind, .str p0.namespace_, .str p0.name, .int .i64 p0.uid, .int .i64 p0.version, .int .i64 p0.generation, .int .i64 p0.created, .bool p0.deleting, .int .i64 p0.deleteAt, .sl (Label.rows p0.labels), .sl (Owner.rows p0.owners), .sl (Qj p0.finalizers), .sl (Manager.rows p0.managers)]⟩]
def Qk1 (p0 : Meta) (i1 : Nat) : En := .loop 0 Ir.Qgl Ir.Q18d (Qt4 p0 i1) (Qtp p0 i1)
def Qoj (p0 : Meta) (z : Nat → PV) (_zo : Nat → List PV) : St :=
  ⟨[z 0, z 1, .bx 0 0, .bx 1 0] ++ zr z 4 170, [(0, ⟨13, 0, true, [.str p0.kind, .str p0.namespace_, .str p0.name, .int .i64 p0.uid, .int .i64 p0.version, .int .i64 p0.generation, .int .i64 p0.created, .bool p0.deleting, .int .i64 p0.deleteAt, .sl (Label.rows p0.labels), .sl (Owner.rows p0.owners), .sl (Qj p0.finalizers), .sl (Manager.rows p0.managers)]⟩), (1, ⟨13, 0, true, [.str p0.kind, .str p0.namespace_, .str p0.name, .int .i64 p0.uid, .int .i64 p0.version, .int .i64 p0.generation, .int .i64 p0.created, .bool p0.deleting, .int .i64 p0.deleteAt, .sl (Label.rows p0.labels), .sl (Owner.rows p0.owners), .sl (Qj p0.finalizers), .sl (Manager.rows p0.managers)]⟩)], 322⟩
def Q9y (p0 : Meta) (e : En) (_q : Unit) : Prop := ∃ z zo, Q6 G e (.st (.exit 2) (Qoj p0 z zo))
theorem Qnx (p0 : Meta) {e e' : En} (h : ∀ r, Q6 G e r → Q6 G e' r) : ∀ q, Q9y p0 e q → Q9y p0 e' q
  | _, ⟨z, zo, hz⟩ => ⟨z, zo, h _ hz⟩
def Qkw (p0 : Meta) : Prop := (List.length p0.owners ≤ 4611686018427387904) ∧ True
def Qpb (p0 : Meta) (i1 : Nat) : List PV :=
  nuns 6 ++ [.int .i64 (i1 : Int)] ++ nuns 113 ++ [.int .i64 (i1 : Int), .bx 0 10, .sl (Owner.rows p0.owners), .int .i64 ((List.length p0.owners) : Int), .bool false]
def Qi1 (_p0 : Meta) (_i1 : Nat) : List (Nat × List PV) :=
  []
theorem Q13h (p0 : Meta) (_H : Qkw p0) (i1 : Nat) (hc1 : (decide ((i1 : Int) < ((List.length p0.owners) : Int))) = false) : Q9y p0 (Qk1 p0 i1) () := by
 exact ⟨(envF (Qpb p0 i1)), (zoF (Qi1 p0 i1)), Qh VOK.nil (x := ((.exit 2), Qoj p0 (envF (Qpb p0 i1)) (zoF (Qi1 p0 i1)))) [hP 3 (Qn (Owner.rows p0.owners) (List.length p0.owners) (Owner.Q5 p0.owners)), hB 0 hc1] [] (by kernel_rfl)⟩
theorem Q11r (p0 : Meta) (H : Qkw p0) (x1 : Owner) (i1 : Nat) (hx1 : p0.owners[i1]? = some x1) (hi1 : i1 < List.length p0.owners) (hc1 : (decide ((i1 : Int) < ((List.length p0.owners) : Int))) = true) {r : Rs} (hr : Q6 G (Qk1 p0 (i1 + 1)) r) : Q6 G (Qk1 p0 i1) r := by
 have hB0 := H.1
 exact Qb VOK.nil (y := (Qt4 p0 (i1 + 1), Qtp p0 (i1 + 1))) [hP 3 (Qn (Owner.rows p0.owners) (List.length p0.owners) (Owner.Q5 p0.owners)), hB 0 hc1, hP 3 (Q1f 5 (Owner.rows p0.owners) i1 _ (Owner.Q9 hx1) rfl), hP 4 (Q1f 5 (Owner.rows p0.owners) i1 _ (Owner.Q9 hx1) rfl), hP 1 (dec (!((sEq x1.kind x1.kind) && ((sEq x1.name x1.name) && ((x1.uid == x1.uid) && ((x1.controller == x1.controller) && ((x1.block == x1.block) && true)))))) false (by rw [(Qet (Q2o.2 rfl) (Qet (Q2o.2 rfl) (Qet (beq_self_eq_true _) (Qet (beq_self_eq_true _) (Qet (beq_self_eq_true _) rfl)))))]; rfl)), hP 1 (Q1b i1 (by omega))] [] (by kernel_rfl) hr
theorem Qvl (p0 : Meta) (H : Qkw p0) : ∀ (r1 : List Owner) (i1 : Nat), List.drop i1 p0.owners = r1 → Q9y p0 (Qk1 p0 i1) (Q10s p0 r1 i1)
 | [], i1, hd => by
  have hc1 : (decide ((i1 : Int) < ((List.length p0.owners) : Int))) = false := by have := Q10 hd; simp; omega
  show Q9y p0 _ ()
  exact Q13h p0 H i1 hc1
 | x1 :: r1, i1, hd => by
  obtain ⟨hx1, hi1, hd'⟩ := Qz hd
  have hc1 : (decide ((i1 : Int) < ((List.length p0.owners) : Int))) = true := by simp; omega
  show Q9y p0 _ ()
  exact Qnx p0 (fun r hr => Q11r p0 H x1 i1 hx1 hi1 hc1 hr) _ (Qvl p0 H r1 (i1 + 1) hd')
def Q10t (p0 : Meta) : List Manager → Nat → Unit
 | [], _i2 =>
  ()
 | _x2 :: r2, i2 =>
  Q10t p0 r2 (i2 + 1)
def Qt5 (_p0 : Meta) (i2 : Nat) : List PV :=
  [.un, .un, .bx 0 0, .bx 1 0, .un, .un, .un, .int .i64 (i2 : Int)] ++ nuns 166
def Qtq (p0 : Meta) (_i2 : Nat) : List Ob :=
  [⟨13, 0, true, [.str p0.kind, .str p0.namespace_, .str p0.name, .int .i64 p0.uid, .int .i64 p0.version, .int .i64 p0.generation, .int .i64 p0.created, .bool p0.deleting, .int .i64 p0.deleteAt, .sl (Label.rows p0.labels), .sl (Owner.rows p0.owners), .sl (Qj p0.finalizers), .sl (Manager.rows p0.managers)]⟩, ⟨13, 0, true, [.str p0.kind, .str p0.namespace_, .str p0.name, .int .i64 p0.uid, .int .i64 p0.version, .int .i64 p0.generation, .int .i64 p0.created, .bool p0.deleting, .int .i64 p0.deleteAt, .sl (Label.rows p0.labels), .sl (Owner.rows p0.owners), .sl (Qj p0.finalizers), .sl (Manager.rows p0.managers)]⟩]
def Qk2 (p0 : Meta) (i2 : Nat) : En := .loop 0 Ir.Qgm Ir.Q18e (Qt5 p0 i2) (Qtq p0 i2)
def Qok (p0 : Meta) (z : Nat → PV) (_zo : Nat → List PV) : St :=
  ⟨zr z 0 174, [(0, ⟨13, 0, true, [.str p0.kind, .str p0.namespace_, .str p0.name, .int .i64 p0.uid, .int .i64 p0.version, .int .i64 p0.generation, .int .i64 p0.created, .bool p0.deleting, .int .i64 p0.deleteAt, .sl (Label.rows p0.labels), .sl (Owner.rows p0.owners), .sl (Qj p0.finalizers), .sl (Manager.rows p0.managers)]⟩), (1, ⟨13, 0, true, [.str p0.kind, .str p0.namespace_, .str p0.name, .int .i64 p0.uid, .int .i64 p0.version, .int .i64 p0.generation, .int .i64 p0.created, .bool p0.deleting, .int .i64 p0.deleteAt, .sl (Label.rows p0.labels), .sl (Owner.rows p0.owners), .sl (Qj p0.finalizers), .sl (Manager.rows p0.managers)]⟩)], 322⟩
def Q9z (p0 : Meta) (e : En) (_q : Unit) : Prop := ∃ z zo, Q6 G e (.st (.exit 4) (Qok p0 z zo))
theorem Qny (p0 : Meta) {e e' : En} (h : ∀ r, Q6 G e r → Q6 G e' r) : ∀ q, Q9z p0 e q → Q9z p0 e' q
  | _, ⟨z, zo, hz⟩ => ⟨z, zo, h _ hz⟩
def Qkx (p0 : Meta) : Prop := (List.length p0.managers ≤ 4611686018427387904) ∧ (∀ x2 ∈ p0.managers, H_Kh x2.fields) ∧ True
def Qpc (p0 : Meta) (i2 : Nat) : List PV :=
  [.un, .un, .bx 0 0, .bx 1 0, .un, .un, .un, .int .i64 (i2 : Int)] ++ nuns 130 ++ [.int .i64 (i2 : Int), .bx 0 12, .sl (Manager.rows p0.managers), .int .i64 ((List.length p0.managers) : Int), .bool false]
def Qi2 (_p0 : Meta) (_i2 : Nat) : List (Nat × List PV) :=
  []
theorem Q13i (p0 : Meta) (_H : Qkx p0) (i2 : Nat) (hc2 : (decide ((i2 : Int) < ((List.length p0.managers) : Int))) = false) : Q9z p0 (Qk2 p0 i2) () := by
 exact ⟨(envF (Qpc p0 i2)), (zoF (Qi2 p0 i2)), Qh VOK.nil (x := ((.exit 4), Qok p0 (envF (Qpc p0 i2)) (zoF (Qi2 p0 i2)))) [hP 3 (Qn (Manager.rows p0.managers) (List.length p0.managers) (Manager.Q5 p0.managers)), hB 0 hc2] [] (by kernel_rfl)⟩
theorem Q11s (p0 : Meta) (H : Qkx p0) (x2 : Manager) (i2 : Nat) (hx2 : p0.managers[i2]? = some x2) (hi2 : i2 < List.length p0.managers) (hc2 : (decide ((i2 : Int) < ((List.length p0.managers) : Int))) = true) {r : Rs} (hr : Q6 G (Qk2 p0 (i2 + 1)) r) : Q6 G (Qk2 p0 i2) r := by
 have hB0 := H.1
 exact Qb VOK.nil (y := (Qt5 p0 (i2 + 1), Qtq p0 (i2 + 1))) [hP 3 (Qn (Manager.rows p0.managers) (List.length p0.managers) (Manager.Q5 p0.managers)), hB 0 hc2, hP 3 (Q1f 2 (Manager.rows p0.managers) i2 _ (Manager.Q9 hx2) rfl), hP 5 (Q1f 2 (Manager.rows p0.managers) i2 _ (Manager.Q9 hx2) rfl), hP 2 (dec (!(sEq x2.name x2.name)) false (by rw [(Q2o.2 rfl)]; rfl)), hP 4 (Q1f 2 (Manager.rows p0.managers) i2 _ (Manager.Q9 hx2) rfl), hP 5 (Q1f 2 (Manager.rows p0.managers) i2 _ (Manager.Q9 hx2) rfl), hP 6 (Q1b i2 (by omega))] [aN (Q4j (c := fun y => .call 76 [.sl (Qj x2.fields), .sl (Qj y)] []) rfl (t_Kh x2.fields (H.2.1 x2 (Q1q hx2))))] (by kernel_rfl) hr
theorem Qvm (p0 : Meta) (H : Qkx p0) : ∀ (r2 : List Manager) (i2 : Nat), List.drop i2 p0.managers = r2 → Q9z p0 (Qk2 p0 i2) (Q10t p0 r2 i2)
 | [], i2, hd => by
  have hc2 : (decide ((i2 : Int) < ((List.length p0.managers) : Int))) = false := by have := Q10 hd; simp; omega
  show Q9z p0 _ ()
  exact Q13i p0 H i2 hc2
 | x2 :: r2, i2, hd => by
  obtain ⟨hx2, hi2, hd'⟩ := Qz hd
  have hc2 : (decide ((i2 : Int) < ((List.length p0.managers) : Int))) = true := by simp; omega
  show Q9z p0 _ ()
  exact Qny p0 (fun r hr => Q11s p0 H x2 i2 hx2 hi2 hc2 hr) _ (Qvm p0 H r2 (i2 + 1) hd')
def s_Kg (_p0 : Meta) : Bool :=
 true
def c_Kg (p0 : Meta) : En := .call 26 [.agg (Meta.cells p0), .agg (Meta.cells p0)] []
def a_Kg (p0 : Meta) : Rs := .ret (.bool (s_Kg p0)) []
def H_Kg (p0 : Meta) : Prop := (H_Kf p0) ∧ (H_Kh p0.finalizers) ∧ (Qkv p0) ∧ (Qkw p0) ∧ (Qkx p0) ∧ True
theorem t_Kg (p0 : Meta) (H : H_Kg p0) : Q6 G (c_Kg p0) (a_Kg p0) := by
 unfold a_Kg s_Kg
 have hl0 := Qvk p0 (H.2.2.1) p0.labels 0 (by simp)
 obtain ⟨z0, zo0, hl0⟩ := hl0
 have hl1 := Qvl p0 (H.2.2.2.1) p0.owners 0 (by simp)
 obtain ⟨z1, zo1, hl1⟩ := hl1
 have hl2 := Qvm p0 (H.2.2.2.2.1) p0.managers 0 (by simp)
 obtain ⟨z2, zo2, hl2⟩ := hl2
 exact Q8 (fn := Ir.Kg) rfl VOK.nil [hP 7 (dec (!(sEq (s_Kf p0) (s_Kf p0))) false (by rw [(Q2o.2 rfl)]; rfl)), hP 5 (dec (!(sEq p0.kind p0.kind)) false (by rw [(Q2o.2 rfl)]; rfl)), hP 6 (dec (!(sEq p0.namespace_ p0.namespace_)) false (by rw [(Q2o.2 rfl)]; rfl)), hP 6 (dec (!(p0.uid == p0.uid)) false (by rw [(beq_self_eq_true _)]; rfl)), hP 6 (dec (!(p0.version == p0.version)) false (by rw [(beq_self_eq_true _)]; rfl)), hP 6 (dec (!(p0.generation == p0.generation)) false (by rw [(beq_self_eq_true _)]; rfl)), hP 6 (dec (!(p0.created == p0.created)) false (by rw [(beq_self_eq_true _)]; rfl)), hP 6 (dec (!(p0.deleting == p0.deleting)) false (by rw [(beq_self_eq_true _)]; rfl)), hP 6 (dec (!(p0.deleteAt == p0.deleteAt)) false (by rw [(beq_self_eq_true _)]; rfl)), hP 3 (Qn (Label.rows p0.labels) (List.length p0.labels) (Label.Q5 p0.labels)), hP 2 (Qn (Label.rows p0.labels) (List.length p0.labels) (Label.Q5 p0.labels)), hP 0 (dec (!(((List.length p0.labels) : Int) == ((List.length p0.labels) : Int))) false (by rw [(beq_self_eq_true _)]; rfl)), hP 3 (Qn (Owner.rows p0.owners) (List.length p0.owners) (Owner.Q5 p0.owners)), hP 2 (Qn (Owner.rows p0.owners) (List.length p0.owners) (Owner.Q5 p0.owners)), hP 0 (dec (!(((List.length p0.owners) : Int) == ((List.length p0.owners) : Int))) false (by rw [(beq_self_eq_true _)]; rfl)), hP 4 (Qn (Manager.rows p0.managers) (List.length p0.managers) (Manager.Q5 p0.managers)), hP 2 (Qn (Manager.rows p0.managers) (List.length p0.managers) (Manager.Q5 p0.managers)), hP 0 (dec (!(((List.length p0.managers) : Int) == ((List.length p0.managers) : Int))) false (by rw [(beq_self_eq_true _)]; rfl))] [aN (t_Kf p0 H.1), aN (t_Kf p0 H.1), aN (Q4j (c := fun y => .call 76 [.sl (Qj p0.finalizers), .sl (Qj y)] []) rfl (t_Kh p0.finalizers H.2.1)), aN hl0, aN hl1, aN hl2] (by kernel_rfl)
def s_Kd (_p0 : Object) : Bool :=
 true
def c_Kd (p0 : Object) : En := .call 9 [.agg (Object.cells p0), .agg (Object.cells p0)] []
def a_Kd (p0 : Object) : Rs := .ret (.bool (s_Kd p0)) []
def H_Kd (p0 : Object) : Prop := (H_Kg p0.meta_) ∧ (H_K5 p0.spec) ∧ (H_K5 p0.status) ∧ True
theorem t_Kd (p0 : Object) (H : H_Kd p0) : Q6 G (c_Kd p0) (a_Kd p0) := by
 unfold a_Kd s_Kd
 exact Q8 (fn := Ir.Kd) rfl VOK.nil [] [aN (Q4j (c := fun y => .call 26 [.agg (Meta.cells p0.meta_), .agg (Meta.cells y)] []) rfl (t_Kg p0.meta_ H.1)), aN (Q4j (c := fun y => .call 27 [.agg (Val.cells p0.spec), .agg (Val.cells y)] []) rfl (t_K5 p0.spec H.2.1)), aN (Q4j (c := fun y => .call 27 [.agg (Val.cells p0.status), .agg (Val.cells y)] []) rfl (t_K5 p0.status H.2.2.1))] (by kernel_rfl)
inductive Qz4 where
  | k0
  | k1
def Q88 (p0 : Object) : List Manager → Nat → Qz4
 | [], _i0 =>
  (.k0)
 | x0 :: r0, i0 =>
  bif (decide (60 < ((List.length x0.fields) : Int))) then
   (.k1)
  else
   Q88 p0 r0 (i0 + 1)
def Qsv (_p0 : Object) (i0 : Nat) : List PV :=
  [.un, .bx 0 0, .un, .bx 1 0, .int .i64 (i0 : Int)] ++ nuns 47
def Qti (p0 : Object) (_i0 : Nat) : List Ob :=
  [⟨23, 0, true, [.str p0.meta_.kind, .str p0.meta_.namespace_, .str p0.meta_.name, .int .i64 p0.meta_.uid, .int .i64 p0.meta_.version, .int .i64 p0.meta_.generation, .int .i64 p0.meta_.created, .bool p0.meta_.deleting, .int .i64 p0.meta_.deleteAt, .sl (Label.rows p0.meta_.labels), .sl (Owner.rows p0.meta_.owners), .sl (Qj p0.meta_.finalizers), .sl (Manager.rows p0.meta_.managers), .int .i64 p0.spec.kind, .int .i64 p0.spec.n, .str p0.spec.s, .sl (Val.rows p0.spec.list), .sl (Fld.rows p0.spec.fields), .int .i64 p0.status.kind, .int .i64 p0.status.n, .str p0.status.s, .sl (Val.rows p0.status.list), .sl (Fld.rows p0.status.fields)]⟩, ⟨13, 0, true, [.str p0.meta_.kind, .str p0.meta_.namespace_, .str p0.meta_.name, .int .i64 p0.meta_.uid, .int .i64 p0.meta_.version, .int .i64 p0.meta_.generation, .int .i64 p0.meta_.created, .bool p0.meta_.deleting, .int .i64 p0.meta_.deleteAt, .sl (Label.rows p0.meta_.labels), .sl (Owner.rows p0.meta_.owners), .sl (Qj p0.meta_.finalizers), .sl (Manager.rows p0.meta_.managers)]⟩]
def Q7y (p0 : Object) (i0 : Nat) : En := .loop 0 Ir.Qgb Ir.Q183 (Qsv p0 i0) (Qti p0 i0)
def Qe4 (p0 : Object) (z : Nat → PV) (_zo : Nat → List PV) : St :=
  ⟨[z 0, .bx 0 0] ++ zr z 2 50, [(0, ⟨23, 0, true, [.str p0.meta_.kind, .str p0.meta_.namespace_, .str p0.meta_.name, .int .i64 p0.meta_.uid, .int .i64 p0.meta_.version, .int .i64 p0.meta_.generation, .int .i64 p0.meta_.created, .bool p0.meta_.deleting, .int .i64 p0.meta_.deleteAt, .sl (Label.rows p0.meta_.labels), .sl (Owner.rows p0.meta_.owners), .sl (Qj p0.meta_.finalizers), .sl (Manager.rows p0.meta_.managers), .int .i64 p0.spec.kind, .int .i64 p0.spec.n, .str p0.spec.s, .sl (Val.rows p0.spec.list), .sl (Fld.rows p0.spec.fields), .int .i64 p0.status.kind, .int .i64 p0.status.n, .str p0.status.s, .sl (Val.rows p0.status.list), .sl (Fld.rows p0.status.fields)]⟩), (1, ⟨13, 0, true, [.str p0.meta_.kind, .str p0.meta_.namespace_, .str p0.meta_.name, .int .i64 p0.meta_.uid, .int .i64 p0.meta_.version, .int .i64 p0.meta_.generation, .int .i64 p0.meta_.created, .bool p0.meta_.deleting, .int .i64 p0.meta_.deleteAt, .sl (Label.rows p0.meta_.labels), .sl (Owner.rows p0.meta_.owners), .sl (Qj p0.meta_.finalizers), .sl (Manager.rows p0.meta_.managers)]⟩)], 322⟩
def Qe5 (_p0 : Object) (z : Nat → PV) (zo : Nat → List PV) : St :=
  ⟨[z 0, z 1, .bool false] ++ zr z 3 49, [(0, ⟨23, 0, true, zo 0⟩), (1, ⟨13, 0, true, zo 1⟩)], 898⟩
def Qdx (p0 : Object) (e : En) : Qz4 → Prop
  | .k0 => ∃ z zo, Q6 G e (.st (.exit 0) (Qe4 p0 z zo))
  | .k1 => ∃ z zo, Q6 G e (.st .ret (Qe5 p0 z zo))
theorem Qno (p0 : Object) {e e' : En} (h : ∀ r, Q6 G e r → Q6 G e' r) : ∀ q, Qdx p0 e q → Qdx p0 e' q
  | .k0, ⟨z, zo, hz⟩ => ⟨z, zo, h _ hz⟩
  | .k1, ⟨z, zo, hz⟩ => ⟨z, zo, h _ hz⟩
def Qd1 (p0 : Object) : Prop := (List.length p0.meta_.managers ≤ 4611686018427387904) ∧ True
def Qox (p0 : Object) (i0 : Nat) : List PV :=
  [.un, .un, .un, .bx 1 0, .int .i64 (i0 : Int)] ++ nuns 24 ++ [.int .i64 (i0 : Int), .bx 1 12, .sl (Manager.rows p0.meta_.managers), .int .i64 ((List.length p0.meta_.managers) : Int), .bool false]
def Qhn (_p0 : Object) (_i0 : Nat) : List (Nat × List PV) :=
  []
theorem Q133 (p0 : Object) (_H : Qd1 p0) (i0 : Nat) (hc0 : (decide ((i0 : Int) < ((List.length p0.meta_.managers) : Int))) = false) : Qdx p0 (Q7y p0 i0) (.k0) := by
 exact ⟨(envF (Qox p0 i0)), (zoF (Qhn p0 i0)), Qh VOK.nil (x := ((.exit 0), Qe4 p0 (envF (Qox p0 i0)) (zoF (Qhn p0 i0)))) [hP 3 (Qn (Manager.rows p0.meta_.managers) (List.length p0.meta_.managers) (Manager.Q5 p0.meta_.managers)), hB 0 hc0] [] (by kernel_rfl)⟩
def Qoy (p0 : Object) (i0 : Nat) (x0 : Manager) : List PV :=
  [.un, .bx 0 0, .un, .bx 1 0, .int .i64 (i0 : Int)] ++ nuns 24 ++ [.int .i64 (i0 : Int), .bx 1 12, .sl (Manager.rows p0.meta_.managers), .int .i64 ((List.length p0.meta_.managers) : Int), .bool true, .un, .un, .bx 1 12, .sl (Manager.rows p0.meta_.managers), .int .i64 (i0 : Int), .rf [.str x0.name, .sl (Qj x0.fields)], .rf [.sl (Qj x0.fields)], .sl (Qj x0.fields), .int .i64 ((List.length x0.fields) : Int), .bool true]
def Qho (p0 : Object) (_i0 : Nat) (_x0 : Manager) : List (Nat × List PV) :=
  [(0, [.str p0.meta_.kind, .str p0.meta_.namespace_, .str p0.meta_.name, .int .i64 p0.meta_.uid, .int .i64 p0.meta_.version, .int .i64 p0.meta_.generation, .int .i64 p0.meta_.created, .bool p0.meta_.deleting, .int .i64 p0.meta_.deleteAt, .sl (Label.rows p0.meta_.labels), .sl (Owner.rows p0.meta_.owners), .sl (Qj p0.meta_.finalizers), .sl (Manager.rows p0.meta_.managers), .int .i64 p0.spec.kind, .int .i64 p0.spec.n, .str p0.spec.s, .sl (Val.rows p0.spec.list), .sl (Fld.rows p0.spec.fields), .int .i64 p0.status.kind, .int .i64 p0.status.n, .str p0.status.s, .sl (Val.rows p0.status.list), .sl (Fld.rows p0.status.fields)]), (1, [.str p0.meta_.kind, .str p0.meta_.namespace_, .str p0.meta_.name, .int .i64 p0.meta_.uid, .int .i64 p0.meta_.version, .int .i64 p0.meta_.generation, .int .i64 p0.meta_.created, .bool p0.meta_.deleting, .int .i64 p0.meta_.deleteAt, .sl (Label.rows p0.meta_.labels), .sl (Owner.rows p0.meta_.owners), .sl (Qj p0.meta_.finalizers), .sl (Manager.rows p0.meta_.managers)])]
theorem Q134 (p0 : Object) (_H : Qd1 p0) (x0 : Manager) (i0 : Nat) (hx0 : p0.meta_.managers[i0]? = some x0) (_hi0 : i0 < List.length p0.meta_.managers) (hc0 : (decide ((i0 : Int) < ((List.length p0.meta_.managers) : Int))) = true) (h0 : (decide (60 < ((List.length x0.fields) : Int))) = true) : Qdx p0 (Q7y p0 i0) (.k1) := by
 exact ⟨(envF (Qoy p0 i0 x0)), (zoF (Qho p0 i0 x0)), Qh VOK.nil (x := (.ret, Qe5 p0 (envF (Qoy p0 i0 x0)) (zoF (Qho p0 i0 x0)))) [hP 3 (Qn (Manager.rows p0.meta_.managers) (List.length p0.meta_.managers) (Manager.Q5 p0.meta_.managers)), hB 0 hc0, hP 3 (Q1f 2 (Manager.rows p0.meta_.managers) i0 _ (Manager.Q9 hx0) rfl), hP 2 (Qn (Qj x0.fields) (List.length x0.fields) (Q1k x0.fields)), hB 0 h0] [] (by kernel_rfl)⟩
theorem Q11c (p0 : Object) (H : Qd1 p0) (x0 : Manager) (i0 : Nat) (hx0 : p0.meta_.managers[i0]? = some x0) (hi0 : i0 < List.length p0.meta_.managers) (hc0 : (decide ((i0 : Int) < ((List.length p0.meta_.managers) : Int))) = true) (h0 : (decide (60 < ((List.length x0.fields) : Int))) = false) {r : Rs} (hr : Q6 G (Q7y p0 (i0 + 1)) r) : Q6 G (Q7y p0 i0) r := by
 have hB0 := H.1; have e0 := of_decide_eq_false h0
 exact Qb VOK.nil (y := (Qsv p0 (i0 + 1), Qti p0 (i0 + 1))) [hP 3 (Qn (Manager.rows p0.meta_.managers) (List.length p0.meta_.managers) (Manager.Q5 p0.meta_.managers)), hB 0 hc0, hP 3 (Q1f 2 (Manager.rows p0.meta_.managers) i0 _ (Manager.Q9 hx0) rfl), hP 2 (Qn (Qj x0.fields) (List.length x0.fields) (Q1k x0.fields)), hB 0 h0, hP 1 (Q1b i0 (by omega))] [] (by kernel_rfl) hr
theorem Qvc (p0 : Object) (H : Qd1 p0) : ∀ (r0 : List Manager) (i0 : Nat), List.drop i0 p0.meta_.managers = r0 → Qdx p0 (Q7y p0 i0) (Q88 p0 r0 i0)
 | [], i0, hd => by
  have hc0 : (decide ((i0 : Int) < ((List.length p0.meta_.managers) : Int))) = false := by have := Q10 hd; simp; omega
  rw [Q88]
  exact Q133 p0 H i0 hc0
 | x0 :: r0, i0, hd => by
  obtain ⟨hx0, hi0, hd'⟩ := Qz hd
  have hc0 : (decide ((i0 : Int) < ((List.length p0.meta_.managers) : Int))) = true := by simp; omega
  rw [Q88]
  cases h0 : (decide (60 < ((List.length x0.fields) : Int))) with
  | true =>
   exact Q134 p0 H x0 i0 hx0 hi0 hc0 h0
  | false =>
   exact Qno p0 (fun r hr => Q11c p0 H x0 i0 hx0 hi0 hc0 h0 hr) _ (Qvc p0 H r0 (i0 + 1) hd')
def s_K2 (p0 : Object) : Bool :=
 bif (decide (40 < ((List.length p0.meta_.labels) : Int))) then
  false
 else
  bif (decide (40 < ((List.length p0.meta_.owners) : Int))) then
   false
  else
   bif (decide (40 < ((List.length p0.meta_.finalizers) : Int))) then
    false
   else
    bif (decide (40 < ((List.length p0.meta_.managers) : Int))) then
     false
    else
     (match (Q88 p0 p0.meta_.managers 0) with
     | .k0 => bif (s_K9 p0.spec 900) then
       (s_K9 p0.status 300)
      else
       false
     | .k1 => false)
def c_K2 (p0 : Object) : En := .call 7 [.agg (Object.cells p0)] []
def a_K2 (p0 : Object) : Rs := .ret (.bool (s_K2 p0)) []
def H_K2 (p0 : Object) : Prop := (Qd1 p0) ∧ (H_K9 p0.spec 900) ∧ (H_K9 p0.status 300) ∧ True
theorem Q1bd (p0 : Object) (_H : H_K2 p0) (h0 : (decide (40 < ((List.length p0.meta_.labels) : Int))) = true) : Q6 G (c_K2 p0) (.ret (.bool (false)) []) := by
 exact Q8 (fn := Ir.K2) rfl VOK.nil [hP 8 (Qn (Label.rows p0.meta_.labels) (List.length p0.meta_.labels) (Label.Q5 p0.meta_.labels)), hB 0 h0] [] (by kernel_rfl)
theorem Q1be (p0 : Object) (_H : H_K2 p0) (h0 : (decide (40 < ((List.length p0.meta_.labels) : Int))) = false) (h1 : (decide (40 < ((List.length p0.meta_.owners) : Int))) = true) : Q6 G (c_K2 p0) (.ret (.bool (false)) []) := by
 exact Q8 (fn := Ir.K2) rfl VOK.nil [hP 8 (Qn (Label.rows p0.meta_.labels) (List.length p0.meta_.labels) (Label.Q5 p0.meta_.labels)), hB 0 h0, hP 3 (Qn (Owner.rows p0.meta_.owners) (List.length p0.meta_.owners) (Owner.Q5 p0.meta_.owners)), hB 0 h1] [] (by kernel_rfl)
theorem Q1bf (p0 : Object) (_H : H_K2 p0) (h0 : (decide (40 < ((List.length p0.meta_.labels) : Int))) = false) (h1 : (decide (40 < ((List.length p0.meta_.owners) : Int))) = false) (h2 : (decide (40 < ((List.length p0.meta_.finalizers) : Int))) = true) : Q6 G (c_K2 p0) (.ret (.bool (false)) []) := by
 exact Q8 (fn := Ir.K2) rfl VOK.nil [hP 8 (Qn (Label.rows p0.meta_.labels) (List.length p0.meta_.labels) (Label.Q5 p0.meta_.labels)), hB 0 h0, hP 3 (Qn (Owner.rows p0.meta_.owners) (List.length p0.meta_.owners) (Owner.Q5 p0.meta_.owners)), hB 0 h1, hP 4 (Qn (Qj p0.meta_.finalizers) (List.length p0.meta_.finalizers) (Q1k p0.meta_.finalizers)), hB 0 h2] [] (by kernel_rfl)
theorem Q1bg (p0 : Object) (_H : H_K2 p0) (h0 : (decide (40 < ((List.length p0.meta_.labels) : Int))) = false) (h1 : (decide (40 < ((List.length p0.meta_.owners) : Int))) = false) (h2 : (decide (40 < ((List.length p0.meta_.finalizers) : Int))) = false) (h3 : (decide (40 < ((List.length p0.meta_.managers) : Int))) = true) : Q6 G (c_K2 p0) (.ret (.bool (false)) []) := by
 exact Q8 (fn := Ir.K2) rfl VOK.nil [hP 8 (Qn (Label.rows p0.meta_.labels) (List.length p0.meta_.labels) (Label.Q5 p0.meta_.labels)), hB 0 h0, hP 3 (Qn (Owner.rows p0.meta_.owners) (List.length p0.meta_.owners) (Owner.Q5 p0.meta_.owners)), hB 0 h1, hP 4 (Qn (Qj p0.meta_.finalizers) (List.length p0.meta_.finalizers) (Q1k p0.meta_.finalizers)), hB 0 h2, hP 4 (Qn (Manager.rows p0.meta_.managers) (List.length p0.meta_.managers) (Manager.Q5 p0.meta_.managers)), hB 0 h3] [] (by kernel_rfl)
theorem Q1bh (p0 : Object) (H : H_K2 p0) (h0 : (decide (40 < ((List.length p0.meta_.labels) : Int))) = false) (h1 : (decide (40 < ((List.length p0.meta_.owners) : Int))) = false) (h2 : (decide (40 < ((List.length p0.meta_.finalizers) : Int))) = false) (h3 : (decide (40 < ((List.length p0.meta_.managers) : Int))) = false) (z4 : Nat → PV) (zo4 : Nat → List PV) (hl4 : Q6 G (Q7y p0 0) (.st (.exit 0) (Qe4 p0 z4 zo4))) : Q6 G (c_K2 p0) (.ret (.bool (bif (s_K9 p0.spec 900) then
   (s_K9 p0.status 300)
 else
   false)) []) := by
 cases h4 : (s_K9 p0.spec 900) with
 | true =>
  exact Q8 (fn := Ir.K2) rfl VOK.nil [hP 8 (Qn (Label.rows p0.meta_.labels) (List.length p0.meta_.labels) (Label.Q5 p0.meta_.labels)), hB 0 h0, hP 3 (Qn (Owner.rows p0.meta_.owners) (List.length p0.meta_.owners) (Owner.Q5 p0.meta_.owners)), hB 0 h1, hP 4 (Qn (Qj p0.meta_.finalizers) (List.length p0.meta_.finalizers) (Q1k p0.meta_.finalizers)), hB 0 h2, hP 4 (Qn (Manager.rows p0.meta_.managers) (List.length p0.meta_.managers) (Manager.Q5 p0.meta_.managers)), hB 0 h3] [aN hl4, aB (t_K9 p0.spec 900 H.2.1) h4, aN (t_K9 p0.status 300 H.2.2.1)] (by kernel_rfl)
 | false =>
  exact Q8 (fn := Ir.K2) rfl VOK.nil [hP 8 (Qn (Label.rows p0.meta_.labels) (List.length p0.meta_.labels) (Label.Q5 p0.meta_.labels)), hB 0 h0, hP 3 (Qn (Owner.rows p0.meta_.owners) (List.length p0.meta_.owners) (Owner.Q5 p0.meta_.owners)), hB 0 h1, hP 4 (Qn (Qj p0.meta_.finalizers) (List.length p0.meta_.finalizers) (Q1k p0.meta_.finalizers)), hB 0 h2, hP 4 (Qn (Manager.rows p0.meta_.managers) (List.length p0.meta_.managers) (Manager.Q5 p0.meta_.managers)), hB 0 h3] [aN hl4, aB (t_K9 p0.spec 900 H.2.1) h4] (by kernel_rfl)
theorem Q1bi (p0 : Object) (_H : H_K2 p0) (h0 : (decide (40 < ((List.length p0.meta_.labels) : Int))) = false) (h1 : (decide (40 < ((List.length p0.meta_.owners) : Int))) = false) (h2 : (decide (40 < ((List.length p0.meta_.finalizers) : Int))) = false) (h3 : (decide (40 < ((List.length p0.meta_.managers) : Int))) = false) (z4 : Nat → PV) (zo4 : Nat → List PV) (hl4 : Q6 G (Q7y p0 0) (.st .ret (Qe5 p0 z4 zo4))) : Q6 G (c_K2 p0) (.ret (.bool (false)) []) := by
 exact Q8 (fn := Ir.K2) rfl VOK.nil [hP 8 (Qn (Label.rows p0.meta_.labels) (List.length p0.meta_.labels) (Label.Q5 p0.meta_.labels)), hB 0 h0, hP 3 (Qn (Owner.rows p0.meta_.owners) (List.length p0.meta_.owners) (Owner.Q5 p0.meta_.owners)), hB 0 h1, hP 4 (Qn (Qj p0.meta_.finalizers) (List.length p0.meta_.finalizers) (Q1k p0.meta_.finalizers)), hB 0 h2, hP 4 (Qn (Manager.rows p0.meta_.managers) (List.length p0.meta_.managers) (Manager.Q5 p0.meta_.managers)), hB 0 h3] [aN hl4] (by kernel_rfl)
theorem t_K2 (p0 : Object) (H : H_K2 p0) : Q6 G (c_K2 p0) (a_K2 p0) := by
 unfold a_K2 s_K2
 cases h0 : (decide (40 < ((List.length p0.meta_.labels) : Int))) with
 | true =>
  exact Q1bd p0 H h0
 | false =>
  cases h1 : (decide (40 < ((List.length p0.meta_.owners) : Int))) with
  | true =>
   exact Q1be p0 H h0 h1
  | false =>
   cases h2 : (decide (40 < ((List.length p0.meta_.finalizers) : Int))) with
   | true =>
    exact Q1bf p0 H h0 h1 h2
   | false =>
    cases h3 : (decide (40 < ((List.length p0.meta_.managers) : Int))) with
    | true =>
     exact Q1bg p0 H h0 h1 h2 h3
    | false =>
     have hl4 := Qvc p0 (H.1) p0.meta_.managers 0 (by simp)
     cases hr4 : (Q88 p0 p0.meta_.managers 0) with
     | k0 =>
      rw [hr4] at hl4
      obtain ⟨z4, zo4, hl4⟩ := hl4
      try dsimp only
      exact Q1bh p0 H h0 h1 h2 h3 z4 zo4 hl4
     | k1 =>
      rw [hr4] at hl4
      obtain ⟨z4, zo4, hl4⟩ := hl4
      exact Q1bi p0 H h0 h1 h2 h3 z4 zo4 hl4
end Go.Proofs.YtbagpdebihicnaaGreat
end

section
/- The chapter's examples (printed by a program). -/
namespace Go.Proofs.YtbagpdebihicnaaGreat
open Go.Pv
theorem t_K1 : Q6 G (.call 8 [] []) (.ret (.bool true) []) := ⟨400, by kernel_rfl⟩
end Go.Proofs.YtbagpdebihicnaaGreat
end

section
/- What the laws ask of their arguments (printed by a program). -/
namespace Go.Proofs.YtbagpdebihicnaaGreat
open Go.Pv
def Qtt : Ty := .st [.str, .str]
def Ql6 (x : Label) : Prop := okS x.key ∧ okS x.value
theorem Qwv {c : List PV} (h : Of Γ Qtt c) : ∃ x : Label, c = x.cells ∧ Ql6 x := by
  have g0 := h.st1
  obtain ⟨a0, b0, rfl, h0, g1⟩ := g0.Q19
  obtain ⟨x0, rfl, k0⟩ := h0.str1
  obtain ⟨a1, b1, rfl, h1, g2⟩ := g1.Q19
  obtain ⟨x1, rfl, k1⟩ := h1.str1
  have e := g2.empty
  subst e
  exact ⟨⟨x0, x1⟩, rfl, ⟨k0, k1⟩⟩
def Qtu : Ty := .st [.str, .str, .int .i64, .bool, .bool]
def Qla (x : Owner) : Prop := okS x.kind ∧ okS x.name ∧ Q6k x.uid ∧ (fun _ : Bool => True) x.controller ∧ (fun _ : Bool => True) x.block
theorem Qww {c : List PV} (h : Of Γ Qtu c) : ∃ x : Owner, c = x.cells ∧ Qla x := by
  have g0 := h.st1
  obtain ⟨a0, b0, rfl, h0, g1⟩ := g0.Q19
  obtain ⟨x0, rfl, k0⟩ := h0.str1
  obtain ⟨a1, b1, rfl, h1, g2⟩ := g1.Q19
  obtain ⟨x1, rfl, k1⟩ := h1.str1
  obtain ⟨a2, b2, rfl, h2, g3⟩ := g2.Q19
  obtain ⟨x2, rfl, k2⟩ := h2.i64
  obtain ⟨a3, b3, rfl, h3, g4⟩ := g3.Q19
  obtain ⟨x3, rfl, k3⟩ := h3.bool2
  obtain ⟨a4, b4, rfl, h4, g5⟩ := g4.Q19
  obtain ⟨x4, rfl, k4⟩ := h4.bool2
  have e := g5.empty
  subst e
  exact ⟨⟨x0, x1, x2, x3, x4⟩, rfl, ⟨k0, k1, k2, k3, k4⟩⟩
def Qh1 : Ty := .st [.str, .sl 16 .str]
def Q9s (x : Manager) : Prop := okS x.name ∧ (okL 16 okS) x.fields
theorem Qnm {c : List PV} (h : Of Γ Qh1 c) : ∃ x : Manager, c = x.cells ∧ Q9s x := by
  have g0 := h.st1
  obtain ⟨a0, b0, rfl, h0, g1⟩ := g0.Q19
  obtain ⟨x0, rfl, k0⟩ := h0.str1
  obtain ⟨a1, b1, rfl, h1, g2⟩ := g1.Q19
  obtain ⟨x1, rfl, k1⟩ := (h1.sl1 (f := (fun s : ByteArray => [.str s])) (ok := okS) fun r hr => hr.str1)
  have e := g2.empty
  subst e
  exact ⟨⟨x0, x1⟩, rfl, ⟨k0, k1⟩⟩
def Ql9 : Ty := .st [.str, .str, .str, .int .i64, .int .i64, .int .i64, .int .i64, .bool, .int .i64, .sl 32 Qtt, .sl 48 Qtu, .sl 16 .str, .sl 40 Qh1]
def Q4f (x : Meta) : Prop := okS x.kind ∧ okS x.namespace_ ∧ okS x.name ∧ Q6k x.uid ∧ Q6k x.version ∧ Q6k x.generation ∧ Q6k x.created ∧ (fun _ : Bool => True) x.deleting ∧ Q6k x.deleteAt ∧ (okL 32 Ql6) x.labels ∧ (okL 48 Qla) x.owners ∧ (okL 16 okS) x.finalizers ∧ (okL 40 Q9s) x.managers
theorem Qdw {c : List PV} (h : Of Γ Ql9 c) : ∃ x : Meta, c = x.cells ∧ Q4f x := by
  have g0 := h.st1
  obtain ⟨a0, b0, rfl, h0, g1⟩ := g0.Q19
  obtain ⟨x0, rfl, k0⟩ := h0.str1
  obtain ⟨a1, b1, rfl, h1, g2⟩ := g1.Q19
  obtain ⟨x1, rfl, k1⟩ := h1.str1
  obtain ⟨a2, b2, rfl, h2, g3⟩ := g2.Q19
  obtain ⟨x2, rfl, k2⟩ := h2.str1
  obtain ⟨a3, b3, rfl, h3, g4⟩ := g3.Q19
  obtain ⟨x3, rfl, k3⟩ := h3.i64
  obtain ⟨a4, b4, rfl, h4, g5⟩ := g4.Q19
  obtain ⟨x4, rfl, k4⟩ := h4.i64
  obtain ⟨a5, b5, rfl, h5, g6⟩ := g5.Q19
  obtain ⟨x5, rfl, k5⟩ := h5.i64
  obtain ⟨a6, b6, rfl, h6, g7⟩ := g6.Q19
  obtain ⟨x6, rfl, k6⟩ := h6.i64
  obtain ⟨a7, b7, rfl, h7, g8⟩ := g7.Q19
  obtain ⟨x7, rfl, k7⟩ := h7.bool2
  obtain ⟨a8, b8, rfl, h8, g9⟩ := g8.Q19
  obtain ⟨x8, rfl, k8⟩ := h8.i64
  obtain ⟨a9, b9, rfl, h9, g10⟩ := g9.Q19
  obtain ⟨x9, rfl, k9⟩ := (h9.sl1 (f := Label.cells) (ok := Ql6) fun r hr => (Qwv hr))
  obtain ⟨a10, b10, rfl, h10, g11⟩ := g10.Q19
  obtain ⟨x10, rfl, k10⟩ := (h10.sl1 (f := Owner.cells) (ok := Qla) fun r hr => (Qww hr))
  obtain ⟨a11, b11, rfl, h11, g12⟩ := g11.Q19
  obtain ⟨x11, rfl, k11⟩ := (h11.sl1 (f := (fun s : ByteArray => [.str s])) (ok := okS) fun r hr => hr.str1)
  obtain ⟨a12, b12, rfl, h12, g13⟩ := g12.Q19
  obtain ⟨x12, rfl, k12⟩ := (h12.sl1 (f := Manager.cells) (ok := Q9s) fun r hr => (Qnm hr))
  have e := g13.empty
  subst e
  exact ⟨⟨x0, x1, x2, x3, x4, x5, x6, x7, x8, x9, x10, x11, x12⟩, rfl, ⟨k0, k1, k2, k3, k4, k5, k6, k7, k8, k9, k10, k11, k12⟩⟩
def Q4c : Ty := .st [.str, .int .i64, .sl 16 .str]
def Q28 (x : Requirement) : Prop := okS x.key ∧ Q6k x.op ∧ (okL 16 okS) x.values
theorem Q4h {c : List PV} (h : Of Γ Q4c c) : ∃ x : Requirement, c = x.cells ∧ Q28 x := by
  have g0 := h.st1
  obtain ⟨a0, b0, rfl, h0, g1⟩ := g0.Q19
  obtain ⟨x0, rfl, k0⟩ := h0.str1
  obtain ⟨a1, b1, rfl, h1, g2⟩ := g1.Q19
  obtain ⟨x1, rfl, k1⟩ := h1.i64
  obtain ⟨a2, b2, rfl, h2, g3⟩ := g2.Q19
  obtain ⟨x2, rfl, k2⟩ := (h2.sl1 (f := (fun s : ByteArray => [.str s])) (ok := okS) fun r hr => hr.str1)
  have e := g3.empty
  subst e
  exact ⟨⟨x0, x1, x2⟩, rfl, ⟨k0, k1, k2⟩⟩
def Q5u : Ty := .st [.str, .int .i64, .int .i64]
def Q2v (x : ServicePort) : Prop := okS x.name ∧ Q6k x.port ∧ Q6k x.target
theorem Q6r {c : List PV} (h : Of Γ Q5u c) : ∃ x : ServicePort, c = x.cells ∧ Q2v x := by
  have g0 := h.st1
  obtain ⟨a0, b0, rfl, h0, g1⟩ := g0.Q19
  obtain ⟨x0, rfl, k0⟩ := h0.str1
  obtain ⟨a1, b1, rfl, h1, g2⟩ := g1.Q19
  obtain ⟨x1, rfl, k1⟩ := h1.i64
  obtain ⟨a2, b2, rfl, h2, g3⟩ := g2.Q19
  obtain ⟨x2, rfl, k2⟩ := h2.i64
  have e := g3.empty
  subst e
  exact ⟨⟨x0, x1, x2⟩, rfl, ⟨k0, k1, k2⟩⟩
def Qhm : Ty := .st [Ql9, .sl 48 Q4c, .sl 32 Q5u, .bool, .int .i64]
def Qa1 (x : Service) : Prop := Q4f x.meta_ ∧ (okL 48 Q28) x.selector ∧ (okL 32 Q2v) x.ports ∧ (fun _ : Bool => True) x.sticky ∧ Q6k x.address
theorem Qow {c : List PV} (h : Of Γ Qhm c) : ∃ x : Service, c = x.cells ∧ Qa1 x := by
  have g0 := h.st1
  obtain ⟨a0, b0, rfl, h0, g1⟩ := g0.Q19
  obtain ⟨x0, rfl, k0⟩ := (Qdw h0)
  obtain ⟨a1, b1, rfl, h1, g2⟩ := g1.Q19
  obtain ⟨x1, rfl, k1⟩ := (h1.sl1 (f := Requirement.cells) (ok := Q28) fun r hr => (Q4h hr))
  obtain ⟨a2, b2, rfl, h2, g3⟩ := g2.Q19
  obtain ⟨x2, rfl, k2⟩ := (h2.sl1 (f := ServicePort.cells) (ok := Q2v) fun r hr => (Q6r hr))
  obtain ⟨a3, b3, rfl, h3, g4⟩ := g3.Q19
  obtain ⟨x3, rfl, k3⟩ := h3.bool2
  obtain ⟨a4, b4, rfl, h4, g5⟩ := g4.Q19
  obtain ⟨x4, rfl, k4⟩ := h4.i64
  have e := g5.empty
  subst e
  exact ⟨⟨x0, x1, x2, x3, x4⟩, rfl, ⟨k0, k1, k2, k3, k4⟩⟩
def Qcj : Ty := .st [.str, .str, .int .i64, .bool, .bool]
def Q80 (x : Endpoint) : Prop := okS x.pod ∧ okS x.node ∧ Q6k x.address ∧ (fun _ : Bool => True) x.ready ∧ (fun _ : Bool => True) x.terminating
theorem Qkc {c : List PV} (h : Of Γ Qcj c) : ∃ x : Endpoint, c = x.cells ∧ Q80 x := by
  have g0 := h.st1
  obtain ⟨a0, b0, rfl, h0, g1⟩ := g0.Q19
  obtain ⟨x0, rfl, k0⟩ := h0.str1
  obtain ⟨a1, b1, rfl, h1, g2⟩ := g1.Q19
  obtain ⟨x1, rfl, k1⟩ := h1.str1
  obtain ⟨a2, b2, rfl, h2, g3⟩ := g2.Q19
  obtain ⟨x2, rfl, k2⟩ := h2.i64
  obtain ⟨a3, b3, rfl, h3, g4⟩ := g3.Q19
  obtain ⟨x3, rfl, k3⟩ := h3.bool2
  obtain ⟨a4, b4, rfl, h4, g5⟩ := g4.Q19
  obtain ⟨x4, rfl, k4⟩ := h4.bool2
  have e := g5.empty
  subst e
  exact ⟨⟨x0, x1, x2, x3, x4⟩, rfl, ⟨k0, k1, k2, k3, k4⟩⟩
def Q7t : Ty := .st [Ql9, .sl 32 Q5u, .sl 48 Qcj]
def Q5s (x : EndpointSet) : Prop := Q4f x.meta_ ∧ (okL 32 Q2v) x.ports ∧ (okL 48 Q80) x.items
theorem Qas {c : List PV} (h : Of Γ Q7t c) : ∃ x : EndpointSet, c = x.cells ∧ Q5s x := by
  have g0 := h.st1
  obtain ⟨a0, b0, rfl, h0, g1⟩ := g0.Q19
  obtain ⟨x0, rfl, k0⟩ := (Qdw h0)
  obtain ⟨a1, b1, rfl, h1, g2⟩ := g1.Q19
  obtain ⟨x1, rfl, k1⟩ := (h1.sl1 (f := ServicePort.cells) (ok := Q2v) fun r hr => (Q6r hr))
  obtain ⟨a2, b2, rfl, h2, g3⟩ := g2.Q19
  obtain ⟨x2, rfl, k2⟩ := (h2.sl1 (f := Endpoint.cells) (ok := Q80) fun r hr => (Qkc hr))
  have e := g3.empty
  subst e
  exact ⟨⟨x0, x1, x2⟩, rfl, ⟨k0, k1, k2⟩⟩
def Qz3 : Ty := .st [.str, .sl 48 Q4c]
def Qrt (x : Peer) : Prop := okS x.namespace_ ∧ (okL 48 Q28) x.selector
theorem Qz2 {c : List PV} (h : Of Γ Qz3 c) : ∃ x : Peer, c = x.cells ∧ Qrt x := by
  have g0 := h.st1
  obtain ⟨a0, b0, rfl, h0, g1⟩ := g0.Q19
  obtain ⟨x0, rfl, k0⟩ := h0.str1
  obtain ⟨a1, b1, rfl, h1, g2⟩ := g1.Q19
  obtain ⟨x1, rfl, k1⟩ := (h1.sl1 (f := Requirement.cells) (ok := Q28) fun r hr => (Q4h hr))
  have e := g2.empty
  subst e
  exact ⟨⟨x0, x1⟩, rfl, ⟨k0, k1⟩⟩
def Q8y : Ty := .st [.bool, .sl 40 Qz3, .sl 8 (.int .i64)]
def Q6e (x : PolicyRule) : Prop := (fun _ : Bool => True) x.egress ∧ (okL 40 Qrt) x.peers ∧ (okL 8 Q6k) x.ports
theorem Qe1 {c : List PV} (h : Of Γ Q8y c) : ∃ x : PolicyRule, c = x.cells ∧ Q6e x := by
  have g0 := h.st1
  obtain ⟨a0, b0, rfl, h0, g1⟩ := g0.Q19
  obtain ⟨x0, rfl, k0⟩ := h0.bool2
  obtain ⟨a1, b1, rfl, h1, g2⟩ := g1.Q19
  obtain ⟨x1, rfl, k1⟩ := (h1.sl1 (f := Peer.cells) (ok := Qrt) fun r hr => (Qz2 hr))
  obtain ⟨a2, b2, rfl, h2, g3⟩ := g2.Q19
  obtain ⟨x2, rfl, k2⟩ := (h2.sl1 (f := (fun n : Int => [.int .i64 n])) (ok := Q6k) fun r hr => hr.i64)
  have e := g3.empty
  subst e
  exact ⟨⟨x0, x1, x2⟩, rfl, ⟨k0, k1, k2⟩⟩
def Q6q : Ty := .st [Ql9, .sl 48 Q4c, .bool, .bool, .sl 56 Q8y]
def Q4g (x : NetworkPolicy) : Prop := Q4f x.meta_ ∧ (okL 48 Q28) x.selector ∧ (fun _ : Bool => True) x.ingress ∧ (fun _ : Bool => True) x.egress ∧ (okL 56 Q6e) x.rules
theorem Q8w {c : List PV} (h : Of Γ Q6q c) : ∃ x : NetworkPolicy, c = x.cells ∧ Q4g x := by
  have g0 := h.st1
  obtain ⟨a0, b0, rfl, h0, g1⟩ := g0.Q19
  obtain ⟨x0, rfl, k0⟩ := (Qdw h0)
  obtain ⟨a1, b1, rfl, h1, g2⟩ := g1.Q19
  obtain ⟨x1, rfl, k1⟩ := (h1.sl1 (f := Requirement.cells) (ok := Q28) fun r hr => (Q4h hr))
  obtain ⟨a2, b2, rfl, h2, g3⟩ := g2.Q19
  obtain ⟨x2, rfl, k2⟩ := h2.bool2
  obtain ⟨a3, b3, rfl, h3, g4⟩ := g3.Q19
  obtain ⟨x3, rfl, k3⟩ := h3.bool2
  obtain ⟨a4, b4, rfl, h4, g5⟩ := g4.Q19
  obtain ⟨x4, rfl, k4⟩ := (h4.sl1 (f := PolicyRule.cells) (ok := Q6e) fun r hr => (Qe1 hr))
  have e := g5.empty
  subst e
  exact ⟨⟨x0, x1, x2, x3, x4⟩, rfl, ⟨k0, k1, k2, k3, k4⟩⟩
def Q2j (N : Nat) (x : Requirement) : Prop := (fun s : ByteArray => s.size ≤ N) x.key ∧ (fun l : List ByteArray => l.length ≤ N ∧ ∀ x ∈ l, (fun s : ByteArray => s.size ≤ N) x) x.values
theorem Q42 {N : Nat} {x : Requirement} (h : CapL N x.cells) : Q2j N x := ⟨(let g : CapL N [.str x.key] := fun p hp => h p (by simp only [List.mem_cons, List.not_mem_nil, or_false] at hp; rcases hp with rfl <;> simp [Requirement.cells]); (g _ List.mem_cons_self).strI), (let g : CapL N [.sl (Qj x.values)] := fun p hp => h p (by simp only [List.mem_cons, List.not_mem_nil, or_false] at hp; rcases hp with rfl <;> simp [Requirement.cells]); (let r := Cap.Q8e (f := (fun s : ByteArray => [.str s])) (g _ List.mem_cons_self); ⟨r.1, fun x hx => ((r.2 x hx) _ List.mem_cons_self).strI⟩))⟩
theorem Requirement.Q3z {N : Nat} (hN : N ≤ sB) {x : Requirement} (c : Q2j N x) : Requirement.sm x := ⟨⟨Nat.le_trans c.2.1 hN, fun _ _hx => trivial⟩, trivial⟩
def Q3k (N : Nat) (x : ServicePort) : Prop := (fun s : ByteArray => s.size ≤ N) x.name
theorem Q60 {N : Nat} {x : ServicePort} (h : CapL N x.cells) : Q3k N x := (let g : CapL N [.str x.name] := fun p hp => h p (by simp only [List.mem_cons, List.not_mem_nil, or_false] at hp; rcases hp with rfl <;> simp [ServicePort.cells]); (g _ List.mem_cons_self).strI)
theorem ServicePort.Q3z {N : Nat} (_ : N ≤ sB) {x : ServicePort} (_ : Q3k N x) : ServicePort.sm x := trivial
def Q6y (N : Nat) (x : Endpoint) : Prop := (fun s : ByteArray => s.size ≤ N) x.pod ∧ (fun s : ByteArray => s.size ≤ N) x.node
theorem Qg4 {N : Nat} {x : Endpoint} (h : CapL N x.cells) : Q6y N x := ⟨(let g : CapL N [.str x.pod] := fun p hp => h p (by simp only [List.mem_cons, List.not_mem_nil, or_false] at hp; rcases hp with rfl <;> simp [Endpoint.cells]); (g _ List.mem_cons_self).strI), (let g : CapL N [.str x.node] := fun p hp => h p (by simp only [List.mem_cons, List.not_mem_nil, or_false] at hp; rcases hp with rfl <;> simp [Endpoint.cells]); (g _ List.mem_cons_self).strI)⟩
theorem Endpoint.Q3z {N : Nat} (_ : N ≤ sB) {x : Endpoint} (_ : Q6y N x) : Endpoint.sm x := trivial
def Qm7 (N : Nat) (x : Peer) : Prop := (fun s : ByteArray => s.size ≤ N) x.namespace_ ∧ (fun l : List Requirement => l.length ≤ N ∧ ∀ x ∈ l, (Q2j N) x) x.selector
theorem Qwx {N : Nat} {x : Peer} (h : CapL N x.cells) : Qm7 N x := ⟨(let g : CapL N [.str x.namespace_] := fun p hp => h p (by simp only [List.mem_cons, List.not_mem_nil, or_false] at hp; rcases hp with rfl <;> simp [Peer.cells]); (g _ List.mem_cons_self).strI), (let g : CapL N [.sl (Requirement.rows x.selector)] := fun p hp => h p (by simp only [List.mem_cons, List.not_mem_nil, or_false] at hp; rcases hp with rfl <;> simp [Peer.cells]); (let r := Cap.Q8e (f := Requirement.cells) (g _ List.mem_cons_self); ⟨r.1, fun x hx => (Q42 (r.2 x hx))⟩))⟩
theorem Peer.Q3z {N : Nat} (hN : N ≤ sB) {x : Peer} (c : Qm7 N x) : Peer.sm x := ⟨⟨Nat.le_trans c.2.1 hN, fun _ hx => Requirement.Q3z hN (c.2.2 _ hx)⟩, trivial⟩
def Q5t (N : Nat) (x : PolicyRule) : Prop := (fun l : List Peer => l.length ≤ N ∧ ∀ x ∈ l, (Qm7 N) x) x.peers ∧ (fun l : List Int => l.length ≤ N) x.ports
theorem Qav {N : Nat} {x : PolicyRule} (h : CapL N x.cells) : Q5t N x := ⟨(let g : CapL N [.sl (Peer.rows x.peers)] := fun p hp => h p (by simp only [List.mem_cons, List.not_mem_nil, or_false] at hp; rcases hp with rfl <;> simp [PolicyRule.cells]); (let r := Cap.Q8e (f := Peer.cells) (g _ List.mem_cons_self); ⟨r.1, fun x hx => (Qwx (r.2 x hx))⟩)), (let g : CapL N [.sl (Q1i x.ports)] := fun p hp => h p (by simp only [List.mem_cons, List.not_mem_nil, or_false] at hp; rcases hp with rfl <;> simp [PolicyRule.cells]); (Cap.Q8e (f := (fun n : Int => [.int .i64 n])) (g _ List.mem_cons_self)).1)⟩
theorem PolicyRule.Q3z {N : Nat} (hN : N ≤ sB) {x : PolicyRule} (c : Q5t N x) : PolicyRule.sm x := ⟨⟨Nat.le_trans c.1.1 hN, fun _ hx => Peer.Q3z hN (c.1.2 _ hx)⟩, ⟨Nat.le_trans c.2 hN, fun _ _hx => trivial⟩, trivial⟩
def Qnl (N : Nat) (x : Label) : Prop := (fun s : ByteArray => s.size ≤ N) x.key ∧ (fun s : ByteArray => s.size ≤ N) x.value
theorem Qrr {N : Nat} {x : Label} (h : CapL N x.cells) : Qnl N x := ⟨(let g : CapL N [.str x.key] := fun p hp => h p (by simp only [List.mem_cons, List.not_mem_nil, or_false] at hp; rcases hp with rfl <;> simp [Label.cells]); (g _ List.mem_cons_self).strI), (let g : CapL N [.str x.value] := fun p hp => h p (by simp only [List.mem_cons, List.not_mem_nil, or_false] at hp; rcases hp with rfl <;> simp [Label.cells]); (g _ List.mem_cons_self).strI)⟩
def Qnn (N : Nat) (x : Owner) : Prop := (fun s : ByteArray => s.size ≤ N) x.kind ∧ (fun s : ByteArray => s.size ≤ N) x.name
theorem Qrs {N : Nat} {x : Owner} (h : CapL N x.cells) : Qnn N x := ⟨(let g : CapL N [.str x.kind] := fun p hp => h p (by simp only [List.mem_cons, List.not_mem_nil, or_false] at hp; rcases hp with rfl <;> simp [Owner.cells]); (g _ List.mem_cons_self).strI), (let g : CapL N [.str x.name] := fun p hp => h p (by simp only [List.mem_cons, List.not_mem_nil, or_false] at hp; rcases hp with rfl <;> simp [Owner.cells]); (g _ List.mem_cons_self).strI)⟩
def Qdv (N : Nat) (x : Manager) : Prop := (fun s : ByteArray => s.size ≤ N) x.name ∧ (fun l : List ByteArray => l.length ≤ N ∧ ∀ x ∈ l, (fun s : ByteArray => s.size ≤ N) x) x.fields
theorem Ql8 {N : Nat} {x : Manager} (h : CapL N x.cells) : Qdv N x := ⟨(let g : CapL N [.str x.name] := fun p hp => h p (by simp only [List.mem_cons, List.not_mem_nil, or_false] at hp; rcases hp with rfl <;> simp [Manager.cells]); (g _ List.mem_cons_self).strI), (let g : CapL N [.sl (Qj x.fields)] := fun p hp => h p (by simp only [List.mem_cons, List.not_mem_nil, or_false] at hp; rcases hp with rfl <;> simp [Manager.cells]); (let r := Cap.Q8e (f := (fun s : ByteArray => [.str s])) (g _ List.mem_cons_self); ⟨r.1, fun x hx => ((r.2 x hx) _ List.mem_cons_self).strI⟩))⟩
def Qbt (N : Nat) (x : Meta) : Prop := (fun s : ByteArray => s.size ≤ N) x.kind ∧ (fun s : ByteArray => s.size ≤ N) x.namespace_ ∧ (fun s : ByteArray => s.size ≤ N) x.name ∧ (fun l : List Label => l.length ≤ N ∧ ∀ x ∈ l, (Qnl N) x) x.labels ∧ (fun l : List Owner => l.length ≤ N ∧ ∀ x ∈ l, (Qnn N) x) x.owners ∧ (fun l : List ByteArray => l.length ≤ N ∧ ∀ x ∈ l, (fun s : ByteArray => s.size ≤ N) x) x.finalizers ∧ (fun l : List Manager => l.length ≤ N ∧ ∀ x ∈ l, (Qdv N) x) x.managers
theorem Q9t {N : Nat} {x : Meta} (h : CapL N x.cells) : Qbt N x := ⟨(let g : CapL N [.str x.kind] := fun p hp => h p (by simp only [List.mem_cons, List.not_mem_nil, or_false] at hp; rcases hp with rfl <;> simp [Meta.cells]); (g _ List.mem_cons_self).strI), (let g : CapL N [.str x.namespace_] := fun p hp => h p (by simp only [List.mem_cons, List.not_mem_nil, or_false] at hp; rcases hp with rfl <;> simp [Meta.cells]); (g _ List.mem_cons_self).strI), (let g : CapL N [.str x.name] := fun p hp => h p (by simp only [List.mem_cons, List.not_mem_nil, or_false] at hp; rcases hp with rfl <;> simp [Meta.cells]); (g _ List.mem_cons_self).strI), (let g : CapL N [.sl (Label.rows x.labels)] := fun p hp => h p (by simp only [List.mem_cons, List.not_mem_nil, or_false] at hp; rcases hp with rfl <;> simp [Meta.cells]); (let r := Cap.Q8e (f := Label.cells) (g _ List.mem_cons_self); ⟨r.1, fun x hx => (Qrr (r.2 x hx))⟩)), (let g : CapL N [.sl (Owner.rows x.owners)] := fun p hp => h p (by simp only [List.mem_cons, List.not_mem_nil, or_false] at hp; rcases hp with rfl <;> simp [Meta.cells]); (let r := Cap.Q8e (f := Owner.cells) (g _ List.mem_cons_self); ⟨r.1, fun x hx => (Qrs (r.2 x hx))⟩)), (let g : CapL N [.sl (Qj x.finalizers)] := fun p hp => h p (by simp only [List.mem_cons, List.not_mem_nil, or_false] at hp; rcases hp with rfl <;> simp [Meta.cells]); (let r := Cap.Q8e (f := (fun s : ByteArray => [.str s])) (g _ List.mem_cons_self); ⟨r.1, fun x hx => ((r.2 x hx) _ List.mem_cons_self).strI⟩)), (let g : CapL N [.sl (Manager.rows x.managers)] := fun p hp => h p (by simp only [List.mem_cons, List.not_mem_nil, or_false] at hp; rcases hp with rfl <;> simp [Meta.cells]); (let r := Cap.Q8e (f := Manager.cells) (g _ List.mem_cons_self); ⟨r.1, fun x hx => (Ql8 (r.2 x hx))⟩))⟩
def Q6f (N : Nat) (x : Service) : Prop := (Qbt N) x.meta_ ∧ (fun l : List Requirement => l.length ≤ N ∧ ∀ x ∈ l, (Q2j N) x) x.selector ∧ (fun l : List ServicePort => l.length ≤ N ∧ ∀ x ∈ l, (Q3k N) x) x.ports
theorem Qm8 {N : Nat} {x : Service} (h : CapL N x.cells) : Q6f N x := ⟨(let g : CapL N [.str x.meta_.kind, .str x.meta_.namespace_, .str x.meta_.name, .int .i64 x.meta_.uid, .int .i64 x.meta_.version, .int .i64 x.meta_.generation, .int .i64 x.meta_.created, .bool x.meta_.deleting, .int .i64 x.meta_.deleteAt, .sl (Label.rows x.meta_.labels), .sl (Owner.rows x.meta_.owners), .sl (Qj x.meta_.finalizers), .sl (Manager.rows x.meta_.managers)] := fun p hp => h p (by simp only [List.mem_cons, List.not_mem_nil, or_false] at hp; rcases hp with rfl | rfl | rfl | rfl | rfl | rfl | rfl | rfl | rfl | rfl | rfl | rfl | rfl <;> simp [Service.cells]); (Q9t g)), (let g : CapL N [.sl (Requirement.rows x.selector)] := fun p hp => h p (by simp only [List.mem_cons, List.not_mem_nil, or_false] at hp; rcases hp with rfl <;> simp [Service.cells]); (let r := Cap.Q8e (f := Requirement.cells) (g _ List.mem_cons_self); ⟨r.1, fun x hx => (Q42 (r.2 x hx))⟩)), (let g : CapL N [.sl (ServicePort.rows x.ports)] := fun p hp => h p (by simp only [List.mem_cons, List.not_mem_nil, or_false] at hp; rcases hp with rfl <;> simp [Service.cells]); (let r := Cap.Q8e (f := ServicePort.cells) (g _ List.mem_cons_self); ⟨r.1, fun x hx => (Q60 (r.2 x hx))⟩))⟩
theorem Service.Q3z {N : Nat} (hN : N ≤ sB) {x : Service} (c : Q6f N x) : Service.sm x := ⟨⟨Nat.le_trans c.2.1.1 hN, fun _ hx => Requirement.Q3z hN (c.2.1.2 _ hx)⟩, ⟨Nat.le_trans c.2.2.1 hN, fun _ hx => ServicePort.Q3z hN (c.2.2.2 _ hx)⟩, trivial⟩
def Q3j (N : Nat) (x : EndpointSet) : Prop := (Qbt N) x.meta_ ∧ (fun l : List ServicePort => l.length ≤ N ∧ ∀ x ∈ l, (Q3k N) x) x.ports ∧ (fun l : List Endpoint => l.length ≤ N ∧ ∀ x ∈ l, (Q6y N) x) x.items
theorem Q9o {N : Nat} {x : EndpointSet} (h : CapL N x.cells) : Q3j N x := ⟨(let g : CapL N [.str x.meta_.kind, .str x.meta_.namespace_, .str x.meta_.name, .int .i64 x.meta_.uid, .int .i64 x.meta_.version, .int .i64 x.meta_.generation, .int .i64 x.meta_.created, .bool x.meta_.deleting, .int .i64 x.meta_.deleteAt, .sl (Label.rows x.meta_.labels), .sl (Owner.rows x.meta_.owners), .sl (Qj x.meta_.finalizers), .sl (Manager.rows x.meta_.managers)] := fun p hp => h p (by simp only [List.mem_cons, List.not_mem_nil, or_false] at hp; rcases hp with rfl | rfl | rfl | rfl | rfl | rfl | rfl | rfl | rfl | rfl | rfl | rfl | rfl <;> simp [EndpointSet.cells]); (Q9t g)), (let g : CapL N [.sl (ServicePort.rows x.ports)] := fun p hp => h p (by simp only [List.mem_cons, List.not_mem_nil, or_false] at hp; rcases hp with rfl <;> simp [EndpointSet.cells]); (let r := Cap.Q8e (f := ServicePort.cells) (g _ List.mem_cons_self); ⟨r.1, fun x hx => (Q60 (r.2 x hx))⟩)), (let g : CapL N [.sl (Endpoint.rows x.items)] := fun p hp => h p (by simp only [List.mem_cons, List.not_mem_nil, or_false] at hp; rcases hp with rfl <;> simp [EndpointSet.cells]); (let r := Cap.Q8e (f := Endpoint.cells) (g _ List.mem_cons_self); ⟨r.1, fun x hx => (Qg4 (r.2 x hx))⟩))⟩
theorem EndpointSet.Q3z {N : Nat} (hN : N ≤ sB) {x : EndpointSet} (c : Q3j N x) : EndpointSet.sm x := ⟨⟨Nat.le_trans c.2.1.1 hN, fun _ hx => ServicePort.Q3z hN (c.2.1.2 _ hx)⟩, ⟨Nat.le_trans c.2.2.1 hN, fun _ hx => Endpoint.Q3z hN (c.2.2.2 _ hx)⟩, trivial⟩
def Q2p (N : Nat) (x : NetworkPolicy) : Prop := (Qbt N) x.meta_ ∧ (fun l : List Requirement => l.length ≤ N ∧ ∀ x ∈ l, (Q2j N) x) x.selector ∧ (fun l : List PolicyRule => l.length ≤ N ∧ ∀ x ∈ l, (Q5t N) x) x.rules
theorem Q82 {N : Nat} {x : NetworkPolicy} (h : CapL N x.cells) : Q2p N x := ⟨(let g : CapL N [.str x.meta_.kind, .str x.meta_.namespace_, .str x.meta_.name, .int .i64 x.meta_.uid, .int .i64 x.meta_.version, .int .i64 x.meta_.generation, .int .i64 x.meta_.created, .bool x.meta_.deleting, .int .i64 x.meta_.deleteAt, .sl (Label.rows x.meta_.labels), .sl (Owner.rows x.meta_.owners), .sl (Qj x.meta_.finalizers), .sl (Manager.rows x.meta_.managers)] := fun p hp => h p (by simp only [List.mem_cons, List.not_mem_nil, or_false] at hp; rcases hp with rfl | rfl | rfl | rfl | rfl | rfl | rfl | rfl | rfl | rfl | rfl | rfl | rfl <;> simp [NetworkPolicy.cells]); (Q9t g)), (let g : CapL N [.sl (Requirement.rows x.selector)] := fun p hp => h p (by simp only [List.mem_cons, List.not_mem_nil, or_false] at hp; rcases hp with rfl <;> simp [NetworkPolicy.cells]); (let r := Cap.Q8e (f := Requirement.cells) (g _ List.mem_cons_self); ⟨r.1, fun x hx => (Q42 (r.2 x hx))⟩)), (let g : CapL N [.sl (PolicyRule.rows x.rules)] := fun p hp => h p (by simp only [List.mem_cons, List.not_mem_nil, or_false] at hp; rcases hp with rfl <;> simp [NetworkPolicy.cells]); (let r := Cap.Q8e (f := PolicyRule.cells) (g _ List.mem_cons_self); ⟨r.1, fun x hx => (Qav (r.2 x hx))⟩))⟩
theorem NetworkPolicy.Q3z {N : Nat} (hN : N ≤ sB) {x : NetworkPolicy} (c : Q2p N x) : NetworkPolicy.sm x := ⟨⟨Nat.le_trans c.2.1.1 hN, fun _ hx => Requirement.Q3z hN (c.2.1.2 _ hx)⟩, ⟨Nat.le_trans c.2.2.1 hN, fun _ hx => PolicyRule.Q3z hN (c.2.2.2 _ hx)⟩, trivial⟩
end Go.Proofs.YtbagpdebihicnaaGreat
end

section
/- What the law WorkcodecNetwork computes (printed by a program). -/
namespace Go.Proofs.YtbagpdebihicnaaGreat
open Go.Pv
def s_K0 (p0 : Service) (p1 : EndpointSet) (p2 : NetworkPolicy) : Bool :=
 bif (s_K2 (s_Kv p0)) then
  bif (s_K2 (s_Kt p1)) then
   bif (s_K2 (s_Ku p2)) then
    true
   else
    true
  else
   true
 else
  true
def c_K0 (p0 : Service) (p1 : EndpointSet) (p2 : NetworkPolicy) : En := .call 3 [.agg (Service.cells p0), .agg (EndpointSet.cells p1), .agg (NetworkPolicy.cells p2)] []
def a_K0 (p0 : Service) (p1 : EndpointSet) (p2 : NetworkPolicy) : Rs := .ret (.bool (s_K0 p0 p1 p2)) []
def H_K0 (p0 : Service) (p1 : EndpointSet) (p2 : NetworkPolicy) : Prop := (H_Kv p0) ∧ (H_Kt p1) ∧ (H_Ku p2) ∧ (H_K2 (s_Kv p0)) ∧ ((s_K2 (s_Kv p0)) = true → H_K2 (s_Kt p1)) ∧ ((s_K2 (s_Kv p0)) = true → (s_K2 (s_Kt p1)) = true → H_K2 (s_Ku p2)) ∧ ((s_K2 (s_Kv p0)) = true → (s_K2 (s_Kt p1)) = true → (s_K2 (s_Ku p2)) = true → Q144 p0) ∧ ((s_K2 (s_Kv p0)) = true → (s_K2 (s_Kt p1)) = true → (s_K2 (s_Ku p2)) = true → (Qy4 p0) = (s_Kv p0)) ∧ ((s_K2 (s_Kv p0)) = true → (s_K2 (s_Kt p1)) = true → (s_K2 (s_Ku p2)) = true → H_Kd (Qy4 p0)) ∧ ((s_K2 (s_Kv p0)) = true → (s_K2 (s_Kt p1)) = true → (s_K2 (s_Ku p2)) = true → Q142 p1) ∧ ((s_K2 (s_Kv p0)) = true → (s_K2 (s_Kt p1)) = true → (s_K2 (s_Ku p2)) = true → (Qy2 p1) = (s_Kt p1)) ∧ ((s_K2 (s_Kv p0)) = true → (s_K2 (s_Kt p1)) = true → (s_K2 (s_Ku p2)) = true → H_Kd (Qy2 p1)) ∧ ((s_K2 (s_Kv p0)) = true → (s_K2 (s_Kt p1)) = true → (s_K2 (s_Ku p2)) = true → Q143 p2) ∧ ((s_K2 (s_Kv p0)) = true → (s_K2 (s_Kt p1)) = true → (s_K2 (s_Ku p2)) = true → (Qy3 p2) = (s_Ku p2)) ∧ ((s_K2 (s_Kv p0)) = true → (s_K2 (s_Kt p1)) = true → (s_K2 (s_Ku p2)) = true → H_Kd (Qy3 p2)) ∧ ((s_K2 (s_Kv p0)) = true → (s_K2 (s_Kt p1)) = true → (s_K2 (s_Ku p2)) = true → Q147 (s_Kv p0)) ∧ ((s_K2 (s_Kv p0)) = true → (s_K2 (s_Kt p1)) = true → (s_K2 (s_Ku p2)) = true → Q12m (s_Kv p0) = ((Service.at p0), 0)) ∧ ((s_K2 (s_Kv p0)) = true → (s_K2 (s_Kt p1)) = true → (s_K2 (s_Ku p2)) = true → Q145 (s_Kt p1)) ∧ ((s_K2 (s_Kv p0)) = true → (s_K2 (s_Kt p1)) = true → (s_K2 (s_Ku p2)) = true → Q12k (s_Kt p1) = ((EndpointSet.at p1), 0)) ∧ ((s_K2 (s_Kv p0)) = true → (s_K2 (s_Kt p1)) = true → (s_K2 (s_Ku p2)) = true → Q146 (s_Ku p2)) ∧ ((s_K2 (s_Kv p0)) = true → (s_K2 (s_Kt p1)) = true → (s_K2 (s_Ku p2)) = true → Q12l (s_Ku p2) = ((NetworkPolicy.at p2), 0)) ∧ ((s_K2 (s_Kv p0)) = true → (s_K2 (s_Kt p1)) = true → (s_K2 (s_Ku p2)) = true → H_Kv (Service.at p0)) ∧ ((s_K2 (s_Kv p0)) = true → (s_K2 (s_Kt p1)) = true → (s_K2 (s_Ku p2)) = true → (s_Kv (Service.at p0)) = (s_Kv p0)) ∧ ((s_K2 (s_Kv p0)) = true → (s_K2 (s_Kt p1)) = true → (s_K2 (s_Ku p2)) = true → H_Kd (s_Kv (Service.at p0))) ∧ ((s_K2 (s_Kv p0)) = true → (s_K2 (s_Kt p1)) = true → (s_K2 (s_Ku p2)) = true → H_Kt (EndpointSet.at p1)) ∧ ((s_K2 (s_Kv p0)) = true → (s_K2 (s_Kt p1)) = true → (s_K2 (s_Ku p2)) = true → (s_Kt (EndpointSet.at p1)) = (s_Kt p1)) ∧ ((s_K2 (s_Kv p0)) = true → (s_K2 (s_Kt p1)) = true → (s_K2 (s_Ku p2)) = true → H_Kd (s_Kt (EndpointSet.at p1))) ∧ ((s_K2 (s_Kv p0)) = true → (s_K2 (s_Kt p1)) = true → (s_K2 (s_Ku p2)) = true → H_Ku (NetworkPolicy.at p2)) ∧ ((s_K2 (s_Kv p0)) = true → (s_K2 (s_Kt p1)) = true → (s_K2 (s_Ku p2)) = true → (s_Ku (NetworkPolicy.at p2)) = (s_Ku p2)) ∧ ((s_K2 (s_Kv p0)) = true → (s_K2 (s_Kt p1)) = true → (s_K2 (s_Ku p2)) = true → H_Kd (s_Ku (NetworkPolicy.at p2))) ∧ True
theorem t_K0 (p0 : Service) (p1 : EndpointSet) (p2 : NetworkPolicy) (H : H_K0 p0 p1 p2) : Q6 G (c_K0 p0 p1 p2) (a_K0 p0 p1 p2) := by
 unfold a_K0 s_K0
 cases h0 : (s_K2 (s_Kv p0)) with
 | true =>
  cases h1 : (s_K2 (s_Kt p1)) with
  | true =>
   cases h2 : (s_K2 (s_Ku p2)) with
   | true =>
    exact Q8 (fn := Ir.K0) rfl VOK.nil [] [aN (t_Kv p0 (H.1)), aN (t_Kt p1 (H.2.1)), aN (t_Ku p2 (H.2.2.1)), aB (t_K2 (s_Kv p0) (H.2.2.2.1)) h0, aB (t_K2 (s_Kt p1) (H.2.2.2.2.1 h0)) h1, aB (t_K2 (s_Ku p2) (H.2.2.2.2.2.1 h0 h1)) h2, aN (Q1ha p0 (H.2.2.2.2.2.2.1 h0 h1 h2)), aN (Q4j (c := fun y => .call 9 [.agg (Object.cells (Qy4 p0)), .agg (Object.cells y)] []) (H.2.2.2.2.2.2.2.1 h0 h1 h2) (t_Kd (Qy4 p0) (H.2.2.2.2.2.2.2.2.1 h0 h1 h2))), aN (Q1h5 p1 (H.2.2.2.2.2.2.2.2.2.1 h0 h1 h2)), aN (Q4j (c := fun y => .call 9 [.agg (Object.cells (Qy2 p1)), .agg (Object.cells y)] []) (H.2.2.2.2.2.2.2.2.2.2.1 h0 h1 h2) (t_Kd (Qy2 p1) (H.2.2.2.2.2.2.2.2.2.2.2.1 h0 h1 h2))), aN (Q1h7 p2 (H.2.2.2.2.2.2.2.2.2.2.2.2.1 h0 h1 h2)), aN (Q4j (c := fun y => .call 9 [.agg (Object.cells (Qy3 p2)), .agg (Object.cells y)] []) (H.2.2.2.2.2.2.2.2.2.2.2.2.2.1 h0 h1 h2) (t_Kd (Qy3 p2) (H.2.2.2.2.2.2.2.2.2.2.2.2.2.2.1 h0 h1 h2))), aN (toldOf (Q1hg (s_Kv p0) (H.2.2.2.2.2.2.2.2.2.2.2.2.2.2.2.1 h0 h1 h2)) (congrArg (fun z : Service × Int => Rs.ret (.tup [.agg (Service.cells z.1), .int .i64 z.2]) []) (H.2.2.2.2.2.2.2.2.2.2.2.2.2.2.2.2.1 h0 h1 h2))), aN (toldOf (Q1hb (s_Kt p1) (H.2.2.2.2.2.2.2.2.2.2.2.2.2.2.2.2.2.1 h0 h1 h2)) (congrArg (fun z : EndpointSet × Int => Rs.ret (.tup [.agg (EndpointSet.cells z.1), .int .i64 z.2]) []) (H.2.2.2.2.2.2.2.2.2.2.2.2.2.2.2.2.2.2.1 h0 h1 h2))), aN (toldOf (Q1hd (s_Ku p2) (H.2.2.2.2.2.2.2.2.2.2.2.2.2.2.2.2.2.2.2.1 h0 h1 h2)) (congrArg (fun z : NetworkPolicy × Int => Rs.ret (.tup [.agg (NetworkPolicy.cells z.1), .int .i64 z.2]) []) (H.2.2.2.2.2.2.2.2.2.2.2.2.2.2.2.2.2.2.2.2.1 h0 h1 h2))), aN (t_Kv (Service.at p0) (H.2.2.2.2.2.2.2.2.2.2.2.2.2.2.2.2.2.2.2.2.2.1 h0 h1 h2)), aN (Q4j (c := fun y => .call 9 [.agg (Object.cells (s_Kv (Service.at p0))), .agg (Object.cells y)] []) (H.2.2.2.2.2.2.2.2.2.2.2.2.2.2.2.2.2.2.2.2.2.2.1 h0 h1 h2) (t_Kd (s_Kv (Service.at p0)) (H.2.2.2.2.2.2.2.2.2.2.2.2.2.2.2.2.2.2.2.2.2.2.2.1 h0 h1 h2))), aN (t_Kt (EndpointSet.at p1) (H.2.2.2.2.2.2.2.2.2.2.2.2.2.2.2.2.2.2.2.2.2.2.2.2.1 h0 h1 h2)), aN (Q4j (c := fun y => .call 9 [.agg (Object.cells (s_Kt (EndpointSet.at p1))), .agg (Object.cells y)] []) (H.2.2.2.2.2.2.2.2.2.2.2.2.2.2.2.2.2.2.2.2.2.2.2.2.2.1 h0 h1 h2) (t_Kd (s_Kt (EndpointSet.at p1)) (H.2.2.2.2.2.2.2.2.2.2.2.2.2.2.2.2.2.2.2.2.2.2.2.2.2.2.1 h0 h1 h2))), aN (t_Ku (NetworkPolicy.at p2) (H.2.2.2.2.2.2.2.2.2.2.2.2.2.2.2.2.2.2.2.2.2.2.2.2.2.2.2.1 h0 h1 h2)), aN (Q4j (c := fun y => .call 9 [.agg (Object.cells (s_Ku (NetworkPolicy.at p2))), .agg (Object.cells y)] []) (H.2.2.2.2.2.2.2.2.2.2.2.2.2.2.2.2.2.2.2.2.2.2.2.2.2.2.2.2.1 h0 h1 h2) (t_Kd (s_Ku (NetworkPolicy.at p2)) (H.2.2.2.2.2.2.2.2.2.2.2.2.2.2.2.2.2.2.2.2.2.2.2.2.2.2.2.2.2.1 h0 h1 h2))), aN t_K1] (by kernel_rfl)
   | false =>
    exact Q8 (fn := Ir.K0) rfl VOK.nil [] [aN (t_Kv p0 (H.1)), aN (t_Kt p1 (H.2.1)), aN (t_Ku p2 (H.2.2.1)), aB (t_K2 (s_Kv p0) (H.2.2.2.1)) h0, aB (t_K2 (s_Kt p1) (H.2.2.2.2.1 h0)) h1, aB (t_K2 (s_Ku p2) (H.2.2.2.2.2.1 h0 h1)) h2, aN t_K1] (by kernel_rfl)
  | false =>
   exact Q8 (fn := Ir.K0) rfl VOK.nil [] [aN (t_Kv p0 (H.1)), aN (t_Kt p1 (H.2.1)), aN (t_Ku p2 (H.2.2.1)), aB (t_K2 (s_Kv p0) (H.2.2.2.1)) h0, aB (t_K2 (s_Kt p1) (H.2.2.2.2.1 h0)) h1, aN t_K1] (by kernel_rfl)
 | false =>
  exact Q8 (fn := Ir.K0) rfl VOK.nil [] [aN (t_Kv p0 (H.1)), aN (t_Kt p1 (H.2.1)), aN (t_Ku p2 (H.2.2.1)), aB (t_K2 (s_Kv p0) (H.2.2.2.1)) h0, aN t_K1] (by kernel_rfl)
def tysWorkcodecNetwork : List Ty := [Qhm, Q7t, Q6q]
theorem pureWorkcodecNetwork {N : Nat} (hp : ∀ (p0 : Service) (p1 : EndpointSet) (p2 : NetworkPolicy), Qa1 p0 → Q5s p1 → Q4g p2 → (Q6f N) p0 → (Q3j N) p1 → (Q2p N) p2 → H_K0 p0 p1 p2 ∧ s_K0 p0 p1 p2 = true) : ∀ qs, Qyx Γ N tysWorkcodecNetwork qs → ∃ n, runs G n (.call 3 qs []) = some (.ret (.bool true) []) := by
  intro qs h
  cases qs with
  | nil => cases h
  | cons q0 qs =>
  obtain ⟨h0, h⟩ := h
  cases qs with
  | nil => cases h
  | cons q1 qs =>
  obtain ⟨h1, h⟩ := h
  cases qs with
  | nil => cases h
  | cons q2 qs =>
  obtain ⟨h2, h⟩ := h
  cases qs with
  | cons _ _ => cases h
  | nil =>
  obtain ⟨c0, rfl, g0, b0⟩ := h0.agg rfl
  obtain ⟨p0, rfl, k0⟩ := (Qow g0)
  obtain ⟨c1, rfl, g1, b1⟩ := h1.agg rfl
  obtain ⟨p1, rfl, k1⟩ := (Qas g1)
  obtain ⟨c2, rfl, g2, b2⟩ := h2.agg rfl
  obtain ⟨p2, rfl, k2⟩ := (Q8w g2)
  have e := hp p0 p1 p2 k0 k1 k2 (Qm8 b0) (Q9o b1) (Q82 b2)
  have t := t_K0 p0 p1 p2 e.1
  unfold a_K0 at t
  rw [e.2] at t
  exact t
end Go.Proofs.YtbagpdebihicnaaGreat
end

section
/- What is small by the reference's count; what is demanded of metadata and objects (printed by a program). -/
namespace Go.Proofs.YtbagpdebihicnaaGreat
open Go.Pv
def cv : Qru → Int
  | .k0 y => y
  | .k1 => -1
theorem Quj (p : Val) (d : Int) (l : List Val) (i : Nat) {a : Int} (h : ¬ 0 ≤ a) : Q2k p d l i a = a := by
  cases l with
  | nil => rw [Q2k]
  | cons x l => rw [Q2k, show decide (0 ≤ a) = false by simpa using h, cond_false]
theorem Qmd (p : Val) (d : Int) (l : List Fld) (i : Nat) {a : Int} (h : ¬ 0 ≤ a) : cv (Q3a p d l i a) = a := by
  cases l with
  | nil => rw [Q3a]; rfl
  | cons x l => rw [Q3a, show decide (0 ≤ a) = false by simpa using h, cond_false]; rfl
def Q16k (v : Val) : Prop := ∀ n d, n ≤ 1000 → 0 ≤ s_Ka v n d → Val.Sm 1000 v ∧ s_Ka v n d + 1 ≤ n
theorem Quk (p : Val) (d : Int) : ∀ (l : List Val) (i : Nat) (a : Int), a ≤ 1000 → (∀ x ∈ l, Q16k x) → 0 ≤ Q2k p d l i a → (∀ x ∈ l, Val.Sm 1000 x) ∧ Q2k p d l i a + (l.length : Int) ≤ a
  | [], i, a, _, _, _ => by
    rw [Q2k]
    exact ⟨fun _ h => (by cases h), by simp⟩
  | x :: l, i, a, ha, hx, h => by
    by_cases c : 0 ≤ a
    · rw [Q2k, show decide (0 ≤ a) = true by simpa using c, cond_true] at h ⊢
      have k : 0 ≤ s_Ka x a (w64 (d - 1)) := by
        apply Decidable.byContradiction
        intro hn
        rw [Quj p d l _ hn] at h
        exact hn h
      have h1 := hx x List.mem_cons_self a _ ha k
      have h2 := Quk p d l (i + 1) _ (by omega) (fun y hy => hx y (List.mem_cons_of_mem _ hy)) h
      refine ⟨List.forall_mem_cons.2 ⟨h1.1, h2.1⟩, ?_⟩
      have := h1.2
      have := h2.2
      rw [List.length_cons]
      omega
    · rw [Quj p d _ i c] at h
      exact absurd h c
theorem Qul (p : Val) (d : Int) : ∀ (l : List Fld) (i : Nat) (a : Int), a ≤ 1000 → (∀ x ∈ l, Q16k x.v) → 0 ≤ cv (Q3a p d l i a) → (∀ x ∈ l, Val.Sm 1000 x.v) ∧ cv (Q3a p d l i a) + (l.length : Int) ≤ a
  | [], i, a, _, _, _ => by
    rw [Q3a]
    exact ⟨fun _ h => (by cases h), by simp [cv]⟩
  | x :: l, i, a, ha, hx, h => by
    by_cases c : 0 ≤ a
    · rw [Q3a, show decide (0 ≤ a) = true by simpa using c, cond_true] at h ⊢
      cases e : decide (1000 < (ByteArray.size x.name : Int)) with
      | true =>
        rw [e] at h
        exact absurd (show (0 : Int) ≤ -1 from h) (by decide)
      | false =>
        rw [e, cond_false] at h
        rw [cond_false]
        have k : 0 ≤ s_Ka x.v a (w64 (d - 1)) := by
          apply Decidable.byContradiction
          intro hn
          rw [Qmd p d l _ hn] at h
          exact hn h
        have h1 := hx x List.mem_cons_self a _ ha k
        have h2 := Qul p d l (i + 1) _ (by omega) (fun y hy => hx y (List.mem_cons_of_mem _ hy)) h
        refine ⟨List.forall_mem_cons.2 ⟨h1.1, h2.1⟩, ?_⟩
        have := h1.2
        have := h2.2
        rw [List.length_cons]
        omega
    · rw [Qmd p d _ i c] at h
      exact absurd h c
theorem Q14l : ∀ v, Q16k v := vind fun v h1 h2 n d hn h => by
  rw [s_Ka] at h ⊢
  cases c1 : decide (n ≤ 0) with
  | true => rw [c1] at h; exact absurd (show (0 : Int) ≤ -1 from h) (by decide)
  | false =>
    cases c2 : decide (d ≤ 0) with
    | true => rw [c1, c2] at h; exact absurd (show (0 : Int) ≤ -1 from h) (by decide)
    | false =>
      cases c3 : decide (1000 < (ByteArray.size v.s : Int)) with
      | true => rw [c1, c2, c3] at h; exact absurd (show (0 : Int) ≤ -1 from h) (by decide)
      | false =>
        have e1 := of_decide_eq_false c1
        rw [c1, c2, c3, cond_false, cond_false, cond_false, Qrq (by omega)] at h
        rw [cond_false, cond_false, cond_false, Qrq (by omega)]
        change 0 ≤ cv (Q3a v d v.fields 0 (Q2k v d v.list 0 (n - 1))) at h
        change _ ∧ cv (Q3a v d v.fields 0 (Q2k v d v.list 0 (n - 1))) + 1 ≤ n
        have k : 0 ≤ Q2k v d v.list 0 (n - 1) := by
          apply Decidable.byContradiction
          intro hn
          rw [Qmd v d _ _ hn] at h
          exact hn h
        have g0 := Quk v d v.list 0 (n - 1) (by omega) h1 k
        have g1 := Qul v d v.fields 0 _ (by have := g0.2; omega) h2 h
        have := g0.2
        have := g1.2
        exact ⟨.mk _ (by omega) (by omega) g0.1 g1.1, by omega⟩
theorem Qwi {v : Val} {n : Int} (hn : n ≤ 1000) (h : s_K9 v n = true) : Val.Sm 1000 v := (Q14l v n n hn (of_decide_eq_true h)).1
theorem Qmn {o : Object} (h : s_K2 o = true) : Val.Sm 1000 o.spec ∧ Val.Sm 1000 o.status := by
  unfold s_K2 at h
  cases c1 : decide (40 < ((List.length o.meta_.labels) : Int)) with
  | true => rw [c1] at h; cases h
  | false =>
    cases c2 : decide (40 < ((List.length o.meta_.owners) : Int)) with
    | true => rw [c1, c2] at h; cases h
    | false =>
      cases c3 : decide (40 < ((List.length o.meta_.finalizers) : Int)) with
      | true => rw [c1, c2, c3] at h; cases h
      | false =>
        cases c4 : decide (40 < ((List.length o.meta_.managers) : Int)) with
        | true => rw [c1, c2, c3, c4] at h; cases h
        | false =>
          rw [c1, c2, c3, c4, cond_false, cond_false, cond_false, cond_false] at h
          cases c5 : Q88 o o.meta_.managers 0 with
          | k1 => rw [c5] at h; cases h
          | k0 =>
            rw [c5] at h
            cases c6 : s_K9 o.spec 900 with
            | false =>
              simp only [c6, cond_false] at h
              cases h
            | true =>
              simp only [c6, cond_true] at h
              exact ⟨Qwi (by decide) c6, Qwi (by decide) h⟩
theorem Qr9 {m : Meta} (k : Q4f m) : Qat m ∧ H_Kg m ∧ m.managers.length ≤ 4611686018427387904 := by
  obtain ⟨k1, k2, k3, _, _, _, _, _, _, kl, ko, kf, km⟩ := k
  have hl := kl.1
  have ho := ko.1
  have hf := kf.1
  have hm := km.1
  unfold okS at k1 k2 k3
  have hx : ∀ x ∈ m.managers, x.fields.length * 16 ≤ 140737488351232 := fun x hx => (km.2 x hx).2.1
  have e0 : (⟨#[47]⟩ : BA).size = 1 := rfl
  refine ⟨⟨by omega, by omega, by omega, by omega, ⟨by omega, fun x h => by have := hx x h; omega, trivial⟩, trivial⟩, ⟨⟨⟨?_, ?_, ?_, ?_, trivial⟩, trivial⟩, ⟨⟨by omega, trivial⟩, trivial⟩, ⟨by omega, trivial⟩, ⟨by omega, trivial⟩, ⟨by omega, fun x h => ⟨⟨by have := hx x h; omega, trivial⟩, trivial⟩, trivial⟩, trivial⟩, by omega⟩ <;>
  · simp only [ByteArray.size_append, e0]
    omega
theorem Q129 {m : Meta} (k : Q4f m) (s : BA) (h : s.size ≤ 140737488351232) : Q4f { m with kind := s } := ⟨h, k.2⟩
theorem Q10w {o : Object} (k : Q4f o.meta_) (g : Object.sm o) : H_K2 o := ⟨⟨(Qr9 k).2.2, trivial⟩, ⟨g.1.mono (Nat.le_of_ble_eq_true rfl), trivial⟩, ⟨g.2.mono (Nat.le_of_ble_eq_true rfl), trivial⟩, trivial⟩
theorem Q103 {o : Object} (k : Q4f o.meta_) (g : Object.sm o) : H_Kd o := ⟨(Qr9 k).2.1, ⟨g.1.mono (Nat.le_of_ble_eq_true rfl), trivial⟩, ⟨g.2.mono (Nat.le_of_ble_eq_true rfl), trivial⟩, trivial⟩
structure ServiceF (x : Service) : Prop where
  r : H_Kv x
  l : H_K2 (s_Kv x)
  f : Q144 x
  e : H_Kd (s_Kv x)
  t : Q147 (s_Kv x)
  b : s_K2 (s_Kv x) = true → Q12m (s_Kv x) = (Service.at x, 0)
theorem Service.facts {x : Service} (k : Q4f x.meta_) (a : Service.sm x) : ServiceF x := by
  have m := Q129 k Qu (Nat.le_of_ble_eq_true rfl)
  have g : Object.sm (Service.obj x) := Service.Qrc a
  exact ⟨a, Q10w (o := Service.obj x) m g, ⟨(Qr9 k).1, a⟩, Q103 (o := Service.obj x) m g, ⟨(Qr9 m).1, g⟩, fun h => (Service.rc (o := Service.obj x) (Qmn h)).trans (Service.R_at x)⟩
structure EndpointSetF (x : EndpointSet) : Prop where
  r : H_Kt x
  l : H_K2 (s_Kt x)
  f : Q142 x
  e : H_Kd (s_Kt x)
  t : Q145 (s_Kt x)
  b : s_K2 (s_Kt x) = true → Q12k (s_Kt x) = (EndpointSet.at x, 0)
theorem EndpointSet.facts {x : EndpointSet} (k : Q4f x.meta_) (a : EndpointSet.sm x) : EndpointSetF x := by
  have m := Q129 k Qp (Nat.le_of_ble_eq_true rfl)
  have g : Object.sm (EndpointSet.obj x) := EndpointSet.Qrc a
  exact ⟨a, Q10w (o := EndpointSet.obj x) m g, ⟨(Qr9 k).1, a⟩, Q103 (o := EndpointSet.obj x) m g, ⟨(Qr9 m).1, g⟩, fun h => (EndpointSet.rc (o := EndpointSet.obj x) (Qmn h)).trans (EndpointSet.R_at x)⟩
structure NetworkPolicyF (x : NetworkPolicy) : Prop where
  r : H_Ku x
  l : H_K2 (s_Ku x)
  f : Q143 x
  e : H_Kd (s_Ku x)
  t : Q146 (s_Ku x)
  b : s_K2 (s_Ku x) = true → Q12l (s_Ku x) = (NetworkPolicy.at x, 0)
theorem NetworkPolicy.facts {x : NetworkPolicy} (k : Q4f x.meta_) (a : NetworkPolicy.sm x) : NetworkPolicyF x := by
  have m := Q129 k Qc (Nat.le_of_ble_eq_true rfl)
  have g : Object.sm (NetworkPolicy.obj x) := NetworkPolicy.Qrc a
  exact ⟨a, Q10w (o := NetworkPolicy.obj x) m g, ⟨(Qr9 k).1, a⟩, Q103 (o := NetworkPolicy.obj x) m g, ⟨(Qr9 m).1, g⟩, fun h => (NetworkPolicy.rc (o := NetworkPolicy.obj x) (Qmn h)).trans (NetworkPolicy.R_at x)⟩
end Go.Proofs.YtbagpdebihicnaaGreat
end

section
/- The law WorkcodecNetwork in plain words: what was encoded is decoded to what it was. -/
namespace Go.Proofs.YtbagpdebihicnaaGreat
open Go.Pv
theorem lawNetwork (p0 : Service) (p1 : EndpointSet) (p2 : NetworkPolicy) (k0 : Qa1 p0) (k1 : Q5s p1) (k2 : Q4g p2) (c0 : Q6f 1048576 p0) (c1 : Q3j 1048576 p1) (c2 : Q2p 1048576 p2) : H_K0 p0 p1 p2 ∧ s_K0 p0 p1 p2 = true := by
  have f0 := Service.facts k0.1 (Service.Q3z (Nat.le_of_ble_eq_true rfl) c0)
  have f1 := EndpointSet.facts k1.1 (EndpointSet.Q3z (Nat.le_of_ble_eq_true rfl) c1)
  have f2 := NetworkPolicy.facts k2.1 (NetworkPolicy.Q3z (Nat.le_of_ble_eq_true rfl) c2)
  refine ⟨?_, ?_⟩
  · unfold H_K0
    repeat' with_reducible apply And.intro
    all_goals first | exact True.intro | (intros; first | rfl | exact f0.r | exact f0.l | exact f0.f | exact f0.e | exact f0.t | exact f0.b (by assumption) | exact f1.r | exact f1.l | exact f1.f | exact f1.e | exact f1.t | exact f1.b (by assumption) | exact f2.r | exact f2.l | exact f2.f | exact f2.e | exact f2.t | exact f2.b (by assumption))
  · unfold s_K0
    cases s_K2 (s_Kv p0) <;> cases s_K2 (s_Kt p1) <;> cases s_K2 (s_Ku p2)
    all_goals rfl
end Go.Proofs.YtbagpdebihicnaaGreat
end

section
/- The library's comparison of two strings, walked: it answers as the evaluator's cmpL. -/
namespace Go.Proofs.YtbagpdebihicnaaGreat
open Go.Pv
theorem cmpL_eq : ∀ (a b : List UInt8), cmpL a b = Lib.compareBytes a b
  | [], [] => rfl
  | [], _ :: _ => rfl
  | _ :: _, [] => rfl
  | a :: x, b :: y => by
    rw [Lib.compareBytes, ← cmpL_eq x y]
    rfl
set_option maxHeartbeats 1000000 in
set_option maxRecDepth 100000 in
theorem comparing (a b : BA) (w : World) :
    Calls Tryz.prog 106 #[.string a, .string b] w fun e w' => e = .returned (.int .i64 (Lib.compareBytes a.data.toList b.data.toList)) ∧ w' = w := by
  go_enter Tryz.func106, Tryz.ntmps106
  go_wp2
  rw [run_callFunc_extern Tryz.func113 (by kernel_rfl) (by kernel_rfl) (by kernel_rfl) (e := Extern.BytealgCompare.compare) (by kernel_rfl), Lib.run_compareString]
  simp only [Result.andThen]
  rw [Oper.upon_value]
  go_wp2
  go_ret
  exact ⟨rfl, rfl⟩
theorem cmpOK : Q140 Tryz.prog 106 := by
  refine ⟨⟨_, Tryz.func106, by kernel_rfl, by kernel_rfl⟩, fun x y w => ?_⟩
  have h := comparing x y w
  rw [← cmpL_eq, ← toList_data, ← toList_data] at h
  exact h
end Go.Proofs.YtbagpdebihicnaaGreat
end

section
/- What is of bounded bulk holds nothing longer. -/
namespace Go.Proofs.YtbagpdebihicnaaGreat.bulks
open Go.Pv
theorem one_le {H : Type} (d : DataW H) : 1 ≤ Rows.uptoBulk d := by
  cases d with
  | lit l => cases l <;> simp [Rows.uptoBulk]
  | nil => simp [Rows.uptoBulk]
  | ptr d => simp [Rows.uptoBulk]
  | slice elems spare => simp [Rows.uptoBulk]
  | agg parts => simp [Rows.uptoBulk]
  | iface t d => simp [Rows.uptoBulk]
  | map entries => simp [Rows.uptoBulk]
  | held h => simp [Rows.uptoBulk]
theorem Qsf {H : Type} {d : DataW H} {l : List (DataW H)} (h : d ∈ l) : Rows.uptoBulk d ≤ Rows.uptoBulkAll l := by
  induction l with
  | nil => cases h
  | cons x r ih =>
    simp only [Rows.uptoBulkAll]
    rcases List.mem_cons.1 h with e | e
    · subst e; omega
    · have := ih e; omega
theorem length_le {H : Type} (l : List (DataW H)) : l.length ≤ Rows.uptoBulkAll l := by
  induction l with
  | nil => simp [Rows.uptoBulkAll]
  | cons x r ih => have := one_le x; simp only [Rows.uptoBulkAll, List.length_cons]; omega
theorem Qzr {H : Type} {N : Nat} : ∀ (k : Nat) (d : DataW H), Rows.uptoBulk d ≤ k → k ≤ N → CapD N d
  | 0, d, h, _ => by have := one_le d; omega
  | k + 1, d, h, hk => by
    cases d with
    | lit l => exact .lit l (fun b e => by subst e; simp only [Rows.uptoBulk] at h; omega)
    | nil => exact .nil
    | ptr d => exact .ptr d
    | slice elems spare =>
      simp only [Rows.uptoBulk] at h
      exact .slice elems spare (by have := length_le elems; omega) (fun z hz => Qzr k z (by have := Qsf hz; omega) (by omega))
    | agg parts =>
      simp only [Rows.uptoBulk] at h
      exact .agg parts (fun z hz => Qzr k z (by have := Qsf hz; omega) (by omega))
    | iface t d => exact .iface t d
    | map entries => exact .map entries
    | held x => exact .held x
theorem caps {H : Type} {ds gs : List (DataW H)} (hk : Rows.uptoSmall H (ds ++ gs) = true) : ∀ d ∈ ds, CapD 1048576 d := fun d hd =>
  Qzr 1048576 d (Nat.le_trans (Qsf (List.mem_append_left _ hd)) (of_decide_eq_true hk)) (Nat.le_refl _)
end Go.Proofs.YtbagpdebihicnaaGreat.bulks
end

