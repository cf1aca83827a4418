/- Texts of the claim, merged by a program; what the statement does not reach is left out. -/
import Derived.Test.YtedohmdgbilicaaBValueMaps3

section
/- What the functions of the chapter on values compute (printed by a program). -/
namespace Go.Proofs.Ytedohmdgbilicaa
open Go.Pv
inductive R_K1v_b0 where
  | k0
  | k1
inductive R_K1v_b1 where
  | k0
  | k1
mutual
def s_K1v (p0 : Val) (p1 : Int) : Bool :=
  bif (p1 == 0) then
    false
  else
    bif (s_K1t p0) then
      bif (p0.kind == 4) then
        bif (p0.kind == 5) then
          bif (decide (64 < ((List.length p0.list) : Int))) then
            false
          else
            bif (decide (64 < ((List.length p0.fields) : Int))) then
              false
            else
              (match (l_K1v_b0 p0 p1 p0.list 0) with
              | .k0 => (match (l_K1v_b1 p0 p1 p0.fields 0) with
                | .k0 => true
                | .k1 => false)
              | .k1 => false)
        else
          bif (decide (0 < ((List.length p0.fields) : Int))) then
            false
          else
            bif (decide (64 < ((List.length p0.list) : Int))) then
              false
            else
              bif (decide (64 < ((List.length p0.fields) : Int))) then
                false
              else
                (match (l_K1v_b0 p0 p1 p0.list 0) with
                | .k0 => (match (l_K1v_b1 p0 p1 p0.fields 0) with
                  | .k0 => true
                  | .k1 => false)
                | .k1 => false)
      else
        bif (decide (0 < ((List.length p0.list) : Int))) then
          false
        else
          bif (p0.kind == 5) then
            bif (decide (64 < ((List.length p0.list) : Int))) then
              false
            else
              bif (decide (64 < ((List.length p0.fields) : Int))) then
                false
              else
                (match (l_K1v_b0 p0 p1 p0.list 0) with
                | .k0 => (match (l_K1v_b1 p0 p1 p0.fields 0) with
                  | .k0 => true
                  | .k1 => false)
                | .k1 => false)
          else
            bif (decide (0 < ((List.length p0.fields) : Int))) then
              false
            else
              bif (decide (64 < ((List.length p0.list) : Int))) then
                false
              else
                bif (decide (64 < ((List.length p0.fields) : Int))) then
                  false
                else
                  (match (l_K1v_b0 p0 p1 p0.list 0) with
                  | .k0 => (match (l_K1v_b1 p0 p1 p0.fields 0) with
                    | .k0 => true
                    | .k1 => false)
                  | .k1 => false)
    else
      false
termination_by SizeOf.sizeOf p0
decreasing_by all_goals first | exact Val.lt_list _ | exact Val.lt_fields _ | exact lt_head _ _ | exact lt_tail _ _ | exact lt_headv _ _
def l_K1v_b0 (p0 : Val) (p1 : Int) : List Val → Nat → R_K1v_b0
  | [], _i0 =>
    (.k0)
  | x0 :: r0, i0 =>
    bif (s_K1v x0 (w64 (p1 - 1))) then
      l_K1v_b0 p0 p1 r0 (i0 + 1)
    else
      (.k1)
termination_by l => SizeOf.sizeOf l
decreasing_by all_goals first | exact Val.lt_list _ | exact Val.lt_fields _ | exact lt_head _ _ | exact lt_tail _ _ | exact lt_headv _ _
def l_K1v_b1 (p0 : Val) (p1 : Int) : List Fld → Nat → R_K1v_b1
  | [], _i1 =>
    (.k0)
  | x1 :: r1, i1 =>
    bif (s_K1q x1.name) then
      bif (decide (0 < (i1 : Int))) then
        bif (sLt (List.getD p0.fields (Int.toNat (w64 ((i1 : Int) - 1))) (Fld.mk (⟨#[]⟩ : ByteArray) (Val.mk 0 0 (⟨#[]⟩ : ByteArray) [] []))).name x1.name) then
          bif (s_K1v x1.v (w64 (p1 - 1))) then
            l_K1v_b1 p0 p1 r1 (i1 + 1)
          else
            (.k1)
        else
          (.k1)
      else
        bif (s_K1v x1.v (w64 (p1 - 1))) then
          l_K1v_b1 p0 p1 r1 (i1 + 1)
        else
          (.k1)
    else
      (.k1)
termination_by l => SizeOf.sizeOf l
decreasing_by all_goals first | exact Val.lt_list _ | exact Val.lt_fields _ | exact lt_head _ _ | exact lt_tail _ _ | exact lt_headv _ _
end
def HE_K1v_b0 (p0 : Val) (p1 : Int) (i0 : Nat) : List PV :=
  [.un, .int .i64 p1, .bx 0 0, .un, .un, .un, .un, .un, .un, .un, .un, .un, .un, .un, .un, .un, .un, .un, .un, .un, .un, .un, .un, .un, .un, .un, .un, .un, .un, .un, .un, .un, .un, .un, .un, .un, .un, .un, .un, .un, .un, .un, .un, .un, .un, .un, .un, .un, .un, .un, .un, .sl (Val.rows p0.list), .int .i64 ((List.length p0.list) : Int), .int .i64 (i0 : Int), .un, .un, .un, .un, .un, .un, .un, .un, .un, .un, .un, .un, .un, .un, .un, .un, .un, .un, .un, .un, .un, .un, .un, .un, .un, .un, .un, .un, .un, .un, .un, .un, .un, .un, .un, .un, .un, .un, .un, .un, .un, .un, .un, .un, .un, .un]
def HO_K1v_b0 (p0 : Val) (_p1 : Int) (_i0 : Nat) : List Ob :=
  [⟨5, 0, true, [.int .i64 p0.kind, .int .i64 p0.n, .str p0.s, .sl (Val.rows p0.list), .sl (Fld.rows p0.fields)]⟩]
def E_K1v_b0 (p0 : Val) (p1 : Int) (i0 : Nat) : En := .loop 0 Ir.K1v_b0_live Ir.K1v_b0 (HE_K1v_b0 p0 p1 i0) (HO_K1v_b0 p0 p1 i0)
def S_K1v_b0_0 (p0 : Val) (p1 : Int) (z : Nat → PV) (_zo : Nat → List PV) : St :=
  ⟨[z 0, .int .i64 p1, .bx 0 0, z 3, z 4, z 5, z 6, z 7, z 8, z 9, z 10, z 11, z 12, z 13, z 14, z 15, z 16, z 17, z 18, z 19, z 20, z 21, z 22, z 23, z 24, z 25, z 26, z 27, z 28, z 29, z 30, z 31, z 32, z 33, z 34, z 35, z 36, z 37, z 38, z 39, z 40, z 41, z 42, z 43, z 44, z 45, z 46, z 47, z 48, z 49, z 50, z 51, z 52, z 53, z 54, z 55, z 56, z 57, z 58, z 59, z 60, z 61, z 62, z 63, z 64, z 65, z 66, z 67, z 68, z 69, z 70, z 71, z 72, z 73, z 74, z 75, z 76, z 77, z 78, z 79, z 80, z 81, z 82, z 83, z 84, z 85, z 86, z 87, z 88, z 89, z 90, z 91, z 92, z 93, z 94, z 95, z 96, z 97, z 98, z 99], [(0, ⟨5, 0, true, [.int .i64 p0.kind, .int .i64 p0.n, .str p0.s, .sl (Val.rows p0.list), .sl (Fld.rows p0.fields)]⟩)], 65⟩
def S_K1v_b0_1 (_p0 : Val) (_p1 : Int) (z : Nat → PV) (zo : Nat → List PV) : St :=
  ⟨[z 0, z 1, z 2, z 3, .bool false, z 5, z 6, z 7, z 8, z 9, z 10, z 11, z 12, z 13, z 14, z 15, z 16, z 17, z 18, z 19, z 20, z 21, z 22, z 23, z 24, z 25, z 26, z 27, z 28, z 29, z 30, z 31, z 32, z 33, z 34, z 35, z 36, z 37, z 38, z 39, z 40, z 41, z 42, z 43, z 44, z 45, z 46, z 47, z 48, z 49, z 50, z 51, z 52, z 53, z 54, z 55, z 56, z 57, z 58, z 59, z 60, z 61, z 62, z 63, z 64, z 65, z 66, z 67, z 68, z 69, z 70, z 71, z 72, z 73, z 74, z 75, z 76, z 77, z 78, z 79, z 80, z 81, z 82, z 83, z 84, z 85, z 86, z 87, z 88, z 89, z 90, z 91, z 92, z 93, z 94, z 95, z 96, z 97, z 98, z 99], [(0, ⟨5, 0, true, zo 0⟩), (193, ⟨5, 0, true, zo 193⟩)], 705⟩
def P_K1v_b0 (p0 : Val) (p1 : Int) (e : En) : R_K1v_b0 → Prop
  | .k0 => ∃ z zo, Tells G e (.st (.exit 0) (S_K1v_b0_0 p0 p1 z zo))
  | .k1 => ∃ z zo, Tells G e (.st .ret (S_K1v_b0_1 p0 p1 z zo))
theorem P_K1v_b0_mono (p0 : Val) (p1 : Int) {e e' : En} (h : ∀ r, Tells G e r → Tells G e' r) : ∀ q, P_K1v_b0 p0 p1 e q → P_K1v_b0 p0 p1 e' q
  | .k0, ⟨z, zo, hz⟩ => ⟨z, zo, h _ hz⟩
  | .k1, ⟨z, zo, hz⟩ => ⟨z, zo, h _ hz⟩
def HE_K1v_b1 (p0 : Val) (p1 : Int) (i1 : Nat) : List PV :=
  [.un, .int .i64 p1, .bx 0 0, .un, .un, .un, .un, .un, .un, .un, .un, .un, .un, .un, .un, .un, .un, .un, .un, .un, .un, .un, .un, .un, .un, .un, .un, .un, .un, .un, .un, .un, .un, .un, .un, .un, .un, .un, .un, .un, .un, .un, .un, .un, .un, .un, .un, .un, .un, .un, .un, .un, .un, .un, .un, .un, .un, .un, .un, .un, .un, .un, .un, .un, .sl (Fld.rows p0.fields), .int .i64 ((List.length p0.fields) : Int), .int .i64 (i1 : Int), .un, .un, .un, .un, .un, .un, .un, .un, .un, .un, .un, .un, .un, .un, .un, .un, .un, .un, .un, .un, .un, .un, .un, .un, .un, .un, .un, .un, .un, .un, .un, .un, .un]
def HO_K1v_b1 (p0 : Val) (_p1 : Int) (_i1 : Nat) : List Ob :=
  [⟨5, 0, true, [.int .i64 p0.kind, .int .i64 p0.n, .str p0.s, .sl (Val.rows p0.list), .sl (Fld.rows p0.fields)]⟩]
def E_K1v_b1 (p0 : Val) (p1 : Int) (i1 : Nat) : En := .loop 0 Ir.K1v_b1_live Ir.K1v_b1 (HE_K1v_b1 p0 p1 i1) (HO_K1v_b1 p0 p1 i1)
def S_K1v_b1_0 (p0 : Val) (_p1 : Int) (z : Nat → PV) (_zo : Nat → List PV) : St :=
  ⟨[z 0, z 1, z 2, z 3, z 4, z 5, z 6, z 7, z 8, z 9, z 10, z 11, z 12, z 13, z 14, z 15, z 16, z 17, z 18, z 19, z 20, z 21, z 22, z 23, z 24, z 25, z 26, z 27, z 28, z 29, z 30, z 31, z 32, z 33, z 34, z 35, z 36, z 37, z 38, z 39, z 40, z 41, z 42, z 43, z 44, z 45, z 46, z 47, z 48, z 49, z 50, z 51, z 52, z 53, z 54, z 55, z 56, z 57, z 58, z 59, z 60, z 61, z 62, z 63, z 64, z 65, z 66, z 67, z 68, z 69, z 70, z 71, z 72, z 73, z 74, z 75, z 76, z 77, z 78, z 79, z 80, z 81, z 82, z 83, z 84, z 85, z 86, z 87, z 88, z 89, z 90, z 91, z 92, z 93, z 94, z 95, z 96, z 97, z 98, z 99], [(0, ⟨5, 0, true, [.int .i64 p0.kind, .int .i64 p0.n, .str p0.s, .sl (Val.rows p0.list), .sl (Fld.rows p0.fields)]⟩)], 65⟩
def S_K1v_b1_1 (_p0 : Val) (_p1 : Int) (z : Nat → PV) (zo : Nat → List PV) : St :=
  ⟨[z 0, z 1, z 2, z 3, .bool false, z 5, z 6, z 7, z 8, z 9, z 10, z 11, z 12, z 13, z 14, z 15, z 16, z 17, z 18, z 19, z 20, z 21, z 22, z 23, z 24, z 25, z 26, z 27, z 28, z 29, z 30, z 31, z 32, z 33, z 34, z 35, z 36, z 37, z 38, z 39, z 40, z 41, z 42, z 43, z 44, z 45, z 46, z 47, z 48, z 49, z 50, z 51, z 52, z 53, z 54, z 55, z 56, z 57, z 58, z 59, z 60, z 61, z 62, z 63, z 64, z 65, z 66, z 67, z 68, z 69, z 70, z 71, z 72, z 73, z 74, z 75, z 76, z 77, z 78, z 79, z 80, z 81, z 82, z 83, z 84, z 85, z 86, z 87, z 88, z 89, z 90, z 91, z 92, z 93, z 94, z 95, z 96, z 97, z 98, z 99], [(0, ⟨5, 0, true, zo 0⟩), (257, ⟨6, 0, true, zo 257⟩)], 2305⟩
def P_K1v_b1 (p0 : Val) (p1 : Int) (e : En) : R_K1v_b1 → Prop
  | .k0 => ∃ z zo, Tells G e (.st (.exit 2) (S_K1v_b1_0 p0 p1 z zo))
  | .k1 => ∃ z zo, Tells G e (.st .ret (S_K1v_b1_1 p0 p1 z zo))
theorem P_K1v_b1_mono (p0 : Val) (p1 : Int) {e e' : En} (h : ∀ r, Tells G e r → Tells G e' r) : ∀ q, P_K1v_b1 p0 p1 e q → P_K1v_b1 p0 p1 e' q
  | .k0, ⟨z, zo, hz⟩ => ⟨z, zo, h _ hz⟩
  | .k1, ⟨z, zo, hz⟩ => ⟨z, zo, h _ hz⟩
def c_K1v (p0 : Val) (p1 : Int) : En := .call 39 [.agg (Val.cells p0), .int .i64 p1] []
def a_K1v (p0 : Val) (p1 : Int) : Rs := .ret (.bool (s_K1v p0 p1)) []
abbrev H_K1v (p0 : Val) : Prop := Val_ok p0
def Rec_K1v (p0 : Val) : Prop := ∀ (q : Val), SizeOf.sizeOf q < SizeOf.sizeOf p0 → ∀ (p1 : Int), H_K1v q → Tells G (c_K1v q p1) (a_K1v q p1)
def H_K1v_b0 (p0 : Val) (_p1 : Int) : Prop := (List.length p0.list ≤ 4611686018427387904) ∧ (∀ x0 ∈ p0.list, H_K1v x0) ∧ True
def H_K1v_b1 (p0 : Val) (_p1 : Int) : Prop := (List.length p0.fields ≤ 4611686018427387904) ∧ (∀ x1 ∈ p0.fields, H_K1q x1.name) ∧ (∀ (i1 : Nat) (x1 : Fld), p0.fields[i1]? = some x1 → (decide (0 < (i1 : Int))) = true → 0 ≤ (w64 ((i1 : Int) - 1))) ∧ (∀ (i1 : Nat) (x1 : Fld), p0.fields[i1]? = some x1 → (decide (0 < (i1 : Int))) = true → Int.toNat (w64 ((i1 : Int) - 1)) < List.length p0.fields) ∧ (∀ x1 ∈ p0.fields, H_K1v x1.v) ∧ True
theorem give_K1v (p0 : Val) (p1 : Int) (H : H_K1v p0) : (H_K1t p0) ∧ (H_K1v_b0 p0 p1) ∧ (H_K1v_b1 p0 p1) ∧ True := by
  obtain ⟨_, _, h3, hl, hf, sl, sf⟩ := H.all
  unfold okS at h3
  have nm : ∀ x ∈ p0.fields, H_K1q x.name := fun x hx => by
    have := (sf x hx).1
    unfold okS at this
    exact ⟨⟨by rw [lettersLen]; omega, trivial⟩, trivial⟩
  have ix : ∀ (i1 : Nat) (x1 : Fld), p0.fields[i1]? = some x1 → decide (0 < (i1 : Int)) = true → 0 ≤ w64 ((i1 : Int) - 1) ∧ Int.toNat (w64 ((i1 : Int) - 1)) < p0.fields.length := fun i x hx h => by
    have h0 := of_decide_eq_true h
    have h1 := (List.getElem?_eq_some_iff.1 hx).1
    rw [w64_of (by omega)]
    omega
  exact ⟨⟨⟨⟨by rw [lettersLen]; omega, trivial⟩, trivial⟩, trivial⟩, ⟨by omega, sl, trivial⟩, ⟨by omega, nm, fun i x a b => (ix i x a b).1, fun i x a b => (ix i x a b).2, fun x hx => (sf x hx).2, trivial⟩, trivial⟩
def Z_K1v_b0_0 (p0 : Val) (_p1 : Int) (i0 : Nat) : List PV :=
  [.un, .un, .un, .un, .un, .un, .un, .un, .un, .un, .un, .un, .un, .un, .un, .un, .un, .un, .un, .un, .un, .un, .un, .un, .un, .un, .un, .un, .un, .un, .un, .un, .un, .un, .un, .un, .un, .un, .un, .un, .un, .un, .un, .un, .un, .un, .un, .un, .un, .un, .un, .sl (Val.rows p0.list), .int .i64 ((List.length p0.list) : Int), .int .i64 (i0 : Int), .bool false]
def ZO_K1v_b0_0 (_p0 : Val) (_p1 : Int) (_i0 : Nat) : List (Nat × List PV) :=
  []
theorem x_K1v_b0_0 (p0 : Val) (p1 : Int) (_H : H_K1v_b0 p0 p1) (_rec : Rec_K1v p0) (i0 : Nat) (hc0 : (decide ((i0 : Int) < ((List.length p0.list) : Int))) = false) : P_K1v_b0 p0 p1 (E_K1v_b0 p0 p1 i0) (.k0) := by
  exact ⟨(envF (Z_K1v_b0_0 p0 p1 i0)), (zoF (ZO_K1v_b0_0 p0 p1 i0)), tells_outVI VOK.nil (x := ((.exit 0), S_K1v_b0_0 p0 p1 (envF (Z_K1v_b0_0 p0 p1 i0)) (zoF (ZO_K1v_b0_0 p0 p1 i0)))) [hB 0 hc0] [] (by kernel_rfl)⟩
theorem n_K1v_b0_1 (p0 : Val) (p1 : Int) (H : H_K1v_b0 p0 p1) (rec : Rec_K1v p0) (x0 : Val) (i0 : Nat) (hx0 : p0.list[i0]? = some x0) (hi0 : i0 < List.length p0.list) (hc0 : (decide ((i0 : Int) < ((List.length p0.list) : Int))) = true) (h0 : (s_K1v x0 (w64 (p1 - 1))) = true) {r : Rs} (hr : Tells G (E_K1v_b0 p0 p1 (i0 + 1)) r) : Tells G (E_K1v_b0 p0 p1 i0) r := by
  have hB0 := H.1
  exact tells_nextVI VOK.nil (y := (HE_K1v_b0 p0 p1 (i0 + 1), HO_K1v_b0 p0 p1 (i0 + 1))) [hB 0 hc0, hP 0 (ix_ok 5 (Val.rows p0.list) i0 _ (Val.rowsGet hx0) rfl), hP 8 (inc_ok i0 (by omega))] [aB (rec x0 (szL hx0) (w64 (p1 - 1)) (H.2.1 x0 (mem_get hx0))) h0] (by kernel_rfl) hr
def Z_K1v_b0_2 (p0 : Val) (p1 : Int) (i0 : Nat) (x0 : Val) : List PV :=
  [.un, .int .i64 p1, .bx 0 0, .un, .un, .un, .bx 193 0, .un, .un, .un, .un, .un, .un, .un, .un, .un, .un, .un, .un, .un, .un, .un, .un, .un, .un, .un, .un, .un, .un, .un, .un, .un, .un, .un, .un, .un, .un, .un, .un, .un, .un, .un, .un, .un, .un, .un, .un, .un, .un, .un, .un, .sl (Val.rows p0.list), .int .i64 ((List.length p0.list) : Int), .int .i64 (i0 : Int), .bool true, .rf [.int .i64 x0.kind, .int .i64 x0.n, .str x0.s, .sl (Val.rows x0.list), .sl (Fld.rows x0.fields)], .agg [.int .i64 x0.kind, .int .i64 x0.n, .str x0.s, .sl (Val.rows x0.list), .sl (Fld.rows x0.fields)], .agg [.int .i64 x0.kind, .int .i64 x0.n, .str x0.s, .sl (Val.rows x0.list), .sl (Fld.rows x0.fields)], .int .i64 p1, .int .i64 (w64 (p1 - 1)), .bool false, .bool true]
def ZO_K1v_b0_2 (p0 : Val) (_p1 : Int) (_i0 : Nat) (x0 : Val) : List (Nat × List PV) :=
  [(0, [.int .i64 p0.kind, .int .i64 p0.n, .str p0.s, .sl (Val.rows p0.list), .sl (Fld.rows p0.fields)]), (193, [.int .i64 x0.kind, .int .i64 x0.n, .str x0.s, .sl (Val.rows x0.list), .sl (Fld.rows x0.fields)])]
theorem x_K1v_b0_2 (p0 : Val) (p1 : Int) (H : H_K1v_b0 p0 p1) (rec : Rec_K1v p0) (x0 : Val) (i0 : Nat) (hx0 : p0.list[i0]? = some x0) (_hi0 : i0 < List.length p0.list) (hc0 : (decide ((i0 : Int) < ((List.length p0.list) : Int))) = true) (h0 : (s_K1v x0 (w64 (p1 - 1))) = false) : P_K1v_b0 p0 p1 (E_K1v_b0 p0 p1 i0) (.k1) := by
  exact ⟨(envF (Z_K1v_b0_2 p0 p1 i0 x0)), (zoF (ZO_K1v_b0_2 p0 p1 i0 x0)), tells_outVI VOK.nil (x := (.ret, S_K1v_b0_1 p0 p1 (envF (Z_K1v_b0_2 p0 p1 i0 x0)) (zoF (ZO_K1v_b0_2 p0 p1 i0 x0)))) [hB 0 hc0, hP 0 (ix_ok 5 (Val.rows p0.list) i0 _ (Val.rowsGet hx0) rfl)] [aB (rec x0 (szL hx0) (w64 (p1 - 1)) (H.2.1 x0 (mem_get hx0))) h0] (by kernel_rfl)⟩
theorem lt_K1v_b0 (p0 : Val) (p1 : Int) (H : H_K1v_b0 p0 p1) (rec : Rec_K1v p0) : ∀ (r0 : List Val) (i0 : Nat), List.drop i0 p0.list = r0 → P_K1v_b0 p0 p1 (E_K1v_b0 p0 p1 i0) (l_K1v_b0 p0 p1 r0 i0)
  | [], i0, hd => by
    have hc0 : (decide ((i0 : Int) < ((List.length p0.list) : Int))) = false := by have := drop_end hd; simp; omega
    rw [l_K1v_b0]
    exact x_K1v_b0_0 p0 p1 H rec i0 hc0
  | x0 :: r0, i0, hd => by
    obtain ⟨hx0, hi0, hd'⟩ := drop_get hd
    have hc0 : (decide ((i0 : Int) < ((List.length p0.list) : Int))) = true := by simp; omega
    rw [l_K1v_b0]
    cases h0 : (s_K1v x0 (w64 (p1 - 1))) with
    | true =>
     exact P_K1v_b0_mono p0 p1 (fun r hr => n_K1v_b0_1 p0 p1 H rec x0 i0 hx0 hi0 hc0 h0 hr) _ (lt_K1v_b0 p0 p1 H rec r0 (i0 + 1) hd')
    | false =>
     exact x_K1v_b0_2 p0 p1 H rec x0 i0 hx0 hi0 hc0 h0
def Z_K1v_b1_0 (p0 : Val) (p1 : Int) (i1 : Nat) : List PV :=
  [.un, .int .i64 p1, .bx 0 0, .un, .un, .un, .un, .un, .un, .un, .un, .un, .un, .un, .un, .un, .un, .un, .un, .un, .un, .un, .un, .un, .un, .un, .un, .un, .un, .un, .un, .un, .un, .un, .un, .un, .un, .un, .un, .un, .un, .un, .un, .un, .un, .un, .un, .un, .un, .un, .un, .un, .un, .un, .un, .un, .un, .un, .un, .un, .un, .un, .un, .un, .sl (Fld.rows p0.fields), .int .i64 ((List.length p0.fields) : Int), .int .i64 (i1 : Int), .bool false]
def ZO_K1v_b1_0 (_p0 : Val) (_p1 : Int) (_i1 : Nat) : List (Nat × List PV) :=
  []
theorem x_K1v_b1_0 (p0 : Val) (p1 : Int) (_H : H_K1v_b1 p0 p1) (_rec : Rec_K1v p0) (i1 : Nat) (hc1 : (decide ((i1 : Int) < ((List.length p0.fields) : Int))) = false) : P_K1v_b1 p0 p1 (E_K1v_b1 p0 p1 i1) (.k0) := by
  exact ⟨(envF (Z_K1v_b1_0 p0 p1 i1)), (zoF (ZO_K1v_b1_0 p0 p1 i1)), tells_outVI VOK.nil (x := ((.exit 2), S_K1v_b1_0 p0 p1 (envF (Z_K1v_b1_0 p0 p1 i1)) (zoF (ZO_K1v_b1_0 p0 p1 i1)))) [hB 0 hc1] [] (by kernel_rfl)⟩
theorem n_K1v_b1_1 (p0 : Val) (p1 : Int) (H : H_K1v_b1 p0 p1) (rec : Rec_K1v p0) (x1 : Fld) (i1 : Nat) (hx1 : p0.fields[i1]? = some x1) (hi1 : i1 < List.length p0.fields) (hc1 : (decide ((i1 : Int) < ((List.length p0.fields) : Int))) = true) (h0 : (s_K1q x1.name) = true) (h1 : (decide (0 < (i1 : Int))) = true) (h2 : (sLt (List.getD p0.fields (Int.toNat (w64 ((i1 : Int) - 1))) (Fld.mk (⟨#[]⟩ : ByteArray) (Val.mk 0 0 (⟨#[]⟩ : ByteArray) [] []))).name x1.name) = true) (h3 : (s_K1v x1.v (w64 (p1 - 1))) = true) {r : Rs} (hr : Tells G (E_K1v_b1 p0 p1 (i1 + 1)) r) : Tells G (E_K1v_b1 p0 p1 i1) r := by
  have hB0 := H.1; have e1 := of_decide_eq_true h1
  exact tells_nextVI VOK.nil (y := (HE_K1v_b1 p0 p1 (i1 + 1), HO_K1v_b1 p0 p1 (i1 + 1))) [hB 0 hc1, hP 1 (ix_ok 6 (Fld.rows p0.fields) i1 _ (Fld.rowsGet hx1) rfl), hB 10 h1, hP 5 (ixI_ok 6 (Fld.rows p0.fields) (w64 ((i1 : Int) - 1)) _ ((H.2.2.1 i1 x1 hx1) h1) (Fld.rowsGet (getD_ok p0.fields (Int.toNat (w64 ((i1 : Int) - 1))) (Fld.mk (⟨#[]⟩ : ByteArray) (Val.mk 0 0 (⟨#[]⟩ : ByteArray) [] [])) ((H.2.2.2.1 i1 x1 hx1) h1))) rfl), hP 4 (dec (!(sLt (List.getD p0.fields (Int.toNat (w64 ((i1 : Int) - 1))) (Fld.mk (⟨#[]⟩ : ByteArray) (Val.mk 0 0 (⟨#[]⟩ : ByteArray) [] []))).name x1.name)) false (by rw [h2]; rfl)), hP 10 (inc_ok i1 (by omega))] [aB (t_K1q x1.name (H.2.1 x1 (mem_get hx1))) h0, aB (rec x1.v (szF hx1) (w64 (p1 - 1)) (H.2.2.2.2.1 x1 (mem_get hx1))) h3] (by kernel_rfl) hr
def Z_K1v_b1_2 (p0 : Val) (p1 : Int) (i1 : Nat) (x1 : Fld) : List PV :=
  [.un, .int .i64 p1, .bx 0 0, .un, .un, .un, .un, .int .i64 (i1 : Int), .bx 257 0, .un, .un, .un, .un, .un, .un, .un, .un, .un, .un, .un, .un, .un, .un, .un, .un, .un, .un, .un, .un, .un, .un, .un, .un, .un, .un, .un, .un, .un, .un, .un, .un, .un, .un, .un, .un, .un, .un, .un, .un, .un, .un, .un, .un, .un, .un, .un, .un, .un, .un, .un, .un, .un, .un, .un, .sl (Fld.rows p0.fields), .int .i64 ((List.length p0.fields) : Int), .int .i64 (i1 : Int), .bool true, .int .i64 (i1 : Int), .rf [.str x1.name, .int .i64 x1.v.kind, .int .i64 x1.v.n, .str x1.v.s, .sl (Val.rows x1.v.list), .sl (Fld.rows x1.v.fields)], .agg [.str x1.name, .int .i64 x1.v.kind, .int .i64 x1.v.n, .str x1.v.s, .sl (Val.rows x1.v.list), .sl (Fld.rows x1.v.fields)], .bx 257 0, .str x1.name, .bool true, .bool false, .bool false, .int .i64 (i1 : Int), .bool true, .bool true, .bx 0 4, .sl (Fld.rows p0.fields), .int .i64 (i1 : Int), .int .i64 (w64 ((i1 : Int) - 1)), .rf [.str (List.getD p0.fields (Int.toNat (w64 ((i1 : Int) - 1))) (Fld.mk (⟨#[]⟩ : ByteArray) (Val.mk 0 0 (⟨#[]⟩ : ByteArray) [] []))).name, .int .i64 (List.getD p0.fields (Int.toNat (w64 ((i1 : Int) - 1))) (Fld.mk (⟨#[]⟩ : ByteArray) (Val.mk 0 0 (⟨#[]⟩ : ByteArray) [] []))).v.kind, .int .i64 (List.getD p0.fields (Int.toNat (w64 ((i1 : Int) - 1))) (Fld.mk (⟨#[]⟩ : ByteArray) (Val.mk 0 0 (⟨#[]⟩ : ByteArray) [] []))).v.n, .str (List.getD p0.fields (Int.toNat (w64 ((i1 : Int) - 1))) (Fld.mk (⟨#[]⟩ : ByteArray) (Val.mk 0 0 (⟨#[]⟩ : ByteArray) [] []))).v.s, .sl (Val.rows (List.getD p0.fields (Int.toNat (w64 ((i1 : Int) - 1))) (Fld.mk (⟨#[]⟩ : ByteArray) (Val.mk 0 0 (⟨#[]⟩ : ByteArray) [] []))).v.list), .sl (Fld.rows (List.getD p0.fields (Int.toNat (w64 ((i1 : Int) - 1))) (Fld.mk (⟨#[]⟩ : ByteArray) (Val.mk 0 0 (⟨#[]⟩ : ByteArray) [] []))).v.fields)], .rf [.str (List.getD p0.fields (Int.toNat (w64 ((i1 : Int) - 1))) (Fld.mk (⟨#[]⟩ : ByteArray) (Val.mk 0 0 (⟨#[]⟩ : ByteArray) [] []))).name, .int .i64 (List.getD p0.fields (Int.toNat (w64 ((i1 : Int) - 1))) (Fld.mk (⟨#[]⟩ : ByteArray) (Val.mk 0 0 (⟨#[]⟩ : ByteArray) [] []))).v.kind, .int .i64 (List.getD p0.fields (Int.toNat (w64 ((i1 : Int) - 1))) (Fld.mk (⟨#[]⟩ : ByteArray) (Val.mk 0 0 (⟨#[]⟩ : ByteArray) [] []))).v.n, .str (List.getD p0.fields (Int.toNat (w64 ((i1 : Int) - 1))) (Fld.mk (⟨#[]⟩ : ByteArray) (Val.mk 0 0 (⟨#[]⟩ : ByteArray) [] []))).v.s, .sl (Val.rows (List.getD p0.fields (Int.toNat (w64 ((i1 : Int) - 1))) (Fld.mk (⟨#[]⟩ : ByteArray) (Val.mk 0 0 (⟨#[]⟩ : ByteArray) [] []))).v.list), .sl (Fld.rows (List.getD p0.fields (Int.toNat (w64 ((i1 : Int) - 1))) (Fld.mk (⟨#[]⟩ : ByteArray) (Val.mk 0 0 (⟨#[]⟩ : ByteArray) [] []))).v.fields)], .str (List.getD p0.fields (Int.toNat (w64 ((i1 : Int) - 1))) (Fld.mk (⟨#[]⟩ : ByteArray) (Val.mk 0 0 (⟨#[]⟩ : ByteArray) [] []))).name, .bx 257 0, .str x1.name, .bool false, .bool false, .bool false, .bool false, .bx 257 1, .agg [.int .i64 x1.v.kind, .int .i64 x1.v.n, .str x1.v.s, .sl (Val.rows x1.v.list), .sl (Fld.rows x1.v.fields)], .int .i64 p1, .int .i64 (w64 (p1 - 1)), .bool false, .bool true, .bool true]
def ZO_K1v_b1_2 (p0 : Val) (_p1 : Int) (_i1 : Nat) (x1 : Fld) : List (Nat × List PV) :=
  [(0, [.int .i64 p0.kind, .int .i64 p0.n, .str p0.s, .sl (Val.rows p0.list), .sl (Fld.rows p0.fields)]), (257, [.str x1.name, .int .i64 x1.v.kind, .int .i64 x1.v.n, .str x1.v.s, .sl (Val.rows x1.v.list), .sl (Fld.rows x1.v.fields)])]
theorem x_K1v_b1_2 (p0 : Val) (p1 : Int) (H : H_K1v_b1 p0 p1) (rec : Rec_K1v p0) (x1 : Fld) (i1 : Nat) (hx1 : p0.fields[i1]? = some x1) (_hi1 : i1 < List.length p0.fields) (hc1 : (decide ((i1 : Int) < ((List.length p0.fields) : Int))) = true) (h0 : (s_K1q x1.name) = true) (h1 : (decide (0 < (i1 : Int))) = true) (h2 : (sLt (List.getD p0.fields (Int.toNat (w64 ((i1 : Int) - 1))) (Fld.mk (⟨#[]⟩ : ByteArray) (Val.mk 0 0 (⟨#[]⟩ : ByteArray) [] []))).name x1.name) = true) (h3 : (s_K1v x1.v (w64 (p1 - 1))) = false) : P_K1v_b1 p0 p1 (E_K1v_b1 p0 p1 i1) (.k1) := by
  exact ⟨(envF (Z_K1v_b1_2 p0 p1 i1 x1)), (zoF (ZO_K1v_b1_2 p0 p1 i1 x1)), tells_outVI VOK.nil (x := (.ret, S_K1v_b1_1 p0 p1 (envF (Z_K1v_b1_2 p0 p1 i1 x1)) (zoF (ZO_K1v_b1_2 p0 p1 i1 x1)))) [hB 0 hc1, hP 1 (ix_ok 6 (Fld.rows p0.fields) i1 _ (Fld.rowsGet hx1) rfl), hB 10 h1, hP 5 (ixI_ok 6 (Fld.rows p0.fields) (w64 ((i1 : Int) - 1)) _ ((H.2.2.1 i1 x1 hx1) h1) (Fld.rowsGet (getD_ok p0.fields (Int.toNat (w64 ((i1 : Int) - 1))) (Fld.mk (⟨#[]⟩ : ByteArray) (Val.mk 0 0 (⟨#[]⟩ : ByteArray) [] [])) ((H.2.2.2.1 i1 x1 hx1) h1))) rfl), hP 4 (dec (!(sLt (List.getD p0.fields (Int.toNat (w64 ((i1 : Int) - 1))) (Fld.mk (⟨#[]⟩ : ByteArray) (Val.mk 0 0 (⟨#[]⟩ : ByteArray) [] []))).name x1.name)) false (by rw [h2]; rfl))] [aB (t_K1q x1.name (H.2.1 x1 (mem_get hx1))) h0, aB (rec x1.v (szF hx1) (w64 (p1 - 1)) (H.2.2.2.2.1 x1 (mem_get hx1))) h3] (by kernel_rfl)⟩
def Z_K1v_b1_3 (p0 : Val) (p1 : Int) (i1 : Nat) (x1 : Fld) : List PV :=
  [.un, .int .i64 p1, .bx 0 0, .un, .un, .un, .un, .int .i64 (i1 : Int), .bx 257 0, .un, .un, .un, .un, .un, .un, .un, .un, .un, .un, .un, .un, .un, .un, .un, .un, .un, .un, .un, .un, .un, .un, .un, .un, .un, .un, .un, .un, .un, .un, .un, .un, .un, .un, .un, .un, .un, .un, .un, .un, .un, .un, .un, .un, .un, .un, .un, .un, .un, .un, .un, .un, .un, .un, .un, .sl (Fld.rows p0.fields), .int .i64 ((List.length p0.fields) : Int), .int .i64 (i1 : Int), .bool true, .int .i64 (i1 : Int), .rf [.str x1.name, .int .i64 x1.v.kind, .int .i64 x1.v.n, .str x1.v.s, .sl (Val.rows x1.v.list), .sl (Fld.rows x1.v.fields)], .agg [.str x1.name, .int .i64 x1.v.kind, .int .i64 x1.v.n, .str x1.v.s, .sl (Val.rows x1.v.list), .sl (Fld.rows x1.v.fields)], .bx 257 0, .str x1.name, .bool true, .bool false, .bool false, .int .i64 (i1 : Int), .bool true, .bool true, .bx 0 4, .sl (Fld.rows p0.fields), .int .i64 (i1 : Int), .int .i64 (w64 ((i1 : Int) - 1)), .rf [.str (List.getD p0.fields (Int.toNat (w64 ((i1 : Int) - 1))) (Fld.mk (⟨#[]⟩ : ByteArray) (Val.mk 0 0 (⟨#[]⟩ : ByteArray) [] []))).name, .int .i64 (List.getD p0.fields (Int.toNat (w64 ((i1 : Int) - 1))) (Fld.mk (⟨#[]⟩ : ByteArray) (Val.mk 0 0 (⟨#[]⟩ : ByteArray) [] []))).v.kind, .int .i64 (List.getD p0.fields (Int.toNat (w64 ((i1 : Int) - 1))) (Fld.mk (⟨#[]⟩ : ByteArray) (Val.mk 0 0 (⟨#[]⟩ : ByteArray) [] []))).v.n, .str (List.getD p0.fields (Int.toNat (w64 ((i1 : Int) - 1))) (Fld.mk (⟨#[]⟩ : ByteArray) (Val.mk 0 0 (⟨#[]⟩ : ByteArray) [] []))).v.s, .sl (Val.rows (List.getD p0.fields (Int.toNat (w64 ((i1 : Int) - 1))) (Fld.mk (⟨#[]⟩ : ByteArray) (Val.mk 0 0 (⟨#[]⟩ : ByteArray) [] []))).v.list), .sl (Fld.rows (List.getD p0.fields (Int.toNat (w64 ((i1 : Int) - 1))) (Fld.mk (⟨#[]⟩ : ByteArray) (Val.mk 0 0 (⟨#[]⟩ : ByteArray) [] []))).v.fields)], .rf [.str (List.getD p0.fields (Int.toNat (w64 ((i1 : Int) - 1))) (Fld.mk (⟨#[]⟩ : ByteArray) (Val.mk 0 0 (⟨#[]⟩ : ByteArray) [] []))).name, .int .i64 (List.getD p0.fields (Int.toNat (w64 ((i1 : Int) - 1))) (Fld.mk (⟨#[]⟩ : ByteArray) (Val.mk 0 0 (⟨#[]⟩ : ByteArray) [] []))).v.kind, .int .i64 (List.getD p0.fields (Int.toNat (w64 ((i1 : Int) - 1))) (Fld.mk (⟨#[]⟩ : ByteArray) (Val.mk 0 0 (⟨#[]⟩ : ByteArray) [] []))).v.n, .str (List.getD p0.fields (Int.toNat (w64 ((i1 : Int) - 1))) (Fld.mk (⟨#[]⟩ : ByteArray) (Val.mk 0 0 (⟨#[]⟩ : ByteArray) [] []))).v.s, .sl (Val.rows (List.getD p0.fields (Int.toNat (w64 ((i1 : Int) - 1))) (Fld.mk (⟨#[]⟩ : ByteArray) (Val.mk 0 0 (⟨#[]⟩ : ByteArray) [] []))).v.list), .sl (Fld.rows (List.getD p0.fields (Int.toNat (w64 ((i1 : Int) - 1))) (Fld.mk (⟨#[]⟩ : ByteArray) (Val.mk 0 0 (⟨#[]⟩ : ByteArray) [] []))).v.fields)], .str (List.getD p0.fields (Int.toNat (w64 ((i1 : Int) - 1))) (Fld.mk (⟨#[]⟩ : ByteArray) (Val.mk 0 0 (⟨#[]⟩ : ByteArray) [] []))).name, .bx 257 0, .str x1.name, .bool true, .bool true, .bool true, .bool true, .tup [], .tup [], .tup [], .tup [], .tup [], .tup [], .bool true]
def ZO_K1v_b1_3 (p0 : Val) (_p1 : Int) (_i1 : Nat) (x1 : Fld) : List (Nat × List PV) :=
  [(0, [.int .i64 p0.kind, .int .i64 p0.n, .str p0.s, .sl (Val.rows p0.list), .sl (Fld.rows p0.fields)]), (257, [.str x1.name, .int .i64 x1.v.kind, .int .i64 x1.v.n, .str x1.v.s, .sl (Val.rows x1.v.list), .sl (Fld.rows x1.v.fields)])]
theorem x_K1v_b1_3 (p0 : Val) (p1 : Int) (H : H_K1v_b1 p0 p1) (_rec : Rec_K1v p0) (x1 : Fld) (i1 : Nat) (hx1 : p0.fields[i1]? = some x1) (_hi1 : i1 < List.length p0.fields) (hc1 : (decide ((i1 : Int) < ((List.length p0.fields) : Int))) = true) (h0 : (s_K1q x1.name) = true) (h1 : (decide (0 < (i1 : Int))) = true) (h2 : (sLt (List.getD p0.fields (Int.toNat (w64 ((i1 : Int) - 1))) (Fld.mk (⟨#[]⟩ : ByteArray) (Val.mk 0 0 (⟨#[]⟩ : ByteArray) [] []))).name x1.name) = false) : P_K1v_b1 p0 p1 (E_K1v_b1 p0 p1 i1) (.k1) := by
  exact ⟨(envF (Z_K1v_b1_3 p0 p1 i1 x1)), (zoF (ZO_K1v_b1_3 p0 p1 i1 x1)), tells_outVI VOK.nil (x := (.ret, S_K1v_b1_1 p0 p1 (envF (Z_K1v_b1_3 p0 p1 i1 x1)) (zoF (ZO_K1v_b1_3 p0 p1 i1 x1)))) [hB 0 hc1, hP 1 (ix_ok 6 (Fld.rows p0.fields) i1 _ (Fld.rowsGet hx1) rfl), hB 10 h1, hP 5 (ixI_ok 6 (Fld.rows p0.fields) (w64 ((i1 : Int) - 1)) _ ((H.2.2.1 i1 x1 hx1) h1) (Fld.rowsGet (getD_ok p0.fields (Int.toNat (w64 ((i1 : Int) - 1))) (Fld.mk (⟨#[]⟩ : ByteArray) (Val.mk 0 0 (⟨#[]⟩ : ByteArray) [] [])) ((H.2.2.2.1 i1 x1 hx1) h1))) rfl), hP 4 (dec (!(sLt (List.getD p0.fields (Int.toNat (w64 ((i1 : Int) - 1))) (Fld.mk (⟨#[]⟩ : ByteArray) (Val.mk 0 0 (⟨#[]⟩ : ByteArray) [] []))).name x1.name)) true (by rw [h2]; rfl))] [aB (t_K1q x1.name (H.2.1 x1 (mem_get hx1))) h0] (by kernel_rfl)⟩
theorem n_K1v_b1_4 (p0 : Val) (p1 : Int) (H : H_K1v_b1 p0 p1) (rec : Rec_K1v p0) (x1 : Fld) (i1 : Nat) (hx1 : p0.fields[i1]? = some x1) (_hi1 : i1 < List.length p0.fields) (hc1 : (decide ((i1 : Int) < ((List.length p0.fields) : Int))) = true) (h0 : (s_K1q x1.name) = true) (h1 : (decide (0 < (i1 : Int))) = false) (h2 : (s_K1v x1.v (w64 (p1 - 1))) = true) {r : Rs} (hr : Tells G (E_K1v_b1 p0 p1 (i1 + 1)) r) : Tells G (E_K1v_b1 p0 p1 i1) r := by
  have hB0 := H.1; have e1 := of_decide_eq_false h1
  exact tells_nextVI VOK.nil (y := (HE_K1v_b1 p0 p1 (i1 + 1), HO_K1v_b1 p0 p1 (i1 + 1))) [hB 0 hc1, hP 1 (ix_ok 6 (Fld.rows p0.fields) i1 _ (Fld.rowsGet hx1) rfl), hB 10 h1, hP 21 (inc_ok i1 (by omega))] [aB (t_K1q x1.name (H.2.1 x1 (mem_get hx1))) h0, aB (rec x1.v (szF hx1) (w64 (p1 - 1)) (H.2.2.2.2.1 x1 (mem_get hx1))) h2] (by kernel_rfl) hr
def Z_K1v_b1_5 (p0 : Val) (p1 : Int) (i1 : Nat) (x1 : Fld) : List PV :=
  [.un, .int .i64 p1, .bx 0 0, .un, .un, .un, .un, .int .i64 (i1 : Int), .bx 257 0, .un, .un, .un, .un, .un, .un, .un, .un, .un, .un, .un, .un, .un, .un, .un, .un, .un, .un, .un, .un, .un, .un, .un, .un, .un, .un, .un, .un, .un, .un, .un, .un, .un, .un, .un, .un, .un, .un, .un, .un, .un, .un, .un, .un, .un, .un, .un, .un, .un, .un, .un, .un, .un, .un, .un, .sl (Fld.rows p0.fields), .int .i64 ((List.length p0.fields) : Int), .int .i64 (i1 : Int), .bool true, .int .i64 (i1 : Int), .rf [.str x1.name, .int .i64 x1.v.kind, .int .i64 x1.v.n, .str x1.v.s, .sl (Val.rows x1.v.list), .sl (Fld.rows x1.v.fields)], .agg [.str x1.name, .int .i64 x1.v.kind, .int .i64 x1.v.n, .str x1.v.s, .sl (Val.rows x1.v.list), .sl (Fld.rows x1.v.fields)], .bx 257 0, .str x1.name, .bool true, .bool false, .bool false, .int .i64 (i1 : Int), .bool false, .bool false, .tup [], .tup [], .tup [], .tup [], .tup [], .tup [], .tup [], .tup [], .tup [], .tup [], .bool false, .bool false, .bool false, .bx 257 1, .agg [.int .i64 x1.v.kind, .int .i64 x1.v.n, .str x1.v.s, .sl (Val.rows x1.v.list), .sl (Fld.rows x1.v.fields)], .int .i64 p1, .int .i64 (w64 (p1 - 1)), .bool false, .bool true, .bool true]
def ZO_K1v_b1_5 (p0 : Val) (_p1 : Int) (_i1 : Nat) (x1 : Fld) : List (Nat × List PV) :=
  [(0, [.int .i64 p0.kind, .int .i64 p0.n, .str p0.s, .sl (Val.rows p0.list), .sl (Fld.rows p0.fields)]), (257, [.str x1.name, .int .i64 x1.v.kind, .int .i64 x1.v.n, .str x1.v.s, .sl (Val.rows x1.v.list), .sl (Fld.rows x1.v.fields)])]
theorem x_K1v_b1_5 (p0 : Val) (p1 : Int) (H : H_K1v_b1 p0 p1) (rec : Rec_K1v p0) (x1 : Fld) (i1 : Nat) (hx1 : p0.fields[i1]? = some x1) (_hi1 : i1 < List.length p0.fields) (hc1 : (decide ((i1 : Int) < ((List.length p0.fields) : Int))) = true) (h0 : (s_K1q x1.name) = true) (h1 : (decide (0 < (i1 : Int))) = false) (h2 : (s_K1v x1.v (w64 (p1 - 1))) = false) : P_K1v_b1 p0 p1 (E_K1v_b1 p0 p1 i1) (.k1) := by
  exact ⟨(envF (Z_K1v_b1_5 p0 p1 i1 x1)), (zoF (ZO_K1v_b1_5 p0 p1 i1 x1)), tells_outVI VOK.nil (x := (.ret, S_K1v_b1_1 p0 p1 (envF (Z_K1v_b1_5 p0 p1 i1 x1)) (zoF (ZO_K1v_b1_5 p0 p1 i1 x1)))) [hB 0 hc1, hP 1 (ix_ok 6 (Fld.rows p0.fields) i1 _ (Fld.rowsGet hx1) rfl), hB 10 h1] [aB (t_K1q x1.name (H.2.1 x1 (mem_get hx1))) h0, aB (rec x1.v (szF hx1) (w64 (p1 - 1)) (H.2.2.2.2.1 x1 (mem_get hx1))) h2] (by kernel_rfl)⟩
def Z_K1v_b1_6 (p0 : Val) (p1 : Int) (i1 : Nat) (x1 : Fld) : List PV :=
  [.un, .int .i64 p1, .bx 0 0, .un, .un, .un, .un, .int .i64 (i1 : Int), .bx 257 0, .un, .un, .un, .un, .un, .un, .un, .un, .un, .un, .un, .un, .un, .un, .un, .un, .un, .un, .un, .un, .un, .un, .un, .un, .un, .un, .un, .un, .un, .un, .un, .un, .un, .un, .un, .un, .un, .un, .un, .un, .un, .un, .un, .un, .un, .un, .un, .un, .un, .un, .un, .un, .un, .un, .un, .sl (Fld.rows p0.fields), .int .i64 ((List.length p0.fields) : Int), .int .i64 (i1 : Int), .bool true, .int .i64 (i1 : Int), .rf [.str x1.name, .int .i64 x1.v.kind, .int .i64 x1.v.n, .str x1.v.s, .sl (Val.rows x1.v.list), .sl (Fld.rows x1.v.fields)], .agg [.str x1.name, .int .i64 x1.v.kind, .int .i64 x1.v.n, .str x1.v.s, .sl (Val.rows x1.v.list), .sl (Fld.rows x1.v.fields)], .bx 257 0, .str x1.name, .bool false, .bool true, .bool true, .tup [], .tup [], .tup [], .tup [], .tup [], .tup [], .tup [], .tup [], .tup [], .tup [], .tup [], .tup [], .tup [], .tup [], .bool true, .bool true, .tup [], .tup [], .tup [], .tup [], .tup [], .tup [], .bool true]
def ZO_K1v_b1_6 (p0 : Val) (_p1 : Int) (_i1 : Nat) (x1 : Fld) : List (Nat × List PV) :=
  [(0, [.int .i64 p0.kind, .int .i64 p0.n, .str p0.s, .sl (Val.rows p0.list), .sl (Fld.rows p0.fields)]), (257, [.str x1.name, .int .i64 x1.v.kind, .int .i64 x1.v.n, .str x1.v.s, .sl (Val.rows x1.v.list), .sl (Fld.rows x1.v.fields)])]
theorem x_K1v_b1_6 (p0 : Val) (p1 : Int) (H : H_K1v_b1 p0 p1) (_rec : Rec_K1v p0) (x1 : Fld) (i1 : Nat) (hx1 : p0.fields[i1]? = some x1) (_hi1 : i1 < List.length p0.fields) (hc1 : (decide ((i1 : Int) < ((List.length p0.fields) : Int))) = true) (h0 : (s_K1q x1.name) = false) : P_K1v_b1 p0 p1 (E_K1v_b1 p0 p1 i1) (.k1) := by
  exact ⟨(envF (Z_K1v_b1_6 p0 p1 i1 x1)), (zoF (ZO_K1v_b1_6 p0 p1 i1 x1)), tells_outVI VOK.nil (x := (.ret, S_K1v_b1_1 p0 p1 (envF (Z_K1v_b1_6 p0 p1 i1 x1)) (zoF (ZO_K1v_b1_6 p0 p1 i1 x1)))) [hB 0 hc1, hP 1 (ix_ok 6 (Fld.rows p0.fields) i1 _ (Fld.rowsGet hx1) rfl)] [aB (t_K1q x1.name (H.2.1 x1 (mem_get hx1))) h0] (by kernel_rfl)⟩
theorem lt_K1v_b1 (p0 : Val) (p1 : Int) (H : H_K1v_b1 p0 p1) (rec : Rec_K1v p0) : ∀ (r1 : List Fld) (i1 : Nat), List.drop i1 p0.fields = r1 → P_K1v_b1 p0 p1 (E_K1v_b1 p0 p1 i1) (l_K1v_b1 p0 p1 r1 i1)
  | [], i1, hd => by
    have hc1 : (decide ((i1 : Int) < ((List.length p0.fields) : Int))) = false := by have := drop_end hd; simp; omega
    rw [l_K1v_b1]
    exact x_K1v_b1_0 p0 p1 H rec i1 hc1
  | x1 :: r1, i1, hd => by
    obtain ⟨hx1, hi1, hd'⟩ := drop_get hd
    have hc1 : (decide ((i1 : Int) < ((List.length p0.fields) : Int))) = true := by simp; omega
    rw [l_K1v_b1]
    cases h0 : (s_K1q x1.name) with
    | true =>
     cases h1 : (decide (0 < (i1 : Int))) with
     | true =>
      cases h2 : (sLt (List.getD p0.fields (Int.toNat (w64 ((i1 : Int) - 1))) (Fld.mk (⟨#[]⟩ : ByteArray) (Val.mk 0 0 (⟨#[]⟩ : ByteArray) [] []))).name x1.name) with
      | true =>
       cases h3 : (s_K1v x1.v (w64 (p1 - 1))) with
       | true =>
        exact P_K1v_b1_mono p0 p1 (fun r hr => n_K1v_b1_1 p0 p1 H rec x1 i1 hx1 hi1 hc1 h0 h1 h2 h3 hr) _ (lt_K1v_b1 p0 p1 H rec r1 (i1 + 1) hd')
       | false =>
        exact x_K1v_b1_2 p0 p1 H rec x1 i1 hx1 hi1 hc1 h0 h1 h2 h3
      | false =>
       exact x_K1v_b1_3 p0 p1 H rec x1 i1 hx1 hi1 hc1 h0 h1 h2
     | false =>
      cases h2 : (s_K1v x1.v (w64 (p1 - 1))) with
      | true =>
       exact P_K1v_b1_mono p0 p1 (fun r hr => n_K1v_b1_4 p0 p1 H rec x1 i1 hx1 hi1 hc1 h0 h1 h2 hr) _ (lt_K1v_b1 p0 p1 H rec r1 (i1 + 1) hd')
      | false =>
       exact x_K1v_b1_5 p0 p1 H rec x1 i1 hx1 hi1 hc1 h0 h1 h2
    | false =>
     exact x_K1v_b1_6 p0 p1 H rec x1 i1 hx1 hi1 hc1 h0
theorem t_K1v_0 (p0 : Val) (p1 : Int) (_H : H_K1v p0) (_rec : Rec_K1v p0) (h0 : (p1 == 0) = true) : Tells G (c_K1v p0 p1) (.ret (.bool (false)) []) := by
  exact tells_VI (fn := Ir.K1v) rfl VOK.nil [hB 3 h0] [] (by kernel_rfl)
theorem t_K1v_1 (p0 : Val) (p1 : Int) (H : H_K1v p0) (_rec : Rec_K1v p0) (h0 : (p1 == 0) = false) (h1 : (s_K1t p0) = true) (h2 : (p0.kind == 4) = true) (h3 : (p0.kind == 5) = true) (h4 : (decide (64 < ((List.length p0.list) : Int))) = true) : Tells G (c_K1v p0 p1) (.ret (.bool (false)) []) := by
  exact tells_VI (fn := Ir.K1v) rfl VOK.nil [hB 3 h0, hP 8 (dec (!(p0.kind == 4)) false (by rw [h2]; rfl)), hP 10 (dec (!(p0.kind == 5)) false (by rw [h3]; rfl)), hP 10 (len_ok (Val.rows p0.list) (List.length p0.list) (Val.rowsLen p0.list)), hB 0 h4] [aB (t_K1t p0 (give_K1v p0 p1 H).1) h1] (by kernel_rfl)
theorem t_K1v_2 (p0 : Val) (p1 : Int) (H : H_K1v p0) (_rec : Rec_K1v p0) (h0 : (p1 == 0) = false) (h1 : (s_K1t p0) = true) (h2 : (p0.kind == 4) = true) (h3 : (p0.kind == 5) = true) (h4 : (decide (64 < ((List.length p0.list) : Int))) = false) (h5 : (decide (64 < ((List.length p0.fields) : Int))) = true) : Tells G (c_K1v p0 p1) (.ret (.bool (false)) []) := by
  exact tells_VI (fn := Ir.K1v) rfl VOK.nil [hB 3 h0, hP 8 (dec (!(p0.kind == 4)) false (by rw [h2]; rfl)), hP 10 (dec (!(p0.kind == 5)) false (by rw [h3]; rfl)), hP 10 (len_ok (Val.rows p0.list) (List.length p0.list) (Val.rowsLen p0.list)), hB 0 h4, hP 4 (len_ok (Fld.rows p0.fields) (List.length p0.fields) (Fld.rowsLen p0.fields)), hB 0 h5] [aB (t_K1t p0 (give_K1v p0 p1 H).1) h1] (by kernel_rfl)
theorem t_K1v_3 (p0 : Val) (p1 : Int) (H : H_K1v p0) (_rec : Rec_K1v p0) (h0 : (p1 == 0) = false) (h1 : (s_K1t p0) = true) (h2 : (p0.kind == 4) = true) (h3 : (p0.kind == 5) = true) (h4 : (decide (64 < ((List.length p0.list) : Int))) = false) (h5 : (decide (64 < ((List.length p0.fields) : Int))) = false) (z6 : Nat → PV) (zo6 : Nat → List PV) (hl6 : Tells G (E_K1v_b0 p0 p1 0) (.st (.exit 0) (S_K1v_b0_0 p0 p1 z6 zo6))) (z7 : Nat → PV) (zo7 : Nat → List PV) (hl7 : Tells G (E_K1v_b1 p0 p1 0) (.st (.exit 2) (S_K1v_b1_0 p0 p1 z7 zo7))) : Tells G (c_K1v p0 p1) (.ret (.bool (true)) []) := by
  exact tells_VI (fn := Ir.K1v) rfl VOK.nil [hB 3 h0, hP 8 (dec (!(p0.kind == 4)) false (by rw [h2]; rfl)), hP 10 (dec (!(p0.kind == 5)) false (by rw [h3]; rfl)), hP 10 (len_ok (Val.rows p0.list) (List.length p0.list) (Val.rowsLen p0.list)), hB 0 h4, hP 4 (len_ok (Fld.rows p0.fields) (List.length p0.fields) (Fld.rowsLen p0.fields)), hB 0 h5, hP 3 (len_ok (Val.rows p0.list) (List.length p0.list) (Val.rowsLen p0.list)), hP 3 (len_ok (Fld.rows p0.fields) (List.length p0.fields) (Fld.rowsLen p0.fields))] [aB (t_K1t p0 (give_K1v p0 p1 H).1) h1, aN hl6, aN hl7] (by kernel_rfl)
theorem t_K1v_4 (p0 : Val) (p1 : Int) (H : H_K1v p0) (_rec : Rec_K1v p0) (h0 : (p1 == 0) = false) (h1 : (s_K1t p0) = true) (h2 : (p0.kind == 4) = true) (h3 : (p0.kind == 5) = true) (h4 : (decide (64 < ((List.length p0.list) : Int))) = false) (h5 : (decide (64 < ((List.length p0.fields) : Int))) = false) (z6 : Nat → PV) (zo6 : Nat → List PV) (hl6 : Tells G (E_K1v_b0 p0 p1 0) (.st (.exit 0) (S_K1v_b0_0 p0 p1 z6 zo6))) (z7 : Nat → PV) (zo7 : Nat → List PV) (hl7 : Tells G (E_K1v_b1 p0 p1 0) (.st .ret (S_K1v_b1_1 p0 p1 z7 zo7))) : Tells G (c_K1v p0 p1) (.ret (.bool (false)) []) := by
  exact tells_VI (fn := Ir.K1v) rfl VOK.nil [hB 3 h0, hP 8 (dec (!(p0.kind == 4)) false (by rw [h2]; rfl)), hP 10 (dec (!(p0.kind == 5)) false (by rw [h3]; rfl)), hP 10 (len_ok (Val.rows p0.list) (List.length p0.list) (Val.rowsLen p0.list)), hB 0 h4, hP 4 (len_ok (Fld.rows p0.fields) (List.length p0.fields) (Fld.rowsLen p0.fields)), hB 0 h5, hP 3 (len_ok (Val.rows p0.list) (List.length p0.list) (Val.rowsLen p0.list)), hP 3 (len_ok (Fld.rows p0.fields) (List.length p0.fields) (Fld.rowsLen p0.fields))] [aB (t_K1t p0 (give_K1v p0 p1 H).1) h1, aN hl6, aN hl7] (by kernel_rfl)
theorem t_K1v_5 (p0 : Val) (p1 : Int) (H : H_K1v p0) (_rec : Rec_K1v p0) (h0 : (p1 == 0) = false) (h1 : (s_K1t p0) = true) (h2 : (p0.kind == 4) = true) (h3 : (p0.kind == 5) = true) (h4 : (decide (64 < ((List.length p0.list) : Int))) = false) (h5 : (decide (64 < ((List.length p0.fields) : Int))) = false) (z6 : Nat → PV) (zo6 : Nat → List PV) (hl6 : Tells G (E_K1v_b0 p0 p1 0) (.st .ret (S_K1v_b0_1 p0 p1 z6 zo6))) : Tells G (c_K1v p0 p1) (.ret (.bool (false)) []) := by
  exact tells_VI (fn := Ir.K1v) rfl VOK.nil [hB 3 h0, hP 8 (dec (!(p0.kind == 4)) false (by rw [h2]; rfl)), hP 10 (dec (!(p0.kind == 5)) false (by rw [h3]; rfl)), hP 10 (len_ok (Val.rows p0.list) (List.length p0.list) (Val.rowsLen p0.list)), hB 0 h4, hP 4 (len_ok (Fld.rows p0.fields) (List.length p0.fields) (Fld.rowsLen p0.fields)), hB 0 h5, hP 3 (len_ok (Val.rows p0.list) (List.length p0.list) (Val.rowsLen p0.list))] [aB (t_K1t p0 (give_K1v p0 p1 H).1) h1, aN hl6] (by kernel_rfl)
theorem t_K1v_6 (p0 : Val) (p1 : Int) (H : H_K1v p0) (_rec : Rec_K1v p0) (h0 : (p1 == 0) = false) (h1 : (s_K1t p0) = true) (h2 : (p0.kind == 4) = true) (h3 : (p0.kind == 5) = false) (h4 : (decide (0 < ((List.length p0.fields) : Int))) = true) : Tells G (c_K1v p0 p1) (.ret (.bool (false)) []) := by
  exact tells_VI (fn := Ir.K1v) rfl VOK.nil [hB 3 h0, hP 8 (dec (!(p0.kind == 4)) false (by rw [h2]; rfl)), hP 10 (dec (!(p0.kind == 5)) true (by rw [h3]; rfl)), hP 3 (len_ok (Fld.rows p0.fields) (List.length p0.fields) (Fld.rowsLen p0.fields)), hB 0 h4] [aB (t_K1t p0 (give_K1v p0 p1 H).1) h1] (by kernel_rfl)
theorem t_K1v_7 (p0 : Val) (p1 : Int) (H : H_K1v p0) (_rec : Rec_K1v p0) (h0 : (p1 == 0) = false) (h1 : (s_K1t p0) = true) (h2 : (p0.kind == 4) = true) (h3 : (p0.kind == 5) = false) (h4 : (decide (0 < ((List.length p0.fields) : Int))) = false) (h5 : (decide (64 < ((List.length p0.list) : Int))) = true) : Tells G (c_K1v p0 p1) (.ret (.bool (false)) []) := by
  exact tells_VI (fn := Ir.K1v) rfl VOK.nil [hB 3 h0, hP 8 (dec (!(p0.kind == 4)) false (by rw [h2]; rfl)), hP 10 (dec (!(p0.kind == 5)) true (by rw [h3]; rfl)), hP 3 (len_ok (Fld.rows p0.fields) (List.length p0.fields) (Fld.rowsLen p0.fields)), hB 0 h4, hP 5 (len_ok (Val.rows p0.list) (List.length p0.list) (Val.rowsLen p0.list)), hB 0 h5] [aB (t_K1t p0 (give_K1v p0 p1 H).1) h1] (by kernel_rfl)
theorem t_K1v_8 (p0 : Val) (p1 : Int) (H : H_K1v p0) (_rec : Rec_K1v p0) (h0 : (p1 == 0) = false) (h1 : (s_K1t p0) = true) (h2 : (p0.kind == 4) = true) (h3 : (p0.kind == 5) = false) (h4 : (decide (0 < ((List.length p0.fields) : Int))) = false) (h5 : (decide (64 < ((List.length p0.list) : Int))) = false) (h6 : (decide (64 < ((List.length p0.fields) : Int))) = true) : Tells G (c_K1v p0 p1) (.ret (.bool (false)) []) := by
  exact tells_VI (fn := Ir.K1v) rfl VOK.nil [hB 3 h0, hP 8 (dec (!(p0.kind == 4)) false (by rw [h2]; rfl)), hP 10 (dec (!(p0.kind == 5)) true (by rw [h3]; rfl)), hP 3 (len_ok (Fld.rows p0.fields) (List.length p0.fields) (Fld.rowsLen p0.fields)), hB 0 h4, hP 5 (len_ok (Val.rows p0.list) (List.length p0.list) (Val.rowsLen p0.list)), hB 0 h5, hP 4 (len_ok (Fld.rows p0.fields) (List.length p0.fields) (Fld.rowsLen p0.fields)), hB 0 h6] [aB (t_K1t p0 (give_K1v p0 p1 H).1) h1] (by kernel_rfl)
theorem t_K1v_9 (p0 : Val) (p1 : Int) (H : H_K1v p0) (_rec : Rec_K1v p0) (h0 : (p1 == 0) = false) (h1 : (s_K1t p0) = true) (h2 : (p0.kind == 4) = true) (h3 : (p0.kind == 5) = false) (h4 : (decide (0 < ((List.length p0.fields) : Int))) = false) (h5 : (decide (64 < ((List.length p0.list) : Int))) = false) (h6 : (decide (64 < ((List.length p0.fields) : Int))) = false) (z7 : Nat → PV) (zo7 : Nat → List PV) (hl7 : Tells G (E_K1v_b0 p0 p1 0) (.st (.exit 0) (S_K1v_b0_0 p0 p1 z7 zo7))) (z8 : Nat → PV) (zo8 : Nat → List PV) (hl8 : Tells G (E_K1v_b1 p0 p1 0) (.st (.exit 2) (S_K1v_b1_0 p0 p1 z8 zo8))) : Tells G (c_K1v p0 p1) (.ret (.bool (true)) []) := by
  exact tells_VI (fn := Ir.K1v) rfl VOK.nil [hB 3 h0, hP 8 (dec (!(p0.kind == 4)) false (by rw [h2]; rfl)), hP 10 (dec (!(p0.kind == 5)) true (by rw [h3]; rfl)), hP 3 (len_ok (Fld.rows p0.fields) (List.length p0.fields) (Fld.rowsLen p0.fields)), hB 0 h4, hP 5 (len_ok (Val.rows p0.list) (List.length p0.list) (Val.rowsLen p0.list)), hB 0 h5, hP 4 (len_ok (Fld.rows p0.fields) (List.length p0.fields) (Fld.rowsLen p0.fields)), hB 0 h6, hP 3 (len_ok (Val.rows p0.list) (List.length p0.list) (Val.rowsLen p0.list)), hP 3 (len_ok (Fld.rows p0.fields) (List.length p0.fields) (Fld.rowsLen p0.fields))] [aB (t_K1t p0 (give_K1v p0 p1 H).1) h1, aN hl7, aN hl8] (by kernel_rfl)
theorem t_K1v_10 (p0 : Val) (p1 : Int) (H : H_K1v p0) (_rec : Rec_K1v p0) (h0 : (p1 == 0) = false) (h1 : (s_K1t p0) = true) (h2 : (p0.kind == 4) = true) (h3 : (p0.kind == 5) = false) (h4 : (decide (0 < ((List.length p0.fields) : Int))) = false) (h5 : (decide (64 < ((List.length p0.list) : Int))) = false) (h6 : (decide (64 < ((List.length p0.fields) : Int))) = false) (z7 : Nat → PV) (zo7 : Nat → List PV) (hl7 : Tells G (E_K1v_b0 p0 p1 0) (.st (.exit 0) (S_K1v_b0_0 p0 p1 z7 zo7))) (z8 : Nat → PV) (zo8 : Nat → List PV) (hl8 : Tells G (E_K1v_b1 p0 p1 0) (.st .ret (S_K1v_b1_1 p0 p1 z8 zo8))) : Tells G (c_K1v p0 p1) (.ret (.bool (false)) []) := by
  exact tells_VI (fn := Ir.K1v) rfl VOK.nil [hB 3 h0, hP 8 (dec (!(p0.kind == 4)) false (by rw [h2]; rfl)), hP 10 (dec (!(p0.kind == 5)) true (by rw [h3]; rfl)), hP 3 (len_ok (Fld.rows p0.fields) (List.length p0.fields) (Fld.rowsLen p0.fields)), hB 0 h4, hP 5 (len_ok (Val.rows p0.list) (List.length p0.list) (Val.rowsLen p0.list)), hB 0 h5, hP 4 (len_ok (Fld.rows p0.fields) (List.length p0.fields) (Fld.rowsLen p0.fields)), hB 0 h6, hP 3 (len_ok (Val.rows p0.list) (List.length p0.list) (Val.rowsLen p0.list)), hP 3 (len_ok (Fld.rows p0.fields) (List.length p0.fields) (Fld.rowsLen p0.fields))] [aB (t_K1t p0 (give_K1v p0 p1 H).1) h1, aN hl7, aN hl8] (by kernel_rfl)
theorem t_K1v_11 (p0 : Val) (p1 : Int) (H : H_K1v p0) (_rec : Rec_K1v p0) (h0 : (p1 == 0) = false) (h1 : (s_K1t p0) = true) (h2 : (p0.kind == 4) = true) (h3 : (p0.kind == 5) = false) (h4 : (decide (0 < ((List.length p0.fields) : Int))) = false) (h5 : (decide (64 < ((List.length p0.list) : Int))) = false) (h6 : (decide (64 < ((List.length p0.fields) : Int))) = false) (z7 : Nat → PV) (zo7 : Nat → List PV) (hl7 : Tells G (E_K1v_b0 p0 p1 0) (.st .ret (S_K1v_b0_1 p0 p1 z7 zo7))) : Tells G (c_K1v p0 p1) (.ret (.bool (false)) []) := by
  exact tells_VI (fn := Ir.K1v) rfl VOK.nil [hB 3 h0, hP 8 (dec (!(p0.kind == 4)) false (by rw [h2]; rfl)), hP 10 (dec (!(p0.kind == 5)) true (by rw [h3]; rfl)), hP 3 (len_ok (Fld.rows p0.fields) (List.length p0.fields) (Fld.rowsLen p0.fields)), hB 0 h4, hP 5 (len_ok (Val.rows p0.list) (List.length p0.list) (Val.rowsLen p0.list)), hB 0 h5, hP 4 (len_ok (Fld.rows p0.fields) (List.length p0.fields) (Fld.rowsLen p0.fields)), hB 0 h6, hP 3 (len_ok (Val.rows p0.list) (List.length p0.list) (Val.rowsLen p0.list))] [aB (t_K1t p0 (give_K1v p0 p1 H).1) h1, aN hl7] (by kernel_rfl)
theorem t_K1v_12 (p0 : Val) (p1 : Int) (H : H_K1v p0) (_rec : Rec_K1v p0) (h0 : (p1 == 0) = false) (h1 : (s_K1t p0) = true) (h2 : (p0.kind == 4) = false) (h3 : (decide (0 < ((List.length p0.list) : Int))) = true) : Tells G (c_K1v p0 p1) (.ret (.bool (false)) []) := by
  exact tells_VI (fn := Ir.K1v) rfl VOK.nil [hB 3 h0, hP 8 (dec (!(p0.kind == 4)) true (by rw [h2]; rfl)), hP 3 (len_ok (Val.rows p0.list) (List.length p0.list) (Val.rowsLen p0.list)), hB 0 h3] [aB (t_K1t p0 (give_K1v p0 p1 H).1) h1] (by kernel_rfl)
theorem t_K1v_13 (p0 : Val) (p1 : Int) (H : H_K1v p0) (_rec : Rec_K1v p0) (h0 : (p1 == 0) = false) (h1 : (s_K1t p0) = true) (h2 : (p0.kind == 4) = false) (h3 : (decide (0 < ((List.length p0.list) : Int))) = false) (h4 : (p0.kind == 5) = true) (h5 : (decide (64 < ((List.length p0.list) : Int))) = true) : Tells G (c_K1v p0 p1) (.ret (.bool (false)) []) := by
  exact tells_VI (fn := Ir.K1v) rfl VOK.nil [hB 3 h0, hP 8 (dec (!(p0.kind == 4)) true (by rw [h2]; rfl)), hP 3 (len_ok (Val.rows p0.list) (List.length p0.list) (Val.rowsLen p0.list)), hB 0 h3, hP 5 (dec (!(p0.kind == 5)) false (by rw [h4]; rfl)), hP 10 (len_ok (Val.rows p0.list) (List.length p0.list) (Val.rowsLen p0.list)), hB 0 h5] [aB (t_K1t p0 (give_K1v p0 p1 H).1) h1] (by kernel_rfl)
theorem t_K1v_14 (p0 : Val) (p1 : Int) (H : H_K1v p0) (_rec : Rec_K1v p0) (h0 : (p1 == 0) = false) (h1 : (s_K1t p0) = true) (h2 : (p0.kind == 4) = false) (h3 : (decide (0 < ((List.length p0.list) : Int))) = false) (h4 : (p0.kind == 5) = true) (h5 : (decide (64 < ((List.length p0.list) : Int))) = false) (h6 : (decide (64 < ((List.length p0.fields) : Int))) = true) : Tells G (c_K1v p0 p1) (.ret (.bool (false)) []) := by
  exact tells_VI (fn := Ir.K1v) rfl VOK.nil [hB 3 h0, hP 8 (dec (!(p0.kind == 4)) true (by rw [h2]; rfl)), hP 3 (len_ok (Val.rows p0.list) (List.length p0.list) (Val.rowsLen p0.list)), hB 0 h3, hP 5 (dec (!(p0.kind == 5)) false (by rw [h4]; rfl)), hP 10 (len_ok (Val.rows p0.list) (List.length p0.list) (Val.rowsLen p0.list)), hB 0 h5, hP 4 (len_ok (Fld.rows p0.fields) (List.length p0.fields) (Fld.rowsLen p0.fields)), hB 0 h6] [aB (t_K1t p0 (give_K1v p0 p1 H).1) h1] (by kernel_rfl)
theorem t_K1v_15 (p0 : Val) (p1 : Int) (H : H_K1v p0) (_rec : Rec_K1v p0) (h0 : (p1 == 0) = false) (h1 : (s_K1t p0) = true) (h2 : (p0.kind == 4) = false) (h3 : (decide (0 < ((List.length p0.list) : Int))) = false) (h4 : (p0.kind == 5) = true) (h5 : (decide (64 < ((List.length p0.list) : Int))) = false) (h6 : (decide (64 < ((List.length p0.fields) : Int))) = false) (z7 : Nat → PV) (zo7 : Nat → List PV) (hl7 : Tells G (E_K1v_b0 p0 p1 0) (.st (.exit 0) (S_K1v_b0_0 p0 p1 z7 zo7))) (z8 : Nat → PV) (zo8 : Nat → List PV) (hl8 : Tells G (E_K1v_b1 p0 p1 0) (.st (.exit 2) (S_K1v_b1_0 p0 p1 z8 zo8))) : Tells G (c_K1v p0 p1) (.ret (.bool (true)) []) := by
  exact tells_VI (fn := Ir.K1v) rfl VOK.nil [hB 3 h0, hP 8 (dec (!(p0.kind == 4)) true (by rw [h2]; rfl)), hP 3 (len_ok (Val.rows p0.list) (List.length p0.list) (Val.rowsLen p0.list)), hB 0 h3, hP 5 (dec (!(p0.kind == 5)) false (by rw [h4]; rfl)), hP 10 (len_ok (Val.rows p0.list) (List.length p0.list) (Val.rowsLen p0.list)), hB 0 h5, hP 4 (len_ok (Fld.rows p0.fields) (List.length p0.fields) (Fld.rowsLen p0.fields)), hB 0 h6, hP 3 (len_ok (Val.rows p0.list) (List.length p0.list) (Val.rowsLen p0.list)), hP 3 (len_ok (Fld.rows p0.fields) (List.length p0.fields) (Fld.rowsLen p0.fields))] [aB (t_K1t p0 (give_K1v p0 p1 H).1) h1, aN hl7, aN hl8] (by kernel_rfl)
theorem t_K1v_16 (p0 : Val) (p1 : Int) (H : H_K1v p0) (_rec : Rec_K1v p0) (h0 : (p1 == 0) = false) (h1 : (s_K1t p0) = true) (h2 : (p0.kind == 4) = false) (h3 : (decide (0 < ((List.length p0.list) : Int))) = false) (h4 : (p0.kind == 5) = true) (h5 : (decide (64 < ((List.length p0.list) : Int))) = false) (h6 : (decide (64 < ((List.length p0.fields) : Int))) = false) (z7 : Nat → PV) (zo7 : Nat → List PV) (hl7 : Tells G (E_K1v_b0 p0 p1 0) (.st (.exit 0) (S_K1v_b0_0 p0 p1 z7 zo7))) (z8 : Nat → PV) (zo8 : Nat → List PV) (hl8 : Tells G (E_K1v_b1 p0 p1 0) (.st .ret (S_K1v_b1_1 p0 p1 z8 zo8))) : Tells G (c_K1v p0 p1) (.ret (.bool (false)) []) := by
  exact tells_VI (fn := Ir.K1v) rfl VOK.nil [hB 3 h0, hP 8 (dec (!(p0.kind == 4)) true (by rw [h2]; rfl)), hP 3 (len_ok (Val.rows p0.list) (List.length p0.list) (Val.rowsLen p0.list)), hB 0 h3, hP 5 (dec (!(p0.kind == 5)) false (by rw [h4]; rfl)), hP 10 (len_ok (Val.rows p0.list) (List.length p0.list) (Val.rowsLen p0.list)), hB 0 h5, hP 4 (len_ok (Fld.rows p0.fields) (List.length p0.fields) (Fld.rowsLen p0.fields)), hB 0 h6, hP 3 (len_ok (Val.rows p0.list) (List.length p0.list) (Val.rowsLen p0.list)), hP 3 (len_ok (Fld.rows p0.fields) (List.length p0.fields) (Fld.rowsLen p0.fields))] [aB (t_K1t p0 (give_K1v p0 p1 H).1) h1, aN hl7, aN hl8] (by kernel_rfl)
theorem t_K1v_17 (p0 : Val) (p1 : Int) (H : H_K1v p0) (_rec : Rec_K1v p0) (h0 : (p1 == 0) = false) (h1 : (s_K1t p0) = true) (h2 : (p0.kind == 4) = false) (h3 : (decide (0 < ((List.length p0.list) : Int))) = false) (h4 : (p0.kind == 5) = true) (h5 : (decide (64 < ((List.length p0.list) : Int))) = false) (h6 : (decide (64 < ((List.length p0.fields) : Int))) = false) (z7 : Nat → PV) (zo7 : Nat → List PV) (hl7 : Tells G (E_K1v_b0 p0 p1 0) (.st .ret (S_K1v_b0_1 p0 p1 z7 zo7))) : Tells G (c_K1v p0 p1) (.ret (.bool (false)) []) := by
  exact tells_VI (fn := Ir.K1v) rfl VOK.nil [hB 3 h0, hP 8 (dec (!(p0.kind == 4)) true (by rw [h2]; rfl)), hP 3 (len_ok (Val.rows p0.list) (List.length p0.list) (Val.rowsLen p0.list)), hB 0 h3, hP 5 (dec (!(p0.kind == 5)) false (by rw [h4]; rfl)), hP 10 (len_ok (Val.rows p0.list) (List.length p0.list) (Val.rowsLen p0.list)), hB 0 h5, hP 4 (len_ok (Fld.rows p0.fields) (List.length p0.fields) (Fld.rowsLen p0.fields)), hB 0 h6, hP 3 (len_ok (Val.rows p0.list) (List.length p0.list) (Val.rowsLen p0.list))] [aB (t_K1t p0 (give_K1v p0 p1 H).1) h1, aN hl7] (by kernel_rfl)
theorem t_K1v_18 (p0 : Val) (p1 : Int) (H : H_K1v p0) (_rec : Rec_K1v p0) (h0 : (p1 == 0) = false) (h1 : (s_K1t p0) = true) (h2 : (p0.kind == 4) = false) (h3 : (decide (0 < ((List.length p0.list) : Int))) = false) (h4 : (p0.kind == 5) = false) (h5 : (decide (0 < ((List.length p0.fields) : Int))) = true) : Tells G (c_K1v p0 p1) (.ret (.bool (false)) []) := by
  exact tells_VI (fn := Ir.K1v) rfl VOK.nil [hB 3 h0, hP 8 (dec (!(p0.kind == 4)) true (by rw [h2]; rfl)), hP 3 (len_ok (Val.rows p0.list) (List.length p0.list) (Val.rowsLen p0.list)), hB 0 h3, hP 5 (dec (!(p0.kind == 5)) true (by rw [h4]; rfl)), hP 3 (len_ok (Fld.rows p0.fields) (List.length p0.fields) (Fld.rowsLen p0.fields)), hB 0 h5] [aB (t_K1t p0 (give_K1v p0 p1 H).1) h1] (by kernel_rfl)
theorem t_K1v_19 (p0 : Val) (p1 : Int) (H : H_K1v p0) (_rec : Rec_K1v p0) (h0 : (p1 == 0) = false) (h1 : (s_K1t p0) = true) (h2 : (p0.kind == 4) = false) (h3 : (decide (0 < ((List.length p0.list) : Int))) = false) (h4 : (p0.kind == 5) = false) (h5 : (decide (0 < ((List.length p0.fields) : Int))) = false) (h6 : (decide (64 < ((List.length p0.list) : Int))) = true) : Tells G (c_K1v p0 p1) (.ret (.bool (false)) []) := by
  exact tells_VI (fn := Ir.K1v) rfl VOK.nil [hB 3 h0, hP 8 (dec (!(p0.kind == 4)) true (by rw [h2]; rfl)), hP 3 (len_ok (Val.rows p0.list) (List.length p0.list) (Val.rowsLen p0.list)), hB 0 h3, hP 5 (dec (!(p0.kind == 5)) true (by rw [h4]; rfl)), hP 3 (len_ok (Fld.rows p0.fields) (List.length p0.fields) (Fld.rowsLen p0.fields)), hB 0 h5, hP 5 (len_ok (Val.rows p0.list) (List.length p0.list) (Val.rowsLen p0.list)), hB 0 h6] [aB (t_K1t p0 (give_K1v p0 p1 H).1) h1] (by kernel_rfl)
theorem t_K1v_20 (p0 : Val) (p1 : Int) (H : H_K1v p0) (_rec : Rec_K1v p0) (h0 : (p1 == 0) = false) (h1 : (s_K1t p0) = true) (h2 : (p0.kind == 4) = false) (h3 : (decide (0 < ((List.length p0.list) : Int))) = false) (h4 : (p0.kind == 5) = false) (h5 : (decide (0 < ((List.length p0.fields) : Int))) = false) (h6 : (decide (64 < ((List.length p0.list) : Int))) = false) (h7 : (decide (64 < ((List.length p0.fields) : Int))) = true) : Tells G (c_K1v p0 p1) (.ret (.bool (false)) []) := by
  exact tells_VI (fn := Ir.K1v) rfl VOK.nil [hB 3 h0, hP 8 (dec (!(p0.kind == 4)) true (by rw [h2]; rfl)), hP 3 (len_ok (Val.rows p0.list) (List.length p0.list) (Val.rowsLen p0.list)), hB 0 h3, hP 5 (dec (!(p0.kind == 5)) true (by rw [h4]; rfl)), hP 3 (len_ok (Fld.rows p0.fields) (List.length p0.fields) (Fld.rowsLen p0.fields)), hB 0 h5, hP 5 (len_ok (Val.rows p0.list) (List.length p0.list) (Val.rowsLen p0.list)), hB 0 h6, hP 4 (len_ok (Fld.rows p0.fields) (List.length p0.fields) (Fld.rowsLen p0.fields)), hB 0 h7] [aB (t_K1t p0 (give_K1v p0 p1 H).1) h1] (by kernel_rfl)
theorem t_K1v_21 (p0 : Val) (p1 : Int) (H : H_K1v p0) (_rec : Rec_K1v p0) (h0 : (p1 == 0) = false) (h1 : (s_K1t p0) = true) (h2 : (p0.kind == 4) = false) (h3 : (decide (0 < ((List.length p0.list) : Int))) = false) (h4 : (p0.kind == 5) = false) (h5 : (decide (0 < ((List.length p0.fields) : Int))) = false) (h6 : (decide (64 < ((List.length p0.list) : Int))) = false) (h7 : (decide (64 < ((List.length p0.fields) : Int))) = false) (z8 : Nat → PV) (zo8 : Nat → List PV) (hl8 : Tells G (E_K1v_b0 p0 p1 0) (.st (.exit 0) (S_K1v_b0_0 p0 p1 z8 zo8))) (z9 : Nat → PV) (zo9 : Nat → List PV) (hl9 : Tells G (E_K1v_b1 p0 p1 0) (.st (.exit 2) (S_K1v_b1_0 p0 p1 z9 zo9))) : Tells G (c_K1v p0 p1) (.ret (.bool (true)) []) := by
  exact tells_VI (fn := Ir.K1v) rfl VOK.nil [hB 3 h0, hP 8 (dec (!(p0.kind == 4)) true (by rw [h2]; rfl)), hP 3 (len_ok (Val.rows p0.list) (List.length p0.list) (Val.rowsLen p0.list)), hB 0 h3, hP 5 (dec (!(p0.kind == 5)) true (by rw [h4]; rfl)), hP 3 (len_ok (Fld.rows p0.fields) (List.length p0.fields) (Fld.rowsLen p0.fields)), hB 0 h5, hP 5 (len_ok (Val.rows p0.list) (List.length p0.list) (Val.rowsLen p0.list)), hB 0 h6, hP 4 (len_ok (Fld.rows p0.fields) (List.length p0.fields) (Fld.rowsLen p0.fields)), hB 0 h7, hP 3 (len_ok (Val.rows p0.list) (List.length p0.list) (Val.rowsLen p0.list)), hP 3 (len_ok (Fld.rows p0.fields) (List.length p0.fields) (Fld.rowsLen p0.fields))] [aB (t_K1t p0 (give_K1v p0 p1 H).1) h1, aN hl8, aN hl9] (by kernel_rfl)
theorem t_K1v_22 (p0 : Val) (p1 : Int) (H : H_K1v p0) (_rec : Rec_K1v p0) (h0 : (p1 == 0) = false) (h1 : (s_K1t p0) = true) (h2 : (p0.kind == 4) = false) (h3 : (decide (0 < ((List.length p0.list) : Int))) = false) (h4 : (p0.kind == 5) = false) (h5 : (decide (0 < ((List.length p0.fields) : Int))) = false) (h6 : (decide (64 < ((List.length p0.list) : Int))) = false) (h7 : (decide (64 < ((List.length p0.fields) : Int))) = false) (z8 : Nat → PV) (zo8 : Nat → List PV) (hl8 : Tells G (E_K1v_b0 p0 p1 0) (.st (.exit 0) (S_K1v_b0_0 p0 p1 z8 zo8))) (z9 : Nat → PV) (zo9 : Nat → List PV) (hl9 : Tells G (E_K1v_b1 p0 p1 0) (.st .ret (S_K1v_b1_1 p0 p1 z9 zo9))) : Tells G (c_K1v p0 p1) (.ret (.bool (false)) []) := by
  exact tells_VI (fn := Ir.K1v) rfl VOK.nil [hB 3 h0, hP 8 (dec (!(p0.kind == 4)) true (by rw [h2]; rfl)), hP 3 (len_ok (Val.rows p0.list) (List.length p0.list) (Val.rowsLen p0.list)), hB 0 h3, hP 5 (dec (!(p0.kind == 5)) true (by rw [h4]; rfl)), hP 3 (len_ok (Fld.rows p0.fields) (List.length p0.fields) (Fld.rowsLen p0.fields)), hB 0 h5, hP 5 (len_ok (Val.rows p0.list) (List.length p0.list) (Val.rowsLen p0.list)), hB 0 h6, hP 4 (len_ok (Fld.rows p0.fields) (List.length p0.fields) (Fld.rowsLen p0.fields)), hB 0 h7, hP 3 (len_ok (Val.rows p0.list) (List.length p0.list) (Val.rowsLen p0.list)), hP 3 (len_ok (Fld.rows p0.fields) (List.length p0.fields) (Fld.rowsLen p0.fields))] [aB (t_K1t p0 (give_K1v p0 p1 H).1) h1, aN hl8, aN hl9] (by kernel_rfl)
theorem t_K1v_23 (p0 : Val) (p1 : Int) (H : H_K1v p0) (_rec : Rec_K1v p0) (h0 : (p1 == 0) = false) (h1 : (s_K1t p0) = true) (h2 : (p0.kind == 4) = false) (h3 : (decide (0 < ((List.length p0.list) : Int))) = false) (h4 : (p0.kind == 5) = false) (h5 : (decide (0 < ((List.length p0.fields) : Int))) = false) (h6 : (decide (64 < ((List.length p0.list) : Int))) = false) (h7 : (decide (64 < ((List.length p0.fields) : Int))) = false) (z8 : Nat → PV) (zo8 : Nat → List PV) (hl8 : Tells G (E_K1v_b0 p0 p1 0) (.st .ret (S_K1v_b0_1 p0 p1 z8 zo8))) : Tells G (c_K1v p0 p1) (.ret (.bool (false)) []) := by
  exact tells_VI (fn := Ir.K1v) rfl VOK.nil [hB 3 h0, hP 8 (dec (!(p0.kind == 4)) true (by rw [h2]; rfl)), hP 3 (len_ok (Val.rows p0.list) (List.length p0.list) (Val.rowsLen p0.list)), hB 0 h3, hP 5 (dec (!(p0.kind == 5)) true (by rw [h4]; rfl)), hP 3 (len_ok (Fld.rows p0.fields) (List.length p0.fields) (Fld.rowsLen p0.fields)), hB 0 h5, hP 5 (len_ok (Val.rows p0.list) (List.length p0.list) (Val.rowsLen p0.list)), hB 0 h6, hP 4 (len_ok (Fld.rows p0.fields) (List.length p0.fields) (Fld.rowsLen p0.fields)), hB 0 h7, hP 3 (len_ok (Val.rows p0.list) (List.length p0.list) (Val.rowsLen p0.list))] [aB (t_K1t p0 (give_K1v p0 p1 H).1) h1, aN hl8] (by kernel_rfl)
theorem t_K1v_24 (p0 : Val) (p1 : Int) (H : H_K1v p0) (_rec : Rec_K1v p0) (h0 : (p1 == 0) = false) (h1 : (s_K1t p0) = false) : Tells G (c_K1v p0 p1) (.ret (.bool (false)) []) := by
  exact tells_VI (fn := Ir.K1v) rfl VOK.nil [hB 3 h0] [aB (t_K1t p0 (give_K1v p0 p1 H).1) h1] (by kernel_rfl)
theorem r_K1v (p0 : Val) (p1 : Int) (H : H_K1v p0) (rec : Rec_K1v p0) : Tells G (c_K1v p0 p1) (a_K1v p0 p1) := by
  unfold a_K1v
  rw [s_K1v]
  cases h0 : (p1 == 0) with
  | true =>
   exact t_K1v_0 p0 p1 H rec h0
  | false =>
   cases h1 : (s_K1t p0) with
   | true =>
    cases h2 : (p0.kind == 4) with
    | true =>
     cases h3 : (p0.kind == 5) with
     | true =>
      cases h4 : (decide (64 < ((List.length p0.list) : Int))) with
      | true =>
       exact t_K1v_1 p0 p1 H rec h0 h1 h2 h3 h4
      | false =>
       cases h5 : (decide (64 < ((List.length p0.fields) : Int))) with
       | true =>
        exact t_K1v_2 p0 p1 H rec h0 h1 h2 h3 h4 h5
       | false =>
        have hl6 := lt_K1v_b0 p0 p1 ((give_K1v p0 p1 H).2.1) rec p0.list 0 (by simp)
        cases hr6 : (l_K1v_b0 p0 p1 p0.list 0) with
        | k0 =>
          rw [hr6] at hl6
          obtain ⟨z6, zo6, hl6⟩ := hl6
          try dsimp only
          have hl7 := lt_K1v_b1 p0 p1 ((give_K1v p0 p1 H).2.2.1) rec p0.fields 0 (by simp)
          cases hr7 : (l_K1v_b1 p0 p1 p0.fields 0) with
          | k0 =>
            rw [hr7] at hl7
            obtain ⟨z7, zo7, hl7⟩ := hl7
            exact t_K1v_3 p0 p1 H rec h0 h1 h2 h3 h4 h5 z6 zo6 hl6 z7 zo7 hl7
          | k1 =>
            rw [hr7] at hl7
            obtain ⟨z7, zo7, hl7⟩ := hl7
            exact t_K1v_4 p0 p1 H rec h0 h1 h2 h3 h4 h5 z6 zo6 hl6 z7 zo7 hl7
        | k1 =>
          rw [hr6] at hl6
          obtain ⟨z6, zo6, hl6⟩ := hl6
          exact t_K1v_5 p0 p1 H rec h0 h1 h2 h3 h4 h5 z6 zo6 hl6
     | false =>
      cases h4 : (decide (0 < ((List.length p0.fields) : Int))) with
      | true =>
       exact t_K1v_6 p0 p1 H rec h0 h1 h2 h3 h4
      | false =>
       cases h5 : (decide (64 < ((List.length p0.list) : Int))) with
       | true =>
        exact t_K1v_7 p0 p1 H rec h0 h1 h2 h3 h4 h5
       | false =>
        cases h6 : (decide (64 < ((List.length p0.fields) : Int))) with
        | true =>
         exact t_K1v_8 p0 p1 H rec h0 h1 h2 h3 h4 h5 h6
        | false =>
         have hl7 := lt_K1v_b0 p0 p1 ((give_K1v p0 p1 H).2.1) rec p0.list 0 (by simp)
         cases hr7 : (l_K1v_b0 p0 p1 p0.list 0) with
         | k0 =>
           rw [hr7] at hl7
           obtain ⟨z7, zo7, hl7⟩ := hl7
           try dsimp only
           have hl8 := lt_K1v_b1 p0 p1 ((give_K1v p0 p1 H).2.2.1) rec p0.fields 0 (by simp)
           cases hr8 : (l_K1v_b1 p0 p1 p0.fields 0) with
           | k0 =>
             rw [hr8] at hl8
             obtain ⟨z8, zo8, hl8⟩ := hl8
             exact t_K1v_9 p0 p1 H rec h0 h1 h2 h3 h4 h5 h6 z7 zo7 hl7 z8 zo8 hl8
           | k1 =>
             rw [hr8] at hl8
             obtain ⟨z8, zo8, hl8⟩ := hl8
             exact t_K1v_10 p0 p1 H rec h0 h1 h2 h3 h4 h5 h6 z7 zo7 hl7 z8 zo8 hl8
         | k1 =>
           rw [hr7] at hl7
           obtain ⟨z7, zo7, hl7⟩ := hl7
           exact t_K1v_11 p0 p1 H rec h0 h1 h2 h3 h4 h5 h6 z7 zo7 hl7
    | false =>
     cases h3 : (decide (0 < ((List.length p0.list) : Int))) with
     | true =>
      exact t_K1v_12 p0 p1 H rec h0 h1 h2 h3
     | false =>
      cases h4 : (p0.kind == 5) with
      | true =>
       cases h5 : (decide (64 < ((List.length p0.list) : Int))) with
       | true =>
        exact t_K1v_13 p0 p1 H rec h0 h1 h2 h3 h4 h5
       | false =>
        cases h6 : (decide (64 < ((List.length p0.fields) : Int))) with
        | true =>
         exact t_K1v_14 p0 p1 H rec h0 h1 h2 h3 h4 h5 h6
        | false =>
         have hl7 := lt_K1v_b0 p0 p1 ((give_K1v p0 p1 H).2.1) rec p0.list 0 (by simp)
         cases hr7 : (l_K1v_b0 p0 p1 p0.list 0) with
         | k0 =>
           rw [hr7] at hl7
           obtain ⟨z7, zo7, hl7⟩ := hl7
           try dsimp only
           have hl8 := lt_K1v_b1 p0 p1 ((give_K1v p0 p1 H).2.2.1) rec p0.fields 0 (by simp)
           cases hr8 : (l_K1v_b1 p0 p1 p0.fields 0) with
           | k0 =>
             rw [hr8] at hl8
             obtain ⟨z8, zo8, hl8⟩ := hl8
             exact t_K1v_15 p0 p1 H rec h0 h1 h2 h3 h4 h5 h6 z7 zo7 hl7 z8 zo8 hl8
           | k1 =>
             rw [hr8] at hl8
             obtain ⟨z8, zo8, hl8⟩ := hl8
             exact t_K1v_16 p0 p1 H rec h0 h1 h2 h3 h4 h5 h6 z7 zo7 hl7 z8 zo8 hl8
         | k1 =>
           rw [hr7] at hl7
           obtain ⟨z7, zo7, hl7⟩ := hl7
           exact t_K1v_17 p0 p1 H rec h0 h1 h2 h3 h4 h5 h6 z7 zo7 hl7
      | false =>
       cases h5 : (decide (0 < ((List.length p0.fields) : Int))) with
       | true =>
        exact t_K1v_18 p0 p1 H rec h0 h1 h2 h3 h4 h5
       | false =>
        cases h6 : (decide (64 < ((List.length p0.list) : Int))) with
        | true =>
         exact t_K1v_19 p0 p1 H rec h0 h1 h2 h3 h4 h5 h6
        | false =>
         cases h7 : (decide (64 < ((List.length p0.fields) : Int))) with
         | true =>
          exact t_K1v_20 p0 p1 H rec h0 h1 h2 h3 h4 h5 h6 h7
         | false =>
          have hl8 := lt_K1v_b0 p0 p1 ((give_K1v p0 p1 H).2.1) rec p0.list 0 (by simp)
          cases hr8 : (l_K1v_b0 p0 p1 p0.list 0) with
          | k0 =>
            rw [hr8] at hl8
            obtain ⟨z8, zo8, hl8⟩ := hl8
            try dsimp only
            have hl9 := lt_K1v_b1 p0 p1 ((give_K1v p0 p1 H).2.2.1) rec p0.fields 0 (by simp)
            cases hr9 : (l_K1v_b1 p0 p1 p0.fields 0) with
            | k0 =>
              rw [hr9] at hl9
              obtain ⟨z9, zo9, hl9⟩ := hl9
              exact t_K1v_21 p0 p1 H rec h0 h1 h2 h3 h4 h5 h6 h7 z8 zo8 hl8 z9 zo9 hl9
            | k1 =>
              rw [hr9] at hl9
              obtain ⟨z9, zo9, hl9⟩ := hl9
              exact t_K1v_22 p0 p1 H rec h0 h1 h2 h3 h4 h5 h6 h7 z8 zo8 hl8 z9 zo9 hl9
          | k1 =>
            rw [hr8] at hl8
            obtain ⟨z8, zo8, hl8⟩ := hl8
            exact t_K1v_23 p0 p1 H rec h0 h1 h2 h3 h4 h5 h6 h7 z8 zo8 hl8
   | false =>
    exact t_K1v_24 p0 p1 H rec h0 h1
theorem i_K1v : ∀ (k : Nat) (p0 : Val), SizeOf.sizeOf p0 < k → ∀ (p1 : Int), H_K1v p0 → Tells G (c_K1v p0 p1) (a_K1v p0 p1)
  | 0, _, h, _, _ => absurd h (Nat.not_lt_zero _)
  | k + 1, p0, h, p1, H => r_K1v p0 p1 H (fun q hq p1 hH => i_K1v k q (by omega) p1 hH)
theorem t_K1v (p0 : Val) (p1 : Int) (H : H_K1v p0) : Tells G (c_K1v p0 p1) (a_K1v p0 p1) := i_K1v _ p0 (Nat.lt_succ_self _) p1 H
def s_K1m (p0 : Val) : Bool :=
  bif (s_K1v p0 12) then
    (decide ((s_K1k p0) ≤ 600))
  else
    false
def c_K1m (p0 : Val) : En := .call 11 [.agg (Val.cells p0)] []
def a_K1m (p0 : Val) : Rs := .ret (.bool (s_K1m p0)) []
def H_K1m (p0 : Val) : Prop := (H_K1v p0) ∧ (H_K1k p0) ∧ True
theorem t_K1m (p0 : Val) (H : H_K1m p0) : Tells G (c_K1m p0) (a_K1m p0) := by
  unfold a_K1m s_K1m
  cases h0 : (s_K1v p0 12) with
  | true =>
   exact tells_VI (fn := Ir.K1m) rfl VOK.nil [] [aB (t_K1v p0 12 H.1) h0, aN (t_K1k p0 H.2.1)] (by kernel_rfl)
  | false =>
   exact tells_VI (fn := Ir.K1m) rfl VOK.nil [] [aB (t_K1v p0 12 H.1) h0] (by kernel_rfl)
def s_Kt (p0 : Bool) (p1 : Bool) : Int :=
  bif p0 then
    bif p1 then
      (-1)
    else
      (-1)
  else
    bif p1 then
      1
    else
      0
def c_Kt (p0 : Bool) (p1 : Bool) : En := .call 47 [.bool p0, .bool p1] []
def a_Kt (p0 : Bool) (p1 : Bool) : Rs := .ret (.int .i64 (s_Kt p0 p1)) []
theorem t_Kt (p0 : Bool) (p1 : Bool) : Tells G (c_Kt p0 p1) (a_Kt p0 p1) := by
  unfold a_Kt s_Kt
  cases h0 : p0 with
  | true =>
   cases h1 : p1 with
   | true =>
    exact tells_VI (fn := Ir.Kt) rfl VOK.nil [] [] (by kernel_rfl)
   | false =>
    exact tells_VI (fn := Ir.Kt) rfl VOK.nil [] [] (by kernel_rfl)
  | false =>
   cases h1 : p1 with
   | true =>
    exact tells_VI (fn := Ir.Kt) rfl VOK.nil [] [] (by kernel_rfl)
   | false =>
    exact tells_VI (fn := Ir.Kt) rfl VOK.nil [] [] (by kernel_rfl)
mutual
def s_Kc (p0 : Val) (p1 : Val) : Int :=
  bif ((s_Kt (decide (p0.kind < p1.kind)) (decide (p1.kind < p0.kind))) == 0) then
    bif ((s_Kt (decide (p0.n < p1.n)) (decide (p1.n < p0.n))) == 0) then
      bif ((l_Kc_b0 p0 p1 p0.list 0 (s_Kt (sLt p0.s p1.s) (!((sLt p0.s p1.s) || (sEq p0.s p1.s))))) == 0) then
        bif ((l_Kc_b1 p0 p1 p0.fields 0 (s_Kt (decide (((List.length p0.list) : Int) < ((List.length p1.list) : Int))) (decide (((List.length p1.list) : Int) < ((List.length p0.list) : Int))))) == 0) then
          (s_Kt (decide (((List.length p0.fields) : Int) < ((List.length p1.fields) : Int))) (decide (((List.length p1.fields) : Int) < ((List.length p0.fields) : Int))))
        else
          (l_Kc_b1 p0 p1 p0.fields 0 (s_Kt (decide (((List.length p0.list) : Int) < ((List.length p1.list) : Int))) (decide (((List.length p1.list) : Int) < ((List.length p0.list) : Int)))))
      else
        bif ((l_Kc_b1 p0 p1 p0.fields 0 (l_Kc_b0 p0 p1 p0.list 0 (s_Kt (sLt p0.s p1.s) (!((sLt p0.s p1.s) || (sEq p0.s p1.s)))))) == 0) then
          (s_Kt (decide (((List.length p0.fields) : Int) < ((List.length p1.fields) : Int))) (decide (((List.length p1.fields) : Int) < ((List.length p0.fields) : Int))))
        else
          (l_Kc_b1 p0 p1 p0.fields 0 (l_Kc_b0 p0 p1 p0.list 0 (s_Kt (sLt p0.s p1.s) (!((sLt p0.s p1.s) || (sEq p0.s p1.s))))))
    else
      bif ((l_Kc_b0 p0 p1 p0.list 0 (s_Kt (decide (p0.n < p1.n)) (decide (p1.n < p0.n)))) == 0) then
        bif ((l_Kc_b1 p0 p1 p0.fields 0 (s_Kt (decide (((List.length p0.list) : Int) < ((List.length p1.list) : Int))) (decide (((List.length p1.list) : Int) < ((List.length p0.list) : Int))))) == 0) then
          (s_Kt (decide (((List.length p0.fields) : Int) < ((List.length p1.fields) : Int))) (decide (((List.length p1.fields) : Int) < ((List.length p0.fields) : Int))))
        else
          (l_Kc_b1 p0 p1 p0.fields 0 (s_Kt (decide (((List.length p0.list) : Int) < ((List.length p1.list) : Int))) (decide (((List.length p1.list) : Int) < ((List.length p0.list) : Int)))))
      else
        bif ((l_Kc_b1 p0 p1 p0.fields 0 (l_Kc_b0 p0 p1 p0.list 0 (s_Kt (decide (p0.n < p1.n)) (decide (p1.n < p0.n))))) == 0) then
          (s_Kt (decide (((List.length p0.fields) : Int) < ((List.length p1.fields) : Int))) (decide (((List.length p1.fields) : Int) < ((List.length p0.fields) : Int))))
        else
          (l_Kc_b1 p0 p1 p0.fields 0 (l_Kc_b0 p0 p1 p0.list 0 (s_Kt (decide (p0.n < p1.n)) (decide (p1.n < p0.n)))))
  else
    bif ((l_Kc_b0 p0 p1 p0.list 0 (s_Kt (decide (p0.kind < p1.kind)) (decide (p1.kind < p0.kind)))) == 0) then
      bif ((l_Kc_b1 p0 p1 p0.fields 0 (s_Kt (decide (((List.length p0.list) : Int) < ((List.length p1.list) : Int))) (decide (((List.length p1.list) : Int) < ((List.length p0.list) : Int))))) == 0) then
        (s_Kt (decide (((List.length p0.fields) : Int) < ((List.length p1.fields) : Int))) (decide (((List.length p1.fields) : Int) < ((List.length p0.fields) : Int))))
      else
        (l_Kc_b1 p0 p1 p0.fields 0 (s_Kt (decide (((List.length p0.list) : Int) < ((List.length p1.list) : Int))) (decide (((List.length p1.list) : Int) < ((List.length p0.list) : Int)))))
    else
      bif ((l_Kc_b1 p0 p1 p0.fields 0 (l_Kc_b0 p0 p1 p0.list 0 (s_Kt (decide (p0.kind < p1.kind)) (decide (p1.kind < p0.kind))))) == 0) then
        (s_Kt (decide (((List.length p0.fields) : Int) < ((List.length p1.fields) : Int))) (decide (((List.length p1.fields) : Int) < ((List.length p0.fields) : Int))))
      else
        (l_Kc_b1 p0 p1 p0.fields 0 (l_Kc_b0 p0 p1 p0.list 0 (s_Kt (decide (p0.kind < p1.kind)) (decide (p1.kind < p0.kind)))))
termination_by SizeOf.sizeOf p0
decreasing_by all_goals first | exact Val.lt_list _ | exact Val.lt_fields _ | exact lt_head _ _ | exact lt_tail _ _ | exact lt_headv _ _
def l_Kc_b0 (p0 : Val) (p1 : Val) : List Val → Nat → Int → Int
  | [], _i0, v0_1 =>
    v0_1
  | x0 :: r0, i0, v0_1 =>
    bif (decide ((i0 : Int) < ((List.length p1.list) : Int))) then
      bif (v0_1 == 0) then
        l_Kc_b0 p0 p1 r0 (i0 + 1) (s_Kc x0 (List.getD p1.list i0 (Val.mk 0 0 (⟨#[]⟩ : ByteArray) [] [])))
      else
        v0_1
    else
      v0_1
termination_by l => SizeOf.sizeOf l
decreasing_by all_goals first | exact Val.lt_list _ | exact Val.lt_fields _ | exact lt_head _ _ | exact lt_tail _ _ | exact lt_headv _ _
def l_Kc_b1 (p0 : Val) (p1 : Val) : List Fld → Nat → Int → Int
  | [], _i1, v1_1 =>
    v1_1
  | x1 :: r1, i1, v1_1 =>
    bif (decide ((i1 : Int) < ((List.length p1.fields) : Int))) then
      bif (v1_1 == 0) then
        bif ((s_Kt (sLt x1.name (List.getD p1.fields i1 (Fld.mk (⟨#[]⟩ : ByteArray) (Val.mk 0 0 (⟨#[]⟩ : ByteArray) [] []))).name) (!((sLt x1.name (List.getD p1.fields i1 (Fld.mk (⟨#[]⟩ : ByteArray) (Val.mk 0 0 (⟨#[]⟩ : ByteArray) [] []))).name) || (sEq x1.name (List.getD p1.fields i1 (Fld.mk (⟨#[]⟩ : ByteArray) (Val.mk 0 0 (⟨#[]⟩ : ByteArray) [] []))).name)))) == 0) then
          l_Kc_b1 p0 p1 r1 (i1 + 1) (s_Kc x1.v (List.getD p1.fields i1 (Fld.mk (⟨#[]⟩ : ByteArray) (Val.mk 0 0 (⟨#[]⟩ : ByteArray) [] []))).v)
        else
          l_Kc_b1 p0 p1 r1 (i1 + 1) (s_Kt (sLt x1.name (List.getD p1.fields i1 (Fld.mk (⟨#[]⟩ : ByteArray) (Val.mk 0 0 (⟨#[]⟩ : ByteArray) [] []))).name) (!((sLt x1.name (List.getD p1.fields i1 (Fld.mk (⟨#[]⟩ : ByteArray) (Val.mk 0 0 (⟨#[]⟩ : ByteArray) [] []))).name) || (sEq x1.name (List.getD p1.fields i1 (Fld.mk (⟨#[]⟩ : ByteArray) (Val.mk 0 0 (⟨#[]⟩ : ByteArray) [] []))).name))))
      else
        v1_1
    else
      v1_1
termination_by l => SizeOf.sizeOf l
decreasing_by all_goals first | exact Val.lt_list _ | exact Val.lt_fields _ | exact lt_head _ _ | exact lt_tail _ _ | exact lt_headv _ _
end
def HE_Kc_b0 (_p0 : Val) (_p1 : Val) (i0 : Nat) (v0_1 : Int) : List PV :=
  [.un, .un, .bx 0 0, .bx 1 0, .un, .int .i64 v0_1, .int .i64 (i0 : Int), .un, .un, .un, .un, .un, .un, .un, .un, .un, .un, .un, .un, .un, .un, .un, .un, .un, .un, .un, .un, .un, .un, .un, .un, .un, .un, .un, .un, .un, .un, .un, .un, .un, .un, .un, .un, .un, .un, .un, .un, .un, .un, .un, .un, .un, .un, .un, .un, .un, .un, .un, .un, .un, .un, .un, .un, .un, .un, .un, .un, .un, .un, .un, .un, .un, .un, .un, .un, .un, .un, .un, .un, .un, .un, .un, .un, .un, .un, .un, .un, .un, .un, .un, .un, .un, .un, .un, .un, .un, .un, .un, .un, .un, .un, .un, .un, .un, .un, .un, .un, .un, .un, .un, .un, .un, .un, .un, .un, .un, .un, .un, .un, .un, .un, .un, .un, .un, .un, .un, .un, .un, .un, .un, .un, .un, .un, .un, .un, .un, .un, .un, .un, .un, .un, .un, .un, .un, .un, .un, .un, .un, .un, .un, .un, .un, .un, .un, .un, .un, .un, .un, .un, .un, .un, .un, .un, .un, .un, .un, .un, .un, .un]
def HO_Kc_b0 (p0 : Val) (p1 : Val) (_i0 : Nat) (_v0_1 : Int) : List Ob :=
  [⟨5, 0, true, [.int .i64 p0.kind, .int .i64 p0.n, .str p0.s, .sl (Val.rows p0.list), .sl (Fld.rows p0.fields)]⟩, ⟨5, 0, true, [.int .i64 p1.kind, .int .i64 p1.n, .str p1.s, .sl (Val.rows p1.list), .sl (Fld.rows p1.fields)]⟩]
def E_Kc_b0 (p0 : Val) (p1 : Val) (i0 : Nat) (v0_1 : Int) : En := .loop 0 Ir.Kc_b0_live Ir.Kc_b0 (HE_Kc_b0 p0 p1 i0 v0_1) (HO_Kc_b0 p0 p1 i0 v0_1)
def S_Kc_b0_0 (p0 : Val) (p1 : Val) (q0 : Int) (z : Nat → PV) (_zo : Nat → List PV) : St :=
  ⟨[z 0, z 1, .bx 0 0, .bx 1 0, z 4, .int .i64 q0, z 6, z 7, z 8, z 9, z 10, z 11, z 12, z 13, z 14, z 15, z 16, z 17, z 18, z 19, z 20, z 21, z 22, z 23, z 24, z 25, z 26, z 27, z 28, z 29, z 30, z 31, z 32, z 33, z 34, z 35, z 36, z 37, z 38, z 39, z 40, z 41, z 42, z 43, z 44, z 45, z 46, z 47, z 48, z 49, z 50, z 51, z 52, z 53, z 54, z 55, z 56, z 57, z 58, z 59, z 60, z 61, z 62, z 63, z 64, z 65, z 66, z 67, z 68, z 69, z 70, z 71, z 72, z 73, z 74, z 75, z 76, z 77, z 78, z 79, z 80, z 81, z 82, z 83, z 84, z 85, z 86, z 87, z 88, z 89, z 90, z 91, z 92, z 93, z 94, z 95, z 96, z 97, z 98, z 99, z 100, z 101, z 102, z 103, z 104, z 105, z 106, z 107, z 108, z 109, z 110, z 111, z 112, z 113, z 114, z 115, z 116, z 117, z 118, z 119, z 120, z 121, z 122, z 123, z 124, z 125, z 126, z 127, z 128, z 129, z 130, z 131, z 132, z 133, z 134, z 135, z 136, z 137, z 138, z 139, z 140, z 141, z 142, z 143, z 144, z 145, z 146, z 147, z 148, z 149, z 150, z 151, z 152, z 153, z 154, z 155, z 156, z 157, z 158, z 159, z 160, z 161, z 162, z 163, z 164, z 165, z 166, z 167, z 168], [(0, ⟨5, 0, true, [.int .i64 p0.kind, .int .i64 p0.n, .str p0.s, .sl (Val.rows p0.list), .sl (Fld.rows p0.fields)]⟩), (1, ⟨5, 0, true, [.int .i64 p1.kind, .int .i64 p1.n, .str p1.s, .sl (Val.rows p1.list), .sl (Fld.rows p1.fields)]⟩)], 1026⟩
def P_Kc_b0 (p0 : Val) (p1 : Val) (e : En) (q : Int) : Prop := ∃ z zo, Tells G e (.st (.exit 0) (S_Kc_b0_0 p0 p1 q z zo))
theorem P_Kc_b0_mono (p0 : Val) (p1 : Val) {e e' : En} (h : ∀ r, Tells G e r → Tells G e' r) : ∀ q, P_Kc_b0 p0 p1 e q → P_Kc_b0 p0 p1 e' q
  | _, ⟨z, zo, hz⟩ => ⟨z, zo, h _ hz⟩
def HE_Kc_b1 (_p0 : Val) (_p1 : Val) (i1 : Nat) (v1_1 : Int) : List PV :=
  [.un, .un, .bx 0 0, .bx 1 0, .un, .int .i64 v1_1, .un, .int .i64 (i1 : Int), .un, .un, .un, .un, .un, .un, .un, .un, .un, .un, .un, .un, .un, .un, .un, .un, .un, .un, .un, .un, .un, .un, .un, .un, .un, .un, .un, .un, .un, .un, .un, .un, .un, .un, .un, .un, .un, .un, .un, .un, .un, .un, .un, .un, .un, .un, .un, .un, .un, .un, .un, .un, .un, .un, .un, .un, .un, .un, .un, .un, .un, .un, .un, .un, .un, .un, .un, .un, .un, .un, .un, .un, .un, .un, .un, .un, .un, .un, .un, .un, .un, .un, .un, .un, .un, .un, .un, .un, .un, .un, .un, .un, .un, .un, .un, .un, .un, .un, .un, .un, .un, .un, .un, .un, .un, .un, .un, .un, .un, .un, .un, .un, .un, .un, .un, .un, .un, .un, .un, .un, .un, .un, .un, .un, .un, .un, .un, .un, .un, .un, .un, .un, .un, .un, .un, .un, .un, .un, .un, .un, .un, .un, .un, .un, .un, .un, .un, .un, .un, .un, .un, .un, .un, .un, .un, .un, .un, .un, .un, .un, .un]
def HO_Kc_b1 (p0 : Val) (p1 : Val) (_i1 : Nat) (_v1_1 : Int) : List Ob :=
  [⟨5, 0, true, [.int .i64 p0.kind, .int .i64 p0.n, .str p0.s, .sl (Val.rows p0.list), .sl (Fld.rows p0.fields)]⟩, ⟨5, 0, true, [.int .i64 p1.kind, .int .i64 p1.n, .str p1.s, .sl (Val.rows p1.list), .sl (Fld.rows p1.fields)]⟩]
def E_Kc_b1 (p0 : Val) (p1 : Val) (i1 : Nat) (v1_1 : Int) : En := .loop 0 Ir.Kc_b1_live Ir.Kc_b1 (HE_Kc_b1 p0 p1 i1 v1_1) (HO_Kc_b1 p0 p1 i1 v1_1)
def S_Kc_b1_0 (p0 : Val) (p1 : Val) (q0 : Int) (z : Nat → PV) (_zo : Nat → List PV) : St :=
  ⟨[z 0, z 1, .bx 0 0, .bx 1 0, z 4, .int .i64 q0, z 6, z 7, z 8, z 9, z 10, z 11, z 12, z 13, z 14, z 15, z 16, z 17, z 18, z 19, z 20, z 21, z 22, z 23, z 24, z 25, z 26, z 27, z 28, z 29, z 30, z 31, z 32, z 33, z 34, z 35, z 36, z 37, z 38, z 39, z 40, z 41, z 42, z 43, z 44, z 45, z 46, z 47, z 48, z 49, z 50, z 51, z 52, z 53, z 54, z 55, z 56, z 57, z 58, z 59, z 60, z 61, z 62, z 63, z 64, z 65, z 66, z 67, z 68, z 69, z 70, z 71, z 72, z 73, z 74, z 75, z 76, z 77, z 78, z 79, z 80, z 81, z 82, z 83, z 84, z 85, z 86, z 87, z 88, z 89, z 90, z 91, z 92, z 93, z 94, z 95, z 96, z 97, z 98, z 99, z 100, z 101, z 102, z 103, z 104, z 105, z 106, z 107, z 108, z 109, z 110, z 111, z 112, z 113, z 114, z 115, z 116, z 117, z 118, z 119, z 120, z 121, z 122, z 123, z 124, z 125, z 126, z 127, z 128, z 129, z 130, z 131, z 132, z 133, z 134, z 135, z 136, z 137, z 138, z 139, z 140, z 141, z 142, z 143, z 144, z 145, z 146, z 147, z 148, z 149, z 150, z 151, z 152, z 153, z 154, z 155, z 156, z 157, z 158, z 159, z 160, z 161, z 162, z 163, z 164, z 165, z 166, z 167, z 168], [(0, ⟨5, 0, true, [.int .i64 p0.kind, .int .i64 p0.n, .str p0.s, .sl (Val.rows p0.list), .sl (Fld.rows p0.fields)]⟩), (1, ⟨5, 0, true, [.int .i64 p1.kind, .int .i64 p1.n, .str p1.s, .sl (Val.rows p1.list), .sl (Fld.rows p1.fields)]⟩)], 1026⟩
def P_Kc_b1 (p0 : Val) (p1 : Val) (e : En) (q : Int) : Prop := ∃ z zo, Tells G e (.st (.exit 2) (S_Kc_b1_0 p0 p1 q z zo))
theorem P_Kc_b1_mono (p0 : Val) (p1 : Val) {e e' : En} (h : ∀ r, Tells G e r → Tells G e' r) : ∀ q, P_Kc_b1 p0 p1 e q → P_Kc_b1 p0 p1 e' q
  | _, ⟨z, zo, hz⟩ => ⟨z, zo, h _ hz⟩
def c_Kc (p0 : Val) (p1 : Val) : En := .call 18 [.agg (Val.cells p0), .agg (Val.cells p1)] []
def a_Kc (p0 : Val) (p1 : Val) : Rs := .ret (.int .i64 (s_Kc p0 p1)) []
abbrev H_Kc (p0 : Val) : Prop := Val.Sm 4611686018427387904 p0
def Rec_Kc (p0 : Val) : Prop := ∀ (q : Val), SizeOf.sizeOf q < SizeOf.sizeOf p0 → ∀ (p1 : Val), H_Kc q → Tells G (c_Kc q p1) (a_Kc q p1)
def H_Kc_b0 (p0 : Val) (_p1 : Val) : Prop := (List.length p0.list ≤ 4611686018427387904) ∧ (∀ x0 ∈ p0.list, H_Kc x0) ∧ True
def H_Kc_b1 (p0 : Val) (_p1 : Val) : Prop := (List.length p0.fields ≤ 4611686018427387904) ∧ (∀ x1 ∈ p0.fields, H_Kc x1.v) ∧ True
theorem give_Kc (p0 : Val) (p1 : Val) (H : H_Kc p0) : (H_Kc_b0 p0 p1) ∧ (H_Kc_b1 p0 p1) ∧ True := by
  obtain ⟨h1, h2, h3, h4⟩ := H.all
  simp only [H_Kc_b0, H_Kc_b1]
  exact ⟨⟨h1, h3, trivial⟩, ⟨h2, h4, trivial⟩, trivial⟩
def Z_Kc_b0_0 (p0 : Val) (_p1 : Val) (i0 : Nat) (_v0_1 : Int) : List PV :=
  [.un, .un, .un, .un, .un, .un, .int .i64 (i0 : Int), .un, .un, .un, .un, .un, .un, .un, .un, .un, .un, .un, .un, .un, .un, .un, .un, .un, .un, .un, .un, .un, .un, .un, .un, .un, .un, .un, .un, .un, .un, .un, .un, .un, .un, .un, .un, .un, .un, .int .i64 (i0 : Int), .bx 0 3, .sl (Val.rows p0.list), .int .i64 ((List.length p0.list) : Int), .bool false, .bool false, .tup [], .tup [], .tup [], .tup [], .tup [], .bool false, .bool false, .tup [], .tup [], .bool false]
def ZO_Kc_b0_0 (_p0 : Val) (_p1 : Val) (_i0 : Nat) (_v0_1 : Int) : List (Nat × List PV) :=
  []
theorem x_Kc_b0_0 (p0 : Val) (p1 : Val) (_H : H_Kc_b0 p0 p1) (_rec : Rec_Kc p0) (i0 : Nat) (v0_1 : Int) (hc0 : (decide ((i0 : Int) < ((List.length p0.list) : Int))) = false) : P_Kc_b0 p0 p1 (E_Kc_b0 p0 p1 i0 v0_1) v0_1 := by
  exact ⟨(envF (Z_Kc_b0_0 p0 p1 i0 v0_1)), (zoF (ZO_Kc_b0_0 p0 p1 i0 v0_1)), tells_outVI VOK.nil (x := ((.exit 0), S_Kc_b0_0 p0 p1 v0_1 (envF (Z_Kc_b0_0 p0 p1 i0 v0_1)) (zoF (ZO_Kc_b0_0 p0 p1 i0 v0_1)))) [hP 3 (len_ok (Val.rows p0.list) (List.length p0.list) (Val.rowsLen p0.list)), hB 0 hc0] [] (by kernel_rfl)⟩
theorem n_Kc_b0_1 (p0 : Val) (p1 : Val) (H : H_Kc_b0 p0 p1) (rec : Rec_Kc p0) (x0 : Val) (i0 : Nat) (v0_1 : Int) (hx0 : p0.list[i0]? = some x0) (hi0 : i0 < List.length p0.list) (hc0 : (decide ((i0 : Int) < ((List.length p0.list) : Int))) = true) (h0 : (decide ((i0 : Int) < ((List.length p1.list) : Int))) = true) (h1 : (v0_1 == 0) = true) {r : Rs} (hr : Tells G (E_Kc_b0 p0 p1 (i0 + 1) (s_Kc x0 (List.getD p1.list i0 (Val.mk 0 0 (⟨#[]⟩ : ByteArray) [] [])))) r) : Tells G (E_Kc_b0 p0 p1 i0 v0_1) r := by
  have hB0 := H.1; have e0 := of_decide_eq_true h0; have e1 := eq_of_beq h1
  exact tells_nextVI VOK.nil (y := (HE_Kc_b0 p0 p1 (i0 + 1) (s_Kc x0 (List.getD p1.list i0 (Val.mk 0 0 (⟨#[]⟩ : ByteArray) [] []))), HO_Kc_b0 p0 p1 (i0 + 1) (s_Kc x0 (List.getD p1.list i0 (Val.mk 0 0 (⟨#[]⟩ : ByteArray) [] []))))) [hP 3 (len_ok (Val.rows p0.list) (List.length p0.list) (Val.rowsLen p0.list)), hB 0 hc0, hP 4 (len_ok (Val.rows p1.list) (List.length p1.list) (Val.rowsLen p1.list)), hB 0 h0, hB 3 h1, hP 4 (ix_ok 5 (Val.rows p0.list) i0 _ (Val.rowsGet hx0) rfl), hP 4 (ixI_ok 5 (Val.rows p1.list) (i0 : Int) _ (by omega) (Val.rowsGet (getD_ok p1.list (Int.toNat (i0 : Int)) (Val.mk 0 0 (⟨#[]⟩ : ByteArray) [] []) (by omega))) rfl), hP 4 (inc_ok i0 (by omega))] [aN (rec x0 (szL hx0) (List.getD p1.list i0 (Val.mk 0 0 (⟨#[]⟩ : ByteArray) [] [])) (H.2.1 x0 (mem_get hx0)))] (by kernel_rfl) hr
def Z_Kc_b0_2 (p0 : Val) (p1 : Val) (i0 : Nat) (v0_1 : Int) (_x0 : Val) : List PV :=
  [.un, .un, .un, .un, .un, .un, .int .i64 (i0 : Int), .un, .un, .un, .un, .un, .un, .un, .un, .un, .un, .un, .un, .un, .un, .un, .un, .un, .un, .un, .un, .un, .un, .un, .un, .un, .un, .un, .un, .un, .un, .un, .un, .un, .un, .un, .un, .un, .un, .int .i64 (i0 : Int), .bx 0 3, .sl (Val.rows p0.list), .int .i64 ((List.length p0.list) : Int), .bool true, .bool true, .int .i64 (i0 : Int), .bx 1 3, .sl (Val.rows p1.list), .int .i64 ((List.length p1.list) : Int), .bool true, .bool true, .bool true, .int .i64 v0_1, .bool false, .bool false]
def ZO_Kc_b0_2 (_p0 : Val) (_p1 : Val) (_i0 : Nat) (_v0_1 : Int) (_x0 : Val) : List (Nat × List PV) :=
  []
theorem x_Kc_b0_2 (p0 : Val) (p1 : Val) (_H : H_Kc_b0 p0 p1) (_rec : Rec_Kc p0) (x0 : Val) (i0 : Nat) (v0_1 : Int) (_hx0 : p0.list[i0]? = some x0) (_hi0 : i0 < List.length p0.list) (hc0 : (decide ((i0 : Int) < ((List.length p0.list) : Int))) = true) (h0 : (decide ((i0 : Int) < ((List.length p1.list) : Int))) = true) (h1 : (v0_1 == 0) = false) : P_Kc_b0 p0 p1 (E_Kc_b0 p0 p1 i0 v0_1) v0_1 := by
  exact ⟨(envF (Z_Kc_b0_2 p0 p1 i0 v0_1 x0)), (zoF (ZO_Kc_b0_2 p0 p1 i0 v0_1 x0)), tells_outVI VOK.nil (x := ((.exit 0), S_Kc_b0_0 p0 p1 v0_1 (envF (Z_Kc_b0_2 p0 p1 i0 v0_1 x0)) (zoF (ZO_Kc_b0_2 p0 p1 i0 v0_1 x0)))) [hP 3 (len_ok (Val.rows p0.list) (List.length p0.list) (Val.rowsLen p0.list)), hB 0 hc0, hP 4 (len_ok (Val.rows p1.list) (List.length p1.list) (Val.rowsLen p1.list)), hB 0 h0, hB 3 h1] [] (by kernel_rfl)⟩
def Z_Kc_b0_3 (p0 : Val) (p1 : Val) (i0 : Nat) (_v0_1 : Int) (_x0 : Val) : List PV :=
  [.un, .un, .un, .un, .un, .un, .int .i64 (i0 : Int), .un, .un, .un, .un, .un, .un, .un, .un, .un, .un, .un, .un, .un, .un, .un, .un, .un, .un, .un, .un, .un, .un, .un, .un, .un, .un, .un, .un, .un, .un, .un, .un, .un, .un, .un, .un, .un, .un, .int .i64 (i0 : Int), .bx 0 3, .sl (Val.rows p0.list), .int .i64 ((List.length p0.list) : Int), .bool true, .bool true, .int .i64 (i0 : Int), .bx 1 3, .sl (Val.rows p1.list), .int .i64 ((List.length p1.list) : Int), .bool false, .bool false, .bool false, .tup [], .tup [], .bool false]
def ZO_Kc_b0_3 (_p0 : Val) (_p1 : Val) (_i0 : Nat) (_v0_1 : Int) (_x0 : Val) : List (Nat × List PV) :=
  []
theorem x_Kc_b0_3 (p0 : Val) (p1 : Val) (_H : H_Kc_b0 p0 p1) (_rec : Rec_Kc p0) (x0 : Val) (i0 : Nat) (v0_1 : Int) (_hx0 : p0.list[i0]? = some x0) (_hi0 : i0 < List.length p0.list) (hc0 : (decide ((i0 : Int) < ((List.length p0.list) : Int))) = true) (h0 : (decide ((i0 : Int) < ((List.length p1.list) : Int))) = false) : P_Kc_b0 p0 p1 (E_Kc_b0 p0 p1 i0 v0_1) v0_1 := by
  exact ⟨(envF (Z_Kc_b0_3 p0 p1 i0 v0_1 x0)), (zoF (ZO_Kc_b0_3 p0 p1 i0 v0_1 x0)), tells_outVI VOK.nil (x := ((.exit 0), S_Kc_b0_0 p0 p1 v0_1 (envF (Z_Kc_b0_3 p0 p1 i0 v0_1 x0)) (zoF (ZO_Kc_b0_3 p0 p1 i0 v0_1 x0)))) [hP 3 (len_ok (Val.rows p0.list) (List.length p0.list) (Val.rowsLen p0.list)), hB 0 hc0, hP 4 (len_ok (Val.rows p1.list) (List.length p1.list) (Val.rowsLen p1.list)), hB 0 h0] [] (by kernel_rfl)⟩
theorem lt_Kc_b0 (p0 : Val) (p1 : Val) (H : H_Kc_b0 p0 p1) (rec : Rec_Kc p0) : ∀ (r0 : List Val) (i0 : Nat) (v0_1 : Int), List.drop i0 p0.list = r0 → P_Kc_b0 p0 p1 (E_Kc_b0 p0 p1 i0 v0_1) (l_Kc_b0 p0 p1 r0 i0 v0_1)
  | [], i0, v0_1, hd => by
    have hc0 : (decide ((i0 : Int) < ((List.length p0.list) : Int))) = false := by have := drop_end hd; simp; omega
    rw [l_Kc_b0]
    exact x_Kc_b0_0 p0 p1 H rec i0 v0_1 hc0
  | x0 :: r0, i0, v0_1, hd => by
    obtain ⟨hx0, hi0, hd'⟩ := drop_get hd
    have hc0 : (decide ((i0 : Int) < ((List.length p0.list) : Int))) = true := by simp; omega
    rw [l_Kc_b0]
    cases h0 : (decide ((i0 : Int) < ((List.length p1.list) : Int))) with
    | true =>
     cases h1 : (v0_1 == 0) with
     | true =>
      exact P_Kc_b0_mono p0 p1 (fun r hr => n_Kc_b0_1 p0 p1 H rec x0 i0 v0_1 hx0 hi0 hc0 h0 h1 hr) _ (lt_Kc_b0 p0 p1 H rec r0 (i0 + 1) (s_Kc x0 (List.getD p1.list i0 (Val.mk 0 0 (⟨#[]⟩ : ByteArray) [] []))) hd')
     | false =>
      exact x_Kc_b0_2 p0 p1 H rec x0 i0 v0_1 hx0 hi0 hc0 h0 h1
    | false =>
     exact x_Kc_b0_3 p0 p1 H rec x0 i0 v0_1 hx0 hi0 hc0 h0
def Z_Kc_b1_0 (p0 : Val) (_p1 : Val) (i1 : Nat) (_v1_1 : Int) : List PV :=
  [.un, .un, .un, .un, .un, .un, .un, .int .i64 (i1 : Int), .un, .un, .un, .un, .un, .un, .un, .un, .un, .un, .un, .un, .un, .un, .un, .un, .un, .un, .un, .un, .un, .un, .un, .un, .un, .un, .un, .un, .un, .un, .un, .un, .un, .un, .un, .un, .un, .un, .un, .un, .un, .un, .un, .un, .un, .un, .un, .un, .un, .un, .un, .un, .un, .un, .un, .un, .un, .un, .un, .un, .un, .un, .un, .un, .un, .un, .un, .un, .un, .un, .un, .un, .un, .un, .un, .un, .un, .un, .un, .un, .un, .un, .un, .int .i64 (i1 : Int), .bx 0 4, .sl (Fld.rows p0.fields), .int .i64 ((List.length p0.fields) : Int), .bool false, .bool false, .tup [], .tup [], .tup [], .tup [], .tup [], .bool false, .bool false, .tup [], .tup [], .bool false]
def ZO_Kc_b1_0 (_p0 : Val) (_p1 : Val) (_i1 : Nat) (_v1_1 : Int) : List (Nat × List PV) :=
  []
theorem x_Kc_b1_0 (p0 : Val) (p1 : Val) (_H : H_Kc_b1 p0 p1) (_rec : Rec_Kc p0) (i1 : Nat) (v1_1 : Int) (hc1 : (decide ((i1 : Int) < ((List.length p0.fields) : Int))) = false) : P_Kc_b1 p0 p1 (E_Kc_b1 p0 p1 i1 v1_1) v1_1 := by
  exact ⟨(envF (Z_Kc_b1_0 p0 p1 i1 v1_1)), (zoF (ZO_Kc_b1_0 p0 p1 i1 v1_1)), tells_outVI VOK.nil (x := ((.exit 2), S_Kc_b1_0 p0 p1 v1_1 (envF (Z_Kc_b1_0 p0 p1 i1 v1_1)) (zoF (ZO_Kc_b1_0 p0 p1 i1 v1_1)))) [hP 3 (len_ok (Fld.rows p0.fields) (List.length p0.fields) (Fld.rowsLen p0.fields)), hB 0 hc1] [] (by kernel_rfl)⟩
theorem n_Kc_b1_1 (p0 : Val) (p1 : Val) (H : H_Kc_b1 p0 p1) (rec : Rec_Kc p0) (x1 : Fld) (i1 : Nat) (v1_1 : Int) (hx1 : p0.fields[i1]? = some x1) (hi1 : i1 < List.length p0.fields) (hc1 : (decide ((i1 : Int) < ((List.length p0.fields) : Int))) = true) (h0 : (decide ((i1 : Int) < ((List.length p1.fields) : Int))) = true) (h1 : (v1_1 == 0) = true) (h2 : ((s_Kt (sLt x1.name (List.getD p1.fields i1 (Fld.mk (⟨#[]⟩ : ByteArray) (Val.mk 0 0 (⟨#[]⟩ : ByteArray) [] []))).name) (!((sLt x1.name (List.getD p1.fields i1 (Fld.mk (⟨#[]⟩ : ByteArray) (Val.mk 0 0 (⟨#[]⟩ : ByteArray) [] []))).name) || (sEq x1.name (List.getD p1.fields i1 (Fld.mk (⟨#[]⟩ : ByteArray) (Val.mk 0 0 (⟨#[]⟩ : ByteArray) [] []))).name)))) == 0) = true) {r : Rs} (hr : Tells G (E_Kc_b1 p0 p1 (i1 + 1) (s_Kc x1.v (List.getD p1.fields i1 (Fld.mk (⟨#[]⟩ : ByteArray) (Val.mk 0 0 (⟨#[]⟩ : ByteArray) [] []))).v)) r) : Tells G (E_Kc_b1 p0 p1 i1 v1_1) r := by
  have hB0 := H.1; have e0 := of_decide_eq_true h0; have e1 := eq_of_beq h1; have e2 := eq_of_beq h2
  exact tells_nextVI VOK.nil (y := (HE_Kc_b1 p0 p1 (i1 + 1) (s_Kc x1.v (List.getD p1.fields i1 (Fld.mk (⟨#[]⟩ : ByteArray) (Val.mk 0 0 (⟨#[]⟩ : ByteArray) [] []))).v), HO_Kc_b1 p0 p1 (i1 + 1) (s_Kc x1.v (List.getD p1.fields i1 (Fld.mk (⟨#[]⟩ : ByteArray) (Val.mk 0 0 (⟨#[]⟩ : ByteArray) [] []))).v))) [hP 3 (len_ok (Fld.rows p0.fields) (List.length p0.fields) (Fld.rowsLen p0.fields)), hB 0 hc1, hP 4 (len_ok (Fld.rows p1.fields) (List.length p1.fields) (Fld.rowsLen p1.fields)), hB 0 h0, hB 3 h1, hP 4 (ix_ok 6 (Fld.rows p0.fields) i1 _ (Fld.rowsGet hx1) rfl), hP 5 (ixI_ok 6 (Fld.rows p1.fields) (i1 : Int) _ (by omega) (Fld.rowsGet (getD_ok p1.fields (Int.toNat (i1 : Int)) (Fld.mk (⟨#[]⟩ : ByteArray) (Val.mk 0 0 (⟨#[]⟩ : ByteArray) [] [])) (by omega))) rfl), hP 6 (ix_ok 6 (Fld.rows p0.fields) i1 _ (Fld.rowsGet hx1) rfl), hP 5 (ixI_ok 6 (Fld.rows p1.fields) (i1 : Int) _ (by omega) (Fld.rowsGet (getD_ok p1.fields (Int.toNat (i1 : Int)) (Fld.mk (⟨#[]⟩ : ByteArray) (Val.mk 0 0 (⟨#[]⟩ : ByteArray) [] [])) (by omega))) rfl), hB 6 h2, hP 3 (ix_ok 6 (Fld.rows p0.fields) i1 _ (Fld.rowsGet hx1) rfl), hP 5 (ixI_ok 6 (Fld.rows p1.fields) (i1 : Int) _ (by omega) (Fld.rowsGet (getD_ok p1.fields (Int.toNat (i1 : Int)) (Fld.mk (⟨#[]⟩ : ByteArray) (Val.mk 0 0 (⟨#[]⟩ : ByteArray) [] [])) (by omega))) rfl), hP 5 (inc_ok i1 (by omega))] [aN (t_Kt (sLt x1.name (List.getD p1.fields i1 (Fld.mk (⟨#[]⟩ : ByteArray) (Val.mk 0 0 (⟨#[]⟩ : ByteArray) [] []))).name) (!((sLt x1.name (List.getD p1.fields i1 (Fld.mk (⟨#[]⟩ : ByteArray) (Val.mk 0 0 (⟨#[]⟩ : ByteArray) [] []))).name) || (sEq x1.name (List.getD p1.fields i1 (Fld.mk (⟨#[]⟩ : ByteArray) (Val.mk 0 0 (⟨#[]⟩ : ByteArray) [] []))).name)))), aN (rec x1.v (szF hx1) (List.getD p1.fields i1 (Fld.mk (⟨#[]⟩ : ByteArray) (Val.mk 0 0 (⟨#[]⟩ : ByteArray) [] []))).v (H.2.1 x1 (mem_get hx1)))] (by kernel_rfl) hr
theorem n_Kc_b1_2 (p0 : Val) (p1 : Val) (H : H_Kc_b1 p0 p1) (_rec : Rec_Kc p0) (x1 : Fld) (i1 : Nat) (v1_1 : Int) (hx1 : p0.fields[i1]? = some x1) (hi1 : i1 < List.length p0.fields) (hc1 : (decide ((i1 : Int) < ((List.length p0.fields) : Int))) = true) (h0 : (decide ((i1 : Int) < ((List.length p1.fields) : Int))) = true) (h1 : (v1_1 == 0) = true) (h2 : ((s_Kt (sLt x1.name (List.getD p1.fields i1 (Fld.mk (⟨#[]⟩ : ByteArray) (Val.mk 0 0 (⟨#[]⟩ : ByteArray) [] []))).name) (!((sLt x1.name (List.getD p1.fields i1 (Fld.mk (⟨#[]⟩ : ByteArray) (Val.mk 0 0 (⟨#[]⟩ : ByteArray) [] []))).name) || (sEq x1.name (List.getD p1.fields i1 (Fld.mk (⟨#[]⟩ : ByteArray) (Val.mk 0 0 (⟨#[]⟩ : ByteArray) [] []))).name)))) == 0) = false) {r : Rs} (hr : Tells G (E_Kc_b1 p0 p1 (i1 + 1) (s_Kt (sLt x1.name (List.getD p1.fields i1 (Fld.mk (⟨#[]⟩ : ByteArray) (Val.mk 0 0 (⟨#[]⟩ : ByteArray) [] []))).name) (!((sLt x1.name (List.getD p1.fields i1 (Fld.mk (⟨#[]⟩ : ByteArray) (Val.mk 0 0 (⟨#[]⟩ : ByteArray) [] []))).name) || (sEq x1.name (List.getD p1.fields i1 (Fld.mk (⟨#[]⟩ : ByteArray) (Val.mk 0 0 (⟨#[]⟩ : ByteArray) [] []))).name))))) r) : Tells G (E_Kc_b1 p0 p1 i1 v1_1) r := by
  have hB0 := H.1; have e0 := of_decide_eq_true h0; have e1 := eq_of_beq h1; have e2 := beq_eq_false_iff_ne.1 h2
  exact tells_nextVI VOK.nil (y := (HE_Kc_b1 p0 p1 (i1 + 1) (s_Kt (sLt x1.name (List.getD p1.fields i1 (Fld.mk (⟨#[]⟩ : ByteArray) (Val.mk 0 0 (⟨#[]⟩ : ByteArray) [] []))).name) (!((sLt x1.name (List.getD p1.fields i1 (Fld.mk (⟨#[]⟩ : ByteArray) (Val.mk 0 0 (⟨#[]⟩ : ByteArray) [] []))).name) || (sEq x1.name (List.getD p1.fields i1 (Fld.mk (⟨#[]⟩ : ByteArray) (Val.mk 0 0 (⟨#[]⟩ : ByteArray) [] []))).name)))), HO_Kc_b1 p0 p1 (i1 + 1) (s_Kt (sLt x1.name (List.getD p1.fields i1 (Fld.mk (⟨#[]⟩ : ByteArray) (Val.mk 0 0 (⟨#[]⟩ : ByteArray) [] []))).name) (!((sLt x1.name (List.getD p1.fields i1 (Fld.mk (⟨#[]⟩ : ByteArray) (Val.mk 0 0 (⟨#[]⟩ : ByteArray) [] []))).name) || (sEq x1.name (List.getD p1.fields i1 (Fld.mk (⟨#[]⟩ : ByteArray) (Val.mk 0 0 (⟨#[]⟩ : ByteArray) [] []))).name)))))) [hP 3 (len_ok (Fld.rows p0.fields) (List.length p0.fields) (Fld.rowsLen p0.fields)), hB 0 hc1, hP 4 (len_ok (Fld.rows p1.fields) (List.length p1.fields) (Fld.rowsLen p1.fields)), hB 0 h0, hB 3 h1, hP 4 (ix_ok 6 (Fld.rows p0.fields) i1 _ (Fld.rowsGet hx1) rfl), hP 5 (ixI_ok 6 (Fld.rows p1.fields) (i1 : Int) _ (by omega) (Fld.rowsGet (getD_ok p1.fields (Int.toNat (i1 : Int)) (Fld.mk (⟨#[]⟩ : ByteArray) (Val.mk 0 0 (⟨#[]⟩ : ByteArray) [] [])) (by omega))) rfl), hP 6 (ix_ok 6 (Fld.rows p0.fields) i1 _ (Fld.rowsGet hx1) rfl), hP 5 (ixI_ok 6 (Fld.rows p1.fields) (i1 : Int) _ (by omega) (Fld.rowsGet (getD_ok p1.fields (Int.toNat (i1 : Int)) (Fld.mk (⟨#[]⟩ : ByteArray) (Val.mk 0 0 (⟨#[]⟩ : ByteArray) [] [])) (by omega))) rfl), hB 6 h2, hP 1 (inc_ok i1 (by omega))] [aN (t_Kt (sLt x1.name (List.getD p1.fields i1 (Fld.mk (⟨#[]⟩ : ByteArray) (Val.mk 0 0 (⟨#[]⟩ : ByteArray) [] []))).name) (!((sLt x1.name (List.getD p1.fields i1 (Fld.mk (⟨#[]⟩ : ByteArray) (Val.mk 0 0 (⟨#[]⟩ : ByteArray) [] []))).name) || (sEq x1.name (List.getD p1.fields i1 (Fld.mk (⟨#[]⟩ : ByteArray) (Val.mk 0 0 (⟨#[]⟩ : ByteArray) [] []))).name))))] (by kernel_rfl) hr
def Z_Kc_b1_3 (p0 : Val) (p1 : Val) (i1 : Nat) (v1_1 : Int) (_x1 : Fld) : List PV :=
  [.un, .un, .un, .un, .un, .un, .un, .int .i64 (i1 : Int), .un, .un, .un, .un, .un, .un, .un, .un, .un, .un, .un, .un, .un, .un, .un, .un, .un, .un, .un, .un, .un, .un, .un, .un, .un, .un, .un, .un, .un, .un, .un, .un, .un, .un, .un, .un, .un, .un, .un, .un, .un, .un, .un, .un, .un, .un, .un, .un, .un, .un, .un, .un, .un, .un, .un, .un, .un, .un, .un, .un, .un, .un, .un, .un, .un, .un, .un, .un, .un, .un, .un, .un, .un, .un, .un, .un, .un, .un, .un, .un, .un, .un, .un, .int .i64 (i1 : Int), .bx 0 4, .sl (Fld.rows p0.fields), .int .i64 ((List.length p0.fields) : Int), .bool true, .bool true, .int .i64 (i1 : Int), .bx 1 4, .sl (Fld.rows p1.fields), .int .i64 ((List.length p1.fields) : Int), .bool true, .bool true, .bool true, .int .i64 v1_1, .bool false, .bool false]
def ZO_Kc_b1_3 (_p0 : Val) (_p1 : Val) (_i1 : Nat) (_v1_1 : Int) (_x1 : Fld) : List (Nat × List PV) :=
  []
theorem x_Kc_b1_3 (p0 : Val) (p1 : Val) (_H : H_Kc_b1 p0 p1) (_rec : Rec_Kc p0) (x1 : Fld) (i1 : Nat) (v1_1 : Int) (_hx1 : p0.fields[i1]? = some x1) (_hi1 : i1 < List.length p0.fields) (hc1 : (decide ((i1 : Int) < ((List.length p0.fields) : Int))) = true) (h0 : (decide ((i1 : Int) < ((List.length p1.fields) : Int))) = true) (h1 : (v1_1 == 0) = false) : P_Kc_b1 p0 p1 (E_Kc_b1 p0 p1 i1 v1_1) v1_1 := by
  exact ⟨(envF (Z_Kc_b1_3 p0 p1 i1 v1_1 x1)), (zoF (ZO_Kc_b1_3 p0 p1 i1 v1_1 x1)), tells_outVI VOK.nil (x := ((.exit 2), S_Kc_b1_0 p0 p1 v1_1 (envF (Z_Kc_b1_3 p0 p1 i1 v1_1 x1)) (zoF (ZO_Kc_b1_3 p0 p1 i1 v1_1 x1)))) [hP 3 (len_ok (Fld.rows p0.fields) (List.length p0.fields) (Fld.rowsLen p0.fields)), hB 0 hc1, hP 4 (len_ok (Fld.rows p1.fields) (List.length p1.fields) (Fld.rowsLen p1.fields)), hB 0 h0, hB 3 h1] [] (by kernel_rfl)⟩
def Z_Kc_b1_4 (p0 : Val) (p1 : Val) (i1 : Nat) (_v1_1 : Int) (_x1 : Fld) : List PV :=
  [.un, .un, .un, .un, .un, .un, .un, .int .i64 (i1 : Int), .un, .un, .un, .un, .un, .un, .un, .un, .un, .un, .un, .un, .un, .un, .un, .un, .un, .un, .un, .un, .un, .un, .un, .un, .un, .un, .un, .un, .un, .un, .un, .un, .un, .un, .un, .un, .un, .un, .un, .un, .un, .un, .un, .un, .un, .un, .un, .un, .un, .un, .un, .un, .un, .un, .un, .un, .un, .un, .un, .un, .un, .un, .un, .un, .un, .un, .un, .un, .un, .un, .un, .un, .un, .un, .un, .un, .un, .un, .un, .un, .un, .un, .un, .int .i64 (i1 : Int), .bx 0 4, .sl (Fld.rows p0.fields), .int .i64 ((List.length p0.fields) : Int), .bool true, .bool true, .int .i64 (i1 : Int), .bx 1 4, .sl (Fld.rows p1.fields), .int .i64 ((List.length p1.fields) : Int), .bool false, .bool false, .bool false, .tup [], .tup [], .bool false]
def ZO_Kc_b1_4 (_p0 : Val) (_p1 : Val) (_i1 : Nat) (_v1_1 : Int) (_x1 : Fld) : List (Nat × List PV) :=
  []
theorem x_Kc_b1_4 (p0 : Val) (p1 : Val) (_H : H_Kc_b1 p0 p1) (_rec : Rec_Kc p0) (x1 : Fld) (i1 : Nat) (v1_1 : Int) (_hx1 : p0.fields[i1]? = some x1) (_hi1 : i1 < List.length p0.fields) (hc1 : (decide ((i1 : Int) < ((List.length p0.fields) : Int))) = true) (h0 : (decide ((i1 : Int) < ((List.length p1.fields) : Int))) = false) : P_Kc_b1 p0 p1 (E_Kc_b1 p0 p1 i1 v1_1) v1_1 := by
  exact ⟨(envF (Z_Kc_b1_4 p0 p1 i1 v1_1 x1)), (zoF (ZO_Kc_b1_4 p0 p1 i1 v1_1 x1)), tells_outVI VOK.nil (x := ((.exit 2), S_Kc_b1_0 p0 p1 v1_1 (envF (Z_Kc_b1_4 p0 p1 i1 v1_1 x1)) (zoF (ZO_Kc_b1_4 p0 p1 i1 v1_1 x1)))) [hP 3 (len_ok (Fld.rows p0.fields) (List.length p0.fields) (Fld.rowsLen p0.fields)), hB 0 hc1, hP 4 (len_ok (Fld.rows p1.fields) (List.length p1.fields) (Fld.rowsLen p1.fields)), hB 0 h0] [] (by kernel_rfl)⟩
theorem lt_Kc_b1 (p0 : Val) (p1 : Val) (H : H_Kc_b1 p0 p1) (rec : Rec_Kc p0) : ∀ (r1 : List Fld) (i1 : Nat) (v1_1 : Int), List.drop i1 p0.fields = r1 → P_Kc_b1 p0 p1 (E_Kc_b1 p0 p1 i1 v1_1) (l_Kc_b1 p0 p1 r1 i1 v1_1)
  | [], i1, v1_1, hd => by
    have hc1 : (decide ((i1 : Int) < ((List.length p0.fields) : Int))) = false := by have := drop_end hd; simp; omega
    rw [l_Kc_b1]
    exact x_Kc_b1_0 p0 p1 H rec i1 v1_1 hc1
  | x1 :: r1, i1, v1_1, hd => by
    obtain ⟨hx1, hi1, hd'⟩ := drop_get hd
    have hc1 : (decide ((i1 : Int) < ((List.length p0.fields) : Int))) = true := by simp; omega
    rw [l_Kc_b1]
    cases h0 : (decide ((i1 : Int) < ((List.length p1.fields) : Int))) with
    | true =>
     cases h1 : (v1_1 == 0) with
     | true =>
      cases h2 : ((s_Kt (sLt x1.name (List.getD p1.fields i1 (Fld.mk (⟨#[]⟩ : ByteArray) (Val.mk 0 0 (⟨#[]⟩ : ByteArray) [] []))).name) (!((sLt x1.name (List.getD p1.fields i1 (Fld.mk (⟨#[]⟩ : ByteArray) (Val.mk 0 0 (⟨#[]⟩ : ByteArray) [] []))).name) || (sEq x1.name (List.getD p1.fields i1 (Fld.mk (⟨#[]⟩ : ByteArray) (Val.mk 0 0 (⟨#[]⟩ : ByteArray) [] []))).name)))) == 0) with
      | true =>
       exact P_Kc_b1_mono p0 p1 (fun r hr => n_Kc_b1_1 p0 p1 H rec x1 i1 v1_1 hx1 hi1 hc1 h0 h1 h2 hr) _ (lt_Kc_b1 p0 p1 H rec r1 (i1 + 1) (s_Kc x1.v (List.getD p1.fields i1 (Fld.mk (⟨#[]⟩ : ByteArray) (Val.mk 0 0 (⟨#[]⟩ : ByteArray) [] []))).v) hd')
      | false =>
       exact P_Kc_b1_mono p0 p1 (fun r hr => n_Kc_b1_2 p0 p1 H rec x1 i1 v1_1 hx1 hi1 hc1 h0 h1 h2 hr) _ (lt_Kc_b1 p0 p1 H rec r1 (i1 + 1) (s_Kt (sLt x1.name (List.getD p1.fields i1 (Fld.mk (⟨#[]⟩ : ByteArray) (Val.mk 0 0 (⟨#[]⟩ : ByteArray) [] []))).name) (!((sLt x1.name (List.getD p1.fields i1 (Fld.mk (⟨#[]⟩ : ByteArray) (Val.mk 0 0 (⟨#[]⟩ : ByteArray) [] []))).name) || (sEq x1.name (List.getD p1.fields i1 (Fld.mk (⟨#[]⟩ : ByteArray) (Val.mk 0 0 (⟨#[]⟩ : ByteArray) [] []))).name)))) hd')
     | false =>
      exact x_Kc_b1_3 p0 p1 H rec x1 i1 v1_1 hx1 hi1 hc1 h0 h1
    | false =>
     exact x_Kc_b1_4 p0 p1 H rec x1 i1 v1_1 hx1 hi1 hc1 h0
theorem t_Kc_0 (p0 : Val) (p1 : Val) (_H : H_Kc p0) (_rec : Rec_Kc p0) (h0 : ((s_Kt (decide (p0.kind < p1.kind)) (decide (p1.kind < p0.kind))) == 0) = true) (h1 : ((s_Kt (decide (p0.n < p1.n)) (decide (p1.n < p0.n))) == 0) = true) (z2 : Nat → PV) (zo2 : Nat → List PV) (hl2 : Tells G (E_Kc_b0 p0 p1 0 (s_Kt (sLt p0.s p1.s) (!((sLt p0.s p1.s) || (sEq p0.s p1.s))))) (.st (.exit 0) (S_Kc_b0_0 p0 p1 (l_Kc_b0 p0 p1 p0.list 0 (s_Kt (sLt p0.s p1.s) (!((sLt p0.s p1.s) || (sEq p0.s p1.s))))) z2 zo2))) (h2 : ((l_Kc_b0 p0 p1 p0.list 0 (s_Kt (sLt p0.s p1.s) (!((sLt p0.s p1.s) || (sEq p0.s p1.s))))) == 0) = true) (z4 : Nat → PV) (zo4 : Nat → List PV) (hl4 : Tells G (E_Kc_b1 p0 p1 0 (s_Kt (decide (((List.length p0.list) : Int) < ((List.length p1.list) : Int))) (decide (((List.length p1.list) : Int) < ((List.length p0.list) : Int))))) (.st (.exit 2) (S_Kc_b1_0 p0 p1 (l_Kc_b1 p0 p1 p0.fields 0 (s_Kt (decide (((List.length p0.list) : Int) < ((List.length p1.list) : Int))) (decide (((List.length p1.list) : Int) < ((List.length p0.list) : Int))))) z4 zo4))) : Tells G (c_Kc p0 p1) (.ret (.int .i64 (bif ((l_Kc_b1 p0 p1 p0.fields 0 (s_Kt (decide (((List.length p0.list) : Int) < ((List.length p1.list) : Int))) (decide (((List.length p1.list) : Int) < ((List.length p0.list) : Int))))) == 0) then
    (s_Kt (decide (((List.length p0.fields) : Int) < ((List.length p1.fields) : Int))) (decide (((List.length p1.fields) : Int) < ((List.length p0.fields) : Int))))
  else
    (l_Kc_b1 p0 p1 p0.fields 0 (s_Kt (decide (((List.length p0.list) : Int) < ((List.length p1.list) : Int))) (decide (((List.length p1.list) : Int) < ((List.length p0.list) : Int))))))) []) := by
  cases h3 : ((l_Kc_b1 p0 p1 p0.fields 0 (s_Kt (decide (((List.length p0.list) : Int) < ((List.length p1.list) : Int))) (decide (((List.length p1.list) : Int) < ((List.length p0.list) : Int))))) == 0) with
  | true =>
   exact tells_VI (fn := Ir.Kc) rfl VOK.nil [hB 16 h0, hB 13 h1, hB 14 h2, hP 2 (len_ok (Val.rows p0.list) (List.length p0.list) (Val.rowsLen p0.list)), hP 2 (len_ok (Val.rows p1.list) (List.length p1.list) (Val.rowsLen p1.list)), hP 3 (len_ok (Val.rows p0.list) (List.length p0.list) (Val.rowsLen p0.list)), hP 2 (len_ok (Val.rows p1.list) (List.length p1.list) (Val.rowsLen p1.list)), hB 5 h3, hP 2 (len_ok (Fld.rows p0.fields) (List.length p0.fields) (Fld.rowsLen p0.fields)), hP 2 (len_ok (Fld.rows p1.fields) (List.length p1.fields) (Fld.rowsLen p1.fields)), hP 3 (len_ok (Fld.rows p0.fields) (List.length p0.fields) (Fld.rowsLen p0.fields)), hP 2 (len_ok (Fld.rows p1.fields) (List.length p1.fields) (Fld.rowsLen p1.fields))] [aN (t_Kt (decide (p0.kind < p1.kind)) (decide (p1.kind < p0.kind))), aN (t_Kt (decide (p0.n < p1.n)) (decide (p1.n < p0.n))), aN (t_Kt (sLt p0.s p1.s) (!((sLt p0.s p1.s) || (sEq p0.s p1.s)))), aN hl2, aN (t_Kt (decide (((List.length p0.list) : Int) < ((List.length p1.list) : Int))) (decide (((List.length p1.list) : Int) < ((List.length p0.list) : Int)))), aN hl4, aN (t_Kt (decide (((List.length p0.fields) : Int) < ((List.length p1.fields) : Int))) (decide (((List.length p1.fields) : Int) < ((List.length p0.fields) : Int))))] (by kernel_rfl)
  | false =>
   exact tells_VI (fn := Ir.Kc) rfl VOK.nil [hB 16 h0, hB 13 h1, hB 14 h2, hP 2 (len_ok (Val.rows p0.list) (List.length p0.list) (Val.rowsLen p0.list)), hP 2 (len_ok (Val.rows p1.list) (List.length p1.list) (Val.rowsLen p1.list)), hP 3 (len_ok (Val.rows p0.list) (List.length p0.list) (Val.rowsLen p0.list)), hP 2 (len_ok (Val.rows p1.list) (List.length p1.list) (Val.rowsLen p1.list)), hB 5 h3] [aN (t_Kt (decide (p0.kind < p1.kind)) (decide (p1.kind < p0.kind))), aN (t_Kt (decide (p0.n < p1.n)) (decide (p1.n < p0.n))), aN (t_Kt (sLt p0.s p1.s) (!((sLt p0.s p1.s) || (sEq p0.s p1.s)))), aN hl2, aN (t_Kt (decide (((List.length p0.list) : Int) < ((List.length p1.list) : Int))) (decide (((List.length p1.list) : Int) < ((List.length p0.list) : Int)))), aN hl4] (by kernel_rfl)
theorem t_Kc_1 (p0 : Val) (p1 : Val) (_H : H_Kc p0) (_rec : Rec_Kc p0) (h0 : ((s_Kt (decide (p0.kind < p1.kind)) (decide (p1.kind < p0.kind))) == 0) = true) (h1 : ((s_Kt (decide (p0.n < p1.n)) (decide (p1.n < p0.n))) == 0) = true) (z2 : Nat → PV) (zo2 : Nat → List PV) (hl2 : Tells G (E_Kc_b0 p0 p1 0 (s_Kt (sLt p0.s p1.s) (!((sLt p0.s p1.s) || (sEq p0.s p1.s))))) (.st (.exit 0) (S_Kc_b0_0 p0 p1 (l_Kc_b0 p0 p1 p0.list 0 (s_Kt (sLt p0.s p1.s) (!((sLt p0.s p1.s) || (sEq p0.s p1.s))))) z2 zo2))) (h2 : ((l_Kc_b0 p0 p1 p0.list 0 (s_Kt (sLt p0.s p1.s) (!((sLt p0.s p1.s) || (sEq p0.s p1.s))))) == 0) = false) (z4 : Nat → PV) (zo4 : Nat → List PV) (hl4 : Tells G (E_Kc_b1 p0 p1 0 (l_Kc_b0 p0 p1 p0.list 0 (s_Kt (sLt p0.s p1.s) (!((sLt p0.s p1.s) || (sEq p0.s p1.s)))))) (.st (.exit 2) (S_Kc_b1_0 p0 p1 (l_Kc_b1 p0 p1 p0.fields 0 (l_Kc_b0 p0 p1 p0.list 0 (s_Kt (sLt p0.s p1.s) (!((sLt p0.s p1.s) || (sEq p0.s p1.s)))))) z4 zo4))) : Tells G (c_Kc p0 p1) (.ret (.int .i64 (bif ((l_Kc_b1 p0 p1 p0.fields 0 (l_Kc_b0 p0 p1 p0.list 0 (s_Kt (sLt p0.s p1.s) (!((sLt p0.s p1.s) || (sEq p0.s p1.s)))))) == 0) then
    (s_Kt (decide (((List.length p0.fields) : Int) < ((List.length p1.fields) : Int))) (decide (((List.length p1.fields) : Int) < ((List.length p0.fields) : Int))))
  else
    (l_Kc_b1 p0 p1 p0.fields 0 (l_Kc_b0 p0 p1 p0.list 0 (s_Kt (sLt p0.s p1.s) (!((sLt p0.s p1.s) || (sEq p0.s p1.s)))))))) []) := by
  cases h3 : ((l_Kc_b1 p0 p1 p0.fields 0 (l_Kc_b0 p0 p1 p0.list 0 (s_Kt (sLt p0.s p1.s) (!((sLt p0.s p1.s) || (sEq p0.s p1.s)))))) == 0) with
  | true =>
   exact tells_VI (fn := Ir.Kc) rfl VOK.nil [hB 16 h0, hB 13 h1, hB 14 h2, hB 2 h3, hP 2 (len_ok (Fld.rows p0.fields) (List.length p0.fields) (Fld.rowsLen p0.fields)), hP 2 (len_ok (Fld.rows p1.fields) (List.length p1.fields) (Fld.rowsLen p1.fields)), hP 3 (len_ok (Fld.rows p0.fields) (List.length p0.fields) (Fld.rowsLen p0.fields)), hP 2 (len_ok (Fld.rows p1.fields) (List.length p1.fields) (Fld.rowsLen p1.fields))] [aN (t_Kt (decide (p0.kind < p1.kind)) (decide (p1.kind < p0.kind))), aN (t_Kt (decide (p0.n < p1.n)) (decide (p1.n < p0.n))), aN (t_Kt (sLt p0.s p1.s) (!((sLt p0.s p1.s) || (sEq p0.s p1.s)))), aN hl2, aN hl4, aN (t_Kt (decide (((List.length p0.fields) : Int) < ((List.length p1.fields) : Int))) (decide (((List.length p1.fields) : Int) < ((List.length p0.fields) : Int))))] (by kernel_rfl)
  | false =>
   exact tells_VI (fn := Ir.Kc) rfl VOK.nil [hB 16 h0, hB 13 h1, hB 14 h2, hB 2 h3] [aN (t_Kt (decide (p0.kind < p1.kind)) (decide (p1.kind < p0.kind))), aN (t_Kt (decide (p0.n < p1.n)) (decide (p1.n < p0.n))), aN (t_Kt (sLt p0.s p1.s) (!((sLt p0.s p1.s) || (sEq p0.s p1.s)))), aN hl2, aN hl4] (by kernel_rfl)
theorem t_Kc_2 (p0 : Val) (p1 : Val) (_H : H_Kc p0) (_rec : Rec_Kc p0) (h0 : ((s_Kt (decide (p0.kind < p1.kind)) (decide (p1.kind < p0.kind))) == 0) = true) (h1 : ((s_Kt (decide (p0.n < p1.n)) (decide (p1.n < p0.n))) == 0) = false) (z2 : Nat → PV) (zo2 : Nat → List PV) (hl2 : Tells G (E_Kc_b0 p0 p1 0 (s_Kt (decide (p0.n < p1.n)) (decide (p1.n < p0.n)))) (.st (.exit 0) (S_Kc_b0_0 p0 p1 (l_Kc_b0 p0 p1 p0.list 0 (s_Kt (decide (p0.n < p1.n)) (decide (p1.n < p0.n)))) z2 zo2))) (h2 : ((l_Kc_b0 p0 p1 p0.list 0 (s_Kt (decide (p0.n < p1.n)) (decide (p1.n < p0.n)))) == 0) = true) (z4 : Nat → PV) (zo4 : Nat → List PV) (hl4 : Tells G (E_Kc_b1 p0 p1 0 (s_Kt (decide (((List.length p0.list) : Int) < ((List.length p1.list) : Int))) (decide (((List.length p1.list) : Int) < ((List.length p0.list) : Int))))) (.st (.exit 2) (S_Kc_b1_0 p0 p1 (l_Kc_b1 p0 p1 p0.fields 0 (s_Kt (decide (((List.length p0.list) : Int) < ((List.length p1.list) : Int))) (decide (((List.length p1.list) : Int) < ((List.length p0.list) : Int))))) z4 zo4))) : Tells G (c_Kc p0 p1) (.ret (.int .i64 (bif ((l_Kc_b1 p0 p1 p0.fields 0 (s_Kt (decide (((List.length p0.list) : Int) < ((List.length p1.list) : Int))) (decide (((List.length p1.list) : Int) < ((List.length p0.list) : Int))))) == 0) then
    (s_Kt (decide (((List.length p0.fields) : Int) < ((List.length p1.fields) : Int))) (decide (((List.length p1.fields) : Int) < ((List.length p0.fields) : Int))))
  else
    (l_Kc_b1 p0 p1 p0.fields 0 (s_Kt (decide (((List.length p0.list) : Int) < ((List.length p1.list) : Int))) (decide (((List.length p1.list) : Int) < ((List.length p0.list) : Int))))))) []) := by
  cases h3 : ((l_Kc_b1 p0 p1 p0.fields 0 (s_Kt (decide (((List.length p0.list) : Int) < ((List.length p1.list) : Int))) (decide (((List.length p1.list) : Int) < ((List.length p0.list) : Int))))) == 0) with
  | true =>
   exact tells_VI (fn := Ir.Kc) rfl VOK.nil [hB 16 h0, hB 13 h1, hB 2 h2, hP 2 (len_ok (Val.rows p0.list) (List.length p0.list) (Val.rowsLen p0.list)), hP 2 (len_ok (Val.rows p1.list) (List.length p1.list) (Val.rowsLen p1.list)), hP 3 (len_ok (Val.rows p0.list) (List.length p0.list) (Val.rowsLen p0.list)), hP 2 (len_ok (Val.rows p1.list) (List.length p1.list) (Val.rowsLen p1.list)), hB 5 h3, hP 2 (len_ok (Fld.rows p0.fields) (List.length p0.fields) (Fld.rowsLen p0.fields)), hP 2 (len_ok (Fld.rows p1.fields) (List.length p1.fields) (Fld.rowsLen p1.fields)), hP 3 (len_ok (Fld.rows p0.fields) (List.length p0.fields) (Fld.rowsLen p0.fields)), hP 2 (len_ok (Fld.rows p1.fields) (List.length p1.fields) (Fld.rowsLen p1.fields))] [aN (t_Kt (decide (p0.kind < p1.kind)) (decide (p1.kind < p0.kind))), aN (t_Kt (decide (p0.n < p1.n)) (decide (p1.n < p0.n))), aN hl2, aN (t_Kt (decide (((List.length p0.list) : Int) < ((List.length p1.list) : Int))) (decide (((List.length p1.list) : Int) < ((List.length p0.list) : Int)))), aN hl4, aN (t_Kt (decide (((List.length p0.fields) : Int) < ((List.length p1.fields) : Int))) (decide (((List.length p1.fields) : Int) < ((List.length p0.fields) : Int))))] (by kernel_rfl)
  | false =>
   exact tells_VI (fn := Ir.Kc) rfl VOK.nil [hB 16 h0, hB 13 h1, hB 2 h2, hP 2 (len_ok (Val.rows p0.list) (List.length p0.list) (Val.rowsLen p0.list)), hP 2 (len_ok (Val.rows p1.list) (List.length p1.list) (Val.rowsLen p1.list)), hP 3 (len_ok (Val.rows p0.list) (List.length p0.list) (Val.rowsLen p0.list)), hP 2 (len_ok (Val.rows p1.list) (List.length p1.list) (Val.rowsLen p1.list)), hB 5 h3] [aN (t_Kt (decide (p0.kind < p1.kind)) (decide (p1.kind < p0.kind))), aN (t_Kt (decide (p0.n < p1.n)) (decide (p1.n < p0.n))), aN hl2, aN (t_Kt (decide (((List.length p0.list) : Int) < ((List.length p1.list) : Int))) (decide (((List.length p1.list) : Int) < ((List.length p0.list) : Int)))), aN hl4] (by kernel_rfl)
theorem t_Kc_3 (p0 : Val) (p1 : Val) (_H : H_Kc p0) (_rec : Rec_Kc p0) (h0 : ((s_Kt (decide (p0.kind < p1.kind)) (decide (p1.kind < p0.kind))) == 0) = true) (h1 : ((s_Kt (decide (p0.n < p1.n)) (decide (p1.n < p0.n))) == 0) = false) (z2 : Nat → PV) (zo2 : Nat → List PV) (hl2 : Tells G (E_Kc_b0 p0 p1 0 (s_Kt (decide (p0.n < p1.n)) (decide (p1.n < p0.n)))) (.st (.exit 0) (S_Kc_b0_0 p0 p1 (l_Kc_b0 p0 p1 p0.list 0 (s_Kt (decide (p0.n < p1.n)) (decide (p1.n < p0.n)))) z2 zo2))) (h2 : ((l_Kc_b0 p0 p1 p0.list 0 (s_Kt (decide (p0.n < p1.n)) (decide (p1.n < p0.n)))) == 0) = false) (z4 : Nat → PV) (zo4 : Nat → List PV) (hl4 : Tells G (E_Kc_b1 p0 p1 0 (l_Kc_b0 p0 p1 p0.list 0 (s_Kt (decide (p0.n < p1.n)) (decide (p1.n < p0.n))))) (.st (.exit 2) (S_Kc_b1_0 p0 p1 (l_Kc_b1 p0 p1 p0.fields 0 (l_Kc_b0 p0 p1 p0.list 0 (s_Kt (decide (p0.n < p1.n)) (decide (p1.n < p0.n))))) z4 zo4))) : Tells G (c_Kc p0 p1) (.ret (.int .i64 (bif ((l_Kc_b1 p0 p1 p0.fields 0 (l_Kc_b0 p0 p1 p0.list 0 (s_Kt (decide (p0.n < p1.n)) (decide (p1.n < p0.n))))) == 0) then
    (s_Kt (decide (((List.length p0.fields) : Int) < ((List.length p1.fields) : Int))) (decide (((List.length p1.fields) : Int) < ((List.length p0.fields) : Int))))
  else
    (l_Kc_b1 p0 p1 p0.fields 0 (l_Kc_b0 p0 p1 p0.list 0 (s_Kt (decide (p0.n < p1.n)) (decide (p1.n < p0.n))))))) []) := by
  cases h3 : ((l_Kc_b1 p0 p1 p0.fields 0 (l_Kc_b0 p0 p1 p0.list 0 (s_Kt (decide (p0.n < p1.n)) (decide (p1.n < p0.n))))) == 0) with
  | true =>
   exact tells_VI (fn := Ir.Kc) rfl VOK.nil [hB 16 h0, hB 13 h1, hB 2 h2, hB 2 h3, hP 2 (len_ok (Fld.rows p0.fields) (List.length p0.fields) (Fld.rowsLen p0.fields)), hP 2 (len_ok (Fld.rows p1.fields) (List.length p1.fields) (Fld.rowsLen p1.fields)), hP 3 (len_ok (Fld.rows p0.fields) (List.length p0.fields) (Fld.rowsLen p0.fields)), hP 2 (len_ok (Fld.rows p1.fields) (List.length p1.fields) (Fld.rowsLen p1.fields))] [aN (t_Kt (decide (p0.kind < p1.kind)) (decide (p1.kind < p0.kind))), aN (t_Kt (decide (p0.n < p1.n)) (decide (p1.n < p0.n))), aN hl2, aN hl4, aN (t_Kt (decide (((List.length p0.fields) : Int) < ((List.length p1.fields) : Int))) (decide (((List.length p1.fields) : Int) < ((List.length p0.fields) : Int))))] (by kernel_rfl)
  | false =>
   exact tells_VI (fn := Ir.Kc) rfl VOK.nil [hB 16 h0, hB 13 h1, hB 2 h2, hB 2 h3] [aN (t_Kt (decide (p0.kind < p1.kind)) (decide (p1.kind < p0.kind))), aN (t_Kt (decide (p0.n < p1.n)) (decide (p1.n < p0.n))), aN hl2, aN hl4] (by kernel_rfl)
theorem t_Kc_4 (p0 : Val) (p1 : Val) (_H : H_Kc p0) (_rec : Rec_Kc p0) (h0 : ((s_Kt (decide (p0.kind < p1.kind)) (decide (p1.kind < p0.kind))) == 0) = false) (z1 : Nat → PV) (zo1 : Nat → List PV) (hl1 : Tells G (E_Kc_b0 p0 p1 0 (s_Kt (decide (p0.kind < p1.kind)) (decide (p1.kind < p0.kind)))) (.st (.exit 0) (S_Kc_b0_0 p0 p1 (l_Kc_b0 p0 p1 p0.list 0 (s_Kt (decide (p0.kind < p1.kind)) (decide (p1.kind < p0.kind)))) z1 zo1))) (h1 : ((l_Kc_b0 p0 p1 p0.list 0 (s_Kt (decide (p0.kind < p1.kind)) (decide (p1.kind < p0.kind)))) == 0) = true) (z3 : Nat → PV) (zo3 : Nat → List PV) (hl3 : Tells G (E_Kc_b1 p0 p1 0 (s_Kt (decide (((List.length p0.list) : Int) < ((List.length p1.list) : Int))) (decide (((List.length p1.list) : Int) < ((List.length p0.list) : Int))))) (.st (.exit 2) (S_Kc_b1_0 p0 p1 (l_Kc_b1 p0 p1 p0.fields 0 (s_Kt (decide (((List.length p0.list) : Int) < ((List.length p1.list) : Int))) (decide (((List.length p1.list) : Int) < ((List.length p0.list) : Int))))) z3 zo3))) : Tells G (c_Kc p0 p1) (.ret (.int .i64 (bif ((l_Kc_b1 p0 p1 p0.fields 0 (s_Kt (decide (((List.length p0.list) : Int) < ((List.length p1.list) : Int))) (decide (((List.length p1.list) : Int) < ((List.length p0.list) : Int))))) == 0) then
    (s_Kt (decide (((List.length p0.fields) : Int) < ((List.length p1.fields) : Int))) (decide (((List.length p1.fields) : Int) < ((List.length p0.fields) : Int))))
  else
    (l_Kc_b1 p0 p1 p0.fields 0 (s_Kt (decide (((List.length p0.list) : Int) < ((List.length p1.list) : Int))) (decide (((List.length p1.list) : Int) < ((List.length p0.list) : Int))))))) []) := by
  cases h2 : ((l_Kc_b1 p0 p1 p0.fields 0 (s_Kt (decide (((List.length p0.list) : Int) < ((List.length p1.list) : Int))) (decide (((List.length p1.list) : Int) < ((List.length p0.list) : Int))))) == 0) with
  | true =>
   exact tells_VI (fn := Ir.Kc) rfl VOK.nil [hB 16 h0, hB 1 h0, hB 2 h1, hP 2 (len_ok (Val.rows p0.list) (List.length p0.list) (Val.rowsLen p0.list)), hP 2 (len_ok (Val.rows p1.list) (List.length p1.list) (Val.rowsLen p1.list)), hP 3 (len_ok (Val.rows p0.list) (List.length p0.list) (Val.rowsLen p0.list)), hP 2 (len_ok (Val.rows p1.list) (List.length p1.list) (Val.rowsLen p1.list)), hB 5 h2, hP 2 (len_ok (Fld.rows p0.fields) (List.length p0.fields) (Fld.rowsLen p0.fields)), hP 2 (len_ok (Fld.rows p1.fields) (List.length p1.fields) (Fld.rowsLen p1.fields)), hP 3 (len_ok (Fld.rows p0.fields) (List.length p0.fields) (Fld.rowsLen p0.fields)), hP 2 (len_ok (Fld.rows p1.fields) (List.length p1.fields) (Fld.rowsLen p1.fields))] [aN (t_Kt (decide (p0.kind < p1.kind)) (decide (p1.kind < p0.kind))), aN hl1, aN (t_Kt (decide (((List.length p0.list) : Int) < ((List.length p1.list) : Int))) (decide (((List.length p1.list) : Int) < ((List.length p0.list) : Int)))), aN hl3, aN (t_Kt (decide (((List.length p0.fields) : Int) < ((List.length p1.fields) : Int))) (decide (((List.length p1.fields) : Int) < ((List.length p0.fields) : Int))))] (by kernel_rfl)
  | false =>
   exact tells_VI (fn := Ir.Kc) rfl VOK.nil [hB 16 h0, hB 1 h0, hB 2 h1, hP 2 (len_ok (Val.rows p0.list) (List.length p0.list) (Val.rowsLen p0.list)), hP 2 (len_ok (Val.rows p1.list) (List.length p1.list) (Val.rowsLen p1.list)), hP 3 (len_ok (Val.rows p0.list) (List.length p0.list) (Val.rowsLen p0.list)), hP 2 (len_ok (Val.rows p1.list) (List.length p1.list) (Val.rowsLen p1.list)), hB 5 h2] [aN (t_Kt (decide (p0.kind < p1.kind)) (decide (p1.kind < p0.kind))), aN hl1, aN (t_Kt (decide (((List.length p0.list) : Int) < ((List.length p1.list) : Int))) (decide (((List.length p1.list) : Int) < ((List.length p0.list) : Int)))), aN hl3] (by kernel_rfl)
theorem t_Kc_5 (p0 : Val) (p1 : Val) (_H : H_Kc p0) (_rec : Rec_Kc p0) (h0 : ((s_Kt (decide (p0.kind < p1.kind)) (decide (p1.kind < p0.kind))) == 0) = false) (z1 : Nat → PV) (zo1 : Nat → List PV) (hl1 : Tells G (E_Kc_b0 p0 p1 0 (s_Kt (decide (p0.kind < p1.kind)) (decide (p1.kind < p0.kind)))) (.st (.exit 0) (S_Kc_b0_0 p0 p1 (l_Kc_b0 p0 p1 p0.list 0 (s_Kt (decide (p0.kind < p1.kind)) (decide (p1.kind < p0.kind)))) z1 zo1))) (h1 : ((l_Kc_b0 p0 p1 p0.list 0 (s_Kt (decide (p0.kind < p1.kind)) (decide (p1.kind < p0.kind)))) == 0) = false) (z3 : Nat → PV) (zo3 : Nat → List PV) (hl3 : Tells G (E_Kc_b1 p0 p1 0 (l_Kc_b0 p0 p1 p0.list 0 (s_Kt (decide (p0.kind < p1.kind)) (decide (p1.kind < p0.kind))))) (.st (.exit 2) (S_Kc_b1_0 p0 p1 (l_Kc_b1 p0 p1 p0.fields 0 (l_Kc_b0 p0 p1 p0.list 0 (s_Kt (decide (p0.kind < p1.kind)) (decide (p1.kind < p0.kind))))) z3 zo3))) : Tells G (c_Kc p0 p1) (.ret (.int .i64 (bif ((l_Kc_b1 p0 p1 p0.fields 0 (l_Kc_b0 p0 p1 p0.list 0 (s_Kt (decide (p0.kind < p1.kind)) (decide (p1.kind < p0.kind))))) == 0) then
    (s_Kt (decide (((List.length p0.fields) : Int) < ((List.length p1.fields) : Int))) (decide (((List.length p1.fields) : Int) < ((List.length p0.fields) : Int))))
  else
    (l_Kc_b1 p0 p1 p0.fields 0 (l_Kc_b0 p0 p1 p0.list 0 (s_Kt (decide (p0.kind < p1.kind)) (decide (p1.kind < p0.kind))))))) []) := by
  cases h2 : ((l_Kc_b1 p0 p1 p0.fields 0 (l_Kc_b0 p0 p1 p0.list 0 (s_Kt (decide (p0.kind < p1.kind)) (decide (p1.kind < p0.kind))))) == 0) with
  | true =>
   exact tells_VI (fn := Ir.Kc) rfl VOK.nil [hB 16 h0, hB 1 h0, hB 2 h1, hB 2 h2, hP 2 (len_ok (Fld.rows p0.fields) (List.length p0.fields) (Fld.rowsLen p0.fields)), hP 2 (len_ok (Fld.rows p1.fields) (List.length p1.fields) (Fld.rowsLen p1.fields)), hP 3 (len_ok (Fld.rows p0.fields) (List.length p0.fields) (Fld.rowsLen p0.fields)), hP 2 (len_ok (Fld.rows p1.fields) (List.length p1.fields) (Fld.rowsLen p1.fields))] [aN (t_Kt (decide (p0.kind < p1.kind)) (decide (p1.kind < p0.kind))), aN hl1, aN hl3, aN (t_Kt (decide (((List.length p0.fields) : Int) < ((List.length p1.fields) : Int))) (decide (((List.length p1.fields) : Int) < ((List.length p0.fields) : Int))))] (by kernel_rfl)
  | false =>
   exact tells_VI (fn := Ir.Kc) rfl VOK.nil [hB 16 h0, hB 1 h0, hB 2 h1, hB 2 h2] [aN (t_Kt (decide (p0.kind < p1.kind)) (decide (p1.kind < p0.kind))), aN hl1, aN hl3] (by kernel_rfl)
theorem r_Kc (p0 : Val) (p1 : Val) (H : H_Kc p0) (rec : Rec_Kc p0) : Tells G (c_Kc p0 p1) (a_Kc p0 p1) := by
  unfold a_Kc
  rw [s_Kc]
  cases h0 : ((s_Kt (decide (p0.kind < p1.kind)) (decide (p1.kind < p0.kind))) == 0) with
  | true =>
   cases h1 : ((s_Kt (decide (p0.n < p1.n)) (decide (p1.n < p0.n))) == 0) with
   | true =>
    have hl2 := lt_Kc_b0 p0 p1 ((give_Kc p0 p1 H).1) rec p0.list 0 (s_Kt (sLt p0.s p1.s) (!((sLt p0.s p1.s) || (sEq p0.s p1.s)))) (by simp)
    obtain ⟨z2, zo2, hl2⟩ := hl2
    cases h2 : ((l_Kc_b0 p0 p1 p0.list 0 (s_Kt (sLt p0.s p1.s) (!((sLt p0.s p1.s) || (sEq p0.s p1.s))))) == 0) with
    | true =>
     have hl4 := lt_Kc_b1 p0 p1 ((give_Kc p0 p1 H).2.1) rec p0.fields 0 (s_Kt (decide (((List.length p0.list) : Int) < ((List.length p1.list) : Int))) (decide (((List.length p1.list) : Int) < ((List.length p0.list) : Int)))) (by simp)
     obtain ⟨z4, zo4, hl4⟩ := hl4
     exact t_Kc_0 p0 p1 H rec h0 h1 z2 zo2 hl2 h2 z4 zo4 hl4
    | false =>
     have hl4 := lt_Kc_b1 p0 p1 ((give_Kc p0 p1 H).2.1) rec p0.fields 0 (l_Kc_b0 p0 p1 p0.list 0 (s_Kt (sLt p0.s p1.s) (!((sLt p0.s p1.s) || (sEq p0.s p1.s))))) (by simp)
     obtain ⟨z4, zo4, hl4⟩ := hl4
     exact t_Kc_1 p0 p1 H rec h0 h1 z2 zo2 hl2 h2 z4 zo4 hl4
   | false =>
    have hl2 := lt_Kc_b0 p0 p1 ((give_Kc p0 p1 H).1) rec p0.list 0 (s_Kt (decide (p0.n < p1.n)) (decide (p1.n < p0.n))) (by simp)
    obtain ⟨z2, zo2, hl2⟩ := hl2
    cases h2 : ((l_Kc_b0 p0 p1 p0.list 0 (s_Kt (decide (p0.n < p1.n)) (decide (p1.n < p0.n)))) == 0) with
    | true =>
     have hl4 := lt_Kc_b1 p0 p1 ((give_Kc p0 p1 H).2.1) rec p0.fields 0 (s_Kt (decide (((List.length p0.list) : Int) < ((List.length p1.list) : Int))) (decide (((List.length p1.list) : Int) < ((List.length p0.list) : Int)))) (by simp)
     obtain ⟨z4, zo4, hl4⟩ := hl4
     exact t_Kc_2 p0 p1 H rec h0 h1 z2 zo2 hl2 h2 z4 zo4 hl4
    | false =>
     have hl4 := lt_Kc_b1 p0 p1 ((give_Kc p0 p1 H).2.1) rec p0.fields 0 (l_Kc_b0 p0 p1 p0.list 0 (s_Kt (decide (p0.n < p1.n)) (decide (p1.n < p0.n)))) (by simp)
     obtain ⟨z4, zo4, hl4⟩ := hl4
     exact t_Kc_3 p0 p1 H rec h0 h1 z2 zo2 hl2 h2 z4 zo4 hl4
  | false =>
   have hl1 := lt_Kc_b0 p0 p1 ((give_Kc p0 p1 H).1) rec p0.list 0 (s_Kt (decide (p0.kind < p1.kind)) (decide (p1.kind < p0.kind))) (by simp)
   obtain ⟨z1, zo1, hl1⟩ := hl1
   cases h1 : ((l_Kc_b0 p0 p1 p0.list 0 (s_Kt (decide (p0.kind < p1.kind)) (decide (p1.kind < p0.kind)))) == 0) with
   | true =>
    have hl3 := lt_Kc_b1 p0 p1 ((give_Kc p0 p1 H).2.1) rec p0.fields 0 (s_Kt (decide (((List.length p0.list) : Int) < ((List.length p1.list) : Int))) (decide (((List.length p1.list) : Int) < ((List.length p0.list) : Int)))) (by simp)
    obtain ⟨z3, zo3, hl3⟩ := hl3
    exact t_Kc_4 p0 p1 H rec h0 z1 zo1 hl1 h1 z3 zo3 hl3
   | false =>
    have hl3 := lt_Kc_b1 p0 p1 ((give_Kc p0 p1 H).2.1) rec p0.fields 0 (l_Kc_b0 p0 p1 p0.list 0 (s_Kt (decide (p0.kind < p1.kind)) (decide (p1.kind < p0.kind)))) (by simp)
    obtain ⟨z3, zo3, hl3⟩ := hl3
    exact t_Kc_5 p0 p1 H rec h0 z1 zo1 hl1 h1 z3 zo3 hl3
theorem i_Kc : ∀ (k : Nat) (p0 : Val), SizeOf.sizeOf p0 < k → ∀ (p1 : Val), H_Kc p0 → Tells G (c_Kc p0 p1) (a_Kc p0 p1)
  | 0, _, h, _, _ => absurd h (Nat.not_lt_zero _)
  | k + 1, p0, h, p1, H => r_Kc p0 p1 H (fun q hq p1 hH => i_Kc k q (by omega) p1 hH)
theorem t_Kc (p0 : Val) (p1 : Val) (H : H_Kc p0) : Tells G (c_Kc p0 p1) (a_Kc p0 p1) := i_Kc _ p0 (Nat.lt_succ_self _) p1 H
def s_Kf (p0 : Val) (p1 : Val) : Bool :=
  ((s_Kc p0 p1) == 0)
def c_Kf (p0 : Val) (p1 : Val) : En := .call 20 [.agg (Val.cells p0), .agg (Val.cells p1)] []
def a_Kf (p0 : Val) (p1 : Val) : Rs := .ret (.bool (s_Kf p0 p1)) []
def H_Kf (p0 : Val) (_p1 : Val) : Prop := (H_Kc p0) ∧ True
theorem t_Kf (p0 : Val) (p1 : Val) (H : H_Kf p0 p1) : Tells G (c_Kf p0 p1) (a_Kf p0 p1) := by
  unfold a_Kf s_Kf
  exact tells_VI (fn := Ir.Kf) rfl VOK.nil [] [aN (t_Kc p0 p1 H.1)] (by kernel_rfl)
mutual
def s_K1a (p0 p1 : Val) : Int := s_K1 [s_K0 p0.kind p1.kind, s_K0 p0.n p1.n, s_K18 p0.s p1.s, lcV p0.list p1.list, lcF p0.fields p1.fields]
termination_by SizeOf.sizeOf p0
decreasing_by all_goals first | exact Val.lt_list _ | exact Val.lt_fields _
def lcV : List Val → List Val → Int
  | [], [] => 0
  | [], _ :: _ => -1
  | _ :: _, [] => 1
  | x :: l, y :: m => bif s_K1a x y == 0 then lcV l m else s_K1a x y
termination_by l => SizeOf.sizeOf l
decreasing_by all_goals first | exact lt_head _ _ | exact lt_tail _ _
def lcF : List Fld → List Fld → Int
  | [], [] => 0
  | [], _ :: _ => -1
  | _ :: _, [] => 1
  | x :: l, y :: m => bif s_K1 [s_K18 x.name y.name, s_K1a x.v y.v] == 0 then lcF l m else s_K1 [s_K18 x.name y.name, s_K1a x.v y.v]
termination_by l => SizeOf.sizeOf l
decreasing_by all_goals first | exact lt_headv _ _ | exact lt_tail _ _
end
end Go.Proofs.Ytedohmdgbilicaa
end

section
/- What the functions of the chapter on values compute (printed by a program). -/
namespace Go.Proofs.Ytedohmdgbilicaa
open Go.Pv
def s_K1d (p0 : Val) (p1 : Val) : Bool :=
  ((s_K1a p0 p1) == 0)
end Go.Proofs.Ytedohmdgbilicaa
end

section
/- What the laws ValueValid, ValueCompares, ValueOrder compute (printed by a program). -/
namespace Go.Proofs.Ytedohmdgbilicaa
open Go.Pv
theorem t_K9 : Tells G (.call 10 [] []) (.ret (.bool true) []) := ⟨200, by kernel_rfl⟩
end Go.Proofs.Ytedohmdgbilicaa
end

section
/- Parts of a slice of one's own, and appends of them. -/
namespace Go.Pv
def slmE (id sz n : Nat) (lo hi : Option Int) : Option Eff := (opP (fun _ => .un) (.slice sz (.c (.ms id sz 0 n)) (optI lo) (optI hi) none)).bind fun v => some ⟨v, [], []⟩
theorem takem_ok (id sz n : Nat) (k : Int) (h0 : 0 ≤ k) (h1 : k ≤ (n : Int)) : slmE id sz n none (some k) = some (vE (.ms id sz 0 k.toNat)) := by
  unfold slmE
  simp only [opP, optI, Opd.ev, optNat, asNat, Option.bind_some]
  have e0 : decide (0 ≤ k) = true := by simpa using h0
  rw [e0]
  simp only [cond_true, Option.bind_some]
  have e1 : (Nat.beq sz sz && Nat.ble 0 k.toNat && Nat.ble k.toNat n) = true := by
    rw [Nat.ble_eq_true_of_le (Nat.zero_le _), Nat.ble_eq_true_of_le (show k.toNat ≤ n by omega), Nat.beq_refl]
    rfl
  rw [e1]
  simp [vE]
theorem dropm_ok (id sz n : Nat) (k : Int) (h0 : 0 ≤ k) (h1 : k ≤ (n : Int)) : slmE id sz n (some k) none = some (vE (.ms id sz k.toNat (n - k.toNat))) := by
  unfold slmE
  simp only [opP, optI, Opd.ev, optNat, asNat, Option.bind_some]
  have e0 : decide (0 ≤ k) = true := by simpa using h0
  rw [e0]
  simp only [cond_true, Option.bind_some]
  have e1 : (Nat.beq sz sz && Nat.ble k.toNat n && Nat.ble n n) = true := by
    rw [Nat.ble_eq_true_of_le (show k.toNat ≤ n by omega), Nat.ble_eq_true_of_le (Nat.le_refl n), Nat.beq_refl]
    rfl
  rw [e1]
  simp [vE]
end Go.Pv
end

section
/- Slices that are made with a length: their rows. -/
namespace Go.Pv
end Go.Pv
end

section
/- Rows of one's own: cleared behind a place, appended to from a place on. -/
namespace Go.Pv
theorem flat_take {sz : Nat} : ∀ (rows : List (List PV)) (k : Nat), (∀ r ∈ rows, r.length = sz) → rows.flatten.take (k * sz) = (rows.take k).flatten
  | [], k, _ => by simp
  | r :: rs, 0, _ => by simp
  | r :: rs, k + 1, h => by
    have hr := h r List.mem_cons_self
    rw [List.flatten_cons, List.take_succ_cons, List.flatten_cons, ← flat_take rs k (fun q hq => h q (List.mem_cons_of_mem _ hq)), show (k + 1) * sz = r.length + k * sz by rw [hr, Nat.add_mul]; omega, List.take_length_add_append]
theorem rep_flat (z : List PV) : ∀ n : Nat, rep z n = (List.replicate n z).flatten
  | 0 => rfl
  | n + 1 => by rw [rep, rep_flat z n, List.replicate_succ, List.flatten_cons]
def clrE (id sz : Nat) (gr : Bool) (cells z : List PV) (K n : Nat) : Option Eff := opClear (look [(id, ⟨sz, 0, gr, cells⟩)]) sz z (.ms id sz K n)
theorem clr_ok (id sz : Nat) (gr : Bool) (rows rows' : List (List PV)) (K n : Nat) (z : List PV) (hs : ∀ r ∈ rows, r.length = sz) (hl : K + n = rows.length) (hn : 0 < n) (hr : rows' = rows.take K) (hz : z.length = sz := by rfl) :
    clrE id sz gr rows.flatten z K n = some ⟨.tup [], [(id, some ⟨sz, 0, gr, rows'.flatten⟩)], [id]⟩ := by
  subst hr
  obtain ⟨k, rfl⟩ : ∃ k, n = k + 1 := ⟨n - 1, by omega⟩
  have h1 : (rep z (k + 1)).length = (k + 1) * sz := by
    rw [rep_flat, flat_length sz _ (fun r hr => by rw [(List.mem_replicate.1 hr).2]; exact hz), List.length_replicate]
  have h2 : rows.flatten.length = rows.length * sz := flat_length sz rows hs
  have h3 : K * sz + (k + 1) * sz = rows.flatten.length := by rw [h2, ← hl, ← Nat.add_mul]
  unfold clrE opClear clC
  simp only [look, Nat.beq_refl, cond_true, Option.bind_some, hz]
  rw [Nat.ble_eq_true_of_le (Nat.zero_le _), Nat.ble_eq_true_of_le (show (K + (k + 1)) * sz ≤ rows.flatten.length by rw [Nat.add_mul]; omega), h1, h3, Nat.beq_refl, flat_take rows K hs]
  rfl
theorem apC_take {sz : Nat} {gr : Bool} {rows : List (List PV)} {n : Nat} (hs : ∀ r ∈ rows, r.length = sz) (h : n ≤ rows.length) : apC ⟨sz, 0, gr, rows.flatten⟩ (n * sz) = some (rows.take n).flatten := by
  have h2 : rows.flatten.length = rows.length * sz := flat_length sz rows hs
  have h3 := flat_take rows n hs
  unfold apC
  cases e : Nat.beq rows.flatten.length (n * sz) with
  | true =>
    have e := Nat.eq_of_beq_eq_true e
    rw [cond_true, ← h3, ← e, List.take_length]
  | false =>
    have : n * sz ≤ rows.length * sz := Nat.mul_le_mul_right _ h
    rw [cond_false, Nat.ble_eq_true_of_le (by show n * sz ≤ rows.flatten.length; omega), Nat.ble_eq_true_of_le (Nat.zero_le _), h3]
    rfl
def aptE (id lid fr sz bytes lro : Nat) (lgr : Bool) (rows : List (List PV)) (r : List PV) (n : Nat) : Option Eff :=
  opAppend (look [(id, ⟨sz, 0, true, rows.flatten⟩), (lid, ⟨sz, lro, lgr, r⟩)]) fr sz bytes (.ms id sz 0 n) (.ms lid sz 0 1)
theorem apt_ok (id lid fr sz bytes lro : Nat) (lgr : Bool) (rows rows' : List (List PV)) (r : List PV) (n n' : Nat) (hne : Nat.beq id lid = false) (hle : n ≤ rows.length) (hn' : n' = rows'.length) (hr' : rows' = rows.take n ++ [r])
    (hs : ∀ r ∈ rows, r.length = sz) (hr : r.length = sz) (hb : (n + 1) * bytes ≤ 140737488355328) :
    aptE id lid fr sz bytes lro lgr rows r n = some ⟨.ms fr sz 0 n', [(id, none), (fr, some ⟨sz, 0, true, rows'.flatten⟩)], [id, lid]⟩ := by
  subst hn' hr'
  unfold aptE opAppend
  have h1 : look [(id, (⟨sz, 0, true, rows.flatten⟩ : Ob)), (lid, ⟨sz, lro, lgr, r⟩)] lid = some ⟨sz, lro, lgr, r⟩ := by simp [look, hne]
  have h2 : look [(id, (⟨sz, 0, true, rows.flatten⟩ : Ob)), (lid, ⟨sz, lro, lgr, r⟩)] id = some ⟨sz, 0, true, rows.flatten⟩ := by simp [look]
  have hsrc : source (look [(id, (⟨sz, 0, true, rows.flatten⟩ : Ob)), (lid, ⟨sz, lro, lgr, r⟩)]) sz (.ms lid sz 0 1) = some (1, r, [lid]) := by
    simp only [source, h1, Option.bind_some]
    subst hr
    have : Nat.ble r.length r.length = true := Nat.ble_eq_true_of_le (Nat.le_refl _)
    simp [this]
  rw [hsrc, Option.bind_some]
  simp only [h2, Option.bind_some]
  have hc : (true && Nat.beq sz sz && Nat.beq sz sz && Nat.beq 0 0 && Nat.ble ((n + 1) * bytes) 140737488355328) = true := by
    simp only [Nat.beq_refl, Bool.and_true, Bool.true_and]
    exact Nat.ble_eq_true_of_le hb
  rw [hc, apC_take hs hle]
  have hl : (rows.take n ++ [r]).length = n + 1 := by
    rw [List.length_append, List.length_take]
    simp
    omega
  rw [hl]
  simp
theorem Val.rowsSet (l : List Val) (k : Nat) (x : Val) : Val.rows (l.set k x) = (Val.rows l).set k (Val.cells x) := by simp [Val.rowsMap, List.map_set]
theorem Fld.rowsSet (l : List Fld) (k : Nat) (x : Fld) : Fld.rows (l.set k x) = (Fld.rows l).set k (Fld.cells x) := by simp [Fld.rowsMap, List.map_set]
/-- what stands there is laid there again -/
theorem setSame {l : List (List PV)} {k : Nat} {r : List PV} (h : l[k]? = some r) : l = l.set k r := by
  apply List.ext_getElem?
  intro i
  rw [List.getElem?_set]
  by_cases e : k = i
  · subst e
    rw [if_pos rfl, h, if_pos (List.getElem?_eq_some_iff.1 h).1]
  · rw [if_neg e]
end Go.Pv
end

section
/- What taking fields out and copying values compute (printed by a program). -/
namespace Go.Proofs.Ytedohmdgbilicaa
open Go.Pv
def s_K1p (p0 : Val) : Val := p0
def l_K1p_b0 (p0 : Val) : List Val → Nat → Unit
  | [], _i0 =>
    ()
  | _x0 :: r0, i0 =>
    l_K1p_b0 p0 r0 (i0 + 1)
def HE_K1p_b0 (p0 : Val) (i0 : Nat) : List PV :=
  [.un, .bx 0 0, .bx 1 0, .un, .un, .un, .un, .un, .un, .un, .un, .un, .ms 2 5 0 (List.length p0.list), .int .i64 ((List.length p0.list) : Int), .int .i64 (i0 : Int), .un, .un, .un, .un, .un, .un, .un, .un, .un, .un, .un, .un, .un, .un, .un, .un, .un, .un, .un, .un, .un, .un, .un, .un, .un, .un, .un, .un, .un, .un, .un, .un, .un]
def HO_K1p_b0 (p0 : Val) (_i0 : Nat) : List Ob :=
  [⟨5, 0, true, [.int .i64 p0.kind, .int .i64 p0.n, .str p0.s, .ms 2 5 0 (List.length p0.list), .sl (Fld.rows p0.fields)]⟩, ⟨5, 0, true, [.int .i64 0, .int .i64 0, .str (⟨#[]⟩ : ByteArray), .ms 3 5 0 0, .ms 4 6 0 0]⟩, ⟨5, 0, true, (Val.rows p0.list).flatten⟩, ⟨5, 0, true, []⟩, ⟨6, 0, true, []⟩]
def E_K1p_b0 (p0 : Val) (i0 : Nat) : En := .loop 0 Ir.K1p_b0_live Ir.K1p_b0 (HE_K1p_b0 p0 i0) (HO_K1p_b0 p0 i0)
def S_K1p_b0_0 (p0 : Val) (z : Nat → PV) (_zo : Nat → List PV) : St :=
  ⟨[z 0, .bx 0 0, .bx 1 0, z 3, z 4, z 5, z 6, z 7, z 8, z 9, z 10, z 11, z 12, z 13, z 14, z 15, z 16, z 17, z 18, z 19, z 20, z 21, z 22, z 23, z 24, z 25, z 26, z 27, z 28, z 29, z 30, z 31, z 32, z 33, z 34, z 35, z 36, z 37, z 38, z 39, z 40, z 41, z 42, z 43, z 44, z 45, z 46, z 47], [(0, ⟨5, 0, true, [.int .i64 p0.kind, .int .i64 p0.n, .str p0.s, .ms 2 5 0 (List.length p0.list), .sl (Fld.rows p0.fields)]⟩), (1, ⟨5, 0, true, [.int .i64 0, .int .i64 0, .str (⟨#[]⟩ : ByteArray), .ms 3 5 0 0, .ms 4 6 0 0]⟩), (2, ⟨5, 0, true, (Val.rows p0.list).flatten⟩), (3, ⟨5, 0, true, []⟩), (4, ⟨6, 0, true, []⟩)], 69⟩
theorem V_K1p_b0 (p0 : Val) (i0 : Nat) : VOK (Go.Pv.look (number 0 (HO_K1p_b0 p0 i0))) [(2, Val.rows p0.list)] := (VOK.cons (show Seen _ _ from seenV (ob := ⟨5, 0, true, (Val.rows p0.list).flatten⟩) (Val.rowsView p0.list 5 rfl)) VOK.nil)
def P_K1p_b0 (p0 : Val) (e : En) (_q : Unit) : Prop := ∃ z zo, Tells G e (.st (.exit 0) (S_K1p_b0_0 p0 z zo))
theorem P_K1p_b0_mono (p0 : Val) {e e' : En} (h : ∀ r, Tells G e r → Tells G e' r) : ∀ q, P_K1p_b0 p0 e q → P_K1p_b0 p0 e' q
  | _, ⟨z, zo, hz⟩ => ⟨z, zo, h _ hz⟩
def l_K1p_b1 (p0 : Val) : List Fld → Nat → Unit
  | [], _i1 =>
    ()
  | _x1 :: r1, i1 =>
    l_K1p_b1 p0 r1 (i1 + 1)
def HE_K1p_b1 (p0 : Val) (i1 : Nat) : List PV :=
  [.un, .bx 0 0, .bx 1 0, .un, .un, .un, .un, .un, .un, .un, .un, .un, .un, .un, .un, .un, .un, .un, .un, .un, .un, .un, .un, .un, .un, .un, .un, .un, .un, .un, .un, .ms 2 6 0 (List.length p0.fields), .int .i64 ((List.length p0.fields) : Int), .int .i64 (i1 : Int), .un, .un, .un, .un, .un, .un, .un, .un, .un, .un, .un, .un, .un, .un]
def HO_K1p_b1 (p0 : Val) (_i1 : Nat) : List Ob :=
  [⟨5, 0, true, [.int .i64 p0.kind, .int .i64 p0.n, .str p0.s, .ms 3 5 0 (List.length p0.list), .ms 2 6 0 (List.length p0.fields)]⟩, ⟨5, 0, true, [.int .i64 0, .int .i64 0, .str (⟨#[]⟩ : ByteArray), .ms 4 5 0 0, .ms 5 6 0 0]⟩, ⟨6, 0, true, (Fld.rows p0.fields).flatten⟩, ⟨5, 0, true, (Val.rows p0.list).flatten⟩, ⟨5, 0, true, []⟩, ⟨6, 0, true, []⟩]
def E_K1p_b1 (p0 : Val) (i1 : Nat) : En := .loop 0 Ir.K1p_b1_live Ir.K1p_b1 (HE_K1p_b1 p0 i1) (HO_K1p_b1 p0 i1)
def S_K1p_b1_0 (p0 : Val) (z : Nat → PV) (_zo : Nat → List PV) : St :=
  ⟨[z 0, .bx 0 0, .bx 1 0, z 3, z 4, z 5, z 6, z 7, z 8, z 9, z 10, z 11, z 12, z 13, z 14, z 15, z 16, z 17, z 18, z 19, z 20, z 21, z 22, z 23, z 24, z 25, z 26, z 27, z 28, z 29, z 30, z 31, z 32, z 33, z 34, z 35, z 36, z 37, z 38, z 39, z 40, z 41, z 42, z 43, z 44, z 45, z 46, z 47], [(0, ⟨5, 0, true, [.int .i64 p0.kind, .int .i64 p0.n, .str p0.s, .ms 3 5 0 (List.length p0.list), .ms 2 6 0 (List.length p0.fields)]⟩), (1, ⟨5, 0, true, [.int .i64 0, .int .i64 0, .str (⟨#[]⟩ : ByteArray), .ms 4 5 0 0, .ms 5 6 0 0]⟩), (2, ⟨6, 0, true, (Fld.rows p0.fields).flatten⟩), (3, ⟨5, 0, true, (Val.rows p0.list).flatten⟩), (4, ⟨5, 0, true, []⟩), (5, ⟨6, 0, true, []⟩)], 70⟩
theorem V_K1p_b1 (p0 : Val) (i1 : Nat) : VOK (Go.Pv.look (number 0 (HO_K1p_b1 p0 i1))) [(2, Fld.rows p0.fields), (3, Val.rows p0.list)] := (VOK.cons (show Seen _ _ from seenV (ob := ⟨6, 0, true, (Fld.rows p0.fields).flatten⟩) (Fld.rowsView p0.fields 6 rfl)) (VOK.cons (show Seen _ _ from seenV (ob := ⟨5, 0, true, (Val.rows p0.list).flatten⟩) (Val.rowsView p0.list 5 rfl)) VOK.nil))
def P_K1p_b1 (p0 : Val) (e : En) (_q : Unit) : Prop := ∃ z zo, Tells G e (.st (.exit 2) (S_K1p_b1_0 p0 z zo))
theorem P_K1p_b1_mono (p0 : Val) {e e' : En} (h : ∀ r, Tells G e r → Tells G e' r) : ∀ q, P_K1p_b1 p0 e q → P_K1p_b1 p0 e' q
  | _, ⟨z, zo, hz⟩ => ⟨z, zo, h _ hz⟩
theorem e_K1p (p0 : Val) : s_K1p p0 = (p0) := by
  rfl
def c_K1p (p0 : Val) : En := .call 48 [.agg (Val.cells p0)] []
def a_K1p (p0 : Val) : Rs := .ret (.agg (Val.cells (s_K1p p0))) []
abbrev H_K1p (p0 : Val) : Prop := Val.Sm 1000 p0
def Rec_K1p (p0 : Val) : Prop := ∀ (q : Val), SizeOf.sizeOf q < SizeOf.sizeOf p0 → H_K1p q → Tells G (c_K1p q) (a_K1p q)
def H_K1p_b0 (p0 : Val) : Prop := (List.length p0.list ≤ 4611686018427387904) ∧ (∀ x0 ∈ p0.list, H_K1p x0) ∧ True
def H_K1p_b1 (p0 : Val) : Prop := (List.length p0.fields ≤ 4611686018427387904) ∧ (∀ x1 ∈ p0.fields, H_K1p x1.v) ∧ True
theorem give_K1p (p0 : Val) (H : H_K1p p0) : (List.length p0.list * 80 ≤ 140737488355328) ∧ (H_K1p_b0 p0) ∧ (List.length p0.fields * 96 ≤ 140737488355328) ∧ (H_K1p_b1 p0) ∧ True := by
  obtain ⟨h1, h2, h3, h4⟩ := H.all
  exact ⟨by omega, ⟨by omega, h3, trivial⟩, by omega, ⟨by omega, h4, trivial⟩, trivial⟩
def Z_K1p_b0_0 (p0 : Val) (i0 : Nat) : List PV :=
  [.un, .un, .un, .un, .un, .un, .un, .un, .un, .un, .un, .un, .ms 2 5 0 (List.length p0.list), .int .i64 ((List.length p0.list) : Int), .int .i64 (i0 : Int), .bool false]
def ZO_K1p_b0_0 (_p0 : Val) (_i0 : Nat) : List (Nat × List PV) :=
  []
theorem x_K1p_b0_0 (p0 : Val) (_H : H_K1p_b0 p0) (_rec : Rec_K1p p0) (i0 : Nat) (hc0 : (decide ((i0 : Int) < ((List.length p0.list) : Int))) = false) : P_K1p_b0 p0 (E_K1p_b0 p0 i0) () := by
  exact ⟨(envF (Z_K1p_b0_0 p0 i0)), (zoF (ZO_K1p_b0_0 p0 i0)), tells_outVI (V_K1p_b0 p0 i0) (x := ((.exit 0), S_K1p_b0_0 p0 (envF (Z_K1p_b0_0 p0 i0)) (zoF (ZO_K1p_b0_0 p0 i0)))) [hB 0 hc0] [] (by kernel_rfl)⟩
theorem n_K1p_b0_1 (p0 : Val) (H : H_K1p_b0 p0) (rec : Rec_K1p p0) (x0 : Val) (i0 : Nat) (hx0 : p0.list[i0]? = some x0) (hi0 : i0 < List.length p0.list) (hc0 : (decide ((i0 : Int) < ((List.length p0.list) : Int))) = true) {r : Rs} (hr : Tells G (E_K1p_b0 p0 (i0 + 1)) r) : Tells G (E_K1p_b0 p0 i0) r := by
  have hB0 := H.1
  exact tells_nextVI (V_K1p_b0 p0 i0) (y := (HE_K1p_b0 p0 (i0 + 1), HO_K1p_b0 p0 (i0 + 1))) [hB 0 hc0, hP 1 (ixs_ok 2 5 (List.length p0.list) (i0 : Int) i0 (by omega) (by omega) (by omega)), hP 0 (ld_ok 2 5 0 true ((Val.rows p0.list).flatten) (Val.rows p0.list) 5 true i0 0 (i0 * 5) (Val.cells x0) (.agg [.int .i64 x0.kind, .int .i64 x0.n, .str x0.s, .sl (Val.rows x0.list), .sl (Fld.rows x0.fields)]) rfl rfl (Val.rowsGet hx0) (Val.rowsSize p0.list) (by decide) rfl), hP 8 (ixs_ok 2 5 (List.length p0.list) (i0 : Int) i0 (by omega) (by omega) (by omega)), hV 0 [(2, Val.rows p0.list)] (st_ok 2 5 true ((Val.rows p0.list).flatten) (Val.rows p0.list) (Val.rows p0.list) 5 i0 0 (i0 * 5) _ (.agg [.int .i64 x0.kind, .int .i64 x0.n, .str x0.s, .sl (Val.rows x0.list), .sl (Fld.rows x0.fields)]) rfl rfl (Val.rowsGet hx0) (Val.rowsSize p0.list) (by decide) rfl rfl (setSame (Val.rowsGet hx0))), hS 0 true (Val.rowsView p0.list 5 rfl), hP 0 (inc_ok i0 (by omega))] [aN (rec x0 (szL hx0) (H.2.1 x0 (mem_get hx0)))] (by kernel_rfl) hr
theorem lt_K1p_b0 (p0 : Val) (H : H_K1p_b0 p0) (rec : Rec_K1p p0) : ∀ (r0 : List Val) (i0 : Nat), List.drop i0 p0.list = r0 → P_K1p_b0 p0 (E_K1p_b0 p0 i0) (l_K1p_b0 p0 r0 i0)
  | [], i0, hd => by
    have hc0 : (decide ((i0 : Int) < ((List.length p0.list) : Int))) = false := by have := drop_end hd; simp; omega
    show P_K1p_b0 p0 _ ()
    exact x_K1p_b0_0 p0 H rec i0 hc0
  | x0 :: r0, i0, hd => by
    obtain ⟨hx0, hi0, hd'⟩ := drop_get hd
    have hc0 : (decide ((i0 : Int) < ((List.length p0.list) : Int))) = true := by simp; omega
    show P_K1p_b0 p0 _ ()
    exact P_K1p_b0_mono p0 (fun r hr => n_K1p_b0_1 p0 H rec x0 i0 hx0 hi0 hc0 hr) _ (lt_K1p_b0 p0 H rec r0 (i0 + 1) hd')
def Z_K1p_b1_0 (p0 : Val) (i1 : Nat) : List PV :=
  [.un, .un, .un, .un, .un, .un, .un, .un, .un, .un, .un, .un, .un, .un, .un, .un, .un, .un, .un, .un, .un, .un, .un, .un, .un, .un, .un, .un, .un, .un, .un, .ms 2 6 0 (List.length p0.fields), .int .i64 ((List.length p0.fields) : Int), .int .i64 (i1 : Int), .bool false]
def ZO_K1p_b1_0 (_p0 : Val) (_i1 : Nat) : List (Nat × List PV) :=
  []
theorem x_K1p_b1_0 (p0 : Val) (_H : H_K1p_b1 p0) (_rec : Rec_K1p p0) (i1 : Nat) (hc1 : (decide ((i1 : Int) < ((List.length p0.fields) : Int))) = false) : P_K1p_b1 p0 (E_K1p_b1 p0 i1) () := by
  exact ⟨(envF (Z_K1p_b1_0 p0 i1)), (zoF (ZO_K1p_b1_0 p0 i1)), tells_outVI (V_K1p_b1 p0 i1) (x := ((.exit 2), S_K1p_b1_0 p0 (envF (Z_K1p_b1_0 p0 i1)) (zoF (ZO_K1p_b1_0 p0 i1)))) [hB 0 hc1] [] (by kernel_rfl)⟩
theorem n_K1p_b1_1 (p0 : Val) (H : H_K1p_b1 p0) (rec : Rec_K1p p0) (x1 : Fld) (i1 : Nat) (hx1 : p0.fields[i1]? = some x1) (hi1 : i1 < List.length p0.fields) (hc1 : (decide ((i1 : Int) < ((List.length p0.fields) : Int))) = true) {r : Rs} (hr : Tells G (E_K1p_b1 p0 (i1 + 1)) r) : Tells G (E_K1p_b1 p0 i1) r := by
  have hB0 := H.1
  exact tells_nextVI (V_K1p_b1 p0 i1) (y := (HE_K1p_b1 p0 (i1 + 1), HO_K1p_b1 p0 (i1 + 1))) [hB 0 hc1, hP 1 (ixs_ok 2 6 (List.length p0.fields) (i1 : Int) i1 (by omega) (by omega) (by omega)), hP 0 (ld_ok 2 6 0 true ((Fld.rows p0.fields).flatten) (Fld.rows p0.fields) 6 true i1 0 (i1 * 6) (Fld.cells x1) (.agg [.str x1.name, .int .i64 x1.v.kind, .int .i64 x1.v.n, .str x1.v.s, .sl (Val.rows x1.v.list), .sl (Fld.rows x1.v.fields)]) rfl rfl (Fld.rowsGet hx1) (Fld.rowsSize p0.fields) (by decide) rfl), hP 9 (ixs_ok 2 6 (List.length p0.fields) (i1 : Int) i1 (by omega) (by omega) (by omega)), hV 1 [(2, Fld.rows p0.fields)] (st_ok 2 6 true ((Fld.rows p0.fields).flatten) (Fld.rows p0.fields) (Fld.rows p0.fields) 5 i1 1 (i1 * 6 + 1) _ (.agg [.int .i64 x1.v.kind, .int .i64 x1.v.n, .str x1.v.s, .sl (Val.rows x1.v.list), .sl (Fld.rows x1.v.fields)]) rfl rfl (Fld.rowsGet hx1) (Fld.rowsSize p0.fields) (by decide) rfl rfl (setSame (Fld.rowsGet hx1))), hS 0 true (Fld.rowsView p0.fields 6 rfl), hP 0 (inc_ok i1 (by omega))] [aN (rec x1.v (szF hx1) (H.2.1 x1 (mem_get hx1)))] (by kernel_rfl) hr
theorem lt_K1p_b1 (p0 : Val) (H : H_K1p_b1 p0) (rec : Rec_K1p p0) : ∀ (r1 : List Fld) (i1 : Nat), List.drop i1 p0.fields = r1 → P_K1p_b1 p0 (E_K1p_b1 p0 i1) (l_K1p_b1 p0 r1 i1)
  | [], i1, hd => by
    have hc1 : (decide ((i1 : Int) < ((List.length p0.fields) : Int))) = false := by have := drop_end hd; simp; omega
    show P_K1p_b1 p0 _ ()
    exact x_K1p_b1_0 p0 H rec i1 hc1
  | x1 :: r1, i1, hd => by
    obtain ⟨hx1, hi1, hd'⟩ := drop_get hd
    have hc1 : (decide ((i1 : Int) < ((List.length p0.fields) : Int))) = true := by simp; omega
    show P_K1p_b1 p0 _ ()
    exact P_K1p_b1_mono p0 (fun r hr => n_K1p_b1_1 p0 H rec x1 i1 hx1 hi1 hc1 hr) _ (lt_K1p_b1 p0 H rec r1 (i1 + 1) hd')
theorem r_K1p (p0 : Val) (H : H_K1p p0) (rec : Rec_K1p p0) : Tells G (c_K1p p0) (a_K1p p0) := by
  unfold a_K1p
  rw [e_K1p]
  have hl0 := lt_K1p_b0 p0 ((give_K1p p0 H).2.1) rec p0.list 0 (by simp)
  obtain ⟨z0, zo0, hl0⟩ := hl0
  have hl1 := lt_K1p_b1 p0 ((give_K1p p0 H).2.2.2.1) rec p0.fields 0 (by simp)
  obtain ⟨z1, zo1, hl1⟩ := hl1
  exact tells_VI (fn := Ir.K1p) rfl VOK.nil [hQ (Val.rowsView p0.list 5 rfl), hS 0 true (Val.rowsView p0.list 5 rfl), hQ (Fld.rowsView p0.fields 6 rfl), hS 0 true (Fld.rowsView p0.fields 6 rfl), hS 0 true (Val.rowsView p0.list 5 rfl), hQ (Val.rowsLen p0.list).symm, hQ (Fld.rowsLen p0.fields).symm] [aV [(0, Val.rows p0.list)] (tells_clone (G := G) (f := 63) (sz := 5) (bytes := 80) rfl (Val.rowsLen p0.list) (Val.rowsView p0.list 5 rfl) (give_K1p p0 H).1), aV [(2, Val.rows p0.list)] hl0, aV [(0, Fld.rows p0.fields)] (tells_clone (G := G) (f := 49) (sz := 6) (bytes := 96) rfl (Fld.rowsLen p0.fields) (Fld.rowsView p0.fields 6 rfl) (give_K1p p0 H).2.2.1), aV [(2, Fld.rows p0.fields), (3, Val.rows p0.list)] hl1] (by kernel_rfl)
theorem i_K1p : ∀ (k : Nat) (p0 : Val), SizeOf.sizeOf p0 < k → H_K1p p0 → Tells G (c_K1p p0) (a_K1p p0)
  | 0, _, h, _ => absurd h (Nat.not_lt_zero _)
  | k + 1, p0, h, H => r_K1p p0 H (fun q hq hH => i_K1p k q (by omega) hH)
theorem t_K1p (p0 : Val) (H : H_K1p p0) : Tells G (c_K1p p0) (a_K1p p0) := i_K1p _ p0 (Nat.lt_succ_self _) H
inductive R_K1e_b0 where
  | k0
  | k1 (q0 : Val)
def l_K1e_b0 (p0 : Val) (p1 : ByteArray) : List Fld → Nat → R_K1e_b0
  | [], _i0 =>
    (.k0)
  | x0 :: r0, i0 =>
    bif (sEq x0.name p1) then
      (.k1 x0.v)
    else
      l_K1e_b0 p0 p1 r0 (i0 + 1)
def HE_K1e_b0 (p0 : Val) (p1 : ByteArray) (i0 : Nat) : List PV :=
  [.un, .str p1, .un, .un, .bx 0 0, .un, .un, .un, .un, .un, .un, .un, .sl (Fld.rows p0.fields), .int .i64 ((List.length p0.fields) : Int), .int .i64 (i0 : Int), .un, .un, .un, .un, .un, .un, .un, .un, .un, .un, .un, .un]
def HO_K1e_b0 (_p0 : Val) (_p1 : ByteArray) (_i0 : Nat) : List Ob :=
  [⟨5, 0, true, [.int .i64 0, .int .i64 0, .str (⟨#[]⟩ : ByteArray), .ms 1 5 0 0, .ms 2 6 0 0]⟩, ⟨5, 0, true, []⟩, ⟨6, 0, true, []⟩]
def E_K1e_b0 (p0 : Val) (p1 : ByteArray) (i0 : Nat) : En := .loop 0 Ir.K1e_b0_live Ir.K1e_b0 (HE_K1e_b0 p0 p1 i0) (HO_K1e_b0 p0 p1 i0)
def S_K1e_b0_0 (_p0 : Val) (_p1 : ByteArray) (z : Nat → PV) (_zo : Nat → List PV) : St :=
  ⟨[z 0, z 1, z 2, z 3, .bx 0 0, z 5, z 6, z 7, z 8, z 9, z 10, z 11, z 12, z 13, z 14, z 15, z 16, z 17, z 18, z 19, z 20, z 21, z 22, z 23, z 24, z 25, z 26], [(0, ⟨5, 0, true, [.int .i64 0, .int .i64 0, .str (⟨#[]⟩ : ByteArray), .ms 1 5 0 0, .ms 2 6 0 0]⟩), (1, ⟨5, 0, true, []⟩), (2, ⟨6, 0, true, []⟩)], 67⟩
def S_K1e_b0_1 (_p0 : Val) (_p1 : ByteArray) (q0 : Val) (z : Nat → PV) (zo : Nat → List PV) : St :=
  ⟨[z 0, z 1, z 2, z 3, .bx 0 0, .bool true, z 6, z 7, z 8, z 9, z 10, z 11, z 12, z 13, z 14, z 15, z 16, z 17, z 18, z 19, z 20, z 21, z 22, z 23, z 24, z 25, z 26], [(0, ⟨5, 0, true, [.int .i64 q0.kind, .int .i64 q0.n, .str q0.s, .sl (Val.rows q0.list), .sl (Fld.rows q0.fields)]⟩), (1, ⟨5, 0, true, zo 1⟩), (2, ⟨6, 0, true, zo 2⟩), (195, ⟨6, 0, true, zo 195⟩)], 899⟩
def P_K1e_b0 (p0 : Val) (p1 : ByteArray) (e : En) : R_K1e_b0 → Prop
  | .k0 => ∃ z zo, Tells G e (.st (.exit 0) (S_K1e_b0_0 p0 p1 z zo))
  | .k1 q0 => ∃ z zo, Tells G e (.st .ret (S_K1e_b0_1 p0 p1 q0 z zo))
theorem P_K1e_b0_mono (p0 : Val) (p1 : ByteArray) {e e' : En} (h : ∀ r, Tells G e r → Tells G e' r) : ∀ q, P_K1e_b0 p0 p1 e q → P_K1e_b0 p0 p1 e' q
  | .k0, ⟨z, zo, hz⟩ => ⟨z, zo, h _ hz⟩
  | .k1 _, ⟨z, zo, hz⟩ => ⟨z, zo, h _ hz⟩
def H_K1e_b0 (p0 : Val) (_p1 : ByteArray) : Prop := (List.length p0.fields ≤ 4611686018427387904) ∧ (∀ x0 ∈ p0.fields, H_K1p x0.v) ∧ True
def Z_K1e_b0_0 (p0 : Val) (p1 : ByteArray) (i0 : Nat) : List PV :=
  [.un, .str p1, .un, .un, .un, .un, .un, .un, .un, .un, .un, .un, .sl (Fld.rows p0.fields), .int .i64 ((List.length p0.fields) : Int), .int .i64 (i0 : Int), .bool false]
def ZO_K1e_b0_0 (_p0 : Val) (_p1 : ByteArray) (_i0 : Nat) : List (Nat × List PV) :=
  []
theorem x_K1e_b0_0 (p0 : Val) (p1 : ByteArray) (_H : H_K1e_b0 p0 p1) (i0 : Nat) (hc0 : (decide ((i0 : Int) < ((List.length p0.fields) : Int))) = false) : P_K1e_b0 p0 p1 (E_K1e_b0 p0 p1 i0) (.k0) := by
  exact ⟨(envF (Z_K1e_b0_0 p0 p1 i0)), (zoF (ZO_K1e_b0_0 p0 p1 i0)), tells_outVI VOK.nil (x := ((.exit 0), S_K1e_b0_0 p0 p1 (envF (Z_K1e_b0_0 p0 p1 i0)) (zoF (ZO_K1e_b0_0 p0 p1 i0)))) [hB 0 hc0] [] (by kernel_rfl)⟩
def Z_K1e_b0_1 (p0 : Val) (p1 : ByteArray) (i0 : Nat) (x0 : Fld) : List PV :=
  [.un, .str p1, .un, .un, .un, .un, .un, .bx 195 0, .un, .un, .un, .un, .sl (Fld.rows p0.fields), .int .i64 ((List.length p0.fields) : Int), .int .i64 (i0 : Int), .bool true, .rf [.str x0.name, .int .i64 x0.v.kind, .int .i64 x0.v.n, .str x0.v.s, .sl (Val.rows x0.v.list), .sl (Fld.rows x0.v.fields)], .agg [.str x0.name, .int .i64 x0.v.kind, .int .i64 x0.v.n, .str x0.v.s, .sl (Val.rows x0.v.list), .sl (Fld.rows x0.v.fields)], .bx 195 0, .str x0.name, .str p1, .bool true, .bx 195 1, .agg [.int .i64 x0.v.kind, .int .i64 x0.v.n, .str x0.v.s, .sl (Val.rows x0.v.list), .sl (Fld.rows x0.v.fields)], .agg [.int .i64 x0.v.kind, .int .i64 x0.v.n, .str x0.v.s, .sl (Val.rows x0.v.list), .sl (Fld.rows x0.v.fields)]]
def ZO_K1e_b0_1 (_p0 : Val) (_p1 : ByteArray) (_i0 : Nat) (x0 : Fld) : List (Nat × List PV) :=
  [(1, []), (2, []), (195, [.str x0.name, .int .i64 x0.v.kind, .int .i64 x0.v.n, .str x0.v.s, .sl (Val.rows x0.v.list), .sl (Fld.rows x0.v.fields)])]
theorem x_K1e_b0_1 (p0 : Val) (p1 : ByteArray) (H : H_K1e_b0 p0 p1) (x0 : Fld) (i0 : Nat) (hx0 : p0.fields[i0]? = some x0) (_hi0 : i0 < List.length p0.fields) (hc0 : (decide ((i0 : Int) < ((List.length p0.fields) : Int))) = true) (h0 : (sEq x0.name p1) = true) : P_K1e_b0 p0 p1 (E_K1e_b0 p0 p1 i0) (.k1 x0.v) := by
  exact ⟨(envF (Z_K1e_b0_1 p0 p1 i0 x0)), (zoF (ZO_K1e_b0_1 p0 p1 i0 x0)), tells_outVI VOK.nil (x := (.ret, S_K1e_b0_1 p0 p1 x0.v (envF (Z_K1e_b0_1 p0 p1 i0 x0)) (zoF (ZO_K1e_b0_1 p0 p1 i0 x0)))) [hB 0 hc0, hP 0 (ix_ok 6 (Fld.rows p0.fields) i0 _ (Fld.rowsGet hx0) rfl), hB 6 h0] [aN (t_K1p x0.v (H.2.1 x0 (mem_get hx0)))] (by kernel_rfl)⟩
theorem n_K1e_b0_2 (p0 : Val) (p1 : ByteArray) (H : H_K1e_b0 p0 p1) (x0 : Fld) (i0 : Nat) (hx0 : p0.fields[i0]? = some x0) (hi0 : i0 < List.length p0.fields) (hc0 : (decide ((i0 : Int) < ((List.length p0.fields) : Int))) = true) (h0 : (sEq x0.name p1) = false) {r : Rs} (hr : Tells G (E_K1e_b0 p0 p1 (i0 + 1)) r) : Tells G (E_K1e_b0 p0 p1 i0) r := by
  have hB0 := H.1
  exact tells_nextVI VOK.nil (y := (HE_K1e_b0 p0 p1 (i0 + 1), HO_K1e_b0 p0 p1 (i0 + 1))) [hB 0 hc0, hP 0 (ix_ok 6 (Fld.rows p0.fields) i0 _ (Fld.rowsGet hx0) rfl), hB 6 h0, hP 0 (inc_ok i0 (by omega))] [] (by kernel_rfl) hr
theorem lt_K1e_b0 (p0 : Val) (p1 : ByteArray) (H : H_K1e_b0 p0 p1) : ∀ (r0 : List Fld) (i0 : Nat), List.drop i0 p0.fields = r0 → P_K1e_b0 p0 p1 (E_K1e_b0 p0 p1 i0) (l_K1e_b0 p0 p1 r0 i0)
  | [], i0, hd => by
    have hc0 : (decide ((i0 : Int) < ((List.length p0.fields) : Int))) = false := by have := drop_end hd; simp; omega
    rw [l_K1e_b0]
    exact x_K1e_b0_0 p0 p1 H i0 hc0
  | x0 :: r0, i0, hd => by
    obtain ⟨hx0, hi0, hd'⟩ := drop_get hd
    have hc0 : (decide ((i0 : Int) < ((List.length p0.fields) : Int))) = true := by simp; omega
    rw [l_K1e_b0]
    cases h0 : (sEq x0.name p1) with
    | true =>
     exact x_K1e_b0_1 p0 p1 H x0 i0 hx0 hi0 hc0 h0
    | false =>
     exact P_K1e_b0_mono p0 p1 (fun r hr => n_K1e_b0_2 p0 p1 H x0 i0 hx0 hi0 hc0 h0 hr) _ (lt_K1e_b0 p0 p1 H r0 (i0 + 1) hd')
def s_K1e (p0 : Val) (p1 : ByteArray) : Val × Bool :=
  bif (p0.kind == 5) then
    (match (l_K1e_b0 p0 p1 p0.fields 0) with
    | .k0 => ((Val.mk 0 0 (⟨#[]⟩ : ByteArray) [] []), false)
    | .k1 y1_0 => (y1_0, true))
  else
    ((Val.mk 0 0 (⟨#[]⟩ : ByteArray) [] []), false)
def c_K1e (p0 : Val) (p1 : ByteArray) : En := .call 31 [.agg (Val.cells p0), .str p1] []
def a_K1e (p0 : Val) (p1 : ByteArray) : Rs := .ret (.tup [.agg (Val.cells (s_K1e p0 p1).1), .bool (s_K1e p0 p1).2]) []
def H_K1e (p0 : Val) (p1 : ByteArray) : Prop := (H_K1e_b0 p0 p1) ∧ True
theorem t_K1e (p0 : Val) (p1 : ByteArray) (H : H_K1e p0 p1) : Tells G (c_K1e p0 p1) (a_K1e p0 p1) := by
  unfold a_K1e s_K1e
  cases h0 : (p0.kind == 5) with
  | true =>
   have hl1 := lt_K1e_b0 p0 p1 (H.1) p0.fields 0 (by simp)
   cases hr1 : (l_K1e_b0 p0 p1 p0.fields 0) with
   | k0 =>
     rw [hr1] at hl1
     obtain ⟨z1, zo1, hl1⟩ := hl1
     exact tells_VI (fn := Ir.K1e) rfl VOK.nil [hB 5 h0, hP 2 (len_ok (Fld.rows p0.fields) (List.length p0.fields) (Fld.rowsLen p0.fields))] [aN hl1] (by kernel_rfl)
   | k1 y1_0 =>
     rw [hr1] at hl1
     obtain ⟨z1, zo1, hl1⟩ := hl1
     exact tells_VI (fn := Ir.K1e) rfl VOK.nil [hB 5 h0, hP 2 (len_ok (Fld.rows p0.fields) (List.length p0.fields) (Fld.rowsLen p0.fields))] [aN hl1] (by kernel_rfl)
  | false =>
   exact tells_VI (fn := Ir.K1e) rfl VOK.nil [hB 5 h0] [] (by kernel_rfl)
def s_K1s (p0 : Fld) (o0 : ByteArray) : Bool :=
  (sEq p0.name o0)
def c_K1s (p0 : Fld) (o0 : ByteArray) : En := .call 66 [.agg (Fld.cells p0), .bx 0 0] [⟨1, 0, false, [.str o0]⟩]
def r_K1s (_p0 : Fld) (o0 : ByteArray) (q0 : Bool) : Rs := .ret (.bool q0) [⟨1, 0, false, [.str o0]⟩]
def a_K1s (p0 : Fld) (o0 : ByteArray) : Rs := r_K1s p0 o0 (s_K1s p0 o0)
theorem t_K1s (p0 : Fld) (o0 : ByteArray) : Tells G (c_K1s p0 o0) (a_K1s p0 o0) := by
  unfold a_K1s s_K1s
  exact tells_VI (fn := Ir.K1s) rfl (h := [⟨1, 0, false, [.str o0]⟩]) (vw := []) VOK.nil [] [] (by kernel_rfl)
inductive R_K11_b0 where
  | k0
  | k1 (q0 : Int)
def l_K11_b0 (p0 : List Fld) (o0 : ByteArray) : List Fld → Nat → R_K11_b0
  | [], _i0 =>
    (.k0)
  | x0 :: r0, i0 =>
    bif (s_K1s x0 o0) then
      (.k1 (i0 : Int))
    else
      l_K11_b0 p0 o0 r0 (i0 + 1)
def HE_K11_b0 (p0 : List Fld) (_o0 : ByteArray) (i0 : Nat) : List PV :=
  [.sl (Fld.rows p0), .fn 66 [] [.bx 0 0], .un, .un, .un, .un, .un, .int .i64 ((List.length p0) : Int), .int .i64 (i0 : Int), .un, .un, .un, .un, .un, .un, .un, .un, .un, .un]
def HO_K11_b0 (_p0 : List Fld) (o0 : ByteArray) (_i0 : Nat) : List Ob :=
  [⟨1, 0, false, [.str o0]⟩]
def E_K11_b0 (p0 : List Fld) (o0 : ByteArray) (i0 : Nat) : En := .loop 1 Ir.K11_b0_live Ir.K11_b0 (HE_K11_b0 p0 o0 i0) (HO_K11_b0 p0 o0 i0)
def S_K11_b0_0 (_p0 : List Fld) (o0 : ByteArray) (z : Nat → PV) (_zo : Nat → List PV) : St :=
  ⟨[z 0, z 1, z 2, z 3, z 4, z 5, z 6, z 7, z 8, z 9, z 10, z 11, z 12, z 13, z 14, z 15, z 16, z 17, z 18], [(0, ⟨1, 0, false, [.str o0]⟩)], 65⟩
def S_K11_b0_1 (_p0 : List Fld) (o0 : ByteArray) (q0 : Int) (z : Nat → PV) (_zo : Nat → List PV) : St :=
  ⟨[z 0, z 1, z 2, z 3, .int .i64 q0, z 5, z 6, z 7, z 8, z 9, z 10, z 11, z 12, z 13, z 14, z 15, z 16, z 17, z 18], [(0, ⟨1, 0, false, [.str o0]⟩)], 705⟩
def P_K11_b0 (p0 : List Fld) (o0 : ByteArray) (e : En) : R_K11_b0 → Prop
  | .k0 => ∃ z zo, Tells G e (.st (.exit 0) (S_K11_b0_0 p0 o0 z zo))
  | .k1 q0 => ∃ z zo, Tells G e (.st .ret (S_K11_b0_1 p0 o0 q0 z zo))
theorem P_K11_b0_mono (p0 : List Fld) (o0 : ByteArray) {e e' : En} (h : ∀ r, Tells G e r → Tells G e' r) : ∀ q, P_K11_b0 p0 o0 e q → P_K11_b0 p0 o0 e' q
  | .k0, ⟨z, zo, hz⟩ => ⟨z, zo, h _ hz⟩
  | .k1 _, ⟨z, zo, hz⟩ => ⟨z, zo, h _ hz⟩
def H_K11_b0 (p0 : List Fld) (_o0 : ByteArray) : Prop := (List.length p0 ≤ 4611686018427387904) ∧ True
def Z_K11_b0_0 (p0 : List Fld) (_o0 : ByteArray) (i0 : Nat) : List PV :=
  [.sl (Fld.rows p0), .fn 66 [] [.bx 0 0], .un, .un, .un, .un, .un, .int .i64 ((List.length p0) : Int), .int .i64 (i0 : Int), .bool false]
def ZO_K11_b0_0 (_p0 : List Fld) (_o0 : ByteArray) (_i0 : Nat) : List (Nat × List PV) :=
  []
theorem x_K11_b0_0 (p0 : List Fld) (o0 : ByteArray) (_H : H_K11_b0 p0 o0) (i0 : Nat) (hc0 : (decide ((i0 : Int) < ((List.length p0) : Int))) = false) : P_K11_b0 p0 o0 (E_K11_b0 p0 o0 i0) (.k0) := by
  exact ⟨(envF (Z_K11_b0_0 p0 o0 i0)), (zoF (ZO_K11_b0_0 p0 o0 i0)), tells_outVI VOK.nil (x := ((.exit 0), S_K11_b0_0 p0 o0 (envF (Z_K11_b0_0 p0 o0 i0)) (zoF (ZO_K11_b0_0 p0 o0 i0)))) [hB 0 hc0] [] (by kernel_rfl)⟩
def Z_K11_b0_1 (p0 : List Fld) (_o0 : ByteArray) (i0 : Nat) (x0 : Fld) : List PV :=
  [.sl (Fld.rows p0), .fn 66 [] [.bx 0 0], .un, .un, .un, .int .i64 (i0 : Int), .un, .int .i64 ((List.length p0) : Int), .int .i64 (i0 : Int), .bool true, .int .i64 (i0 : Int), .fn 66 [] [.bx 0 0], .sl (Fld.rows p0), .int .i64 (i0 : Int), .rf [.str x0.name, .int .i64 x0.v.kind, .int .i64 x0.v.n, .str x0.v.s, .sl (Val.rows x0.v.list), .sl (Fld.rows x0.v.fields)], .agg [.str x0.name, .int .i64 x0.v.kind, .int .i64 x0.v.n, .str x0.v.s, .sl (Val.rows x0.v.list), .sl (Fld.rows x0.v.fields)], .bool true, .int .i64 (i0 : Int)]
def ZO_K11_b0_1 (_p0 : List Fld) (_o0 : ByteArray) (_i0 : Nat) (_x0 : Fld) : List (Nat × List PV) :=
  []
theorem x_K11_b0_1 (p0 : List Fld) (o0 : ByteArray) (_H : H_K11_b0 p0 o0) (x0 : Fld) (i0 : Nat) (hx0 : p0[i0]? = some x0) (_hi0 : i0 < List.length p0) (hc0 : (decide ((i0 : Int) < ((List.length p0) : Int))) = true) (h0 : (s_K1s x0 o0) = true) : P_K11_b0 p0 o0 (E_K11_b0 p0 o0 i0) (.k1 (i0 : Int)) := by
  exact ⟨(envF (Z_K11_b0_1 p0 o0 i0 x0)), (zoF (ZO_K11_b0_1 p0 o0 i0 x0)), tells_outVI VOK.nil (x := (.ret, S_K11_b0_1 p0 o0 (i0 : Int) (envF (Z_K11_b0_1 p0 o0 i0 x0)) (zoF (ZO_K11_b0_1 p0 o0 i0 x0)))) [hB 0 hc0, hP 5 (ix_ok 6 (Fld.rows p0) i0 _ (Fld.rowsGet hx0) rfl)] [aN (toldOf (t_K1s x0 o0) (congrArg (fun b => r_K1s x0 o0 b) h0))] (by kernel_rfl)⟩
theorem n_K11_b0_2 (p0 : List Fld) (o0 : ByteArray) (H : H_K11_b0 p0 o0) (x0 : Fld) (i0 : Nat) (hx0 : p0[i0]? = some x0) (hi0 : i0 < List.length p0) (hc0 : (decide ((i0 : Int) < ((List.length p0) : Int))) = true) (h0 : (s_K1s x0 o0) = false) {r : Rs} (hr : Tells G (E_K11_b0 p0 o0 (i0 + 1)) r) : Tells G (E_K11_b0 p0 o0 i0) r := by
  have hB0 := H.1
  exact tells_nextVI VOK.nil (y := (HE_K11_b0 p0 o0 (i0 + 1), HO_K11_b0 p0 o0 (i0 + 1))) [hB 0 hc0, hP 5 (ix_ok 6 (Fld.rows p0) i0 _ (Fld.rowsGet hx0) rfl), hP 2 (inc_ok i0 (by omega))] [aN (toldOf (t_K1s x0 o0) (congrArg (fun b => r_K1s x0 o0 b) h0))] (by kernel_rfl) hr
theorem lt_K11_b0 (p0 : List Fld) (o0 : ByteArray) (H : H_K11_b0 p0 o0) : ∀ (r0 : List Fld) (i0 : Nat), List.drop i0 p0 = r0 → P_K11_b0 p0 o0 (E_K11_b0 p0 o0 i0) (l_K11_b0 p0 o0 r0 i0)
  | [], i0, hd => by
    have hc0 : (decide ((i0 : Int) < ((List.length p0) : Int))) = false := by have := drop_end hd; simp; omega
    rw [l_K11_b0]
    exact x_K11_b0_0 p0 o0 H i0 hc0
  | x0 :: r0, i0, hd => by
    obtain ⟨hx0, hi0, hd'⟩ := drop_get hd
    have hc0 : (decide ((i0 : Int) < ((List.length p0) : Int))) = true := by simp; omega
    rw [l_K11_b0]
    cases h0 : (s_K1s x0 o0) with
    | true =>
     exact x_K11_b0_1 p0 o0 H x0 i0 hx0 hi0 hc0 h0
    | false =>
     exact P_K11_b0_mono p0 o0 (fun r hr => n_K11_b0_2 p0 o0 H x0 i0 hx0 hi0 hc0 h0 hr) _ (lt_K11_b0 p0 o0 H r0 (i0 + 1) hd')
/-- slices.IndexFunc[[]orchestrator/ api.Field,orchestrator/ api.Field] -/
def s_K11 (p0 : List Fld) (o0 : ByteArray) : Int :=
  (match (l_K11_b0 p0 o0 p0 0) with
  | .k0 => (-1)
  | .k1 y0_0 => y0_0)
def c_K11 (p0 : List Fld) (o0 : ByteArray) : En := .call 72 [.sl (Fld.rows p0), .fn 66 [] [.bx 0 0]] [⟨1, 0, false, [.str o0]⟩]
def r_K11 (_p0 : List Fld) (o0 : ByteArray) (q0 : Int) : Rs := .ret (.int .i64 q0) [⟨1, 0, false, [.str o0]⟩]
def a_K11 (p0 : List Fld) (o0 : ByteArray) : Rs := r_K11 p0 o0 (s_K11 p0 o0)
def H_K11 (p0 : List Fld) (o0 : ByteArray) : Prop := (H_K11_b0 p0 o0) ∧ True
theorem t_K11 (p0 : List Fld) (o0 : ByteArray) (H : H_K11 p0 o0) : Tells G (c_K11 p0 o0) (a_K11 p0 o0) := by
  unfold a_K11 s_K11
  have hl0 := lt_K11_b0 p0 o0 (H.1) p0 0 (by simp)
  cases hr0 : (l_K11_b0 p0 o0 p0 0) with
  | k0 =>
    rw [hr0] at hl0
    obtain ⟨z0, zo0, hl0⟩ := hl0
    exact tells_VI (fn := Ir.K11) rfl (h := [⟨1, 0, false, [.str o0]⟩]) (vw := []) VOK.nil [hP 2 (len_ok (Fld.rows p0) (List.length p0) (Fld.rowsLen p0))] [aN hl0] (by kernel_rfl)
  | k1 y0_0 =>
    rw [hr0] at hl0
    obtain ⟨z0, zo0, hl0⟩ := hl0
    exact tells_VI (fn := Ir.K11) rfl (h := [⟨1, 0, false, [.str o0]⟩]) (vw := []) VOK.nil [hP 2 (len_ok (Fld.rows p0) (List.length p0) (Fld.rowsLen p0))] [aN hl0] (by kernel_rfl)
theorem indexFunc_b0 (p0 : List Fld) (o0 : ByteArray) : ∀ (l : List Fld) (i : Nat), match l_K11_b0 p0 o0 l i with | .k0 => True | .k1 q => (i : Int) ≤ q ∧ q < (i : Int) + (l.length : Int)
  | [], _ => trivial
  | x :: l, i => by
    rw [l_K11_b0]
    have ih := indexFunc_b0 p0 o0 l (i + 1)
    cases s_K1s x o0 with
    | true =>
      show (i : Int) ≤ (i : Int) ∧ (i : Int) < _
      simp only [List.length_cons]
      omega
    | false =>
      rw [cond_false]
      cases e : l_K11_b0 p0 o0 l (i + 1) with
      | k0 => trivial
      | k1 q =>
        rw [e] at ih
        simp only at ih ⊢
        simp only [List.length_cons]
        omega
theorem indexFunc_post (p0 : List Fld) (o0 : ByteArray) : -1 ≤ s_K11 p0 o0 ∧ s_K11 p0 o0 < (List.length p0 : Int) := by
  have h := indexFunc_b0 p0 o0 p0 0
  unfold s_K11
  cases e : l_K11_b0 p0 o0 p0 0 with
  | k0 => exact ⟨Int.le_refl _, by simp only; omega⟩
  | k1 q =>
    rw [e] at h
    simp only at h ⊢
    omega
def l_K10_b0 (n0 : Nat) (o1 : ByteArray) : Nat → Int → Int → (List Fld) → (List Fld) × Int
  | 0, v0_0, _v0_1, v0_2 => (v0_2, v0_0)
  | k0 + 1, v0_0, v0_1, v0_2 =>
    bif (decide (v0_1 < (n0 : Int))) then
      bif (s_K1s (List.getD v0_2 (Int.toNat v0_1) (Fld.mk (⟨#[]⟩ : ByteArray) (Val.mk 0 0 (⟨#[]⟩ : ByteArray) [] []))) o1) then
        l_K10_b0 n0 o1 k0 v0_0 (v0_1 + 1) v0_2
      else
        l_K10_b0 n0 o1 k0 (v0_0 + 1) (v0_1 + 1) (List.set v0_2 (Int.toNat v0_0) (List.getD v0_2 (Int.toNat v0_1) (Fld.mk (⟨#[]⟩ : ByteArray) (Val.mk 0 0 (⟨#[]⟩ : ByteArray) [] []))))
    else
      (v0_2, v0_0)
def HE_K10_b0 (n0 : Nat) (_o1 : ByteArray) (v0_0 : Int) (v0_1 : Int) (_v0_2 : List Fld) : List PV :=
  [.ms 0 6 0 n0, .fn 66 [] [.bx 1 0], .un, .un, .un, .int .i64 v0_0, .int .i64 v0_1, .un, .un, .un, .un, .un, .un, .un, .un, .un, .un, .un, .un, .un, .un, .un, .un, .un, .un, .un, .un, .un, .un, .un, .un, .un, .un, .un, .un, .un, .un, .un, .un, .un, .un, .un]
def HO_K10_b0 (_n0 : Nat) (o1 : ByteArray) (_v0_0 : Int) (_v0_1 : Int) (v0_2 : List Fld) : List Ob :=
  [⟨6, 0, false, (Fld.rows v0_2).flatten⟩, ⟨1, 0, false, [.str o1]⟩]
def E_K10_b0 (n0 : Nat) (o1 : ByteArray) (v0_0 : Int) (v0_1 : Int) (v0_2 : List Fld) : En := .loop 2 Ir.K10_b0_live Ir.K10_b0 (HE_K10_b0 n0 o1 v0_0 v0_1 v0_2) (HO_K10_b0 n0 o1 v0_0 v0_1 v0_2)
def S_K10_b0_0 (n0 : Nat) (o1 : ByteArray) (q0 : List Fld) (q1 : Int) (z : Nat → PV) (_zo : Nat → List PV) : St :=
  ⟨[.ms 0 6 0 n0, z 1, z 2, z 3, z 4, .int .i64 q1, z 6, z 7, z 8, z 9, z 10, z 11, z 12, z 13, z 14, z 15, z 16, z 17, z 18, z 19, z 20, z 21, z 22, z 23, z 24, z 25, z 26, z 27, z 28, z 29, z 30, z 31, z 32, z 33, z 34, z 35, z 36, z 37, z 38, z 39, z 40, z 41], [(0, ⟨6, 0, false, (Fld.rows q0).flatten⟩), (1, ⟨1, 0, false, [.str o1]⟩)], 258⟩
theorem V_K10_b0 (n0 : Nat) (o1 : ByteArray) (v0_0 : Int) (v0_1 : Int) (v0_2 : List Fld) : VOK (Go.Pv.look (number 0 (HO_K10_b0 n0 o1 v0_0 v0_1 v0_2))) [(0, Fld.rows v0_2)] := (VOK.cons (show Seen _ _ from seenV (ob := ⟨6, 0, false, (Fld.rows v0_2).flatten⟩) (Fld.rowsView v0_2 6 rfl)) VOK.nil)
def P_K10_b0 (n0 : Nat) (o1 : ByteArray) (e : En) (q : (List Fld) × Int) : Prop := ∃ z zo, Tells G e (.st (.exit 0) (S_K10_b0_0 n0 o1 q.1 q.2 z zo))
theorem P_K10_b0_mono (n0 : Nat) (o1 : ByteArray) {e e' : En} (h : ∀ r, Tells G e r → Tells G e' r) : ∀ q, P_K10_b0 n0 o1 e q → P_K10_b0 n0 o1 e' q
  | _, ⟨z, zo, hz⟩ => ⟨z, zo, h _ hz⟩
theorem n_K10_b0_0 (n0 : Nat) (o1 : ByteArray) (v0_0 : Int) (v0_1 : Int) (v0_2 : List Fld) (ho0_0 : 0 ≤ v0_0) (ho0_1 : v0_0 < v0_1) (_ho0_2 : v0_1 ≤ (n0 : Int)) (ho0_3 : (n0 : Int) ≤ 1152921504606846976) (ho0_4 : List.length v0_2 = n0) (h0 : (decide (v0_1 < (n0 : Int))) = true) (h1 : (s_K1s (List.getD v0_2 (Int.toNat v0_1) (Fld.mk (⟨#[]⟩ : ByteArray) (Val.mk 0 0 (⟨#[]⟩ : ByteArray) [] []))) o1) = true) {r : Rs} (hr : Tells G (E_K10_b0 n0 o1 v0_0 (v0_1 + 1) v0_2) r) : Tells G (E_K10_b0 n0 o1 v0_0 v0_1 v0_2) r := by
  have e0 := of_decide_eq_true h0
  exact tells_nextVI (V_K10_b0 n0 o1 v0_0 v0_1 v0_2) (y := (HE_K10_b0 n0 o1 v0_0 (v0_1 + 1) v0_2, HO_K10_b0 n0 o1 v0_0 (v0_1 + 1) v0_2)) [hB 3 h0, hP 2 (ixs_ok 0 6 n0 v0_1 (Int.toNat v0_1) rfl (by omega) (by omega)), hP 0 (ld_ok 0 6 0 false ((Fld.rows v0_2).flatten) (Fld.rows v0_2) 6 true (Int.toNat v0_1) 0 ((Int.toNat v0_1) * 6) (Fld.cells (List.getD v0_2 (Int.toNat v0_1) (Fld.mk (⟨#[]⟩ : ByteArray) (Val.mk 0 0 (⟨#[]⟩ : ByteArray) [] [])))) (.agg [.str (List.getD v0_2 (Int.toNat v0_1) (Fld.mk (⟨#[]⟩ : ByteArray) (Val.mk 0 0 (⟨#[]⟩ : ByteArray) [] []))).name, .int .i64 (List.getD v0_2 (Int.toNat v0_1) (Fld.mk (⟨#[]⟩ : ByteArray) (Val.mk 0 0 (⟨#[]⟩ : ByteArray) [] []))).v.kind, .int .i64 (List.getD v0_2 (Int.toNat v0_1) (Fld.mk (⟨#[]⟩ : ByteArray) (Val.mk 0 0 (⟨#[]⟩ : ByteArray) [] []))).v.n, .str (List.getD v0_2 (Int.toNat v0_1) (Fld.mk (⟨#[]⟩ : ByteArray) (Val.mk 0 0 (⟨#[]⟩ : ByteArray) [] []))).v.s, .sl (Val.rows (List.getD v0_2 (Int.toNat v0_1) (Fld.mk (⟨#[]⟩ : ByteArray) (Val.mk 0 0 (⟨#[]⟩ : ByteArray) [] []))).v.list), .sl (Fld.rows (List.getD v0_2 (Int.toNat v0_1) (Fld.mk (⟨#[]⟩ : ByteArray) (Val.mk 0 0 (⟨#[]⟩ : ByteArray) [] []))).v.fields)]) rfl rfl (Fld.rowsGet (getD_ok v0_2 (Int.toNat v0_1) (Fld.mk (⟨#[]⟩ : ByteArray) (Val.mk 0 0 (⟨#[]⟩ : ByteArray) [] [])) (by omega))) (Fld.rowsSize v0_2) (by decide) rfl), hP 7 (w_ok (v0_1 + 1) (by omega))] [aN (toldOf (t_K1s (List.getD v0_2 (Int.toNat v0_1) (Fld.mk (⟨#[]⟩ : ByteArray) (Val.mk 0 0 (⟨#[]⟩ : ByteArray) [] []))) o1) (congrArg (fun b => r_K1s (List.getD v0_2 (Int.toNat v0_1) (Fld.mk (⟨#[]⟩ : ByteArray) (Val.mk 0 0 (⟨#[]⟩ : ByteArray) [] []))) o1 b) h1))] (by kernel_rfl) hr
theorem n_K10_b0_1 (n0 : Nat) (o1 : ByteArray) (v0_0 : Int) (v0_1 : Int) (v0_2 : List Fld) (ho0_0 : 0 ≤ v0_0) (ho0_1 : v0_0 < v0_1) (_ho0_2 : v0_1 ≤ (n0 : Int)) (ho0_3 : (n0 : Int) ≤ 1152921504606846976) (ho0_4 : List.length v0_2 = n0) (h0 : (decide (v0_1 < (n0 : Int))) = true) (h1 : (s_K1s (List.getD v0_2 (Int.toNat v0_1) (Fld.mk (⟨#[]⟩ : ByteArray) (Val.mk 0 0 (⟨#[]⟩ : ByteArray) [] []))) o1) = false) {r : Rs} (hr : Tells G (E_K10_b0 n0 o1 (v0_0 + 1) (v0_1 + 1) (List.set v0_2 (Int.toNat v0_0) (List.getD v0_2 (Int.toNat v0_1) (Fld.mk (⟨#[]⟩ : ByteArray) (Val.mk 0 0 (⟨#[]⟩ : ByteArray) [] []))))) r) : Tells G (E_K10_b0 n0 o1 v0_0 v0_1 v0_2) r := by
  have e0 := of_decide_eq_true h0
  exact tells_nextVI (V_K10_b0 n0 o1 v0_0 v0_1 v0_2) (y := (HE_K10_b0 n0 o1 (v0_0 + 1) (v0_1 + 1) (List.set v0_2 (Int.toNat v0_0) (List.getD v0_2 (Int.toNat v0_1) (Fld.mk (⟨#[]⟩ : ByteArray) (Val.mk 0 0 (⟨#[]⟩ : ByteArray) [] [])))), HO_K10_b0 n0 o1 (v0_0 + 1) (v0_1 + 1) (List.set v0_2 (Int.toNat v0_0) (List.getD v0_2 (Int.toNat v0_1) (Fld.mk (⟨#[]⟩ : ByteArray) (Val.mk 0 0 (⟨#[]⟩ : ByteArray) [] [])))))) [hB 3 h0, hP 2 (ixs_ok 0 6 n0 v0_1 (Int.toNat v0_1) rfl (by omega) (by omega)), hP 0 (ld_ok 0 6 0 false ((Fld.rows v0_2).flatten) (Fld.rows v0_2) 6 true (Int.toNat v0_1) 0 ((Int.toNat v0_1) * 6) (Fld.cells (List.getD v0_2 (Int.toNat v0_1) (Fld.mk (⟨#[]⟩ : ByteArray) (Val.mk 0 0 (⟨#[]⟩ : ByteArray) [] [])))) (.agg [.str (List.getD v0_2 (Int.toNat v0_1) (Fld.mk (⟨#[]⟩ : ByteArray) (Val.mk 0 0 (⟨#[]⟩ : ByteArray) [] []))).name, .int .i64 (List.getD v0_2 (Int.toNat v0_1) (Fld.mk (⟨#[]⟩ : ByteArray) (Val.mk 0 0 (⟨#[]⟩ : ByteArray) [] []))).v.kind, .int .i64 (List.getD v0_2 (Int.toNat v0_1) (Fld.mk (⟨#[]⟩ : ByteArray) (Val.mk 0 0 (⟨#[]⟩ : ByteArray) [] []))).v.n, .str (List.getD v0_2 (Int.toNat v0_1) (Fld.mk (⟨#[]⟩ : ByteArray) (Val.mk 0 0 (⟨#[]⟩ : ByteArray) [] []))).v.s, .sl (Val.rows (List.getD v0_2 (Int.toNat v0_1) (Fld.mk (⟨#[]⟩ : ByteArray) (Val.mk 0 0 (⟨#[]⟩ : ByteArray) [] []))).v.list), .sl (Fld.rows (List.getD v0_2 (Int.toNat v0_1) (Fld.mk (⟨#[]⟩ : ByteArray) (Val.mk 0 0 (⟨#[]⟩ : ByteArray) [] []))).v.fields)]) rfl rfl (Fld.rowsGet (getD_ok v0_2 (Int.toNat v0_1) (Fld.mk (⟨#[]⟩ : ByteArray) (Val.mk 0 0 (⟨#[]⟩ : ByteArray) [] [])) (by omega))) (Fld.rowsSize v0_2) (by decide) rfl), hP 9 (ixs_ok 0 6 n0 v0_0 (Int.toNat v0_0) rfl (by omega) (by omega)), hV 0 [(0, Fld.rows (List.set v0_2 (Int.toNat v0_0) (List.getD v0_2 (Int.toNat v0_1) (Fld.mk (⟨#[]⟩ : ByteArray) (Val.mk 0 0 (⟨#[]⟩ : ByteArray) [] [])))))] (st_ok 0 6 false ((Fld.rows v0_2).flatten) (Fld.rows v0_2) (Fld.rows (List.set v0_2 (Int.toNat v0_0) (List.getD v0_2 (Int.toNat v0_1) (Fld.mk (⟨#[]⟩ : ByteArray) (Val.mk 0 0 (⟨#[]⟩ : ByteArray) [] []))))) 6 (Int.toNat v0_0) 0 ((Int.toNat v0_0) * 6) _ (.agg [.str (List.getD v0_2 (Int.toNat v0_1) (Fld.mk (⟨#[]⟩ : ByteArray) (Val.mk 0 0 (⟨#[]⟩ : ByteArray) [] []))).name, .int .i64 (List.getD v0_2 (Int.toNat v0_1) (Fld.mk (⟨#[]⟩ : ByteArray) (Val.mk 0 0 (⟨#[]⟩ : ByteArray) [] []))).v.kind, .int .i64 (List.getD v0_2 (Int.toNat v0_1) (Fld.mk (⟨#[]⟩ : ByteArray) (Val.mk 0 0 (⟨#[]⟩ : ByteArray) [] []))).v.n, .str (List.getD v0_2 (Int.toNat v0_1) (Fld.mk (⟨#[]⟩ : ByteArray) (Val.mk 0 0 (⟨#[]⟩ : ByteArray) [] []))).v.s, .sl (Val.rows (List.getD v0_2 (Int.toNat v0_1) (Fld.mk (⟨#[]⟩ : ByteArray) (Val.mk 0 0 (⟨#[]⟩ : ByteArray) [] []))).v.list), .sl (Fld.rows (List.getD v0_2 (Int.toNat v0_1) (Fld.mk (⟨#[]⟩ : ByteArray) (Val.mk 0 0 (⟨#[]⟩ : ByteArray) [] []))).v.fields)]) rfl rfl (Fld.rowsGet (getD_ok v0_2 (Int.toNat v0_0) (Fld.mk (⟨#[]⟩ : ByteArray) (Val.mk 0 0 (⟨#[]⟩ : ByteArray) [] [])) (by omega))) (Fld.rowsSize v0_2) (by decide) rfl rfl (Fld.rowsSet v0_2 (Int.toNat v0_0) (List.getD v0_2 (Int.toNat v0_1) (Fld.mk (⟨#[]⟩ : ByteArray) (Val.mk 0 0 (⟨#[]⟩ : ByteArray) [] []))))), hS 0 false (Fld.rowsView (List.set v0_2 (Int.toNat v0_0) (List.getD v0_2 (Int.toNat v0_1) (Fld.mk (⟨#[]⟩ : ByteArray) (Val.mk 0 0 (⟨#[]⟩ : ByteArray) [] [])))) 6 rfl), hP 1 (w_ok (v0_0 + 1) (by have f0 := (lenSet ho0_4 (Int.toNat v0_0) (List.getD v0_2 (Int.toNat v0_1) (Fld.mk (⟨#[]⟩ : ByteArray) (Val.mk 0 0 (⟨#[]⟩ : ByteArray) [] [])))); omega)), hP 2 (w_ok (v0_1 + 1) (by have f0 := (lenSet ho0_4 (Int.toNat v0_0) (List.getD v0_2 (Int.toNat v0_1) (Fld.mk (⟨#[]⟩ : ByteArray) (Val.mk 0 0 (⟨#[]⟩ : ByteArray) [] [])))); omega))] [aN (toldOf (t_K1s (List.getD v0_2 (Int.toNat v0_1) (Fld.mk (⟨#[]⟩ : ByteArray) (Val.mk 0 0 (⟨#[]⟩ : ByteArray) [] []))) o1) (congrArg (fun b => r_K1s (List.getD v0_2 (Int.toNat v0_1) (Fld.mk (⟨#[]⟩ : ByteArray) (Val.mk 0 0 (⟨#[]⟩ : ByteArray) [] []))) o1 b) h1))] (by kernel_rfl) hr
def Z_K10_b0_2 (n0 : Nat) (_o1 : ByteArray) (_v0_0 : Int) (v0_1 : Int) (_v0_2 : List Fld) : List PV :=
  [.un, .fn 66 [] [.bx 1 0], .un, .un, .un, .un, .int .i64 v0_1, .un, .un, .un, .un, .un, .un, .un, .un, .un, .int .i64 v0_1, .ms 0 6 0 n0, .int .i64 (n0 : Int), .bool false]
def ZO_K10_b0_2 (_n0 : Nat) (_o1 : ByteArray) (_v0_0 : Int) (_v0_1 : Int) (_v0_2 : List Fld) : List (Nat × List PV) :=
  []
theorem x_K10_b0_2 (n0 : Nat) (o1 : ByteArray) (v0_0 : Int) (v0_1 : Int) (v0_2 : List Fld) (_ho0_0 : 0 ≤ v0_0) (_ho0_1 : v0_0 < v0_1) (_ho0_2 : v0_1 ≤ (n0 : Int)) (_ho0_3 : (n0 : Int) ≤ 1152921504606846976) (_ho0_4 : List.length v0_2 = n0) (h0 : (decide (v0_1 < (n0 : Int))) = false) : P_K10_b0 n0 o1 (E_K10_b0 n0 o1 v0_0 v0_1 v0_2) (v0_2, v0_0) := by
  exact ⟨(envF (Z_K10_b0_2 n0 o1 v0_0 v0_1 v0_2)), (zoF (ZO_K10_b0_2 n0 o1 v0_0 v0_1 v0_2)), tells_outVI (V_K10_b0 n0 o1 v0_0 v0_1 v0_2) (x := ((.exit 0), S_K10_b0_0 n0 o1 v0_2 v0_0 (envF (Z_K10_b0_2 n0 o1 v0_0 v0_1 v0_2)) (zoF (ZO_K10_b0_2 n0 o1 v0_0 v0_1 v0_2)))) [hB 3 h0] [] (by kernel_rfl)⟩
theorem lt_K10_b0 (n0 : Nat) (o1 : ByteArray) : ∀ (k0 : Nat) (v0_0 : Int) (v0_1 : Int) (v0_2 : List Fld), 0 ≤ v0_0 → v0_0 < v0_1 → v0_1 ≤ (n0 : Int) → (n0 : Int) ≤ 1152921504606846976 → List.length v0_2 = n0 → Int.toNat ((n0 : Int) - v0_1) < k0 → P_K10_b0 n0 o1 (E_K10_b0 n0 o1 v0_0 v0_1 v0_2) (l_K10_b0 n0 o1 k0 v0_0 v0_1 v0_2)
  | 0, v0_0, v0_1, v0_2, _, _, _, _, _, hm => absurd hm (Nat.not_lt_zero _)
  | k0 + 1, v0_0, v0_1, v0_2, ho0_0, ho0_1, ho0_2, ho0_3, ho0_4, hm => by
    rw [l_K10_b0]
    cases h0 : (decide (v0_1 < (n0 : Int))) with
    | true =>
     have e0 := of_decide_eq_true h0
     cases h1 : (s_K1s (List.getD v0_2 (Int.toNat v0_1) (Fld.mk (⟨#[]⟩ : ByteArray) (Val.mk 0 0 (⟨#[]⟩ : ByteArray) [] []))) o1) with
     | true =>
      exact P_K10_b0_mono n0 o1 (fun r hr => n_K10_b0_0 n0 o1 v0_0 v0_1 v0_2 ho0_0 ho0_1 ho0_2 ho0_3 ho0_4 h0 h1 hr) _ (lt_K10_b0 n0 o1 k0 v0_0 (v0_1 + 1) v0_2 (by omega) (by omega) (by omega) (by omega) ho0_4 (by omega))
     | false =>
      exact P_K10_b0_mono n0 o1 (fun r hr => n_K10_b0_1 n0 o1 v0_0 v0_1 v0_2 ho0_0 ho0_1 ho0_2 ho0_3 ho0_4 h0 h1 hr) _ (lt_K10_b0 n0 o1 k0 (v0_0 + 1) (v0_1 + 1) (List.set v0_2 (Int.toNat v0_0) (List.getD v0_2 (Int.toNat v0_1) (Fld.mk (⟨#[]⟩ : ByteArray) (Val.mk 0 0 (⟨#[]⟩ : ByteArray) [] [])))) (by have f0 := (lenSet ho0_4 (Int.toNat v0_0) (List.getD v0_2 (Int.toNat v0_1) (Fld.mk (⟨#[]⟩ : ByteArray) (Val.mk 0 0 (⟨#[]⟩ : ByteArray) [] [])))); omega) (by have f0 := (lenSet ho0_4 (Int.toNat v0_0) (List.getD v0_2 (Int.toNat v0_1) (Fld.mk (⟨#[]⟩ : ByteArray) (Val.mk 0 0 (⟨#[]⟩ : ByteArray) [] [])))); omega) (by have f0 := (lenSet ho0_4 (Int.toNat v0_0) (List.getD v0_2 (Int.toNat v0_1) (Fld.mk (⟨#[]⟩ : ByteArray) (Val.mk 0 0 (⟨#[]⟩ : ByteArray) [] [])))); omega) (by have f0 := (lenSet ho0_4 (Int.toNat v0_0) (List.getD v0_2 (Int.toNat v0_1) (Fld.mk (⟨#[]⟩ : ByteArray) (Val.mk 0 0 (⟨#[]⟩ : ByteArray) [] [])))); omega) (lenSet ho0_4 (Int.toNat v0_0) (List.getD v0_2 (Int.toNat v0_1) (Fld.mk (⟨#[]⟩ : ByteArray) (Val.mk 0 0 (⟨#[]⟩ : ByteArray) [] [])))) (by have f0 := (lenSet ho0_4 (Int.toNat v0_0) (List.getD v0_2 (Int.toNat v0_1) (Fld.mk (⟨#[]⟩ : ByteArray) (Val.mk 0 0 (⟨#[]⟩ : ByteArray) [] [])))); omega))
    | false =>
     exact x_K10_b0_2 n0 o1 v0_0 v0_1 v0_2 ho0_0 ho0_1 ho0_2 ho0_3 ho0_4 h0
theorem ll_K10_b0_0 (n0 : Nat) (o1 : ByteArray) : ∀ (k0 : Nat) (v0_0 : Int) (v0_1 : Int) (v0_2 : List Fld), List.length v0_2 = n0 → List.length (l_K10_b0 n0 o1 k0 v0_0 v0_1 v0_2).1 = n0
  | 0, v0_0, v0_1, v0_2, ho0_4 => by rw [l_K10_b0]; exact ho0_4
  | k0 + 1, v0_0, v0_1, v0_2, ho0_4 => by
    rw [l_K10_b0]
    cases h0 : (decide (v0_1 < (n0 : Int))) with
    | true =>
     cases h1 : (s_K1s (List.getD v0_2 (Int.toNat v0_1) (Fld.mk (⟨#[]⟩ : ByteArray) (Val.mk 0 0 (⟨#[]⟩ : ByteArray) [] []))) o1) with
     | true =>
      exact ll_K10_b0_0 n0 o1 k0 v0_0 (v0_1 + 1) v0_2 ho0_4
     | false =>
      exact ll_K10_b0_0 n0 o1 k0 (v0_0 + 1) (v0_1 + 1) (List.set v0_2 (Int.toNat v0_0) (List.getD v0_2 (Int.toNat v0_1) (Fld.mk (⟨#[]⟩ : ByteArray) (Val.mk 0 0 (⟨#[]⟩ : ByteArray) [] [])))) (lenSet ho0_4 (Int.toNat v0_0) (List.getD v0_2 (Int.toNat v0_1) (Fld.mk (⟨#[]⟩ : ByteArray) (Val.mk 0 0 (⟨#[]⟩ : ByteArray) [] []))))
    | false =>
     exact ho0_4
theorem pl_K10_b0 (n0 : Nat) (o1 : ByteArray) : ∀ (k0 : Nat) (v0_0 : Int) (v0_1 : Int) (v0_2 : List Fld), 0 ≤ v0_0 → v0_0 < v0_1 → v0_1 ≤ (n0 : Int) → (n0 : Int) ≤ 1152921504606846976 → List.length v0_2 = n0 → Int.toNat ((n0 : Int) - v0_1) < k0 → 0 ≤ (l_K10_b0 n0 o1 k0 v0_0 v0_1 v0_2).2 ∧ (l_K10_b0 n0 o1 k0 v0_0 v0_1 v0_2).2 < (n0 : Int)
  | 0, v0_0, v0_1, v0_2, _, _, _, _, _, hm => absurd hm (Nat.not_lt_zero _)
  | k0 + 1, v0_0, v0_1, v0_2, ho0_0, ho0_1, ho0_2, ho0_3, ho0_4, hm => by
    rw [l_K10_b0]
    cases h0 : (decide (v0_1 < (n0 : Int))) with
    | true =>
     have e0 := of_decide_eq_true h0
     cases h1 : (s_K1s (List.getD v0_2 (Int.toNat v0_1) (Fld.mk (⟨#[]⟩ : ByteArray) (Val.mk 0 0 (⟨#[]⟩ : ByteArray) [] []))) o1) with
     | true =>
      exact pl_K10_b0 n0 o1 k0 v0_0 (v0_1 + 1) v0_2 (by omega) (by omega) (by omega) (by omega) ho0_4 (by omega)
     | false =>
      exact pl_K10_b0 n0 o1 k0 (v0_0 + 1) (v0_1 + 1) (List.set v0_2 (Int.toNat v0_0) (List.getD v0_2 (Int.toNat v0_1) (Fld.mk (⟨#[]⟩ : ByteArray) (Val.mk 0 0 (⟨#[]⟩ : ByteArray) [] [])))) (by have f0 := (lenSet ho0_4 (Int.toNat v0_0) (List.getD v0_2 (Int.toNat v0_1) (Fld.mk (⟨#[]⟩ : ByteArray) (Val.mk 0 0 (⟨#[]⟩ : ByteArray) [] [])))); omega) (by have f0 := (lenSet ho0_4 (Int.toNat v0_0) (List.getD v0_2 (Int.toNat v0_1) (Fld.mk (⟨#[]⟩ : ByteArray) (Val.mk 0 0 (⟨#[]⟩ : ByteArray) [] [])))); omega) (by have f0 := (lenSet ho0_4 (Int.toNat v0_0) (List.getD v0_2 (Int.toNat v0_1) (Fld.mk (⟨#[]⟩ : ByteArray) (Val.mk 0 0 (⟨#[]⟩ : ByteArray) [] [])))); omega) (by have f0 := (lenSet ho0_4 (Int.toNat v0_0) (List.getD v0_2 (Int.toNat v0_1) (Fld.mk (⟨#[]⟩ : ByteArray) (Val.mk 0 0 (⟨#[]⟩ : ByteArray) [] [])))); omega) (lenSet ho0_4 (Int.toNat v0_0) (List.getD v0_2 (Int.toNat v0_1) (Fld.mk (⟨#[]⟩ : ByteArray) (Val.mk 0 0 (⟨#[]⟩ : ByteArray) [] [])))) (by have f0 := (lenSet ho0_4 (Int.toNat v0_0) (List.getD v0_2 (Int.toNat v0_1) (Fld.mk (⟨#[]⟩ : ByteArray) (Val.mk 0 0 (⟨#[]⟩ : ByteArray) [] [])))); omega)
    | false =>
     have e0 := of_decide_eq_false h0
     exact (show 0 ≤ v0_0 ∧ v0_0 < (n0 : Int) from ⟨(by omega), (by omega)⟩)
/-- slices.DeleteFunc[[]orchestrator/ api.Field,orchestrator/ api.Field] -/
def s_K10 (n0 : Nat) (o0 : List Fld) (o1 : ByteArray) : Nat × (List Fld) :=
  bif ((s_K11 o0 o1) == (-1)) then
    (n0, o0)
  else
    ((Int.toNat (l_K10_b0 n0 o1 ((Int.toNat ((n0 : Int) - ((s_K11 o0 o1) + 1))) + 1) (s_K11 o0 o1) ((s_K11 o0 o1) + 1) o0).2), (List.take (Int.toNat (l_K10_b0 n0 o1 ((Int.toNat ((n0 : Int) - ((s_K11 o0 o1) + 1))) + 1) (s_K11 o0 o1) ((s_K11 o0 o1) + 1) o0).2) (l_K10_b0 n0 o1 ((Int.toNat ((n0 : Int) - ((s_K11 o0 o1) + 1))) + 1) (s_K11 o0 o1) ((s_K11 o0 o1) + 1) o0).1))
def c_K10 (n0 : Nat) (o0 : List Fld) (o1 : ByteArray) : En := .call 65 [.ms 0 6 0 n0, .fn 66 [] [.bx 1 0]] [⟨6, 0, false, (Fld.rows o0).flatten⟩, ⟨1, 0, false, [.str o1]⟩]
def r_K10 (_n0 : Nat) (_o0 : List Fld) (o1 : ByteArray) (q0 : Nat) (q1 : List Fld) : Rs := .ret (.ms 0 6 0 q0) [⟨6, 0, false, (Fld.rows q1).flatten⟩, ⟨1, 0, false, [.str o1]⟩]
def a_K10 (n0 : Nat) (o0 : List Fld) (o1 : ByteArray) : Rs := r_K10 n0 o0 o1 (s_K10 n0 o0 o1).1 (s_K10 n0 o0 o1).2
def H_K10 (_n0 : Nat) (o0 : List Fld) (o1 : ByteArray) : Prop := (H_K11 o0 o1) ∧ True
theorem t_K10 (n0 : Nat) (o0 : List Fld) (o1 : ByteArray) (hn0 : List.length o0 = n0) (hq0 : (n0 : Int) ≤ 1152921504606846976) (H : H_K10 n0 o0 o1) : Tells G (c_K10 n0 o0 o1) (a_K10 n0 o0 o1) := by
  unfold a_K10 s_K10
  cases h0 : ((s_K11 o0 o1) == (-1)) with
  | true =>
   exact tells_VI (fn := Ir.K10) rfl (h := [⟨6, 0, false, (Fld.rows o0).flatten⟩, ⟨1, 0, false, [.str o1]⟩]) (vw := [(0, Fld.rows o0)]) (VOK.cons (show Seen _ _ from seenV (ob := ⟨6, 0, false, (Fld.rows o0).flatten⟩) (Fld.rowsView o0 6 rfl)) VOK.nil) [hQ ((Fld.rowsLen o0).trans hn0).symm, hB 6 h0] [aN (t_K11 o0 o1 H.1)] (by kernel_rfl)
  | false =>
   have e0 := beq_eq_false_iff_ne.1 h0
   have hl1 := lt_K10_b0 n0 o1 ((Int.toNat ((n0 : Int) - ((s_K11 o0 o1) + 1))) + 1) (s_K11 o0 o1) ((s_K11 o0 o1) + 1) o0 (by have g0 := (indexFunc_post o0 o1); omega) (by have g0 := (indexFunc_post o0 o1); omega) (by have g0 := (indexFunc_post o0 o1); omega) (by have g0 := (indexFunc_post o0 o1); omega) hn0 (by omega)
   obtain ⟨z1, zo1, hl1⟩ := hl1
   exact tells_VI (fn := Ir.K10) rfl (h := [⟨6, 0, false, (Fld.rows o0).flatten⟩, ⟨1, 0, false, [.str o1]⟩]) (vw := [(0, Fld.rows o0)]) (VOK.cons (show Seen _ _ from seenV (ob := ⟨6, 0, false, (Fld.rows o0).flatten⟩) (Fld.rowsView o0 6 rfl)) VOK.nil) [hQ ((Fld.rowsLen o0).trans hn0).symm, hB 6 h0, hP 1 (w_ok ((s_K11 o0 o1) + 1) (by have g0 := (indexFunc_post o0 o1); omega)), hS 0 false (Fld.rowsView (l_K10_b0 n0 o1 ((Int.toNat ((n0 : Int) - ((s_K11 o0 o1) + 1))) + 1) (s_K11 o0 o1) ((s_K11 o0 o1) + 1) o0).1 6 rfl), hP 3 (dropm_ok 0 6 n0 (l_K10_b0 n0 o1 ((Int.toNat ((n0 : Int) - ((s_K11 o0 o1) + 1))) + 1) (s_K11 o0 o1) ((s_K11 o0 o1) + 1) o0).2 (by have f0 := (ll_K10_b0_0 n0 o1 ((Int.toNat ((n0 : Int) - ((s_K11 o0 o1) + 1))) + 1) (s_K11 o0 o1) ((s_K11 o0 o1) + 1) o0 hn0); have g0 := (indexFunc_post o0 o1); have g1 := pl_K10_b0 n0 o1 ((Int.toNat ((n0 : Int) - ((s_K11 o0 o1) + 1))) + 1) (s_K11 o0 o1) ((s_K11 o0 o1) + 1) o0 (by have g0 := (indexFunc_post o0 o1); omega) (by have g0 := (indexFunc_post o0 o1); omega) (by have g0 := (indexFunc_post o0 o1); omega) (by have g0 := (indexFunc_post o0 o1); omega) hn0 (by omega); omega) (by have f0 := (ll_K10_b0_0 n0 o1 ((Int.toNat ((n0 : Int) - ((s_K11 o0 o1) + 1))) + 1) (s_K11 o0 o1) ((s_K11 o0 o1) + 1) o0 hn0); have g0 := (indexFunc_post o0 o1); have g1 := pl_K10_b0 n0 o1 ((Int.toNat ((n0 : Int) - ((s_K11 o0 o1) + 1))) + 1) (s_K11 o0 o1) ((s_K11 o0 o1) + 1) o0 (by have g0 := (indexFunc_post o0 o1); omega) (by have g0 := (indexFunc_post o0 o1); omega) (by have g0 := (indexFunc_post o0 o1); omega) (by have g0 := (indexFunc_post o0 o1); omega) hn0 (by omega); omega)), hV 0 [(0, Fld.rows (List.take (Int.toNat (l_K10_b0 n0 o1 ((Int.toNat ((n0 : Int) - ((s_K11 o0 o1) + 1))) + 1) (s_K11 o0 o1) ((s_K11 o0 o1) + 1) o0).2) (l_K10_b0 n0 o1 ((Int.toNat ((n0 : Int) - ((s_K11 o0 o1) + 1))) + 1) (s_K11 o0 o1) ((s_K11 o0 o1) + 1) o0).1))] (clr_ok 0 6 false (Fld.rows (l_K10_b0 n0 o1 ((Int.toNat ((n0 : Int) - ((s_K11 o0 o1) + 1))) + 1) (s_K11 o0 o1) ((s_K11 o0 o1) + 1) o0).1) (Fld.rows (List.take (Int.toNat (l_K10_b0 n0 o1 ((Int.toNat ((n0 : Int) - ((s_K11 o0 o1) + 1))) + 1) (s_K11 o0 o1) ((s_K11 o0 o1) + 1) o0).2) (l_K10_b0 n0 o1 ((Int.toNat ((n0 : Int) - ((s_K11 o0 o1) + 1))) + 1) (s_K11 o0 o1) ((s_K11 o0 o1) + 1) o0).1)) (Int.toNat (l_K10_b0 n0 o1 ((Int.toNat ((n0 : Int) - ((s_K11 o0 o1) + 1))) + 1) (s_K11 o0 o1) ((s_K11 o0 o1) + 1) o0).2) (n0 - (Int.toNat (l_K10_b0 n0 o1 ((Int.toNat ((n0 : Int) - ((s_K11 o0 o1) + 1))) + 1) (s_K11 o0 o1) ((s_K11 o0 o1) + 1) o0).2)) [.str (⟨#[]⟩ : ByteArray), .int .i64 0, .int .i64 0, .str (⟨#[]⟩ : ByteArray), .ns 5, .ns 6] (Fld.rowsSize (l_K10_b0 n0 o1 ((Int.toNat ((n0 : Int) - ((s_K11 o0 o1) + 1))) + 1) (s_K11 o0 o1) ((s_K11 o0 o1) + 1) o0).1) (by rw [Fld.rowsLen]; exact (by have f0 := (ll_K10_b0_0 n0 o1 ((Int.toNat ((n0 : Int) - ((s_K11 o0 o1) + 1))) + 1) (s_K11 o0 o1) ((s_K11 o0 o1) + 1) o0 hn0); have g0 := (indexFunc_post o0 o1); have g1 := pl_K10_b0 n0 o1 ((Int.toNat ((n0 : Int) - ((s_K11 o0 o1) + 1))) + 1) (s_K11 o0 o1) ((s_K11 o0 o1) + 1) o0 (by have g0 := (indexFunc_post o0 o1); omega) (by have g0 := (indexFunc_post o0 o1); omega) (by have g0 := (indexFunc_post o0 o1); omega) (by have g0 := (indexFunc_post o0 o1); omega) hn0 (by omega); omega)) (by have f0 := (ll_K10_b0_0 n0 o1 ((Int.toNat ((n0 : Int) - ((s_K11 o0 o1) + 1))) + 1) (s_K11 o0 o1) ((s_K11 o0 o1) + 1) o0 hn0); have g0 := (indexFunc_post o0 o1); have g1 := pl_K10_b0 n0 o1 ((Int.toNat ((n0 : Int) - ((s_K11 o0 o1) + 1))) + 1) (s_K11 o0 o1) ((s_K11 o0 o1) + 1) o0 (by have g0 := (indexFunc_post o0 o1); omega) (by have g0 := (indexFunc_post o0 o1); omega) (by have g0 := (indexFunc_post o0 o1); omega) (by have g0 := (indexFunc_post o0 o1); omega) hn0 (by omega); omega) (by rw [Fld.rowsTake])), hS 0 false (Fld.rowsView (List.take (Int.toNat (l_K10_b0 n0 o1 ((Int.toNat ((n0 : Int) - ((s_K11 o0 o1) + 1))) + 1) (s_K11 o0 o1) ((s_K11 o0 o1) + 1) o0).2) (l_K10_b0 n0 o1 ((Int.toNat ((n0 : Int) - ((s_K11 o0 o1) + 1))) + 1) (s_K11 o0 o1) ((s_K11 o0 o1) + 1) o0).1) 6 rfl), hP 2 (takem_ok 0 6 n0 (l_K10_b0 n0 o1 ((Int.toNat ((n0 : Int) - ((s_K11 o0 o1) + 1))) + 1) (s_K11 o0 o1) ((s_K11 o0 o1) + 1) o0).2 (by have g0 := (indexFunc_post o0 o1); have g1 := pl_K10_b0 n0 o1 ((Int.toNat ((n0 : Int) - ((s_K11 o0 o1) + 1))) + 1) (s_K11 o0 o1) ((s_K11 o0 o1) + 1) o0 (by have g0 := (indexFunc_post o0 o1); omega) (by have g0 := (indexFunc_post o0 o1); omega) (by have g0 := (indexFunc_post o0 o1); omega) (by have g0 := (indexFunc_post o0 o1); omega) hn0 (by omega); omega) (by have g0 := (indexFunc_post o0 o1); have g1 := pl_K10_b0 n0 o1 ((Int.toNat ((n0 : Int) - ((s_K11 o0 o1) + 1))) + 1) (s_K11 o0 o1) ((s_K11 o0 o1) + 1) o0 (by have g0 := (indexFunc_post o0 o1); omega) (by have g0 := (indexFunc_post o0 o1); omega) (by have g0 := (indexFunc_post o0 o1); omega) (by have g0 := (indexFunc_post o0 o1); omega) hn0 (by omega); omega))] [aN (t_K11 o0 o1 H.1), aV [(0, Fld.rows (l_K10_b0 n0 o1 ((Int.toNat ((n0 : Int) - ((s_K11 o0 o1) + 1))) + 1) (s_K11 o0 o1) ((s_K11 o0 o1) + 1) o0).1)] hl1] (by kernel_rfl)
def s_K1r (p0 : Val) (p1 : ByteArray) : Nat × (List Fld) :=
  bif (p0.kind == 5) then
    ((s_K10 (List.length p0.fields) p0.fields p1).1, (s_K10 (List.length p0.fields) p0.fields p1).2)
  else
    (0, [])
def c_K1r (p0 : Val) (p1 : ByteArray) : En := .call 54 [.agg (Val.cells p0), .str p1] []
def r_K1r (_p0 : Val) (_p1 : ByteArray) (q0 : Nat) (q1 : List Fld) : Rs := .ret (.ms 0 6 0 q0) [⟨6, 0, true, (Fld.rows q1).flatten⟩]
def a_K1r (p0 : Val) (p1 : ByteArray) : Rs := r_K1r p0 p1 (s_K1r p0 p1).1 (s_K1r p0 p1).2
def H_K1r (p0 : Val) (p1 : ByteArray) : Prop := (List.length p0.fields * 96 ≤ 140737488355328) ∧ ((p0.kind == 5) = true → ((List.length p0.fields) : Int) ≤ 1152921504606846976) ∧ (H_K10 (List.length p0.fields) p0.fields p1) ∧ True
theorem t_K1r (p0 : Val) (p1 : ByteArray) (H : H_K1r p0 p1) : Tells G (c_K1r p0 p1) (a_K1r p0 p1) := by
  unfold a_K1r s_K1r
  cases h0 : (p0.kind == 5) with
  | true =>
   exact tells_VI (fn := Ir.K1r) rfl VOK.nil [hP 5 (dec (!(p0.kind == 5)) false (by rw [h0]; rfl)), hQ (Fld.rowsView p0.fields 6 rfl), hQ (Fld.rowsView (s_K10 (List.length p0.fields) p0.fields p1).2 6 rfl)] [aV [(0, Fld.rows p0.fields)] (tells_clone (G := G) (f := 49) (sz := 6) (bytes := 96) rfl (Fld.rowsLen p0.fields) (Fld.rowsView p0.fields 6 rfl) H.1), aV [(0, Fld.rows (s_K10 (List.length p0.fields) p0.fields p1).2)] (t_K10 (List.length p0.fields) p0.fields p1 rfl (H.2.1 h0) H.2.2.1)] (by kernel_rfl)
  | false =>
   exact tells_VI (fn := Ir.K1r) rfl VOK.nil [hP 5 (dec (!(p0.kind == 5)) true (by rw [h0]; rfl))] [] (by kernel_rfl)
end Go.Proofs.Ytedohmdgbilicaa
end

section
/- What building a map computes (printed by a program). -/
namespace Go.Proofs.Ytedohmdgbilicaa
open Go.Pv
def s_K1i (p0 : Fld) (p1 : Fld) : Int :=
  (s_K18 p0.name p1.name)
def c_K1i (p0 : Fld) (p1 : Fld) : En := .call 51 [.agg (Fld.cells p0), .agg (Fld.cells p1)] []
def a_K1i (p0 : Fld) (p1 : Fld) : Rs := .ret (.int .i64 (s_K1i p0 p1)) []
theorem t_K1i (p0 : Fld) (p1 : Fld) : Tells G (c_K1i p0 p1) (a_K1i p0 p1) := by
  unfold a_K1i s_K1i
  exact tells_VI (fn := Ir.K1i) rfl VOK.nil [] [aN (t_K18 p0.name p1.name)] (by kernel_rfl)
def l_K13_b1 (n0 : Nat) (p1 : Int) (p2 : Int) (v0_0 : Int) : Nat → (List Fld) → Int → List Fld
  | 0, v1_0, _v1_1 => v1_0
  | k1 + 1, v1_0, v1_1 =>
    bif (decide (p1 < v1_1)) then
      bif (decide ((s_K1i (List.getD v1_0 (Int.toNat v1_1) (Fld.mk (⟨#[]⟩ : ByteArray) (Val.mk 0 0 (⟨#[]⟩ : ByteArray) [] []))) (List.getD v1_0 (Int.toNat (v1_1 - 1)) (Fld.mk (⟨#[]⟩ : ByteArray) (Val.mk 0 0 (⟨#[]⟩ : ByteArray) [] [])))) < 0)) then
        l_K13_b1 n0 p1 p2 v0_0 k1 (List.set (List.set v1_0 (Int.toNat v1_1) (List.getD v1_0 (Int.toNat (v1_1 - 1)) (Fld.mk (⟨#[]⟩ : ByteArray) (Val.mk 0 0 (⟨#[]⟩ : ByteArray) [] [])))) (Int.toNat (v1_1 - 1)) (List.getD v1_0 (Int.toNat v1_1) (Fld.mk (⟨#[]⟩ : ByteArray) (Val.mk 0 0 (⟨#[]⟩ : ByteArray) [] [])))) (v1_1 - 1)
      else
        v1_0
    else
      v1_0
def HE_K13_b1 (n0 : Nat) (p1 : Int) (p2 : Int) (v0_0 : Int) (_v1_0 : List Fld) (v1_1 : Int) : List PV :=
  [.ms 0 6 0 n0, .int .i64 p1, .int .i64 p2, .fn 51 [] [], .un, .un, .un, .un, .int .i64 v0_0, .int .i64 v1_1, .un, .un, .un, .un, .un, .un, .un, .un, .un, .un, .un, .un, .un, .un, .un, .un, .un, .un, .un, .un, .un, .un, .un, .un, .un, .un, .un, .un, .un, .un, .un, .un, .un, .un, .un, .un, .un, .un, .un, .un, .un, .un, .un]
def HO_K13_b1 (_n0 : Nat) (_p1 : Int) (_p2 : Int) (_v0_0 : Int) (v1_0 : List Fld) (_v1_1 : Int) : List Ob :=
  [⟨6, 0, false, (Fld.rows v1_0).flatten⟩]
def E_K13_b1 (n0 : Nat) (p1 : Int) (p2 : Int) (v0_0 : Int) (v1_0 : List Fld) (v1_1 : Int) : En := .loop 1 Ir.K13_b1_live Ir.K13_b1 (HE_K13_b1 n0 p1 p2 v0_0 v1_0 v1_1) (HO_K13_b1 n0 p1 p2 v0_0 v1_0 v1_1)
def S_K13_b1_0 (n0 : Nat) (p1 : Int) (p2 : Int) (v0_0 : Int) (q0 : List Fld) (z : Nat → PV) (_zo : Nat → List PV) : St :=
  ⟨[.ms 0 6 0 n0, .int .i64 p1, .int .i64 p2, .fn 51 [] [], z 4, z 5, z 6, z 7, .int .i64 v0_0, z 9, z 10, z 11, z 12, z 13, z 14, z 15, z 16, z 17, z 18, z 19, z 20, z 21, z 22, z 23, z 24, z 25, z 26, z 27, z 28, z 29, z 30, z 31, z 32, z 33, z 34, z 35, z 36, z 37, z 38, z 39, z 40, z 41, z 42, z 43, z 44, z 45, z 46, z 47, z 48, z 49, z 50, z 51, z 52], [(0, ⟨6, 0, false, (Fld.rows q0).flatten⟩)], 1089⟩
theorem V_K13_b1 (n0 : Nat) (p1 : Int) (p2 : Int) (v0_0 : Int) (v1_0 : List Fld) (v1_1 : Int) : VOK (Go.Pv.look (number 0 (HO_K13_b1 n0 p1 p2 v0_0 v1_0 v1_1))) [(0, Fld.rows v1_0)] := (VOK.cons (show Seen _ _ from seenV (ob := ⟨6, 0, false, (Fld.rows v1_0).flatten⟩) (Fld.rowsView v1_0 6 rfl)) VOK.nil)
def P_K13_b1 (n0 : Nat) (p1 : Int) (p2 : Int) (v0_0 : Int) (e : En) (q : List Fld) : Prop := ∃ z zo, Tells G e (.st (.exit 2) (S_K13_b1_0 n0 p1 p2 v0_0 q z zo))
theorem P_K13_b1_mono (n0 : Nat) (p1 : Int) (p2 : Int) (v0_0 : Int) {e e' : En} (h : ∀ r, Tells G e r → Tells G e' r) : ∀ q, P_K13_b1 n0 p1 p2 v0_0 e q → P_K13_b1 n0 p1 p2 v0_0 e' q
  | _, ⟨z, zo, hz⟩ => ⟨z, zo, h _ hz⟩
theorem n_K13_b1_0 (n0 : Nat) (p1 : Int) (p2 : Int) (v0_0 : Int) (v1_0 : List Fld) (v1_1 : Int) (ho1_0 : 0 ≤ p1) (_ho1_1 : p1 ≤ v1_1) (ho1_2 : v1_1 < n0) (ho1_3 : (n0 : Int) ≤ 1152921504606846976) (ho1_4 : List.length v1_0 = n0) (h0 : (decide (p1 < v1_1)) = true) (h1 : (decide ((s_K1i (List.getD v1_0 (Int.toNat v1_1) (Fld.mk (⟨#[]⟩ : ByteArray) (Val.mk 0 0 (⟨#[]⟩ : ByteArray) [] []))) (List.getD v1_0 (Int.toNat (v1_1 - 1)) (Fld.mk (⟨#[]⟩ : ByteArray) (Val.mk 0 0 (⟨#[]⟩ : ByteArray) [] [])))) < 0)) = true) {r : Rs} (hr : Tells G (E_K13_b1 n0 p1 p2 v0_0 (List.set (List.set v1_0 (Int.toNat v1_1) (List.getD v1_0 (Int.toNat (v1_1 - 1)) (Fld.mk (⟨#[]⟩ : ByteArray) (Val.mk 0 0 (⟨#[]⟩ : ByteArray) [] [])))) (Int.toNat (v1_1 - 1)) (List.getD v1_0 (Int.toNat v1_1) (Fld.mk (⟨#[]⟩ : ByteArray) (Val.mk 0 0 (⟨#[]⟩ : ByteArray) [] [])))) (v1_1 - 1)) r) : Tells G (E_K13_b1 n0 p1 p2 v0_0 v1_0 v1_1) r := by
  have e0 := of_decide_eq_true h0; have e1 := of_decide_eq_true h1
  exact tells_nextVI (V_K13_b1 n0 p1 p2 v0_0 v1_0 v1_1) (y := (HE_K13_b1 n0 p1 p2 v0_0 (List.set (List.set v1_0 (Int.toNat v1_1) (List.getD v1_0 (Int.toNat (v1_1 - 1)) (Fld.mk (⟨#[]⟩ : ByteArray) (Val.mk 0 0 (⟨#[]⟩ : ByteArray) [] [])))) (Int.toNat (v1_1 - 1)) (List.getD v1_0 (Int.toNat v1_1) (Fld.mk (⟨#[]⟩ : ByteArray) (Val.mk 0 0 (⟨#[]⟩ : ByteArray) [] [])))) (v1_1 - 1), HO_K13_b1 n0 p1 p2 v0_0 (List.set (List.set v1_0 (Int.toNat v1_1) (List.getD v1_0 (Int.toNat (v1_1 - 1)) (Fld.mk (⟨#[]⟩ : ByteArray) (Val.mk 0 0 (⟨#[]⟩ : ByteArray) [] [])))) (Int.toNat (v1_1 - 1)) (List.getD v1_0 (Int.toNat v1_1) (Fld.mk (⟨#[]⟩ : ByteArray) (Val.mk 0 0 (⟨#[]⟩ : ByteArray) [] [])))) (v1_1 - 1))) [hB 2 h0, hP 4 (ixs_ok 0 6 n0 v1_1 (Int.toNat v1_1) rfl (by omega) (by omega)), hP 0 (ld_ok 0 6 0 false ((Fld.rows v1_0).flatten) (Fld.rows v1_0) 6 true (Int.toNat v1_1) 0 ((Int.toNat v1_1) * 6) (Fld.cells (List.getD v1_0 (Int.toNat v1_1) (Fld.mk (⟨#[]⟩ : ByteArray) (Val.mk 0 0 (⟨#[]⟩ : ByteArray) [] [])))) (.agg [.str (List.getD v1_0 (Int.toNat v1_1) (Fld.mk (⟨#[]⟩ : ByteArray) (Val.mk 0 0 (⟨#[]⟩ : ByteArray) [] []))).name, .int .i64 (List.getD v1_0 (Int.toNat v1_1) (Fld.mk (⟨#[]⟩ : ByteArray) (Val.mk 0 0 (⟨#[]⟩ : ByteArray) [] []))).v.kind, .int .i64 (List.getD v1_0 (Int.toNat v1_1) (Fld.mk (⟨#[]⟩ : ByteArray) (Val.mk 0 0 (⟨#[]⟩ : ByteArray) [] []))).v.n, .str (List.getD v1_0 (Int.toNat v1_1) (Fld.mk (⟨#[]⟩ : ByteArray) (Val.mk 0 0 (⟨#[]⟩ : ByteArray) [] []))).v.s, .sl (Val.rows (List.getD v1_0 (Int.toNat v1_1) (Fld.mk (⟨#[]⟩ : ByteArray) (Val.mk 0 0 (⟨#[]⟩ : ByteArray) [] []))).v.list), .sl (Fld.rows (List.getD v1_0 (Int.toNat v1_1) (Fld.mk (⟨#[]⟩ : ByteArray) (Val.mk 0 0 (⟨#[]⟩ : ByteArray) [] []))).v.fields)]) rfl rfl (Fld.rowsGet (getD_ok v1_0 (Int.toNat v1_1) (Fld.mk (⟨#[]⟩ : ByteArray) (Val.mk 0 0 (⟨#[]⟩ : ByteArray) [] [])) (by omega))) (Fld.rowsSize v1_0) (by decide) rfl), hP 2 (w_ok (v1_1 - 1) (by omega)), hP 0 (ixs_ok 0 6 n0 (v1_1 - 1) (Int.toNat (v1_1 - 1)) rfl (by omega) (by omega)), hP 0 (ld_ok 0 6 0 false ((Fld.rows v1_0).flatten) (Fld.rows v1_0) 6 true (Int.toNat (v1_1 - 1)) 0 ((Int.toNat (v1_1 - 1)) * 6) (Fld.cells (List.getD v1_0 (Int.toNat (v1_1 - 1)) (Fld.mk (⟨#[]⟩ : ByteArray) (Val.mk 0 0 (⟨#[]⟩ : ByteArray) [] [])))) (.agg [.str (List.getD v1_0 (Int.toNat (v1_1 - 1)) (Fld.mk (⟨#[]⟩ : ByteArray) (Val.mk 0 0 (⟨#[]⟩ : ByteArray) [] []))).name, .int .i64 (List.getD v1_0 (Int.toNat (v1_1 - 1)) (Fld.mk (⟨#[]⟩ : ByteArray) (Val.mk 0 0 (⟨#[]⟩ : ByteArray) [] []))).v.kind, .int .i64 (List.getD v1_0 (Int.toNat (v1_1 - 1)) (Fld.mk (⟨#[]⟩ : ByteArray) (Val.mk 0 0 (⟨#[]⟩ : ByteArray) [] []))).v.n, .str (List.getD v1_0 (Int.toNat (v1_1 - 1)) (Fld.mk (⟨#[]⟩ : ByteArray) (Val.mk 0 0 (⟨#[]⟩ : ByteArray) [] []))).v.s, .sl (Val.rows (List.getD v1_0 (Int.toNat (v1_1 - 1)) (Fld.mk (⟨#[]⟩ : ByteArray) (Val.mk 0 0 (⟨#[]⟩ : ByteArray) [] []))).v.list), .sl (Fld.rows (List.getD v1_0 (Int.toNat (v1_1 - 1)) (Fld.mk (⟨#[]⟩ : ByteArray) (Val.mk 0 0 (⟨#[]⟩ : ByteArray) [] []))).v.fields)]) rfl rfl (Fld.rowsGet (getD_ok v1_0 (Int.toNat (v1_1 - 1)) (Fld.mk (⟨#[]⟩ : ByteArray) (Val.mk 0 0 (⟨#[]⟩ : ByteArray) [] [])) (by omega))) (Fld.rowsSize v1_0) (by decide) rfl), hB 1 h1, hP 5 (w_ok (v1_1 - 1) (by omega)), hP 2 (w_ok (v1_1 - 1) (by omega)), hP 0 (ixs_ok 0 6 n0 (v1_1 - 1) (Int.toNat (v1_1 - 1)) rfl (by omega) (by omega)), hP 0 (ld_ok 0 6 0 false ((Fld.rows v1_0).flatten) (Fld.rows v1_0) 6 true (Int.toNat (v1_1 - 1)) 0 ((Int.toNat (v1_1 - 1)) * 6) (Fld.cells (List.getD v1_0 (Int.toNat (v1_1 - 1)) (Fld.mk (⟨#[]⟩ : ByteArray) (Val.mk 0 0 (⟨#[]⟩ : ByteArray) [] [])))) (.agg [.str (List.getD v1_0 (Int.toNat (v1_1 - 1)) (Fld.mk (⟨#[]⟩ : ByteArray) (Val.mk 0 0 (⟨#[]⟩ : ByteArray) [] []))).name, .int .i64 (List.getD v1_0 (Int.toNat (v1_1 - 1)) (Fld.mk (⟨#[]⟩ : ByteArray) (Val.mk 0 0 (⟨#[]⟩ : ByteArray) [] []))).v.kind, .int .i64 (List.getD v1_0 (Int.toNat (v1_1 - 1)) (Fld.mk (⟨#[]⟩ : ByteArray) (Val.mk 0 0 (⟨#[]⟩ : ByteArray) [] []))).v.n, .str (List.getD v1_0 (Int.toNat (v1_1 - 1)) (Fld.mk (⟨#[]⟩ : ByteArray) (Val.mk 0 0 (⟨#[]⟩ : ByteArray) [] []))).v.s, .sl (Val.rows (List.getD v1_0 (Int.toNat (v1_1 - 1)) (Fld.mk (⟨#[]⟩ : ByteArray) (Val.mk 0 0 (⟨#[]⟩ : ByteArray) [] []))).v.list), .sl (Fld.rows (List.getD v1_0 (Int.toNat (v1_1 - 1)) (Fld.mk (⟨#[]⟩ : ByteArray) (Val.mk 0 0 (⟨#[]⟩ : ByteArray) [] []))).v.fields)]) rfl rfl (Fld.rowsGet (getD_ok v1_0 (Int.toNat (v1_1 - 1)) (Fld.mk (⟨#[]⟩ : ByteArray) (Val.mk 0 0 (⟨#[]⟩ : ByteArray) [] [])) (by omega))) (Fld.rowsSize v1_0) (by decide) rfl), hP 2 (ixs_ok 0 6 n0 v1_1 (Int.toNat v1_1) rfl (by omega) (by omega)), hP 0 (ld_ok 0 6 0 false ((Fld.rows v1_0).flatten) (Fld.rows v1_0) 6 true (Int.toNat v1_1) 0 ((Int.toNat v1_1) * 6) (Fld.cells (List.getD v1_0 (Int.toNat v1_1) (Fld.mk (⟨#[]⟩ : ByteArray) (Val.mk 0 0 (⟨#[]⟩ : ByteArray) [] [])))) (.agg [.str (List.getD v1_0 (Int.toNat v1_1) (Fld.mk (⟨#[]⟩ : ByteArray) (Val.mk 0 0 (⟨#[]⟩ : ByteArray) [] []))).name, .int .i64 (List.getD v1_0 (Int.toNat v1_1) (Fld.mk (⟨#[]⟩ : ByteArray) (Val.mk 0 0 (⟨#[]⟩ : ByteArray) [] []))).v.kind, .int .i64 (List.getD v1_0 (Int.toNat v1_1) (Fld.mk (⟨#[]⟩ : ByteArray) (Val.mk 0 0 (⟨#[]⟩ : ByteArray) [] []))).v.n, .str (List.getD v1_0 (Int.toNat v1_1) (Fld.mk (⟨#[]⟩ : ByteArray) (Val.mk 0 0 (⟨#[]⟩ : ByteArray) [] []))).v.s, .sl (Val.rows (List.getD v1_0 (Int.toNat v1_1) (Fld.mk (⟨#[]⟩ : ByteArray) (Val.mk 0 0 (⟨#[]⟩ : ByteArray) [] []))).v.list), .sl (Fld.rows (List.getD v1_0 (Int.toNat v1_1) (Fld.mk (⟨#[]⟩ : ByteArray) (Val.mk 0 0 (⟨#[]⟩ : ByteArray) [] []))).v.fields)]) rfl rfl (Fld.rowsGet (getD_ok v1_0 (Int.toNat v1_1) (Fld.mk (⟨#[]⟩ : ByteArray) (Val.mk 0 0 (⟨#[]⟩ : ByteArray) [] [])) (by omega))) (Fld.rowsSize v1_0) (by decide) rfl), hP 0 (ixs_ok 0 6 n0 v1_1 (Int.toNat v1_1) rfl (by omega) (by omega)), hV 0 [(0, Fld.rows (List.set v1_0 (Int.toNat v1_1) (List.getD v1_0 (Int.toNat (v1_1 - 1)) (Fld.mk (⟨#[]⟩ : ByteArray) (Val.mk 0 0 (⟨#[]⟩ : ByteArray) [] [])))))] (st_ok 0 6 false ((Fld.rows v1_0).flatten) (Fld.rows v1_0) (Fld.rows (List.set v1_0 (Int.toNat v1_1) (List.getD v1_0 (Int.toNat (v1_1 - 1)) (Fld.mk (⟨#[]⟩ : ByteArray) (Val.mk 0 0 (⟨#[]⟩ : ByteArray) [] []))))) 6 (Int.toNat v1_1) 0 ((Int.toNat v1_1) * 6) _ (.agg [.str (List.getD v1_0 (Int.toNat (v1_1 - 1)) (Fld.mk (⟨#[]⟩ : ByteArray) (Val.mk 0 0 (⟨#[]⟩ : ByteArray) [] []))).name, .int .i64 (List.getD v1_0 (Int.toNat (v1_1 - 1)) (Fld.mk (⟨#[]⟩ : ByteArray) (Val.mk 0 0 (⟨#[]⟩ : ByteArray) [] []))).v.kind, .int .i64 (List.getD v1_0 (Int.toNat (v1_1 - 1)) (Fld.mk (⟨#[]⟩ : ByteArray) (Val.mk 0 0 (⟨#[]⟩ : ByteArray) [] []))).v.n, .str (List.getD v1_0 (Int.toNat (v1_1 - 1)) (Fld.mk (⟨#[]⟩ : ByteArray) (Val.mk 0 0 (⟨#[]⟩ : ByteArray) [] []))).v.s, .sl (Val.rows (List.getD v1_0 (Int.toNat (v1_1 - 1)) (Fld.mk (⟨#[]⟩ : ByteArray) (Val.mk 0 0 (⟨#[]⟩ : ByteArray) [] []))).v.list), .sl (Fld.rows (List.getD v1_0 (Int.toNat (v1_1 - 1)) (Fld.mk (⟨#[]⟩ : ByteArray) (Val.mk 0 0 (⟨#[]⟩ : ByteArray) [] []))).v.fields)]) rfl rfl (Fld.rowsGet (getD_ok v1_0 (Int.toNat v1_1) (Fld.mk (⟨#[]⟩ : ByteArray) (Val.mk 0 0 (⟨#[]⟩ : ByteArray) [] [])) (by omega))) (Fld.rowsSize v1_0) (by decide) rfl rfl (Fld.rowsSet v1_0 (Int.toNat v1_1) (List.getD v1_0 (Int.toNat (v1_1 - 1)) (Fld.mk (⟨#[]⟩ : ByteArray) (Val.mk 0 0 (⟨#[]⟩ : ByteArray) [] []))))), hS 0 false (Fld.rowsView (List.set v1_0 (Int.toNat v1_1) (List.getD v1_0 (Int.toNat (v1_1 - 1)) (Fld.mk (⟨#[]⟩ : ByteArray) (Val.mk 0 0 (⟨#[]⟩ : ByteArray) [] [])))) 6 rfl), hP 0 (ixs_ok 0 6 n0 (v1_1 - 1) (Int.toNat (v1_1 - 1)) rfl (by have f0 := (lenSet ho1_4 (Int.toNat v1_1) (List.getD v1_0 (Int.toNat (v1_1 - 1)) (Fld.mk (⟨#[]⟩ : ByteArray) (Val.mk 0 0 (⟨#[]⟩ : ByteArray) [] [])))); omega) (by have f0 := (lenSet ho1_4 (Int.toNat v1_1) (List.getD v1_0 (Int.toNat (v1_1 - 1)) (Fld.mk (⟨#[]⟩ : ByteArray) (Val.mk 0 0 (⟨#[]⟩ : ByteArray) [] [])))); omega)), hV 0 [(0, Fld.rows (List.set (List.set v1_0 (Int.toNat v1_1) (List.getD v1_0 (Int.toNat (v1_1 - 1)) (Fld.mk (⟨#[]⟩ : ByteArray) (Val.mk 0 0 (⟨#[]⟩ : ByteArray) [] [])))) (Int.toNat (v1_1 - 1)) (List.getD v1_0 (Int.toNat v1_1) (Fld.mk (⟨#[]⟩ : ByteArray) (Val.mk 0 0 (⟨#[]⟩ : ByteArray) [] [])))))] (st_ok 0 6 false ((Fld.rows (List.set v1_0 (Int.toNat v1_1) (List.getD v1_0 (Int.toNat (v1_1 - 1)) (Fld.mk (⟨#[]⟩ : ByteArray) (Val.mk 0 0 (⟨#[]⟩ : ByteArray) [] []))))).flatten) (Fld.rows (List.set v1_0 (Int.toNat v1_1) (List.getD v1_0 (Int.toNat (v1_1 - 1)) (Fld.mk (⟨#[]⟩ : ByteArray) (Val.mk 0 0 (⟨#[]⟩ : ByteArray) [] []))))) (Fld.rows (List.set (List.set v1_0 (Int.toNat v1_1) (List.getD v1_0 (Int.toNat (v1_1 - 1)) (Fld.mk (⟨#[]⟩ : ByteArray) (Val.mk 0 0 (⟨#[]⟩ : ByteArray) [] [])))) (Int.toNat (v1_1 - 1)) (List.getD v1_0 (Int.toNat v1_1) (Fld.mk (⟨#[]⟩ : ByteArray) (Val.mk 0 0 (⟨#[]⟩ : ByteArray) [] []))))) 6 (Int.toNat (v1_1 - 1)) 0 ((Int.toNat (v1_1 - 1)) * 6) _ (.agg [.str (List.getD v1_0 (Int.toNat v1_1) (Fld.mk (⟨#[]⟩ : ByteArray) (Val.mk 0 0 (⟨#[]⟩ : ByteArray) [] []))).name, .int .i64 (List.getD v1_0 (Int.toNat v1_1) (Fld.mk (⟨#[]⟩ : ByteArray) (Val.mk 0 0 (⟨#[]⟩ : ByteArray) [] []))).v.kind, .int .i64 (List.getD v1_0 (Int.toNat v1_1) (Fld.mk (⟨#[]⟩ : ByteArray) (Val.mk 0 0 (⟨#[]⟩ : ByteArray) [] []))).v.n, .str (List.getD v1_0 (Int.toNat v1_1) (Fld.mk (⟨#[]⟩ : ByteArray) (Val.mk 0 0 (⟨#[]⟩ : ByteArray) [] []))).v.s, .sl (Val.rows (List.getD v1_0 (Int.toNat v1_1) (Fld.mk (⟨#[]⟩ : ByteArray) (Val.mk 0 0 (⟨#[]⟩ : ByteArray) [] []))).v.list), .sl (Fld.rows (List.getD v1_0 (Int.toNat v1_1) (Fld.mk (⟨#[]⟩ : ByteArray) (Val.mk 0 0 (⟨#[]⟩ : ByteArray) [] []))).v.fields)]) rfl rfl (Fld.rowsGet (getD_ok (List.set v1_0 (Int.toNat v1_1) (List.getD v1_0 (Int.toNat (v1_1 - 1)) (Fld.mk (⟨#[]⟩ : ByteArray) (Val.mk 0 0 (⟨#[]⟩ : ByteArray) [] [])))) (Int.toNat (v1_1 - 1)) (Fld.mk (⟨#[]⟩ : ByteArray) (Val.mk 0 0 (⟨#[]⟩ : ByteArray) [] [])) (by have f0 := (lenSet ho1_4 (Int.toNat v1_1) (List.getD v1_0 (Int.toNat (v1_1 - 1)) (Fld.mk (⟨#[]⟩ : ByteArray) (Val.mk 0 0 (⟨#[]⟩ : ByteArray) [] [])))); try simp only [List.length_set]; omega))) (Fld.rowsSize (List.set v1_0 (Int.toNat v1_1) (List.getD v1_0 (Int.toNat (v1_1 - 1)) (Fld.mk (⟨#[]⟩ : ByteArray) (Val.mk 0 0 (⟨#[]⟩ : ByteArray) [] []))))) (by decide) rfl rfl (Fld.rowsSet (List.set v1_0 (Int.toNat v1_1) (List.getD v1_0 (Int.toNat (v1_1 - 1)) (Fld.mk (⟨#[]⟩ : ByteArray) (Val.mk 0 0 (⟨#[]⟩ : ByteArray) [] [])))) (Int.toNat (v1_1 - 1)) (List.getD v1_0 (Int.toNat v1_1) (Fld.mk (⟨#[]⟩ : ByteArray) (Val.mk 0 0 (⟨#[]⟩ : ByteArray) [] []))))), hS 0 false (Fld.rowsView (List.set (List.set v1_0 (Int.toNat v1_1) (List.getD v1_0 (Int.toNat (v1_1 - 1)) (Fld.mk (⟨#[]⟩ : ByteArray) (Val.mk 0 0 (⟨#[]⟩ : ByteArray) [] [])))) (Int.toNat (v1_1 - 1)) (List.getD v1_0 (Int.toNat v1_1) (Fld.mk (⟨#[]⟩ : ByteArray) (Val.mk 0 0 (⟨#[]⟩ : ByteArray) [] [])))) 6 rfl), hP 1 (w_ok (v1_1 - 1) (by have f0 := (lenSet (lenSet ho1_4 (Int.toNat v1_1) (List.getD v1_0 (Int.toNat (v1_1 - 1)) (Fld.mk (⟨#[]⟩ : ByteArray) (Val.mk 0 0 (⟨#[]⟩ : ByteArray) [] [])))) (Int.toNat (v1_1 - 1)) (List.getD v1_0 (Int.toNat v1_1) (Fld.mk (⟨#[]⟩ : ByteArray) (Val.mk 0 0 (⟨#[]⟩ : ByteArray) [] [])))); omega))] [aN (t_K1i (List.getD v1_0 (Int.toNat v1_1) (Fld.mk (⟨#[]⟩ : ByteArray) (Val.mk 0 0 (⟨#[]⟩ : ByteArray) [] []))) (List.getD v1_0 (Int.toNat (v1_1 - 1)) (Fld.mk (⟨#[]⟩ : ByteArray) (Val.mk 0 0 (⟨#[]⟩ : ByteArray) [] []))))] (by kernel_rfl) hr
def Z_K13_b1_1 (n0 : Nat) (p1 : Int) (_p2 : Int) (_v0_0 : Int) (v1_0 : List Fld) (v1_1 : Int) : List PV :=
  [.un, .un, .un, .un, .un, .un, .un, .un, .un, .int .i64 v1_1, .un, .un, .un, .un, .un, .un, .un, .un, .int .i64 v1_1, .int .i64 p1, .bool true, .bool true, .fn 51 [] [], .ms 0 6 0 n0, .int .i64 v1_1, .bx 0 ((Int.toNat v1_1) * 6), .agg [.str (List.getD v1_0 (Int.toNat v1_1) (Fld.mk (⟨#[]⟩ : ByteArray) (Val.mk 0 0 (⟨#[]⟩ : ByteArray) [] []))).name, .int .i64 (List.getD v1_0 (Int.toNat v1_1) (Fld.mk (⟨#[]⟩ : ByteArray) (Val.mk 0 0 (⟨#[]⟩ : ByteArray) [] []))).v.kind, .int .i64 (List.getD v1_0 (Int.toNat v1_1) (Fld.mk (⟨#[]⟩ : ByteArray) (Val.mk 0 0 (⟨#[]⟩ : ByteArray) [] []))).v.n, .str (List.getD v1_0 (Int.toNat v1_1) (Fld.mk (⟨#[]⟩ : ByteArray) (Val.mk 0 0 (⟨#[]⟩ : ByteArray) [] []))).v.s, .sl (Val.rows (List.getD v1_0 (Int.toNat v1_1) (Fld.mk (⟨#[]⟩ : ByteArray) (Val.mk 0 0 (⟨#[]⟩ : ByteArray) [] []))).v.list), .sl (Fld.rows (List.getD v1_0 (Int.toNat v1_1) (Fld.mk (⟨#[]⟩ : ByteArray) (Val.mk 0 0 (⟨#[]⟩ : ByteArray) [] []))).v.fields)], .ms 0 6 0 n0, .int .i64 v1_1, .int .i64 (v1_1 - 1), .bx 0 ((Int.toNat (v1_1 - 1)) * 6), .agg [.str (List.getD v1_0 (Int.toNat (v1_1 - 1)) (Fld.mk (⟨#[]⟩ : ByteArray) (Val.mk 0 0 (⟨#[]⟩ : ByteArray) [] []))).name, .int .i64 (List.getD v1_0 (Int.toNat (v1_1 - 1)) (Fld.mk (⟨#[]⟩ : ByteArray) (Val.mk 0 0 (⟨#[]⟩ : ByteArray) [] []))).v.kind, .int .i64 (List.getD v1_0 (Int.toNat (v1_1 - 1)) (Fld.mk (⟨#[]⟩ : ByteArray) (Val.mk 0 0 (⟨#[]⟩ : ByteArray) [] []))).v.n, .str (List.getD v1_0 (Int.toNat (v1_1 - 1)) (Fld.mk (⟨#[]⟩ : ByteArray) (Val.mk 0 0 (⟨#[]⟩ : ByteArray) [] []))).v.s, .sl (Val.rows (List.getD v1_0 (Int.toNat (v1_1 - 1)) (Fld.mk (⟨#[]⟩ : ByteArray) (Val.mk 0 0 (⟨#[]⟩ : ByteArray) [] []))).v.list), .sl (Fld.rows (List.getD v1_0 (Int.toNat (v1_1 - 1)) (Fld.mk (⟨#[]⟩ : ByteArray) (Val.mk 0 0 (⟨#[]⟩ : ByteArray) [] []))).v.fields)], .int .i64 (s_K1i (List.getD v1_0 (Int.toNat v1_1) (Fld.mk (⟨#[]⟩ : ByteArray) (Val.mk 0 0 (⟨#[]⟩ : ByteArray) [] []))) (List.getD v1_0 (Int.toNat (v1_1 - 1)) (Fld.mk (⟨#[]⟩ : ByteArray) (Val.mk 0 0 (⟨#[]⟩ : ByteArray) [] [])))), .bool false, .bool false]
def ZO_K13_b1_1 (_n0 : Nat) (_p1 : Int) (_p2 : Int) (_v0_0 : Int) (_v1_0 : List Fld) (_v1_1 : Int) : List (Nat × List PV) :=
  []
theorem x_K13_b1_1 (n0 : Nat) (p1 : Int) (p2 : Int) (v0_0 : Int) (v1_0 : List Fld) (v1_1 : Int) (ho1_0 : 0 ≤ p1) (_ho1_1 : p1 ≤ v1_1) (ho1_2 : v1_1 < n0) (ho1_3 : (n0 : Int) ≤ 1152921504606846976) (ho1_4 : List.length v1_0 = n0) (h0 : (decide (p1 < v1_1)) = true) (h1 : (decide ((s_K1i (List.getD v1_0 (Int.toNat v1_1) (Fld.mk (⟨#[]⟩ : ByteArray) (Val.mk 0 0 (⟨#[]⟩ : ByteArray) [] []))) (List.getD v1_0 (Int.toNat (v1_1 - 1)) (Fld.mk (⟨#[]⟩ : ByteArray) (Val.mk 0 0 (⟨#[]⟩ : ByteArray) [] [])))) < 0)) = false) : P_K13_b1 n0 p1 p2 v0_0 (E_K13_b1 n0 p1 p2 v0_0 v1_0 v1_1) v1_0 := by
  have e0 := of_decide_eq_true h0; have e1 := of_decide_eq_false h1
  exact ⟨(envF (Z_K13_b1_1 n0 p1 p2 v0_0 v1_0 v1_1)), (zoF (ZO_K13_b1_1 n0 p1 p2 v0_0 v1_0 v1_1)), tells_outVI (V_K13_b1 n0 p1 p2 v0_0 v1_0 v1_1) (x := ((.exit 2), S_K13_b1_0 n0 p1 p2 v0_0 v1_0 (envF (Z_K13_b1_1 n0 p1 p2 v0_0 v1_0 v1_1)) (zoF (ZO_K13_b1_1 n0 p1 p2 v0_0 v1_0 v1_1)))) [hB 2 h0, hP 4 (ixs_ok 0 6 n0 v1_1 (Int.toNat v1_1) rfl (by omega) (by omega)), hP 0 (ld_ok 0 6 0 false ((Fld.rows v1_0).flatten) (Fld.rows v1_0) 6 true (Int.toNat v1_1) 0 ((Int.toNat v1_1) * 6) (Fld.cells (List.getD v1_0 (Int.toNat v1_1) (Fld.mk (⟨#[]⟩ : ByteArray) (Val.mk 0 0 (⟨#[]⟩ : ByteArray) [] [])))) (.agg [.str (List.getD v1_0 (Int.toNat v1_1) (Fld.mk (⟨#[]⟩ : ByteArray) (Val.mk 0 0 (⟨#[]⟩ : ByteArray) [] []))).name, .int .i64 (List.getD v1_0 (Int.toNat v1_1) (Fld.mk (⟨#[]⟩ : ByteArray) (Val.mk 0 0 (⟨#[]⟩ : ByteArray) [] []))).v.kind, .int .i64 (List.getD v1_0 (Int.toNat v1_1) (Fld.mk (⟨#[]⟩ : ByteArray) (Val.mk 0 0 (⟨#[]⟩ : ByteArray) [] []))).v.n, .str (List.getD v1_0 (Int.toNat v1_1) (Fld.mk (⟨#[]⟩ : ByteArray) (Val.mk 0 0 (⟨#[]⟩ : ByteArray) [] []))).v.s, .sl (Val.rows (List.getD v1_0 (Int.toNat v1_1) (Fld.mk (⟨#[]⟩ : ByteArray) (Val.mk 0 0 (⟨#[]⟩ : ByteArray) [] []))).v.list), .sl (Fld.rows (List.getD v1_0 (Int.toNat v1_1) (Fld.mk (⟨#[]⟩ : ByteArray) (Val.mk 0 0 (⟨#[]⟩ : ByteArray) [] []))).v.fields)]) rfl rfl (Fld.rowsGet (getD_ok v1_0 (Int.toNat v1_1) (Fld.mk (⟨#[]⟩ : ByteArray) (Val.mk 0 0 (⟨#[]⟩ : ByteArray) [] [])) (by omega))) (Fld.rowsSize v1_0) (by decide) rfl), hP 2 (w_ok (v1_1 - 1) (by omega)), hP 0 (ixs_ok 0 6 n0 (v1_1 - 1) (Int.toNat (v1_1 - 1)) rfl (by omega) (by omega)), hP 0 (ld_ok 0 6 0 false ((Fld.rows v1_0).flatten) (Fld.rows v1_0) 6 true (Int.toNat (v1_1 - 1)) 0 ((Int.toNat (v1_1 - 1)) * 6) (Fld.cells (List.getD v1_0 (Int.toNat (v1_1 - 1)) (Fld.mk (⟨#[]⟩ : ByteArray) (Val.mk 0 0 (⟨#[]⟩ : ByteArray) [] [])))) (.agg [.str (List.getD v1_0 (Int.toNat (v1_1 - 1)) (Fld.mk (⟨#[]⟩ : ByteArray) (Val.mk 0 0 (⟨#[]⟩ : ByteArray) [] []))).name, .int .i64 (List.getD v1_0 (Int.toNat (v1_1 - 1)) (Fld.mk (⟨#[]⟩ : ByteArray) (Val.mk 0 0 (⟨#[]⟩ : ByteArray) [] []))).v.kind, .int .i64 (List.getD v1_0 (Int.toNat (v1_1 - 1)) (Fld.mk (⟨#[]⟩ : ByteArray) (Val.mk 0 0 (⟨#[]⟩ : ByteArray) [] []))).v.n, .str (List.getD v1_0 (Int.toNat (v1_1 - 1)) (Fld.mk (⟨#[]⟩ : ByteArray) (Val.mk 0 0 (⟨#[]⟩ : ByteArray) [] []))).v.s, .sl (Val.rows (List.getD v1_0 (Int.toNat (v1_1 - 1)) (Fld.mk (⟨#[]⟩ : ByteArray) (Val.mk 0 0 (⟨#[]⟩ : ByteArray) [] []))).v.list), .sl (Fld.rows (List.getD v1_0 (Int.toNat (v1_1 - 1)) (Fld.mk (⟨#[]⟩ : ByteArray) (Val.mk 0 0 (⟨#[]⟩ : ByteArray) [] []))).v.fields)]) rfl rfl (Fld.rowsGet (getD_ok v1_0 (Int.toNat (v1_1 - 1)) (Fld.mk (⟨#[]⟩ : ByteArray) (Val.mk 0 0 (⟨#[]⟩ : ByteArray) [] [])) (by omega))) (Fld.rowsSize v1_0) (by decide) rfl), hB 1 h1] [aN (t_K1i (List.getD v1_0 (Int.toNat v1_1) (Fld.mk (⟨#[]⟩ : ByteArray) (Val.mk 0 0 (⟨#[]⟩ : ByteArray) [] []))) (List.getD v1_0 (Int.toNat (v1_1 - 1)) (Fld.mk (⟨#[]⟩ : ByteArray) (Val.mk 0 0 (⟨#[]⟩ : ByteArray) [] []))))] (by kernel_rfl)⟩
def Z_K13_b1_2 (_n0 : Nat) (p1 : Int) (_p2 : Int) (_v0_0 : Int) (_v1_0 : List Fld) (v1_1 : Int) : List PV :=
  [.un, .un, .un, .un, .un, .un, .un, .un, .un, .int .i64 v1_1, .un, .un, .un, .un, .un, .un, .un, .un, .int .i64 v1_1, .int .i64 p1, .bool false, .bool false, .tup [], .tup [], .tup [], .tup [], .tup [], .tup [], .tup [], .tup [], .tup [], .tup [], .tup [], .tup [], .bool false]
def ZO_K13_b1_2 (_n0 : Nat) (_p1 : Int) (_p2 : Int) (_v0_0 : Int) (_v1_0 : List Fld) (_v1_1 : Int) : List (Nat × List PV) :=
  []
theorem x_K13_b1_2 (n0 : Nat) (p1 : Int) (p2 : Int) (v0_0 : Int) (v1_0 : List Fld) (v1_1 : Int) (_ho1_0 : 0 ≤ p1) (_ho1_1 : p1 ≤ v1_1) (_ho1_2 : v1_1 < n0) (_ho1_3 : (n0 : Int) ≤ 1152921504606846976) (_ho1_4 : List.length v1_0 = n0) (h0 : (decide (p1 < v1_1)) = false) : P_K13_b1 n0 p1 p2 v0_0 (E_K13_b1 n0 p1 p2 v0_0 v1_0 v1_1) v1_0 := by
  exact ⟨(envF (Z_K13_b1_2 n0 p1 p2 v0_0 v1_0 v1_1)), (zoF (ZO_K13_b1_2 n0 p1 p2 v0_0 v1_0 v1_1)), tells_outVI (V_K13_b1 n0 p1 p2 v0_0 v1_0 v1_1) (x := ((.exit 2), S_K13_b1_0 n0 p1 p2 v0_0 v1_0 (envF (Z_K13_b1_2 n0 p1 p2 v0_0 v1_0 v1_1)) (zoF (ZO_K13_b1_2 n0 p1 p2 v0_0 v1_0 v1_1)))) [hB 2 h0] [] (by kernel_rfl)⟩
theorem lt_K13_b1 (n0 : Nat) (p1 : Int) (p2 : Int) (v0_0 : Int) : ∀ (k1 : Nat) (v1_0 : List Fld) (v1_1 : Int), 0 ≤ p1 → p1 ≤ v1_1 → v1_1 < n0 → (n0 : Int) ≤ 1152921504606846976 → List.length v1_0 = n0 → Int.toNat v1_1 < k1 → P_K13_b1 n0 p1 p2 v0_0 (E_K13_b1 n0 p1 p2 v0_0 v1_0 v1_1) (l_K13_b1 n0 p1 p2 v0_0 k1 v1_0 v1_1)
  | 0, v1_0, v1_1, _, _, _, _, _, hm => absurd hm (Nat.not_lt_zero _)
  | k1 + 1, v1_0, v1_1, ho1_0, ho1_1, ho1_2, ho1_3, ho1_4, hm => by
    rw [l_K13_b1]
    cases h0 : (decide (p1 < v1_1)) with
    | true =>
     have e0 := of_decide_eq_true h0
     cases h1 : (decide ((s_K1i (List.getD v1_0 (Int.toNat v1_1) (Fld.mk (⟨#[]⟩ : ByteArray) (Val.mk 0 0 (⟨#[]⟩ : ByteArray) [] []))) (List.getD v1_0 (Int.toNat (v1_1 - 1)) (Fld.mk (⟨#[]⟩ : ByteArray) (Val.mk 0 0 (⟨#[]⟩ : ByteArray) [] [])))) < 0)) with
     | true =>
      have e1 := of_decide_eq_true h1
      exact P_K13_b1_mono n0 p1 p2 v0_0 (fun r hr => n_K13_b1_0 n0 p1 p2 v0_0 v1_0 v1_1 ho1_0 ho1_1 ho1_2 ho1_3 ho1_4 h0 h1 hr) _ (lt_K13_b1 n0 p1 p2 v0_0 k1 (List.set (List.set v1_0 (Int.toNat v1_1) (List.getD v1_0 (Int.toNat (v1_1 - 1)) (Fld.mk (⟨#[]⟩ : ByteArray) (Val.mk 0 0 (⟨#[]⟩ : ByteArray) [] [])))) (Int.toNat (v1_1 - 1)) (List.getD v1_0 (Int.toNat v1_1) (Fld.mk (⟨#[]⟩ : ByteArray) (Val.mk 0 0 (⟨#[]⟩ : ByteArray) [] [])))) (v1_1 - 1) (by have f0 := (lenSet (lenSet ho1_4 (Int.toNat v1_1) (List.getD v1_0 (Int.toNat (v1_1 - 1)) (Fld.mk (⟨#[]⟩ : ByteArray) (Val.mk 0 0 (⟨#[]⟩ : ByteArray) [] [])))) (Int.toNat (v1_1 - 1)) (List.getD v1_0 (Int.toNat v1_1) (Fld.mk (⟨#[]⟩ : ByteArray) (Val.mk 0 0 (⟨#[]⟩ : ByteArray) [] [])))); omega) (by have f0 := (lenSet (lenSet ho1_4 (Int.toNat v1_1) (List.getD v1_0 (Int.toNat (v1_1 - 1)) (Fld.mk (⟨#[]⟩ : ByteArray) (Val.mk 0 0 (⟨#[]⟩ : ByteArray) [] [])))) (Int.toNat (v1_1 - 1)) (List.getD v1_0 (Int.toNat v1_1) (Fld.mk (⟨#[]⟩ : ByteArray) (Val.mk 0 0 (⟨#[]⟩ : ByteArray) [] [])))); omega) (by have f0 := (lenSet (lenSet ho1_4 (Int.toNat v1_1) (List.getD v1_0 (Int.toNat (v1_1 - 1)) (Fld.mk (⟨#[]⟩ : ByteArray) (Val.mk 0 0 (⟨#[]⟩ : ByteArray) [] [])))) (Int.toNat (v1_1 - 1)) (List.getD v1_0 (Int.toNat v1_1) (Fld.mk (⟨#[]⟩ : ByteArray) (Val.mk 0 0 (⟨#[]⟩ : ByteArray) [] [])))); omega) (by have f0 := (lenSet (lenSet ho1_4 (Int.toNat v1_1) (List.getD v1_0 (Int.toNat (v1_1 - 1)) (Fld.mk (⟨#[]⟩ : ByteArray) (Val.mk 0 0 (⟨#[]⟩ : ByteArray) [] [])))) (Int.toNat (v1_1 - 1)) (List.getD v1_0 (Int.toNat v1_1) (Fld.mk (⟨#[]⟩ : ByteArray) (Val.mk 0 0 (⟨#[]⟩ : ByteArray) [] [])))); omega) (lenSet (lenSet ho1_4 (Int.toNat v1_1) (List.getD v1_0 (Int.toNat (v1_1 - 1)) (Fld.mk (⟨#[]⟩ : ByteArray) (Val.mk 0 0 (⟨#[]⟩ : ByteArray) [] [])))) (Int.toNat (v1_1 - 1)) (List.getD v1_0 (Int.toNat v1_1) (Fld.mk (⟨#[]⟩ : ByteArray) (Val.mk 0 0 (⟨#[]⟩ : ByteArray) [] [])))) (by have f0 := (lenSet (lenSet ho1_4 (Int.toNat v1_1) (List.getD v1_0 (Int.toNat (v1_1 - 1)) (Fld.mk (⟨#[]⟩ : ByteArray) (Val.mk 0 0 (⟨#[]⟩ : ByteArray) [] [])))) (Int.toNat (v1_1 - 1)) (List.getD v1_0 (Int.toNat v1_1) (Fld.mk (⟨#[]⟩ : ByteArray) (Val.mk 0 0 (⟨#[]⟩ : ByteArray) [] [])))); omega))
     | false =>
      exact x_K13_b1_1 n0 p1 p2 v0_0 v1_0 v1_1 ho1_0 ho1_1 ho1_2 ho1_3 ho1_4 h0 h1
    | false =>
     exact x_K13_b1_2 n0 p1 p2 v0_0 v1_0 v1_1 ho1_0 ho1_1 ho1_2 ho1_3 ho1_4 h0
theorem ll_K13_b1_0 (n0 : Nat) (p1 : Int) (p2 : Int) (v0_0 : Int) : ∀ (k1 : Nat) (v1_0 : List Fld) (v1_1 : Int), List.length v1_0 = n0 → List.length (l_K13_b1 n0 p1 p2 v0_0 k1 v1_0 v1_1) = n0
  | 0, v1_0, v1_1, ho1_4 => by rw [l_K13_b1]; exact ho1_4
  | k1 + 1, v1_0, v1_1, ho1_4 => by
    rw [l_K13_b1]
    cases h0 : (decide (p1 < v1_1)) with
    | true =>
     cases h1 : (decide ((s_K1i (List.getD v1_0 (Int.toNat v1_1) (Fld.mk (⟨#[]⟩ : ByteArray) (Val.mk 0 0 (⟨#[]⟩ : ByteArray) [] []))) (List.getD v1_0 (Int.toNat (v1_1 - 1)) (Fld.mk (⟨#[]⟩ : ByteArray) (Val.mk 0 0 (⟨#[]⟩ : ByteArray) [] [])))) < 0)) with
     | true =>
      exact ll_K13_b1_0 n0 p1 p2 v0_0 k1 (List.set (List.set v1_0 (Int.toNat v1_1) (List.getD v1_0 (Int.toNat (v1_1 - 1)) (Fld.mk (⟨#[]⟩ : ByteArray) (Val.mk 0 0 (⟨#[]⟩ : ByteArray) [] [])))) (Int.toNat (v1_1 - 1)) (List.getD v1_0 (Int.toNat v1_1) (Fld.mk (⟨#[]⟩ : ByteArray) (Val.mk 0 0 (⟨#[]⟩ : ByteArray) [] [])))) (v1_1 - 1) (lenSet (lenSet ho1_4 (Int.toNat v1_1) (List.getD v1_0 (Int.toNat (v1_1 - 1)) (Fld.mk (⟨#[]⟩ : ByteArray) (Val.mk 0 0 (⟨#[]⟩ : ByteArray) [] [])))) (Int.toNat (v1_1 - 1)) (List.getD v1_0 (Int.toNat v1_1) (Fld.mk (⟨#[]⟩ : ByteArray) (Val.mk 0 0 (⟨#[]⟩ : ByteArray) [] []))))
     | false =>
      exact ho1_4
    | false =>
     exact ho1_4
def l_K13_b0 (n0 : Nat) (p1 : Int) (p2 : Int) : Nat → Int → (List Fld) → List Fld
  | 0, _v0_0, v0_1 => v0_1
  | k0 + 1, v0_0, v0_1 =>
    bif (decide (v0_0 < p2)) then
      l_K13_b0 n0 p1 p2 k0 (v0_0 + 1) (l_K13_b1 n0 p1 p2 v0_0 ((Int.toNat v0_0) + 1) v0_1 v0_0)
    else
      v0_1
def HE_K13_b0 (n0 : Nat) (p1 : Int) (p2 : Int) (v0_0 : Int) (_v0_1 : List Fld) : List PV :=
  [.ms 0 6 0 n0, .int .i64 p1, .int .i64 p2, .fn 51 [] [], .un, .un, .un, .un, .int .i64 v0_0, .un, .un, .un, .un, .un, .un, .un, .un, .un, .un, .un, .un, .un, .un, .un, .un, .un, .un, .un, .un, .un, .un, .un, .un, .un, .un, .un, .un, .un, .un, .un, .un, .un, .un, .un, .un, .un, .un, .un, .un, .un, .un, .un, .un]
def HO_K13_b0 (_n0 : Nat) (_p1 : Int) (_p2 : Int) (_v0_0 : Int) (v0_1 : List Fld) : List Ob :=
  [⟨6, 0, false, (Fld.rows v0_1).flatten⟩]
def E_K13_b0 (n0 : Nat) (p1 : Int) (p2 : Int) (v0_0 : Int) (v0_1 : List Fld) : En := .loop 1 Ir.K13_b0_live Ir.K13_b0 (HE_K13_b0 n0 p1 p2 v0_0 v0_1) (HO_K13_b0 n0 p1 p2 v0_0 v0_1)
def S_K13_b0_0 (_n0 : Nat) (_p1 : Int) (_p2 : Int) (q0 : List Fld) (z : Nat → PV) (_zo : Nat → List PV) : St :=
  ⟨[z 0, z 1, z 2, z 3, z 4, z 5, z 6, z 7, z 8, z 9, z 10, z 11, z 12, z 13, z 14, z 15, z 16, z 17, z 18, z 19, z 20, z 21, z 22, z 23, z 24, z 25, z 26, z 27, z 28, z 29, z 30, z 31, z 32, z 33, z 34, z 35, z 36, z 37, z 38, z 39, z 40, z 41, z 42, z 43, z 44, z 45, z 46, z 47, z 48, z 49, z 50, z 51, z 52], [(0, ⟨6, 0, false, (Fld.rows q0).flatten⟩)], 193⟩
theorem V_K13_b0 (n0 : Nat) (p1 : Int) (p2 : Int) (v0_0 : Int) (v0_1 : List Fld) : VOK (Go.Pv.look (number 0 (HO_K13_b0 n0 p1 p2 v0_0 v0_1))) [(0, Fld.rows v0_1)] := (VOK.cons (show Seen _ _ from seenV (ob := ⟨6, 0, false, (Fld.rows v0_1).flatten⟩) (Fld.rowsView v0_1 6 rfl)) VOK.nil)
def P_K13_b0 (n0 : Nat) (p1 : Int) (p2 : Int) (e : En) (q : List Fld) : Prop := ∃ z zo, Tells G e (.st (.exit 0) (S_K13_b0_0 n0 p1 p2 q z zo))
theorem P_K13_b0_mono (n0 : Nat) (p1 : Int) (p2 : Int) {e e' : En} (h : ∀ r, Tells G e r → Tells G e' r) : ∀ q, P_K13_b0 n0 p1 p2 e q → P_K13_b0 n0 p1 p2 e' q
  | _, ⟨z, zo, hz⟩ => ⟨z, zo, h _ hz⟩
theorem n_K13_b0_0 (n0 : Nat) (p1 : Int) (p2 : Int) (v0_0 : Int) (v0_1 : List Fld) (ho0_0 : 0 ≤ p1) (ho0_1 : p1 < v0_0) (ho0_2 : p2 ≤ n0) (ho0_3 : (n0 : Int) ≤ 1152921504606846976) (ho0_4 : List.length v0_1 = n0) (h0 : (decide (v0_0 < p2)) = true) (z1 : Nat → PV) (zo1 : Nat → List PV) (hl1 : Tells G (E_K13_b1 n0 p1 p2 v0_0 v0_1 v0_0) (.st (.exit 2) (S_K13_b1_0 n0 p1 p2 v0_0 (l_K13_b1 n0 p1 p2 v0_0 ((Int.toNat v0_0) + 1) v0_1 v0_0) z1 zo1))) {r : Rs} (hr : Tells G (E_K13_b0 n0 p1 p2 (v0_0 + 1) (l_K13_b1 n0 p1 p2 v0_0 ((Int.toNat v0_0) + 1) v0_1 v0_0)) r) : Tells G (E_K13_b0 n0 p1 p2 v0_0 v0_1) r := by
  have e0 := of_decide_eq_true h0
  exact tells_nextVI (V_K13_b0 n0 p1 p2 v0_0 v0_1) (y := (HE_K13_b0 n0 p1 p2 (v0_0 + 1) (l_K13_b1 n0 p1 p2 v0_0 ((Int.toNat v0_0) + 1) v0_1 v0_0), HO_K13_b0 n0 p1 p2 (v0_0 + 1) (l_K13_b1 n0 p1 p2 v0_0 ((Int.toNat v0_0) + 1) v0_1 v0_0))) [hB 2 h0, hS 0 false (Fld.rowsView (l_K13_b1 n0 p1 p2 v0_0 ((Int.toNat v0_0) + 1) v0_1 v0_0) 6 rfl), hP 3 (w_ok (v0_0 + 1) (by have f0 := (ll_K13_b1_0 n0 p1 p2 v0_0 ((Int.toNat v0_0) + 1) v0_1 v0_0 ho0_4); omega))] [aV [(0, Fld.rows (l_K13_b1 n0 p1 p2 v0_0 ((Int.toNat v0_0) + 1) v0_1 v0_0))] hl1] (by kernel_rfl) hr
def Z_K13_b0_1 (n0 : Nat) (p1 : Int) (p2 : Int) (v0_0 : Int) (_v0_1 : List Fld) : List PV :=
  [.ms 0 6 0 n0, .int .i64 p1, .int .i64 p2, .fn 51 [] [], .un, .un, .un, .un, .int .i64 v0_0, .un, .un, .un, .int .i64 v0_0, .int .i64 p2, .bool false]
def ZO_K13_b0_1 (_n0 : Nat) (_p1 : Int) (_p2 : Int) (_v0_0 : Int) (_v0_1 : List Fld) : List (Nat × List PV) :=
  []
theorem x_K13_b0_1 (n0 : Nat) (p1 : Int) (p2 : Int) (v0_0 : Int) (v0_1 : List Fld) (_ho0_0 : 0 ≤ p1) (_ho0_1 : p1 < v0_0) (_ho0_2 : p2 ≤ n0) (_ho0_3 : (n0 : Int) ≤ 1152921504606846976) (_ho0_4 : List.length v0_1 = n0) (h0 : (decide (v0_0 < p2)) = false) : P_K13_b0 n0 p1 p2 (E_K13_b0 n0 p1 p2 v0_0 v0_1) v0_1 := by
  exact ⟨(envF (Z_K13_b0_1 n0 p1 p2 v0_0 v0_1)), (zoF (ZO_K13_b0_1 n0 p1 p2 v0_0 v0_1)), tells_outVI (V_K13_b0 n0 p1 p2 v0_0 v0_1) (x := ((.exit 0), S_K13_b0_0 n0 p1 p2 v0_1 (envF (Z_K13_b0_1 n0 p1 p2 v0_0 v0_1)) (zoF (ZO_K13_b0_1 n0 p1 p2 v0_0 v0_1)))) [hB 2 h0] [] (by kernel_rfl)⟩
theorem lt_K13_b0 (n0 : Nat) (p1 : Int) (p2 : Int) : ∀ (k0 : Nat) (v0_0 : Int) (v0_1 : List Fld), 0 ≤ p1 → p1 < v0_0 → p2 ≤ n0 → (n0 : Int) ≤ 1152921504606846976 → List.length v0_1 = n0 → Int.toNat (p2 - v0_0) < k0 → P_K13_b0 n0 p1 p2 (E_K13_b0 n0 p1 p2 v0_0 v0_1) (l_K13_b0 n0 p1 p2 k0 v0_0 v0_1)
  | 0, v0_0, v0_1, _, _, _, _, _, hm => absurd hm (Nat.not_lt_zero _)
  | k0 + 1, v0_0, v0_1, ho0_0, ho0_1, ho0_2, ho0_3, ho0_4, hm => by
    rw [l_K13_b0]
    cases h0 : (decide (v0_0 < p2)) with
    | true =>
     have e0 := of_decide_eq_true h0
     have hl1 := lt_K13_b1 n0 p1 p2 v0_0 ((Int.toNat v0_0) + 1) v0_1 v0_0 (by omega) (by omega) (by omega) (by omega) ho0_4 (by omega)
     obtain ⟨z1, zo1, hl1⟩ := hl1
     exact P_K13_b0_mono n0 p1 p2 (fun r hr => n_K13_b0_0 n0 p1 p2 v0_0 v0_1 ho0_0 ho0_1 ho0_2 ho0_3 ho0_4 h0 z1 zo1 hl1 hr) _ (lt_K13_b0 n0 p1 p2 k0 (v0_0 + 1) (l_K13_b1 n0 p1 p2 v0_0 ((Int.toNat v0_0) + 1) v0_1 v0_0) (by have f0 := (ll_K13_b1_0 n0 p1 p2 v0_0 ((Int.toNat v0_0) + 1) v0_1 v0_0 ho0_4); omega) (by have f0 := (ll_K13_b1_0 n0 p1 p2 v0_0 ((Int.toNat v0_0) + 1) v0_1 v0_0 ho0_4); omega) (by have f0 := (ll_K13_b1_0 n0 p1 p2 v0_0 ((Int.toNat v0_0) + 1) v0_1 v0_0 ho0_4); omega) (by have f0 := (ll_K13_b1_0 n0 p1 p2 v0_0 ((Int.toNat v0_0) + 1) v0_1 v0_0 ho0_4); omega) (ll_K13_b1_0 n0 p1 p2 v0_0 ((Int.toNat v0_0) + 1) v0_1 v0_0 ho0_4) (by have f0 := (ll_K13_b1_0 n0 p1 p2 v0_0 ((Int.toNat v0_0) + 1) v0_1 v0_0 ho0_4); omega))
    | false =>
     exact x_K13_b0_1 n0 p1 p2 v0_0 v0_1 ho0_0 ho0_1 ho0_2 ho0_3 ho0_4 h0
theorem ll_K13_b0_0 (n0 : Nat) (p1 : Int) (p2 : Int) : ∀ (k0 : Nat) (v0_0 : Int) (v0_1 : List Fld), List.length v0_1 = n0 → List.length (l_K13_b0 n0 p1 p2 k0 v0_0 v0_1) = n0
  | 0, v0_0, v0_1, ho0_4 => by rw [l_K13_b0]; exact ho0_4
  | k0 + 1, v0_0, v0_1, ho0_4 => by
    rw [l_K13_b0]
    cases h0 : (decide (v0_0 < p2)) with
    | true =>
     exact ll_K13_b0_0 n0 p1 p2 k0 (v0_0 + 1) (l_K13_b1 n0 p1 p2 v0_0 ((Int.toNat v0_0) + 1) v0_1 v0_0) (ll_K13_b1_0 n0 p1 p2 v0_0 ((Int.toNat v0_0) + 1) v0_1 v0_0 ho0_4)
    | false =>
     exact ho0_4
/-- slices.insertionSortCmpFunc[orchestrator/ api.Field] -/
def s_K13_f51 (n0 : Nat) (p0 : List Fld) (p1 : Int) (p2 : Int) : List Fld :=
  (l_K13_b0 n0 p1 p2 ((Int.toNat (p2 - (p1 + 1))) + 1) (p1 + 1) p0)
def c_K13_f51 (n0 : Nat) (p0 : List Fld) (p1 : Int) (p2 : Int) : En := .call 70 [.ms 0 6 0 n0, .int .i64 p1, .int .i64 p2, .fn 51 [] []] [⟨6, 0, false, (Fld.rows p0).flatten⟩]
def a_K13_f51 (n0 : Nat) (p0 : List Fld) (p1 : Int) (p2 : Int) : Rs := .ret (.tup []) [⟨6, 0, false, (Fld.rows (s_K13_f51 n0 p0 p1 p2)).flatten⟩]
theorem lens_K13_f51 (n0 : Nat) (p0 : List Fld) (p1 : Int) (p2 : Int) (hn : List.length p0 = n0) : List.length (s_K13_f51 n0 p0 p1 p2) = n0 := by
  unfold s_K13_f51
  have hz0_0 : List.length (l_K13_b0 n0 p1 p2 ((Int.toNat (p2 - (p1 + 1))) + 1) (p1 + 1) p0) = n0 := ll_K13_b0_0 n0 p1 p2 ((Int.toNat (p2 - (p1 + 1))) + 1) (p1 + 1) p0 hn
  obtain ⟨R0, eR0⟩ : ∃ R, (l_K13_b0 n0 p1 p2 ((Int.toNat (p2 - (p1 + 1))) + 1) (p1 + 1) p0) = R := ⟨_, rfl⟩
  rw [eR0] at hz0_0 ⊢
  exact hz0_0
theorem t_K13_f51 (n0 : Nat) (p0 : List Fld) (p1 : Int) (p2 : Int) (hn : List.length p0 = n0) (hq0 : 0 ≤ p1 ∧ p1 ≤ p2 ∧ p2 ≤ n0 ∧ (n0 : Int) ≤ 1152921504606846976) : Tells G (c_K13_f51 n0 p0 p1 p2) (a_K13_f51 n0 p0 p1 p2) := by
  unfold a_K13_f51 s_K13_f51
  have hl0 := lt_K13_b0 n0 p1 p2 ((Int.toNat (p2 - (p1 + 1))) + 1) (p1 + 1) p0 (by omega) (by omega) (by omega) (by omega) hn (by omega)
  have hz0_0 : List.length (l_K13_b0 n0 p1 p2 ((Int.toNat (p2 - (p1 + 1))) + 1) (p1 + 1) p0) = n0 := ll_K13_b0_0 n0 p1 p2 ((Int.toNat (p2 - (p1 + 1))) + 1) (p1 + 1) p0 hn
  obtain ⟨R0, eR0⟩ : ∃ R, (l_K13_b0 n0 p1 p2 ((Int.toNat (p2 - (p1 + 1))) + 1) (p1 + 1) p0) = R := ⟨_, rfl⟩
  rw [eR0] at hz0_0 hl0 ⊢
  obtain ⟨z0, zo0, hl0⟩ := hl0
  exact tells_VI (fn := Ir.K13) rfl (vk1 (Fld.rowsView p0 6 rfl)) [hP 1 (w_ok (p1 + 1) (by omega)), hS 0 false (Fld.rowsView R0 6 rfl)] [aV [(0, Fld.rows R0)] hl0] (by kernel_rfl)
def l_K16_b0 (n0 : Nat) (p1 : Int) (p2 : Int) (p3 : Int) : Nat → (List Fld) → Int → List Fld
  | 0, v0_0, _v0_1 => v0_0
  | k0 + 1, v0_0, v0_1 =>
    bif (decide (v0_1 < p3)) then
      l_K16_b0 n0 p1 p2 p3 k0 (List.set (List.set v0_0 (Int.toNat (p1 + v0_1)) (List.getD v0_0 (Int.toNat (p2 + v0_1)) (Fld.mk (⟨#[]⟩ : ByteArray) (Val.mk 0 0 (⟨#[]⟩ : ByteArray) [] [])))) (Int.toNat (p2 + v0_1)) (List.getD v0_0 (Int.toNat (p1 + v0_1)) (Fld.mk (⟨#[]⟩ : ByteArray) (Val.mk 0 0 (⟨#[]⟩ : ByteArray) [] [])))) (v0_1 + 1)
    else
      v0_0
def HE_K16_b0 (n0 : Nat) (p1 : Int) (p2 : Int) (p3 : Int) (_v0_0 : List Fld) (v0_1 : Int) : List PV :=
  [.ms 0 6 0 n0, .int .i64 p1, .int .i64 p2, .int .i64 p3, .un, .un, .un, .un, .un, .un, .int .i64 v0_1, .un, .un, .un, .un, .un, .un, .un, .un, .un, .un, .un, .un, .un, .un, .un, .un, .un, .un, .un, .un, .un, .un, .un, .un, .un, .un, .un]
def HO_K16_b0 (_n0 : Nat) (_p1 : Int) (_p2 : Int) (_p3 : Int) (v0_0 : List Fld) (_v0_1 : Int) : List Ob :=
  [⟨6, 0, false, (Fld.rows v0_0).flatten⟩]
def E_K16_b0 (n0 : Nat) (p1 : Int) (p2 : Int) (p3 : Int) (v0_0 : List Fld) (v0_1 : Int) : En := .loop 1 Ir.K16_b0_live Ir.K16_b0 (HE_K16_b0 n0 p1 p2 p3 v0_0 v0_1) (HO_K16_b0 n0 p1 p2 p3 v0_0 v0_1)
def S_K16_b0_0 (_n0 : Nat) (_p1 : Int) (_p2 : Int) (_p3 : Int) (q0 : List Fld) (z : Nat → PV) (_zo : Nat → List PV) : St :=
  ⟨[z 0, z 1, z 2, z 3, z 4, z 5, z 6, z 7, z 8, z 9, z 10, z 11, z 12, z 13, z 14, z 15, z 16, z 17, z 18, z 19, z 20, z 21, z 22, z 23, z 24, z 25, z 26, z 27, z 28, z 29, z 30, z 31, z 32, z 33, z 34, z 35, z 36, z 37], [(0, ⟨6, 0, false, (Fld.rows q0).flatten⟩)], 193⟩
theorem V_K16_b0 (n0 : Nat) (p1 : Int) (p2 : Int) (p3 : Int) (v0_0 : List Fld) (v0_1 : Int) : VOK (Go.Pv.look (number 0 (HO_K16_b0 n0 p1 p2 p3 v0_0 v0_1))) [(0, Fld.rows v0_0)] := (VOK.cons (show Seen _ _ from seenV (ob := ⟨6, 0, false, (Fld.rows v0_0).flatten⟩) (Fld.rowsView v0_0 6 rfl)) VOK.nil)
def P_K16_b0 (n0 : Nat) (p1 : Int) (p2 : Int) (p3 : Int) (e : En) (q : List Fld) : Prop := ∃ z zo, Tells G e (.st (.exit 0) (S_K16_b0_0 n0 p1 p2 p3 q z zo))
theorem P_K16_b0_mono (n0 : Nat) (p1 : Int) (p2 : Int) (p3 : Int) {e e' : En} (h : ∀ r, Tells G e r → Tells G e' r) : ∀ q, P_K16_b0 n0 p1 p2 p3 e q → P_K16_b0 n0 p1 p2 p3 e' q
  | _, ⟨z, zo, hz⟩ => ⟨z, zo, h _ hz⟩
theorem n_K16_b0_0 (n0 : Nat) (p1 : Int) (p2 : Int) (p3 : Int) (v0_0 : List Fld) (v0_1 : Int) (ho0_0 : 0 ≤ v0_1) (ho0_1 : 0 ≤ p1) (ho0_2 : 0 ≤ p2) (ho0_3 : p1 + p3 ≤ n0) (ho0_4 : p2 + p3 ≤ n0) (ho0_5 : (n0 : Int) ≤ 1152921504606846976) (ho0_6 : List.length v0_0 = n0) (h0 : (decide (v0_1 < p3)) = true) {r : Rs} (hr : Tells G (E_K16_b0 n0 p1 p2 p3 (List.set (List.set v0_0 (Int.toNat (p1 + v0_1)) (List.getD v0_0 (Int.toNat (p2 + v0_1)) (Fld.mk (⟨#[]⟩ : ByteArray) (Val.mk 0 0 (⟨#[]⟩ : ByteArray) [] [])))) (Int.toNat (p2 + v0_1)) (List.getD v0_0 (Int.toNat (p1 + v0_1)) (Fld.mk (⟨#[]⟩ : ByteArray) (Val.mk 0 0 (⟨#[]⟩ : ByteArray) [] [])))) (v0_1 + 1)) r) : Tells G (E_K16_b0 n0 p1 p2 p3 v0_0 v0_1) r := by
  have e0 := of_decide_eq_true h0
  exact tells_nextVI (V_K16_b0 n0 p1 p2 p3 v0_0 v0_1) (y := (HE_K16_b0 n0 p1 p2 p3 (List.set (List.set v0_0 (Int.toNat (p1 + v0_1)) (List.getD v0_0 (Int.toNat (p2 + v0_1)) (Fld.mk (⟨#[]⟩ : ByteArray) (Val.mk 0 0 (⟨#[]⟩ : ByteArray) [] [])))) (Int.toNat (p2 + v0_1)) (List.getD v0_0 (Int.toNat (p1 + v0_1)) (Fld.mk (⟨#[]⟩ : ByteArray) (Val.mk 0 0 (⟨#[]⟩ : ByteArray) [] [])))) (v0_1 + 1), HO_K16_b0 n0 p1 p2 p3 (List.set (List.set v0_0 (Int.toNat (p1 + v0_1)) (List.getD v0_0 (Int.toNat (p2 + v0_1)) (Fld.mk (⟨#[]⟩ : ByteArray) (Val.mk 0 0 (⟨#[]⟩ : ByteArray) [] [])))) (Int.toNat (p2 + v0_1)) (List.getD v0_0 (Int.toNat (p1 + v0_1)) (Fld.mk (⟨#[]⟩ : ByteArray) (Val.mk 0 0 (⟨#[]⟩ : ByteArray) [] [])))) (v0_1 + 1))) [hB 2 h0, hP 3 (w_ok (p1 + v0_1) (by omega)), hP 3 (w_ok (p2 + v0_1) (by omega)), hP 3 (w_ok (p2 + v0_1) (by omega)), hP 0 (ixs_ok 0 6 n0 (p2 + v0_1) (Int.toNat (p2 + v0_1)) rfl (by omega) (by omega)), hP 0 (ld_ok 0 6 0 false ((Fld.rows v0_0).flatten) (Fld.rows v0_0) 6 true (Int.toNat (p2 + v0_1)) 0 ((Int.toNat (p2 + v0_1)) * 6) (Fld.cells (List.getD v0_0 (Int.toNat (p2 + v0_1)) (Fld.mk (⟨#[]⟩ : ByteArray) (Val.mk 0 0 (⟨#[]⟩ : ByteArray) [] [])))) (.agg [.str (List.getD v0_0 (Int.toNat (p2 + v0_1)) (Fld.mk (⟨#[]⟩ : ByteArray) (Val.mk 0 0 (⟨#[]⟩ : ByteArray) [] []))).name, .int .i64 (List.getD v0_0 (Int.toNat (p2 + v0_1)) (Fld.mk (⟨#[]⟩ : ByteArray) (Val.mk 0 0 (⟨#[]⟩ : ByteArray) [] []))).v.kind, .int .i64 (List.getD v0_0 (Int.toNat (p2 + v0_1)) (Fld.mk (⟨#[]⟩ : ByteArray) (Val.mk 0 0 (⟨#[]⟩ : ByteArray) [] []))).v.n, .str (List.getD v0_0 (Int.toNat (p2 + v0_1)) (Fld.mk (⟨#[]⟩ : ByteArray) (Val.mk 0 0 (⟨#[]⟩ : ByteArray) [] []))).v.s, .sl (Val.rows (List.getD v0_0 (Int.toNat (p2 + v0_1)) (Fld.mk (⟨#[]⟩ : ByteArray) (Val.mk 0 0 (⟨#[]⟩ : ByteArray) [] []))).v.list), .sl (Fld.rows (List.getD v0_0 (Int.toNat (p2 + v0_1)) (Fld.mk (⟨#[]⟩ : ByteArray) (Val.mk 0 0 (⟨#[]⟩ : ByteArray) [] []))).v.fields)]) rfl rfl (Fld.rowsGet (getD_ok v0_0 (Int.toNat (p2 + v0_1)) (Fld.mk (⟨#[]⟩ : ByteArray) (Val.mk 0 0 (⟨#[]⟩ : ByteArray) [] [])) (by omega))) (Fld.rowsSize v0_0) (by decide) rfl), hP 3 (w_ok (p1 + v0_1) (by omega)), hP 0 (ixs_ok 0 6 n0 (p1 + v0_1) (Int.toNat (p1 + v0_1)) rfl (by omega) (by omega)), hP 0 (ld_ok 0 6 0 false ((Fld.rows v0_0).flatten) (Fld.rows v0_0) 6 true (Int.toNat (p1 + v0_1)) 0 ((Int.toNat (p1 + v0_1)) * 6) (Fld.cells (List.getD v0_0 (Int.toNat (p1 + v0_1)) (Fld.mk (⟨#[]⟩ : ByteArray) (Val.mk 0 0 (⟨#[]⟩ : ByteArray) [] [])))) (.agg [.str (List.getD v0_0 (Int.toNat (p1 + v0_1)) (Fld.mk (⟨#[]⟩ : ByteArray) (Val.mk 0 0 (⟨#[]⟩ : ByteArray) [] []))).name, .int .i64 (List.getD v0_0 (Int.toNat (p1 + v0_1)) (Fld.mk (⟨#[]⟩ : ByteArray) (Val.mk 0 0 (⟨#[]⟩ : ByteArray) [] []))).v.kind, .int .i64 (List.getD v0_0 (Int.toNat (p1 + v0_1)) (Fld.mk (⟨#[]⟩ : ByteArray) (Val.mk 0 0 (⟨#[]⟩ : ByteArray) [] []))).v.n, .str (List.getD v0_0 (Int.toNat (p1 + v0_1)) (Fld.mk (⟨#[]⟩ : ByteArray) (Val.mk 0 0 (⟨#[]⟩ : ByteArray) [] []))).v.s, .sl (Val.rows (List.getD v0_0 (Int.toNat (p1 + v0_1)) (Fld.mk (⟨#[]⟩ : ByteArray) (Val.mk 0 0 (⟨#[]⟩ : ByteArray) [] []))).v.list), .sl (Fld.rows (List.getD v0_0 (Int.toNat (p1 + v0_1)) (Fld.mk (⟨#[]⟩ : ByteArray) (Val.mk 0 0 (⟨#[]⟩ : ByteArray) [] []))).v.fields)]) rfl rfl (Fld.rowsGet (getD_ok v0_0 (Int.toNat (p1 + v0_1)) (Fld.mk (⟨#[]⟩ : ByteArray) (Val.mk 0 0 (⟨#[]⟩ : ByteArray) [] [])) (by omega))) (Fld.rowsSize v0_0) (by decide) rfl), hP 0 (ixs_ok 0 6 n0 (p1 + v0_1) (Int.toNat (p1 + v0_1)) rfl (by omega) (by omega)), hV 0 [(0, Fld.rows (List.set v0_0 (Int.toNat (p1 + v0_1)) (List.getD v0_0 (Int.toNat (p2 + v0_1)) (Fld.mk (⟨#[]⟩ : ByteArray) (Val.mk 0 0 (⟨#[]⟩ : ByteArray) [] [])))))] (st_ok 0 6 false ((Fld.rows v0_0).flatten) (Fld.rows v0_0) (Fld.rows (List.set v0_0 (Int.toNat (p1 + v0_1)) (List.getD v0_0 (Int.toNat (p2 + v0_1)) (Fld.mk (⟨#[]⟩ : ByteArray) (Val.mk 0 0 (⟨#[]⟩ : ByteArray) [] []))))) 6 (Int.toNat (p1 + v0_1)) 0 ((Int.toNat (p1 + v0_1)) * 6) _ (.agg [.str (List.getD v0_0 (Int.toNat (p2 + v0_1)) (Fld.mk (⟨#[]⟩ : ByteArray) (Val.mk 0 0 (⟨#[]⟩ : ByteArray) [] []))).name, .int .i64 (List.getD v0_0 (Int.toNat (p2 + v0_1)) (Fld.mk (⟨#[]⟩ : ByteArray) (Val.mk 0 0 (⟨#[]⟩ : ByteArray) [] []))).v.kind, .int .i64 (List.getD v0_0 (Int.toNat (p2 + v0_1)) (Fld.mk (⟨#[]⟩ : ByteArray) (Val.mk 0 0 (⟨#[]⟩ : ByteArray) [] []))).v.n, .str (List.getD v0_0 (Int.toNat (p2 + v0_1)) (Fld.mk (⟨#[]⟩ : ByteArray) (Val.mk 0 0 (⟨#[]⟩ : ByteArray) [] []))).v.s, .sl (Val.rows (List.getD v0_0 (Int.toNat (p2 + v0_1)) (Fld.mk (⟨#[]⟩ : ByteArray) (Val.mk 0 0 (⟨#[]⟩ : ByteArray) [] []))).v.list), .sl (Fld.rows (List.getD v0_0 (Int.toNat (p2 + v0_1)) (Fld.mk (⟨#[]⟩ : ByteArray) (Val.mk 0 0 (⟨#[]⟩ : ByteArray) [] []))).v.fields)]) rfl rfl (Fld.rowsGet (getD_ok v0_0 (Int.toNat (p1 + v0_1)) (Fld.mk (⟨#[]⟩ : ByteArray) (Val.mk 0 0 (⟨#[]⟩ : ByteArray) [] [])) (by omega))) (Fld.rowsSize v0_0) (by decide) rfl rfl (Fld.rowsSet v0_0 (Int.toNat (p1 + v0_1)) (List.getD v0_0 (Int.toNat (p2 + v0_1)) (Fld.mk (⟨#[]⟩ : ByteArray) (Val.mk 0 0 (⟨#[]⟩ : ByteArray) [] []))))), hS 0 false (Fld.rowsView (List.set v0_0 (Int.toNat (p1 + v0_1)) (List.getD v0_0 (Int.toNat (p2 + v0_1)) (Fld.mk (⟨#[]⟩ : ByteArray) (Val.mk 0 0 (⟨#[]⟩ : ByteArray) [] [])))) 6 rfl), hP 0 (ixs_ok 0 6 n0 (p2 + v0_1) (Int.toNat (p2 + v0_1)) rfl (by have f0 := (lenSet ho0_6 (Int.toNat (p1 + v0_1)) (List.getD v0_0 (Int.toNat (p2 + v0_1)) (Fld.mk (⟨#[]⟩ : ByteArray) (Val.mk 0 0 (⟨#[]⟩ : ByteArray) [] [])))); omega) (by have f0 := (lenSet ho0_6 (Int.toNat (p1 + v0_1)) (List.getD v0_0 (Int.toNat (p2 + v0_1)) (Fld.mk (⟨#[]⟩ : ByteArray) (Val.mk 0 0 (⟨#[]⟩ : ByteArray) [] [])))); omega)), hV 0 [(0, Fld.rows (List.set (List.set v0_0 (Int.toNat (p1 + v0_1)) (List.getD v0_0 (Int.toNat (p2 + v0_1)) (Fld.mk (⟨#[]⟩ : ByteArray) (Val.mk 0 0 (⟨#[]⟩ : ByteArray) [] [])))) (Int.toNat (p2 + v0_1)) (List.getD v0_0 (Int.toNat (p1 + v0_1)) (Fld.mk (⟨#[]⟩ : ByteArray) (Val.mk 0 0 (⟨#[]⟩ : ByteArray) [] [])))))] (st_ok 0 6 false ((Fld.rows (List.set v0_0 (Int.toNat (p1 + v0_1)) (List.getD v0_0 (Int.toNat (p2 + v0_1)) (Fld.mk (⟨#[]⟩ : ByteArray) (Val.mk 0 0 (⟨#[]⟩ : ByteArray) [] []))))).flatten) (Fld.rows (List.set v0_0 (Int.toNat (p1 + v0_1)) (List.getD v0_0 (Int.toNat (p2 + v0_1)) (Fld.mk (⟨#[]⟩ : ByteArray) (Val.mk 0 0 (⟨#[]⟩ : ByteArray) [] []))))) (Fld.rows (List.set (List.set v0_0 (Int.toNat (p1 + v0_1)) (List.getD v0_0 (Int.toNat (p2 + v0_1)) (Fld.mk (⟨#[]⟩ : ByteArray) (Val.mk 0 0 (⟨#[]⟩ : ByteArray) [] [])))) (Int.toNat (p2 + v0_1)) (List.getD v0_0 (Int.toNat (p1 + v0_1)) (Fld.mk (⟨#[]⟩ : ByteArray) (Val.mk 0 0 (⟨#[]⟩ : ByteArray) [] []))))) 6 (Int.toNat (p2 + v0_1)) 0 ((Int.toNat (p2 + v0_1)) * 6) _ (.agg [.str (List.getD v0_0 (Int.toNat (p1 + v0_1)) (Fld.mk (⟨#[]⟩ : ByteArray) (Val.mk 0 0 (⟨#[]⟩ : ByteArray) [] []))).name, .int .i64 (List.getD v0_0 (Int.toNat (p1 + v0_1)) (Fld.mk (⟨#[]⟩ : ByteArray) (Val.mk 0 0 (⟨#[]⟩ : ByteArray) [] []))).v.kind, .int .i64 (List.getD v0_0 (Int.toNat (p1 + v0_1)) (Fld.mk (⟨#[]⟩ : ByteArray) (Val.mk 0 0 (⟨#[]⟩ : ByteArray) [] []))).v.n, .str (List.getD v0_0 (Int.toNat (p1 + v0_1)) (Fld.mk (⟨#[]⟩ : ByteArray) (Val.mk 0 0 (⟨#[]⟩ : ByteArray) [] []))).v.s, .sl (Val.rows (List.getD v0_0 (Int.toNat (p1 + v0_1)) (Fld.mk (⟨#[]⟩ : ByteArray) (Val.mk 0 0 (⟨#[]⟩ : ByteArray) [] []))).v.list), .sl (Fld.rows (List.getD v0_0 (Int.toNat (p1 + v0_1)) (Fld.mk (⟨#[]⟩ : ByteArray) (Val.mk 0 0 (⟨#[]⟩ : ByteArray) [] []))).v.fields)]) rfl rfl (Fld.rowsGet (getD_ok (List.set v0_0 (Int.toNat (p1 + v0_1)) (List.getD v0_0 (Int.toNat (p2 + v0_1)) (Fld.mk (⟨#[]⟩ : ByteArray) (Val.mk 0 0 (⟨#[]⟩ : ByteArray) [] [])))) (Int.toNat (p2 + v0_1)) (Fld.mk (⟨#[]⟩ : ByteArray) (Val.mk 0 0 (⟨#[]⟩ : ByteArray) [] [])) (by have f0 := (lenSet ho0_6 (Int.toNat (p1 + v0_1)) (List.getD v0_0 (Int.toNat (p2 + v0_1)) (Fld.mk (⟨#[]⟩ : ByteArray) (Val.mk 0 0 (⟨#[]⟩ : ByteArray) [] [])))); try simp only [List.length_set]; omega))) (Fld.rowsSize (List.set v0_0 (Int.toNat (p1 + v0_1)) (List.getD v0_0 (Int.toNat (p2 + v0_1)) (Fld.mk (⟨#[]⟩ : ByteArray) (Val.mk 0 0 (⟨#[]⟩ : ByteArray) [] []))))) (by decide) rfl rfl (Fld.rowsSet (List.set v0_0 (Int.toNat (p1 + v0_1)) (List.getD v0_0 (Int.toNat (p2 + v0_1)) (Fld.mk (⟨#[]⟩ : ByteArray) (Val.mk 0 0 (⟨#[]⟩ : ByteArray) [] [])))) (Int.toNat (p2 + v0_1)) (List.getD v0_0 (Int.toNat (p1 + v0_1)) (Fld.mk (⟨#[]⟩ : ByteArray) (Val.mk 0 0 (⟨#[]⟩ : ByteArray) [] []))))), hS 0 false (Fld.rowsView (List.set (List.set v0_0 (Int.toNat (p1 + v0_1)) (List.getD v0_0 (Int.toNat (p2 + v0_1)) (Fld.mk (⟨#[]⟩ : ByteArray) (Val.mk 0 0 (⟨#[]⟩ : ByteArray) [] [])))) (Int.toNat (p2 + v0_1)) (List.getD v0_0 (Int.toNat (p1 + v0_1)) (Fld.mk (⟨#[]⟩ : ByteArray) (Val.mk 0 0 (⟨#[]⟩ : ByteArray) [] [])))) 6 rfl), hP 1 (w_ok (v0_1 + 1) (by have f0 := (lenSet (lenSet ho0_6 (Int.toNat (p1 + v0_1)) (List.getD v0_0 (Int.toNat (p2 + v0_1)) (Fld.mk (⟨#[]⟩ : ByteArray) (Val.mk 0 0 (⟨#[]⟩ : ByteArray) [] [])))) (Int.toNat (p2 + v0_1)) (List.getD v0_0 (Int.toNat (p1 + v0_1)) (Fld.mk (⟨#[]⟩ : ByteArray) (Val.mk 0 0 (⟨#[]⟩ : ByteArray) [] [])))); omega))] [] (by kernel_rfl) hr
def Z_K16_b0_1 (n0 : Nat) (p1 : Int) (p2 : Int) (p3 : Int) (_v0_0 : List Fld) (v0_1 : Int) : List PV :=
  [.ms 0 6 0 n0, .int .i64 p1, .int .i64 p2, .int .i64 p3, .un, .un, .un, .un, .un, .un, .int .i64 v0_1, .int .i64 v0_1, .int .i64 p3, .bool false]
def ZO_K16_b0_1 (_n0 : Nat) (_p1 : Int) (_p2 : Int) (_p3 : Int) (_v0_0 : List Fld) (_v0_1 : Int) : List (Nat × List PV) :=
  []
theorem x_K16_b0_1 (n0 : Nat) (p1 : Int) (p2 : Int) (p3 : Int) (v0_0 : List Fld) (v0_1 : Int) (_ho0_0 : 0 ≤ v0_1) (_ho0_1 : 0 ≤ p1) (_ho0_2 : 0 ≤ p2) (_ho0_3 : p1 + p3 ≤ n0) (_ho0_4 : p2 + p3 ≤ n0) (_ho0_5 : (n0 : Int) ≤ 1152921504606846976) (_ho0_6 : List.length v0_0 = n0) (h0 : (decide (v0_1 < p3)) = false) : P_K16_b0 n0 p1 p2 p3 (E_K16_b0 n0 p1 p2 p3 v0_0 v0_1) v0_0 := by
  exact ⟨(envF (Z_K16_b0_1 n0 p1 p2 p3 v0_0 v0_1)), (zoF (ZO_K16_b0_1 n0 p1 p2 p3 v0_0 v0_1)), tells_outVI (V_K16_b0 n0 p1 p2 p3 v0_0 v0_1) (x := ((.exit 0), S_K16_b0_0 n0 p1 p2 p3 v0_0 (envF (Z_K16_b0_1 n0 p1 p2 p3 v0_0 v0_1)) (zoF (ZO_K16_b0_1 n0 p1 p2 p3 v0_0 v0_1)))) [hB 2 h0] [] (by kernel_rfl)⟩
theorem lt_K16_b0 (n0 : Nat) (p1 : Int) (p2 : Int) (p3 : Int) : ∀ (k0 : Nat) (v0_0 : List Fld) (v0_1 : Int), 0 ≤ v0_1 → 0 ≤ p1 → 0 ≤ p2 → p1 + p3 ≤ n0 → p2 + p3 ≤ n0 → (n0 : Int) ≤ 1152921504606846976 → List.length v0_0 = n0 → Int.toNat (p3 - v0_1) < k0 → P_K16_b0 n0 p1 p2 p3 (E_K16_b0 n0 p1 p2 p3 v0_0 v0_1) (l_K16_b0 n0 p1 p2 p3 k0 v0_0 v0_1)
  | 0, v0_0, v0_1, _, _, _, _, _, _, _, hm => absurd hm (Nat.not_lt_zero _)
  | k0 + 1, v0_0, v0_1, ho0_0, ho0_1, ho0_2, ho0_3, ho0_4, ho0_5, ho0_6, hm => by
    rw [l_K16_b0]
    cases h0 : (decide (v0_1 < p3)) with
    | true =>
     have e0 := of_decide_eq_true h0
     exact P_K16_b0_mono n0 p1 p2 p3 (fun r hr => n_K16_b0_0 n0 p1 p2 p3 v0_0 v0_1 ho0_0 ho0_1 ho0_2 ho0_3 ho0_4 ho0_5 ho0_6 h0 hr) _ (lt_K16_b0 n0 p1 p2 p3 k0 (List.set (List.set v0_0 (Int.toNat (p1 + v0_1)) (List.getD v0_0 (Int.toNat (p2 + v0_1)) (Fld.mk (⟨#[]⟩ : ByteArray) (Val.mk 0 0 (⟨#[]⟩ : ByteArray) [] [])))) (Int.toNat (p2 + v0_1)) (List.getD v0_0 (Int.toNat (p1 + v0_1)) (Fld.mk (⟨#[]⟩ : ByteArray) (Val.mk 0 0 (⟨#[]⟩ : ByteArray) [] [])))) (v0_1 + 1) (by have f0 := (lenSet (lenSet ho0_6 (Int.toNat (p1 + v0_1)) (List.getD v0_0 (Int.toNat (p2 + v0_1)) (Fld.mk (⟨#[]⟩ : ByteArray) (Val.mk 0 0 (⟨#[]⟩ : ByteArray) [] [])))) (Int.toNat (p2 + v0_1)) (List.getD v0_0 (Int.toNat (p1 + v0_1)) (Fld.mk (⟨#[]⟩ : ByteArray) (Val.mk 0 0 (⟨#[]⟩ : ByteArray) [] [])))); omega) (by have f0 := (lenSet (lenSet ho0_6 (Int.toNat (p1 + v0_1)) (List.getD v0_0 (Int.toNat (p2 + v0_1)) (Fld.mk (⟨#[]⟩ : ByteArray) (Val.mk 0 0 (⟨#[]⟩ : ByteArray) [] [])))) (Int.toNat (p2 + v0_1)) (List.getD v0_0 (Int.toNat (p1 + v0_1)) (Fld.mk (⟨#[]⟩ : ByteArray) (Val.mk 0 0 (⟨#[]⟩ : ByteArray) [] [])))); omega) (by have f0 := (lenSet (lenSet ho0_6 (Int.toNat (p1 + v0_1)) (List.getD v0_0 (Int.toNat (p2 + v0_1)) (Fld.mk (⟨#[]⟩ : ByteArray) (Val.mk 0 0 (⟨#[]⟩ : ByteArray) [] [])))) (Int.toNat (p2 + v0_1)) (List.getD v0_0 (Int.toNat (p1 + v0_1)) (Fld.mk (⟨#[]⟩ : ByteArray) (Val.mk 0 0 (⟨#[]⟩ : ByteArray) [] [])))); omega) (by have f0 := (lenSet (lenSet ho0_6 (Int.toNat (p1 + v0_1)) (List.getD v0_0 (Int.toNat (p2 + v0_1)) (Fld.mk (⟨#[]⟩ : ByteArray) (Val.mk 0 0 (⟨#[]⟩ : ByteArray) [] [])))) (Int.toNat (p2 + v0_1)) (List.getD v0_0 (Int.toNat (p1 + v0_1)) (Fld.mk (⟨#[]⟩ : ByteArray) (Val.mk 0 0 (⟨#[]⟩ : ByteArray) [] [])))); omega) (by have f0 := (lenSet (lenSet ho0_6 (Int.toNat (p1 + v0_1)) (List.getD v0_0 (Int.toNat (p2 + v0_1)) (Fld.mk (⟨#[]⟩ : ByteArray) (Val.mk 0 0 (⟨#[]⟩ : ByteArray) [] [])))) (Int.toNat (p2 + v0_1)) (List.getD v0_0 (Int.toNat (p1 + v0_1)) (Fld.mk (⟨#[]⟩ : ByteArray) (Val.mk 0 0 (⟨#[]⟩ : ByteArray) [] [])))); omega) (by have f0 := (lenSet (lenSet ho0_6 (Int.toNat (p1 + v0_1)) (List.getD v0_0 (Int.toNat (p2 + v0_1)) (Fld.mk (⟨#[]⟩ : ByteArray) (Val.mk 0 0 (⟨#[]⟩ : ByteArray) [] [])))) (Int.toNat (p2 + v0_1)) (List.getD v0_0 (Int.toNat (p1 + v0_1)) (Fld.mk (⟨#[]⟩ : ByteArray) (Val.mk 0 0 (⟨#[]⟩ : ByteArray) [] [])))); omega) (lenSet (lenSet ho0_6 (Int.toNat (p1 + v0_1)) (List.getD v0_0 (Int.toNat (p2 + v0_1)) (Fld.mk (⟨#[]⟩ : ByteArray) (Val.mk 0 0 (⟨#[]⟩ : ByteArray) [] [])))) (Int.toNat (p2 + v0_1)) (List.getD v0_0 (Int.toNat (p1 + v0_1)) (Fld.mk (⟨#[]⟩ : ByteArray) (Val.mk 0 0 (⟨#[]⟩ : ByteArray) [] [])))) (by have f0 := (lenSet (lenSet ho0_6 (Int.toNat (p1 + v0_1)) (List.getD v0_0 (Int.toNat (p2 + v0_1)) (Fld.mk (⟨#[]⟩ : ByteArray) (Val.mk 0 0 (⟨#[]⟩ : ByteArray) [] [])))) (Int.toNat (p2 + v0_1)) (List.getD v0_0 (Int.toNat (p1 + v0_1)) (Fld.mk (⟨#[]⟩ : ByteArray) (Val.mk 0 0 (⟨#[]⟩ : ByteArray) [] [])))); omega))
    | false =>
     exact x_K16_b0_1 n0 p1 p2 p3 v0_0 v0_1 ho0_0 ho0_1 ho0_2 ho0_3 ho0_4 ho0_5 ho0_6 h0
theorem ll_K16_b0_0 (n0 : Nat) (p1 : Int) (p2 : Int) (p3 : Int) : ∀ (k0 : Nat) (v0_0 : List Fld) (v0_1 : Int), List.length v0_0 = n0 → List.length (l_K16_b0 n0 p1 p2 p3 k0 v0_0 v0_1) = n0
  | 0, v0_0, v0_1, ho0_6 => by rw [l_K16_b0]; exact ho0_6
  | k0 + 1, v0_0, v0_1, ho0_6 => by
    rw [l_K16_b0]
    cases h0 : (decide (v0_1 < p3)) with
    | true =>
     exact ll_K16_b0_0 n0 p1 p2 p3 k0 (List.set (List.set v0_0 (Int.toNat (p1 + v0_1)) (List.getD v0_0 (Int.toNat (p2 + v0_1)) (Fld.mk (⟨#[]⟩ : ByteArray) (Val.mk 0 0 (⟨#[]⟩ : ByteArray) [] [])))) (Int.toNat (p2 + v0_1)) (List.getD v0_0 (Int.toNat (p1 + v0_1)) (Fld.mk (⟨#[]⟩ : ByteArray) (Val.mk 0 0 (⟨#[]⟩ : ByteArray) [] [])))) (v0_1 + 1) (lenSet (lenSet ho0_6 (Int.toNat (p1 + v0_1)) (List.getD v0_0 (Int.toNat (p2 + v0_1)) (Fld.mk (⟨#[]⟩ : ByteArray) (Val.mk 0 0 (⟨#[]⟩ : ByteArray) [] [])))) (Int.toNat (p2 + v0_1)) (List.getD v0_0 (Int.toNat (p1 + v0_1)) (Fld.mk (⟨#[]⟩ : ByteArray) (Val.mk 0 0 (⟨#[]⟩ : ByteArray) [] []))))
    | false =>
     exact ho0_6
/-- slices.swapRangeCmpFunc[orchestrator/ api.Field] -/
def s_K16_f51 (n0 : Nat) (p0 : List Fld) (p1 : Int) (p2 : Int) (p3 : Int) : List Fld :=
  (l_K16_b0 n0 p1 p2 p3 ((Int.toNat (p3 - 0)) + 1) p0 0)
def c_K16_f51 (n0 : Nat) (p0 : List Fld) (p1 : Int) (p2 : Int) (p3 : Int) : En := .call 74 [.ms 0 6 0 n0, .int .i64 p1, .int .i64 p2, .int .i64 p3, .fn 51 [] []] [⟨6, 0, false, (Fld.rows p0).flatten⟩]
def a_K16_f51 (n0 : Nat) (p0 : List Fld) (p1 : Int) (p2 : Int) (p3 : Int) : Rs := .ret (.tup []) [⟨6, 0, false, (Fld.rows (s_K16_f51 n0 p0 p1 p2 p3)).flatten⟩]
theorem lens_K16_f51 (n0 : Nat) (p0 : List Fld) (p1 : Int) (p2 : Int) (p3 : Int) (hn : List.length p0 = n0) : List.length (s_K16_f51 n0 p0 p1 p2 p3) = n0 := by
  unfold s_K16_f51
  have hz0_0 : List.length (l_K16_b0 n0 p1 p2 p3 ((Int.toNat (p3 - 0)) + 1) p0 0) = n0 := ll_K16_b0_0 n0 p1 p2 p3 ((Int.toNat (p3 - 0)) + 1) p0 0 hn
  obtain ⟨R0, eR0⟩ : ∃ R, (l_K16_b0 n0 p1 p2 p3 ((Int.toNat (p3 - 0)) + 1) p0 0) = R := ⟨_, rfl⟩
  rw [eR0] at hz0_0 ⊢
  exact hz0_0
theorem t_K16_f51 (n0 : Nat) (p0 : List Fld) (p1 : Int) (p2 : Int) (p3 : Int) (hn : List.length p0 = n0) (hq0 : 0 ≤ p1 ∧ 0 ≤ p2 ∧ 0 ≤ p3 ∧ p1 + p3 ≤ n0 ∧ p2 + p3 ≤ n0 ∧ (n0 : Int) ≤ 1152921504606846976) : Tells G (c_K16_f51 n0 p0 p1 p2 p3) (a_K16_f51 n0 p0 p1 p2 p3) := by
  unfold a_K16_f51 s_K16_f51
  have hl0 := lt_K16_b0 n0 p1 p2 p3 ((Int.toNat (p3 - 0)) + 1) p0 0 (by omega) (by omega) (by omega) (by omega) (by omega) (by omega) hn (by omega)
  have hz0_0 : List.length (l_K16_b0 n0 p1 p2 p3 ((Int.toNat (p3 - 0)) + 1) p0 0) = n0 := ll_K16_b0_0 n0 p1 p2 p3 ((Int.toNat (p3 - 0)) + 1) p0 0 hn
  obtain ⟨R0, eR0⟩ : ∃ R, (l_K16_b0 n0 p1 p2 p3 ((Int.toNat (p3 - 0)) + 1) p0 0) = R := ⟨_, rfl⟩
  rw [eR0] at hz0_0 hl0 ⊢
  obtain ⟨z0, zo0, hl0⟩ := hl0
  exact tells_VI (fn := Ir.K16) rfl (vk1 (Fld.rowsView p0 6 rfl)) [hS 0 false (Fld.rowsView R0 6 rfl)] [aV [(0, Fld.rows R0)] hl0] (by kernel_rfl)
def l_K14_b0 (n0 : Nat) (p2 : Int) : Nat → Int → Int → (List Fld) → (List Fld) × Int
  | 0, v0_0, _v0_1, v0_2 => (v0_2, v0_0)
  | k0 + 1, v0_0, v0_1, v0_2 =>
    bif (v0_0 == v0_1) then
      (v0_2, v0_0)
    else
      bif (decide (v0_1 < v0_0)) then
        l_K14_b0 n0 p2 k0 (v0_0 - v0_1) v0_1 (s_K16_f51 n0 v0_2 (p2 - v0_0) p2 v0_1)
      else
        l_K14_b0 n0 p2 k0 v0_0 (v0_1 - v0_0) (s_K16_f51 n0 v0_2 (p2 - v0_0) ((p2 + v0_1) - v0_0) v0_0)
def HE_K14_b0 (n0 : Nat) (p2 : Int) (v0_0 : Int) (v0_1 : Int) (_v0_2 : List Fld) : List PV :=
  [.ms 0 6 0 n0, .un, .int .i64 p2, .un, .fn 51 [] [], .un, .un, .un, .un, .un, .int .i64 v0_0, .int .i64 v0_1, .un, .un, .un, .un, .un, .un, .un, .un, .un, .un, .un, .un, .un, .un, .un, .un, .un, .un, .un, .un, .un, .un, .un, .un, .un, .un, .un, .un, .un, .un, .un, .un, .un, .un, .un, .un, .un, .un, .un, .un, .un, .un, .un, .un, .un, .un]
def HO_K14_b0 (_n0 : Nat) (_p2 : Int) (_v0_0 : Int) (_v0_1 : Int) (v0_2 : List Fld) : List Ob :=
  [⟨6, 0, false, (Fld.rows v0_2).flatten⟩]
def E_K14_b0 (n0 : Nat) (p2 : Int) (v0_0 : Int) (v0_1 : Int) (v0_2 : List Fld) : En := .loop 1 Ir.K14_b0_live Ir.K14_b0 (HE_K14_b0 n0 p2 v0_0 v0_1 v0_2) (HO_K14_b0 n0 p2 v0_0 v0_1 v0_2)
def S_K14_b0_0 (n0 : Nat) (p2 : Int) (q0 : List Fld) (q1 : Int) (z : Nat → PV) (_zo : Nat → List PV) : St :=
  ⟨[.ms 0 6 0 n0, z 1, .int .i64 p2, z 3, .fn 51 [] [], z 5, z 6, z 7, z 8, z 9, .int .i64 q1, z 11, z 12, z 13, z 14, z 15, z 16, z 17, z 18, z 19, z 20, z 21, z 22, z 23, z 24, z 25, z 26, z 27, z 28, z 29, z 30, z 31, z 32, z 33, z 34, z 35, z 36, z 37, z 38, z 39, z 40, z 41, z 42, z 43, z 44, z 45, z 46, z 47, z 48, z 49, z 50, z 51, z 52, z 53, z 54, z 55, z 56, z 57], [(0, ⟨6, 0, false, (Fld.rows q0).flatten⟩)], 193⟩
theorem V_K14_b0 (n0 : Nat) (p2 : Int) (v0_0 : Int) (v0_1 : Int) (v0_2 : List Fld) : VOK (Go.Pv.look (number 0 (HO_K14_b0 n0 p2 v0_0 v0_1 v0_2))) [(0, Fld.rows v0_2)] := (VOK.cons (show Seen _ _ from seenV (ob := ⟨6, 0, false, (Fld.rows v0_2).flatten⟩) (Fld.rowsView v0_2 6 rfl)) VOK.nil)
def P_K14_b0 (n0 : Nat) (p2 : Int) (e : En) (q : (List Fld) × Int) : Prop := ∃ z zo, Tells G e (.st (.exit 0) (S_K14_b0_0 n0 p2 q.1 q.2 z zo))
theorem P_K14_b0_mono (n0 : Nat) (p2 : Int) {e e' : En} (h : ∀ r, Tells G e r → Tells G e' r) : ∀ q, P_K14_b0 n0 p2 e q → P_K14_b0 n0 p2 e' q
  | _, ⟨z, zo, hz⟩ => ⟨z, zo, h _ hz⟩
def Z_K14_b0_0 (_n0 : Nat) (_p2 : Int) (v0_0 : Int) (v0_1 : Int) (_v0_2 : List Fld) : List PV :=
  [.un, .un, .un, .un, .un, .un, .un, .un, .un, .un, .un, .int .i64 v0_1, .un, .un, .un, .un, .un, .un, .int .i64 v0_0, .int .i64 v0_1, .bool false]
def ZO_K14_b0_0 (_n0 : Nat) (_p2 : Int) (_v0_0 : Int) (_v0_1 : Int) (_v0_2 : List Fld) : List (Nat × List PV) :=
  []
theorem x_K14_b0_0 (n0 : Nat) (p2 : Int) (v0_0 : Int) (v0_1 : Int) (v0_2 : List Fld) (_ho0_0 : 0 < v0_0) (_ho0_1 : 0 < v0_1) (_ho0_2 : v0_0 ≤ p2) (_ho0_3 : p2 + v0_1 ≤ n0) (_ho0_4 : (n0 : Int) ≤ 1152921504606846976) (_ho0_5 : List.length v0_2 = n0) (h0 : (v0_0 == v0_1) = true) : P_K14_b0 n0 p2 (E_K14_b0 n0 p2 v0_0 v0_1 v0_2) (v0_2, v0_0) := by
  exact ⟨(envF (Z_K14_b0_0 n0 p2 v0_0 v0_1 v0_2)), (zoF (ZO_K14_b0_0 n0 p2 v0_0 v0_1 v0_2)), tells_outVI (V_K14_b0 n0 p2 v0_0 v0_1 v0_2) (x := ((.exit 0), S_K14_b0_0 n0 p2 v0_2 v0_0 (envF (Z_K14_b0_0 n0 p2 v0_0 v0_1 v0_2)) (zoF (ZO_K14_b0_0 n0 p2 v0_0 v0_1 v0_2)))) [hP 2 (dec (!(v0_0 == v0_1)) false (by rw [h0]; rfl))] [] (by kernel_rfl)⟩
theorem n_K14_b0_1 (n0 : Nat) (p2 : Int) (v0_0 : Int) (v0_1 : Int) (v0_2 : List Fld) (ho0_0 : 0 < v0_0) (ho0_1 : 0 < v0_1) (ho0_2 : v0_0 ≤ p2) (ho0_3 : p2 + v0_1 ≤ n0) (ho0_4 : (n0 : Int) ≤ 1152921504606846976) (ho0_5 : List.length v0_2 = n0) (h0 : (v0_0 == v0_1) = false) (h1 : (decide (v0_1 < v0_0)) = true) {r : Rs} (hr : Tells G (E_K14_b0 n0 p2 (v0_0 - v0_1) v0_1 (s_K16_f51 n0 v0_2 (p2 - v0_0) p2 v0_1)) r) : Tells G (E_K14_b0 n0 p2 v0_0 v0_1 v0_2) r := by
  have e0 := beq_eq_false_iff_ne.1 h0; have e1 := of_decide_eq_true h1
  exact tells_nextVI (V_K14_b0 n0 p2 v0_0 v0_1 v0_2) (y := (HE_K14_b0 n0 p2 (v0_0 - v0_1) v0_1 (s_K16_f51 n0 v0_2 (p2 - v0_0) p2 v0_1), HO_K14_b0 n0 p2 (v0_0 - v0_1) v0_1 (s_K16_f51 n0 v0_2 (p2 - v0_0) p2 v0_1))) [hP 2 (dec (!(v0_0 == v0_1)) true (by rw [h0]; rfl)), hB 2 h1, hP 3 (w_ok (p2 - v0_0) (by omega)), hQ (Fld.rowsView (s_K16_f51 n0 v0_2 (p2 - v0_0) p2 v0_1) 6 rfl), hP 6 (w_ok (v0_0 - v0_1) (by have f0 := (lens_K16_f51 n0 v0_2 (p2 - v0_0) p2 v0_1 ho0_5); omega))] [aV [(0, Fld.rows (s_K16_f51 n0 v0_2 (p2 - v0_0) p2 v0_1))] (t_K16_f51 n0 v0_2 (p2 - v0_0) p2 v0_1 ho0_5 (by omega))] (by kernel_rfl) hr
theorem n_K14_b0_2 (n0 : Nat) (p2 : Int) (v0_0 : Int) (v0_1 : Int) (v0_2 : List Fld) (ho0_0 : 0 < v0_0) (ho0_1 : 0 < v0_1) (ho0_2 : v0_0 ≤ p2) (ho0_3 : p2 + v0_1 ≤ n0) (ho0_4 : (n0 : Int) ≤ 1152921504606846976) (ho0_5 : List.length v0_2 = n0) (h0 : (v0_0 == v0_1) = false) (h1 : (decide (v0_1 < v0_0)) = false) {r : Rs} (hr : Tells G (E_K14_b0 n0 p2 v0_0 (v0_1 - v0_0) (s_K16_f51 n0 v0_2 (p2 - v0_0) ((p2 + v0_1) - v0_0) v0_0)) r) : Tells G (E_K14_b0 n0 p2 v0_0 v0_1 v0_2) r := by
  have e0 := beq_eq_false_iff_ne.1 h0; have e1 := of_decide_eq_false h1
  exact tells_nextVI (V_K14_b0 n0 p2 v0_0 v0_1 v0_2) (y := (HE_K14_b0 n0 p2 v0_0 (v0_1 - v0_0) (s_K16_f51 n0 v0_2 (p2 - v0_0) ((p2 + v0_1) - v0_0) v0_0), HO_K14_b0 n0 p2 v0_0 (v0_1 - v0_0) (s_K16_f51 n0 v0_2 (p2 - v0_0) ((p2 + v0_1) - v0_0) v0_0))) [hP 2 (dec (!(v0_0 == v0_1)) true (by rw [h0]; rfl)), hB 2 h1, hP 3 (w_ok (p2 - v0_0) (by omega)), hP 2 (w_ok (p2 + v0_1) (by omega)), hP 1 (w_ok ((p2 + v0_1) - v0_0) (by omega)), hQ (Fld.rowsView (s_K16_f51 n0 v0_2 (p2 - v0_0) ((p2 + v0_1) - v0_0) v0_0) 6 rfl), hP 5 (w_ok (v0_1 - v0_0) (by have f0 := (lens_K16_f51 n0 v0_2 (p2 - v0_0) ((p2 + v0_1) - v0_0) v0_0 ho0_5); omega))] [aV [(0, Fld.rows (s_K16_f51 n0 v0_2 (p2 - v0_0) ((p2 + v0_1) - v0_0) v0_0))] (t_K16_f51 n0 v0_2 (p2 - v0_0) ((p2 + v0_1) - v0_0) v0_0 ho0_5 (by omega))] (by kernel_rfl) hr
theorem lt_K14_b0 (n0 : Nat) (p2 : Int) : ∀ (k0 : Nat) (v0_0 : Int) (v0_1 : Int) (v0_2 : List Fld), 0 < v0_0 → 0 < v0_1 → v0_0 ≤ p2 → p2 + v0_1 ≤ n0 → (n0 : Int) ≤ 1152921504606846976 → List.length v0_2 = n0 → Int.toNat (v0_0 + v0_1) < k0 → P_K14_b0 n0 p2 (E_K14_b0 n0 p2 v0_0 v0_1 v0_2) (l_K14_b0 n0 p2 k0 v0_0 v0_1 v0_2)
  | 0, v0_0, v0_1, v0_2, _, _, _, _, _, _, hm => absurd hm (Nat.not_lt_zero _)
  | k0 + 1, v0_0, v0_1, v0_2, ho0_0, ho0_1, ho0_2, ho0_3, ho0_4, ho0_5, hm => by
    rw [l_K14_b0]
    cases h0 : (v0_0 == v0_1) with
    | true =>
     exact x_K14_b0_0 n0 p2 v0_0 v0_1 v0_2 ho0_0 ho0_1 ho0_2 ho0_3 ho0_4 ho0_5 h0
    | false =>
     have e0 := beq_eq_false_iff_ne.1 h0
     cases h1 : (decide (v0_1 < v0_0)) with
     | true =>
      have e1 := of_decide_eq_true h1
      exact P_K14_b0_mono n0 p2 (fun r hr => n_K14_b0_1 n0 p2 v0_0 v0_1 v0_2 ho0_0 ho0_1 ho0_2 ho0_3 ho0_4 ho0_5 h0 h1 hr) _ (lt_K14_b0 n0 p2 k0 (v0_0 - v0_1) v0_1 (s_K16_f51 n0 v0_2 (p2 - v0_0) p2 v0_1) (by have f0 := (lens_K16_f51 n0 v0_2 (p2 - v0_0) p2 v0_1 ho0_5); omega) (by have f0 := (lens_K16_f51 n0 v0_2 (p2 - v0_0) p2 v0_1 ho0_5); omega) (by have f0 := (lens_K16_f51 n0 v0_2 (p2 - v0_0) p2 v0_1 ho0_5); omega) (by have f0 := (lens_K16_f51 n0 v0_2 (p2 - v0_0) p2 v0_1 ho0_5); omega) (by have f0 := (lens_K16_f51 n0 v0_2 (p2 - v0_0) p2 v0_1 ho0_5); omega) (lens_K16_f51 n0 v0_2 (p2 - v0_0) p2 v0_1 ho0_5) (by have f0 := (lens_K16_f51 n0 v0_2 (p2 - v0_0) p2 v0_1 ho0_5); omega))
     | false =>
      have e1 := of_decide_eq_false h1
      exact P_K14_b0_mono n0 p2 (fun r hr => n_K14_b0_2 n0 p2 v0_0 v0_1 v0_2 ho0_0 ho0_1 ho0_2 ho0_3 ho0_4 ho0_5 h0 h1 hr) _ (lt_K14_b0 n0 p2 k0 v0_0 (v0_1 - v0_0) (s_K16_f51 n0 v0_2 (p2 - v0_0) ((p2 + v0_1) - v0_0) v0_0) (by have f0 := (lens_K16_f51 n0 v0_2 (p2 - v0_0) ((p2 + v0_1) - v0_0) v0_0 ho0_5); omega) (by have f0 := (lens_K16_f51 n0 v0_2 (p2 - v0_0) ((p2 + v0_1) - v0_0) v0_0 ho0_5); omega) (by have f0 := (lens_K16_f51 n0 v0_2 (p2 - v0_0) ((p2 + v0_1) - v0_0) v0_0 ho0_5); omega) (by have f0 := (lens_K16_f51 n0 v0_2 (p2 - v0_0) ((p2 + v0_1) - v0_0) v0_0 ho0_5); omega) (by have f0 := (lens_K16_f51 n0 v0_2 (p2 - v0_0) ((p2 + v0_1) - v0_0) v0_0 ho0_5); omega) (lens_K16_f51 n0 v0_2 (p2 - v0_0) ((p2 + v0_1) - v0_0) v0_0 ho0_5) (by have f0 := (lens_K16_f51 n0 v0_2 (p2 - v0_0) ((p2 + v0_1) - v0_0) v0_0 ho0_5); omega))
theorem ll_K14_b0_0 (n0 : Nat) (p2 : Int) : ∀ (k0 : Nat) (v0_0 : Int) (v0_1 : Int) (v0_2 : List Fld), List.length v0_2 = n0 → List.length (l_K14_b0 n0 p2 k0 v0_0 v0_1 v0_2).1 = n0
  | 0, v0_0, v0_1, v0_2, ho0_5 => by rw [l_K14_b0]; exact ho0_5
  | k0 + 1, v0_0, v0_1, v0_2, ho0_5 => by
    rw [l_K14_b0]
    cases h0 : (v0_0 == v0_1) with
    | true =>
     exact ho0_5
    | false =>
     cases h1 : (decide (v0_1 < v0_0)) with
     | true =>
      exact ll_K14_b0_0 n0 p2 k0 (v0_0 - v0_1) v0_1 (s_K16_f51 n0 v0_2 (p2 - v0_0) p2 v0_1) (lens_K16_f51 n0 v0_2 (p2 - v0_0) p2 v0_1 ho0_5)
     | false =>
      exact ll_K14_b0_0 n0 p2 k0 v0_0 (v0_1 - v0_0) (s_K16_f51 n0 v0_2 (p2 - v0_0) ((p2 + v0_1) - v0_0) v0_0) (lens_K16_f51 n0 v0_2 (p2 - v0_0) ((p2 + v0_1) - v0_0) v0_0 ho0_5)
theorem pl_K14_b0 (n0 : Nat) (p2 : Int) : ∀ (k0 : Nat) (v0_0 : Int) (v0_1 : Int) (v0_2 : List Fld), 0 < v0_0 → 0 < v0_1 → v0_0 ≤ p2 → p2 + v0_1 ≤ n0 → (n0 : Int) ≤ 1152921504606846976 → List.length v0_2 = n0 → Int.toNat (v0_0 + v0_1) < k0 → 0 < (l_K14_b0 n0 p2 k0 v0_0 v0_1 v0_2).2 ∧ (l_K14_b0 n0 p2 k0 v0_0 v0_1 v0_2).2 ≤ p2 ∧ p2 + (l_K14_b0 n0 p2 k0 v0_0 v0_1 v0_2).2 ≤ n0
  | 0, v0_0, v0_1, v0_2, _, _, _, _, _, _, hm => absurd hm (Nat.not_lt_zero _)
  | k0 + 1, v0_0, v0_1, v0_2, ho0_0, ho0_1, ho0_2, ho0_3, ho0_4, ho0_5, hm => by
    rw [l_K14_b0]
    cases h0 : (v0_0 == v0_1) with
    | true =>
     have e0 := eq_of_beq h0
     exact (show 0 < v0_0 ∧ v0_0 ≤ p2 ∧ p2 + v0_0 ≤ n0 from ⟨(by omega), (by omega), (by omega)⟩)
    | false =>
     have e0 := beq_eq_false_iff_ne.1 h0
     cases h1 : (decide (v0_1 < v0_0)) with
     | true =>
      have e1 := of_decide_eq_true h1
      exact pl_K14_b0 n0 p2 k0 (v0_0 - v0_1) v0_1 (s_K16_f51 n0 v0_2 (p2 - v0_0) p2 v0_1) (by have f0 := (lens_K16_f51 n0 v0_2 (p2 - v0_0) p2 v0_1 ho0_5); omega) (by have f0 := (lens_K16_f51 n0 v0_2 (p2 - v0_0) p2 v0_1 ho0_5); omega) (by have f0 := (lens_K16_f51 n0 v0_2 (p2 - v0_0) p2 v0_1 ho0_5); omega) (by have f0 := (lens_K16_f51 n0 v0_2 (p2 - v0_0) p2 v0_1 ho0_5); omega) (by have f0 := (lens_K16_f51 n0 v0_2 (p2 - v0_0) p2 v0_1 ho0_5); omega) (lens_K16_f51 n0 v0_2 (p2 - v0_0) p2 v0_1 ho0_5) (by have f0 := (lens_K16_f51 n0 v0_2 (p2 - v0_0) p2 v0_1 ho0_5); omega)
     | false =>
      have e1 := of_decide_eq_false h1
      exact pl_K14_b0 n0 p2 k0 v0_0 (v0_1 - v0_0) (s_K16_f51 n0 v0_2 (p2 - v0_0) ((p2 + v0_1) - v0_0) v0_0) (by have f0 := (lens_K16_f51 n0 v0_2 (p2 - v0_0) ((p2 + v0_1) - v0_0) v0_0 ho0_5); omega) (by have f0 := (lens_K16_f51 n0 v0_2 (p2 - v0_0) ((p2 + v0_1) - v0_0) v0_0 ho0_5); omega) (by have f0 := (lens_K16_f51 n0 v0_2 (p2 - v0_0) ((p2 + v0_1) - v0_0) v0_0 ho0_5); omega) (by have f0 := (lens_K16_f51 n0 v0_2 (p2 - v0_0) ((p2 + v0_1) - v0_0) v0_0 ho0_5); omega) (by have f0 := (lens_K16_f51 n0 v0_2 (p2 - v0_0) ((p2 + v0_1) - v0_0) v0_0 ho0_5); omega) (lens_K16_f51 n0 v0_2 (p2 - v0_0) ((p2 + v0_1) - v0_0) v0_0 ho0_5) (by have f0 := (lens_K16_f51 n0 v0_2 (p2 - v0_0) ((p2 + v0_1) - v0_0) v0_0 ho0_5); omega)
/-- slices.rotateCmpFunc[orchestrator/ api.Field] -/
def s_K14_f51 (n0 : Nat) (p0 : List Fld) (p1 : Int) (p2 : Int) (p3 : Int) : List Fld :=
  (s_K16_f51 n0 (l_K14_b0 n0 p2 ((Int.toNat ((p2 - p1) + (p3 - p2))) + 1) (p2 - p1) (p3 - p2) p0).1 (p2 - (l_K14_b0 n0 p2 ((Int.toNat ((p2 - p1) + (p3 - p2))) + 1) (p2 - p1) (p3 - p2) p0).2) p2 (l_K14_b0 n0 p2 ((Int.toNat ((p2 - p1) + (p3 - p2))) + 1) (p2 - p1) (p3 - p2) p0).2)
def c_K14_f51 (n0 : Nat) (p0 : List Fld) (p1 : Int) (p2 : Int) (p3 : Int) : En := .call 73 [.ms 0 6 0 n0, .int .i64 p1, .int .i64 p2, .int .i64 p3, .fn 51 [] []] [⟨6, 0, false, (Fld.rows p0).flatten⟩]
def a_K14_f51 (n0 : Nat) (p0 : List Fld) (p1 : Int) (p2 : Int) (p3 : Int) : Rs := .ret (.tup []) [⟨6, 0, false, (Fld.rows (s_K14_f51 n0 p0 p1 p2 p3)).flatten⟩]
theorem lens_K14_f51 (n0 : Nat) (p0 : List Fld) (p1 : Int) (p2 : Int) (p3 : Int) (hn : List.length p0 = n0) : List.length (s_K14_f51 n0 p0 p1 p2 p3) = n0 := by
  unfold s_K14_f51
  have hz0_0 : List.length (l_K14_b0 n0 p2 ((Int.toNat ((p2 - p1) + (p3 - p2))) + 1) (p2 - p1) (p3 - p2) p0).1 = n0 := ll_K14_b0_0 n0 p2 ((Int.toNat ((p2 - p1) + (p3 - p2))) + 1) (p2 - p1) (p3 - p2) p0 hn
  obtain ⟨R1, eR1⟩ : ∃ R, (l_K14_b0 n0 p2 ((Int.toNat ((p2 - p1) + (p3 - p2))) + 1) (p2 - p1) (p3 - p2) p0) = R := ⟨_, rfl⟩
  rw [eR1] at hz0_0 ⊢
  exact (lens_K16_f51 n0 R1.1 (p2 - R1.2) p2 R1.2 hz0_0)
theorem t_K14_f51 (n0 : Nat) (p0 : List Fld) (p1 : Int) (p2 : Int) (p3 : Int) (hn : List.length p0 = n0) (hq0 : 0 ≤ p1 ∧ p1 < p2 ∧ p2 < p3 ∧ p3 ≤ n0 ∧ (n0 : Int) ≤ 1152921504606846976) : Tells G (c_K14_f51 n0 p0 p1 p2 p3) (a_K14_f51 n0 p0 p1 p2 p3) := by
  unfold a_K14_f51 s_K14_f51
  have hl0 := lt_K14_b0 n0 p2 ((Int.toNat ((p2 - p1) + (p3 - p2))) + 1) (p2 - p1) (p3 - p2) p0 (by omega) (by omega) (by omega) (by omega) (by omega) hn (by omega)
  have hz0_0 : List.length (l_K14_b0 n0 p2 ((Int.toNat ((p2 - p1) + (p3 - p2))) + 1) (p2 - p1) (p3 - p2) p0).1 = n0 := ll_K14_b0_0 n0 p2 ((Int.toNat ((p2 - p1) + (p3 - p2))) + 1) (p2 - p1) (p3 - p2) p0 hn
  have hy0 : 0 < (l_K14_b0 n0 p2 ((Int.toNat ((p2 - p1) + (p3 - p2))) + 1) (p2 - p1) (p3 - p2) p0).2 ∧ (l_K14_b0 n0 p2 ((Int.toNat ((p2 - p1) + (p3 - p2))) + 1) (p2 - p1) (p3 - p2) p0).2 ≤ p2 ∧ p2 + (l_K14_b0 n0 p2 ((Int.toNat ((p2 - p1) + (p3 - p2))) + 1) (p2 - p1) (p3 - p2) p0).2 ≤ n0 := pl_K14_b0 n0 p2 ((Int.toNat ((p2 - p1) + (p3 - p2))) + 1) (p2 - p1) (p3 - p2) p0 (by omega) (by omega) (by omega) (by omega) (by omega) hn (by omega)
  obtain ⟨R1, eR1⟩ : ∃ R, (l_K14_b0 n0 p2 ((Int.toNat ((p2 - p1) + (p3 - p2))) + 1) (p2 - p1) (p3 - p2) p0) = R := ⟨_, rfl⟩
  rw [eR1] at hz0_0 hy0 hl0 ⊢
  obtain ⟨z0, zo0, hl0⟩ := hl0
  exact tells_VI (fn := Ir.K14) rfl (vk1 (Fld.rowsView p0 6 rfl)) [hP 2 (w_ok (p2 - p1) (by omega)), hP 3 (w_ok (p3 - p2) (by omega)), hS 0 false (Fld.rowsView R1.1 6 rfl), hP 4 (w_ok (p2 - R1.2) (by have g0 := hy0; omega)), hQ (Fld.rowsView (s_K16_f51 n0 R1.1 (p2 - R1.2) p2 R1.2) 6 rfl)] [aV [(0, Fld.rows R1.1)] hl0, aV [(0, Fld.rows (s_K16_f51 n0 R1.1 (p2 - R1.2) p2 R1.2))] (t_K16_f51 n0 R1.1 (p2 - R1.2) p2 R1.2 hz0_0 (by have g0 := hy0; omega))] (by kernel_rfl)
end Go.Proofs.Ytedohmdgbilicaa
end

